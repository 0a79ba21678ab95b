/- ViewsDiff's walk. No condition. -/
import Derived.Test.YtenocakpipppiaaN4
namespace Go.Proofs.Ytenocakpipppiaa
open Go.RowKit Go.Shelf Go.Herb

def RefDiffPost (ds : List Str) (w : World) (e : Ending) (w' : World) : Prop := ∃ v, e = .returned v ∧ OwnS w.heap.size w' v ds ∧ Below w.heap.size w w'

set_option maxRecDepth 100000 in
set_option maxHeartbeats 2000000 in
theorem refDiff_any (a1 a2 : Option Addr) (c1 c2 : Nat) (xs ys : List Fc) (w : World) (h1 : Facts w a1 xs) (h2 : Facts w a2 ys) (hx : xs.length < 1000) (hy : ys.length < 1000) :
    Calls Try.prog 20 #[.slice a1 xs.length c1, .slice a2 ys.length c2] w (RefDiffPost (diffL xs ys) w) := by
  have H1 := Lib.hid h1
  have H2 := Lib.hid h2
  have HX := Lib.hid hx
  have HY := Lib.hid hy
  unfold diffL
  obtain ⟨ks, hks⟩ : ∃ ks, ks = namedL (keysOf xs ++ keysOf ys) := ⟨_, rfl⟩
  rw [← hks]
  have HKS := Lib.hid hks
  obtain ⟨W, hW⟩ : ∃ W : World, W = w.alloc (.cells #[.slice a1 xs.length c1, .slice a2 ys.length c2] 22) := ⟨_, rfl⟩
  have hBW : Below w.heap.size w W := by rw [hW]; exact (Below.refl _ _).alloc (Nat.le_refl _) _
  have hW0 : W.heap[w.heap.size]? = some (.cells #[.slice a1 xs.length c1, .slice a2 ys.length c2] 22 (0, 0)) := by rw [hW]; exact blk_new_at rfl _
  have hE : Els slc 1 W (some ⟨w.heap.size, 0, none⟩) [((a1, c1, xs) : Sl), (a2, c2, ys)] := by
    refine ⟨fun i hi => ⟨w.heap.size, 0, rfl, lt_of_blk hW0, fun j c hj => ?_⟩⟩
    rw [cell_of_blk hW0]
    have hj0 : j = 0 := by
      rcases Nat.eq_zero_or_pos j with h | h
      · exact h
      · rw [List.getElem?_eq_none (by simp; omega)] at hj; cases hj
    subst hj0
    have : i = 0 ∨ i = 1 := by simp at hi; omega
    rcases this with rfl | rfl
    · simpa using hj
    · simpa using hj
  have hcon := refKeys_any (some ⟨w.heap.size, 0, none⟩) 2 [((a1, c1, xs) : Sl), (a2, c2, ys)] W hE (by
    intro l hl
    rcases List.mem_cons.1 hl with rfl | hl
    · exact H1.out.ext hBW
    · rw [List.mem_singleton.1 hl]; exact H2.out.ext hBW) (by simp) (by simp [keysAll, keysOf]; have := HX.out; have := HY.out; omega)
  have hk1 : keysAll [((a1, c1, xs) : Sl), (a2, c2, ys)] = keysOf xs ++ keysOf ys := by simp [keysAll]
  unfold NamedPost at hcon
  rw [hk1, ← HKS.out, hW] at hcon
  have HCON := Lib.hid hcon
  have hsW : W.heap.size = w.heap.size + 1 := by rw [hW]; simp
  have hkl : ks.length < 1000000 := by
    rw [HKS.out]
    have h1 := namedL_len (keysOf xs ++ keysOf ys)
    have h2 : (keysOf xs ++ keysOf ys).length = xs.length + ys.length := by simp [keysOf]
    have := HX.out
    have := HY.out
    omega
  have HKL := Lib.hid hkl
  clear h1 h2 hx hy hks hW0 hE hcon hk1 hkl
  go_enter Try.func20, Try.ntmps20
  go_wp2_with fail
  refine (HCON.out).mono ?_
  rintro e w3 ⟨v3, rfl, hO3, hB3⟩
  rw [← hW] at hO3 hB3
  obtain ⟨ka, kc, rfl, hkc, hK3⟩ := hO3.els
  have HK := Lib.hid hK3
  have hs3 := hB3.size
  have HB3 := Lib.hid (hBW.trans (hB3.mono (by omega)))
  clear hO3 hB3 hK3 hkc HCON hW hBW
  go_wp2_with fail
  go_loopg [5, 7] ks.length (fun gk ov iv wr => ∃ i : Nat, i + gk = ks.length ∧ iv = .int .i64 i ∧ OwnS w3.heap.size wr ov (diffOf xs ys (ks.take i)) ∧ Below w3.heap.size w3 wr)
  case atStart => exact ⟨0, by omega, rfl, World.ownsRow_nil _ _ _ _, Below.refl _ _⟩
  case round =>
    obtain ⟨i, hi, rfl, hown, hBi⟩ := hrel
    have HBI := Lib.hid hBi
    have HOWN := Lib.hid hown
    have hsi := hBi.size
    have hkl := HKL.out
    clear hBi hown
    by_cases hilt : i < ks.length
    · obtain ⟨b, o, rfl, hlb, hcell⟩ := HK.out.get i hilt
      have hsn := diffOf_succ xs ys ks i hilt
      have hi0 : (0 : Int) ≤ (i : Int) := by omega
      have hi1 : (i : Int) < (ks.length : Int) := by omega
      obtain ⟨k, hk⟩ : ∃ k : Str, k = ks[i] := ⟨_, rfl⟩
      rw [← hk] at hsn hcell
      obtain ⟨kb, hkb⟩ : ∃ kb : ByteArray, kb = ⟨k.toArray⟩ := ⟨_, rfl⟩
      have hkt : k = kb.toList := by rw [hkb]; exact (bytes_mk k).symm
      have c0 := (HBI.out.cell (p := ⟨b, _, none⟩) hlb).trans (hcell 0 _ rfl)
      simp only [Nat.add_zero, Nat.mul_one] at c0
      rw [show encStr k = .string kb from by rw [hkb]] at c0
      have hlr : b < wr.heap.size := by omega
      have hsame := same_any a1 a2 c1 c2 xs ys kb wr (H1.out.ext (HB3.out.trans (HBI.out.mono HB3.out.size))) (H2.out.ext (HB3.out.trans (HBI.out.mono HB3.out.size))) HX.out HY.out
      rw [← hkt] at hsame
      have HSN := Lib.hid hsn
      have HKT := Lib.hid hkt
      clear hk hcell hkb hsn hkt
      cases hs : sameK xs ys k with
      | true =>
        rw [hs] at hsame
        have HSA := Lib.hid hsame
        have HS := Lib.hid hs
        clear hsame hs
        go_wp2_with fail
        refine (HSA.out).mono ?_
        rintro e u ⟨rfl, hbu⟩
        have HBU := Lib.hid (HBI.out.trans (hbu.mono hsi))
        have HOU := Lib.hid (OwnS.below HOWN.out hbu)
        clear hbu c0
        go_wp2
        go_roundg (gk - 1)
        case measure => omega
        case rel => exact ⟨i + 1, by omega, by go_num, by rw [HSN.out, HS.out]; simpa using HOU.out, HBU.out⟩
      | false =>
        rw [hs] at hsame
        have HSA := Lib.hid hsame
        have HS := Lib.hid hs
        clear hsame hs
        go_wp2_with fail
        refine (HSA.out).mono ?_
        rintro e u ⟨rfl, hbu⟩
        have HBU := Lib.hid (HBI.out.trans (hbu.mono hsi))
        have HOU := Lib.hid (OwnS.below HOWN.out hbu)
        have k0 := (hbu.cell (p := ⟨b, o + i, none⟩) hlr).trans c0
        have hlu : b < u.heap.size := by have := hbu.size; omega
        obtain ⟨X, hX⟩ : ∃ X : World, X = u.alloc (.cells #[.string kb] 9) := ⟨_, rfl⟩
        have hBX : Below u.heap.size u X := by rw [hX]; exact (Below.refl _ _).alloc (Nat.le_refl _) _
        have hX1 : X.heap[u.heap.size]? = some (.cells #[.string kb] 9 (0, 0)) := by rw [hX]; exact blk_new_at rfl _
        have hsu : w3.heap.size ≤ u.heap.size := HBU.out.size
        have hxl : (diffOf xs ys (ks.take i)).length < 1000000 := by
          have h1 : (diffOf xs ys (ks.take i)).length ≤ (ks.take i).length := List.length_filter_le _ _
          have h2 := List.length_take_le i ks
          omega
        obtain ⟨v', w4, hrun, hO4, hg4⟩ := run_append_str X w3.heap.size u5 _ u.heap.size kb (OwnS.below HOU.out hBX) hX1 hxl (by have := hBX.size; omega) (54)
        have hrow : ∀ k', u5.ownBlock = some k' → w3.heap.size ≤ k' := fun k' hk' => (World.ownsRow.lt HOU.out k' hk').1
        have HB4 := Lib.hid ((HBU.out.trans (hBX.mono hsu)).grown hg4 (Nat.le_trans hsu hBX.size) hrow)
        rw [hX] at hrun
        have HRUN := Lib.hid hrun
        have HO4 := Lib.hid hO4
        clear hX hBX hX1 hrun hO4 hg4 hrow hxl hbu c0
        go_wp2_with (at_builtin; refine Lib.wpList_append_run _ rfl _ _ _ _ rfl _ _ rfl rfl _ _ (HRUN.out) ?_)
        go_roundg (gk - 1)
        case measure => omega
        case rel => exact ⟨i + 1, by omega, by go_num, by rw [HSN.out, HS.out, HKT.out]; simpa using HO4.out, HB4.out⟩
    · obtain rfl : i = ks.length := by omega
      have hown := HOWN.out
      rw [List.take_length] at hown
      have HO := Lib.hid (ownsRow_mono hown HB3.out.size)
      clear hown HOWN
      go_wp2
      go_ret
      exact ⟨_, rfl, HO.out, HB3.out.trans (HBI.out.mono HB3.out.size)⟩

theorem viewsDiff_great1 (a1 a2 : Option Addr) (c1 c2 : Nat) (xs ys : List Fc) (w : World) (h1 : SlIn fc 6 w a1 c1 xs) (hg : 120 < xs.length) :
    Calls Try.prog 8 #[.slice a1 xs.length c1, .slice a2 ys.length c2] w fun e w' => e = .returned (.bool true) ∧ Below w.heap.size w w' := by
  have hd : (decide (120 < xs.length) || decide (40 < 0)) = true := by simp [hg]
  have HM := Lib.hid h1.lenle
  clear h1 hg
  go_enter Try.func8, Try.ntmps8
  go_wp2_with fail
  refine (great17_any _ _ _ _ _ _ _ HM.out (by unfold maxLen; decide)).mono ?_
  rintro e w' ⟨rfl, rfl⟩
  rw [hd]
  go_wp2_with fail
  refine (livesV_any _).mono ?_
  rintro e w' ⟨rfl, hB⟩
  have HB := Lib.hid hB
  clear hB
  go_wp2
  go_ret
  exact ⟨rfl, HB.out⟩
theorem viewsDiff_great2 (a1 a2 : Option Addr) (c1 c2 : Nat) (xs ys : List Fc) (w : World) (h1 : SlIn fc 6 w a1 c1 xs) (h2 : SlIn fc 6 w a2 c2 ys) (hg1 : ¬ 120 < xs.length) (hg : 120 < ys.length) :
    Calls Try.prog 8 #[.slice a1 xs.length c1, .slice a2 ys.length c2] w fun e w' => e = .returned (.bool true) ∧ Below w.heap.size w w' := by
  have hd1 : (decide (120 < xs.length) || decide (40 < 0)) = false := by simp; omega
  have hd : (decide (120 < ys.length) || decide (40 < 0)) = true := by simp [hg]
  have HM := Lib.hid h1.lenle
  have HN := Lib.hid h2.lenle
  clear h1 h2 hg hg1
  go_enter Try.func8, Try.ntmps8
  go_wp2_with fail
  refine (great17_any _ _ _ _ _ _ _ HM.out (by unfold maxLen; decide)).mono ?_
  rintro e w' ⟨rfl, rfl⟩
  rw [hd1]
  clear hd1
  go_wp2_with fail
  refine (great17_any _ _ _ _ _ _ _ HN.out (by unfold maxLen; decide)).mono ?_
  rintro e w' ⟨rfl, rfl⟩
  rw [hd]
  go_wp2_with fail
  refine (livesV_any _).mono ?_
  rintro e w' ⟨rfl, hB⟩
  have HB := Lib.hid hB
  clear hB
  go_wp2
  go_ret
  exact ⟨rfl, HB.out⟩

set_option maxRecDepth 100000 in
set_option maxHeartbeats 2000000 in
theorem viewsDiff_small (a1 a2 : Option Addr) (c1 c2 : Nat) (xs ys : List Fc) (w : World) (h1 : SlIn fc 6 w a1 c1 xs) (h2 : SlIn fc 6 w a2 c2 ys) (hg1 : ¬ 120 < xs.length) (hg : ¬ 120 < ys.length) :
    Calls Try.prog 8 #[.slice a1 xs.length c1, .slice a2 ys.length c2] w fun e w' => e = .returned (.bool true) ∧ Below w.heap.size w w' := by
  have hd1 : (decide (120 < xs.length) || decide (40 < 0)) = false := by simp; omega
  have hd : (decide (120 < ys.length) || decide (40 < 0)) = false := by simp; omega
  have HM := Lib.hid h1.lenle
  have HN := Lib.hid h2.lenle
  have H1 := Lib.hid h1.els
  have H2 := Lib.hid h2.els
  have HX := Lib.hid (show xs.length < 1000 by omega)
  have HY := Lib.hid (show ys.length < 1000 by omega)
  clear h1 h2 hg hg1
  have hcon1 := fun W h1 h2 => diff_any a1 a2 c1 c2 xs ys W h1 h2 HX.out HY.out
  have hcon2 := fun W h1 h2 => refDiff_any a1 a2 c1 c2 xs ys W h1 h2 HX.out HY.out
  have hdl : (diffL xs ys).length < 1000000 := by
    have h1 : (diffL xs ys).length ≤ (namedL (keysOf xs ++ keysOf ys)).length := List.length_filter_le _ _
    have h2 := namedL_len (keysOf xs ++ keysOf ys)
    have h3 : (keysOf xs ++ keysOf ys).length = xs.length + ys.length := by simp [keysOf]
    have := HX.out
    have := HY.out
    omega
  generalize diffL xs ys = ds at *
  have HC1 := Lib.hid hcon1
  have HC2 := Lib.hid hcon2
  have HDL := Lib.hid hdl
  clear hcon1 hcon2 hdl
  go_enter Try.func8, Try.ntmps8
  go_wp2_with fail
  refine (great17_any _ _ _ _ _ _ _ HM.out (by unfold maxLen; decide)).mono ?_
  rintro e w' ⟨rfl, rfl⟩
  rw [hd1]
  clear hd1
  go_wp2_with fail
  refine (great17_any _ _ _ _ _ _ _ HN.out (by unfold maxLen; decide)).mono ?_
  rintro e w' ⟨rfl, rfl⟩
  rw [hd]
  clear hd
  go_wp2_with fail
  refine (HC1.out w H1.out H2.out).mono ?_
  rintro e w1 ⟨ad, rfl, hD, -, hB1⟩
  have HB1 := Lib.hid hB1
  have HD := Lib.hid hD
  clear hD hB1 HC1
  go_wp2_with fail
  refine (HC2.out w1 (H1.out.ext HB1.out) (H2.out.ext HB1.out)).mono ?_
  rintro e w2 ⟨v2, rfl, hO2, hB2⟩
  obtain ⟨ka, kc, rfl, -, hK⟩ := hO2.els
  have HB2 := Lib.hid (HB1.out.trans (hB2.mono HB1.out.size))
  have HD2 := Lib.hid (HD.out.ext hB2)
  have HK := Lib.hid hK
  clear hB2 HC2 HB1 HD hO2 hK
  go_wp2_with fail
  refine (sameTexts_any ad ka _ _ ds w2 HD2.out HK.out HDL.out).mono ?_
  rintro e w4 ⟨rfl, n, rfl⟩
  have HB4 := Lib.hid (below_drewN HB2.out n)
  clear HB2 HD2 HK
  go_wp2_with fail
  refine (livesV_any _).mono ?_
  rintro e w5 ⟨rfl, hB5⟩
  have HB5 := Lib.hid (HB4.out.trans (hB5.mono HB4.out.size))
  clear hB5
  go_wp2
  go_ret
  exact ⟨rfl, HB5.out⟩

theorem viewsDiff_any (a1 : Option Addr) (c1 : Nat) (xs : List Fc) (a2 : Option Addr) (c2 : Nat) (ys : List Fc) (w : World) (h1 : SlIn fc 6 w a1 c1 xs) (h2 : SlIn fc 6 w a2 c2 ys) :
    Calls Try.prog 8 #[.slice a1 xs.length c1, .slice a2 ys.length c2] w fun e w' => e = .returned (.bool true) ∧ Below w.heap.size w w' := by
  by_cases hg1 : 120 < xs.length
  · exact viewsDiff_great1 a1 a2 c1 c2 xs ys w h1 hg1
  · by_cases hg2 : 120 < ys.length
    · exact viewsDiff_great2 a1 a2 c1 c2 xs ys w h1 h2 hg1 hg2
    · exact viewsDiff_small a1 a2 c1 c2 xs ys w h1 h2 hg1 hg2
end Go.Proofs.Ytenocakpipppiaa
