/- lines.parts.formed: its walk. Condition: the list's cells lie. -/
import Derived.Test.YtacibennmcegfaaDoorLN4
namespace Go.Proofs.YtacibennmcegfaaDoor
open Go.RowKit Go.Herb

set_option maxRecDepth 100000 in
set_option maxHeartbeats 2000000 in
theorem formed_any (ba : Option Addr) (bn bc : Nat) (la : Option Addr) (lc n : Nat) (xs : List Ln) (w : World) (hE : Lns w la xs) (hn : xs.length = n) (hle : n ≤ lc) (hmx : lc ≤ maxLen) :
    Calls Tryd.prog (23) #[partsV ba bn bc la n lc] w (FormedPost xs w) := by
  obtain ⟨W, hW⟩ : ∃ W : World, W = w.alloc (.cells #[.slice ba bn bc, .slice la n lc] (59)) := ⟨_, rfl⟩
  have hB : Below w.heap.size w W := by rw [hW]; exact (Below.refl _ _).alloc (Nat.le_refl _) _
  have hx0 : W.heap[w.heap.size]? = some (.cells #[.slice ba bn bc, .slice la n lc] (59) (0, 0)) := by rw [hW]; exact blk_new_at rfl _
  have HB := Lib.hid hB
  have HE := Lib.hid hE
  have HN := Lib.hid hn
  have HC : Hid (∀ u, Below W.heap.size W u → u.cell? ⟨w.heap.size, 1, none⟩ = some (.slice la n lc)) := Lib.hid (fun u hu => by
    have h1 := cell_of_blk (blk_below hx0 hu (lt_of_blk hx0)) 1
    simp at h1
    exact h1)
  unfold maxLen at hmx
  have HW := Lib.hid hW
  have hneq := run_neqLn
  have hgt := guardLn
  clear hB hx0 hE hn
  have hout : ¬ (FormedL xs ∧ xs.length ≤ 48) → Hid (∀ u, Below w.heap.size w u → FormedPost xs w (.returned (.bool false)) u) := fun h => Lib.hid (fun u hu => ⟨false, rfl, ⟨(fun h => by cases h), fun h2 => absurd h2 h⟩, hu⟩)
  have HOUT := Lib.hid hout
  clear hout
  go_enter Tryd.func23, Tryd.ntmps23
  by_cases h1 : n < 1
  · have HF := HOUT.out (fun h => by
      have h2 := h.1.first
      obtain ⟨h3, _⟩ := List.getElem?_eq_some_iff.1 h2
      have := HN.out
      omega)
    have h1' : (n : Int) < 1 := by omega
    clear hneq hgt
    go_wp2_with fail
    go_ret
    rw [← HW.out]
    exact HF.out _ HB.out
  · by_cases h2 : 48 < n
    · have HF := HOUT.out (fun h => by have := HN.out; omega)
      have h1' : ¬ (n : Int) < 1 := by omega
      have h2' : (48 : Int) < (n : Int) := by omega
      clear hneq hgt
      go_wp2_with fail
      go_ret
      rw [← HW.out]
      exact HF.out _ HB.out
    · have hn0 : 0 < xs.length := by have := HN.out; omega
      have h1' : ¬ (n : Int) < 1 := by omega
      have h2' : ¬ (48 : Int) < (n : Int) := by omega
      have hidx : (0 : Int) < (n : Int) := by omega
      obtain ⟨b, o, rfl, hlb, hcell⟩ := HE.out.get 0 hn0
      have x0 := (HB.out.cell (p := ⟨b, _, none⟩) hlb).trans (hcell 0 _ rfl)
      have x1 := (HB.out.cell (p := ⟨b, _, none⟩) hlb).trans (hcell 1 _ rfl)
      simp only [Nat.zero_mul, Nat.add_zero] at x0 x1
      have HX := Lib.hid (List.getElem?_eq_getElem hn0)
      generalize xs[0] = x at x0 x1 HX
      rw [HW.out] at x0 x1
      obtain ⟨a2, hsl, ha2⟩ := slice_hiL (b := b) (o := o) hle (by omega : 1 ≤ n)
      clear hcell
      by_cases hf : x.1 = 0 ∧ x.2 = 0
      · have hfd : decide (x.1 = 0 ∧ x.2 = 0) = true := decide_eq_true hf
        have hf1 : decide (x.1 = 0) = true := decide_eq_true hf.1
        have hf2 : decide (x.2 = 0) = true := decide_eq_true hf.2
        have HX0 := Lib.hid (show xs[0]? = some (0, 0) by rw [HX.out]; exact congrArg some (Prod.ext hf.1 hf.2))
        have HP0 := Lib.hid (show FormedL (xs.take 1) by
          have ht : xs.take 1 = [(0, 0)] := by
            cases hxs : xs with
            | nil => rw [hxs] at hn0; simp at hn0
            | cons z t =>
              have := HX0.out
              rw [hxs] at this
              simp at this
              simp [this]
          rw [ht]
          exact ⟨rfl, List.pairwise_singleton _ _, fun i y hi hy => by
            rw [List.getElem?_eq_none (by simp; omega)] at hy; cases hy⟩)
        clear hf
        go_wp2_with fail
        rw [← HW.out]
        clear x0 x1 hneq hgt hfd hf1 hf2
        obtain ⟨m, hm⟩ : ∃ m, m = n - 1 := ⟨_, rfl⟩
        rw [← hm] at hsl ⊢
        have hlc : m + 1 = n := by omega
        clear hm hidx
        go_loopg [28] m (fun gk iv wr => ∃ i : Nat, i + gk = m ∧ iv = .int .i64 i ∧ Hid (FormedL (xs.take (i + 1))) ∧ Hid (Below W.heap.size W wr))
        case atStart => exact ⟨0, by omega, rfl, HP0, Lib.hid (Below.refl _ _)⟩
        case round =>
          obtain ⟨i, hi, rfl, HFI, HBW⟩ := hrel
          have HBw := Lib.hid (HB.out.trans (HBW.out.mono HB.out.size))
          by_cases hlt : i < m
          · have hil : i < xs.length := by have := HN.out; omega
            have hil2 : i + 1 < xs.length := by have := HN.out; omega
            have ha2' := ha2 (by omega)
            obtain ⟨b', o', he', _, hcy⟩ := HE.out.get i hil
            injection he' with he'
            cases he'
            obtain ⟨b', o', he', _, hcx⟩ := HE.out.get (i + 1) hil2
            injection he' with he'
            cases he'
            have HY := Lib.hid (List.getElem?_eq_getElem hil)
            have HX2 := Lib.hid (List.getElem?_eq_getElem hil2)
            generalize xs[i] = y at HY hcy
            generalize xs[i + 1] = z at HX2 hcx
            have HCE : Hid (∀ u, Below wr.heap.size wr u → u.cell? ⟨b, o + i * 2, none⟩ = some (.int .u64 y.1) ∧ u.cell? ⟨b, o + 2 + i * 2, none⟩ = some (.int .u64 z.1) ∧ u.cell? ⟨b, o + 2 + i * 2 + 1, none⟩ = some (.int .u64 z.2) ∧ u.cell? ⟨w.heap.size, 1, none⟩ = some (.slice (some ⟨b, o, none⟩) n lc)) := Lib.hid (fun u hu => by
              have hu2 := HBw.out.trans (hu.mono HBw.out.size)
              have f0 := (hu2.cell (p := ⟨b, _, none⟩) hlb).trans (hcy 0 _ rfl)
              have f1 := (hu2.cell (p := ⟨b, _, none⟩) hlb).trans (hcx 0 _ rfl)
              have f2 := (hu2.cell (p := ⟨b, _, none⟩) hlb).trans (hcx 1 _ rfl)
              rw [show o + (i + 1) * 2 = o + 2 + i * 2 by omega] at f1 f2
              exact ⟨f0, f1, f2, HC.out u (HBW.out.trans (hu.mono HBW.out.size))⟩)
            obtain ⟨g0, g1, g2, g3⟩ := HCE.out wr (Below.refl _ _)
            obtain ⟨-, -, -, g4⟩ := HCE.out (wr.alloc (.cells #[.int .u64 z.1, .int .u64 z.2] (36))) ((Below.refl _ _).alloc (Nat.le_refl _) _)
            have hi0 : (0 : Int) ≤ (i : Int) := by omega
            have hi1 : (i : Int) < ((n - 1 : Nat) : Int) := by omega
            have hi2 : (i : Int) < (n : Int) := by omega
            have hi3 : (i : Int) < (m : Int) := by omega
            have hw1 : IntKind.i64.wrap ((i : Int) + 1) = (i : Int) + 1 := IntWalk.i64_in _ (by omega)
            have hlo := slice_loL (b := b) (o := o) (n := n) (lc := lc) (k := i + 1) (z := (i : Int) + 1) (by omega) (by omega) (by omega)
            obtain ⟨X, hX⟩ : ∃ X : World, X = (wr.alloc (.cells #[.int .u64 z.1, .int .u64 z.2] (36))).alloc (.cells #[.slice none 0 0, .slice (some ⟨b, o, none⟩) (i + 1) lc] (59)) := ⟨_, rfl⟩
            have hXb : Below wr.heap.size wr X := by rw [hX]; exact ((Below.refl _ _).alloc (Nat.le_refl _) _).alloc (by simp) _
            have hXl : X.heap[wr.heap.size]? = some (.cells #[.int .u64 z.1, .int .u64 z.2] (36) (0, 0)) := by
              rw [hX]
              exact blk_below (blk_new_at rfl _) ((Below.refl _ _).alloc (Nat.le_refl _) _) (by simp)
            have hXp : X.heap[wr.heap.size + 1]? = some (.cells #[.slice none 0 0, .slice (some ⟨b, o, none⟩) (i + 1) lc] (59) (0, 0)) := by rw [hX]; exact blk_new_at (by simp) _
            have HXB := Lib.hid hXb
            have HS : Hid (∀ u, Below X.heap.size X u → u.cell? ⟨b, o + i * 2, none⟩ = some (.int .u64 y.1) ∧ u.cell? ⟨w.heap.size, 1, none⟩ = some (.slice (some ⟨b, o, none⟩) n lc) ∧ u.cell? ⟨wr.heap.size, 0, none⟩ = some (.int .u64 z.1) ∧ u.cell? ⟨wr.heap.size, 1, none⟩ = some (.int .u64 z.2) ∧ u.cell? ⟨wr.heap.size + 1, 0, none⟩ = some (.slice none 0 0) ∧ u.cell? ⟨wr.heap.size + 1, 1, none⟩ = some (.slice (some ⟨b, o, none⟩) (i + 1) lc)) := Lib.hid (fun u hu => by
              have k1 := cell_of_blk (blk_below hXl hu (lt_of_blk hXl)) 0
              have k2 := cell_of_blk (blk_below hXl hu (lt_of_blk hXl)) 1
              have k3 := cell_of_blk (blk_below hXp hu (lt_of_blk hXp)) 0
              have k4 := cell_of_blk (blk_below hXp hu (lt_of_blk hXp)) 1
              simp at k1 k2 k3 k4
              obtain ⟨e0, -, -, e3⟩ := HCE.out u (hXb.trans (hu.mono hXb.size))
              exact ⟨e0, e3, k1, k2, k3, k4⟩)
            have hEX : Lns X (some ⟨b, o, none⟩) (xs.take (i + 1)) := (HE.out.take (i + 1)).ext (HBw.out.trans (hXb.mono HBw.out.size))
            have HLA : Hid (∀ u, Below X.heap.size X u → Calls Tryd.prog (41) #[partsV none 0 0 (some ⟨b, o, none⟩) (i + 1) lc, .int .u64 z.2] u (LinePost (xs.take (i + 1)) z.2 u)) := Lib.hid (fun u hu => line_any none 0 0 (some ⟨b, o, none⟩) lc (i + 1) (xs.take (i + 1)) z.2 u (hEX.ext hu) (by simp; omega) (by omega) HFI.out.srt)
            subst ha2'
            clear hcy hcx hXb hXl hXp hEX hil hil2
            go_wp2_with fail
            rw [← hX]
            clear hX g0 g1 g2 g3 g4
            have HDA := Lib.hid (show Below X.heap.size X X.drew from (Below.refl X.heap.size X).drew)
            have HWX := Lib.hid (show Below w.heap.size w X from HBw.out.trans (HXB.out.mono HBw.out.size))
            have HWX2 := Lib.hid (show Below W.heap.size W X from HBW.out.trans (HXB.out.mono HBW.out.size))
            by_cases hyz : y.1 < z.1
            · have d1 : decide (z.1 ≤ y.1) = false := decide_eq_false (by omega)
              cases hp : parL (xs.take (i + 1)) z.2 with
              | none =>
                have HLN := Lib.hid (show ∀ u, Below X.heap.size X u → Calls Tryd.prog (41) #[partsV none 0 0 (some ⟨b, o, none⟩) (i + 1) lc, .int .u64 z.2] u (fun e w' => e = .returned (.int .i64 (-1)) ∧ Below u.heap.size u w') from fun u hu => by
                  refine (HLA.out u hu).mono ?_
                  rintro e w' ⟨r, rfl, ⟨j, q, -, -, h3⟩ | ⟨rfl, -⟩, h2⟩
                  · rw [hp] at h3; cases h3
                  · exact ⟨rfl, h2⟩)
                have HF := HOUT.out (fun h => by
                  obtain ⟨-, q, hq⟩ := formed_not h.1 HY.out HX2.out
                  rw [hp] at hq; cases hq)
                clear hyz hp HLA
                go_wp2_with fail
                go_region_held3 (fun u => u.cell? ⟨b, o + i * 2, none⟩ = some (.int .u64 y.1) ∧ u.cell? ⟨w.heap.size, 1, none⟩ = some (.slice (some ⟨b, o, none⟩) n lc) ∧ u.cell? ⟨wr.heap.size, 0, none⟩ = some (.int .u64 z.1) ∧ u.cell? ⟨wr.heap.size, 1, none⟩ = some (.int .u64 z.2) ∧ u.cell? ⟨wr.heap.size + 1, 0, none⟩ = some (.slice none 0 0) ∧ u.cell? ⟨wr.heap.size + 1, 1, none⟩ = some (.slice (some ⟨b, o, none⟩) (i + 1) lc)) (first | exact HS.out _ HDA.out | exact HS.out _ hbu) (first | (go_at_call 41; (with_reducible refine (HLN.out _ HDA.out).mono ?_); rintro e w5 ⟨rfl, hb5⟩; have hbu := HDA.out.trans (hb5.mono HDA.out.size)))
                all_goals
                  have HBU := Lib.hid (HWX.out.trans (hbu.mono HWX.out.size))
                  go_wp2
                  go_ret
                  exact HF.out _ HBU.out
              | some q =>
                have HLN := Lib.hid (show ∀ u, Below X.heap.size X u → Calls Tryd.prog (41) #[partsV none 0 0 (some ⟨b, o, none⟩) (i + 1) lc, .int .u64 z.2] u (fun e w' => ∃ j : Nat, e = .returned (.int .i64 (j : Int)) ∧ Below u.heap.size u w') from fun u hu => by
                  refine (HLA.out u hu).mono ?_
                  rintro e w' ⟨r, rfl, ⟨j, q, rfl, -, h3⟩ | ⟨-, h3⟩, h2⟩
                  · exact ⟨j, rfl, h2⟩
                  · rw [hp] at h3; cases h3)
                have HFN := Lib.hid (formed_next HFI.out HY.out HX2.out hyz hp)
                clear hyz hp HLA
                go_wp2_with fail
                go_region_held3 (fun u => u.cell? ⟨b, o + i * 2, none⟩ = some (.int .u64 y.1) ∧ u.cell? ⟨w.heap.size, 1, none⟩ = some (.slice (some ⟨b, o, none⟩) n lc) ∧ u.cell? ⟨wr.heap.size, 0, none⟩ = some (.int .u64 z.1) ∧ u.cell? ⟨wr.heap.size, 1, none⟩ = some (.int .u64 z.2) ∧ u.cell? ⟨wr.heap.size + 1, 0, none⟩ = some (.slice none 0 0) ∧ u.cell? ⟨wr.heap.size + 1, 1, none⟩ = some (.slice (some ⟨b, o, none⟩) (i + 1) lc)) (first | exact HS.out _ HDA.out | exact HS.out _ hbu) (first | (go_at_call 41; (with_reducible refine (HLN.out _ HDA.out).mono ?_); rintro e w5 ⟨j, rfl, hb5⟩; have hbu := HDA.out.trans (hb5.mono HDA.out.size)))
                all_goals
                  have HBU := Lib.hid (HWX2.out.trans (hbu.mono HWX2.out.size))
                  have hj0 : ¬ (j : Int) < 0 := by omega
                  go_wp2
                  go_roundg (gk - 1)
                  case measure => omega
                  case rel => exact ⟨i + 1, by omega, by go_num, HFN, HBU⟩
            · have d1 : decide (z.1 ≤ y.1) = true := decide_eq_true (by omega)
              have HF := HOUT.out (fun h => hyz (formed_not h.1 HY.out HX2.out).1)
              obtain ⟨k0, k1, k2, k3, k4, k5⟩ := HS.out X (Below.refl _ _)
              clear hyz HLA
              go_wp2_with fail
              go_quiet (fail)
              have HBU := Lib.hid (show Below w.heap.size w (X.drewN nq) from ⟨HWX.out.os, HWX.out.tape, HWX.out.output, HWX.out.size, HWX.out.block⟩)
              go_wp2
              go_ret
              exact HF.out _ HBU.out
          · have hie : xs.take (i + 1) = xs := List.take_of_length_le (by have := HN.out; omega)
            have HT := Lib.hid (show FormedPost xs w (.returned (.bool true)) wr from ⟨true, rfl, ⟨fun _ => ⟨by have := HFI.out; rwa [hie] at this, by have := HN.out; omega⟩, fun _ => rfl⟩, HBw.out⟩)
            clear hie
            go_wp2_with fail
            go_ret
            exact HT.out
      · have HF := HOUT.out (fun h => by
          have h2 := h.1.first
          rw [HX.out] at h2
          injection h2 with h2
          exact hf (by rw [h2]; exact ⟨rfl, rfl⟩))
        have hfd : decide (x.1 = 0 ∧ x.2 = 0) = false := decide_eq_false hf
        clear hf
        go_wp2_with fail
        go_ret
        rw [← HW.out]
        exact HF.out _ HB.out
end Go.Proofs.YtacibennmcegfaaDoor
