/- ViewsSame's walk. No condition. -/
import Derived.Test.YtenocakpipppiaaM5
namespace Go.Proofs.Ytenocakpipppiaa
open Go.RowKit Go.Shelf Go.Herb

set_option maxHeartbeats 400000 in
theorem sameTexts_any (a1 a2 : Option Addr) (c1 c2 : Nat) (ts : List Str) (w : World) (h1 : Strs w a1 ts) (h2 : Strs w a2 ts) (hlen : ts.length < 1000000) :
    Calls Try.prog 18 #[.slice a1 ts.length c1, .slice a2 ts.length c2] w fun e w' => e = .returned (.bool true) ∧ ∃ n, w' = w.drewN n := by
  have HX := Lib.hid h1
  have HY := Lib.hid h2
  clear h1 h2
  go_enter Try.func18, Try.ntmps18
  go_wp2
  go_loopg [5] ts.length (fun gk i wr => ∃ k : Nat, k + gk = ts.length ∧ i = .int .i64 k ∧ ∃ n, wr = w.drewN n)
  case atStart => exact ⟨0, by omega, rfl, 0, rfl⟩
  case round =>
    obtain ⟨k, hk, rfl, n, rfl⟩ := hrel
    by_cases hlt : k < ts.length
    · obtain ⟨b1, o1, rfl, h1, hc1⟩ := HX.out.get k hlt
      obtain ⟨b2, o2, rfl, h2, hc2⟩ := HY.out.get k hlt
      have f0 := hc1 0 _ rfl
      have g0 := hc2 0 _ rfl
      simp only [Nat.add_zero, Nat.mul_one] at f0 g0
      have hi0 : (0 : Int) ≤ (k : Int) := by omega
      have hi1 : (k : Int) < (ts.length : Int) := by omega
      obtain ⟨x, hx⟩ : ∃ x : ByteArray, x = ⟨ts[k].toArray⟩ := ⟨_, rfl⟩
      rw [show encStr ts[k] = .string x from by rw [hx]] at f0 g0
      clear hc1 hc2 HX HY hx
      obtain ⟨W, hW⟩ : ∃ W : World, W = w.drewN n := ⟨_, rfl⟩
      have hcell : ∀ a v, w.cell? a = some v → W.cell? a = some v := fun a v h => by rw [hW]; exact h
      have f0 := hcell _ _ f0
      have g0 := hcell _ _ g0
      rw [← hW]
      have HW := Lib.hid hW
      clear hW hcell
      go_wp2
      go_quiet (fail)
      go_wp2
      go_roundg (gk - 1)
      case measure => omega
      case rel => exact ⟨k + 1, by omega, by go_num, by rw [HW.out]; exact ⟨_, drewN_drewN' _ _ _⟩⟩
    · go_wp2
      go_ret
      exact ⟨rfl, n, rfl⟩

theorem viewsSame_great1 (a1 a2 : Option Addr) (c1 c2 : Nat) (xs ys : List Fc) (valid : Int) (w : World) (h1 : SlIn fc 6 w a1 c1 xs) (hg : 120 < xs.length) :
    Calls Try.prog 9 #[.slice a1 xs.length c1, .slice a2 ys.length c2, .int .u32 valid] w fun e w' => e = .returned (.bool true) ∧ Below w.heap.size w w' := by
  have hd : (decide (120 < xs.length) || decide (40 < 0)) = true := by simp [hg]
  have HM := Lib.hid h1.lenle
  clear h1 hg
  go_enter Try.func9, Try.ntmps9
  go_wp2_with fail
  refine (great17_any _ _ _ _ _ _ _ HM.out (by unfold maxLen; decide)).mono ?_
  rintro e w' ⟨rfl, rfl⟩
  rw [hd]
  go_wp2_with fail
  refine (livesV_any _).mono ?_
  rintro e w' ⟨rfl, hB⟩
  have HB := Lib.hid hB
  clear hB
  go_wp2
  go_ret
  exact ⟨rfl, HB.out⟩
theorem viewsSame_great2 (a1 a2 : Option Addr) (c1 c2 : Nat) (xs ys : List Fc) (valid : Int) (w : World) (h1 : SlIn fc 6 w a1 c1 xs) (h2 : SlIn fc 6 w a2 c2 ys) (hg1 : ¬ 120 < xs.length) (hg : 120 < ys.length) :
    Calls Try.prog 9 #[.slice a1 xs.length c1, .slice a2 ys.length c2, .int .u32 valid] w fun e w' => e = .returned (.bool true) ∧ Below w.heap.size w w' := by
  have hd1 : (decide (120 < xs.length) || decide (40 < 0)) = false := by simp; omega
  have hd : (decide (120 < ys.length) || decide (40 < 0)) = true := by simp [hg]
  have HM := Lib.hid h1.lenle
  have HN := Lib.hid h2.lenle
  clear h1 h2 hg hg1
  go_enter Try.func9, Try.ntmps9
  go_wp2_with fail
  refine (great17_any _ _ _ _ _ _ _ HM.out (by unfold maxLen; decide)).mono ?_
  rintro e w' ⟨rfl, rfl⟩
  rw [hd1]
  clear hd1
  go_wp2_with fail
  refine (great17_any _ _ _ _ _ _ _ HN.out (by unfold maxLen; decide)).mono ?_
  rintro e w' ⟨rfl, rfl⟩
  rw [hd]
  go_wp2_with fail
  refine (livesV_any _).mono ?_
  rintro e w' ⟨rfl, hB⟩
  have HB := Lib.hid hB
  clear hB
  go_wp2
  go_ret
  exact ⟨rfl, HB.out⟩

set_option maxRecDepth 100000 in
set_option maxHeartbeats 4000000 in
theorem viewsSame_small (a1 a2 : Option Addr) (c1 c2 : Nat) (xs ys : List Fc) (valid : Int) (w : World) (h1 : SlIn fc 6 w a1 c1 xs) (h2 : SlIn fc 6 w a2 c2 ys) (hg1 : ¬ 120 < xs.length) (hg : ¬ 120 < ys.length) :
    Calls Try.prog 9 #[.slice a1 xs.length c1, .slice a2 ys.length c2, .int .u32 valid] w fun e w' => e = .returned (.bool true) ∧ Below w.heap.size w w' := by
  have hd1 : (decide (120 < xs.length) || decide (40 < 0)) = false := by simp; omega
  have hd : (decide (120 < ys.length) || decide (40 < 0)) = false := by simp; omega
  have HM := Lib.hid h1.lenle
  have HN := Lib.hid h2.lenle
  have H1 := Lib.hid h1.els
  have H2 := Lib.hid h2.els
  have HX := Lib.hid (show xs.length < 1000 by omega)
  have HY := Lib.hid (show ys.length < 1000 by omega)
  clear h1 h2 hg hg1
  have hmem : ∀ k : ByteArray, k.toList ∈ keysOf xs ++ keysOf ys → k.toList ∉ diffL xs ys → valueL k valid xs = valueL k valid ys := fun k h1 h2 => value_same_key h2 h1 valid
  have hcon1 := fun W h1 h2 => diff_any a1 a2 c1 c2 xs ys W h1 h2 HX.out HY.out
  have hcon2 := fun W h1 => diff_any a1 a1 c1 c1 xs xs W h1 h1 HX.out HX.out
  have hcon3 := fun W h1 h2 => diff_any a2 a1 c2 c1 ys xs W h1 h2 HY.out HX.out
  rw [diffL_self] at hcon2
  rw [diffL_comm] at hcon3
  have hdl : (diffL xs ys).length < 1000000 := by
    have h1 : (diffL xs ys).length ≤ (namedL (keysOf xs ++ keysOf ys)).length := List.length_filter_le _ _
    have h2 := namedL_len (keysOf xs ++ keysOf ys)
    have h3 : (keysOf xs ++ keysOf ys).length = xs.length + ys.length := by simp [keysOf]
    have := HX.out
    have := HY.out
    omega
  generalize diffL xs ys = ds at *
  have HMEM := Lib.hid hmem
  have HC1 := Lib.hid hcon1
  have HC2 := Lib.hid hcon2
  have HC3 := Lib.hid hcon3
  have HDL := Lib.hid hdl
  clear hmem hcon1 hcon2 hcon3 hdl
  go_enter Try.func9, Try.ntmps9
  go_wp2_with fail
  refine (great17_any _ _ _ _ _ _ _ HM.out (by unfold maxLen; decide)).mono ?_
  rintro e w' ⟨rfl, rfl⟩
  rw [hd1]
  clear hd1
  go_wp2_with fail
  refine (great17_any _ _ _ _ _ _ _ HN.out (by unfold maxLen; decide)).mono ?_
  rintro e w' ⟨rfl, rfl⟩
  rw [hd]
  clear hd
  go_wp2_with fail
  refine (HC1.out w H1.out H2.out).mono ?_
  rintro e w1 ⟨ad, rfl, hD, -, hB1⟩
  have HB1 := Lib.hid hB1
  have HD := Lib.hid hD
  clear hD hB1 HC1
  go_wp2_with fail
  refine (HC2.out w1 (H1.out.ext HB1.out)).mono ?_
  rintro e w2 ⟨ad2, rfl, -, -, hB2⟩
  have HB2 := Lib.hid (HB1.out.trans (hB2.mono HB1.out.size))
  have HD2 := Lib.hid (HD.out.ext hB2)
  clear hB2 HC2 HB1 HD
  go_wp2_with fail
  refine (HC3.out w2 (H2.out.ext HB2.out) (H1.out.ext HB2.out)).mono ?_
  rintro e w3 ⟨ad3, rfl, hD3, -, hB3⟩
  have HB3 := Lib.hid (HB2.out.trans (hB3.mono HB2.out.size))
  have HD3 := Lib.hid hD3
  have HD2' := Lib.hid (HD2.out.ext hB3)
  clear hB3 HC3 HB2 HD2 hD3
  go_wp2_with fail
  refine (sameTexts_any ad3 ad _ _ ds w3 HD3.out HD2'.out HDL.out).mono ?_
  rintro e w4 ⟨rfl, n, rfl⟩
  have HB4 := Lib.hid (below_drewN HB3.out n)
  have HDS : Hid (Strs (w3.drewN n) ad ds) := Lib.hid (HD2'.out.ext (below_drewN (Below.refl _ _) n))
  obtain ⟨W, hW⟩ : ∃ W : World, W = w3.drewN n := ⟨_, rfl⟩
  rw [← hW]
  rw [← hW] at HB4 HDS
  have H1W := Lib.hid (H1.out.ext HB4.out)
  have H2W := Lib.hid (H2.out.ext HB4.out)
  clear HB3 HD3 HD2' hW H1 H2
  have hxb := HX.out
  have hyb := HY.out
  go_wp2_with fail
  go_loopg [8] (xs.length + ys.length) (fun gk iv wr => ∃ i : Nat, i + gk = xs.length + ys.length ∧ iv = .int .i64 i ∧ Below W.heap.size W wr)
  case atStart => exact ⟨0, by omega, rfl, Below.refl _ _⟩
  case round =>
    obtain ⟨i, hi, rfl, hBi⟩ := hrel
    have HBI := Lib.hid hBi
    have hsi := hBi.size
    clear hBi
    by_cases hilt : i < xs.length + ys.length
    · by_cases hix : i < xs.length
      · obtain ⟨b, o, rfl, hlb, hcell⟩ := H1W.out.get i hix
        have hin : xs[i].key.toList ∈ keysOf xs ++ keysOf ys := List.mem_append.2 (.inl (mem_keysOf.2 ⟨xs[i], List.getElem_mem hix, rfl⟩))
        have hi0 : (0 : Int) ≤ (i : Int) := by omega
        have hi1 : (i : Int) < (xs.length : Int) := by omega
        have c0 := (HBI.out.cell (p := ⟨b, _, none⟩) hlb).trans (hcell 0 _ rfl)
        simp only [Nat.add_zero] at c0
        obtain ⟨kb, hkb⟩ : ∃ kb, kb = xs[i].key := ⟨_, rfl⟩
        rw [← hkb] at c0 hin
        have HIN := Lib.hid hin
        clear hcell hkb hin
        go_wp2_with fail
        obtain ⟨wo, rfl⟩ : ∃ wo : World, wo = wr := ⟨_, rfl⟩
        obtain ⟨g2, rfl⟩ : ∃ g : Nat, g = gk := ⟨_, rfl⟩
        clear c0
        go_loopg [10, 11] ds.length (fun gk ov mv wr => ∃ m : Nat, m + gk = ds.length ∧ mv = .int .i64 m ∧ ov = .bool ((ds.take m).any (fun d => d == kb.toList)) ∧ Below W.heap.size W wr)
        case atStart => exact ⟨0, by omega, rfl, rfl, HBI.out⟩
        case round =>
          clear HBI hsi
          obtain ⟨m, hm, rfl, rfl, hBm⟩ := hrel
          have HBM := Lib.hid hBm
          have hsm := hBm.size
          have hdl := HDL.out
          clear hBm
          by_cases hmlt : m < ds.length
          · obtain ⟨b2, o2, rfl, hlb2, hcell2⟩ := HDS.out.get m hmlt
            have hm0 : (0 : Int) ≤ (m : Int) := by omega
            have hm1 : (m : Int) < (ds.length : Int) := by omega
            have hany : (ds.take (m + 1)).any (fun d => d == kb.toList) = ((ds.take m).any (fun d => d == kb.toList) || (ds[m] == kb.toList)) := by
              rw [List.take_succ_eq_append_getElem hmlt, List.any_append]
              simp
            have f0 := (HBM.out.cell (p := ⟨b2, _, none⟩) hlb2).trans (hcell2 0 _ rfl)
            simp only [Nat.add_zero, Nat.mul_one] at f0
            obtain ⟨x, hx⟩ : ∃ x : ByteArray, x = ⟨ds[m].toArray⟩ := ⟨_, rfl⟩
            rw [show encStr ds[m] = .string x from by rw [hx]] at f0
            rw [show ds[m] = x.toList from by rw [hx, bytes_mk]] at hany
            have HANY := Lib.hid hany
            clear hcell2 hx hany
            cases hb : (ds.take m).any (fun d => d == kb.toList) with
            | true =>
              have HB := Lib.hid hb
              clear hb
              go_wp2
              go_roundg (gk - 1)
              case measure => omega
              case rel => exact ⟨m + 1, by omega, by go_num, by rw [HANY.out, HB.out]; rfl, HBM.out⟩
            | false =>
              have HB := Lib.hid hb
              clear hb
              obtain ⟨q, hq⟩ : ∃ q, q = (x.toList == kb.toList) := ⟨_, rfl⟩
              have hq' := hq.symm
              have HQ := Lib.hid hq
              clear hq
              go_wp2
              go_roundg (gk - 1)
              case measure => omega
              case rel => exact ⟨m + 1, by omega, by go_num, by rw [HANY.out, HB.out, Bool.false_or, ← HQ.out], HBM.out⟩
          · have hme : m = ds.length := by omega
            subst hme
            rw [List.take_length]
            have hx1 := value_any (some ⟨b, o, none⟩) c1 xs kb valid wr (H1W.out.ext HBM.out) (by omega)
            have hx2 := fun W' h => value_any a2 c2 ys kb valid W' h (by omega)
            have hsame : ds.any (fun d => d == kb.toList) = false → valueL kb valid xs = valueL kb valid ys := by
              intro h
              apply HMEM.out kb HIN.out
              intro hin
              rw [List.any_eq_false] at h
              exact h _ hin (by simp)
            generalize valueL kb valid xs = r1 at *
            generalize valueL kb valid ys = r2 at *
            have HV1 := Lib.hid hx1
            have HV2 := Lib.hid hx2
            have HSAME := Lib.hid hsame
            clear hx1 hx2 hsame
            cases hb : ds.any (fun d => d == kb.toList) with
            | true =>
              clear hb
              go_wp2_with fail
              refine (HV1.out).mono ?_
              rintro e u1 ⟨rfl, hbu1⟩
              have HBU1 := Lib.hid (HBM.out.trans (hbu1.mono hsm))
              clear hbu1
              go_wp2_with fail
              refine (HV2.out _ (H2W.out.ext HBU1.out)).mono ?_
              rintro e u2 ⟨rfl, hbu2⟩
              have HBU2 := Lib.hid (HBU1.out.trans (hbu2.mono HBU1.out.size))
              clear hbu2
              go_wp2
              go_roundg (g2 - 1)
              case measure => omega
              case rel => exact ⟨i + 1, by omega, by go_num, HBU2.out⟩
            | false =>
              have he := HSAME.out hb
              subst he
              obtain ⟨rv, rb⟩ := r1
              clear hb
              go_wp2_with fail
              refine (HV1.out).mono ?_
              rintro e u1 ⟨rfl, hbu1⟩
              have HBU1 := Lib.hid (HBM.out.trans (hbu1.mono hsm))
              clear hbu1
              go_wp2_with fail
              refine (HV2.out _ (H2W.out.ext HBU1.out)).mono ?_
              rintro e u2 ⟨rfl, hbu2⟩
              have HBU2 := Lib.hid (HBU1.out.trans (hbu2.mono HBU1.out.size))
              clear hbu2
              go_wp2
              go_roundg (g2 - 1)
              case measure => omega
              case rel => exact ⟨i + 1, by omega, by go_num, HBU2.out⟩
      · have hiy : i - xs.length < ys.length := by omega
        obtain ⟨b, o, rfl, hlb, hcell⟩ := H2W.out.get (i - xs.length) hiy
        have hin : ys[i - xs.length].key.toList ∈ keysOf xs ++ keysOf ys := List.mem_append.2 (.inr (mem_keysOf.2 ⟨ys[i - xs.length], List.getElem_mem hiy, rfl⟩))
        have hi0 : (0 : Int) ≤ (i : Int) - (xs.length : Int) := by omega
        have hi1 : (i : Int) - (xs.length : Int) < (ys.length : Int) := by omega
        have hi2 : ((i : Int) - (xs.length : Int)).toNat = i - xs.length := by omega
        have c0 := (HBI.out.cell (p := ⟨b, _, none⟩) hlb).trans (hcell 0 _ rfl)
        simp only [Nat.add_zero] at c0
        obtain ⟨kb, hkb⟩ : ∃ kb, kb = ys[i - xs.length].key := ⟨_, rfl⟩
        rw [← hkb] at c0 hin
        have HIN := Lib.hid hin
        clear hcell hkb hin
        go_wp2_with fail
        obtain ⟨wo, rfl⟩ : ∃ wo : World, wo = wr := ⟨_, rfl⟩
        obtain ⟨g2, rfl⟩ : ∃ g : Nat, g = gk := ⟨_, rfl⟩
        clear c0
        go_loopg [10, 11] ds.length (fun gk ov mv wr => ∃ m : Nat, m + gk = ds.length ∧ mv = .int .i64 m ∧ ov = .bool ((ds.take m).any (fun d => d == kb.toList)) ∧ Below W.heap.size W wr)
        case atStart => exact ⟨0, by omega, rfl, rfl, HBI.out⟩
        case round =>
          clear HBI hsi
          obtain ⟨m, hm, rfl, rfl, hBm⟩ := hrel
          have HBM := Lib.hid hBm
          have hsm := hBm.size
          have hdl := HDL.out
          clear hBm
          by_cases hmlt : m < ds.length
          · obtain ⟨b2, o2, rfl, hlb2, hcell2⟩ := HDS.out.get m hmlt
            have hm0 : (0 : Int) ≤ (m : Int) := by omega
            have hm1 : (m : Int) < (ds.length : Int) := by omega
            have hany : (ds.take (m + 1)).any (fun d => d == kb.toList) = ((ds.take m).any (fun d => d == kb.toList) || (ds[m] == kb.toList)) := by
              rw [List.take_succ_eq_append_getElem hmlt, List.any_append]
              simp
            have f0 := (HBM.out.cell (p := ⟨b2, _, none⟩) hlb2).trans (hcell2 0 _ rfl)
            simp only [Nat.add_zero, Nat.mul_one] at f0
            obtain ⟨x, hx⟩ : ∃ x : ByteArray, x = ⟨ds[m].toArray⟩ := ⟨_, rfl⟩
            rw [show encStr ds[m] = .string x from by rw [hx]] at f0
            rw [show ds[m] = x.toList from by rw [hx, bytes_mk]] at hany
            have HANY := Lib.hid hany
            clear hcell2 hx hany
            cases hb : (ds.take m).any (fun d => d == kb.toList) with
            | true =>
              have HB := Lib.hid hb
              clear hb
              go_wp2
              go_roundg (gk - 1)
              case measure => omega
              case rel => exact ⟨m + 1, by omega, by go_num, by rw [HANY.out, HB.out]; rfl, HBM.out⟩
            | false =>
              have HB := Lib.hid hb
              clear hb
              obtain ⟨q, hq⟩ : ∃ q, q = (x.toList == kb.toList) := ⟨_, rfl⟩
              have hq' := hq.symm
              have HQ := Lib.hid hq
              clear hq
              go_wp2
              go_roundg (gk - 1)
              case measure => omega
              case rel => exact ⟨m + 1, by omega, by go_num, by rw [HANY.out, HB.out, Bool.false_or, ← HQ.out], HBM.out⟩
          · have hme : m = ds.length := by omega
            subst hme
            rw [List.take_length]
            have hx1 := value_any a1 c1 xs kb valid wr (H1W.out.ext HBM.out) (by omega)
            have hx2 := fun W' h => value_any (some ⟨b, o, none⟩) c2 ys kb valid W' h (by omega)
            have hsame : ds.any (fun d => d == kb.toList) = false → valueL kb valid xs = valueL kb valid ys := by
              intro h
              apply HMEM.out kb HIN.out
              intro hin
              rw [List.any_eq_false] at h
              exact h _ hin (by simp)
            generalize valueL kb valid xs = r1 at *
            generalize valueL kb valid ys = r2 at *
            have HV1 := Lib.hid hx1
            have HV2 := Lib.hid hx2
            have HSAME := Lib.hid hsame
            clear hx1 hx2 hsame
            cases hb : ds.any (fun d => d == kb.toList) with
            | true =>
              clear hb
              go_wp2_with fail
              refine (HV1.out).mono ?_
              rintro e u1 ⟨rfl, hbu1⟩
              have HBU1 := Lib.hid (HBM.out.trans (hbu1.mono hsm))
              clear hbu1
              go_wp2_with fail
              refine (HV2.out _ (H2W.out.ext HBU1.out)).mono ?_
              rintro e u2 ⟨rfl, hbu2⟩
              have HBU2 := Lib.hid (HBU1.out.trans (hbu2.mono HBU1.out.size))
              clear hbu2
              go_wp2
              go_roundg (g2 - 1)
              case measure => omega
              case rel => exact ⟨i + 1, by omega, by go_num, HBU2.out⟩
            | false =>
              have he := HSAME.out hb
              subst he
              obtain ⟨rv, rb⟩ := r1
              clear hb
              go_wp2_with fail
              refine (HV1.out).mono ?_
              rintro e u1 ⟨rfl, hbu1⟩
              have HBU1 := Lib.hid (HBM.out.trans (hbu1.mono hsm))
              clear hbu1
              go_wp2_with fail
              refine (HV2.out _ (H2W.out.ext HBU1.out)).mono ?_
              rintro e u2 ⟨rfl, hbu2⟩
              have HBU2 := Lib.hid (HBU1.out.trans (hbu2.mono HBU1.out.size))
              clear hbu2
              go_wp2
              go_roundg (g2 - 1)
              case measure => omega
              case rel => exact ⟨i + 1, by omega, by go_num, HBU2.out⟩
    · go_wp2_with fail
      refine (livesV_any _).mono ?_
      rintro e w5 ⟨rfl, hB5⟩
      have HB5 := Lib.hid (HBI.out.trans (hB5.mono hsi))
      clear hB5
      go_wp2
      go_ret
      exact ⟨rfl, HB4.out.trans (HB5.out.mono HB4.out.size)⟩

theorem viewsSame_any (a1 : Option Addr) (c1 : Nat) (xs : List Fc) (a2 : Option Addr) (c2 : Nat) (ys : List Fc) (valid : Int) (w : World) (h1 : SlIn fc 6 w a1 c1 xs) (h2 : SlIn fc 6 w a2 c2 ys) (_ : (Lit.int .u32 valid).wf = true) :
    Calls Try.prog 9 #[.slice a1 xs.length c1, .slice a2 ys.length c2, .int .u32 valid] w fun e w' => e = .returned (.bool true) ∧ Below w.heap.size w w' := by
  by_cases hg1 : 120 < xs.length
  · exact viewsSame_great1 a1 a2 c1 c2 xs ys valid w h1 hg1
  · by_cases hg2 : 120 < ys.length
    · exact viewsSame_great2 a1 a2 c1 c2 xs ys valid w h1 h2 hg1 hg2
    · exact viewsSame_small a1 a2 c1 c2 xs ys valid w h1 h2 hg1 hg2
end Go.Proofs.Ytenocakpipppiaa
