/- slices.heapSortOrdered, reverseRangeOrdered at uint64. Condition: fewer than 1000000 numbers. -/
import Derived.Test.YtnnpheklgdbohaaO4
namespace Go.Proofs.Ytnnpheklgdbohaa
open Go.RowKit Go.Herb

set_option maxHeartbeats 4000000 in
theorem heapSort_any (g cap a b N : Nat) (xs : List Int) (hN : xs.length = N) (hb : b ≤ N) (hab : a < b) (w : World) (h : RowU w g cap xs) (hl : N < 1000000) :
    Calls Try.prog (74) #[.slice (some ⟨g, 0, none⟩) N cap, .int .i64 a, .int .i64 b] w (RowPost a b (SortR a b) g cap xs w) := by
  have H : Hid (RowSt g cap w w xs) := Lib.hid ⟨h, grown_refl _ _⟩
  have HN := Lib.hid hN
  clear h hN
  obtain ⟨n, hn⟩ : ∃ n, n = b - a := ⟨_, rfl⟩
  have en : (b : Int) - (a : Int) = (n : Int) := by omega
  have hb2 : a + n = b := by omega
  have hn0 : 0 < n := by omega
  have HB2 := Lib.hid hb2
  have hanN : a + n ≤ N := by omega
  clear hn hb2 hb hab
  go_enter Try.func74, Try.ntmps74
  go_wp2_with fail
  clear en
  go_loopg [9] ((n - 1) / 2 + 1) (fun gk iv wr => ∃ (ys : List Int), gk ≤ (n - 1) / 2 + 1 ∧ iv = .int .i64 ((gk : Int) - 1) ∧ Hid (HeapR a gk n ys) ∧ Hid (InR a (a + n) xs ys) ∧ RowSt g cap w wr ys)
  case atStart =>
    refine ⟨xs, Nat.le_refl _, ?_, Lib.hid (HeapR.none _ _ (by omega)), Lib.hid (InR.refl _ _ _), H.out⟩
    first | rfl | (congr 1; omega)
  case round =>
    obtain ⟨ys, hk, rfl, HH, HI, hst⟩ := hrel
    have HST := Lib.hid hst
    have HYL := Lib.hid (show ys.length = N from by rw [HI.out.len]; exact HN.out)
    clear hst
    cases gk with
    | zero =>
      clear hk H
      go_wp2_with fail
      go_loopg [10] n (fun gk iv wr => ∃ (ys : List Int), gk ≤ n ∧ iv = .int .i64 ((gk : Int) - 1) ∧ Hid (PopR a gk n ys) ∧ Hid (InR a (a + n) xs ys) ∧ RowSt g cap w wr ys)
      case atStart => exact ⟨ys, Nat.le_refl _, rfl, Lib.hid (PopR.start HH.out), HI, HST.out⟩
      case round =>
        clear HST HI HH HYL
        obtain ⟨zs, hk, rfl, HP, HI, hst⟩ := hrel
        have HST := Lib.hid hst
        have HYL := Lib.hid (show zs.length = N from by rw [HI.out.len]; exact HN.out)
        clear hst
        cases gk with
        | zero =>
          go_wp2_with fail
          go_end0
          exact ⟨rfl, zs, by rw [← HB2.out]; exact HI.out, by rw [← HB2.out]; exact HP.out.done, HST.out.row, HST.out.grown⟩
        | succ i =>
          have hq1 : (((i + 1 : Nat) : Int) - 1) = (i : Int) := by omega
          rw [hq1]
          clear hq1
          obtain ⟨hp1, hp2⟩ := PopR.step HP.out (by omega) (by have := HYL.out; omega)
          have HP1 := Lib.hid hp1
          have HP2 := Lib.hid hp2
          clear hp1 hp2
          have c0 := rowU_cell HST.out.row a (by have := HYL.out; omega)
          have d0 := rowU_cell HST.out.row (a + i) (by have := HYL.out; omega)
          have f0 := HST.out.row.frozen a
          have g0 := HST.out.row.frozen (a + i)
          have ra : (a : Int) < (N : Int) := by omega
          have hst2 := HST.out.swap a (a + i)
          have hsl : (swq zs a (a + i)).length = N := by rw [swq_len]; exact HYL.out
          have hsd := fun (W : World) (hW : RowU W g cap (swq zs a (a + i))) => siftDown_any g cap a 0 i N (swq zs a (a + i)) hsl (by omega) (by omega) W hW hl HP1.out
          have HSD := Lib.hid hsd
          have HSI := Lib.hid (show InR a (a + n) zs (swq zs a (a + i)) from InR.swq (by have := HYL.out; omega) (by omega) (by omega) (by omega) (by omega))
          have HST2 := Lib.hid hst2
          clear hst2 hsl hsd
          rcases Nat.eq_zero_or_pos i with rfl | hi0
          · simp only [Nat.add_zero] at c0 d0 f0 g0 HST2 HSD HSI
            clear d0 g0
            go_wp2_with fail
            go_region
            clear c0 f0 ra
            go_wp2_with fail
            refine (HSD.out _ HST2.out.row).mono ?_
            rintro e w3 ⟨rfl, ys2, hi2, hq2, hr2, hg2⟩
            have HI2 := Lib.hid hi2
            have HQ2 := Lib.hid hq2
            have HST3 : Hid (RowSt g cap w w3 ys2) := Lib.hid ⟨hr2, grown_trans HST2.out.grown hg2⟩
            clear hi2 hq2 hr2 hg2 HSD HST2
            go_wp2
            go_roundg 0
            case measure => omega
            case rel => exact ⟨ys2, by omega, by go_num, Lib.hid (HP2.out _ HI2.out HQ2.out), Lib.hid (HI.out.trans (HSI.out.trans (HI2.out.mono (Nat.le_refl _) (by omega)))), HST3.out⟩
          · have w1 : IntKind.i64.wrap ((a : Int) + (i : Int)) = (a : Int) + (i : Int) := IntWalk.i64_in _ (by omega)
            have p1 : (0 : Int) ≤ (a : Int) + (i : Int) := by omega
            have q1 : ((a : Int) + (i : Int)).toNat = a + i := by omega
            have r1 : (a : Int) + (i : Int) < (N : Int) := by omega
            have hne : ¬ a = a + i := by omega
            go_wp2_with fail
            go_region
            clear w1 p1 q1 r1 hne c0 d0 f0 g0 ra
            go_wp2_with fail
            refine (HSD.out _ HST2.out.row).mono ?_
            rintro e w3 ⟨rfl, ys2, hi2, hq2, hr2, hg2⟩
            have HI2 := Lib.hid hi2
            have HQ2 := Lib.hid hq2
            have HST3 : Hid (RowSt g cap w w3 ys2) := Lib.hid ⟨hr2, grown_trans HST2.out.grown hg2⟩
            clear hi2 hq2 hr2 hg2 HSD HST2
            go_wp2
            go_roundg i
            case measure => omega
            case rel => exact ⟨ys2, by omega, by go_num, Lib.hid (HP2.out _ HI2.out HQ2.out), Lib.hid (HI.out.trans (HSI.out.trans (HI2.out.mono (Nat.le_refl _) (by omega)))), HST3.out⟩
    | succ i =>
      have hq1 : (((i + 1 : Nat) : Int) - 1) = (i : Int) := by omega
      rw [hq1]
      clear hq1
      have HSD := Lib.hid (siftDown_any g cap a i n N ys HYL.out hanN (by omega) wr HST.out.row hl HH.out)
      go_wp2_with fail
      refine (HSD.out).mono ?_
      rintro e w3 ⟨rfl, ys2, hi2, hq2, hr2, hg2⟩
      have HI2 := Lib.hid hi2
      have HQ2 := Lib.hid hq2
      have HST3 : Hid (RowSt g cap w w3 ys2) := Lib.hid ⟨hr2, grown_trans HST.out.grown hg2⟩
      clear hi2 hq2 hr2 hg2 HSD HST
      go_wp2
      go_roundg i
      case measure => omega
      case rel => exact ⟨ys2, by omega, by go_num, HQ2, Lib.hid (HI.out.trans HI2.out), HST3.out⟩

set_option maxHeartbeats 2000000 in
theorem reverse_any (g cap a b N : Nat) (xs : List Int) (hN : xs.length = N) (hb : b ≤ N) (hab : a < b) (w : World) (h : RowU w g cap xs) (hl : N < 1000000) :
    Calls Try.prog (77) #[.slice (some ⟨g, 0, none⟩) N cap, .int .i64 a, .int .i64 b] w (RowPost a b (fun _ => True) g cap xs w) := by
  have H : Hid (RowSt g cap w w xs) := Lib.hid ⟨h, grown_refl _ _⟩
  have HN := Lib.hid hN
  clear h hN
  obtain ⟨c, hc⟩ : ∃ c, c = b - 1 := ⟨_, rfl⟩
  have en : (b : Int) - 1 = (c : Int) := by omega
  have hcb : c + 1 = b := by omega
  clear hc
  go_enter Try.func77, Try.ntmps77
  go_wp2_with fail
  clear en
  go_loopg [6, 7] c (fun gk iv jv wr => ∃ (i j : Nat) (ys : List Int), gk = j ∧ a ≤ i ∧ j ≤ c ∧ a ≤ j + 1 ∧ i ≤ c + 1 ∧ iv = .int .i64 i ∧ jv = .int .i64 j ∧ Hid (InR a b xs ys) ∧ RowSt g cap w wr ys)
  case atStart => exact ⟨a, c, xs, rfl, Nat.le_refl _, Nat.le_refl _, by omega, by omega, rfl, rfl, Lib.hid (InR.refl _ _ _), H.out⟩
  case round =>
    obtain ⟨i, j, ys, hk, hai, hjc, haj, hic, rfl, rfl, HI, hst⟩ := hrel
    have HST := Lib.hid hst
    have HYL := Lib.hid (show ys.length = N from by rw [HI.out.len]; exact HN.out)
    clear hst H
    by_cases hij : i < j
    · have c0 := rowU_cell HST.out.row i (by have := HYL.out; omega)
      have d0 := rowU_cell HST.out.row j (by have := HYL.out; omega)
      have f0 := HST.out.row.frozen i
      have g0 := HST.out.row.frozen j
      have r1 : (i : Int) < (N : Int) := by omega
      have r2 : (j : Int) < (N : Int) := by omega
      have hij' : (i : Int) < (j : Int) := by omega
      have hne : ¬ i = j := by omega
      have HST2 := Lib.hid (HST.out.swap i j)
      go_wp2_with fail
      go_region
      clear c0 d0 f0 g0 r1 r2 hne HST
      have ej : (j : Int) - 1 = ((j - 1 : Nat) : Int) := by omega
      go_wp2
      go_roundg (j - 1)
      case measure => omega
      case rel => exact ⟨i + 1, j - 1, swq ys i j, rfl, by omega, by omega, by omega, by omega, by go_num, by first | rfl | go_num, Lib.hid (HI.out.trans (InR.swq (by have := HYL.out; omega) (by omega) (by omega) (by omega) (by omega))), HST2.out⟩
    · have hij' : ¬ (i : Int) < (j : Int) := by omega
      go_wp2_with fail
      go_end0
      exact ⟨rfl, ys, HI.out, trivial, HST.out.row, HST.out.grown⟩
end Go.Proofs.Ytnnpheklgdbohaa
