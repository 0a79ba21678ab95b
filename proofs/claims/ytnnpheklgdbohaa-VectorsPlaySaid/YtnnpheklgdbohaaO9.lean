/- slices.partialInsertionSortOrdered at uint64. Condition: fewer than 1000000 numbers. -/
import Derived.Test.YtnnpheklgdbohaaO7
namespace Go.Proofs.Ytnnpheklgdbohaa
open Go.RowKit Go.Herb

def PartialPost (g cap a b : Nat) (xs : List Int) (w : World) (e : Ending) (w' : World) : Prop :=
  ∃ (fl : Bool) (ys : List Int), e = .returned (.bool fl) ∧ InR a b xs ys ∧ (fl = true → SortR a b ys) ∧ RowU w' g cap ys ∧ w.grownBy w' (some g)

theorem sort_next {a i : Nat} {ys : List Int} (h : SortR a i ys) (hai : a < i) (hle : at_ ys (i - 1) ≤ at_ ys i) : SortR a (i + 1) ys := fun p q h1 h2 h3 => by
  rcases Nat.lt_or_eq_of_le (Nat.le_of_lt_succ h3) with h4 | h4
  · exact h p q h1 h2 h4
  · rcases Nat.lt_or_eq_of_le h2 with h5 | h5
    · rw [h4]
      exact Int.le_trans (h p (i - 1) h1 (by omega) (by omega)) hle
    · rw [h5]; exact Int.le_refl _

set_option maxRecDepth 100000 in
set_option maxHeartbeats 8000000 in
theorem partialInsertion_any (g cap a b N : Nat) (xs : List Int) (hN : xs.length = N) (hb : b ≤ N) (hab : a < b) (w : World) (h : RowU w g cap xs) (hl : N < 1000000) (hlow : LowR a b xs) :
    Calls Try.prog (78) #[.slice (some ⟨g, 0, none⟩) N cap, .int .i64 a, .int .i64 b] w (PartialPost g cap a b xs w) := by
  have H : Hid (RowSt g cap w w xs) := Lib.hid ⟨h, grown_refl _ _⟩
  have HN := Lib.hid hN
  have HLOW := Lib.hid hlow
  clear h hN hlow
  go_enter Try.func78, Try.ntmps78
  go_wp2_with fail
  go_loopg [7, 8] 5 (fun gk iv jv wr => ∃ (i jj : Nat) (ys : List Int), jj + gk = 5 ∧ a < i ∧ i ≤ b ∧ iv = .int .i64 i ∧ jv = .int .i64 jj ∧ Hid (SortR a i ys) ∧ Hid (InR a b xs ys) ∧ RowSt g cap w wr ys)
  case atStart => exact ⟨a + 1, 0, xs, by omega, by omega, by omega, by go_num, rfl, Lib.hid (SortR.small (by omega) _), Lib.hid (InR.refl _ _ _), H.out⟩
  case round =>
    obtain ⟨i0, jj, ys, hjj, hai0, hib0, rfl, rfl, HS0, HI, hst⟩ := hrel
    have HST0 := Lib.hid hst
    have HYL := Lib.hid (show ys.length = N from by rw [HI.out.len]; exact HN.out)
    clear hst H
    by_cases hj5 : jj < 5
    · have hj5' : (jj : Int) < 5 := by omega
      go_upto_block 2 with fail
      go_cut [7] (fun iv wx => ∃ i : Nat, iv = .int .i64 i ∧ a < i ∧ i ≤ b ∧ Hid (SortR a i ys) ∧ Hid (i = b ∨ i < b ∧ at_ ys i < at_ ys (i - 1)) ∧ RowSt g cap w wx ys)
      case first =>
        go_wp2_with fail
        go_loopg [7] (b - i0) (fun gk iv wr => ∃ i : Nat, i + gk = b ∧ a < i ∧ iv = .int .i64 i ∧ Hid (SortR a i ys) ∧ RowSt g cap w wr ys)
        case atStart => exact ⟨i0, by omega, hai0, rfl, HS0, HST0.out⟩
        case round =>
          obtain ⟨i, hk, hai, rfl, HS, hst⟩ := hrel
          have HST := Lib.hid hst
          clear hst HST0 HS0
          by_cases hib : i < b
          · have hib' : (i : Int) < (b : Int) := by omega
            have c0 := rowU_cell HST.out.row i (by have := HYL.out; omega)
            have d0 := rowU_cell HST.out.row (i - 1) (by have := HYL.out; omega)
            have w1 : IntKind.i64.wrap ((i : Int) - 1) = (i : Int) - 1 := IntWalk.i64_in _ (by omega)
            have p1 : (0 : Int) ≤ (i : Int) - 1 := by omega
            have p1' : (1 : Int) ≤ (i : Int) := by omega
            have q1 : ((i : Int) - 1).toNat = i - 1 := by omega
            have r1 : (i : Int) - 1 < (N : Int) := by omega
            have r2 : (i : Int) < (N : Int) := by omega
            by_cases hs : at_ ys (i - 1) ≤ at_ ys i
            · have HL := Lib.hid hs
              clear hs
              go_wp2_with fail
              go_quiet ((go_at_call 79; exact Calls.quiet_of_same (less_f HL.out _)))
              clear c0 d0 w1 p1 p1' q1 r1 r2
              have HST2 := Lib.hid (HST.out.drewN nq)
              go_wp2
              go_roundg (gk - 1)
              case measure => omega
              case rel => exact ⟨i + 1, by omega, by omega, by go_num, Lib.hid (sort_next HS.out hai HL.out), HST2.out⟩
            · have HL := Lib.hid (Int.not_le.1 hs)
              clear hs
              go_wp2_with fail
              go_quiet ((go_at_call 79; exact Calls.quiet_of_same (less_t HL.out _)))
              clear c0 d0 w1 p1 p1' q1 r1 r2
              have HST2 := Lib.hid (HST.out.drewN nq)
              go_wp2_with fail
              go_meet
              exact ⟨i, rfl, hai, by omega, HS, Lib.hid (.inr ⟨hib, HL.out⟩), HST2.out⟩
          · have hib' : ¬ (i : Int) < (b : Int) := by omega
            go_wp2_with fail
            go_quiet (fail)
            have HST2 := Lib.hid (HST.out.drewN nq)
            go_wp2_with fail
            go_meet
            exact ⟨i, rfl, hai, by omega, HS, Lib.hid (.inl (by omega)), HST2.out⟩
      case rest =>
      obtain ⟨i, rfl, hai, hib, HS, HX, hst⟩ := hcut
      have HST := Lib.hid hst
      clear hst HST0 HS0
      by_cases hie : i = b
      · subst hie
        have HE := Lib.hid HS.out
        go_wp2_with fail
        go_ret
        exact ⟨true, ys, rfl, HI.out, fun _ => HE.out, HST.out.row, HST.out.grown⟩
      · have hlt : at_ ys i < at_ ys (i - 1) := by
          rcases HX.out with h | h
          · exact absurd h hie
          · exact h.2
        have hie1 : ((i : Int) == (b : Int)) = false := by simp; omega
        have hie2 : decide ((i : Int) = (b : Int)) = false := decide_eq_false (by omega)
        have hie3 : decide (i = b) = false := decide_eq_false hie
        have HLT := Lib.hid hlt
        have hilt : i < b := by omega
        clear hlt HX
        by_cases h50 : (b : Int) - (a : Int) < 50
        · go_wp2_with fail
          go_ret
          exact ⟨false, ys, rfl, HI.out, fun h => (by cases h), HST.out.row, HST.out.grown⟩
        · have c0 := rowU_cell HST.out.row i (by have := HYL.out; omega)
          have d0 := rowU_cell HST.out.row (i - 1) (by have := HYL.out; omega)
          have f0 := HST.out.row.frozen i
          have g0 := HST.out.row.frozen (i - 1)
          have HST2 := Lib.hid (HST.out.swap i (i - 1))
          have HI2 := Lib.hid (HI.out.trans (InR.swq (a := a) (b := b) (i := i) (j := i - 1) (by have := HYL.out; omega) (by omega) (by omega) (by omega) (by omega)))
          have HY2 := Lib.hid (show (swq ys i (i - 1)).length = N from by rw [swq_len]; exact HYL.out)
          have HS2 := Lib.hid (show SortR a (i - 1) (swq ys i (i - 1)) from SortR.kept (fun p q h1 h2 h3 => HS.out p q h1 h2 (by omega)) (fun k h1 h2 => by rw [at_swq (by have := HYL.out; omega) (by have := HYL.out; omega), if_neg (by omega), if_neg (by omega)]))
          generalize swq ys i (i - 1) = zs at *
          go_wp2_with fail
          have w1 : IntKind.i64.wrap ((i : Int) - 1) = (i : Int) - 1 := IntWalk.i64_in _ (by omega)
          have p1 : (0 : Int) ≤ (i : Int) - 1 := by omega
          have p1' : (1 : Int) ≤ (i : Int) := by omega
          have q1 : ((i : Int) - 1).toNat = i - 1 := by omega
          have r1 : (i : Int) - 1 < (N : Int) := by omega
          have r2 : (i : Int) < (N : Int) := by omega
          have hne : ¬ i = i - 1 := by omega
          go_region
          clear c0 d0 f0 g0 w1 p1 p1' q1 r1 r2 hne hie1 hie2 hie3 HST HI HYL HS HLT
          go_upto_if 61 with (fail)
          go_cut [] (fun wx => ∃ zs2 : List Int, Hid (SortR a i zs2) ∧ Hid (InR a b xs zs2) ∧ RowSt g cap w wx zs2)
          case first =>
            by_cases hia : (2 : Int) ≤ (i : Int) - (a : Int)
            · obtain ⟨i1, hi1⟩ : ∃ i1, i1 = i - 1 := ⟨_, rfl⟩
              have ei1 : (i : Int) - 1 = (i1 : Int) := by omega
              have HIN := Lib.hid (show InsR a i1 i1 zs from by rw [hi1]; exact InsR.start HS2.out (by omega))
              have hi1' : i1 + 1 = i := by omega
              have HI1 := Lib.hid hi1'
              clear hi1
              go_wp2_with fail
              clear ei1
              go_loopg [9] i1 (fun gk jv wr => ∃ (j : Nat) (us : List Int), gk = j ∧ a ≤ j ∧ j ≤ i1 ∧ jv = .int .i64 j ∧ Hid (InsR a i1 j us) ∧ Hid (InR a b xs us) ∧ RowSt g cap w wr us)
              case atStart => exact ⟨i1, zs, rfl, by omega, Nat.le_refl _, rfl, HIN, HI2, HST2.out⟩
              case round =>
                obtain ⟨j, us, hjk, haj, hji, rfl, HIN2, HI3, hst⟩ := hrel
                have HST3 := Lib.hid hst
                have HY3 := Lib.hid (show us.length = N from by rw [HI3.out.len]; exact HN.out)
                clear hst HST2 HI2 HIN HS2 HY2
                by_cases hj1 : 1 ≤ j
                · have hj1' : (1 : Int) ≤ (j : Int) := by omega
                  have c0 := rowU_cell HST3.out.row j (by have := HY3.out; omega)
                  have d0 := rowU_cell HST3.out.row (j - 1) (by have := HY3.out; omega)
                  have w1 : IntKind.i64.wrap ((j : Int) - 1) = (j : Int) - 1 := IntWalk.i64_in _ (by omega)
                  have p1 : (0 : Int) ≤ (j : Int) - 1 := by omega
                  have q1 : ((j : Int) - 1).toNat = j - 1 := by omega
                  have r1 : (j : Int) - 1 < (N : Int) := by omega
                  have r2 : (j : Int) < (N : Int) := by omega
                  by_cases hs : at_ us j < at_ us (j - 1)
                  · have haj2 : a < j := by
                      rcases Nat.lt_or_eq_of_le haj with h | h
                      · exact h
                      · exfalso
                        have hlw := HLOW.out.kept HI3.out (by have := HN.out; omega) (by omega) a (Nat.le_refl _) hab
                        rw [h] at hlw
                        omega
                    have HL := Lib.hid hs
                    clear hs
                    go_wp2_with fail
                    go_quiet ((go_at_call 79; exact Calls.quiet_of_same (less_t HL.out _)))
                    have HST4 := Lib.hid (HST3.out.drewN nq)
                    generalize wr.drewN nq = wq at *
                    clear c0 d0 HST3
                    have c0 := rowU_cell HST4.out.row j (by have := HY3.out; omega)
                    have d0 := rowU_cell HST4.out.row (j - 1) (by have := HY3.out; omega)
                    have f0 := HST4.out.row.frozen j
                    have g0 := HST4.out.row.frozen (j - 1)
                    have hne : ¬ j = j - 1 := by omega
                    have HST5 := Lib.hid (HST4.out.swap j (j - 1))
                    go_wp2_with fail
                    go_region
                    clear c0 d0 f0 g0 w1 p1 q1 r1 r2 hne HST4
                    go_wp2
                    go_roundg (j - 1)
                    case measure => omega
                    case rel => exact ⟨j - 1, swq us j (j - 1), rfl, by omega, by omega, by go_num, Lib.hid (HIN2.out.step haj2 (by have := HY3.out; omega) HL.out), Lib.hid (HI3.out.trans (InR.swq (by have := HY3.out; omega) (by omega) (by omega) (by omega) (by omega))), HST5.out⟩
                  · have HL := Lib.hid (Int.not_lt.1 hs)
                    clear hs
                    go_wp2_with fail
                    go_quiet ((go_at_call 79; exact Calls.quiet_of_same (less_f HL.out _)))
                    clear c0 d0 w1 p1 q1 r1 r2
                    have HST4 := Lib.hid (HST3.out.drewN nq)
                    go_wp2_with fail
                    go_meet
                    exact ⟨us, Lib.hid (by have := HIN2.out.done (.inr HL.out); rwa [HI1.out] at this), HI3, HST4.out⟩
                · have hj1' : ¬ (1 : Int) ≤ (j : Int) := by omega
                  have hja : j = a := by omega
                  have HJA := Lib.hid hja
                  clear hja
                  go_wp2_with fail
                  go_meet
                  exact ⟨us, Lib.hid (by have := HIN2.out.done (.inl HJA.out); rwa [HI1.out] at this), HI3, HST3.out⟩
            · have hia1 : i = a + 1 := by omega
              have HIA := Lib.hid hia1
              clear hia1
              go_wp2_with fail
              go_meet
              exact ⟨zs, Lib.hid (SortR.small (by have := HIA.out; omega) _), HI2, HST2.out⟩
          case rest =>
          obtain ⟨zs2, HS3, HI3, hst⟩ := hcut
          have HST3 := Lib.hid hst
          clear hst HST2 HI2 HS2 HY2
          by_cases hbi : (2 : Int) ≤ (b : Int) - (i : Int)
          · go_wp2_with fail
            obtain ⟨g1, rfl⟩ : ∃ g1 : Nat, g1 = gk := ⟨_, rfl⟩
            go_loopg [10] (b - (i + 1)) (fun gk jv wr => ∃ (j : Nat) (us : List Int), j + gk = b ∧ i < j ∧ jv = .int .i64 j ∧ Hid (SortR a i us) ∧ Hid (InR a b xs us) ∧ RowSt g cap w wr us)
            case atStart => exact ⟨i + 1, zs2, by omega, by omega, by go_num, HS3, HI3, HST3.out⟩
            case round =>
              obtain ⟨j, us, hjk, hij, rfl, HS4, HI4, hst⟩ := hrel
              have HST4 := Lib.hid hst
              have HY4 := Lib.hid (show us.length = N from by rw [HI4.out.len]; exact HN.out)
              clear hst HST3 HI3 HS3
              by_cases hjb : j < b
              · have hjb' : (j : Int) < (b : Int) := by omega
                have c0 := rowU_cell HST4.out.row j (by have := HY4.out; omega)
                have d0 := rowU_cell HST4.out.row (j - 1) (by have := HY4.out; omega)
                have w1 : IntKind.i64.wrap ((j : Int) - 1) = (j : Int) - 1 := IntWalk.i64_in _ (by omega)
                have p1 : (0 : Int) ≤ (j : Int) - 1 := by omega
                have p1' : (1 : Int) ≤ (j : Int) := by omega
                have q1 : ((j : Int) - 1).toNat = j - 1 := by omega
                have r1 : (j : Int) - 1 < (N : Int) := by omega
                have r2 : (j : Int) < (N : Int) := by omega
                by_cases hs : at_ us j < at_ us (j - 1)
                · have HL := Lib.hid hs
                  clear hs
                  go_wp2_with fail
                  go_quiet ((go_at_call 79; exact Calls.quiet_of_same (less_t HL.out _)))
                  have HST5 := Lib.hid (HST4.out.drewN nq)
                  generalize wr.drewN nq = wq at *
                  clear c0 d0 HST4
                  have c0 := rowU_cell HST5.out.row j (by have := HY4.out; omega)
                  have d0 := rowU_cell HST5.out.row (j - 1) (by have := HY4.out; omega)
                  have f0 := HST5.out.row.frozen j
                  have g0 := HST5.out.row.frozen (j - 1)
                  have hne : ¬ j = j - 1 := by omega
                  have HST6 := Lib.hid (HST5.out.swap j (j - 1))
                  go_wp2_with fail
                  go_region
                  clear c0 d0 f0 g0 w1 p1 p1' q1 r1 r2 hne HST5
                  go_wp2
                  go_roundg (gk - 1)
                  case measure => omega
                  case rel => exact ⟨j + 1, swq us j (j - 1), by omega, by omega, by go_num, Lib.hid (SortR.kept HS4.out (fun k h1 h2 => by rw [at_swq (by have := HY4.out; omega) (by have := HY4.out; omega), if_neg (by omega), if_neg (by omega)])), Lib.hid (HI4.out.trans (InR.swq (by have := HY4.out; omega) (by omega) (by omega) (by omega) (by omega))), HST6.out⟩
                · have HL := Lib.hid (Int.not_lt.1 hs)
                  clear hs
                  go_wp2_with fail
                  go_quiet ((go_at_call 79; exact Calls.quiet_of_same (less_f HL.out _)))
                  clear c0 d0 w1 p1 p1' q1 r1 r2
                  have HST5 := Lib.hid (HST4.out.drewN nq)
                  go_wp2
                  go_roundg (g1 - 1)
                  case measure => omega
                  case rel => exact ⟨i, jj + 1, us, by omega, hai, hib, rfl, by go_num, HS4, HI4, HST5.out⟩
              · have hjb' : ¬ (j : Int) < (b : Int) := by omega
                go_wp2
                go_roundg (g1 - 1)
                case measure => omega
                case rel => exact ⟨i, jj + 1, us, by omega, hai, hib, rfl, by go_num, HS4, HI4, HST4.out⟩
          · go_wp2
            go_roundg (gk - 1)
            case measure => omega
            case rel => exact ⟨i, jj + 1, zs2, by omega, hai, hib, rfl, by go_num, HS3, HI3, HST3.out⟩
    · have hj5' : ¬ (jj : Int) < 5 := by omega
      go_wp2
      go_ret
      exact ⟨false, ys, rfl, HI.out, fun h => (by cases h), HST0.out.row, HST0.out.grown⟩
end Go.Proofs.Ytnnpheklgdbohaa
