/- slices.partialInsertionSortOrdered at uint64. Condition: fewer than 1000000 numbers. · The library's slices.SortFunc at points, laid (the kit's lay-plain wrote this text). No condition. · slices.breakPatternsOrdered at uint64. Condition: fewer than 1000000 numbers. -/
import Derived.Test.YtchcelodeepjdaaGreatDoorO7
import Derived.Shelf.SlSortCmp.Xorshift
import Derived.Test.YtchcelodeepjdaaGreatDoorProg
import Derived.Test.YtchcelodeepjdaaGreatDoorO5
import Derived.Laws.Bits64b
namespace Go.Proofs.YtchcelodeepjdaaGreatDoor.Vx
open Go.RowKit Go.Herb

def PartialPost (g cap a b : Nat) (xs : List Int) (w : World) (e : Ending) (w' : World) : Prop :=
  ∃ (fl : Bool) (ys : List Int), e = .returned (.bool fl) ∧ InR a b xs ys ∧ (fl = true → SortR a b ys) ∧ RowU w' g cap ys ∧ w.grownBy w' (some g)

theorem sort_next {a i : Nat} {ys : List Int} (h : SortR a i ys) (hai : a < i) (hle : at_ ys (i - 1) ≤ at_ ys i) : SortR a (i + 1) ys := fun p q h1 h2 h3 => by
  rcases Nat.lt_or_eq_of_le (Nat.le_of_lt_succ h3) with h4 | h4
  · exact h p q h1 h2 h4
  · rcases Nat.lt_or_eq_of_le h2 with h5 | h5
    · rw [h4]
      exact Int.le_trans (h p (i - 1) h1 (by omega) (by omega)) hle
    · rw [h5]; exact Int.le_refl _

set_option maxRecDepth 100000 in
set_option maxHeartbeats 8000000 in
theorem partialInsertion_any (g cap a b N : Nat) (xs : List Int) (hN : xs.length = N) (hb : b ≤ N) (hab : a < b) (w : World) (h : RowU w g cap xs) (hl : N < 1000000) (hlow : LowR a b xs) :
    Calls Tryz.prog (122) #[.slice (some ⟨g, 0, none⟩) N cap, .int .i64 a, .int .i64 b] w (PartialPost g cap a b xs w) := by
  have H : Hid (RowSt g cap w w xs) := Lib.hid ⟨h, grown_refl _ _⟩
  have HN := Lib.hid hN
  have HLOW := Lib.hid hlow
  clear h hN hlow
  go_enter Tryz.func122, Tryz.ntmps122
  go_wp2_with fail
  go_loopg [7, 8] 5 (fun gk iv jv wr => ∃ (i jj : Nat) (ys : List Int), jj + gk = 5 ∧ a < i ∧ i ≤ b ∧ iv = .int .i64 i ∧ jv = .int .i64 jj ∧ Hid (SortR a i ys) ∧ Hid (InR a b xs ys) ∧ RowSt g cap w wr ys)
  case atStart => exact ⟨a + 1, 0, xs, by omega, by omega, by omega, by go_num, rfl, Lib.hid (SortR.small (by omega) _), Lib.hid (InR.refl _ _ _), H.out⟩
  case round =>
    obtain ⟨i0, jj, ys, hjj, hai0, hib0, rfl, rfl, HS0, HI, hst⟩ := hrel
    have HST0 := Lib.hid hst
    have HYL := Lib.hid (show ys.length = N from by rw [HI.out.len]; exact HN.out)
    clear hst H
    by_cases hj5 : jj < 5
    · have hj5' : (jj : Int) < 5 := by omega
      go_upto_block 2 with fail
      go_cut [7] (fun iv wx => ∃ i : Nat, iv = .int .i64 i ∧ a < i ∧ i ≤ b ∧ Hid (SortR a i ys) ∧ Hid (i = b ∨ i < b ∧ at_ ys i < at_ ys (i - 1)) ∧ RowSt g cap w wx ys)
      case first =>
        go_wp2_with fail
        go_loopg [7] (b - i0) (fun gk iv wr => ∃ i : Nat, i + gk = b ∧ a < i ∧ iv = .int .i64 i ∧ Hid (SortR a i ys) ∧ RowSt g cap w wr ys)
        case atStart => exact ⟨i0, by omega, hai0, rfl, HS0, HST0.out⟩
        case round =>
          obtain ⟨i, hk, hai, rfl, HS, hst⟩ := hrel
          have HST := Lib.hid hst
          clear hst HST0 HS0
          by_cases hib : i < b
          · have hib' : (i : Int) < (b : Int) := by omega
            have c0 := rowU_cell HST.out.row i (by have := HYL.out; omega)
            have d0 := rowU_cell HST.out.row (i - 1) (by have := HYL.out; omega)
            have w1 : IntKind.i64.wrap ((i : Int) - 1) = (i : Int) - 1 := IntWalk.i64_in _ (by omega)
            have p1 : (0 : Int) ≤ (i : Int) - 1 := by omega
            have p1' : (1 : Int) ≤ (i : Int) := by omega
            have q1 : ((i : Int) - 1).toNat = i - 1 := by omega
            have r1 : (i : Int) - 1 < (N : Int) := by omega
            have r2 : (i : Int) < (N : Int) := by omega
            by_cases hs : at_ ys (i - 1) ≤ at_ ys i
            · have HL := Lib.hid hs
              clear hs
              go_wp2_with fail
              go_quiet ((go_at_call 123; exact Calls.quiet_of_same (less_f HL.out _)))
              clear c0 d0 w1 p1 p1' q1 r1 r2
              have HST2 := Lib.hid (HST.out.drewN nq)
              go_wp2
              go_roundg (gk - 1)
              case measure => omega
              case rel => exact ⟨i + 1, by omega, by omega, by go_num, Lib.hid (sort_next HS.out hai HL.out), HST2.out⟩
            · have HL := Lib.hid (Int.not_le.1 hs)
              clear hs
              go_wp2_with fail
              go_quiet ((go_at_call 123; exact Calls.quiet_of_same (less_t HL.out _)))
              clear c0 d0 w1 p1 p1' q1 r1 r2
              have HST2 := Lib.hid (HST.out.drewN nq)
              go_wp2_with fail
              go_meet
              exact ⟨i, rfl, hai, by omega, HS, Lib.hid (.inr ⟨hib, HL.out⟩), HST2.out⟩
          · have hib' : ¬ (i : Int) < (b : Int) := by omega
            go_wp2_with fail
            go_quiet (fail)
            have HST2 := Lib.hid (HST.out.drewN nq)
            go_wp2_with fail
            go_meet
            exact ⟨i, rfl, hai, by omega, HS, Lib.hid (.inl (by omega)), HST2.out⟩
      case rest =>
      obtain ⟨i, rfl, hai, hib, HS, HX, hst⟩ := hcut
      have HST := Lib.hid hst
      clear hst HST0 HS0
      by_cases hie : i = b
      · subst hie
        have HE := Lib.hid HS.out
        go_wp2_with fail
        go_ret
        exact ⟨true, ys, rfl, HI.out, fun _ => HE.out, HST.out.row, HST.out.grown⟩
      · have hlt : at_ ys i < at_ ys (i - 1) := by
          rcases HX.out with h | h
          · exact absurd h hie
          · exact h.2
        have hie1 : ((i : Int) == (b : Int)) = false := by simp; omega
        have hie2 : decide ((i : Int) = (b : Int)) = false := decide_eq_false (by omega)
        have hie3 : decide (i = b) = false := decide_eq_false hie
        have HLT := Lib.hid hlt
        have hilt : i < b := by omega
        clear hlt HX
        by_cases h50 : (b : Int) - (a : Int) < 50
        · go_wp2_with fail
          go_ret
          exact ⟨false, ys, rfl, HI.out, fun h => (by cases h), HST.out.row, HST.out.grown⟩
        · have c0 := rowU_cell HST.out.row i (by have := HYL.out; omega)
          have d0 := rowU_cell HST.out.row (i - 1) (by have := HYL.out; omega)
          have f0 := HST.out.row.frozen i
          have g0 := HST.out.row.frozen (i - 1)
          have HST2 := Lib.hid (HST.out.swap i (i - 1))
          have HI2 := Lib.hid (HI.out.trans (InR.swq (a := a) (b := b) (i := i) (j := i - 1) (by have := HYL.out; omega) (by omega) (by omega) (by omega) (by omega)))
          have HY2 := Lib.hid (show (swq ys i (i - 1)).length = N from by rw [swq_len]; exact HYL.out)
          have HS2 := Lib.hid (show SortR a (i - 1) (swq ys i (i - 1)) from SortR.kept (fun p q h1 h2 h3 => HS.out p q h1 h2 (by omega)) (fun k h1 h2 => by rw [at_swq (by have := HYL.out; omega) (by have := HYL.out; omega), if_neg (by omega), if_neg (by omega)]))
          generalize swq ys i (i - 1) = zs at *
          go_wp2_with fail
          have w1 : IntKind.i64.wrap ((i : Int) - 1) = (i : Int) - 1 := IntWalk.i64_in _ (by omega)
          have p1 : (0 : Int) ≤ (i : Int) - 1 := by omega
          have p1' : (1 : Int) ≤ (i : Int) := by omega
          have q1 : ((i : Int) - 1).toNat = i - 1 := by omega
          have r1 : (i : Int) - 1 < (N : Int) := by omega
          have r2 : (i : Int) < (N : Int) := by omega
          have hne : ¬ i = i - 1 := by omega
          go_region
          clear c0 d0 f0 g0 w1 p1 p1' q1 r1 r2 hne hie1 hie2 hie3 HST HI HYL HS HLT
          go_upto_if 61 with (fail)
          go_cut [] (fun wx => ∃ zs2 : List Int, Hid (SortR a i zs2) ∧ Hid (InR a b xs zs2) ∧ RowSt g cap w wx zs2)
          case first =>
            by_cases hia : (2 : Int) ≤ (i : Int) - (a : Int)
            · obtain ⟨i1, hi1⟩ : ∃ i1, i1 = i - 1 := ⟨_, rfl⟩
              have ei1 : (i : Int) - 1 = (i1 : Int) := by omega
              have HIN := Lib.hid (show InsR a i1 i1 zs from by rw [hi1]; exact InsR.start HS2.out (by omega))
              have hi1' : i1 + 1 = i := by omega
              have HI1 := Lib.hid hi1'
              clear hi1
              go_wp2_with fail
              clear ei1
              go_loopg [9] i1 (fun gk jv wr => ∃ (j : Nat) (us : List Int), gk = j ∧ a ≤ j ∧ j ≤ i1 ∧ jv = .int .i64 j ∧ Hid (InsR a i1 j us) ∧ Hid (InR a b xs us) ∧ RowSt g cap w wr us)
              case atStart => exact ⟨i1, zs, rfl, by omega, Nat.le_refl _, rfl, HIN, HI2, HST2.out⟩
              case round =>
                obtain ⟨j, us, hjk, haj, hji, rfl, HIN2, HI3, hst⟩ := hrel
                have HST3 := Lib.hid hst
                have HY3 := Lib.hid (show us.length = N from by rw [HI3.out.len]; exact HN.out)
                clear hst HST2 HI2 HIN HS2 HY2
                by_cases hj1 : 1 ≤ j
                · have hj1' : (1 : Int) ≤ (j : Int) := by omega
                  have c0 := rowU_cell HST3.out.row j (by have := HY3.out; omega)
                  have d0 := rowU_cell HST3.out.row (j - 1) (by have := HY3.out; omega)
                  have w1 : IntKind.i64.wrap ((j : Int) - 1) = (j : Int) - 1 := IntWalk.i64_in _ (by omega)
                  have p1 : (0 : Int) ≤ (j : Int) - 1 := by omega
                  have q1 : ((j : Int) - 1).toNat = j - 1 := by omega
                  have r1 : (j : Int) - 1 < (N : Int) := by omega
                  have r2 : (j : Int) < (N : Int) := by omega
                  by_cases hs : at_ us j < at_ us (j - 1)
                  · have haj2 : a < j := by
                      rcases Nat.lt_or_eq_of_le haj with h | h
                      · exact h
                      · exfalso
                        have hlw := HLOW.out.kept HI3.out (by have := HN.out; omega) (by omega) a (Nat.le_refl _) hab
                        rw [h] at hlw
                        omega
                    have HL := Lib.hid hs
                    clear hs
                    go_wp2_with fail
                    go_quiet ((go_at_call 123; exact Calls.quiet_of_same (less_t HL.out _)))
                    have HST4 := Lib.hid (HST3.out.drewN nq)
                    generalize wr.drewN nq = wq at *
                    clear c0 d0 HST3
                    have c0 := rowU_cell HST4.out.row j (by have := HY3.out; omega)
                    have d0 := rowU_cell HST4.out.row (j - 1) (by have := HY3.out; omega)
                    have f0 := HST4.out.row.frozen j
                    have g0 := HST4.out.row.frozen (j - 1)
                    have hne : ¬ j = j - 1 := by omega
                    have HST5 := Lib.hid (HST4.out.swap j (j - 1))
                    go_wp2_with fail
                    go_region
                    clear c0 d0 f0 g0 w1 p1 q1 r1 r2 hne HST4
                    go_wp2
                    go_roundg (j - 1)
                    case measure => omega
                    case rel => exact ⟨j - 1, swq us j (j - 1), rfl, by omega, by omega, by go_num, Lib.hid (HIN2.out.step haj2 (by have := HY3.out; omega) HL.out), Lib.hid (HI3.out.trans (InR.swq (by have := HY3.out; omega) (by omega) (by omega) (by omega) (by omega))), HST5.out⟩
                  · have HL := Lib.hid (Int.not_lt.1 hs)
                    clear hs
                    go_wp2_with fail
                    go_quiet ((go_at_call 123; exact Calls.quiet_of_same (less_f HL.out _)))
                    clear c0 d0 w1 p1 q1 r1 r2
                    have HST4 := Lib.hid (HST3.out.drewN nq)
                    go_wp2_with fail
                    go_meet
                    exact ⟨us, Lib.hid (by have := HIN2.out.done (.inr HL.out); rwa [HI1.out] at this), HI3, HST4.out⟩
                · have hj1' : ¬ (1 : Int) ≤ (j : Int) := by omega
                  have hja : j = a := by omega
                  have HJA := Lib.hid hja
                  clear hja
                  go_wp2_with fail
                  go_meet
                  exact ⟨us, Lib.hid (by have := HIN2.out.done (.inl HJA.out); rwa [HI1.out] at this), HI3, HST3.out⟩
            · have hia1 : i = a + 1 := by omega
              have HIA := Lib.hid hia1
              clear hia1
              go_wp2_with fail
              go_meet
              exact ⟨zs, Lib.hid (SortR.small (by have := HIA.out; omega) _), HI2, HST2.out⟩
          case rest =>
          obtain ⟨zs2, HS3, HI3, hst⟩ := hcut
          have HST3 := Lib.hid hst
          clear hst HST2 HI2 HS2 HY2
          by_cases hbi : (2 : Int) ≤ (b : Int) - (i : Int)
          · go_wp2_with fail
            obtain ⟨g1, rfl⟩ : ∃ g1 : Nat, g1 = gk := ⟨_, rfl⟩
            go_loopg [10] (b - (i + 1)) (fun gk jv wr => ∃ (j : Nat) (us : List Int), j + gk = b ∧ i < j ∧ jv = .int .i64 j ∧ Hid (SortR a i us) ∧ Hid (InR a b xs us) ∧ RowSt g cap w wr us)
            case atStart => exact ⟨i + 1, zs2, by omega, by omega, by go_num, HS3, HI3, HST3.out⟩
            case round =>
              obtain ⟨j, us, hjk, hij, rfl, HS4, HI4, hst⟩ := hrel
              have HST4 := Lib.hid hst
              have HY4 := Lib.hid (show us.length = N from by rw [HI4.out.len]; exact HN.out)
              clear hst HST3 HI3 HS3
              by_cases hjb : j < b
              · have hjb' : (j : Int) < (b : Int) := by omega
                have c0 := rowU_cell HST4.out.row j (by have := HY4.out; omega)
                have d0 := rowU_cell HST4.out.row (j - 1) (by have := HY4.out; omega)
                have w1 : IntKind.i64.wrap ((j : Int) - 1) = (j : Int) - 1 := IntWalk.i64_in _ (by omega)
                have p1 : (0 : Int) ≤ (j : Int) - 1 := by omega
                have p1' : (1 : Int) ≤ (j : Int) := by omega
                have q1 : ((j : Int) - 1).toNat = j - 1 := by omega
                have r1 : (j : Int) - 1 < (N : Int) := by omega
                have r2 : (j : Int) < (N : Int) := by omega
                by_cases hs : at_ us j < at_ us (j - 1)
                · have HL := Lib.hid hs
                  clear hs
                  go_wp2_with fail
                  go_quiet ((go_at_call 123; exact Calls.quiet_of_same (less_t HL.out _)))
                  have HST5 := Lib.hid (HST4.out.drewN nq)
                  generalize wr.drewN nq = wq at *
                  clear c0 d0 HST4
                  have c0 := rowU_cell HST5.out.row j (by have := HY4.out; omega)
                  have d0 := rowU_cell HST5.out.row (j - 1) (by have := HY4.out; omega)
                  have f0 := HST5.out.row.frozen j
                  have g0 := HST5.out.row.frozen (j - 1)
                  have hne : ¬ j = j - 1 := by omega
                  have HST6 := Lib.hid (HST5.out.swap j (j - 1))
                  go_wp2_with fail
                  go_region
                  clear c0 d0 f0 g0 w1 p1 p1' q1 r1 r2 hne HST5
                  go_wp2
                  go_roundg (gk - 1)
                  case measure => omega
                  case rel => exact ⟨j + 1, swq us j (j - 1), by omega, by omega, by go_num, Lib.hid (SortR.kept HS4.out (fun k h1 h2 => by rw [at_swq (by have := HY4.out; omega) (by have := HY4.out; omega), if_neg (by omega), if_neg (by omega)])), Lib.hid (HI4.out.trans (InR.swq (by have := HY4.out; omega) (by omega) (by omega) (by omega) (by omega))), HST6.out⟩
                · have HL := Lib.hid (Int.not_lt.1 hs)
                  clear hs
                  go_wp2_with fail
                  go_quiet ((go_at_call 123; exact Calls.quiet_of_same (less_f HL.out _)))
                  clear c0 d0 w1 p1 p1' q1 r1 r2
                  have HST5 := Lib.hid (HST4.out.drewN nq)
                  go_wp2
                  go_roundg (g1 - 1)
                  case measure => omega
                  case rel => exact ⟨i, jj + 1, us, by omega, hai, hib, rfl, by go_num, HS4, HI4, HST5.out⟩
              · have hjb' : ¬ (j : Int) < (b : Int) := by omega
                go_wp2
                go_roundg (g1 - 1)
                case measure => omega
                case rel => exact ⟨i, jj + 1, us, by omega, hai, hib, rfl, by go_num, HS4, HI4, HST4.out⟩
          · go_wp2
            go_roundg (gk - 1)
            case measure => omega
            case rel => exact ⟨i, jj + 1, zs2, by omega, hai, hib, rfl, by go_num, HS3, HI3, HST3.out⟩
    · have hj5' : ¬ (jj : Int) < 5 := by omega
      go_wp2
      go_ret
      exact ⟨false, ys, rfl, HI.out, fun h => (by cases h), HST0.out.row, HST0.out.grown⟩
end Go.Proofs.YtchcelodeepjdaaGreatDoor.Vx

namespace Go.Proofs
open Go.Shelf
def Tryz.sortPoint_ren : Go.Shelf.Ren := ⟨fun | 6 => 92 | 15 => 101 | 14 => 111 | 28 => 126 | 29 => 127 | 20 => 130 | 21 => 131 | 22 => 132 | 23 => 133 | 24 => 134 | 25 => 135 | 26 => 136 | 27 => 137 | 46 => 154 | 47 => 146 | 48 => 147 | 49 => 155 | 50 => 156 | 57 => 166 | n => n, fun | 22 => 30 | 24 => 57 | 25 => 162 | 3 => 3 | 39 => 171 | 0 => 0 | 53 => 49 | 55 => 26 | 4 => 4 | 46 => 185 | 45 => 184 | 50 => 179 | 5 => 5 | 9 => 9 | 66 => 206 | 70 => 209 | 76 => 221 | 77 => 222 | n => n, fun | n => n⟩
theorem Tryz.sortPoint : Go.Proofs.SlLaysF0.n6 Tryz.prog Tryz.sortPoint_ren := {
  mixed := by kernel_rfl
  f6 := ⟨Tryz.f92.name, by decide, Tryz.func92.trans (congrArg some (by kernel_rfl))⟩
  f14 := ⟨Tryz.f111.name, by decide, Tryz.func111.trans (congrArg some (by kernel_rfl))⟩
  f15 := Tryz.func101.trans (congrArg some (by kernel_rfl))
  f20 := ⟨Tryz.f130.name, by decide, Tryz.func130.trans (congrArg some (by kernel_rfl))⟩
  f21 := ⟨Tryz.f131.name, by decide, Tryz.func131.trans (congrArg some (by kernel_rfl))⟩
  f22 := ⟨Tryz.f132.name, by decide, Tryz.func132.trans (congrArg some (by kernel_rfl))⟩
  f23 := ⟨Tryz.f133.name, by decide, Tryz.func133.trans (congrArg some (by kernel_rfl))⟩
  f24 := ⟨Tryz.f134.name, by decide, Tryz.func134.trans (congrArg some (by kernel_rfl))⟩
  f25 := ⟨Tryz.f135.name, by decide, Tryz.func135.trans (congrArg some (by kernel_rfl))⟩
  f26 := ⟨Tryz.f136.name, by decide, Tryz.func136.trans (congrArg some (by kernel_rfl))⟩
  f27 := ⟨Tryz.f137.name, by decide, Tryz.func137.trans (congrArg some (by kernel_rfl))⟩
  f28 := Tryz.func126.trans (congrArg some (by kernel_rfl))
  f29 := Tryz.func127.trans (congrArg some (by kernel_rfl))
  f46 := ⟨Tryz.f154.name, by decide, Tryz.func154.trans (congrArg some (by kernel_rfl))⟩
  f47 := Tryz.func146.trans (congrArg some (by kernel_rfl))
  f48 := Tryz.func147.trans (congrArg some (by kernel_rfl))
  f49 := ⟨Tryz.f155.name, by decide, Tryz.func155.trans (congrArg some (by kernel_rfl))⟩
  f50 := ⟨Tryz.f156.name, by decide, Tryz.func156.trans (congrArg some (by kernel_rfl))⟩
  f57 := ⟨Tryz.f166.name, by decide, Tryz.func166.trans (congrArg some (by kernel_rfl))⟩
  t0 := Tryz.underlying0
  a0 := Tryz.isAgg0
  z0 := Tryz.sizeOf0
  v0 := Tryz.zeroValue0
  t3 := Tryz.underlying3
  a3 := Tryz.isAgg3
  z3 := Tryz.sizeOf3
  v3 := Tryz.zeroValue3
  t4 := Tryz.underlying4
  a4 := Tryz.isAgg4
  z4 := Tryz.sizeOf4
  v4 := Tryz.zeroValue4
  t5 := Tryz.underlying5
  a5 := Tryz.isAgg5
  z5 := Tryz.sizeOf5
  v5 := Tryz.zeroValue5
  t9 := Tryz.underlying9
  a9 := Tryz.isAgg9
  z9 := Tryz.sizeOf9
  v9 := Tryz.zeroValue9
  t22 := Tryz.underlying30
  a22 := Tryz.isAgg30
  z22 := Tryz.sizeOf30
  v22 := Tryz.zeroValue30
  t25 := Tryz.underlying162
  a25 := Tryz.isAgg162
  z25 := Tryz.sizeOf162
  v25 := Tryz.zeroValue162
  t39 := Tryz.underlying171
  a39 := Tryz.isAgg171
  z39 := Tryz.sizeOf171
  v39 := Tryz.zeroValue171
  t45 := Tryz.underlying184
  a45 := Tryz.isAgg184
  z45 := Tryz.sizeOf184
  v45 := Tryz.zeroValue184
  t46 := Tryz.underlying185
  a46 := Tryz.isAgg185
  z46 := Tryz.sizeOf185
  v46 := Tryz.zeroValue185
  t50 := Tryz.underlying179
  a50 := Tryz.isAgg179
  z50 := Tryz.sizeOf179
  v50 := Tryz.zeroValue179
  t53 := Tryz.underlying49
  a53 := Tryz.isAgg49
  z53 := Tryz.sizeOf49
  v53 := Tryz.zeroValue49
  t55 := Tryz.underlying26
  a55 := Tryz.isAgg26
  z55 := Tryz.sizeOf26
  v55 := Tryz.zeroValue26
  t66 := Tryz.underlying206
  a66 := Tryz.isAgg206
  z66 := Tryz.sizeOf206
  v66 := Tryz.zeroValue206
  t70 := Tryz.underlying209
  a70 := Tryz.isAgg209
  z70 := Tryz.sizeOf209
  v70 := Tryz.zeroValue209
  t76 := Tryz.underlying221
  a76 := Tryz.isAgg221
  z76 := Tryz.sizeOf221
  v76 := Tryz.zeroValue221
  t77 := Tryz.underlying222
  a77 := Tryz.isAgg222
  z77 := Tryz.sizeOf222
  v77 := Tryz.zeroValue222 }
end Go.Proofs

namespace Go.Proofs.YtchcelodeepjdaaGreatDoor.Vx
open Go.RowKit Go.Herb Go.Shelf Go.Sort Go.Lib

theorem grown_setNew {a b : World} {row : Option Nat} {n : Nat} (h : a.grownBy b row) (hn : a.heap.size ≤ n) (v : Value) : a.grownBy (b.setCell ⟨n, 0, none⟩ v) row :=
  ⟨h.os, h.tape, h.output, by simpa using h.size, fun i hi hr => (Below.heap_setCell b ⟨n, 0, none⟩ v i (by show i ≠ n; omega)).trans (h.block i hi hr)⟩

/-- The row; the random number in its cell. -/
structure RndSt (g cap rb r : Nat) (w wr : World) (ys : List Int) : Prop where
  row : RowU wr g cap ys
  rnd : wr.heap[rb]? = some (.cells #[.int .u64 r] (206) (0, 0))
  lt : r < 18446744073709551616
  grown : w.grownBy wr (some g)
  ne : rb ≠ g
  new : w.heap.size ≤ rb
theorem RndSt.swap {g cap rb r : Nat} {w wr : World} {ys : List Int} (h : RndSt g cap rb r w wr ys) (i j : Nat) : RndSt g cap rb r w ((wr.setCell ⟨g, i, none⟩ (.int .u64 (at_ ys j))).setCell ⟨g, j, none⟩ (.int .u64 (at_ ys i))).drew (swq ys i j) :=
  ⟨rowU_drew (rowU_swap h.row i j), blk_setCell_other (a := ⟨g, j, none⟩) (blk_setCell_other (a := ⟨g, i, none⟩) h.rnd h.ne _) h.ne _, h.lt, grown_drew (grown_set (grown_set h.grown _ _) _ _), h.ne, h.new⟩
theorem RndSt.next {g cap rb r : Nat} {w wr : World} {ys : List Int} (h : RndSt g cap rb r w wr ys) (r' n : Nat) (hr : r' < 18446744073709551616) : RndSt g cap rb r' w ((wr.setCell ⟨rb, 0, none⟩ (.int .u64 r')).drewN n) ys :=
  ⟨rowU_drewN (h.row.same (Below.heap_setCell wr ⟨rb, 0, none⟩ _ g (fun e => h.ne e.symm))) n, by have := blk_setCell (j := 0) h.rnd (.int .u64 r'); simpa using this, hr, grown_drewN (grown_setNew h.grown h.new _) n, h.ne, h.new⟩

set_option maxRecDepth 100000 in
set_option maxHeartbeats 4000000 in
theorem breakPatterns_any (g cap a b N : Nat) (xs : List Int) (hN : xs.length = N) (hb : b ≤ N) (hab : a + 12 < b) (w : World) (h : RowU w g cap xs) (hl : N < 1000000) :
    Calls Tryz.prog (119) #[.slice (some ⟨g, 0, none⟩) N cap, .int .i64 a, .int .i64 b] w (RowPost a b (fun _ => True) g cap xs w) := by
  obtain ⟨n, hn⟩ : ∃ n, n = b - a := ⟨_, rfl⟩
  obtain ⟨k0, hk0⟩ : ∃ k0, k0 = a + n / 4 * 2 - 1 := ⟨_, rfl⟩
  have en : (b : Int) - (a : Int) = (n : Int) := by omega
  have ek : (a : Int) + (n : Int) / 4 * 2 - 1 = (k0 : Int) := by omega
  have ek2 : (a : Int) + (n : Int) / 4 * 2 + 1 = (k0 : Int) + 2 := by omega
  have hn8 : (8 : Int) ≤ (n : Int) := by omega
  have hk : a ≤ k0 ∧ k0 + 3 ≤ a + n := by omega
  have hanN : a + n ≤ N := by omega
  have HB := Lib.hid (show a + n = b by omega)
  have hgl := h.lt
  have HN := Lib.hid hN
  have HST0 : Hid (RndSt g cap w.heap.size n w (w.alloc (.cells #[.int .u64 n] (206))) xs) := Lib.hid ⟨h.below ((Below.refl _ _).alloc (Nat.le_refl _) _), blk_new_at rfl _, by omega, grown_alloc (grown_refl _ _) _, by omega, Nat.le_refl _⟩
  have hNP : ∀ u, Calls Tryz.prog (146) #[.int .i64 n] u fun e w' => e = .returned (.int .u64 ((1 <<< bitsLen n : Nat) : Int)) ∧ w' = u := fun u => AnyF.nextPowerOfTwo (P := Tryz.prog) (ρ := Tryz.sortPoint_ren) { Tryz.sortPoint with } n (by omega) u
  obtain ⟨M, hM⟩ : ∃ M : Nat, M = 1 <<< bitsLen n := ⟨_, rfl⟩
  have hM1 : n < M := by rw [hM, Nat.one_shiftLeft]; exact lt_two_pow_bitsLen n
  have hM2 : M ≤ 2 * n := by rw [hM, Nat.one_shiftLeft]; exact two_pow_bitsLen_le (by omega)
  have ww : IntKind.u64.wrap (n : Int) = (n : Int) := by rw [IntKind.wrap_u64]; omega
  rw [← hM] at hNP
  clear hM h hN hn hk0 hab hb
  go_enter Tryz.func119, Tryz.ntmps119
  go_wp2_with (first | (go_at_call 146; refine (hNP _).mono ?_; rintro e w' ⟨rfl, rfl⟩))
  clear en ek ww hNP
  go_loopg [9] 3 (fun gk iv wr => ∃ (t r : Nat) (ys : List Int), t + gk = 3 ∧ t ≤ 3 ∧ iv = .int .i64 ((k0 : Int) + (t : Int)) ∧ Hid (InR a (a + n) xs ys) ∧ RndSt g cap w.heap.size r w wr ys)
  case atStart => exact ⟨0, n, xs, rfl, by omega, by simp, Lib.hid (InR.refl _ _ _), HST0.out⟩
  case round =>
    obtain ⟨t, r, ys, ht, ht3, rfl, HI, hst⟩ := hrel
    have HST := Lib.hid hst
    have HYL := Lib.hid (show ys.length = N from by rw [HI.out.len]; exact HN.out)
    clear hst HST0
    by_cases htt : t < 3
    · have hle : (k0 : Int) + (t : Int) ≤ (k0 : Int) + 2 := by omega
      obtain ⟨R', hR'⟩ : ∃ R' : Nat, R' = xorNextN r := ⟨_, rfl⟩
      have lR' : R' < 18446744073709551616 := by rw [hR']; exact xorNextN_lt r HST.out.lt
      have hNext : Calls Tryz.prog (147) #[.pointer (some ⟨w.heap.size, 0, none⟩)] wr fun e w' => e = .returned (.int .u64 (R' : Int)) ∧ w' = (wr.setCell ⟨w.heap.size, 0, none⟩ (.int .u64 (R' : Int))).drewN 3 := by
        rw [hR']; exact AnyF.xorshift_Next (P := Tryz.prog) (ρ := Tryz.sortPoint_ren) { Tryz.sortPoint with } _ _ r HST.out.lt wr (by rw [cell_of_blk HST.out.rnd]; rfl) (frozen_of_blk HST.out.rnd _)
      have HST2 := Lib.hid (HST.out.next R' 3 lR')
      generalize (wr.setCell ⟨w.heap.size, 0, none⟩ (.int .u64 (R' : Int))).drewN 3 = w2 at hNext HST2
      obtain ⟨O, hO⟩ : ∃ O : Nat, O = R' &&& (M - 1) := ⟨_, rfl⟩
      have lO : O ≤ M - 1 := by rw [hO]; exact Nat.and_le_right
      have eAnd : bits .and .u64 (R' : Int) ((M : Int) - 1) = (O : Int) := by
        rw [show ((M : Int) - 1) = ((M - 1 : Nat) : Int) by omega, bits_and_u64_nat _ _ lR' (by omega), hO]
      clear HST hO hR'
      by_cases hLO : n ≤ O
      · have hLOz : (n : Int) ≤ (O : Int) := by omega
        obtain ⟨o2, ho2⟩ : ∃ o2 : Nat, o2 = O - n := ⟨_, rfl⟩
        have eo2 : (O : Int) - (n : Int) = (o2 : Int) := by omega
        have lo2 : o2 < n := by omega
        clear ho2
        go_wp2_with (first | (go_at_call 147; refine hNext.mono ?_; rintro e w' ⟨rfl, hw'⟩; obtain rfl : w2 = w' := hw'.symm))
        clear eo2 hLOz hLO eAnd hle hNext
        by_cases hpq : k0 + t = a + o2
        · have c0 := rowU_cell HST2.out.row (k0 + t) (by have := HYL.out; omega)
          have f0 := HST2.out.row.frozen (k0 + t)
          have r0 : (k0 : Int) + (t : Int) < (N : Int) := by omega
          have p0 : (0 : Int) ≤ (k0 : Int) + (t : Int) := by omega
          have q0 : ((k0 : Int) + (t : Int)).toNat = k0 + t := by omega
          have w1 : IntKind.i64.wrap ((a : Int) + (o2 : Int)) = (a : Int) + (o2 : Int) := IntWalk.i64_in _ (by omega)
          have w0 : IntKind.i64.wrap ((k0 : Int) + (t : Int)) = (k0 : Int) + (t : Int) := IntWalk.i64_in _ (by omega)
          have p1 : (0 : Int) ≤ (a : Int) + (o2 : Int) := by omega
          have q1 : ((a : Int) + (o2 : Int)).toNat = k0 + t := by omega
          have r1 : (a : Int) + (o2 : Int) < (N : Int) := by omega
          have HST3 := Lib.hid (HST2.out.swap (k0 + t) (k0 + t))
          have HI3 := Lib.hid (HI.out.trans (InR.swq (a := a) (b := a + n) (xs := ys) (i := k0 + t) (j := k0 + t) (by have := HYL.out; omega) (by omega) (by omega) (by omega) (by omega)))
          clear hpq
          go_wp2_with fail
          go_region
          clear c0 f0 r0 p0 q0 w0 w1 p1 q1 r1 HST2
          go_wp2
          go_roundg (gk - 1)
          case measure => omega
          case rel => exact ⟨t + 1, R', swq ys (k0 + t) (k0 + t), by omega, by omega, by go_num, HI3, HST3.out⟩
        · have c0 := rowU_cell HST2.out.row (k0 + t) (by have := HYL.out; omega)
          have f0 := HST2.out.row.frozen (k0 + t)
          have r0 : (k0 : Int) + (t : Int) < (N : Int) := by omega
          have p0 : (0 : Int) ≤ (k0 : Int) + (t : Int) := by omega
          have q0 : ((k0 : Int) + (t : Int)).toNat = k0 + t := by omega
          have d0 := rowU_cell HST2.out.row (a + o2) (by have := HYL.out; omega)
          have g0 := HST2.out.row.frozen (a + o2)
          have hne : ¬ k0 + t = a + o2 := hpq
          have w1 : IntKind.i64.wrap ((a : Int) + (o2 : Int)) = (a : Int) + (o2 : Int) := IntWalk.i64_in _ (by omega)
          have w0 : IntKind.i64.wrap ((k0 : Int) + (t : Int)) = (k0 : Int) + (t : Int) := IntWalk.i64_in _ (by omega)
          have p1 : (0 : Int) ≤ (a : Int) + (o2 : Int) := by omega
          have q1 : ((a : Int) + (o2 : Int)).toNat = a + o2 := by omega
          have r1 : (a : Int) + (o2 : Int) < (N : Int) := by omega
          have HST3 := Lib.hid (HST2.out.swap (k0 + t) (a + o2))
          have HI3 := Lib.hid (HI.out.trans (InR.swq (a := a) (b := a + n) (xs := ys) (i := k0 + t) (j := a + o2) (by have := HYL.out; omega) (by omega) (by omega) (by omega) (by omega)))
          clear hpq
          go_wp2_with fail
          go_region
          clear c0 f0 r0 p0 q0 w0 w1 p1 q1 r1 HST2 d0 g0 hne
          go_wp2
          go_roundg (gk - 1)
          case measure => omega
          case rel => exact ⟨t + 1, R', swq ys (k0 + t) (a + o2), by omega, by omega, by go_num, HI3, HST3.out⟩
      · have hLOz : ¬ (n : Int) ≤ (O : Int) := by omega
        have lo2 : O < n := by omega
        go_wp2_with (first | (go_at_call 147; refine hNext.mono ?_; rintro e w' ⟨rfl, hw'⟩; obtain rfl : w2 = w' := hw'.symm))
        clear hLOz hLO eAnd hle hNext
        by_cases hpq : k0 + t = a + O
        · have c0 := rowU_cell HST2.out.row (k0 + t) (by have := HYL.out; omega)
          have f0 := HST2.out.row.frozen (k0 + t)
          have r0 : (k0 : Int) + (t : Int) < (N : Int) := by omega
          have p0 : (0 : Int) ≤ (k0 : Int) + (t : Int) := by omega
          have q0 : ((k0 : Int) + (t : Int)).toNat = k0 + t := by omega
          have w1 : IntKind.i64.wrap ((a : Int) + (O : Int)) = (a : Int) + (O : Int) := IntWalk.i64_in _ (by omega)
          have w0 : IntKind.i64.wrap ((k0 : Int) + (t : Int)) = (k0 : Int) + (t : Int) := IntWalk.i64_in _ (by omega)
          have p1 : (0 : Int) ≤ (a : Int) + (O : Int) := by omega
          have q1 : ((a : Int) + (O : Int)).toNat = k0 + t := by omega
          have r1 : (a : Int) + (O : Int) < (N : Int) := by omega
          have HST3 := Lib.hid (HST2.out.swap (k0 + t) (k0 + t))
          have HI3 := Lib.hid (HI.out.trans (InR.swq (a := a) (b := a + n) (xs := ys) (i := k0 + t) (j := k0 + t) (by have := HYL.out; omega) (by omega) (by omega) (by omega) (by omega)))
          clear hpq
          go_wp2_with fail
          go_region
          clear c0 f0 r0 p0 q0 w0 w1 p1 q1 r1 HST2
          go_wp2
          go_roundg (gk - 1)
          case measure => omega
          case rel => exact ⟨t + 1, R', swq ys (k0 + t) (k0 + t), by omega, by omega, by go_num, HI3, HST3.out⟩
        · have c0 := rowU_cell HST2.out.row (k0 + t) (by have := HYL.out; omega)
          have f0 := HST2.out.row.frozen (k0 + t)
          have r0 : (k0 : Int) + (t : Int) < (N : Int) := by omega
          have p0 : (0 : Int) ≤ (k0 : Int) + (t : Int) := by omega
          have q0 : ((k0 : Int) + (t : Int)).toNat = k0 + t := by omega
          have d0 := rowU_cell HST2.out.row (a + O) (by have := HYL.out; omega)
          have g0 := HST2.out.row.frozen (a + O)
          have hne : ¬ k0 + t = a + O := hpq
          have w1 : IntKind.i64.wrap ((a : Int) + (O : Int)) = (a : Int) + (O : Int) := IntWalk.i64_in _ (by omega)
          have w0 : IntKind.i64.wrap ((k0 : Int) + (t : Int)) = (k0 : Int) + (t : Int) := IntWalk.i64_in _ (by omega)
          have p1 : (0 : Int) ≤ (a : Int) + (O : Int) := by omega
          have q1 : ((a : Int) + (O : Int)).toNat = a + O := by omega
          have r1 : (a : Int) + (O : Int) < (N : Int) := by omega
          have HST3 := Lib.hid (HST2.out.swap (k0 + t) (a + O))
          have HI3 := Lib.hid (HI.out.trans (InR.swq (a := a) (b := a + n) (xs := ys) (i := k0 + t) (j := a + O) (by have := HYL.out; omega) (by omega) (by omega) (by omega) (by omega)))
          clear hpq
          go_wp2_with fail
          go_region
          clear c0 f0 r0 p0 q0 w0 w1 p1 q1 r1 HST2 d0 g0 hne
          go_wp2
          go_roundg (gk - 1)
          case measure => omega
          case rel => exact ⟨t + 1, R', swq ys (k0 + t) (a + O), by omega, by omega, by go_num, HI3, HST3.out⟩
    · have hle : ¬ (k0 : Int) + (t : Int) ≤ (k0 : Int) + 2 := by omega
      go_wp2_with fail
      go_end0
      exact ⟨rfl, ys, by rw [← HB.out]; exact HI.out, trivial, HST.out.row, HST.out.grown⟩
end Go.Proofs.YtchcelodeepjdaaGreatDoor.Vx
