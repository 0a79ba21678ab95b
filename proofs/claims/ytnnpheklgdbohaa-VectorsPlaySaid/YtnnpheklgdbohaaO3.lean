/- Rows of numbers (uint64); cmp.Less, slices.insertionSortOrdered at uint64. Condition: fewer than 1000000 numbers. -/
import Derived.Test.YtnnpheklgdbohaaO2
import Derived.Test.YtnnpheklgdbohaaRow
import Derived.WalkKit
import Derived.WalkSpells
import Derived.WalkLawsBesides
import Derived.Deep.QuietTactic
import Derived.Deep.LoopGhost
import Derived.BigQuiet
import Derived.Lib.Hide
import Derived.IntWalk
import Derived.Deep.RegionHeld3
import Derived.Test.YtnnpheklgdbohaaProg
namespace Go.Proofs.Ytnnpheklgdbohaa
open Go.RowKit Go.Herb

def nu (x : Int) : List Value := [.int .u64 x]
theorem nu_len (x : Int) : (nu x).length = 1 := rfl
theorem nu_one (x : Int) : nu x = [(fun m : Int => Value.int .u64 m) x] := rfl
abbrev RowU (w : World) (g cap : Nat) (xs : List Int) : Prop := Row nu 1 (29) w g cap xs
theorem rowU_cell {w : World} {g cap : Nat} {xs : List Int} (h : RowU w g cap xs) (i : Nat) (hi : i < xs.length) : w.cell? ⟨g, i, none⟩ = some (.int .u64 (at_ xs i)) := by
  rw [at_get hi]
  have := h.cell nu_len i hi 0 _ rfl
  simpa using this
theorem flat_nu (xs : List Int) : xs.flatMap nu = xs.map (fun m => Value.int .u64 m) := by
  induction xs with
  | nil => rfl
  | cons x xs ih => rw [List.flatMap_cons, List.map_cons, ih]; rfl
theorem rowU_set {w : World} {g cap : Nat} {xs : List Int} (h : RowU w g cap xs) (i : Nat) (x : Int) : RowU (w.setCell ⟨g, i, none⟩ (.int .u64 x)) g cap (xs.set i x) := by
  obtain ⟨cur, hc, hsz, htk⟩ := h.blk
  refine ⟨⟨_, blk_setCell hc _, by simpa using hsz, ?_⟩, by simpa using h.le, h.max⟩
  rw [flat_nu] at htk ⊢
  rw [Array.toList_setIfInBounds, List.length_set, List.take_set, htk, List.map_set]
theorem rowU_swap {w : World} {g cap : Nat} {xs : List Int} (h : RowU w g cap xs) (i j : Nat) : RowU ((w.setCell ⟨g, i, none⟩ (.int .u64 (at_ xs j))).setCell ⟨g, j, none⟩ (.int .u64 (at_ xs i))) g cap (swq xs i j) := rowU_set (rowU_set h i _) j _
theorem rowU_drew {w : World} {g cap : Nat} {xs : List Int} (h : RowU w g cap xs) : RowU w.drew g cap xs := h.same rfl
theorem rowU_drewN {w : World} {g cap : Nat} {xs : List Int} (h : RowU w g cap xs) (n : Nat) : RowU (w.drewN n) g cap xs := h.same rfl
theorem grown_drewN {a b : World} {row : Option Nat} (h : a.grownBy b row) (n : Nat) : a.grownBy (b.drewN n) row := ⟨h.os, h.tape, h.output, h.size, h.block⟩

theorem isNaN_u (a : Int) (w : World) : Calls Try.prog (72) #[.int .u64 a] w fun e w' => e = .returned (.bool false) ∧ w = w' := by
  go_enter Try.func72, Try.ntmps72
  go_wp2
  go_ret
  exact ⟨rfl, rfl⟩
theorem less_t {a b : Int} (h : a < b) (w : World) : Calls Try.prog (79) #[.int .u64 a, .int .u64 b] w fun e w' => e = .returned (.bool true) ∧ w' = w := by
  have hd : decide (a < b) = true := decide_eq_true h
  clear h
  go_enter Try.func79, Try.ntmps79
  go_wp2_with (go_at_call 72; refine (isNaN_u _ _).mono ?_; rintro e w' ⟨rfl, rfl⟩)
  go_ret
  exact ⟨rfl, rfl⟩
theorem less_f {a b : Int} (h : b ≤ a) (w : World) : Calls Try.prog (79) #[.int .u64 a, .int .u64 b] w fun e w' => e = .returned (.bool false) ∧ w' = w := by
  have hd : decide (a < b) = false := decide_eq_false (by omega)
  clear h
  go_enter Try.func79, Try.ntmps79
  go_wp2_with (go_at_call 72; refine (isNaN_u _ _).mono ?_; rintro e w' ⟨rfl, rfl⟩)
  go_ret
  exact ⟨rfl, rfl⟩

/-- Nothing is answered; only in a part of the row have places changed, and so. -/
def RowPost (a b : Nat) (Q : List Int → Prop) (g cap : Nat) (xs : List Int) (w : World) (e : Ending) (w' : World) : Prop :=
  e = .returned (.tuple #[]) ∧ ∃ ys, InR a b xs ys ∧ Q ys ∧ RowU w' g cap ys ∧ w.grownBy w' (some g)

set_option maxHeartbeats 2000000 in
theorem insertion_any (g cap a b N : Nat) (xs : List Int) (hN : xs.length = N) (hbN : b ≤ N) (w : World) (h : RowU w g cap xs) (hl : N < 1000000) (hab : a ≤ b) :
    Calls Try.prog (73) #[.slice (some ⟨g, 0, none⟩) N cap, .int .i64 a, .int .i64 b] w (RowPost a b (SortR a b) g cap xs w) := by
  have H := Lib.hid h
  have HN := Lib.hid hN
  clear h hN
  go_enter Try.func73, Try.ntmps73
  go_wp2
  go_loopg [6] (b + 1 - a) (fun gk iv wr => ∃ (i : Nat) (ys : List Int), i + gk = b + 1 + 1 ∧ a < i ∧ i ≤ b + 1 ∧ iv = .int .i64 i ∧ SortR a (min i b) ys ∧ InR a b xs ys ∧ RowU wr g cap ys ∧ w.grownBy wr (some g))
  case atStart => exact ⟨a + 1, _, by omega, by omega, by omega, by go_num, SortR.small (by omega) _, InR.refl _ _ _, H.out, grown_refl _ _⟩
  case round =>
    obtain ⟨i, ys, hi, hai, hib, rfl, hs, hr, hR, hg⟩ := hrel
    have HS := Lib.hid hs
    have HR := Lib.hid hR
    have HG := Lib.hid hg
    have HI := Lib.hid hr
    clear hs hR hg hr
    by_cases hlt : i < b
    · obtain ⟨gi, rfl⟩ : ∃ gi : Nat, gi = gk := ⟨_, rfl⟩
      obtain ⟨wo, rfl⟩ : ∃ wo : World, wo = wr := ⟨_, rfl⟩
      have hin : InsR a i i ys := by
        have := HS.out
        rw [show min i b = i from by omega] at this
        exact InsR.start this (by omega)
      have HIN := Lib.hid hin
      clear hin
      go_wp2
      go_loopg [7] i (fun gk jv wr => ∃ (j : Nat) (zs : List Int), gk = j ∧ a ≤ j ∧ j ≤ i ∧ jv = .int .i64 j ∧ InsR a i j zs ∧ InR a b xs zs ∧ RowU wr g cap zs ∧ w.grownBy wr (some g))
      case atStart => exact ⟨i, ys, rfl, by omega, by omega, rfl, HIN.out, HI.out, HR.out, HG.out⟩
      case round =>
        obtain ⟨j, zs, hj, haj, hji, rfl, hins, hr2, hR2, hg2⟩ := hrel
        have hzl : zs.length = N := by rw [hr2.len]; exact HN.out
        have HI2 := Lib.hid hins
        have HQ2 := Lib.hid hr2
        have HR2 := Lib.hid hR2
        have HG2 := Lib.hid hg2
        by_cases hja : a < j
        · have c0 := rowU_cell hR2 j (by omega)
          have d0 := rowU_cell hR2 (j - 1) (by omega)
          have HZL := Lib.hid hzl
          clear hins hR2 hg2 hr2 hzl
          have hjb : decide (a < j) = true := by simp; omega
          have hw1 : IntKind.i64.wrap ((j : Int) - 1) = (j : Int) - 1 := IntWalk.i64_in _ (by omega)
          have hp1 : (0 : Int) ≤ (j : Int) - 1 := by omega
          have hp1' : (1 : Int) ≤ (j : Int) := by omega
          have hq1 : ((j : Int) - 1).toNat = j - 1 := by omega
          have hr1 : (j : Int) - 1 < (N : Int) := by omega
          have hr2 : (j : Int) < (N : Int) := by omega
          by_cases hs : at_ zs j < at_ zs (j - 1)
          · have HS2 := Lib.hid hs
            clear hs
            go_wp2_with fail
            go_quiet ((go_at_call 79; exact Calls.quiet_of_same (less_t HS2.out _)))
            have HRQ := Lib.hid (rowU_drewN HR2.out nq)
            have HGQ := Lib.hid (grown_drewN HG2.out nq)
            have c1 := rowU_cell HRQ.out j (by have := HZL.out; omega)
            have d1 := rowU_cell HRQ.out (j - 1) (by have := HZL.out; omega)
            have f0 := HRQ.out.frozen j
            have g0 := HRQ.out.frozen (j - 1)
            generalize wr.drewN nq = wq at *
            clear c0 d0
            have hne : ¬ j = j - 1 := by omega
            go_wp2
            go_region
            clear hw1 hp1 hp1' hq1 hr1 hr2 f0 g0 c1 d1
            go_wp2
            go_roundg (j - 1)
            case measure => omega
            case rel =>
              have hzl := HZL.out
              refine ⟨j - 1, swq zs j (j - 1), rfl, by omega, by omega, by go_num, InsR.step HI2.out hja (by omega) HS2.out, HQ2.out.trans (InR.swq (by omega) (by omega) (by omega) (by omega) (by omega)), ?_, ?_⟩
              · exact rowU_drew (rowU_swap HRQ.out j (j - 1))
              · exact grown_drew (grown_set (grown_set HGQ.out _ _) _ _)
          · have HS2 := Lib.hid (Int.not_lt.1 hs)
            clear hs
            go_wp2_with fail
            go_quiet ((go_at_call 79; exact Calls.quiet_of_same (less_f HS2.out _)))
            have HRQ := Lib.hid (rowU_drewN HR2.out nq)
            have HGQ := Lib.hid (grown_drewN HG2.out nq)
            clear hw1 hp1 hp1' hq1 hr1 hr2 c0 d0
            go_wp2
            go_roundg (gi - 1)
            case measure => omega
            case rel => exact ⟨i + 1, zs, by omega, by omega, by omega, by go_num, by rw [show min (i + 1) b = i + 1 from by omega]; exact HI2.out.done (.inr HS2.out), HQ2.out, HRQ.out, HGQ.out⟩
        · have hjb : decide (a < j) = false := by simp; omega
          clear hins hR2 hg2 hr2 hzl
          have hje : j = a := by omega
          have HJE := Lib.hid hje
          clear hje
          go_wp2_with fail
          go_quiet (fail)
          have HRQ := Lib.hid (rowU_drewN HR2.out nq)
          have HGQ := Lib.hid (grown_drewN HG2.out nq)
          go_wp2
          go_roundg (gi - 1)
          case measure => omega
          case rel => exact ⟨i + 1, zs, by omega, by omega, by omega, by go_num, by rw [show min (i + 1) b = i + 1 from by omega]; exact HI2.out.done (.inl HJE.out), HQ2.out, HRQ.out, HGQ.out⟩
    · have hie : i = b ∨ i = b + 1 := by omega
      go_wp2
      go_end0
      exact ⟨rfl, ys, HI.out, by have := HS.out; rwa [show min i b = b from by omega] at this, HR.out, HG.out⟩
end Go.Proofs.Ytnnpheklgdbohaa
