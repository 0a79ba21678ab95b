/- slices.siftDownOrdered, heapSortOrdered at uint64. Condition: fewer than 1000000 numbers. · slices.order2Ordered, medianOrdered, medianAdjacentOrdered, choosePivotOrdered at uint64. Condition: fewer than 1000000 numbers. · slices.heapSortOrdered, reverseRangeOrdered at uint64. Condition: fewer than 1000000 numbers. -/
import Derived.Test.YtchcelodeepjdaaGreatDoorO3
namespace Go.Proofs.YtchcelodeepjdaaGreatDoor.Vx
open Go.RowKit Go.Herb

/-- What holds of the row in a world, hidden. -/
structure RowSt (g cap : Nat) (w wr : World) (ys : List Int) : Prop where
  row : RowU wr g cap ys
  grown : w.grownBy wr (some g)
theorem RowSt.drewN {g cap : Nat} {w wr : World} {ys : List Int} (h : RowSt g cap w wr ys) (n : Nat) : RowSt g cap w (wr.drewN n) ys := ⟨rowU_drewN h.row n, grown_drewN h.grown n⟩
theorem RowSt.swap {g cap : Nat} {w wr : World} {ys : List Int} (h : RowSt g cap w wr ys) (i j : Nat) : RowSt g cap w ((wr.setCell ⟨g, i, none⟩ (.int .u64 (at_ ys j))).setCell ⟨g, j, none⟩ (.int .u64 (at_ ys i))).drew (swq ys i j) := ⟨rowU_drew (rowU_swap h.row i j), grown_drew (grown_set (grown_set h.grown _ _) _ _)⟩

set_option maxHeartbeats 4000000 in
theorem siftDown_any (g cap f lo hi N : Nat) (xs : List Int) (hN : xs.length = N) (hb : f + hi ≤ N) (hlo : lo ≤ N) (w : World) (h : RowU w g cap xs) (hl : N < 1000000) (hh : HeapR f (lo + 1) hi xs) :
    Calls Tryz.prog (145) #[.slice (some ⟨g, 0, none⟩) N cap, .int .i64 lo, .int .i64 hi, .int .i64 f] w (RowPost f (f + hi) (HeapR f lo hi) g cap xs w) := by
  have HS := Lib.hid (SiftR.start hh)
  have H : Hid (RowSt g cap w w xs) := Lib.hid ⟨h, grown_refl _ _⟩
  have HN := Lib.hid hN
  clear h hN hh
  go_enter Tryz.func145, Tryz.ntmps145
  go_wp2
  go_loopg [8] (hi + 1) (fun gk rv wr => ∃ (r : Nat) (ys : List Int), r + gk = lo + hi + 1 ∧ r ≤ lo + hi ∧ rv = .int .i64 r ∧ Hid (SiftR f lo hi r ys) ∧ Hid (InR f (f + hi) xs ys) ∧ RowSt g cap w wr ys)
  case atStart => exact ⟨lo, xs, by omega, by omega, rfl, HS, Lib.hid (InR.refl _ _ _), H.out⟩
  case round =>
    obtain ⟨r, ys, hr, hrl, rfl, HS2, HI2, hst⟩ := hrel
    clear HS H
    have hyl : ys.length = N := by rw [HI2.out.len]; exact HN.out
    have HST := Lib.hid hst
    have HYL := Lib.hid hyl
    clear hst hyl
    obtain ⟨c, hc⟩ : ∃ c, c = 2 * r + 1 := ⟨_, rfl⟩
    have e1 : (2 : Int) * (r : Int) + 1 = (c : Int) := by omega
    have HC := Lib.hid hc
    have hrc : r < c := by omega
    by_cases hch : c < hi
    · have hch' : (c : Int) < (hi : Int) := by omega
      have hgeq : decide ((hi : Int) ≤ (c : Int)) = false := decide_eq_false (by omega)
      have hgeq2 : decide (hi ≤ c) = false := decide_eq_false (by omega)
      clear hc
      go_wp2_with fail
      clear e1
      have cc := rowU_cell HST.out.row (f + c) (by have := HYL.out; omega)
      have w1 : IntKind.i64.wrap ((c : Int) + 1) = (c : Int) + 1 := IntWalk.i64_in _ (by omega)
      have w2 : IntKind.i64.wrap ((f : Int) + (c : Int)) = (f : Int) + (c : Int) := IntWalk.i64_in _ (by omega)
      have p2 : (0 : Int) ≤ (f : Int) + (c : Int) := by omega
      have q2 : ((f : Int) + (c : Int)).toNat = f + c := by omega
      have r2 : (f : Int) + (c : Int) < (N : Int) := by omega
      by_cases h2 : c + 1 < hi
      · have w3 : IntKind.i64.wrap ((f : Int) + (c : Int) + 1) = (f : Int) + (c : Int) + 1 := IntWalk.i64_in _ (by omega)
        have p3 : (0 : Int) ≤ (f : Int) + (c : Int) + 1 := by omega
        have q3 : ((f : Int) + (c : Int) + 1).toNat = f + c + 1 := by omega
        have r3 : (f : Int) + (c : Int) + 1 < (N : Int) := by omega
        have d2 : decide ((c : Int) + 1 < (hi : Int)) = true := decide_eq_true (by omega)
        have d2' : decide (c + 1 < hi) = true := decide_eq_true (by omega)
        have h2' : (c : Int) + 1 < (hi : Int) := by omega
        have dd := rowU_cell HST.out.row (f + c + 1) (by have := HYL.out; omega)
        by_cases hs : at_ ys (f + c) < at_ ys (f + c + 1)
        · have HL := Lib.hid hs
          clear hs
          go_quiet ((go_at_call 123; exact Calls.quiet_of_same (less_t HL.out _)))
          clear w1 w2 p2 q2 r2 w3 p3 q3 r3 d2 d2' h2' cc dd
          have HST2 := Lib.hid (HST.out.drewN nq)
          generalize wr.drewN nq = w3 at *
          clear HST hgeq hgeq2
          go_wp2_with fail
          obtain ⟨d, hd⟩ : ∃ d, d = c + 1 := ⟨_, rfl⟩
          have e2 : (c : Int) + 1 = (d : Int) := by omega
          rw [e2]
          clear e2
          have HMX : Hid (∀ q, q < hi → (q = 2 * r + 1 ∨ q = 2 * r + 2) → at_ ys (f + q) ≤ at_ ys (f + d)) := Lib.hid (fun q hq hq2 => by
            have := HL.out
            have := HC.out
            subst hd
            rcases hq2 with hq2 | hq2
            · rw [show q = c by omega]; rw [show f + (c + 1) = f + c + 1 from by omega]; omega
            · rw [show q = c + 1 by omega]; exact Int.le_refl _)
          have HDC : Hid (d = 2 * r + 1 ∨ d = 2 * r + 2) := Lib.hid (by have := HC.out; omega)
          have hdh : d < hi := by omega
          have hrd : r < d := by omega
          clear hd HL HC hrc hch hch' h2
          have cr := rowU_cell HST2.out.row (f + r) (by have := HYL.out; omega)
          have cd := rowU_cell HST2.out.row (f + d) (by have := HYL.out; omega)
          have w1 : IntKind.i64.wrap ((f : Int) + (r : Int)) = (f : Int) + (r : Int) := IntWalk.i64_in _ (by omega)
          have w2 : IntKind.i64.wrap ((f : Int) + (d : Int)) = (f : Int) + (d : Int) := IntWalk.i64_in _ (by omega)
          have p1 : (0 : Int) ≤ (f : Int) + (r : Int) := by omega
          have p2 : (0 : Int) ≤ (f : Int) + (d : Int) := by omega
          have q1 : ((f : Int) + (r : Int)).toNat = f + r := by omega
          have q2 : ((f : Int) + (d : Int)).toNat = f + d := by omega
          have r1 : (f : Int) + (r : Int) < (N : Int) := by omega
          have r2 : (f : Int) + (d : Int) < (N : Int) := by omega
          by_cases hs : at_ ys (f + r) < at_ ys (f + d)
          · have HL2 := Lib.hid hs
            clear hs
            go_quiet ((go_at_call 123; exact Calls.quiet_of_same (less_t HL2.out _)))
            clear cr cd
            have HST3 := Lib.hid (HST2.out.drewN nq)
            generalize w3.drewN nq = w5 at *
            clear HST2
            go_wp2_with fail
            have cr := rowU_cell HST3.out.row (f + r) (by have := HYL.out; omega)
            have cd := rowU_cell HST3.out.row (f + d) (by have := HYL.out; omega)
            have f0 := HST3.out.row.frozen (f + r)
            have g0 := HST3.out.row.frozen (f + d)
            have hne : ¬ f + r = f + d := by omega
            go_region
            clear w1 w2 p1 p2 q1 q2 r1 r2 cr cd f0 g0 hne
            go_wp2
            go_roundg (lo + hi + 1 - d)
            case measure => omega
            case rel => exact ⟨d, swq ys (f + r) (f + d), by omega, by omega, rfl, Lib.hid (HS2.out.step HDC.out hdh (by have := HYL.out; omega) HL2.out HMX.out), Lib.hid (HI2.out.trans (InR.swq (by have := HYL.out; omega) (by omega) (by omega) (by omega) (by omega))), HST3.out.swap (f + r) (f + d)⟩
          · have HL2 := Lib.hid (Int.not_lt.1 hs)
            clear hs
            go_quiet ((go_at_call 123; exact Calls.quiet_of_same (less_f HL2.out _)))
            clear cr cd w1 w2 p1 p2 q1 q2 r1 r2
            have HST3 := Lib.hid (HST2.out.drewN nq)
            generalize w3.drewN nq = w5 at *
            clear HST2
            go_wp2_with fail
            go_end0
            exact ⟨rfl, ys, HI2.out, HS2.out.done (fun q hq hq2 => Int.le_trans (HMX.out q hq hq2) HL2.out), HST3.out.row, HST3.out.grown⟩
        · have HL := Lib.hid (Int.not_lt.1 hs)
          clear hs
          go_quiet ((go_at_call 123; exact Calls.quiet_of_same (less_f HL.out _)))
          clear w1 w2 p2 q2 r2 w3 p3 q3 r3 d2 d2' h2' cc dd
          have HST2 := Lib.hid (HST.out.drewN nq)
          generalize wr.drewN nq = w3 at *
          clear HST hgeq hgeq2
          go_wp2_with fail
          obtain ⟨d, rfl⟩ : ∃ d, d = c := ⟨_, rfl⟩
          have HMX : Hid (∀ q, q < hi → (q = 2 * r + 1 ∨ q = 2 * r + 2) → at_ ys (f + q) ≤ at_ ys (f + d)) := Lib.hid (fun q hq hq2 => by
            have := HL.out
            have := HC.out
            rcases hq2 with hq2 | hq2
            · rw [show q = d by omega]; exact Int.le_refl _
            · rw [show q = d + 1 by omega]; rw [show f + (d + 1) = f + d + 1 from by omega]; omega)
          have HDC : Hid (d = 2 * r + 1 ∨ d = 2 * r + 2) := Lib.hid (by have := HC.out; omega)
          have hdh : d < hi := by omega
          have hrd : r < d := by omega
          clear HL HC hrc hch hch' h2
          have cr := rowU_cell HST2.out.row (f + r) (by have := HYL.out; omega)
          have cd := rowU_cell HST2.out.row (f + d) (by have := HYL.out; omega)
          have w1 : IntKind.i64.wrap ((f : Int) + (r : Int)) = (f : Int) + (r : Int) := IntWalk.i64_in _ (by omega)
          have w2 : IntKind.i64.wrap ((f : Int) + (d : Int)) = (f : Int) + (d : Int) := IntWalk.i64_in _ (by omega)
          have p1 : (0 : Int) ≤ (f : Int) + (r : Int) := by omega
          have p2 : (0 : Int) ≤ (f : Int) + (d : Int) := by omega
          have q1 : ((f : Int) + (r : Int)).toNat = f + r := by omega
          have q2 : ((f : Int) + (d : Int)).toNat = f + d := by omega
          have r1 : (f : Int) + (r : Int) < (N : Int) := by omega
          have r2 : (f : Int) + (d : Int) < (N : Int) := by omega
          by_cases hs : at_ ys (f + r) < at_ ys (f + d)
          · have HL2 := Lib.hid hs
            clear hs
            go_quiet ((go_at_call 123; exact Calls.quiet_of_same (less_t HL2.out _)))
            clear cr cd
            have HST3 := Lib.hid (HST2.out.drewN nq)
            generalize w3.drewN nq = w5 at *
            clear HST2
            go_wp2_with fail
            have cr := rowU_cell HST3.out.row (f + r) (by have := HYL.out; omega)
            have cd := rowU_cell HST3.out.row (f + d) (by have := HYL.out; omega)
            have f0 := HST3.out.row.frozen (f + r)
            have g0 := HST3.out.row.frozen (f + d)
            have hne : ¬ f + r = f + d := by omega
            go_region
            clear w1 w2 p1 p2 q1 q2 r1 r2 cr cd f0 g0 hne
            go_wp2
            go_roundg (lo + hi + 1 - d)
            case measure => omega
            case rel => exact ⟨d, swq ys (f + r) (f + d), by omega, by omega, rfl, Lib.hid (HS2.out.step HDC.out hdh (by have := HYL.out; omega) HL2.out HMX.out), Lib.hid (HI2.out.trans (InR.swq (by have := HYL.out; omega) (by omega) (by omega) (by omega) (by omega))), HST3.out.swap (f + r) (f + d)⟩
          · have HL2 := Lib.hid (Int.not_lt.1 hs)
            clear hs
            go_quiet ((go_at_call 123; exact Calls.quiet_of_same (less_f HL2.out _)))
            clear cr cd w1 w2 p1 p2 q1 q2 r1 r2
            have HST3 := Lib.hid (HST2.out.drewN nq)
            generalize w3.drewN nq = w5 at *
            clear HST2
            go_wp2_with fail
            go_end0
            exact ⟨rfl, ys, HI2.out, HS2.out.done (fun q hq hq2 => Int.le_trans (HMX.out q hq hq2) HL2.out), HST3.out.row, HST3.out.grown⟩
      · have d2 : decide ((c : Int) + 1 < (hi : Int)) = false := decide_eq_false (by omega)
        have d2' : decide (c + 1 < hi) = false := decide_eq_false (by omega)
        go_quiet (fail)
        clear w1 w2 p2 q2 r2 d2 d2' cc
        have HST2 := Lib.hid (HST.out.drewN nq)
        generalize wr.drewN nq = w3 at *
        clear HST hgeq hgeq2
        go_wp2_with fail
        obtain ⟨d, rfl⟩ : ∃ d, d = c := ⟨_, rfl⟩
        have HMX : Hid (∀ q, q < hi → (q = 2 * r + 1 ∨ q = 2 * r + 2) → at_ ys (f + q) ≤ at_ ys (f + d)) := Lib.hid (fun q hq hq2 => by
          have := HC.out
          rcases hq2 with hq2 | hq2
          · rw [show q = d by omega]; exact Int.le_refl _
          · omega)
        have HDC : Hid (d = 2 * r + 1 ∨ d = 2 * r + 2) := Lib.hid (by have := HC.out; omega)
        have hdh : d < hi := by omega
        have hrd : r < d := by omega
        clear HC hrc hch hch' h2
        have cr := rowU_cell HST2.out.row (f + r) (by have := HYL.out; omega)
        have cd := rowU_cell HST2.out.row (f + d) (by have := HYL.out; omega)
        have w1 : IntKind.i64.wrap ((f : Int) + (r : Int)) = (f : Int) + (r : Int) := IntWalk.i64_in _ (by omega)
        have w2 : IntKind.i64.wrap ((f : Int) + (d : Int)) = (f : Int) + (d : Int) := IntWalk.i64_in _ (by omega)
        have p1 : (0 : Int) ≤ (f : Int) + (r : Int) := by omega
        have p2 : (0 : Int) ≤ (f : Int) + (d : Int) := by omega
        have q1 : ((f : Int) + (r : Int)).toNat = f + r := by omega
        have q2 : ((f : Int) + (d : Int)).toNat = f + d := by omega
        have r1 : (f : Int) + (r : Int) < (N : Int) := by omega
        have r2 : (f : Int) + (d : Int) < (N : Int) := by omega
        by_cases hs : at_ ys (f + r) < at_ ys (f + d)
        · have HL2 := Lib.hid hs
          clear hs
          go_quiet ((go_at_call 123; exact Calls.quiet_of_same (less_t HL2.out _)))
          clear cr cd
          have HST3 := Lib.hid (HST2.out.drewN nq)
          generalize w3.drewN nq = w5 at *
          clear HST2
          go_wp2_with fail
          have cr := rowU_cell HST3.out.row (f + r) (by have := HYL.out; omega)
          have cd := rowU_cell HST3.out.row (f + d) (by have := HYL.out; omega)
          have f0 := HST3.out.row.frozen (f + r)
          have g0 := HST3.out.row.frozen (f + d)
          have hne : ¬ f + r = f + d := by omega
          go_region
          clear w1 w2 p1 p2 q1 q2 r1 r2 cr cd f0 g0 hne
          go_wp2
          go_roundg (lo + hi + 1 - d)
          case measure => omega
          case rel => exact ⟨d, swq ys (f + r) (f + d), by omega, by omega, rfl, Lib.hid (HS2.out.step HDC.out hdh (by have := HYL.out; omega) HL2.out HMX.out), Lib.hid (HI2.out.trans (InR.swq (by have := HYL.out; omega) (by omega) (by omega) (by omega) (by omega))), HST3.out.swap (f + r) (f + d)⟩
        · have HL2 := Lib.hid (Int.not_lt.1 hs)
          clear hs
          go_quiet ((go_at_call 123; exact Calls.quiet_of_same (less_f HL2.out _)))
          clear cr cd w1 w2 p1 p2 q1 q2 r1 r2
          have HST3 := Lib.hid (HST2.out.drewN nq)
          generalize w3.drewN nq = w5 at *
          clear HST2
          go_wp2_with fail
          go_end0
          exact ⟨rfl, ys, HI2.out, HS2.out.done (fun q hq hq2 => Int.le_trans (HMX.out q hq hq2) HL2.out), HST3.out.row, HST3.out.grown⟩
    · have hgeq : decide ((hi : Int) ≤ (c : Int)) = true := decide_eq_true (by omega)
      have hgeq2 : decide (hi ≤ c) = true := decide_eq_true (by omega)
      clear hc
      go_wp2_with fail
      clear e1
      go_end0
      exact ⟨rfl, ys, HI2.out, HS2.out.done (fun q hq hq2 => by have := HC.out; omega), HST.out.row, HST.out.grown⟩
end Go.Proofs.YtchcelodeepjdaaGreatDoor.Vx

namespace Go.Proofs.YtchcelodeepjdaaGreatDoor.Vx
open Go.RowKit Go.Herb

/-- The row as it was; the count of swaps in its cell. -/
structure CtSt (g cap sb s : Nat) (xs : List Int) (w wr : World) : Prop where
  row : RowU wr g cap xs
  cnt : wr.heap[sb]? = some (.cells #[.int .i64 s] (3) (0, 0))
  grown : w.grownBy wr (some sb)
  ne : sb ≠ g
theorem CtSt.drewN {g cap sb s : Nat} {xs : List Int} {w wr : World} (h : CtSt g cap sb s xs w wr) (n : Nat) : CtSt g cap sb s xs w (wr.drewN n) := ⟨rowU_drewN h.row n, h.cnt, grown_drewN h.grown n, h.ne⟩
theorem CtSt.trans {g cap sb s t : Nat} {xs : List Int} {w u v : World} (h : CtSt g cap sb s xs w u) (k : CtSt g cap sb t xs u v) : CtSt g cap sb t xs w v := ⟨k.row, k.cnt, grown_trans h.grown k.grown, h.ne⟩
theorem CtSt.bump {g cap sb s : Nat} {xs : List Int} {w wr : World} (h : CtSt g cap sb s xs w wr) (t : Nat) : CtSt g cap sb t xs w (wr.setCell ⟨sb, 0, none⟩ (.int .i64 t)) :=
  ⟨h.row.same (Below.heap_setCell wr ⟨sb, 0, none⟩ _ g (fun e => h.ne e.symm)), by have := blk_setCell (j := 0) h.cnt (.int .i64 t); simpa using this, grown_set h.grown _ _, h.ne⟩

def OrdPost (g cap sb s a b : Nat) (xs : List Int) (w : World) (e : Ending) (w' : World) : Prop :=
  ∃ p q t : Nat, e = .returned (.tuple #[.int .i64 p, .int .i64 q]) ∧ (p = a ∨ p = b) ∧ (q = a ∨ q = b) ∧ t ≤ s + 1 ∧ CtSt g cap sb t xs w w'
set_option maxHeartbeats 1000000 in
theorem order2_any (g cap sb s a b N : Nat) (xs : List Int) (hN : xs.length = N) (ha : a < N) (hb : b < N) (w : World) (h : CtSt g cap sb s xs w w) (_ : N < 1000000) (hs : s < 1000) :
    Calls Tryz.prog (161) #[.slice (some ⟨g, 0, none⟩) N cap, .int .i64 a, .int .i64 b, .pointer (some ⟨sb, 0, none⟩)] w (OrdPost g cap sb s a b xs w) := by
  have H := Lib.hid h
  have c0 := rowU_cell h.row a (by omega)
  have d0 := rowU_cell h.row b (by omega)
  have r1 : (a : Int) < (N : Int) := by omega
  have r2 : (b : Int) < (N : Int) := by omega
  clear h hN
  by_cases hlt : at_ xs b < at_ xs a
  · have HL := Lib.hid hlt
    clear hlt
    go_enter Tryz.func161, Tryz.ntmps161
    go_wp2_with fail
    go_quiet ((go_at_call 123; exact Calls.quiet_of_same (less_t HL.out _)))
    clear c0 d0 r1 r2
    have H2 := Lib.hid (H.out.drewN nq)
    generalize w.drewN nq = w2 at *
    have s0 := cell_of_blk H2.out.cnt 0
    have z0 := frozen_of_blk H2.out.cnt 0
    simp at s0
    have HB := Lib.hid (H2.out.bump (s + 1))
    have ws : IntKind.i64.wrap ((s : Int) + 1) = (s : Int) + 1 := IntWalk.i64_in _ (by omega)
    have ES := Lib.hid (show (s : Int) + 1 = ((s + 1 : Nat) : Int) by omega)
    clear H H2
    go_wp2
    go_ret2
    exact ⟨b, a, s + 1, rfl, .inr rfl, .inl rfl, Nat.le_refl _, by first | exact HB.out | (rw [ES.out]; exact HB.out)⟩
  · have HL := Lib.hid (Int.not_lt.1 hlt)
    clear hlt
    go_enter Tryz.func161, Tryz.ntmps161
    go_wp2_with fail
    go_quiet ((go_at_call 123; exact Calls.quiet_of_same (less_f HL.out _)))
    clear c0 d0 r1 r2
    have H2 := Lib.hid (H.out.drewN nq)
    generalize w.drewN nq = w2 at *
    clear H
    go_wp2
    go_ret2
    exact ⟨a, b, s, rfl, .inl rfl, .inr rfl, by omega, H2.out⟩

def MedPost (g cap sb s lo hi : Nat) (xs : List Int) (w : World) (e : Ending) (w' : World) : Prop :=
  ∃ p t : Nat, e = .returned (.int .i64 p) ∧ lo ≤ p ∧ p ≤ hi ∧ t ≤ s + 3 ∧ CtSt g cap sb t xs w w'
theorem CtSt.refl {g cap sb s : Nat} {xs : List Int} {w wr : World} (h : CtSt g cap sb s xs w wr) : CtSt g cap sb s xs wr wr := ⟨h.row, h.cnt, grown_refl _ _, h.ne⟩
set_option maxHeartbeats 1000000 in
theorem median_any (g cap sb s a b c lo hi N : Nat) (xs : List Int) (hN : xs.length = N) (ha : lo ≤ a ∧ a ≤ hi) (hb : lo ≤ b ∧ b ≤ hi) (hc : lo ≤ c ∧ c ≤ hi) (hh : hi < N) (w : World) (h : CtSt g cap sb s xs w w) (hl : N < 1000000) (hs : s < 500) :
    Calls Tryz.prog (149) #[.slice (some ⟨g, 0, none⟩) N cap, .int .i64 a, .int .i64 b, .int .i64 c, .pointer (some ⟨sb, 0, none⟩)] w (MedPost g cap sb s lo hi xs w) := by
  have HN := Lib.hid hN
  have H := Lib.hid h
  clear h hN
  go_enter Tryz.func149, Tryz.ntmps149
  go_wp2_with fail
  refine (order2_any g cap sb s a b N xs HN.out (by omega) (by omega) w H.out hl (by omega)).mono ?_
  rintro e w1 ⟨p, q, t, rfl, hp, hq, ht, hst⟩
  have H1 := Lib.hid hst
  have hp' : lo ≤ p ∧ p ≤ hi := by omega
  have hq' : lo ≤ q ∧ q ≤ hi := by omega
  clear hst hp hq H
  go_wp2_with fail
  refine (order2_any g cap sb t q c N xs HN.out (by omega) (by omega) w1 H1.out.refl hl (by omega)).mono ?_
  rintro e w2 ⟨p2, q2, t2, rfl, hp2, hq2, ht2, hst⟩
  have H2 := Lib.hid (H1.out.trans hst)
  have hp2' : lo ≤ p2 ∧ p2 ≤ hi := by omega
  clear hst hp2 hq2 H1
  go_wp2_with fail
  refine (order2_any g cap sb t2 p p2 N xs HN.out (by omega) (by omega) w2 H2.out.refl hl (by omega)).mono ?_
  rintro e w3 ⟨p3, q3, t3, rfl, hp3, hq3, ht3, hst⟩
  have H3 := Lib.hid (H2.out.trans hst)
  have hq3' : lo ≤ q3 ∧ q3 ≤ hi := by omega
  clear hst hp3 hq3 H2
  go_wp2
  go_ret
  exact ⟨q3, t3, rfl, hq3'.1, hq3'.2, by omega, H3.out⟩

set_option maxHeartbeats 1000000 in
theorem medianAdj_any (g cap sb s a N : Nat) (xs : List Int) (hN : xs.length = N) (ha : 1 ≤ a) (hb : a + 1 < N) (w : World) (h : CtSt g cap sb s xs w w) (hl : N < 1000000) (hs : s < 500) :
    Calls Tryz.prog (148) #[.slice (some ⟨g, 0, none⟩) N cap, .int .i64 a, .pointer (some ⟨sb, 0, none⟩)] w (MedPost g cap sb s (a - 1) (a + 1) xs w) := by
  have HM := Lib.hid (median_any g cap sb s (a - 1) a (a + 1) (a - 1) (a + 1) N xs hN (by omega) (by omega) (by omega) (by omega) w h hl hs)
  obtain ⟨a0, ha0⟩ : ∃ a0, a0 = a - 1 := ⟨_, rfl⟩
  obtain ⟨a1, ha1⟩ : ∃ a1, a1 = a + 1 := ⟨_, rfl⟩
  rw [← ha0, ← ha1] at HM ⊢
  have e0 : (a : Int) - 1 = (a0 : Int) := by omega
  have e1 : (a : Int) + 1 = (a1 : Int) := by omega
  clear h hN ha0 ha1
  go_enter Tryz.func148, Tryz.ntmps148
  go_wp2_with fail
  clear e0 e1
  refine (HM.out).mono ?_
  rintro e w1 ⟨p, t, rfl, h1, h2, h3, h4⟩
  have H4 := Lib.hid h4
  clear h4 HM
  go_wp2
  go_ret
  exact ⟨p, t, rfl, h1, h2, h3, H4.out⟩

def PivPost (g cap a b : Nat) (xs : List Int) (w : World) (e : Ending) (w' : World) : Prop :=
  ∃ (p : Nat) (hint : Int), e = .returned (.tuple #[.int .i64 p, .int .i64 hint]) ∧ a < p ∧ p + 1 < b ∧ (hint = 0 ∨ hint = 1 ∨ hint = 2) ∧ RowU w' g cap xs ∧ Below w.heap.size w w'
theorem CtSt.below {g cap sb s : Nat} {xs : List Int} {w u : World} (h : CtSt g cap sb s xs (w.alloc (.cells #[.int .i64 0] (3))) u) (hs : sb = w.heap.size) : RowU u g cap xs ∧ Below w.heap.size w u := by
  refine ⟨h.row, ?_⟩
  have h1 : Below w.heap.size w (w.alloc (.cells #[.int .i64 0] (3))) := (Below.refl _ _).alloc (Nat.le_refl _) _
  exact h1.grown h.grown h1.size (fun k e => by cases e; omega)
set_option maxHeartbeats 2000000 in
theorem choosePivot_any (g cap a b N : Nat) (xs : List Int) (hN : xs.length = N) (hb : b ≤ N) (hab : a + 12 < b) (w : World) (h : RowU w g cap xs) (hl : N < 1000000) :
    Calls Tryz.prog (120) #[.slice (some ⟨g, 0, none⟩) N cap, .int .i64 a, .int .i64 b] w (PivPost g cap a b xs w) := by
  obtain ⟨n, hn⟩ : ∃ n, n = b - a := ⟨_, rfl⟩
  obtain ⟨i, hi⟩ : ∃ i, i = a + n / 4 := ⟨_, rfl⟩
  obtain ⟨j, hj⟩ : ∃ j, j = a + n / 4 * 2 := ⟨_, rfl⟩
  obtain ⟨k, hk⟩ : ∃ k, k = a + n / 4 * 3 := ⟨_, rfl⟩
  have en : (b : Int) - (a : Int) = (n : Int) := by omega
  have ei : (a : Int) + (n : Int) / 4 = (i : Int) := by omega
  have ej : (a : Int) + (n : Int) / 4 * 2 = (j : Int) := by omega
  have ek : (a : Int) + (n : Int) / 4 * 3 = (k : Int) := by omega
  have hgl := h.lt
  have hst : CtSt g cap w.heap.size 0 xs (w.alloc (.cells #[.int .i64 0] (3))) (w.alloc (.cells #[.int .i64 0] (3))) := ⟨h.below ((Below.refl _ _).alloc (Nat.le_refl _) _), blk_new_at rfl _, grown_refl _ _, by omega⟩
  have H := Lib.hid hst
  have HN := Lib.hid hN
  have hn8 : (8 : Int) ≤ (n : Int) := by omega
  have hbn : a + n = b := by omega
  have hi1 : a + 3 ≤ i ∧ i + 3 ≤ b ∧ a + 3 ≤ j ∧ j + 3 ≤ b ∧ a + 3 ≤ k ∧ k + 3 ≤ b := by omega
  have HB := Lib.hid hbn
  have HI := Lib.hid hi1
  clear hst h hN hn hi hj hk hbn
  by_cases h50 : 50 ≤ n
  · have h50' : (50 : Int) ≤ (n : Int) := by omega
    clear hi1
    go_enter Tryz.func120, Tryz.ntmps120
    go_wp2_with fail
    clear en ei ej ek
    obtain ⟨W, hW⟩ : ∃ W : World, W = w.alloc (.cells #[.int .i64 0] (3)) := ⟨_, rfl⟩
    rw [← hW] at H ⊢
    have HW := Lib.hid hW
    clear hW
    refine (medianAdj_any g cap w.heap.size 0 i N xs HN.out (by have := HI.out; omega) (by have := HI.out; omega) _ H.out.refl hl (by omega)).mono ?_
    rintro e w1 ⟨i', s1, rfl, i1, i2, i3, i4⟩
    have H1 := Lib.hid (H.out.trans i4)
    have hi' : a + 1 ≤ i' ∧ i' + 2 ≤ b := by have := HI.out; omega
    clear i4 i1 i2
    go_wp2_with fail
    refine (medianAdj_any g cap w.heap.size s1 j N xs HN.out (by have := HI.out; omega) (by have := HI.out; omega) _ H1.out.refl hl (by omega)).mono ?_
    rintro e w2 ⟨j', s2, rfl, i1, i2, j3, i4⟩
    have H2 := Lib.hid (H1.out.trans i4)
    have hj' : a + 1 ≤ j' ∧ j' + 2 ≤ b := by have := HI.out; omega
    clear i4 i1 i2
    go_wp2_with fail
    refine (medianAdj_any g cap w.heap.size s2 k N xs HN.out (by have := HI.out; omega) (by have := HI.out; omega) _ H2.out.refl hl (by omega)).mono ?_
    rintro e w3 ⟨k', s3, rfl, i1, i2, k3, i4⟩
    have H3 := Lib.hid (H2.out.trans i4)
    have hk' : a + 1 ≤ k' ∧ k' + 2 ≤ b := by have := HI.out; omega
    clear i4 i1 i2
    go_wp2_with fail
    refine (median_any g cap w.heap.size s3 i' j' k' (a + 1) (b - 2) N xs HN.out (by omega) (by omega) (by omega) (by omega) _ H3.out.refl hl (by omega)).mono ?_
    rintro e w4 ⟨p, s4, rfl, p1, p2, p3, i4⟩
    have H4 := Lib.hid (CtSt.below (by rw [← HW.out]; exact H3.out.trans i4) rfl)
    have s0 := cell_of_blk i4.cnt 0
    simp at s0
    clear i4 H H1 H2 H3 hi' hj' hk' HI HW
    by_cases h0 : s4 = 0
    · subst h0
      go_wp2
      go_ret2
      exact ⟨p, 1, rfl, by omega, by omega, .inr (.inl rfl), H4.out.1, H4.out.2⟩
    · have e0 : ((s4 : Int) == 0) = false := by simp; omega
      by_cases h12 : s4 = 12
      · subst h12
        go_wp2
        go_ret2
        exact ⟨p, 2, rfl, by omega, by omega, .inr (.inr rfl), H4.out.1, H4.out.2⟩
      · have e12 : ((s4 : Int) == 12) = false := by simp; omega
        go_wp2
        go_ret2
        exact ⟨p, 0, rfl, by omega, by omega, .inl rfl, H4.out.1, H4.out.2⟩
  · have h50' : ¬ (50 : Int) ≤ (n : Int) := by omega
    clear hi1
    go_enter Tryz.func120, Tryz.ntmps120
    go_wp2_with fail
    clear en ei ej ek
    obtain ⟨W, hW⟩ : ∃ W : World, W = w.alloc (.cells #[.int .i64 0] (3)) := ⟨_, rfl⟩
    rw [← hW] at H ⊢
    have HW := Lib.hid hW
    clear hW
    refine (median_any g cap w.heap.size 0 i j k (a + 1) (b - 2) N xs HN.out (by have := HI.out; omega) (by have := HI.out; omega) (by have := HI.out; omega) (by omega) _ H.out.refl hl (by omega)).mono ?_
    rintro e w4 ⟨p, s4, rfl, p1, p2, p3, i4⟩
    have H4 := Lib.hid (CtSt.below (by rw [← HW.out]; exact H.out.trans i4) rfl)
    have s0 := cell_of_blk i4.cnt 0
    simp at s0
    clear i4 H HI HW
    by_cases h0 : s4 = 0
    · subst h0
      go_wp2
      go_ret2
      exact ⟨p, 1, rfl, by omega, by omega, .inr (.inl rfl), H4.out.1, H4.out.2⟩
    · have e0 : ((s4 : Int) == 0) = false := by simp; omega
      by_cases h12 : s4 = 12
      · subst h12
        go_wp2
        go_ret2
        exact ⟨p, 2, rfl, by omega, by omega, .inr (.inr rfl), H4.out.1, H4.out.2⟩
      · have e12 : ((s4 : Int) == 12) = false := by simp; omega
        go_wp2
        go_ret2
        exact ⟨p, 0, rfl, by omega, by omega, .inl rfl, H4.out.1, H4.out.2⟩
end Go.Proofs.YtchcelodeepjdaaGreatDoor.Vx

namespace Go.Proofs.YtchcelodeepjdaaGreatDoor.Vx
open Go.RowKit Go.Herb

set_option maxHeartbeats 4000000 in
theorem heapSort_any (g cap a b N : Nat) (xs : List Int) (hN : xs.length = N) (hb : b ≤ N) (hab : a < b) (w : World) (h : RowU w g cap xs) (hl : N < 1000000) :
    Calls Tryz.prog (118) #[.slice (some ⟨g, 0, none⟩) N cap, .int .i64 a, .int .i64 b] w (RowPost a b (SortR a b) g cap xs w) := by
  have H : Hid (RowSt g cap w w xs) := Lib.hid ⟨h, grown_refl _ _⟩
  have HN := Lib.hid hN
  clear h hN
  obtain ⟨n, hn⟩ : ∃ n, n = b - a := ⟨_, rfl⟩
  have en : (b : Int) - (a : Int) = (n : Int) := by omega
  have hb2 : a + n = b := by omega
  have hn0 : 0 < n := by omega
  have HB2 := Lib.hid hb2
  have hanN : a + n ≤ N := by omega
  clear hn hb2 hb hab
  go_enter Tryz.func118, Tryz.ntmps118
  go_wp2_with fail
  clear en
  go_loopg [9] ((n - 1) / 2 + 1) (fun gk iv wr => ∃ (ys : List Int), gk ≤ (n - 1) / 2 + 1 ∧ iv = .int .i64 ((gk : Int) - 1) ∧ Hid (HeapR a gk n ys) ∧ Hid (InR a (a + n) xs ys) ∧ RowSt g cap w wr ys)
  case atStart =>
    refine ⟨xs, Nat.le_refl _, ?_, Lib.hid (HeapR.none _ _ (by omega)), Lib.hid (InR.refl _ _ _), H.out⟩
    first | rfl | (congr 1; omega)
  case round =>
    obtain ⟨ys, hk, rfl, HH, HI, hst⟩ := hrel
    have HST := Lib.hid hst
    have HYL := Lib.hid (show ys.length = N from by rw [HI.out.len]; exact HN.out)
    clear hst
    cases gk with
    | zero =>
      clear hk H
      go_wp2_with fail
      go_loopg [10] n (fun gk iv wr => ∃ (ys : List Int), gk ≤ n ∧ iv = .int .i64 ((gk : Int) - 1) ∧ Hid (PopR a gk n ys) ∧ Hid (InR a (a + n) xs ys) ∧ RowSt g cap w wr ys)
      case atStart => exact ⟨ys, Nat.le_refl _, rfl, Lib.hid (PopR.start HH.out), HI, HST.out⟩
      case round =>
        clear HST HI HH HYL
        obtain ⟨zs, hk, rfl, HP, HI, hst⟩ := hrel
        have HST := Lib.hid hst
        have HYL := Lib.hid (show zs.length = N from by rw [HI.out.len]; exact HN.out)
        clear hst
        cases gk with
        | zero =>
          go_wp2_with fail
          go_end0
          exact ⟨rfl, zs, by rw [← HB2.out]; exact HI.out, by rw [← HB2.out]; exact HP.out.done, HST.out.row, HST.out.grown⟩
        | succ i =>
          have hq1 : (((i + 1 : Nat) : Int) - 1) = (i : Int) := by omega
          rw [hq1]
          clear hq1
          obtain ⟨hp1, hp2⟩ := PopR.step HP.out (by omega) (by have := HYL.out; omega)
          have HP1 := Lib.hid hp1
          have HP2 := Lib.hid hp2
          clear hp1 hp2
          have c0 := rowU_cell HST.out.row a (by have := HYL.out; omega)
          have d0 := rowU_cell HST.out.row (a + i) (by have := HYL.out; omega)
          have f0 := HST.out.row.frozen a
          have g0 := HST.out.row.frozen (a + i)
          have ra : (a : Int) < (N : Int) := by omega
          have hst2 := HST.out.swap a (a + i)
          have hsl : (swq zs a (a + i)).length = N := by rw [swq_len]; exact HYL.out
          have hsd := fun (W : World) (hW : RowU W g cap (swq zs a (a + i))) => siftDown_any g cap a 0 i N (swq zs a (a + i)) hsl (by omega) (by omega) W hW hl HP1.out
          have HSD := Lib.hid hsd
          have HSI := Lib.hid (show InR a (a + n) zs (swq zs a (a + i)) from InR.swq (by have := HYL.out; omega) (by omega) (by omega) (by omega) (by omega))
          have HST2 := Lib.hid hst2
          clear hst2 hsl hsd
          rcases Nat.eq_zero_or_pos i with rfl | hi0
          · simp only [Nat.add_zero] at c0 d0 f0 g0 HST2 HSD HSI
            clear d0 g0
            go_wp2_with fail
            go_region
            clear c0 f0 ra
            go_wp2_with fail
            refine (HSD.out _ HST2.out.row).mono ?_
            rintro e w3 ⟨rfl, ys2, hi2, hq2, hr2, hg2⟩
            have HI2 := Lib.hid hi2
            have HQ2 := Lib.hid hq2
            have HST3 : Hid (RowSt g cap w w3 ys2) := Lib.hid ⟨hr2, grown_trans HST2.out.grown hg2⟩
            clear hi2 hq2 hr2 hg2 HSD HST2
            go_wp2
            go_roundg 0
            case measure => omega
            case rel => exact ⟨ys2, by omega, by go_num, Lib.hid (HP2.out _ HI2.out HQ2.out), Lib.hid (HI.out.trans (HSI.out.trans (HI2.out.mono (Nat.le_refl _) (by omega)))), HST3.out⟩
          · have w1 : IntKind.i64.wrap ((a : Int) + (i : Int)) = (a : Int) + (i : Int) := IntWalk.i64_in _ (by omega)
            have p1 : (0 : Int) ≤ (a : Int) + (i : Int) := by omega
            have q1 : ((a : Int) + (i : Int)).toNat = a + i := by omega
            have r1 : (a : Int) + (i : Int) < (N : Int) := by omega
            have hne : ¬ a = a + i := by omega
            go_wp2_with fail
            go_region
            clear w1 p1 q1 r1 hne c0 d0 f0 g0 ra
            go_wp2_with fail
            refine (HSD.out _ HST2.out.row).mono ?_
            rintro e w3 ⟨rfl, ys2, hi2, hq2, hr2, hg2⟩
            have HI2 := Lib.hid hi2
            have HQ2 := Lib.hid hq2
            have HST3 : Hid (RowSt g cap w w3 ys2) := Lib.hid ⟨hr2, grown_trans HST2.out.grown hg2⟩
            clear hi2 hq2 hr2 hg2 HSD HST2
            go_wp2
            go_roundg i
            case measure => omega
            case rel => exact ⟨ys2, by omega, by go_num, Lib.hid (HP2.out _ HI2.out HQ2.out), Lib.hid (HI.out.trans (HSI.out.trans (HI2.out.mono (Nat.le_refl _) (by omega)))), HST3.out⟩
    | succ i =>
      have hq1 : (((i + 1 : Nat) : Int) - 1) = (i : Int) := by omega
      rw [hq1]
      clear hq1
      have HSD := Lib.hid (siftDown_any g cap a i n N ys HYL.out hanN (by omega) wr HST.out.row hl HH.out)
      go_wp2_with fail
      refine (HSD.out).mono ?_
      rintro e w3 ⟨rfl, ys2, hi2, hq2, hr2, hg2⟩
      have HI2 := Lib.hid hi2
      have HQ2 := Lib.hid hq2
      have HST3 : Hid (RowSt g cap w w3 ys2) := Lib.hid ⟨hr2, grown_trans HST.out.grown hg2⟩
      clear hi2 hq2 hr2 hg2 HSD HST
      go_wp2
      go_roundg i
      case measure => omega
      case rel => exact ⟨ys2, by omega, by go_num, HQ2, Lib.hid (HI.out.trans HI2.out), HST3.out⟩

set_option maxHeartbeats 2000000 in
theorem reverse_any (g cap a b N : Nat) (xs : List Int) (hN : xs.length = N) (hb : b ≤ N) (hab : a < b) (w : World) (h : RowU w g cap xs) (hl : N < 1000000) :
    Calls Tryz.prog (121) #[.slice (some ⟨g, 0, none⟩) N cap, .int .i64 a, .int .i64 b] w (RowPost a b (fun _ => True) g cap xs w) := by
  have H : Hid (RowSt g cap w w xs) := Lib.hid ⟨h, grown_refl _ _⟩
  have HN := Lib.hid hN
  clear h hN
  obtain ⟨c, hc⟩ : ∃ c, c = b - 1 := ⟨_, rfl⟩
  have en : (b : Int) - 1 = (c : Int) := by omega
  have hcb : c + 1 = b := by omega
  clear hc
  go_enter Tryz.func121, Tryz.ntmps121
  go_wp2_with fail
  clear en
  go_loopg [6, 7] c (fun gk iv jv wr => ∃ (i j : Nat) (ys : List Int), gk = j ∧ a ≤ i ∧ j ≤ c ∧ a ≤ j + 1 ∧ i ≤ c + 1 ∧ iv = .int .i64 i ∧ jv = .int .i64 j ∧ Hid (InR a b xs ys) ∧ RowSt g cap w wr ys)
  case atStart => exact ⟨a, c, xs, rfl, Nat.le_refl _, Nat.le_refl _, by omega, by omega, rfl, rfl, Lib.hid (InR.refl _ _ _), H.out⟩
  case round =>
    obtain ⟨i, j, ys, hk, hai, hjc, haj, hic, rfl, rfl, HI, hst⟩ := hrel
    have HST := Lib.hid hst
    have HYL := Lib.hid (show ys.length = N from by rw [HI.out.len]; exact HN.out)
    clear hst H
    by_cases hij : i < j
    · have c0 := rowU_cell HST.out.row i (by have := HYL.out; omega)
      have d0 := rowU_cell HST.out.row j (by have := HYL.out; omega)
      have f0 := HST.out.row.frozen i
      have g0 := HST.out.row.frozen j
      have r1 : (i : Int) < (N : Int) := by omega
      have r2 : (j : Int) < (N : Int) := by omega
      have hij' : (i : Int) < (j : Int) := by omega
      have hne : ¬ i = j := by omega
      have HST2 := Lib.hid (HST.out.swap i j)
      go_wp2_with fail
      go_region
      clear c0 d0 f0 g0 r1 r2 hne HST
      have ej : (j : Int) - 1 = ((j - 1 : Nat) : Int) := by omega
      go_wp2
      go_roundg (j - 1)
      case measure => omega
      case rel => exact ⟨i + 1, j - 1, swq ys i j, rfl, by omega, by omega, by omega, by omega, by go_num, by first | rfl | go_num, Lib.hid (HI.out.trans (InR.swq (by have := HYL.out; omega) (by omega) (by omega) (by omega) (by omega))), HST2.out⟩
    · have hij' : ¬ (i : Int) < (j : Int) := by omega
      go_wp2_with fail
      go_end0
      exact ⟨rfl, ys, HI.out, trivial, HST.out.row, HST.out.grown⟩
end Go.Proofs.YtchcelodeepjdaaGreatDoor.Vx
