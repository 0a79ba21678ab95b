/- slices.siftDownOrdered, heapSortOrdered at uint64. Condition: fewer than 1000000 numbers. -/
import Derived.Test.YtnnpheklgdbohaaO3
namespace Go.Proofs.Ytnnpheklgdbohaa
open Go.RowKit Go.Herb

/-- What holds of the row in a world, hidden. -/
structure RowSt (g cap : Nat) (w wr : World) (ys : List Int) : Prop where
  row : RowU wr g cap ys
  grown : w.grownBy wr (some g)
theorem RowSt.drewN {g cap : Nat} {w wr : World} {ys : List Int} (h : RowSt g cap w wr ys) (n : Nat) : RowSt g cap w (wr.drewN n) ys := ⟨rowU_drewN h.row n, grown_drewN h.grown n⟩
theorem RowSt.swap {g cap : Nat} {w wr : World} {ys : List Int} (h : RowSt g cap w wr ys) (i j : Nat) : RowSt g cap w ((wr.setCell ⟨g, i, none⟩ (.int .u64 (at_ ys j))).setCell ⟨g, j, none⟩ (.int .u64 (at_ ys i))).drew (swq ys i j) := ⟨rowU_drew (rowU_swap h.row i j), grown_drew (grown_set (grown_set h.grown _ _) _ _)⟩

set_option maxHeartbeats 4000000 in
theorem siftDown_any (g cap f lo hi N : Nat) (xs : List Int) (hN : xs.length = N) (hb : f + hi ≤ N) (hlo : lo ≤ N) (w : World) (h : RowU w g cap xs) (hl : N < 1000000) (hh : HeapR f (lo + 1) hi xs) :
    Calls Try.prog (87) #[.slice (some ⟨g, 0, none⟩) N cap, .int .i64 lo, .int .i64 hi, .int .i64 f] w (RowPost f (f + hi) (HeapR f lo hi) g cap xs w) := by
  have HS := Lib.hid (SiftR.start hh)
  have H : Hid (RowSt g cap w w xs) := Lib.hid ⟨h, grown_refl _ _⟩
  have HN := Lib.hid hN
  clear h hN hh
  go_enter Try.func87, Try.ntmps87
  go_wp2
  go_loopg [8] (hi + 1) (fun gk rv wr => ∃ (r : Nat) (ys : List Int), r + gk = lo + hi + 1 ∧ r ≤ lo + hi ∧ rv = .int .i64 r ∧ Hid (SiftR f lo hi r ys) ∧ Hid (InR f (f + hi) xs ys) ∧ RowSt g cap w wr ys)
  case atStart => exact ⟨lo, xs, by omega, by omega, rfl, HS, Lib.hid (InR.refl _ _ _), H.out⟩
  case round =>
    obtain ⟨r, ys, hr, hrl, rfl, HS2, HI2, hst⟩ := hrel
    clear HS H
    have hyl : ys.length = N := by rw [HI2.out.len]; exact HN.out
    have HST := Lib.hid hst
    have HYL := Lib.hid hyl
    clear hst hyl
    obtain ⟨c, hc⟩ : ∃ c, c = 2 * r + 1 := ⟨_, rfl⟩
    have e1 : (2 : Int) * (r : Int) + 1 = (c : Int) := by omega
    have HC := Lib.hid hc
    have hrc : r < c := by omega
    by_cases hch : c < hi
    · have hch' : (c : Int) < (hi : Int) := by omega
      have hgeq : decide ((hi : Int) ≤ (c : Int)) = false := decide_eq_false (by omega)
      have hgeq2 : decide (hi ≤ c) = false := decide_eq_false (by omega)
      clear hc
      go_wp2_with fail
      clear e1
      have cc := rowU_cell HST.out.row (f + c) (by have := HYL.out; omega)
      have w1 : IntKind.i64.wrap ((c : Int) + 1) = (c : Int) + 1 := IntWalk.i64_in _ (by omega)
      have w2 : IntKind.i64.wrap ((f : Int) + (c : Int)) = (f : Int) + (c : Int) := IntWalk.i64_in _ (by omega)
      have p2 : (0 : Int) ≤ (f : Int) + (c : Int) := by omega
      have q2 : ((f : Int) + (c : Int)).toNat = f + c := by omega
      have r2 : (f : Int) + (c : Int) < (N : Int) := by omega
      by_cases h2 : c + 1 < hi
      · have w3 : IntKind.i64.wrap ((f : Int) + (c : Int) + 1) = (f : Int) + (c : Int) + 1 := IntWalk.i64_in _ (by omega)
        have p3 : (0 : Int) ≤ (f : Int) + (c : Int) + 1 := by omega
        have q3 : ((f : Int) + (c : Int) + 1).toNat = f + c + 1 := by omega
        have r3 : (f : Int) + (c : Int) + 1 < (N : Int) := by omega
        have d2 : decide ((c : Int) + 1 < (hi : Int)) = true := decide_eq_true (by omega)
        have d2' : decide (c + 1 < hi) = true := decide_eq_true (by omega)
        have h2' : (c : Int) + 1 < (hi : Int) := by omega
        have dd := rowU_cell HST.out.row (f + c + 1) (by have := HYL.out; omega)
        by_cases hs : at_ ys (f + c) < at_ ys (f + c + 1)
        · have HL := Lib.hid hs
          clear hs
          go_quiet ((go_at_call 79; exact Calls.quiet_of_same (less_t HL.out _)))
          clear w1 w2 p2 q2 r2 w3 p3 q3 r3 d2 d2' h2' cc dd
          have HST2 := Lib.hid (HST.out.drewN nq)
          generalize wr.drewN nq = w3 at *
          clear HST hgeq hgeq2
          go_wp2_with fail
          obtain ⟨d, hd⟩ : ∃ d, d = c + 1 := ⟨_, rfl⟩
          have e2 : (c : Int) + 1 = (d : Int) := by omega
          rw [e2]
          clear e2
          have HMX : Hid (∀ q, q < hi → (q = 2 * r + 1 ∨ q = 2 * r + 2) → at_ ys (f + q) ≤ at_ ys (f + d)) := Lib.hid (fun q hq hq2 => by
            have := HL.out
            have := HC.out
            subst hd
            rcases hq2 with hq2 | hq2
            · rw [show q = c by omega]; rw [show f + (c + 1) = f + c + 1 from by omega]; omega
            · rw [show q = c + 1 by omega]; exact Int.le_refl _)
          have HDC : Hid (d = 2 * r + 1 ∨ d = 2 * r + 2) := Lib.hid (by have := HC.out; omega)
          have hdh : d < hi := by omega
          have hrd : r < d := by omega
          clear hd HL HC hrc hch hch' h2
          have cr := rowU_cell HST2.out.row (f + r) (by have := HYL.out; omega)
          have cd := rowU_cell HST2.out.row (f + d) (by have := HYL.out; omega)
          have w1 : IntKind.i64.wrap ((f : Int) + (r : Int)) = (f : Int) + (r : Int) := IntWalk.i64_in _ (by omega)
          have w2 : IntKind.i64.wrap ((f : Int) + (d : Int)) = (f : Int) + (d : Int) := IntWalk.i64_in _ (by omega)
          have p1 : (0 : Int) ≤ (f : Int) + (r : Int) := by omega
          have p2 : (0 : Int) ≤ (f : Int) + (d : Int) := by omega
          have q1 : ((f : Int) + (r : Int)).toNat = f + r := by omega
          have q2 : ((f : Int) + (d : Int)).toNat = f + d := by omega
          have r1 : (f : Int) + (r : Int) < (N : Int) := by omega
          have r2 : (f : Int) + (d : Int) < (N : Int) := by omega
          by_cases hs : at_ ys (f + r) < at_ ys (f + d)
          · have HL2 := Lib.hid hs
            clear hs
            go_quiet ((go_at_call 79; exact Calls.quiet_of_same (less_t HL2.out _)))
            clear cr cd
            have HST3 := Lib.hid (HST2.out.drewN nq)
            generalize w3.drewN nq = w5 at *
            clear HST2
            go_wp2_with fail
            have cr := rowU_cell HST3.out.row (f + r) (by have := HYL.out; omega)
            have cd := rowU_cell HST3.out.row (f + d) (by have := HYL.out; omega)
            have f0 := HST3.out.row.frozen (f + r)
            have g0 := HST3.out.row.frozen (f + d)
            have hne : ¬ f + r = f + d := by omega
            go_region
            clear w1 w2 p1 p2 q1 q2 r1 r2 cr cd f0 g0 hne
            go_wp2
            go_roundg (lo + hi + 1 - d)
            case measure => omega
            case rel => exact ⟨d, swq ys (f + r) (f + d), by omega, by omega, rfl, Lib.hid (HS2.out.step HDC.out hdh (by have := HYL.out; omega) HL2.out HMX.out), Lib.hid (HI2.out.trans (InR.swq (by have := HYL.out; omega) (by omega) (by omega) (by omega) (by omega))), HST3.out.swap (f + r) (f + d)⟩
          · have HL2 := Lib.hid (Int.not_lt.1 hs)
            clear hs
            go_quiet ((go_at_call 79; exact Calls.quiet_of_same (less_f HL2.out _)))
            clear cr cd w1 w2 p1 p2 q1 q2 r1 r2
            have HST3 := Lib.hid (HST2.out.drewN nq)
            generalize w3.drewN nq = w5 at *
            clear HST2
            go_wp2_with fail
            go_end0
            exact ⟨rfl, ys, HI2.out, HS2.out.done (fun q hq hq2 => Int.le_trans (HMX.out q hq hq2) HL2.out), HST3.out.row, HST3.out.grown⟩
        · have HL := Lib.hid (Int.not_lt.1 hs)
          clear hs
          go_quiet ((go_at_call 79; exact Calls.quiet_of_same (less_f HL.out _)))
          clear w1 w2 p2 q2 r2 w3 p3 q3 r3 d2 d2' h2' cc dd
          have HST2 := Lib.hid (HST.out.drewN nq)
          generalize wr.drewN nq = w3 at *
          clear HST hgeq hgeq2
          go_wp2_with fail
          obtain ⟨d, rfl⟩ : ∃ d, d = c := ⟨_, rfl⟩
          have HMX : Hid (∀ q, q < hi → (q = 2 * r + 1 ∨ q = 2 * r + 2) → at_ ys (f + q) ≤ at_ ys (f + d)) := Lib.hid (fun q hq hq2 => by
            have := HL.out
            have := HC.out
            rcases hq2 with hq2 | hq2
            · rw [show q = d by omega]; exact Int.le_refl _
            · rw [show q = d + 1 by omega]; rw [show f + (d + 1) = f + d + 1 from by omega]; omega)
          have HDC : Hid (d = 2 * r + 1 ∨ d = 2 * r + 2) := Lib.hid (by have := HC.out; omega)
          have hdh : d < hi := by omega
          have hrd : r < d := by omega
          clear HL HC hrc hch hch' h2
          have cr := rowU_cell HST2.out.row (f + r) (by have := HYL.out; omega)
          have cd := rowU_cell HST2.out.row (f + d) (by have := HYL.out; omega)
          have w1 : IntKind.i64.wrap ((f : Int) + (r : Int)) = (f : Int) + (r : Int) := IntWalk.i64_in _ (by omega)
          have w2 : IntKind.i64.wrap ((f : Int) + (d : Int)) = (f : Int) + (d : Int) := IntWalk.i64_in _ (by omega)
          have p1 : (0 : Int) ≤ (f : Int) + (r : Int) := by omega
          have p2 : (0 : Int) ≤ (f : Int) + (d : Int) := by omega
          have q1 : ((f : Int) + (r : Int)).toNat = f + r := by omega
          have q2 : ((f : Int) + (d : Int)).toNat = f + d := by omega
          have r1 : (f : Int) + (r : Int) < (N : Int) := by omega
          have r2 : (f : Int) + (d : Int) < (N : Int) := by omega
          by_cases hs : at_ ys (f + r) < at_ ys (f + d)
          · have HL2 := Lib.hid hs
            clear hs
            go_quiet ((go_at_call 79; exact Calls.quiet_of_same (less_t HL2.out _)))
            clear cr cd
            have HST3 := Lib.hid (HST2.out.drewN nq)
            generalize w3.drewN nq = w5 at *
            clear HST2
            go_wp2_with fail
            have cr := rowU_cell HST3.out.row (f + r) (by have := HYL.out; omega)
            have cd := rowU_cell HST3.out.row (f + d) (by have := HYL.out; omega)
            have f0 := HST3.out.row.frozen (f + r)
            have g0 := HST3.out.row.frozen (f + d)
            have hne : ¬ f + r = f + d := by omega
            go_region
            clear w1 w2 p1 p2 q1 q2 r1 r2 cr cd f0 g0 hne
            go_wp2
            go_roundg (lo + hi + 1 - d)
            case measure => omega
            case rel => exact ⟨d, swq ys (f + r) (f + d), by omega, by omega, rfl, Lib.hid (HS2.out.step HDC.out hdh (by have := HYL.out; omega) HL2.out HMX.out), Lib.hid (HI2.out.trans (InR.swq (by have := HYL.out; omega) (by omega) (by omega) (by omega) (by omega))), HST3.out.swap (f + r) (f + d)⟩
          · have HL2 := Lib.hid (Int.not_lt.1 hs)
            clear hs
            go_quiet ((go_at_call 79; exact Calls.quiet_of_same (less_f HL2.out _)))
            clear cr cd w1 w2 p1 p2 q1 q2 r1 r2
            have HST3 := Lib.hid (HST2.out.drewN nq)
            generalize w3.drewN nq = w5 at *
            clear HST2
            go_wp2_with fail
            go_end0
            exact ⟨rfl, ys, HI2.out, HS2.out.done (fun q hq hq2 => Int.le_trans (HMX.out q hq hq2) HL2.out), HST3.out.row, HST3.out.grown⟩
      · have d2 : decide ((c : Int) + 1 < (hi : Int)) = false := decide_eq_false (by omega)
        have d2' : decide (c + 1 < hi) = false := decide_eq_false (by omega)
        go_quiet (fail)
        clear w1 w2 p2 q2 r2 d2 d2' cc
        have HST2 := Lib.hid (HST.out.drewN nq)
        generalize wr.drewN nq = w3 at *
        clear HST hgeq hgeq2
        go_wp2_with fail
        obtain ⟨d, rfl⟩ : ∃ d, d = c := ⟨_, rfl⟩
        have HMX : Hid (∀ q, q < hi → (q = 2 * r + 1 ∨ q = 2 * r + 2) → at_ ys (f + q) ≤ at_ ys (f + d)) := Lib.hid (fun q hq hq2 => by
          have := HC.out
          rcases hq2 with hq2 | hq2
          · rw [show q = d by omega]; exact Int.le_refl _
          · omega)
        have HDC : Hid (d = 2 * r + 1 ∨ d = 2 * r + 2) := Lib.hid (by have := HC.out; omega)
        have hdh : d < hi := by omega
        have hrd : r < d := by omega
        clear HC hrc hch hch' h2
        have cr := rowU_cell HST2.out.row (f + r) (by have := HYL.out; omega)
        have cd := rowU_cell HST2.out.row (f + d) (by have := HYL.out; omega)
        have w1 : IntKind.i64.wrap ((f : Int) + (r : Int)) = (f : Int) + (r : Int) := IntWalk.i64_in _ (by omega)
        have w2 : IntKind.i64.wrap ((f : Int) + (d : Int)) = (f : Int) + (d : Int) := IntWalk.i64_in _ (by omega)
        have p1 : (0 : Int) ≤ (f : Int) + (r : Int) := by omega
        have p2 : (0 : Int) ≤ (f : Int) + (d : Int) := by omega
        have q1 : ((f : Int) + (r : Int)).toNat = f + r := by omega
        have q2 : ((f : Int) + (d : Int)).toNat = f + d := by omega
        have r1 : (f : Int) + (r : Int) < (N : Int) := by omega
        have r2 : (f : Int) + (d : Int) < (N : Int) := by omega
        by_cases hs : at_ ys (f + r) < at_ ys (f + d)
        · have HL2 := Lib.hid hs
          clear hs
          go_quiet ((go_at_call 79; exact Calls.quiet_of_same (less_t HL2.out _)))
          clear cr cd
          have HST3 := Lib.hid (HST2.out.drewN nq)
          generalize w3.drewN nq = w5 at *
          clear HST2
          go_wp2_with fail
          have cr := rowU_cell HST3.out.row (f + r) (by have := HYL.out; omega)
          have cd := rowU_cell HST3.out.row (f + d) (by have := HYL.out; omega)
          have f0 := HST3.out.row.frozen (f + r)
          have g0 := HST3.out.row.frozen (f + d)
          have hne : ¬ f + r = f + d := by omega
          go_region
          clear w1 w2 p1 p2 q1 q2 r1 r2 cr cd f0 g0 hne
          go_wp2
          go_roundg (lo + hi + 1 - d)
          case measure => omega
          case rel => exact ⟨d, swq ys (f + r) (f + d), by omega, by omega, rfl, Lib.hid (HS2.out.step HDC.out hdh (by have := HYL.out; omega) HL2.out HMX.out), Lib.hid (HI2.out.trans (InR.swq (by have := HYL.out; omega) (by omega) (by omega) (by omega) (by omega))), HST3.out.swap (f + r) (f + d)⟩
        · have HL2 := Lib.hid (Int.not_lt.1 hs)
          clear hs
          go_quiet ((go_at_call 79; exact Calls.quiet_of_same (less_f HL2.out _)))
          clear cr cd w1 w2 p1 p2 q1 q2 r1 r2
          have HST3 := Lib.hid (HST2.out.drewN nq)
          generalize w3.drewN nq = w5 at *
          clear HST2
          go_wp2_with fail
          go_end0
          exact ⟨rfl, ys, HI2.out, HS2.out.done (fun q hq hq2 => Int.le_trans (HMX.out q hq hq2) HL2.out), HST3.out.row, HST3.out.grown⟩
    · have hgeq : decide ((hi : Int) ≤ (c : Int)) = true := decide_eq_true (by omega)
      have hgeq2 : decide (hi ≤ c) = true := decide_eq_true (by omega)
      clear hc
      go_wp2_with fail
      clear e1
      go_end0
      exact ⟨rfl, ys, HI2.out, HS2.out.done (fun q hq hq2 => by have := HC.out; omega), HST.out.row, HST.out.grown⟩
end Go.Proofs.Ytnnpheklgdbohaa
