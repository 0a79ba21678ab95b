/- slices.breakPatternsOrdered at uint64. Condition: fewer than 1000000 numbers. -/
import Derived.Test.YtnnpheklgdbohaaO4
import Derived.Test.YtnnpheklgdbohaaShp
import Derived.Laws.Bits64b
namespace Go.Proofs.Ytnnpheklgdbohaa
open Go.RowKit Go.Herb Go.Shelf Go.Sort Go.Lib

theorem grown_setNew {a b : World} {row : Option Nat} {n : Nat} (h : a.grownBy b row) (hn : a.heap.size ≤ n) (v : Value) : a.grownBy (b.setCell ⟨n, 0, none⟩ v) row :=
  ⟨h.os, h.tape, h.output, by simpa using h.size, fun i hi hr => (Below.heap_setCell b ⟨n, 0, none⟩ v i (by show i ≠ n; omega)).trans (h.block i hi hr)⟩

/-- The row; the random number in its cell. -/
structure RndSt (g cap rb r : Nat) (w wr : World) (ys : List Int) : Prop where
  row : RowU wr g cap ys
  rnd : wr.heap[rb]? = some (.cells #[.int .u64 r] (115) (0, 0))
  lt : r < 18446744073709551616
  grown : w.grownBy wr (some g)
  ne : rb ≠ g
  new : w.heap.size ≤ rb
theorem RndSt.swap {g cap rb r : Nat} {w wr : World} {ys : List Int} (h : RndSt g cap rb r w wr ys) (i j : Nat) : RndSt g cap rb r w ((wr.setCell ⟨g, i, none⟩ (.int .u64 (at_ ys j))).setCell ⟨g, j, none⟩ (.int .u64 (at_ ys i))).drew (swq ys i j) :=
  ⟨rowU_drew (rowU_swap h.row i j), blk_setCell_other (a := ⟨g, j, none⟩) (blk_setCell_other (a := ⟨g, i, none⟩) h.rnd h.ne _) h.ne _, h.lt, grown_drew (grown_set (grown_set h.grown _ _) _ _), h.ne, h.new⟩
theorem RndSt.next {g cap rb r : Nat} {w wr : World} {ys : List Int} (h : RndSt g cap rb r w wr ys) (r' n : Nat) (hr : r' < 18446744073709551616) : RndSt g cap rb r' w ((wr.setCell ⟨rb, 0, none⟩ (.int .u64 r')).drewN n) ys :=
  ⟨rowU_drewN (h.row.same (Below.heap_setCell wr ⟨rb, 0, none⟩ _ g (fun e => h.ne e.symm))) n, by have := blk_setCell (j := 0) h.rnd (.int .u64 r'); simpa using this, hr, grown_drewN (grown_setNew h.grown h.new _) n, h.ne, h.new⟩

set_option maxRecDepth 100000 in
set_option maxHeartbeats 4000000 in
theorem breakPatterns_any (g cap a b N : Nat) (xs : List Int) (hN : xs.length = N) (hb : b ≤ N) (hab : a + 12 < b) (w : World) (h : RowU w g cap xs) (hl : N < 1000000) :
    Calls Try.prog (75) #[.slice (some ⟨g, 0, none⟩) N cap, .int .i64 a, .int .i64 b] w (RowPost a b (fun _ => True) g cap xs w) := by
  obtain ⟨n, hn⟩ : ∃ n, n = b - a := ⟨_, rfl⟩
  obtain ⟨k0, hk0⟩ : ∃ k0, k0 = a + n / 4 * 2 - 1 := ⟨_, rfl⟩
  have en : (b : Int) - (a : Int) = (n : Int) := by omega
  have ek : (a : Int) + (n : Int) / 4 * 2 - 1 = (k0 : Int) := by omega
  have ek2 : (a : Int) + (n : Int) / 4 * 2 + 1 = (k0 : Int) + 2 := by omega
  have hn8 : (8 : Int) ≤ (n : Int) := by omega
  have hk : a ≤ k0 ∧ k0 + 3 ≤ a + n := by omega
  have hanN : a + n ≤ N := by omega
  have HB := Lib.hid (show a + n = b by omega)
  have hgl := h.lt
  have HN := Lib.hid hN
  have HST0 : Hid (RndSt g cap w.heap.size n w (w.alloc (.cells #[.int .u64 n] (115))) xs) := Lib.hid ⟨h.below ((Below.refl _ _).alloc (Nat.le_refl _) _), blk_new_at rfl _, by omega, grown_alloc (grown_refl _ _) _, by omega, Nat.le_refl _⟩
  have hNP : ∀ u, Calls Try.prog (83) #[.int .i64 n] u fun e w' => e = .returned (.int .u64 ((1 <<< bitsLen n : Nat) : Int)) ∧ w' = u := fun u => AnyF.nextPowerOfTwo (P := Try.prog) (ρ := Try.sortPoint_ren) { Try.sortPoint with } n (by omega) u
  obtain ⟨M, hM⟩ : ∃ M : Nat, M = 1 <<< bitsLen n := ⟨_, rfl⟩
  have hM1 : n < M := by rw [hM, Nat.one_shiftLeft]; exact lt_two_pow_bitsLen n
  have hM2 : M ≤ 2 * n := by rw [hM, Nat.one_shiftLeft]; exact two_pow_bitsLen_le (by omega)
  have ww : IntKind.u64.wrap (n : Int) = (n : Int) := by rw [IntKind.wrap_u64]; omega
  rw [← hM] at hNP
  clear hM h hN hn hk0 hab hb
  go_enter Try.func75, Try.ntmps75
  go_wp2_with (first | (go_at_call 83; refine (hNP _).mono ?_; rintro e w' ⟨rfl, rfl⟩))
  clear en ek ww hNP
  go_loopg [9] 3 (fun gk iv wr => ∃ (t r : Nat) (ys : List Int), t + gk = 3 ∧ t ≤ 3 ∧ iv = .int .i64 ((k0 : Int) + (t : Int)) ∧ Hid (InR a (a + n) xs ys) ∧ RndSt g cap w.heap.size r w wr ys)
  case atStart => exact ⟨0, n, xs, rfl, by omega, by simp, Lib.hid (InR.refl _ _ _), HST0.out⟩
  case round =>
    obtain ⟨t, r, ys, ht, ht3, rfl, HI, hst⟩ := hrel
    have HST := Lib.hid hst
    have HYL := Lib.hid (show ys.length = N from by rw [HI.out.len]; exact HN.out)
    clear hst HST0
    by_cases htt : t < 3
    · have hle : (k0 : Int) + (t : Int) ≤ (k0 : Int) + 2 := by omega
      obtain ⟨R', hR'⟩ : ∃ R' : Nat, R' = xorNextN r := ⟨_, rfl⟩
      have lR' : R' < 18446744073709551616 := by rw [hR']; exact xorNextN_lt r HST.out.lt
      have hNext : Calls Try.prog (84) #[.pointer (some ⟨w.heap.size, 0, none⟩)] wr fun e w' => e = .returned (.int .u64 (R' : Int)) ∧ w' = (wr.setCell ⟨w.heap.size, 0, none⟩ (.int .u64 (R' : Int))).drewN 3 := by
        rw [hR']; exact AnyF.xorshift_Next (P := Try.prog) (ρ := Try.sortPoint_ren) { Try.sortPoint with } _ _ r HST.out.lt wr (by rw [cell_of_blk HST.out.rnd]; rfl) (frozen_of_blk HST.out.rnd _)
      have HST2 := Lib.hid (HST.out.next R' 3 lR')
      generalize (wr.setCell ⟨w.heap.size, 0, none⟩ (.int .u64 (R' : Int))).drewN 3 = w2 at hNext HST2
      obtain ⟨O, hO⟩ : ∃ O : Nat, O = R' &&& (M - 1) := ⟨_, rfl⟩
      have lO : O ≤ M - 1 := by rw [hO]; exact Nat.and_le_right
      have eAnd : bits .and .u64 (R' : Int) ((M : Int) - 1) = (O : Int) := by
        rw [show ((M : Int) - 1) = ((M - 1 : Nat) : Int) by omega, bits_and_u64_nat _ _ lR' (by omega), hO]
      clear HST hO hR'
      by_cases hLO : n ≤ O
      · have hLOz : (n : Int) ≤ (O : Int) := by omega
        obtain ⟨o2, ho2⟩ : ∃ o2 : Nat, o2 = O - n := ⟨_, rfl⟩
        have eo2 : (O : Int) - (n : Int) = (o2 : Int) := by omega
        have lo2 : o2 < n := by omega
        clear ho2
        go_wp2_with (first | (go_at_call 84; refine hNext.mono ?_; rintro e w' ⟨rfl, hw'⟩; obtain rfl : w2 = w' := hw'.symm))
        clear eo2 hLOz hLO eAnd hle hNext
        by_cases hpq : k0 + t = a + o2
        · have c0 := rowU_cell HST2.out.row (k0 + t) (by have := HYL.out; omega)
          have f0 := HST2.out.row.frozen (k0 + t)
          have r0 : (k0 : Int) + (t : Int) < (N : Int) := by omega
          have p0 : (0 : Int) ≤ (k0 : Int) + (t : Int) := by omega
          have q0 : ((k0 : Int) + (t : Int)).toNat = k0 + t := by omega
          have w1 : IntKind.i64.wrap ((a : Int) + (o2 : Int)) = (a : Int) + (o2 : Int) := IntWalk.i64_in _ (by omega)
          have w0 : IntKind.i64.wrap ((k0 : Int) + (t : Int)) = (k0 : Int) + (t : Int) := IntWalk.i64_in _ (by omega)
          have p1 : (0 : Int) ≤ (a : Int) + (o2 : Int) := by omega
          have q1 : ((a : Int) + (o2 : Int)).toNat = k0 + t := by omega
          have r1 : (a : Int) + (o2 : Int) < (N : Int) := by omega
          have HST3 := Lib.hid (HST2.out.swap (k0 + t) (k0 + t))
          have HI3 := Lib.hid (HI.out.trans (InR.swq (a := a) (b := a + n) (xs := ys) (i := k0 + t) (j := k0 + t) (by have := HYL.out; omega) (by omega) (by omega) (by omega) (by omega)))
          clear hpq
          go_wp2_with fail
          go_region
          clear c0 f0 r0 p0 q0 w0 w1 p1 q1 r1 HST2
          go_wp2
          go_roundg (gk - 1)
          case measure => omega
          case rel => exact ⟨t + 1, R', swq ys (k0 + t) (k0 + t), by omega, by omega, by go_num, HI3, HST3.out⟩
        · have c0 := rowU_cell HST2.out.row (k0 + t) (by have := HYL.out; omega)
          have f0 := HST2.out.row.frozen (k0 + t)
          have r0 : (k0 : Int) + (t : Int) < (N : Int) := by omega
          have p0 : (0 : Int) ≤ (k0 : Int) + (t : Int) := by omega
          have q0 : ((k0 : Int) + (t : Int)).toNat = k0 + t := by omega
          have d0 := rowU_cell HST2.out.row (a + o2) (by have := HYL.out; omega)
          have g0 := HST2.out.row.frozen (a + o2)
          have hne : ¬ k0 + t = a + o2 := hpq
          have w1 : IntKind.i64.wrap ((a : Int) + (o2 : Int)) = (a : Int) + (o2 : Int) := IntWalk.i64_in _ (by omega)
          have w0 : IntKind.i64.wrap ((k0 : Int) + (t : Int)) = (k0 : Int) + (t : Int) := IntWalk.i64_in _ (by omega)
          have p1 : (0 : Int) ≤ (a : Int) + (o2 : Int) := by omega
          have q1 : ((a : Int) + (o2 : Int)).toNat = a + o2 := by omega
          have r1 : (a : Int) + (o2 : Int) < (N : Int) := by omega
          have HST3 := Lib.hid (HST2.out.swap (k0 + t) (a + o2))
          have HI3 := Lib.hid (HI.out.trans (InR.swq (a := a) (b := a + n) (xs := ys) (i := k0 + t) (j := a + o2) (by have := HYL.out; omega) (by omega) (by omega) (by omega) (by omega)))
          clear hpq
          go_wp2_with fail
          go_region
          clear c0 f0 r0 p0 q0 w0 w1 p1 q1 r1 HST2 d0 g0 hne
          go_wp2
          go_roundg (gk - 1)
          case measure => omega
          case rel => exact ⟨t + 1, R', swq ys (k0 + t) (a + o2), by omega, by omega, by go_num, HI3, HST3.out⟩
      · have hLOz : ¬ (n : Int) ≤ (O : Int) := by omega
        have lo2 : O < n := by omega
        go_wp2_with (first | (go_at_call 84; refine hNext.mono ?_; rintro e w' ⟨rfl, hw'⟩; obtain rfl : w2 = w' := hw'.symm))
        clear hLOz hLO eAnd hle hNext
        by_cases hpq : k0 + t = a + O
        · have c0 := rowU_cell HST2.out.row (k0 + t) (by have := HYL.out; omega)
          have f0 := HST2.out.row.frozen (k0 + t)
          have r0 : (k0 : Int) + (t : Int) < (N : Int) := by omega
          have p0 : (0 : Int) ≤ (k0 : Int) + (t : Int) := by omega
          have q0 : ((k0 : Int) + (t : Int)).toNat = k0 + t := by omega
          have w1 : IntKind.i64.wrap ((a : Int) + (O : Int)) = (a : Int) + (O : Int) := IntWalk.i64_in _ (by omega)
          have w0 : IntKind.i64.wrap ((k0 : Int) + (t : Int)) = (k0 : Int) + (t : Int) := IntWalk.i64_in _ (by omega)
          have p1 : (0 : Int) ≤ (a : Int) + (O : Int) := by omega
          have q1 : ((a : Int) + (O : Int)).toNat = k0 + t := by omega
          have r1 : (a : Int) + (O : Int) < (N : Int) := by omega
          have HST3 := Lib.hid (HST2.out.swap (k0 + t) (k0 + t))
          have HI3 := Lib.hid (HI.out.trans (InR.swq (a := a) (b := a + n) (xs := ys) (i := k0 + t) (j := k0 + t) (by have := HYL.out; omega) (by omega) (by omega) (by omega) (by omega)))
          clear hpq
          go_wp2_with fail
          go_region
          clear c0 f0 r0 p0 q0 w0 w1 p1 q1 r1 HST2
          go_wp2
          go_roundg (gk - 1)
          case measure => omega
          case rel => exact ⟨t + 1, R', swq ys (k0 + t) (k0 + t), by omega, by omega, by go_num, HI3, HST3.out⟩
        · have c0 := rowU_cell HST2.out.row (k0 + t) (by have := HYL.out; omega)
          have f0 := HST2.out.row.frozen (k0 + t)
          have r0 : (k0 : Int) + (t : Int) < (N : Int) := by omega
          have p0 : (0 : Int) ≤ (k0 : Int) + (t : Int) := by omega
          have q0 : ((k0 : Int) + (t : Int)).toNat = k0 + t := by omega
          have d0 := rowU_cell HST2.out.row (a + O) (by have := HYL.out; omega)
          have g0 := HST2.out.row.frozen (a + O)
          have hne : ¬ k0 + t = a + O := hpq
          have w1 : IntKind.i64.wrap ((a : Int) + (O : Int)) = (a : Int) + (O : Int) := IntWalk.i64_in _ (by omega)
          have w0 : IntKind.i64.wrap ((k0 : Int) + (t : Int)) = (k0 : Int) + (t : Int) := IntWalk.i64_in _ (by omega)
          have p1 : (0 : Int) ≤ (a : Int) + (O : Int) := by omega
          have q1 : ((a : Int) + (O : Int)).toNat = a + O := by omega
          have r1 : (a : Int) + (O : Int) < (N : Int) := by omega
          have HST3 := Lib.hid (HST2.out.swap (k0 + t) (a + O))
          have HI3 := Lib.hid (HI.out.trans (InR.swq (a := a) (b := a + n) (xs := ys) (i := k0 + t) (j := a + O) (by have := HYL.out; omega) (by omega) (by omega) (by omega) (by omega)))
          clear hpq
          go_wp2_with fail
          go_region
          clear c0 f0 r0 p0 q0 w0 w1 p1 q1 r1 HST2 d0 g0 hne
          go_wp2
          go_roundg (gk - 1)
          case measure => omega
          case rel => exact ⟨t + 1, R', swq ys (k0 + t) (a + O), by omega, by omega, by go_num, HI3, HST3.out⟩
    · have hle : ¬ (k0 : Int) + (t : Int) ≤ (k0 : Int) + 2 := by omega
      go_wp2_with fail
      go_end0
      exact ⟨rfl, ys, by rw [← HB.out]; exact HI.out, trivial, HST.out.row, HST.out.grown⟩
end Go.Proofs.Ytnnpheklgdbohaa
