/- The reference's ahead and Seen. Condition: fewer than 1000000 links. · Which facts are seen, as the reference asks it. Condition: fewer than 1000000 links. -/
import Derived.Test.YtenocakpipppiaaGreatDoorQV
import Derived.Test.YtenocakpipppiaaGreatDoorK8
namespace Go.Proofs.YtenocakpipppiaaGreatDoor
open Go.RowKit Go.Shelf Go.Herb

set_option maxHeartbeats 1000000 in
theorem ahead_any (x y : Fc) (w : World) :
    Calls Tryz.prog (26) #[.agg #[.string x.key, .int .u32 x.valid, .int .u64 x.seq, .int .u64 x.line, .int .u8 x.kind, .string x.val], .agg #[.string y.key, .int .u32 y.valid, .int .u64 y.seq, .int .u64 y.line, .int .u8 y.kind, .string y.val]] w fun e w' => e = .returned (.bool (decide (AhF x y))) ∧ Below w.heap.size w w' := by
  have hb : ∀ u1 u2 : Obj, Below w.heap.size w ((w.alloc u1).alloc u2) := fun u1 u2 => ((Below.refl _ _).alloc (Nat.le_refl _) _).alloc (by simp) _
  have HB := Lib.hid hb
  clear hb
  by_cases h1 : x.key.toList < y.key.toList
  · have e1 : Op.bytesLess x.key.toList y.key.toList = true := by rw [bytesLess_eq]; exact decide_eq_true h1
    have hd : decide (AhF x y) = true := decide_eq_true (.inl h1)
    have HD := Lib.hid hd
    clear h1 hd
    go_enter Tryz.func26, Tryz.ntmps26
    go_wp2
    go_ret
    exact ⟨by rw [HD.out]; rfl, HB.out _ _⟩
  · have e1 : Op.bytesLess x.key.toList y.key.toList = false := by rw [bytesLess_eq]; exact decide_eq_false h1
    by_cases h2 : x.key.toList = y.key.toList
    · have e2 : (x.key.toList == y.key.toList) = true := beq_iff_eq.2 h2
      by_cases h3 : y.valid < x.valid
      · have hd : decide (AhF x y) = true := decide_eq_true (.inr ⟨h2, h3⟩)
        have HD := Lib.hid hd
        clear h1 h2 hd
        go_enter Tryz.func26, Tryz.ntmps26
        go_wp2
        go_ret
        exact ⟨by rw [HD.out]; rfl, HB.out _ _⟩
      · have hd : decide (AhF x y) = false := decide_eq_false (by rintro (h | ⟨_, h⟩); exact h1 h; exact h3 h)
        have HD := Lib.hid hd
        clear h1 h2 hd
        go_enter Tryz.func26, Tryz.ntmps26
        go_wp2
        go_ret
        exact ⟨by rw [HD.out]; rfl, HB.out _ _⟩
    · have e2 : (x.key.toList == y.key.toList) = false := beq_eq_false_iff_ne.2 h2
      have hd : decide (AhF x y) = false := decide_eq_false (by rintro (h | ⟨h, _⟩); exact h1 h; exact h2 h)
      have HD := Lib.hid hd
      clear h1 h2 hd
      go_enter Tryz.func26, Tryz.ntmps26
      go_wp2
      go_ret
      exact ⟨by rw [HD.out]; rfl, HB.out _ _⟩
end Go.Proofs.YtenocakpipppiaaGreatDoor

namespace Go.Proofs.YtenocakpipppiaaGreatDoor
open Go.RowKit Go.Shelf Go.Herb

set_option maxRecDepth 100000 in
set_option maxHeartbeats 1000000 in
theorem seenRef_any (f : Fc) (a : Option Addr) (c : Nat) (cs : List Lk) (at_ : Int) (w : World) (hC : Links w a cs) (hlen : cs.length < 1000000) :
    Calls Tryz.prog 25 #[fv f, .slice a cs.length c, .int .u64 at_] w fun e w' => e = .returned (.bool (seenC cs at_ f)) ∧ Below w.heap.size w w' := by
  have HC := Lib.hid hC
  clear hC
  go_enter Tryz.func25, Tryz.ntmps25
  go_wp2_with fail
  go_loopg [7] cs.length (fun gk iv wr => ∃ k n : Nat, k + gk = cs.length ∧ iv = .int .i64 k ∧ Hid (∀ l ∈ cs.take k, l.line ≠ f.line) ∧ wr = (w.alloc (.cells #[.string f.key, .int .u32 f.valid, .int .u64 f.seq, .int .u64 f.line, .int .u8 f.kind, .string f.val] 50)).drewN n)
  case atStart => exact ⟨0, 0, by omega, rfl, Lib.hid (by simp), rfl⟩
  case round =>
    obtain ⟨k, n, hk, rfl, hno, rfl⟩ := hrel
    obtain ⟨X, hX⟩ : ∃ X : World, X = (w.alloc (.cells #[.string f.key, .int .u32 f.valid, .int .u64 f.seq, .int .u64 f.line, .int .u8 f.kind, .string f.val] 50)).drewN n := ⟨_, rfl⟩
    have hBX : Below w.heap.size w X := by rw [hX]; exact below_drewN ((Below.refl _ _).alloc (Nat.le_refl _) _) n
    have hX0 : X.heap[w.heap.size]? = some (.cells (fc f).toArray 50 (0, 0)) := by rw [hX]; exact blk_new_at rfl _
    have x2 := cell_of_blk hX0 2
    have x3 := cell_of_blk hX0 3
    simp [fc] at x2 x3
    have hstep : ∀ m, X.drewN m = (w.alloc (.cells #[.string f.key, .int .u32 f.valid, .int .u64 f.seq, .int .u64 f.line, .int .u8 f.kind, .string f.val] 50)).drewN (n + m) := fun m => by rw [hX]; exact drewN_drewN' _ _ _
    rw [← hX]
    have HST := Lib.hid hstep
    have HBX := Lib.hid hBX
    clear hX hBX hX0 hstep
    by_cases hlt : k < cs.length
    · obtain ⟨b, o, rfl, hlb, hcell⟩ := HC.out.get k hlt
      have e0 := (HBX.out.cell (p := ⟨b, _, none⟩) hlb).trans (hcell 0 _ rfl)
      have e1 := (HBX.out.cell (p := ⟨b, _, none⟩) hlb).trans (hcell 1 _ rfl)
      simp only [Nat.add_zero] at e0 e1
      have hk0 : (0 : Int) ≤ (k : Int) := by omega
      have hk1 : (k : Int) < (cs.length : Int) := by omega
      by_cases g : cs[k].line = f.line
      · have hs := seenC_at (at_ := at_) hlt hno.out g
        have d : (cs[k].line == f.line) = true := by simp [g]
        obtain ⟨l, hl⟩ : ∃ l, l = cs[k] := ⟨_, rfl⟩
        rw [← hl] at e0 e1 d hs
        by_cases g2 : f.seq ≤ l.upto
        · have d2 : decide (f.seq ≤ l.upto) = true := decide_eq_true g2
          rw [d2, Bool.true_and] at hs
          have HS := Lib.hid hs
          clear hs g hcell hl g2
          go_wp2_with fail
          go_quiet (fail)
          go_wp2_with fail
          go_quiet (fail)
          go_wp2
          go_ret
          exact ⟨by rw [HS.out]; rfl, below_drewN (below_drewN HBX.out _) _⟩
        · have d2 : decide (f.seq ≤ l.upto) = false := decide_eq_false g2
          rw [d2, Bool.false_and] at hs
          have HS := Lib.hid hs
          clear hs g hcell hl g2
          go_wp2_with fail
          go_quiet (fail)
          go_wp2_with fail
          go_quiet (fail)
          go_wp2
          go_ret
          exact ⟨by rw [HS.out]; rfl, below_drewN (below_drewN HBX.out _) _⟩
      · have hno' : ∀ l ∈ cs.take (k + 1), l.line ≠ f.line := by
          intro l hl
          rw [List.take_succ_eq_append_getElem hlt] at hl
          rcases List.mem_append.1 hl with hl | hl
          · exact hno.out l hl
          · rw [List.mem_singleton.1 hl]; exact g
        have d : (cs[k].line == f.line) = false := beq_eq_false_iff_ne.2 g
        have HNO := Lib.hid hno'
        obtain ⟨l, hl⟩ : ∃ l, l = cs[k] := ⟨_, rfl⟩
        rw [← hl] at e0 e1 d
        clear hno' g hcell hl
        go_wp2_with fail
        go_quiet (fail)
        go_wp2
        go_roundg (gk - 1)
        case measure => omega
        case rel => exact ⟨k + 1, _, by omega, by go_num, HNO, HST.out _⟩
    · have hke : k = cs.length := by omega
      subst hke
      have hs : seenC cs at_ f = false := seenC_none (by have := hno.out; rwa [List.take_length] at this)
      have HS := Lib.hid hs
      clear hs
      go_wp2
      go_ret
      exact ⟨by rw [HS.out]; rfl, HBX.out⟩
end Go.Proofs.YtenocakpipppiaaGreatDoor
