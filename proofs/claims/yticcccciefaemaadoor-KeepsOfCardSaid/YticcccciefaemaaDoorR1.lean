/- The reference's ahead and Seen. Condition: fewer than 1000000 links. -/
import Derived.Test.YticcccciefaemaaDoorQV
import Derived.Test.YticcccciefaemaaDoorK8
namespace Go.Proofs.YticcccciefaemaaDoor
open Go.RowKit Go.Shelf Go.Herb

set_option maxHeartbeats 1000000 in
theorem ahead_any (x y : Fc) (w : World) :
    Calls Tryd.prog (40) #[.agg #[.string x.key, .int .u32 x.valid, .int .u64 x.seq, .int .u64 x.line, .int .u8 x.kind, .string x.val], .agg #[.string y.key, .int .u32 y.valid, .int .u64 y.seq, .int .u64 y.line, .int .u8 y.kind, .string y.val]] w fun e w' => e = .returned (.bool (decide (AhF x y))) ∧ Below w.heap.size w w' := by
  have hb : ∀ u1 u2 : Obj, Below w.heap.size w ((w.alloc u1).alloc u2) := fun u1 u2 => ((Below.refl _ _).alloc (Nat.le_refl _) _).alloc (by simp) _
  have HB := Lib.hid hb
  clear hb
  by_cases h1 : x.key.toList < y.key.toList
  · have e1 : Op.bytesLess x.key.toList y.key.toList = true := by rw [bytesLess_eq]; exact decide_eq_true h1
    have hd : decide (AhF x y) = true := decide_eq_true (.inl h1)
    have HD := Lib.hid hd
    clear h1 hd
    go_enter Tryd.func40, Tryd.ntmps40
    go_wp2
    go_ret
    exact ⟨by rw [HD.out]; rfl, HB.out _ _⟩
  · have e1 : Op.bytesLess x.key.toList y.key.toList = false := by rw [bytesLess_eq]; exact decide_eq_false h1
    by_cases h2 : x.key.toList = y.key.toList
    · have e2 : (x.key.toList == y.key.toList) = true := beq_iff_eq.2 h2
      by_cases h3 : y.valid < x.valid
      · have hd : decide (AhF x y) = true := decide_eq_true (.inr ⟨h2, h3⟩)
        have HD := Lib.hid hd
        clear h1 h2 hd
        go_enter Tryd.func40, Tryd.ntmps40
        go_wp2
        go_ret
        exact ⟨by rw [HD.out]; rfl, HB.out _ _⟩
      · have hd : decide (AhF x y) = false := decide_eq_false (by rintro (h | ⟨_, h⟩); exact h1 h; exact h3 h)
        have HD := Lib.hid hd
        clear h1 h2 hd
        go_enter Tryd.func40, Tryd.ntmps40
        go_wp2
        go_ret
        exact ⟨by rw [HD.out]; rfl, HB.out _ _⟩
    · have e2 : (x.key.toList == y.key.toList) = false := beq_eq_false_iff_ne.2 h2
      have hd : decide (AhF x y) = false := decide_eq_false (by rintro (h | ⟨h, _⟩); exact h1 h; exact h2 h)
      have HD := Lib.hid hd
      clear h1 h2 hd
      go_enter Tryd.func40, Tryd.ntmps40
      go_wp2
      go_ret
      exact ⟨by rw [HD.out]; rfl, HB.out _ _⟩
end Go.Proofs.YticcccciefaemaaDoor
