/- keys.Cmp: in which order two facts stand. No condition. -/
import Derived.Test.YticcccciefaemaaDoorK4
import Derived.Deep.RegionHeld3
import Derived.Sort.Grow
import Derived.Sort.Walk0
namespace Go.Proofs.YticcccciefaemaaDoor
open Go.RowKit Go.Shelf Go.Herb

def cmpI (a b : Int) : Int := if a < b then -1 else if b < a then 1 else 0
def cmpS (a b : ByteArray) : Int := if a.toList < b.toList then -1 else if b.toList < a.toList then 1 else 0

theorem isNaN_64 (a : Int) (w : World) : Calls Tryd.prog 38 #[.int .u64 a] w fun e w' => e = .returned (.bool false) ∧ w = w' := by
  go_enter Tryd.func38, Tryd.ntmps38
  go_wp2
  go_ret
  exact ⟨rfl, rfl⟩
theorem cmp_64 (a b : Int) (w : World) : Calls Tryd.prog 29 #[.int .u64 a, .int .u64 b] w fun e w' => e = .returned (.int .i64 (cmpI a b)) ∧ w = w' := by
  go_enter Tryd.func29, Tryd.ntmps29
  go_wp2_with (go_at_call 38; refine (isNaN_64 _ _).mono ?_; rintro e w' ⟨rfl, rfl⟩)
  all_goals
    go_ret
    refine ⟨?_, rfl⟩
    unfold cmpI
    first | (rw [if_pos (by omega)]; rfl) | (rw [if_neg (by omega), if_pos (by omega)]; rfl) | (rw [if_neg (by omega), if_neg (by omega)]; rfl)
theorem lt_total_bytes (a b : List UInt8) : a < b ∨ a = b ∨ b < a := by
  by_cases h1 : a < b
  · exact .inl h1
  · by_cases h2 : b < a
    · exact .inr (.inr h2)
    · exact .inr (.inl (List.le_antisymm (List.not_lt.1 h2) (List.not_lt.1 h1)))
/-- The first that is not 0. -/
def orI (a b c d : Int) : Int := if a ≠ 0 then a else if b ≠ 0 then b else if c ≠ 0 then c else d
theorem three_grow (w : World) (o1 o2 o3 : Obj) : (((w.alloc o1).alloc o2).alloc o3).drew = Sort.grow (w.drewN 1) #[o1, o2, o3] := by
  rw [Sort.alloc_eq_grow, Sort.alloc_eq_grow, Sort.alloc_eq_grow, Sort.grow_grow, Sort.grow_grow]
  rfl
def cmpF (x y : Fc) : Int := orI (cmpS x.key y.key) (cmpI y.valid x.valid) (cmpI y.seq x.seq) (cmpI x.kind y.kind)
/-! The order. -/
theorem cmpI_neg (a b : Int) : cmpI a b < 0 ↔ a < b := by unfold cmpI; split <;> (try split) <;> omega
theorem cmpI_zero (a b : Int) : cmpI a b = 0 ↔ a = b := by unfold cmpI; split <;> (try split) <;> omega
theorem cmpS_neg (a b : ByteArray) : cmpS a b < 0 ↔ a.toList < b.toList := by
  unfold cmpS
  by_cases h : a.toList < b.toList
  · rw [if_pos h]; simp [h]
  · rw [if_neg h]; split <;> simp [h]
theorem cmpS_zero (a b : ByteArray) : cmpS a b = 0 ↔ a.toList = b.toList := by
  unfold cmpS
  rcases lt_total_bytes a.toList b.toList with h | h | h
  · rw [if_pos h]
    constructor
    · intro e; cases e
    · intro e; rw [e] at h; exact absurd h (List.lt_irrefl _)
  · rw [h, if_neg (List.lt_irrefl _), if_neg (List.lt_irrefl _)]; simp
  · rw [if_neg (List.lt_asymm h), if_pos h]
    constructor
    · intro e; cases e
    · intro e; rw [e] at h; exact absurd h (List.lt_irrefl _)
theorem orI_neg (a b c d : Int) : orI a b c d < 0 ↔ a < 0 ∨ a = 0 ∧ (b < 0 ∨ b = 0 ∧ (c < 0 ∨ c = 0 ∧ d < 0)) := by
  unfold orI
  split
  · omega
  · split
    · omega
    · split <;> omega

/-- A fact stands ahead of another one. -/
def LtF (x y : Fc) : Prop := x.key.toList < y.key.toList ∨ x.key.toList = y.key.toList ∧ (y.valid < x.valid ∨ y.valid = x.valid ∧ (y.seq < x.seq ∨ y.seq = x.seq ∧ x.kind < y.kind))
theorem cmpF_neg (x y : Fc) : cmpF x y < 0 ↔ LtF x y := by
  unfold cmpF LtF
  rw [orI_neg, cmpS_neg, cmpS_zero, cmpI_neg, cmpI_zero, cmpI_neg, cmpI_zero, cmpI_neg]

theorem LtF.irrefl (x : Fc) : ¬ LtF x x := by
  rintro (h | ⟨_, h⟩)
  · exact List.lt_irrefl _ h
  · omega
theorem LtF.trans {x y z : Fc} (h1 : LtF x y) (h2 : LtF y z) : LtF x z := by
  rcases h1 with h1 | ⟨e1, h1⟩ <;> rcases h2 with h2 | ⟨e2, h2⟩
  · exact .inl (List.lt_trans h1 h2)
  · exact .inl (e2 ▸ h1)
  · exact .inl (e1 ▸ h2)
  · exact .inr ⟨e1.trans e2, by omega⟩
theorem LtF.not {x y : Fc} : ¬ LtF x y ↔ (y.key.toList < x.key.toList ∨ x.key.toList = y.key.toList ∧ ¬ (y.valid < x.valid ∨ y.valid = x.valid ∧ (y.seq < x.seq ∨ y.seq = x.seq ∧ x.kind < y.kind))) := by
  unfold LtF
  constructor
  · intro h
    rcases lt_total_bytes x.key.toList y.key.toList with h1 | h1 | h1
    · exact absurd (.inl h1) h
    · exact .inr ⟨h1, fun h2 => h (.inr ⟨h1, h2⟩)⟩
    · exact .inl h1
  · rintro (h | ⟨e, h⟩)
    · rintro (h1 | ⟨h1, _⟩)
      · exact List.lt_asymm h h1
      · rw [h1] at h; exact List.lt_irrefl _ h
    · rintro (h1 | ⟨_, h2⟩)
      · rw [e] at h1; exact List.lt_irrefl _ h1
      · exact h h2
theorem LtF.ntrans {x y z : Fc} (h1 : ¬ LtF x y) (h2 : ¬ LtF y z) : ¬ LtF x z := by
  rw [LtF.not] at *
  rcases h1 with h1 | ⟨e1, h1⟩ <;> rcases h2 with h2 | ⟨e2, h2⟩
  · exact .inl (List.lt_trans h2 h1)
  · exact .inl (e2 ▸ h1)
  · exact .inl (e1 ▸ h2)
  · exact .inr ⟨e1.trans e2, by omega⟩
end Go.Proofs.YticcccciefaemaaDoor
