/- keys.Cmp: in which order two facts stand. No condition. -/
import Derived.Test.YtenocakpipppiaaGreatDoorK4
import Derived.Deep.RegionHeld3
import Derived.Sort.Grow
import Derived.Sort.Walk0
namespace Go.Proofs.YtenocakpipppiaaGreatDoor
open Go.RowKit Go.Shelf Go.Herb

def cmpI (a b : Int) : Int := if a < b then -1 else if b < a then 1 else 0
def cmpS (a b : ByteArray) : Int := if a.toList < b.toList then -1 else if b.toList < a.toList then 1 else 0

theorem isNaN_s (s : ByteArray) (w : World) : Calls Tryz.prog 67 #[.string s] w fun e w' => e = .returned (.bool false) ∧ w = w' := by
  go_enter Tryz.func67, Tryz.ntmps67
  go_wp2
  go_ret
  exact ⟨rfl, rfl⟩
theorem isNaN_32 (a : Int) (w : World) : Calls Tryz.prog 86 #[.int .u32 a] w fun e w' => e = .returned (.bool false) ∧ w = w' := by
  go_enter Tryz.func86, Tryz.ntmps86
  go_wp2
  go_ret
  exact ⟨rfl, rfl⟩
theorem isNaN_64 (a : Int) (w : World) : Calls Tryz.prog 87 #[.int .u64 a] w fun e w' => e = .returned (.bool false) ∧ w = w' := by
  go_enter Tryz.func87, Tryz.ntmps87
  go_wp2
  go_ret
  exact ⟨rfl, rfl⟩
theorem isNaN_8 (a : Int) (w : World) : Calls Tryz.prog 70 #[.int .u8 a] w fun e w' => e = .returned (.bool false) ∧ w = w' := by
  go_enter Tryz.func70, Tryz.ntmps70
  go_wp2
  go_ret
  exact ⟨rfl, rfl⟩

theorem cmp_64 (a b : Int) (w : World) : Calls Tryz.prog 69 #[.int .u64 a, .int .u64 b] w fun e w' => e = .returned (.int .i64 (cmpI a b)) ∧ w = w' := by
  go_enter Tryz.func69, Tryz.ntmps69
  go_wp2_with (go_at_call 87; refine (isNaN_64 _ _).mono ?_; rintro e w' ⟨rfl, rfl⟩)
  all_goals
    go_ret
    refine ⟨?_, rfl⟩
    unfold cmpI
    first | (rw [if_pos (by omega)]; rfl) | (rw [if_neg (by omega), if_pos (by omega)]; rfl) | (rw [if_neg (by omega), if_neg (by omega)]; rfl)
theorem cmp_32 (a b : Int) (w : World) : Calls Tryz.prog 68 #[.int .u32 a, .int .u32 b] w fun e w' => e = .returned (.int .i64 (cmpI a b)) ∧ w = w' := by
  go_enter Tryz.func68, Tryz.ntmps68
  go_wp2_with (go_at_call 86; refine (isNaN_32 _ _).mono ?_; rintro e w' ⟨rfl, rfl⟩)
  all_goals
    go_ret
    refine ⟨?_, rfl⟩
    unfold cmpI
    first | (rw [if_pos (by omega)]; rfl) | (rw [if_neg (by omega), if_pos (by omega)]; rfl) | (rw [if_neg (by omega), if_neg (by omega)]; rfl)
theorem cmp_8 (a b : Int) (w : World) : Calls Tryz.prog 52 #[.int .u8 a, .int .u8 b] w fun e w' => e = .returned (.int .i64 (cmpI a b)) ∧ w = w' := by
  go_enter Tryz.func52, Tryz.ntmps52
  go_wp2_with (go_at_call 70; refine (isNaN_8 _ _).mono ?_; rintro e w' ⟨rfl, rfl⟩)
  all_goals
    go_ret
    refine ⟨?_, rfl⟩
    unfold cmpI
    first | (rw [if_pos (by omega)]; rfl) | (rw [if_neg (by omega), if_pos (by omega)]; rfl) | (rw [if_neg (by omega), if_neg (by omega)]; rfl)
theorem fall_32 (a b : Int) (w : World) : Calls Tryz.prog 50 #[.int .u32 a, .int .u32 b] w fun e w' => e = .returned (.int .i64 (cmpI b a)) ∧ w = w' := by
  go_enter Tryz.func50, Tryz.ntmps50
  go_wp2_with (go_at_call 68; refine (cmp_32 _ _ _).mono ?_; rintro e w' ⟨rfl, rfl⟩)
  go_ret
  exact ⟨rfl, rfl⟩
theorem fall_64 (a b : Int) (w : World) : Calls Tryz.prog 51 #[.int .u64 a, .int .u64 b] w fun e w' => e = .returned (.int .i64 (cmpI b a)) ∧ w = w' := by
  go_enter Tryz.func51, Tryz.ntmps51
  go_wp2_with (go_at_call 69; refine (cmp_64 _ _ _).mono ?_; rintro e w' ⟨rfl, rfl⟩)
  go_ret
  exact ⟨rfl, rfl⟩
theorem lt_total_bytes (a b : List UInt8) : a < b ∨ a = b ∨ b < a := by
  by_cases h1 : a < b
  · exact .inl h1
  · by_cases h2 : b < a
    · exact .inr (.inr h2)
    · exact .inr (.inl (List.le_antisymm (List.not_lt.1 h2) (List.not_lt.1 h1)))
theorem cmp_s (a b : ByteArray) (w : World) : Calls Tryz.prog 49 #[.string a, .string b] w fun e w' => e = .returned (.int .i64 (cmpS a b)) ∧ w = w' := by
  by_cases h1 : a.toList < b.toList
  · have e1 : Op.bytesLess a.toList b.toList = true := by rw [bytesLess_eq]; exact decide_eq_true h1
    have hr : cmpS a b = -1 := if_pos h1
    rw [hr]
    clear hr h1
    go_enter Tryz.func49, Tryz.ntmps49
    go_wp2_with (go_at_call 67; refine (isNaN_s _ _).mono ?_; rintro e w' ⟨rfl, rfl⟩)
    go_ret
    exact ⟨rfl, rfl⟩
  · have e1 : Op.bytesLess a.toList b.toList = false := by rw [bytesLess_eq]; exact decide_eq_false h1
    by_cases h2 : a.toList = b.toList
    · have e2 : (a.toList == b.toList) = true := by rw [h2]; exact beq_self_eq_true _
      have h3 : ¬ b.toList < a.toList := by rw [h2]; exact List.lt_irrefl _
      have hr : cmpS a b = 0 := by unfold cmpS; rw [if_neg h1, if_neg h3]
      rw [hr]
      clear hr h1 h2 h3
      go_enter Tryz.func49, Tryz.ntmps49
      go_wp2_with (go_at_call 67; refine (isNaN_s _ _).mono ?_; rintro e w' ⟨rfl, rfl⟩)
      go_ret
      exact ⟨rfl, rfl⟩
    · have e2 : (a.toList == b.toList) = false := beq_eq_false_iff_ne.2 h2
      have h3 : b.toList < a.toList := by
        rcases lt_total_bytes a.toList b.toList with h | h | h
        · exact absurd h h1
        · exact absurd h h2
        · exact h
      have hr : cmpS a b = 1 := by unfold cmpS; rw [if_neg h1, if_pos h3]
      rw [hr]
      clear hr h1 h2 h3
      go_enter Tryz.func49, Tryz.ntmps49
      go_wp2_with (go_at_call 67; refine (isNaN_s _ _).mono ?_; rintro e w' ⟨rfl, rfl⟩)
      go_ret
      exact ⟨rfl, rfl⟩

/-- The first that is not 0. -/
def orI (a b c d : Int) : Int := if a ≠ 0 then a else if b ≠ 0 then b else if c ≠ 0 then c else d
theorem or_any (a b c d : Int) (g : Nat) (w : World) (hb : w.heap[g]? = some (.cells #[.int .i64 a, .int .i64 b, .int .i64 c, .int .i64 d] 3 (0, 0))) :
    Calls Tryz.prog 48 #[.slice (some ⟨g, 0, none⟩) 4 4] w fun e w' => e = .returned (.int .i64 (orI a b c d)) ∧ w = w' := by
  obtain ⟨c0, c1, c2, c3, -⟩ := blk_cells4 hb
  clear hb
  go_enter Tryz.func48, Tryz.ntmps48
  go_wp2
  go_loopg [8] 4 (fun gk iv wr => ∃ k : Nat, k + gk = 4 ∧ iv = .int .i64 k ∧ ((0 < k → a = 0) ∧ (1 < k → b = 0) ∧ (2 < k → c = 0) ∧ (3 < k → d = 0)) ∧ w = wr)
  case atStart => exact ⟨0, rfl, rfl, ⟨by omega, by omega, by omega, by omega⟩, rfl⟩
  case round =>
    obtain ⟨k, hk, rfl, hz, rfl⟩ := hrel
    have : k = 0 ∨ k = 1 ∨ k = 2 ∨ k = 3 ∨ k = 4 := by omega
    have HZ := Lib.hid hz
    clear hz
    rcases this with rfl | rfl | rfl | rfl | rfl
    · by_cases h : a = 0
      · have hb0 : (a != 0) = false := by simp [h]
        go_wp2
        go_roundg (gk - 1)
        case measure => omega
        case rel => exact ⟨1, by omega, rfl, ⟨fun _ => h, by omega, by omega, by omega⟩, rfl⟩
      · have hb0 : (a != 0) = true := by simp [h]
        go_wp2
        go_ret
        exact ⟨by simp [orI, h], rfl⟩
    · have z0 := HZ.out.1 (by omega)
      by_cases h : b = 0
      · have hb0 : (b != 0) = false := by simp [h]
        go_wp2
        go_roundg (gk - 1)
        case measure => omega
        case rel => exact ⟨2, by omega, rfl, ⟨fun _ => z0, fun _ => h, by omega, by omega⟩, rfl⟩
      · have hb0 : (b != 0) = true := by simp [h]
        have Z0 := Lib.hid z0
        clear z0
        go_wp2
        go_ret
        exact ⟨by simp [orI, h, Z0.out], rfl⟩
    · have z0 := HZ.out.1 (by omega)
      have z1 := HZ.out.2.1 (by omega)
      have Z0 := Lib.hid z0
      have Z1 := Lib.hid z1
      clear z0 z1
      by_cases h : c = 0
      · have hb0 : (c != 0) = false := by simp [h]
        go_wp2
        go_roundg (gk - 1)
        case measure => omega
        case rel => exact ⟨3, by omega, rfl, ⟨fun _ => Z0.out, fun _ => Z1.out, fun _ => h, by omega⟩, rfl⟩
      · have hb0 : (c != 0) = true := by simp [h]
        go_wp2
        go_ret
        exact ⟨by simp [orI, h, Z0.out, Z1.out], rfl⟩
    · have z0 := HZ.out.1 (by omega)
      have z1 := HZ.out.2.1 (by omega)
      have z2 := HZ.out.2.2.1 (by omega)
      have Z0 := Lib.hid z0
      have Z1 := Lib.hid z1
      have Z2 := Lib.hid z2
      clear z0 z1 z2
      by_cases h : d = 0
      · have hb0 : (d != 0) = false := by simp [h]
        go_wp2
        go_roundg (gk - 1)
        case measure => omega
        case rel => exact ⟨4, by omega, rfl, ⟨fun _ => Z0.out, fun _ => Z1.out, fun _ => Z2.out, fun _ => h⟩, rfl⟩
      · have hb0 : (d != 0) = true := by simp [h]
        go_wp2
        go_ret
        exact ⟨by simp [orI, Z0.out, Z1.out, Z2.out], rfl⟩
    · go_wp2
      go_ret
      exact ⟨by simp [orI, HZ.out.1 (by omega), HZ.out.2.1 (by omega), HZ.out.2.2.1 (by omega), HZ.out.2.2.2 (by omega)], rfl⟩
theorem or_new (a b c d : Int) (W : World) :
    Calls Tryz.prog 48 #[.slice (some ⟨W.heap.size, 0, none⟩) 4 4] (W.alloc (.cells #[.int .i64 a, .int .i64 b, .int .i64 c, .int .i64 d] 3)).drew fun e w' => e = .returned (.int .i64 (orI a b c d)) ∧ (W.alloc (.cells #[.int .i64 a, .int .i64 b, .int .i64 c, .int .i64 d] 3)).drew = w' :=
  or_any a b c d W.heap.size _ (by exact blk_new W _)
theorem three_grow (w : World) (o1 o2 o3 : Obj) : (((w.alloc o1).alloc o2).alloc o3).drew = Sort.grow (w.drewN 1) #[o1, o2, o3] := by
  rw [Sort.alloc_eq_grow, Sort.alloc_eq_grow, Sort.alloc_eq_grow, Sort.grow_grow, Sort.grow_grow]
  rfl
def cmpF (x y : Fc) : Int := orI (cmpS x.key y.key) (cmpI y.valid x.valid) (cmpI y.seq x.seq) (cmpI x.kind y.kind)
set_option maxRecDepth 100000 in
set_option maxHeartbeats 1000000 in
theorem cmpF_any (x y : Fc) (w : World) : Calls Tryz.prog 34 #[fv x, fv y] w fun e w' => e = .returned (.int .i64 (cmpF x y)) ∧ ∃ q os', w' = Sort.grow (w.drewN q) os' := by
  go_enter Tryz.func34, Tryz.ntmps34
  go_wp2_with fail
  obtain ⟨W, hW⟩ : ∃ W : World, W = (w.alloc (.cells #[.string x.key, .int .u32 x.valid, .int .u64 x.seq, .int .u64 x.line, .int .u8 x.kind, .string x.val] 50)).alloc (.cells #[.string y.key, .int .u32 y.valid, .int .u64 y.seq, .int .u64 y.line, .int .u8 y.kind, .string y.val] 50) := ⟨_, rfl⟩
  have bx : W.heap[w.heap.size]? = some (.cells #[.string x.key, .int .u32 x.valid, .int .u64 x.seq, .int .u64 x.line, .int .u8 x.kind, .string x.val] 50 (0, 0)) := by rw [hW]; exact blk_alloc (blk_new_at rfl _)
  have by_ : W.heap[w.heap.size + 1]? = some (.cells #[.string y.key, .int .u32 y.valid, .int .u64 y.seq, .int .u64 y.line, .int .u8 y.kind, .string y.val] 50 (0, 0)) := by rw [hW]; exact blk_new_at (by simp) _
  rw [← hW]
  have HW := Lib.hid hW
  have x0 := cell_of_blk bx 0
  have x1 := cell_of_blk bx 1
  have x2 := cell_of_blk bx 2
  have x4 := cell_of_blk bx 4
  have y0 := cell_of_blk by_ 0
  have y1 := cell_of_blk by_ 1
  have y2 := cell_of_blk by_ 2
  have y4 := cell_of_blk by_ 4
  simp at x0 x1 x2 x4 y0 y1 y2 y4
  have hlx := lt_of_blk bx
  have hly := lt_of_blk by_
  clear hW bx by_
  go_region_held3 (fun w' => w'.cell? ⟨w.heap.size, 0, none⟩ = some (.string x.key) ∧ w'.cell? ⟨w.heap.size, 1, none⟩ = some (.int .u32 x.valid) ∧ w'.cell? ⟨w.heap.size, 2, none⟩ = some (.int .u64 x.seq) ∧ w'.cell? ⟨w.heap.size, 4, none⟩ = some (.int .u8 x.kind) ∧ w'.cell? ⟨w.heap.size + 1, 0, none⟩ = some (.string y.key) ∧ w'.cell? ⟨w.heap.size + 1, 1, none⟩ = some (.int .u32 y.valid) ∧ w'.cell? ⟨w.heap.size + 1, 2, none⟩ = some (.int .u64 y.seq) ∧ w'.cell? ⟨w.heap.size + 1, 4, none⟩ = some (.int .u8 y.kind)) (go_keep)
    (first | (go_at_call 49; refine (cmp_s _ _ _).mono ?_; rintro e w1 ⟨rfl, rfl⟩) | (go_at_call 50; refine (fall_32 _ _ _).mono ?_; rintro e w1 ⟨rfl, rfl⟩) | (go_at_call 51; refine (fall_64 _ _ _).mono ?_; rintro e w1 ⟨rfl, rfl⟩) | (go_at_call 52; refine (cmp_8 _ _ _).mono ?_; rintro e w1 ⟨rfl, rfl⟩) | (go_at_call 48; refine (or_new _ _ _ _ W).mono ?_; rintro e w1 ⟨rfl, rfl⟩))
  all_goals
    go_wp2
    go_ret
    have hW := HW.out
    subst hW
    exact ⟨rfl, 1, _, three_grow _ _ _ _⟩

/-! The order. -/
theorem cmpI_neg (a b : Int) : cmpI a b < 0 ↔ a < b := by unfold cmpI; split <;> (try split) <;> omega
theorem cmpI_zero (a b : Int) : cmpI a b = 0 ↔ a = b := by unfold cmpI; split <;> (try split) <;> omega
theorem cmpS_neg (a b : ByteArray) : cmpS a b < 0 ↔ a.toList < b.toList := by
  unfold cmpS
  by_cases h : a.toList < b.toList
  · rw [if_pos h]; simp [h]
  · rw [if_neg h]; split <;> simp [h]
theorem cmpS_zero (a b : ByteArray) : cmpS a b = 0 ↔ a.toList = b.toList := by
  unfold cmpS
  rcases lt_total_bytes a.toList b.toList with h | h | h
  · rw [if_pos h]
    constructor
    · intro e; cases e
    · intro e; rw [e] at h; exact absurd h (List.lt_irrefl _)
  · rw [h, if_neg (List.lt_irrefl _), if_neg (List.lt_irrefl _)]; simp
  · rw [if_neg (List.lt_asymm h), if_pos h]
    constructor
    · intro e; cases e
    · intro e; rw [e] at h; exact absurd h (List.lt_irrefl _)
theorem orI_neg (a b c d : Int) : orI a b c d < 0 ↔ a < 0 ∨ a = 0 ∧ (b < 0 ∨ b = 0 ∧ (c < 0 ∨ c = 0 ∧ d < 0)) := by
  unfold orI
  split
  · omega
  · split
    · omega
    · split <;> omega

/-- A fact stands ahead of another one. -/
def LtF (x y : Fc) : Prop := x.key.toList < y.key.toList ∨ x.key.toList = y.key.toList ∧ (y.valid < x.valid ∨ y.valid = x.valid ∧ (y.seq < x.seq ∨ y.seq = x.seq ∧ x.kind < y.kind))
theorem cmpF_neg (x y : Fc) : cmpF x y < 0 ↔ LtF x y := by
  unfold cmpF LtF
  rw [orI_neg, cmpS_neg, cmpS_zero, cmpI_neg, cmpI_zero, cmpI_neg, cmpI_zero, cmpI_neg]

theorem LtF.irrefl (x : Fc) : ¬ LtF x x := by
  rintro (h | ⟨_, h⟩)
  · exact List.lt_irrefl _ h
  · omega
theorem LtF.trans {x y z : Fc} (h1 : LtF x y) (h2 : LtF y z) : LtF x z := by
  rcases h1 with h1 | ⟨e1, h1⟩ <;> rcases h2 with h2 | ⟨e2, h2⟩
  · exact .inl (List.lt_trans h1 h2)
  · exact .inl (e2 ▸ h1)
  · exact .inl (e1 ▸ h2)
  · exact .inr ⟨e1.trans e2, by omega⟩
theorem LtF.not {x y : Fc} : ¬ LtF x y ↔ (y.key.toList < x.key.toList ∨ x.key.toList = y.key.toList ∧ ¬ (y.valid < x.valid ∨ y.valid = x.valid ∧ (y.seq < x.seq ∨ y.seq = x.seq ∧ x.kind < y.kind))) := by
  unfold LtF
  constructor
  · intro h
    rcases lt_total_bytes x.key.toList y.key.toList with h1 | h1 | h1
    · exact absurd (.inl h1) h
    · exact .inr ⟨h1, fun h2 => h (.inr ⟨h1, h2⟩)⟩
    · exact .inl h1
  · rintro (h | ⟨e, h⟩)
    · rintro (h1 | ⟨h1, _⟩)
      · exact List.lt_asymm h h1
      · rw [h1] at h; exact List.lt_irrefl _ h
    · rintro (h1 | ⟨_, h2⟩)
      · rw [e] at h1; exact List.lt_irrefl _ h1
      · exact h h2
theorem LtF.ntrans {x y z : Fc} (h1 : ¬ LtF x y) (h2 : ¬ LtF y z) : ¬ LtF x z := by
  rw [LtF.not] at *
  rcases h1 with h1 | ⟨e1, h1⟩ <;> rcases h2 with h2 | ⟨e2, h2⟩
  · exact .inl (List.lt_trans h2 h1)
  · exact .inl (e2 ▸ h1)
  · exact .inl (e1 ▸ h2)
  · exact .inr ⟨e1.trans e2, by omega⟩
end Go.Proofs.YtenocakpipppiaaGreatDoor
