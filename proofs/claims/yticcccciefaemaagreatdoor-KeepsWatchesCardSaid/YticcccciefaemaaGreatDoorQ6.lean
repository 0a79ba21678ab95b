/- views.last: of each key and time the last fact. Condition: fewer than 1000000 facts. · keys.Cmp: in which order two facts stand. No condition. · Contracts of keeps.look's order of facts by commits, and of slices.swapRangeCmpFunc, rotateCmpFunc and insertionSortCmpFunc at places. Condition: fewer than 1000000 places. · Contracts of slices.rotateCmpFunc and insertionSortCmpFunc at places. Condition: fewer than 1000000 places. · Contract of slices.insertionSortCmpFunc at places, by commits. Condition: fewer than 1000000 places. -/
import Derived.Test.YticcccciefaemaaGreatDoorK3
import Derived.Deep.RegionHeld3
import Derived.Sort.Grow
import Derived.Sort.Walk0
import Derived.IntWalk
namespace Go.Proofs.YticcccciefaemaaGreatDoor
open Go.RowKit Go.Shelf Go.Herb
attribute [local go_sem] Oper.semAt_some

/-- A key, and a time. -/
abbrev Spot := ByteArray × Int
abbrev eS (s : Spot) : Value := .agg #[.string s.1, .int .u32 s.2]
theorem eS_inj : ∀ a a' : Spot, eS a = eS a' → a = a' := fun a a' h => by
  injection h with h
  injection h with h
  injection h with h1 h2
  injection h1 with h1
  injection h2 with h2 _
  injection h2 with _ h2
  exact Prod.ext h1 h2

theorem laidOut : laidOutB Tryz.prog = true := by kernel_rfl
theorem cells9 : Tryz.prog.cellsOf 9 = 1 := by kernel_rfl
theorem cells36 : Tryz.prog.cellsOf 51 = 1 := by kernel_rfl
theorem zero39 (w : World) : (zeroValue 55).run Tryz.prog w = .ok (.agg #[.string .empty, .int .u32 0, .int .u64 0, .int .u64 0, .int .u8 0, .string .empty]) w := by kernel_rfl

abbrev spotOf (x : Fc) : Spot := (x.key, x.valid)

/-- One fact more. -/
def lastStep (m : List (Spot × Fc)) (x : Fc) : List (Spot × Fc) :=
  match getL m (spotOf x) with
  | none => putL m (spotOf x) x
  | some y => if y.seq < x.seq then putL m (spotOf x) x else m
def lastM (xs : List Fc) : List (Spot × Fc) := xs.foldl lastStep []
theorem lastM_snoc (xs : List Fc) (x : Fc) : lastM (xs ++ [x]) = lastStep (lastM xs) x := by simp [lastM]
theorem lastStep_len (m : List (Spot × Fc)) (x : Fc) : (lastStep m x).length ≤ m.length + 1 := by
  unfold lastStep
  have := putL_length m (spotOf x) x
  split
  · exact this
  · split
    · exact this
    · omega
theorem lastM_len (xs : List Fc) : (lastM xs).length ≤ xs.length := by
  suffices h : ∀ (m : List (Spot × Fc)), (xs.foldl lastStep m).length ≤ m.length + xs.length by
    have := h []; simpa [lastM] using this
  induction xs with
  | nil => intro m; simp
  | cons p ps ih => intro m; have := ih (lastStep m p); have h2 := lastStep_len m p; simp only [List.foldl_cons, List.length_cons]; omega

/-- How a round of views.last leaves the world. -/
theorem last_two {B n₀ N0 : Nat} {w W : World} (o1 o2 : Obj) (hn₀ : n₀ ≤ w.heap.size) (hBi : Below w.heap.size w W) (hWs : N0 ≤ W.heap.size) {cs : Array Value} {t : TypeId} (i1 : W.heap[w.heap.size + 1]? = some (.cells cs t (0, 0))) :
    KeepsFrom B W ((W.alloc o1).alloc o2) ∧ Below n₀ W ((W.alloc o1).alloc o2) ∧ ((W.alloc o1).alloc o2).heap[w.heap.size + 1]? = some (.cells cs t (0, 0)) ∧ Below w.heap.size w ((W.alloc o1).alloc o2) ∧ N0 ≤ ((W.alloc o1).alloc o2).heap.size := by
  have := hBi.size
  exact ⟨((KeepsOthers.alloc _ _).trans (KeepsOthers.alloc _ _)).from _, ((Below.refl _ W).alloc (by omega) _).alloc (by simp; omega) _, blk_alloc (blk_alloc i1), (hBi.alloc hBi.size _).alloc (by simp; omega) _, by simp; omega⟩

theorem last_put {B n₀ N0 : Nat} {w W w1 : World} (hb : w.heap.size < B) (hn₀ : n₀ ≤ w.heap.size) {cs : Array Value} {t : TypeId} {W1 : World} (h : KeepsFrom B W W1 ∧ Below n₀ W W1 ∧ W1.heap[w.heap.size + 1]? = some (.cells cs t (0, 0)) ∧ Below w.heap.size w W1 ∧ N0 ≤ W1.heap.size) (hg : W1.grownBy w1 (some w.heap.size)) :
    KeepsFrom B W w1 ∧ Below n₀ W w1 ∧ w1.heap[w.heap.size + 1]? = some (.cells cs t (0, 0)) ∧ Below w.heap.size w w1 ∧ N0 ≤ w1.heap.size := by
  obtain ⟨h1, h2, h3, h4, h5⟩ := h
  have := h4.size
  exact ⟨h1.trans (KeepsFrom.of_grownBy hg (fun j e => by cases e; exact hb)), h2.grown hg (by omega) (fun k e => by cases e; exact hn₀), (hg.block _ (lt_of_blk h3) (fun e => by injection e with e; omega)).trans h3, h4.grown hg h4.size (fun k e => by cases e; exact Nat.le_refl _), Nat.le_trans h5 hg.size⟩

end Go.Proofs.YticcccciefaemaaGreatDoor

namespace Go.Proofs.YticcccciefaemaaGreatDoor
open Go.RowKit Go.Shelf Go.Herb

def cmpI (a b : Int) : Int := if a < b then -1 else if b < a then 1 else 0
def cmpS (a b : ByteArray) : Int := if a.toList < b.toList then -1 else if b.toList < a.toList then 1 else 0

theorem isNaN_64 (a : Int) (w : World) : Calls Tryz.prog 78 #[.int .u64 a] w fun e w' => e = .returned (.bool false) ∧ w = w' := by
  go_enter Tryz.func78, Tryz.ntmps78
  go_wp2
  go_ret
  exact ⟨rfl, rfl⟩
theorem cmp_64 (a b : Int) (w : World) : Calls Tryz.prog 57 #[.int .u64 a, .int .u64 b] w fun e w' => e = .returned (.int .i64 (cmpI a b)) ∧ w = w' := by
  go_enter Tryz.func57, Tryz.ntmps57
  go_wp2_with (go_at_call 78; refine (isNaN_64 _ _).mono ?_; rintro e w' ⟨rfl, rfl⟩)
  all_goals
    go_ret
    refine ⟨?_, rfl⟩
    unfold cmpI
    first | (rw [if_pos (by omega)]; rfl) | (rw [if_neg (by omega), if_pos (by omega)]; rfl) | (rw [if_neg (by omega), if_neg (by omega)]; rfl)
theorem lt_total_bytes (a b : List UInt8) : a < b ∨ a = b ∨ b < a := by
  by_cases h1 : a < b
  · exact .inl h1
  · by_cases h2 : b < a
    · exact .inr (.inr h2)
    · exact .inr (.inl (List.le_antisymm (List.not_lt.1 h2) (List.not_lt.1 h1)))
/-- The first that is not 0. -/
def orI (a b c d : Int) : Int := if a ≠ 0 then a else if b ≠ 0 then b else if c ≠ 0 then c else d
theorem or_any (a b c d : Int) (g : Nat) (w : World) (hb : w.heap[g]? = some (.cells #[.int .i64 a, .int .i64 b, .int .i64 c, .int .i64 d] 3 (0, 0))) :
    Calls Tryz.prog 72 #[.slice (some ⟨g, 0, none⟩) 4 4] w fun e w' => e = .returned (.int .i64 (orI a b c d)) ∧ w = w' := by
  obtain ⟨c0, c1, c2, c3, -⟩ := blk_cells4 hb
  clear hb
  go_enter Tryz.func72, Tryz.ntmps72
  go_wp2
  go_loopg [8] 4 (fun gk iv wr => ∃ k : Nat, k + gk = 4 ∧ iv = .int .i64 k ∧ ((0 < k → a = 0) ∧ (1 < k → b = 0) ∧ (2 < k → c = 0) ∧ (3 < k → d = 0)) ∧ w = wr)
  case atStart => exact ⟨0, rfl, rfl, ⟨by omega, by omega, by omega, by omega⟩, rfl⟩
  case round =>
    obtain ⟨k, hk, rfl, hz, rfl⟩ := hrel
    have : k = 0 ∨ k = 1 ∨ k = 2 ∨ k = 3 ∨ k = 4 := by omega
    have HZ := Lib.hid hz
    clear hz
    rcases this with rfl | rfl | rfl | rfl | rfl
    · by_cases h : a = 0
      · have hb0 : (a != 0) = false := by simp [h]
        go_wp2
        go_roundg (gk - 1)
        case measure => omega
        case rel => exact ⟨1, by omega, rfl, ⟨fun _ => h, by omega, by omega, by omega⟩, rfl⟩
      · have hb0 : (a != 0) = true := by simp [h]
        go_wp2
        go_ret
        exact ⟨by simp [orI, h], rfl⟩
    · have z0 := HZ.out.1 (by omega)
      by_cases h : b = 0
      · have hb0 : (b != 0) = false := by simp [h]
        go_wp2
        go_roundg (gk - 1)
        case measure => omega
        case rel => exact ⟨2, by omega, rfl, ⟨fun _ => z0, fun _ => h, by omega, by omega⟩, rfl⟩
      · have hb0 : (b != 0) = true := by simp [h]
        have Z0 := Lib.hid z0
        clear z0
        go_wp2
        go_ret
        exact ⟨by simp [orI, h, Z0.out], rfl⟩
    · have z0 := HZ.out.1 (by omega)
      have z1 := HZ.out.2.1 (by omega)
      have Z0 := Lib.hid z0
      have Z1 := Lib.hid z1
      clear z0 z1
      by_cases h : c = 0
      · have hb0 : (c != 0) = false := by simp [h]
        go_wp2
        go_roundg (gk - 1)
        case measure => omega
        case rel => exact ⟨3, by omega, rfl, ⟨fun _ => Z0.out, fun _ => Z1.out, fun _ => h, by omega⟩, rfl⟩
      · have hb0 : (c != 0) = true := by simp [h]
        go_wp2
        go_ret
        exact ⟨by simp [orI, h, Z0.out, Z1.out], rfl⟩
    · have z0 := HZ.out.1 (by omega)
      have z1 := HZ.out.2.1 (by omega)
      have z2 := HZ.out.2.2.1 (by omega)
      have Z0 := Lib.hid z0
      have Z1 := Lib.hid z1
      have Z2 := Lib.hid z2
      clear z0 z1 z2
      by_cases h : d = 0
      · have hb0 : (d != 0) = false := by simp [h]
        go_wp2
        go_roundg (gk - 1)
        case measure => omega
        case rel => exact ⟨4, by omega, rfl, ⟨fun _ => Z0.out, fun _ => Z1.out, fun _ => Z2.out, fun _ => h⟩, rfl⟩
      · have hb0 : (d != 0) = true := by simp [h]
        go_wp2
        go_ret
        exact ⟨by simp [orI, Z0.out, Z1.out, Z2.out], rfl⟩
    · go_wp2
      go_ret
      exact ⟨by simp [orI, HZ.out.1 (by omega), HZ.out.2.1 (by omega), HZ.out.2.2.1 (by omega), HZ.out.2.2.2 (by omega)], rfl⟩
theorem or_new (a b c d : Int) (W : World) :
    Calls Tryz.prog 72 #[.slice (some ⟨W.heap.size, 0, none⟩) 4 4] (W.alloc (.cells #[.int .i64 a, .int .i64 b, .int .i64 c, .int .i64 d] 3)).drew fun e w' => e = .returned (.int .i64 (orI a b c d)) ∧ (W.alloc (.cells #[.int .i64 a, .int .i64 b, .int .i64 c, .int .i64 d] 3)).drew = w' :=
  or_any a b c d W.heap.size _ (by exact blk_new W _)
theorem three_grow (w : World) (o1 o2 o3 : Obj) : (((w.alloc o1).alloc o2).alloc o3).drew = Sort.grow (w.drewN 1) #[o1, o2, o3] := by
  rw [Sort.alloc_eq_grow, Sort.alloc_eq_grow, Sort.alloc_eq_grow, Sort.grow_grow, Sort.grow_grow]
  rfl
def cmpF (x y : Fc) : Int := orI (cmpS x.key y.key) (cmpI y.valid x.valid) (cmpI y.seq x.seq) (cmpI x.kind y.kind)
/-! The order. -/
theorem cmpI_neg (a b : Int) : cmpI a b < 0 ↔ a < b := by unfold cmpI; split <;> (try split) <;> omega
theorem cmpI_zero (a b : Int) : cmpI a b = 0 ↔ a = b := by unfold cmpI; split <;> (try split) <;> omega
theorem cmpS_neg (a b : ByteArray) : cmpS a b < 0 ↔ a.toList < b.toList := by
  unfold cmpS
  by_cases h : a.toList < b.toList
  · rw [if_pos h]; simp [h]
  · rw [if_neg h]; split <;> simp [h]
theorem cmpS_zero (a b : ByteArray) : cmpS a b = 0 ↔ a.toList = b.toList := by
  unfold cmpS
  rcases lt_total_bytes a.toList b.toList with h | h | h
  · rw [if_pos h]
    constructor
    · intro e; cases e
    · intro e; rw [e] at h; exact absurd h (List.lt_irrefl _)
  · rw [h, if_neg (List.lt_irrefl _), if_neg (List.lt_irrefl _)]; simp
  · rw [if_neg (List.lt_asymm h), if_pos h]
    constructor
    · intro e; cases e
    · intro e; rw [e] at h; exact absurd h (List.lt_irrefl _)
theorem orI_neg (a b c d : Int) : orI a b c d < 0 ↔ a < 0 ∨ a = 0 ∧ (b < 0 ∨ b = 0 ∧ (c < 0 ∨ c = 0 ∧ d < 0)) := by
  unfold orI
  split
  · omega
  · split
    · omega
    · split <;> omega

/-- A fact stands ahead of another one. -/
def LtF (x y : Fc) : Prop := x.key.toList < y.key.toList ∨ x.key.toList = y.key.toList ∧ (y.valid < x.valid ∨ y.valid = x.valid ∧ (y.seq < x.seq ∨ y.seq = x.seq ∧ x.kind < y.kind))
theorem cmpF_neg (x y : Fc) : cmpF x y < 0 ↔ LtF x y := by
  unfold cmpF LtF
  rw [orI_neg, cmpS_neg, cmpS_zero, cmpI_neg, cmpI_zero, cmpI_neg, cmpI_zero, cmpI_neg]

theorem LtF.irrefl (x : Fc) : ¬ LtF x x := by
  rintro (h | ⟨_, h⟩)
  · exact List.lt_irrefl _ h
  · omega
theorem LtF.trans {x y z : Fc} (h1 : LtF x y) (h2 : LtF y z) : LtF x z := by
  rcases h1 with h1 | ⟨e1, h1⟩ <;> rcases h2 with h2 | ⟨e2, h2⟩
  · exact .inl (List.lt_trans h1 h2)
  · exact .inl (e2 ▸ h1)
  · exact .inl (e1 ▸ h2)
  · exact .inr ⟨e1.trans e2, by omega⟩
theorem LtF.not {x y : Fc} : ¬ LtF x y ↔ (y.key.toList < x.key.toList ∨ x.key.toList = y.key.toList ∧ ¬ (y.valid < x.valid ∨ y.valid = x.valid ∧ (y.seq < x.seq ∨ y.seq = x.seq ∧ x.kind < y.kind))) := by
  unfold LtF
  constructor
  · intro h
    rcases lt_total_bytes x.key.toList y.key.toList with h1 | h1 | h1
    · exact absurd (.inl h1) h
    · exact .inr ⟨h1, fun h2 => h (.inr ⟨h1, h2⟩)⟩
    · exact .inl h1
  · rintro (h | ⟨e, h⟩)
    · rintro (h1 | ⟨h1, _⟩)
      · exact List.lt_asymm h h1
      · rw [h1] at h; exact List.lt_irrefl _ h
    · rintro (h1 | ⟨_, h2⟩)
      · rw [e] at h1; exact List.lt_irrefl _ h1
      · exact h h2
theorem LtF.ntrans {x y z : Fc} (h1 : ¬ LtF x y) (h2 : ¬ LtF y z) : ¬ LtF x z := by
  rw [LtF.not] at *
  rcases h1 with h1 | ⟨e1, h1⟩ <;> rcases h2 with h2 | ⟨e2, h2⟩
  · exact .inl (List.lt_trans h2 h1)
  · exact .inl (e2 ▸ h1)
  · exact .inl (e1 ▸ h2)
  · exact .inr ⟨e1.trans e2, by omega⟩
end Go.Proofs.YticcccciefaemaaGreatDoor

namespace Go.Proofs.YticcccciefaemaaGreatDoor
open Go.RowKit Go.Shelf Go.Herb

def ic (n : Nat) : List Value := [.int .i64 n]
theorem ic_one (n : Nat) : ic n = [(fun m : Nat => Value.int .i64 m) n] := rfl
theorem ic_len (n : Nat) : (ic n).length = 1 := rfl
abbrev IRow (w : World) (g cap : Nat) (xs : List Nat) : Prop := Row ic 1 (3) w g cap xs
theorem irow_cell {w : World} {g cap : Nat} {xs : List Nat} (h : IRow w g cap xs) (i x : Nat) (hx : xs[i]? = some x) : w.cell? ⟨g, i, none⟩ = some (.int .i64 x) := by
  obtain ⟨hi, rfl⟩ := List.getElem?_eq_some_iff.1 hx
  have := h.cell ic_len i hi 0 _ rfl
  simpa using this
theorem irow_set {w : World} {g cap : Nat} {xs : List Nat} (h : IRow w g cap xs) (i x : Nat) : IRow (w.setCell ⟨g, i, none⟩ (.int .i64 x)) g cap (xs.set i x) := h.set1 ic_one i x
theorem irow_drew {w : World} {g cap : Nat} {xs : List Nat} (h : IRow w g cap xs) : IRow w.drew g cap xs := h.same rfl
theorem irow_drewN {w : World} {g cap : Nat} {xs : List Nat} (h : IRow w g cap xs) (n : Nat) : IRow (w.drewN n) g cap xs := h.same rfl
theorem grown_drewN {a b : World} {row : Option Nat} (h : a.grownBy b row) (n : Nat) : a.grownBy (b.drewN n) row := ⟨h.os, h.tape, h.output, h.size, h.block⟩
theorem at_some {xs : List Nat} (i : Nat) (hi : i < xs.length) : ∃ x, xs[i]? = some x := ⟨_, List.getElem?_eq_getElem hi⟩
theorem mem_some {xs : List Nat} {i x : Nat} (h : xs[i]? = some x) : x ∈ xs := by
  obtain ⟨hi, rfl⟩ := List.getElem?_eq_some_iff.1 h
  exact List.getElem_mem hi

/-- The commit of a fact, by its place. -/
def sqF (xs : List Fc) (i : Nat) : Int := match xs[i]? with | some x => x.seq | none => 0
theorem sqF_at (xs : List Fc) (i : Nat) (h : i < xs.length) : sqF xs i = xs[i].seq := by unfold sqF; rw [List.getElem?_eq_getElem h]

/-- What the order has captured, apart from the row g. -/
structure CEnv (g : Nat) (w : World) (bl : Nat) (al : Option Addr) (cl : Nat) (xs : List Fc) : Prop where
  box : w.heap[bl]? = some (.cells #[.slice al xs.length cl] (56) (0, 0))
  ne : bl ≠ g
  els : Facts w al xs
  ane : ∀ ad, al = some ad → ad.block ≠ g
theorem CEnv.grown {g bl cl : Nat} {w w' : World} {al : Option Addr} {xs : List Fc} (h : CEnv g w bl al cl xs) (hg : w.grownBy w' (some g)) : CEnv g w' bl al cl xs :=
  ⟨(hg.block _ (lt_of_blk h.box) (fun e => h.ne (by cases e; rfl))).trans h.box, h.ne, ⟨fun i hi => by
    obtain ⟨b, o, ha, hlt, hc⟩ := h.els.get i hi
    refine ⟨b, o, ha, Nat.lt_of_lt_of_le hlt hg.size, fun j c hj => ?_⟩
    have hb : b ≠ g := h.ane _ ha
    exact (World.cell?_of_block (hg.block b hlt (fun e => hb (by cases e; rfl)))).trans (hc j c hj)⟩, h.ane⟩

theorem cmpI_lt0 {a b : Int} (h : a < b) : ∃ c : Int, cmpI a b = c ∧ decide (c < 0) = true := ⟨-1, by unfold cmpI; rw [if_pos h], rfl⟩
theorem cmpI_ge0 {a b : Int} (h : ¬ a < b) : ∃ c : Int, cmpI a b = c ∧ decide (c < 0) = false := by
  by_cases h2 : b < a
  · exact ⟨1, by unfold cmpI; rw [if_neg h, if_pos h2], rfl⟩
  · exact ⟨0, by unfold cmpI; rw [if_neg h, if_neg h2], rfl⟩

set_option maxHeartbeats 400000 in
/-- The order. -/
theorem ord_any {g bl cl : Nat} {w : World} {al : Option Addr} {xs : List Fc} (hE : CEnv g w bl al cl xs) (i j : Nat) (hi : i < xs.length) (hj : j < xs.length) (c : Int) (hc : cmpI (sqF xs i) (sqF xs j) = c) :
    Calls Tryz.prog (56) #[.int .i64 i, .int .i64 j, .pointer (some ⟨bl, 0, none⟩)] w fun e w' => e = .returned (.int .i64 c) ∧ ∃ n, w' = w.drewN n := by
  rw [sqF_at xs i hi, sqF_at xs j hj] at hc
  have t0 := cell_of_blk hE.box 0
  simp at t0
  obtain ⟨b, o, hal, hlt, hci⟩ := hE.els.get i hi
  have hcj := (show Facts w (some ⟨b, o, none⟩) xs from hal ▸ hE.els).get j hj
  obtain ⟨b', o', hal', hlt', hcj⟩ := hcj
  injection hal' with e1
  injection e1 with e2 e3
  subst e2 e3
  have c2 := hci 2 _ rfl
  have d2 := hcj 2 _ rfl
  generalize xs[i].seq = p at *
  generalize xs[j].seq = q at *
  have hi0 : (0 : Int) ≤ (i : Int) := by omega
  have hi1 : (i : Int) < (xs.length : Int) := by omega
  have hj0 : (0 : Int) ≤ (j : Int) := by omega
  have hj1 : (j : Int) < (xs.length : Int) := by omega
  have hcm := Lib.hid hc
  subst hal
  clear hci hcj hE hc
  go_enter Tryz.func56, Tryz.ntmps56
  go_wp2_with fail
  go_quiet ((go_at_call 57; exact Calls.quiet_of_same ((cmp_64 p q _).mono fun _ _ ⟨he, hw⟩ => ⟨by rw [he, hcm.out], hw.symm⟩)))
  go_wp2
  go_ret
  exact ⟨rfl, nq, rfl⟩

/-- Nothing is answered; a part is sorted. -/
def SegPost (sq : Nat → Int) (g cap : Nat) (A S C : List Nat) (w : World) (e : Ending) (w' : World) : Prop :=
  e = .returned (.tuple #[]) ∧ ∃ P, P.Perm S ∧ SrtI sq P ∧ IRow w' g cap (A ++ (P ++ C)) ∧ w.grownBy w' (some g)
/-- Nothing is answered; the row is this one. -/
def RowPost (g cap : Nat) (ys : List Nat) (w : World) (e : Ending) (w' : World) : Prop :=
  e = .returned (.tuple #[]) ∧ IRow w' g cap ys ∧ w.grownBy w' (some g)

set_option maxHeartbeats 1000000 in
theorem swapRange_any (g cap : Nat) (A X M Y C : List Nat) (N : Nat) (hN : (A ++ (X ++ (M ++ (Y ++ C)))).length = N) (f : Value) (w : World) (h : IRow w g cap (A ++ (X ++ (M ++ (Y ++ C))))) (hl : N < 1000000) (hXY : X.length = Y.length) :
    Calls Tryz.prog (128) #[.slice (some ⟨g, 0, none⟩) N cap, .int .i64 A.length, .int .i64 (A.length + X.length + M.length : Nat), .int .i64 X.length, f] w (RowPost g cap (A ++ (Y ++ (M ++ (X ++ C)))) w) := by
  have H := Lib.hid h
  obtain ⟨a, ha⟩ : ∃ a, a = A.length := ⟨_, rfl⟩
  obtain ⟨n, hn⟩ : ∃ n, n = X.length := ⟨_, rfl⟩
  obtain ⟨b, hb⟩ : ∃ b, b = A.length + X.length + M.length := ⟨_, rfl⟩
  have hbn : b + n ≤ N := by rw [← hN]; simp only [List.length_append]; omega
  have hab : a + n ≤ b := by omega
  have hYn : Y.length = n := by omega
  rw [← hb, ← ha, ← hn]
  have HN := Lib.hid hN
  have HA := Lib.hid ha
  have HXn := Lib.hid hn
  have HB := Lib.hid hb
  have HYn := Lib.hid hYn
  clear h hN ha hn hb hYn hXY
  go_enter Tryz.func128, Tryz.ntmps128
  go_wp2
  go_loopg [10] n (fun gk iv wr => ∃ i : Nat, i + gk = n ∧ iv = .int .i64 i ∧ IRow wr g cap (swp A X M Y C i) ∧ w.grownBy wr (some g))
  case atStart => exact ⟨0, by omega, rfl, by rw [swp_zero]; exact H.out, grown_refl _ _⟩
  case round =>
    obtain ⟨i, hi, rfl, hR, hg⟩ := hrel
    have HR := Lib.hid hR
    have HG := Lib.hid hg
    clear hR hg
    by_cases hlt : i < n
    · obtain ⟨s1, s2, s3⟩ := swp_step A X M Y C i (by have := HXn.out; omega) (by have := HYn.out; omega)
      rw [← HA.out] at s1
      rw [← HB.out] at s2
      rw [← HB.out, ← HA.out] at s3
      have c0 := irow_cell HR.out _ _ s1
      have d0 := irow_cell HR.out _ _ s2
      have f0 := HR.out.frozen (a + i)
      have g0 := HR.out.frozen (b + i)
      have HS := Lib.hid s3
      generalize X[i]'(by have := HXn.out; omega) = x at *
      generalize Y[i]'(by have := HYn.out; omega) = y at *
      clear s1 s2 s3
      go_wp2
      have hw1 : IntKind.i64.wrap ((a : Int) + i) = (a : Int) + i := IntWalk.i64_in _ (by omega)
      have hw2 : IntKind.i64.wrap ((b : Int) + i) = (b : Int) + i := IntWalk.i64_in _ (by omega)
      have hp1 : (0 : Int) ≤ (a : Int) + i := by omega
      have hp2 : (0 : Int) ≤ (b : Int) + i := by omega
      have hq1 : ((a : Int) + i).toNat = a + i := by omega
      have hq2 : ((b : Int) + i).toNat = b + i := by omega
      have hr1 : (a : Int) + i < (N : Int) := by omega
      have hr2 : (b : Int) + i < (N : Int) := by omega
      have hne : ¬ a + i = b + i := by omega
      go_region
      clear hw1 hw2 hp1 hp2 hq1 hq2 hr1 hr2
      go_wp2
      go_roundg (gk - 1)
      case measure => omega
      case rel =>
        refine ⟨i + 1, by omega, by go_num, ?_, ?_⟩
        · rw [← HS.out]
          exact irow_drew (irow_set (irow_set HR.out (a + i) y) (b + i) x)
        · exact grown_drew (grown_set (grown_set HG.out _ _) _ _)
    · have hin : i = n := by omega
      subst hin
      go_wp2
      go_end0
      exact ⟨rfl, by rw [← swp_end A X M Y C i HXn.out.symm HYn.out]; exact HR.out, HG.out⟩
end Go.Proofs.YticcccciefaemaaGreatDoor

namespace Go.Proofs.YticcccciefaemaaGreatDoor
open Go.RowKit Go.Shelf Go.Herb

theorem swapRange_at (g cap : Nat) (A X M Y C : List Nat) (N : Nat) (hN : (A ++ (X ++ (M ++ (Y ++ C)))).length = N) (a b n : Int) (ha : a = A.length) (hb : b = A.length + X.length + M.length) (hn : n = X.length) (f : Value) (w : World) (h : IRow w g cap (A ++ (X ++ (M ++ (Y ++ C))))) (hl : N < 1000000) (hXY : X.length = Y.length) :
    Calls Tryz.prog (128) #[.slice (some ⟨g, 0, none⟩) N cap, .int .i64 a, .int .i64 b, .int .i64 n, f] w (RowPost g cap (A ++ (Y ++ (M ++ (X ++ C)))) w) := by
  subst ha hn
  have : b = ((A.length + X.length + M.length : Nat) : Int) := by omega
  subst this
  exact swapRange_any g cap A X M Y C N hN f w h hl hXY

/-- Rotation, between two rounds: two neighbouring parts are left to be exchanged. -/
def Rot (A B C : List Nat) (m i j : Nat) (T ys : List Nat) : Prop := ∃ P X Y Q, ys = A ++ (P ++ (X ++ (Y ++ (Q ++ C)))) ∧ X.length = i ∧ Y.length = j ∧ A.length + P.length + i = m ∧ A ++ (P ++ (Y ++ (X ++ (Q ++ C)))) = T ∧ P.length + (i + (j + Q.length)) = B.length
theorem Rot.start (A L R C : List Nat) : Rot A (L ++ R) C (A.length + L.length) L.length R.length (A ++ (R ++ (L ++ C))) (A ++ (L ++ (R ++ C))) :=
  ⟨[], L, R, [], by simp, rfl, rfl, by simp, by simp, by simp⟩

set_option maxHeartbeats 2000000 in
theorem rotate_any (g cap : Nat) (A L R C : List Nat) (N : Nat) (hN : (A ++ (L ++ (R ++ C))).length = N) (a m b : Int) (ha : a = A.length) (hm : m = A.length + L.length) (hb : b = A.length + L.length + R.length) (hL : 0 < L.length) (hR : 0 < R.length) (f : Value) (w : World) (h : IRow w g cap (A ++ (L ++ (R ++ C)))) (hl : N < 1000000) :
    Calls Tryz.prog (120) #[.slice (some ⟨g, 0, none⟩) N cap, .int .i64 a, .int .i64 m, .int .i64 b, f] w (RowPost g cap (A ++ (R ++ (L ++ C))) w) := by
  have H := Lib.hid h
  have hN2 := hN
  simp only [List.length_append] at hN2
  have hst := Rot.start A L R C
  obtain ⟨T, hT⟩ : ∃ T, T = A ++ (R ++ (L ++ C)) := ⟨_, rfl⟩
  obtain ⟨xs, hxs⟩ : ∃ xs, xs = A ++ (L ++ (R ++ C)) := ⟨_, rfl⟩
  obtain ⟨BB, hBB⟩ : ∃ BB, BB = L ++ R := ⟨_, rfl⟩
  have hBl : BB.length = L.length + R.length := by rw [hBB, List.length_append]
  rw [← hT, ← hxs, ← hBB] at hst
  rw [← hxs] at H
  rw [← hT]
  obtain ⟨mm, hmm⟩ : ∃ mm, mm = A.length + L.length := ⟨_, rfl⟩
  rw [← hmm] at hst
  have hmI : m = (mm : Int) := by omega
  subst hmI
  have hi0 : ((mm : Int) - a) = (L.length : Int) := by omega
  have hj0 : (b - (mm : Int)) = (R.length : Int) := by omega
  obtain ⟨li, hli⟩ : ∃ li, li = L.length := ⟨_, rfl⟩
  obtain ⟨rj, hrj⟩ : ∃ rj, rj = R.length := ⟨_, rfl⟩
  rw [← hli, ← hrj] at hst
  rw [← hli] at hi0 hL
  rw [← hrj] at hj0 hR
  have hbnd : A.length + BB.length + C.length = N := by omega
  have hmn : mm ≤ N := by omega
  have HST := Lib.hid hst
  have HI := Lib.hid hi0
  have HJ := Lib.hid hj0
  have HBN := Lib.hid hbnd
  have ha1 : 0 ≤ a := by omega
  have ha2 : a ≤ (mm : Int) := by omega
  have hb1 : (mm : Int) ≤ b := by omega
  have hb2 : b ≤ (N : Int) := by omega
  clear h hN hN2 hst hT hxs hBB hBl hmm hi0 hj0 hli hrj hbnd ha hm hb
  go_enter Tryz.func120, Tryz.ntmps120
  go_wp2_with fail
  rw [HI.out, HJ.out]
  go_loopg [10, 11] (li + rj) (fun gk iv jv wr => ∃ (i j : Nat) (ys : List Nat), i + j = gk ∧ 0 < i ∧ 0 < j ∧ iv = .int .i64 i ∧ jv = .int .i64 j ∧ Rot A BB C mm i j T ys ∧ IRow wr g cap ys ∧ w.grownBy wr (some g))
  case atStart => exact ⟨li, rj, xs, rfl, by omega, by omega, rfl, rfl, HST.out, H.out, grown_refl _ _⟩
  case round =>
    obtain ⟨i, j, ys, hij, hi, hj, rfl, rfl, hrot, hR, hg⟩ := hrel
    have HR := Lib.hid hR
    have HG := Lib.hid hg
    obtain ⟨P, X, Y, Q, hys, hX, hY, hP, hTT, hPB⟩ := hrot
    have hbd := HBN.out
    have hi1 : i < 1000000 := by omega
    have hj1 : j < 1000000 := by omega
    have hmi : i ≤ mm := by omega
    have HYS := Lib.hid hys
    have HX := Lib.hid hX
    have HY := Lib.hid hY
    have HP := Lib.hid hP
    have HPB := Lib.hid hPB
    have HT := Lib.hid hTT
    clear hR hg hys hX hY hP hTT hPB hbd
    by_cases he : i = j
    · have hbe : ((i : Int) != (j : Int)) = false := by simp [he]
      have HE := Lib.hid he
      have hle : i ≤ j := by omega
      clear he
      have hR2 : IRow wr g cap ((A ++ P) ++ (X ++ ([] ++ (Y ++ (Q ++ C))))) := by have := HR.out; rw [HYS.out] at this; simpa using this
      have HR2 := Lib.hid hR2
      clear hR2
      go_wp2_with fail
      refine (swapRange_at g cap (A ++ P) X [] Y (Q ++ C) N (by have := HX.out; have := HY.out; have := HP.out; have := HPB.out; have := HBN.out; simp only [List.length_append, List.length_nil]; omega) _ _ _ (by have := HX.out; have := HP.out; simp only [List.length_append]; omega) (by have := HX.out; have := HP.out; simp only [List.length_append, List.length_nil]; omega) (by have := HX.out; omega) f _ HR2.out hl (by have := HX.out; have := HY.out; have := HE.out; omega)).mono ?_
      rintro e w1 ⟨rfl, hR1, hg1⟩
      have HF := Lib.hid (show IRow w1 g cap T by rw [← HT.out]; simpa using hR1)
      have HG1 := Lib.hid (grown_trans HG.out hg1)
      clear hR1 hg1
      go_wp2
      go_end0
      exact ⟨rfl, HF.out, HG1.out⟩
    · have hbe : ((i : Int) != (j : Int)) = true := bne_iff_ne.2 (by omega)
      by_cases hgt : j < i
      · have hXs : X = X.take j ++ X.drop j := (List.take_append_drop j X).symm
        have hl1 : (X.take j).length = j := by rw [List.length_take]; have := HX.out; omega
        have hl2 : (X.drop j).length = i - j := by rw [List.length_drop]; have := HX.out; omega
        generalize X.take j = X1 at *
        generalize X.drop j = X2 at *
        have hR2 : IRow wr g cap ((A ++ P) ++ (X1 ++ (X2 ++ (Y ++ (Q ++ C))))) := by have := HR.out; rw [HYS.out, hXs] at this; simpa using this
        have HR2 := Lib.hid hR2
        have HXS := Lib.hid hXs
        have HL1 := Lib.hid hl1
        have HL2 := Lib.hid hl2
        clear hR2 he hXs hl1 hl2
        go_wp2_with fail
        refine (swapRange_at g cap (A ++ P) X1 X2 Y (Q ++ C) N (by have := HL1.out; have := HL2.out; have := HY.out; have := HP.out; have := HPB.out; have := HBN.out; simp only [List.length_append]; omega) _ _ _ (by have := HP.out; simp only [List.length_append]; omega) (by have := HP.out; have := HL1.out; have := HL2.out; simp only [List.length_append]; omega) (by have := HL1.out; omega) f _ HR2.out hl (by have := HL1.out; have := HY.out; omega)).mono ?_
        rintro e w1 ⟨rfl, hR1, hg1⟩
        have HR1 := Lib.hid hR1
        have HG1 := Lib.hid (grown_trans HG.out hg1)
        clear hR1 hg1
        go_wp2
        go_roundg (i - j + j)
        case measure => omega
        case rel =>
          refine ⟨i - j, j, _, rfl, by omega, hj, by congr 1; omega, rfl, ⟨P ++ Y, X2, X1, Q, rfl, HL2.out, HL1.out, ?_, ?_, ?_⟩, ?_, HG1.out⟩
          · have := HP.out; have := HY.out; simp only [List.length_append]; omega
          · rw [← HT.out, HXS.out]; simp
          · have := HPB.out; have := HY.out; simp only [List.length_append]; omega
          · simpa using HR1.out
      · have hb1' := hb1
        have hYs : Y = Y.take (j - i) ++ Y.drop (j - i) := (List.take_append_drop (j - i) Y).symm
        have hl1 : (Y.take (j - i)).length = j - i := by rw [List.length_take]; have := HY.out; omega
        have hl2 : (Y.drop (j - i)).length = i := by rw [List.length_drop]; have := HY.out; omega
        generalize Y.take (j - i) = Y1 at *
        generalize Y.drop (j - i) = Y2 at *
        have hR2 : IRow wr g cap ((A ++ P) ++ (X ++ (Y1 ++ (Y2 ++ (Q ++ C))))) := by have := HR.out; rw [HYS.out, hYs] at this; simpa using this
        have HR2 := Lib.hid hR2
        have HYSS := Lib.hid hYs
        have HL1 := Lib.hid hl1
        have HL2 := Lib.hid hl2
        have hlt : i < j := by omega
        clear hR2 he hYs hl1 hl2
        go_wp2_with fail
        refine (swapRange_at g cap (A ++ P) X Y1 Y2 (Q ++ C) N (by have := HL1.out; have := HL2.out; have := HX.out; have := HP.out; have := HPB.out; have := HBN.out; simp only [List.length_append]; omega) _ _ _ (by have := HP.out; simp only [List.length_append]; omega) (by have := HP.out; have := HX.out; have := HL1.out; have := HL2.out; simp only [List.length_append]; omega) (by have := HX.out; omega) f _ HR2.out hl (by have := HL2.out; have := HX.out; omega)).mono ?_
        rintro e w1 ⟨rfl, hR1, hg1⟩
        have HR1 := Lib.hid hR1
        have HG1 := Lib.hid (grown_trans HG.out hg1)
        clear hR1 hg1
        go_wp2
        go_roundg (i + (j - i))
        case measure => omega
        case rel =>
          refine ⟨i, j - i, _, rfl, hi, by omega, rfl, by congr 1; omega, ⟨P, Y2, Y1, X ++ Q, rfl, HL2.out, HL1.out, HP.out, ?_, ?_⟩, ?_, HG1.out⟩
          · rw [← HT.out, HYSS.out]; simp
          · have := HPB.out; have := HX.out; simp only [List.length_append]; omega
          · simpa using HR1.out
end Go.Proofs.YticcccciefaemaaGreatDoor

namespace Go.Proofs.YticcccciefaemaaGreatDoor
open Go.RowKit Go.Shelf Go.Herb

abbrev ordV (bl : Nat) : Value := .func (.func (56)) #[] #[.pointer (some ⟨bl, 0, none⟩)]

theorem CEnv.drew {g bl cl : Nat} {w : World} {al : Option Addr} {xs : List Fc} (h : CEnv g w bl al cl xs) : CEnv g w.drew bl al cl xs := h.grown (grown_drew (grown_refl _ _))
theorem CEnv.drewN {g bl cl : Nat} {w : World} {al : Option Addr} {xs : List Fc} (h : CEnv g w bl al cl xs) (n : Nat) : CEnv g (w.drewN n) bl al cl xs := h.grown (grown_drewN (grown_refl _ _) n)

set_option maxHeartbeats 2000000 in
theorem insertion_any (g cap bl cl : Nat) (al : Option Addr) (xs : List Fc) (A S C : List Nat) (N : Nat) (hN : (A ++ (S ++ C)).length = N) (ai bi : Int) (ha : ai = A.length) (hb : bi = A.length + S.length) (w : World) (h : IRow w g cap (A ++ (S ++ C))) (hE : CEnv g w bl al cl xs) (hl : N < 1000000) (hx : ∀ i ∈ A ++ (S ++ C), i < xs.length) (hS : Asc S) :
    Calls Tryz.prog (99) #[.slice (some ⟨g, 0, none⟩) N cap, .int .i64 ai, .int .i64 bi, ordV bl] w (SegPost (sqF xs) g cap A S C w) := by
  obtain ⟨a, haN⟩ : ∃ a, a = A.length := ⟨_, rfl⟩
  obtain ⟨b, hbN⟩ : ∃ b, b = A.length + S.length := ⟨_, rfl⟩
  have ea : ai = (a : Int) := by omega
  have eb : bi = (b : Int) := by omega
  subst ea eb
  have hbn : b ≤ N := by rw [← hN]; simp only [List.length_append]; omega
  have hab : a ≤ b := by omega
  have hst : OutI (sqF xs) A S C (min (a + 1) b) (A ++ (S ++ C)) := by
    rcases Nat.eq_zero_or_pos S.length with h0 | h0
    · have hSn := List.length_eq_zero_iff.1 h0
      subst hSn
      exact OutI.none _ (by simp at hbN; omega)
    · have : min (a + 1) b = A.length + 1 := by omega
      rw [this]
      exact OutI.start h0
  have H := Lib.hid h
  have HE := Lib.hid hE
  have HN := Lib.hid hN
  have HX := Lib.hid hx
  have HS := Lib.hid hS
  have HST := Lib.hid hst
  have HA := Lib.hid haN
  have HB := Lib.hid hbN
  clear h hN hx hS hE hst haN hbN ha hb
  go_enter Tryz.func99, Tryz.ntmps99
  go_wp2
  go_loopg [8] (b + 1 - a) (fun gk iv wr => ∃ (i : Nat) (ys : List Nat), i + gk = b + 1 + 1 ∧ a < i ∧ i ≤ b + 1 ∧ iv = .int .i64 i ∧ OutI (sqF xs) A S C (min i b) ys ∧ IRow wr g cap ys ∧ w.grownBy wr (some g))
  case atStart => exact ⟨a + 1, _, by omega, by omega, by omega, by go_num, HST.out, H.out, grown_refl _ _⟩
  case round =>
    obtain ⟨i, ys, hi, hai, hib, rfl, ho, hR, hg⟩ := hrel
    have HO := Lib.hid ho
    have HR := Lib.hid hR
    have HG := Lib.hid hg
    clear ho hR hg
    by_cases hlt : i < b
    · obtain ⟨gi, rfl⟩ : ∃ gi : Nat, gi = gk := ⟨_, rfl⟩
      obtain ⟨wo, rfl⟩ : ∃ wo : World, wo = wr := ⟨_, rfl⟩
      have hin : InsI (sqF xs) A S C i i ys := by
        have := HO.out
        rw [show min i b = i from by omega] at this
        exact this.enter (by have := HB.out; omega)
      have HIN := Lib.hid hin
      clear hin
      go_wp2
      go_loopg [9] i (fun gk jv wr => ∃ (j : Nat) (zs : List Nat), gk = j ∧ a ≤ j ∧ j ≤ i ∧ jv = .int .i64 j ∧ InsI (sqF xs) A S C i j zs ∧ IRow wr g cap zs ∧ w.grownBy wr (some g))
      case atStart => exact ⟨i, ys, rfl, by omega, by omega, rfl, HIN.out, HR.out, HG.out⟩
      case round =>
        obtain ⟨j, zs, hj, haj, hji, rfl, hins, hR2, hg2⟩ := hrel
        have HI2 := Lib.hid hins
        have HR2 := Lib.hid hR2
        have HG2 := Lib.hid hg2
        have hzl : zs.length = N := by rw [hins.len]; exact HN.out
        have hmem : ∀ v ∈ zs, v < xs.length := fun v hv => HX.out v (hins.perm.mem_iff.1 hv)
        by_cases hja : a < j
        · obtain ⟨x, hx⟩ := at_some (xs := zs) j (by omega)
          obtain ⟨y, hy⟩ := at_some (xs := zs) (j - 1) (by omega)
          have c0 := irow_cell hR2 j x hx
          have d0 := irow_cell hR2 (j - 1) y hy
          have hxl := hmem x (mem_some hx)
          have hyl := hmem y (mem_some hy)
          have HX2 := Lib.hid hx
          have HY2 := Lib.hid hy
          clear hins hR2 hg2 hx hy hmem
          have hjb : decide (a < j) = true := by simp; omega
          have hw1 : IntKind.i64.wrap ((j : Int) - 1) = (j : Int) - 1 := IntWalk.i64_in _ (by omega)
          have hp1 : (0 : Int) ≤ (j : Int) - 1 := by omega
          have hp1' : (1 : Int) ≤ (j : Int) := by omega
          have hq1 : ((j : Int) - 1).toNat = j - 1 := by omega
          have hr1 : (j : Int) - 1 < (N : Int) := by omega
          have hr2 : (j : Int) < (N : Int) := by omega
          by_cases hs : sqF xs x < sqF xs y
          · obtain ⟨c, hc, hneg⟩ := cmpI_lt0 hs
            have HS2 := Lib.hid hs
            have HCM := Lib.hid hc
            have HZL := Lib.hid hzl
            clear hs hc hzl
            go_wp2_with fail
            go_quiet ((go_at_call 56; exact Calls.quiet_of (ord_any ((HE.out.grown HG2.out).drewN _) x y hxl hyl c HCM.out)))
            have HRQ := Lib.hid (irow_drewN HR2.out nq)
            have HGQ := Lib.hid (grown_drewN HG2.out nq)
            have c1 := irow_cell HRQ.out j x HX2.out
            have d1 := irow_cell HRQ.out (j - 1) y HY2.out
            have f0 := HRQ.out.frozen j
            have g0 := HRQ.out.frozen (j - 1)
            generalize wr.drewN nq = wq at *
            clear c0 d0
            have hne : ¬ j = j - 1 := by omega
            go_wp2
            go_region
            clear hw1 hp1 hp1' hq1 hr1 hr2 f0 g0 c1 d1
            go_wp2
            go_roundg (j - 1)
            case measure => omega
            case rel =>
              refine ⟨j - 1, (zs.set j y).set (j - 1) x, rfl, by omega, by omega, by go_num, (InsI.swap HI2.out (by have := HA.out; omega) HX2.out HY2.out HS2.out).1, ?_, ?_⟩
              · exact irow_drew (irow_set (irow_set HRQ.out j y) (j - 1) x)
              · exact grown_drew (grown_set (grown_set HGQ.out _ _) _ _)
          · obtain ⟨c, hc, hneg⟩ := cmpI_ge0 hs
            have HS2 := Lib.hid hs
            have HCM := Lib.hid hc
            have HZL := Lib.hid hzl
            clear hs hc hzl
            go_wp2_with fail
            go_quiet ((go_at_call 56; exact Calls.quiet_of (ord_any ((HE.out.grown HG2.out).drewN _) x y hxl hyl c HCM.out)))
            have HRQ := Lib.hid (irow_drewN HR2.out nq)
            have HGQ := Lib.hid (grown_drewN HG2.out nq)
            clear hw1 hp1 hp1' hq1 hr1 hr2 c0 d0
            go_wp2
            go_roundg (gi - 1)
            case measure => omega
            case rel => exact ⟨i + 1, zs, by omega, by omega, by omega, by go_num, by rw [show min (i + 1) b = i + 1 from by omega]; exact HI2.out.leave HS.out (.inr ⟨x, y, HX2.out, HY2.out, by have := HA.out; omega, by have := HS2.out; omega⟩), HRQ.out, HGQ.out⟩
        · have hjb : decide (a < j) = false := by simp; omega
          clear hins hR2 hg2 hmem
          have hje : j = a := by omega
          have HJE := Lib.hid hje
          clear hje
          go_wp2_with fail
          go_quiet (fail)
          have HRQ := Lib.hid (irow_drewN HR2.out nq)
          have HGQ := Lib.hid (grown_drewN HG2.out nq)
          go_wp2
          go_roundg (gi - 1)
          case measure => omega
          case rel => exact ⟨i + 1, zs, by omega, by omega, by omega, by go_num, by rw [show min (i + 1) b = i + 1 from by omega]; exact HI2.out.leave HS.out (.inl (by rw [HJE.out]; exact HA.out)), HRQ.out, HGQ.out⟩
    · go_wp2
      go_end0
      obtain ⟨P, h1, h2, h3⟩ := OutI.stop HO.out (by have := HB.out; omega)
      exact ⟨rfl, P, h1, h2, h3 ▸ HR.out, HG.out⟩
end Go.Proofs.YticcccciefaemaaGreatDoor
