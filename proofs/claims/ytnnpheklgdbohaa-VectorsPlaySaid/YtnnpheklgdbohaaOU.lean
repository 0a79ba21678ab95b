/- vectors.order; slices.SortFunc at points. Condition: fewer than 1000000 points. -/
import Derived.Test.YtnnpheklgdbohaaOK
import Derived.Test.YtnnpheklgdbohaaK6
import Derived.Shelf.SlSortCmp.WholeK
import Derived.Deep.RegionHeld3
import Derived.Sort.Grow
import Derived.Sort.Walk0
namespace Go.Proofs.Ytnnpheklgdbohaa
open Go.RowKit Go.Shelf Go.Herb Go.Sort

def cmpI (a b : Int) : Int := if a < b then -1 else if b < a then 1 else 0
theorem cmp_64 (a b : Int) (w : World) : Calls Try.prog (58) #[.int .u64 a, .int .u64 b] w fun e w' => e = .returned (.int .i64 (cmpI a b)) ∧ w = w' := by
  go_enter Try.func58, Try.ntmps58
  go_wp2_with (go_at_call 72; refine (isNaN_u _ _).mono ?_; rintro e w' ⟨rfl, rfl⟩)
  all_goals
    go_ret
    refine ⟨?_, rfl⟩
    unfold cmpI
    first | (rw [if_pos (by omega)]; rfl) | (rw [if_neg (by omega), if_pos (by omega)]; rfl) | (rw [if_neg (by omega), if_neg (by omega)]; rfl)
/-- The first that is not 0. -/
def or2 (a b : Int) : Int := if a ≠ 0 then a else b
theorem or2_any (a b : Int) (g : Nat) (w : World) (hb : w.heap[g]? = some (.cells #[.int .i64 a, .int .i64 b] (3) (0, 0))) :
    Calls Try.prog (57) #[.slice (some ⟨g, 0, none⟩) 2 2] w fun e w' => e = .returned (.int .i64 (or2 a b)) ∧ w = w' := by
  have c0 := cell_of_blk hb 0
  have c1 := cell_of_blk hb 1
  simp at c0 c1
  clear hb
  go_enter Try.func57, Try.ntmps57
  go_wp2
  go_loopg [8] 2 (fun gk iv wr => ∃ k : Nat, k + gk = 2 ∧ iv = .int .i64 k ∧ ((0 < k → a = 0) ∧ (1 < k → b = 0)) ∧ w = wr)
  case atStart => exact ⟨0, rfl, rfl, ⟨by omega, by omega⟩, rfl⟩
  case round =>
    obtain ⟨k, hk, rfl, hz, rfl⟩ := hrel
    have : k = 0 ∨ k = 1 ∨ k = 2 := by omega
    have HZ := Lib.hid hz
    clear hz
    rcases this with rfl | rfl | rfl
    · by_cases h : a = 0
      · have hb0 : (a != 0) = false := by simp [h]
        go_wp2
        go_roundg (gk - 1)
        case measure => omega
        case rel => exact ⟨1, by omega, rfl, ⟨fun _ => h, by omega⟩, rfl⟩
      · have hb0 : (a != 0) = true := by simp [h]
        go_wp2
        go_ret
        exact ⟨by simp [or2, h], rfl⟩
    · have z0 := HZ.out.1 (by omega)
      by_cases h : b = 0
      · have hb0 : (b != 0) = false := by simp [h]
        go_wp2
        go_roundg (gk - 1)
        case measure => omega
        case rel => exact ⟨2, by omega, rfl, ⟨fun _ => z0, fun _ => h⟩, rfl⟩
      · have hb0 : (b != 0) = true := by simp [h]
        have Z0 := Lib.hid z0
        clear z0
        go_wp2
        go_ret
        exact ⟨by simp [or2, Z0.out], rfl⟩
    · go_wp2
      go_ret
      exact ⟨by simp [or2, HZ.out.1 (by omega), HZ.out.2 (by omega)], rfl⟩
theorem or2_new (a b : Int) (W : World) :
    Calls Try.prog (57) #[.slice (some ⟨W.heap.size, 0, none⟩) 2 2] (W.alloc (.cells #[.int .i64 a, .int .i64 b] (3))).drew fun e w' => e = .returned (.int .i64 (or2 a b)) ∧ (W.alloc (.cells #[.int .i64 a, .int .i64 b] (3))).drew = w' :=
  or2_any a b W.heap.size _ (by exact blk_new W _)
theorem three_grow (w : World) (o1 o2 o3 : Obj) : (((w.alloc o1).alloc o2).alloc o3).drew = Sort.grow (w.drewN 1) #[o1, o2, o3] := by
  rw [Sort.alloc_eq_grow, Sort.alloc_eq_grow, Sort.alloc_eq_grow, Sort.grow_grow, Sort.grow_grow]
  rfl
abbrev pv (x : Int × Int) : Value := .agg #[.int .u64 x.1, .int .u64 x.2]
def cmpP (x y : Int × Int) : Int := or2 (cmpI x.1 y.1) (cmpI x.2 y.2)
set_option maxRecDepth 100000 in
set_option maxHeartbeats 1000000 in
theorem cmpP_any (x y : Int × Int) (w : World) : Calls Try.prog (48) #[pv x, pv y] w fun e w' => e = .returned (.int .i64 (cmpP x y)) ∧ ∃ q os', w' = Sort.grow (w.drewN q) os' := by
  go_enter Try.func48, Try.ntmps48
  go_wp2_with fail
  obtain ⟨W, hW⟩ : ∃ W : World, W = (w.alloc (.cells #[.int .u64 x.1, .int .u64 x.2] (34))).alloc (.cells #[.int .u64 y.1, .int .u64 y.2] (34)) := ⟨_, rfl⟩
  have bx : W.heap[w.heap.size]? = some (.cells #[.int .u64 x.1, .int .u64 x.2] (34) (0, 0)) := by rw [hW]; exact blk_alloc (blk_new_at rfl _)
  have by_ : W.heap[w.heap.size + 1]? = some (.cells #[.int .u64 y.1, .int .u64 y.2] (34) (0, 0)) := by rw [hW]; exact blk_new_at (by simp) _
  rw [← hW]
  have HW := Lib.hid hW
  have x0 := cell_of_blk bx 0
  have x1 := cell_of_blk bx 1
  have y0 := cell_of_blk by_ 0
  have y1 := cell_of_blk by_ 1
  simp at x0 x1 y0 y1
  have hlx := lt_of_blk bx
  have hly := lt_of_blk by_
  clear hW bx by_
  go_region_held3 (fun w' => w'.cell? ⟨w.heap.size, 0, none⟩ = some (.int .u64 x.1) ∧ w'.cell? ⟨w.heap.size, 1, none⟩ = some (.int .u64 x.2) ∧ w'.cell? ⟨w.heap.size + 1, 0, none⟩ = some (.int .u64 y.1) ∧ w'.cell? ⟨w.heap.size + 1, 1, none⟩ = some (.int .u64 y.2)) (go_keep)
    (first | (go_at_call 58; refine (cmp_64 _ _ _).mono ?_; rintro e w1 ⟨rfl, rfl⟩) | (go_at_call 57; refine (or2_new _ _ _).mono ?_; rintro e w1 ⟨rfl, rfl⟩))
  all_goals
    go_wp2
    go_ret
    have hW := HW.out
    subst hW
    exact ⟨rfl, 1, _, three_grow _ _ _ _⟩

theorem cmpI_neg (a b : Int) : cmpI a b < 0 ↔ a < b := by unfold cmpI; split <;> (try split) <;> omega
theorem cmpI_zero (a b : Int) : cmpI a b = 0 ↔ a = b := by unfold cmpI; split <;> (try split) <;> omega
/-- A point stands ahead of another one. -/
def LtP (x y : Int × Int) : Prop := x.1 < y.1 ∨ x.1 = y.1 ∧ x.2 < y.2
theorem cmpP_neg (x y : Int × Int) : cmpP x y < 0 ↔ LtP x y := by
  unfold cmpP LtP or2
  have h1 := cmpI_neg x.1 y.1
  have h2 := cmpI_zero x.1 y.1
  have h3 := cmpI_neg x.2 y.2
  split <;> omega
instance : Inhabited (Int × Int) := ⟨(0, 0)⟩
theorem ltOf_cmpP (x y : Int × Int) : ltOf cmpP x y = true ↔ LtP x y := by
  unfold ltOf
  rw [decide_eq_true_iff]
  exact cmpP_neg x y
theorem ltOf_cmpP' (x y : Int × Int) : ltOf cmpP x y = false ↔ ¬ LtP x y := by
  rw [← ltOf_cmpP]
  cases ltOf cmpP x y <;> simp
theorem swoP : SWO (ltOf cmpP) :=
  ⟨fun x => (ltOf_cmpP' x x).2 (by unfold LtP; omega), fun x y z h1 h2 => (ltOf_cmpP x z).2 (by have := (ltOf_cmpP x y).1 h1; have := (ltOf_cmpP y z).1 h2; unfold LtP at *; omega), fun x y z h1 h2 => (ltOf_cmpP' x z).2 (by have := (ltOf_cmpP' x y).1 h1; have := (ltOf_cmpP' y z).1 h2; unfold LtP at *; omega)⟩
theorem pc_one (x : Int × Int) : ∀ v ∈ pc x, v.oneCell' = true := by
  intro v hv
  simp [pc] at hv
  rcases hv with rfl | rfl <;> rfl
theorem sortP_any (g cap : Nat) (xs : Bh) (w : World) (hR : Row pc 2 (34) w g cap xs) (hx : xs.length < 1000000) :
    Calls Try.prog (47) #[.slice (some ⟨g, 0, none⟩) xs.length cap, .func (.func (48)) #[] #[]] w fun e w' => e = .returned (.tuple #[]) ∧ ∃ ys : Bh, ys.Perm xs ∧ ys.Pairwise (fun a b => ¬ LtP b a) ∧ Row pc 2 (34) w' g cap ys ∧ w.grownBy w' (some g) := by
  have eg : ∀ args w, (callFunc (48) args).run Try.prog w = .ok (.enter (48) args) w := enters_of Try.func48 (by kernel_rfl) rfl
  have hcmp : CmpLays Try.prog (48) #[] pc 2 cmpP g 0 xs.toArray.size w := fun _ _ _ _ x y => cmpP_any x y _
  have hcon := AnyQ.slices_SortFunc Try.sortPoint 2 Try.isAgg34 Try.sizeOf34 pc pc_len pc_one cmpP swoP (48) #[] g 0 cap xs.toArray w eg hcmp (hR.holdsK pc_len (by decide)) hR.lt (by simp; omega)
  change Calls Try.prog (47) _ _ _ at hcon
  have hsz : xs.toArray.size = xs.length := by simp
  rw [hsz] at hcon
  refine hcon.mono ?_
  rintro e w' ⟨he, d', n, os, hp, hs, hw⟩
  obtain ⟨hp1, _, hp3⟩ := hp
  have hd : d'.size = xs.length := by rw [hp1]; simp
  obtain ⟨h1, h2⟩ := sorted_row hR pc_len (by decide) n d' os hd
  rw [← hw] at h1 h2
  refine ⟨he, d'.toList, ?_, ?_, h1, h2⟩
  · have e1 : (d'.extract 0 xs.length) = d' := by rw [← hd]; simp
    have e2 : (xs.toArray.extract 0 xs.length) = xs.toArray := by rw [← hsz]; simp
    rw [e1, e2] at hp3
    exact hp3
  · rw [List.pairwise_iff_getElem]
    intro i j hi hj hij
    have h3 := hs i j (Nat.zero_le _) hij (by simp at hj; omega)
    rw [getElem!_pos d' j (by simpa using hj), getElem!_pos d' i (by simpa using hi)] at h3
    exact (ltOf_cmpP' _ _).1 h3
end Go.Proofs.Ytnnpheklgdbohaa
