/- vectors.order; slices.SortFunc at points. Condition: fewer than 1000000 points. · vectors: Merge. Condition: fewer than 1000000 lines. · vectors: First, Base. Condition: fewer than 1000000 lines. · law16.great, made. No condition. · law16.lives. No condition. -/
import Derived.Test.YticcccciefaemaaGreatDoorOH
import Derived.Test.YticcccciefaemaaGreatDoorK6
import Derived.Shelf.SlSortCmp.WholeK
import Derived.Deep.RegionHeld3
import Derived.Sort.Grow
import Derived.Sort.Walk0
import Derived.Test.YticcccciefaemaaGreatDoorOG
import Derived.WalkMore
import Derived.Deep.Cut
import Derived.Deep.CutBlock
import Derived.Laws.StructEq
namespace Go.Proofs.YticcccciefaemaaGreatDoor.Vx
open Go.RowKit Go.Shelf Go.Herb Go.Sort

def cmpI (a b : Int) : Int := if a < b then -1 else if b < a then 1 else 0
theorem cmp_64 (a b : Int) (w : World) : Calls Tryz.prog (57) #[.int .u64 a, .int .u64 b] w fun e w' => e = .returned (.int .i64 (cmpI a b)) ∧ w = w' := by
  go_enter Tryz.func57, Tryz.ntmps57
  go_wp2_with (go_at_call 78; refine (isNaN_u _ _).mono ?_; rintro e w' ⟨rfl, rfl⟩)
  all_goals
    go_ret
    refine ⟨?_, rfl⟩
    unfold cmpI
    first | (rw [if_pos (by omega)]; rfl) | (rw [if_neg (by omega), if_pos (by omega)]; rfl) | (rw [if_neg (by omega), if_neg (by omega)]; rfl)
/-- The first that is not 0. -/
def or2 (a b : Int) : Int := if a ≠ 0 then a else b
theorem or2_any (a b : Int) (g : Nat) (w : World) (hb : w.heap[g]? = some (.cells #[.int .i64 a, .int .i64 b] (3) (0, 0))) :
    Calls Tryz.prog (72) #[.slice (some ⟨g, 0, none⟩) 2 2] w fun e w' => e = .returned (.int .i64 (or2 a b)) ∧ w = w' := by
  have c0 := cell_of_blk hb 0
  have c1 := cell_of_blk hb 1
  simp at c0 c1
  clear hb
  go_enter Tryz.func72, Tryz.ntmps72
  go_wp2
  go_loopg [8] 2 (fun gk iv wr => ∃ k : Nat, k + gk = 2 ∧ iv = .int .i64 k ∧ ((0 < k → a = 0) ∧ (1 < k → b = 0)) ∧ w = wr)
  case atStart => exact ⟨0, rfl, rfl, ⟨by omega, by omega⟩, rfl⟩
  case round =>
    obtain ⟨k, hk, rfl, hz, rfl⟩ := hrel
    have : k = 0 ∨ k = 1 ∨ k = 2 := by omega
    have HZ := Lib.hid hz
    clear hz
    rcases this with rfl | rfl | rfl
    · by_cases h : a = 0
      · have hb0 : (a != 0) = false := by simp [h]
        go_wp2
        go_roundg (gk - 1)
        case measure => omega
        case rel => exact ⟨1, by omega, rfl, ⟨fun _ => h, by omega⟩, rfl⟩
      · have hb0 : (a != 0) = true := by simp [h]
        go_wp2
        go_ret
        exact ⟨by simp [or2, h], rfl⟩
    · have z0 := HZ.out.1 (by omega)
      by_cases h : b = 0
      · have hb0 : (b != 0) = false := by simp [h]
        go_wp2
        go_roundg (gk - 1)
        case measure => omega
        case rel => exact ⟨2, by omega, rfl, ⟨fun _ => z0, fun _ => h⟩, rfl⟩
      · have hb0 : (b != 0) = true := by simp [h]
        have Z0 := Lib.hid z0
        clear z0
        go_wp2
        go_ret
        exact ⟨by simp [or2, Z0.out], rfl⟩
    · go_wp2
      go_ret
      exact ⟨by simp [or2, HZ.out.1 (by omega), HZ.out.2 (by omega)], rfl⟩
theorem or2_new (a b : Int) (W : World) :
    Calls Tryz.prog (72) #[.slice (some ⟨W.heap.size, 0, none⟩) 2 2] (W.alloc (.cells #[.int .i64 a, .int .i64 b] (3))).drew fun e w' => e = .returned (.int .i64 (or2 a b)) ∧ (W.alloc (.cells #[.int .i64 a, .int .i64 b] (3))).drew = w' :=
  or2_any a b W.heap.size _ (by exact blk_new W _)
theorem three_grow (w : World) (o1 o2 o3 : Obj) : (((w.alloc o1).alloc o2).alloc o3).drew = Sort.grow (w.drewN 1) #[o1, o2, o3] := by
  rw [Sort.alloc_eq_grow, Sort.alloc_eq_grow, Sort.alloc_eq_grow, Sort.grow_grow, Sort.grow_grow]
  rfl
abbrev pv (x : Int × Int) : Value := .agg #[.int .u64 x.1, .int .u64 x.2]
def cmpP (x y : Int × Int) : Int := or2 (cmpI x.1 y.1) (cmpI x.2 y.2)
set_option maxRecDepth 100000 in
set_option maxHeartbeats 1000000 in
theorem cmpP_any (x y : Int × Int) (w : World) : Calls Tryz.prog (48) #[pv x, pv y] w fun e w' => e = .returned (.int .i64 (cmpP x y)) ∧ ∃ q os', w' = Sort.grow (w.drewN q) os' := by
  go_enter Tryz.func48, Tryz.ntmps48
  go_wp2_with fail
  obtain ⟨W, hW⟩ : ∃ W : World, W = (w.alloc (.cells #[.int .u64 x.1, .int .u64 x.2] (72))).alloc (.cells #[.int .u64 y.1, .int .u64 y.2] (72)) := ⟨_, rfl⟩
  have bx : W.heap[w.heap.size]? = some (.cells #[.int .u64 x.1, .int .u64 x.2] (72) (0, 0)) := by rw [hW]; exact blk_alloc (blk_new_at rfl _)
  have by_ : W.heap[w.heap.size + 1]? = some (.cells #[.int .u64 y.1, .int .u64 y.2] (72) (0, 0)) := by rw [hW]; exact blk_new_at (by simp) _
  rw [← hW]
  have HW := Lib.hid hW
  have x0 := cell_of_blk bx 0
  have x1 := cell_of_blk bx 1
  have y0 := cell_of_blk by_ 0
  have y1 := cell_of_blk by_ 1
  simp at x0 x1 y0 y1
  have hlx := lt_of_blk bx
  have hly := lt_of_blk by_
  clear hW bx by_
  go_region_held3 (fun w' => w'.cell? ⟨w.heap.size, 0, none⟩ = some (.int .u64 x.1) ∧ w'.cell? ⟨w.heap.size, 1, none⟩ = some (.int .u64 x.2) ∧ w'.cell? ⟨w.heap.size + 1, 0, none⟩ = some (.int .u64 y.1) ∧ w'.cell? ⟨w.heap.size + 1, 1, none⟩ = some (.int .u64 y.2)) (go_keep)
    (first | (go_at_call 57; refine (cmp_64 _ _ _).mono ?_; rintro e w1 ⟨rfl, rfl⟩) | (go_at_call 72; refine (or2_new _ _ _).mono ?_; rintro e w1 ⟨rfl, rfl⟩))
  all_goals
    go_wp2
    go_ret
    have hW := HW.out
    subst hW
    exact ⟨rfl, 1, _, three_grow _ _ _ _⟩

theorem cmpI_neg (a b : Int) : cmpI a b < 0 ↔ a < b := by unfold cmpI; split <;> (try split) <;> omega
theorem cmpI_zero (a b : Int) : cmpI a b = 0 ↔ a = b := by unfold cmpI; split <;> (try split) <;> omega
/-- A point stands ahead of another one. -/
def LtP (x y : Int × Int) : Prop := x.1 < y.1 ∨ x.1 = y.1 ∧ x.2 < y.2
theorem cmpP_neg (x y : Int × Int) : cmpP x y < 0 ↔ LtP x y := by
  unfold cmpP LtP or2
  have h1 := cmpI_neg x.1 y.1
  have h2 := cmpI_zero x.1 y.1
  have h3 := cmpI_neg x.2 y.2
  split <;> omega
instance : Inhabited (Int × Int) := ⟨(0, 0)⟩
theorem ltOf_cmpP (x y : Int × Int) : ltOf cmpP x y = true ↔ LtP x y := by
  unfold ltOf
  rw [decide_eq_true_iff]
  exact cmpP_neg x y
theorem ltOf_cmpP' (x y : Int × Int) : ltOf cmpP x y = false ↔ ¬ LtP x y := by
  rw [← ltOf_cmpP]
  cases ltOf cmpP x y <;> simp
theorem swoP : SWO (ltOf cmpP) :=
  ⟨fun x => (ltOf_cmpP' x x).2 (by unfold LtP; omega), fun x y z h1 h2 => (ltOf_cmpP x z).2 (by have := (ltOf_cmpP x y).1 h1; have := (ltOf_cmpP y z).1 h2; unfold LtP at *; omega), fun x y z h1 h2 => (ltOf_cmpP' x z).2 (by have := (ltOf_cmpP' x y).1 h1; have := (ltOf_cmpP' y z).1 h2; unfold LtP at *; omega)⟩
theorem pc_one (x : Int × Int) : ∀ v ∈ pc x, v.oneCell' = true := by
  intro v hv
  simp [pc] at hv
  rcases hv with rfl | rfl <;> rfl
theorem sortP_any (g cap : Nat) (xs : Bh) (w : World) (hR : Row pc 2 (72) w g cap xs) (hx : xs.length < 1000000) :
    Calls Tryz.prog (47) #[.slice (some ⟨g, 0, none⟩) xs.length cap, .func (.func (48)) #[] #[]] w fun e w' => e = .returned (.tuple #[]) ∧ ∃ ys : Bh, ys.Perm xs ∧ ys.Pairwise (fun a b => ¬ LtP b a) ∧ Row pc 2 (72) w' g cap ys ∧ w.grownBy w' (some g) := by
  have eg : ∀ args w, (callFunc (48) args).run Tryz.prog w = .ok (.enter (48) args) w := enters_of Tryz.func48 (by kernel_rfl) rfl
  have hcmp : CmpLays Tryz.prog (48) #[] pc 2 cmpP g 0 xs.toArray.size w := fun _ _ _ _ x y => cmpP_any x y _
  have hcon := AnyQ.slices_SortFunc Tryz.sortPoint 2 Tryz.isAgg72 Tryz.sizeOf72 pc pc_len pc_one cmpP swoP (48) #[] g 0 cap xs.toArray w eg hcmp (hR.holdsK pc_len (by decide)) hR.lt (by simp; omega)
  change Calls Tryz.prog (47) _ _ _ at hcon
  have hsz : xs.toArray.size = xs.length := by simp
  rw [hsz] at hcon
  refine hcon.mono ?_
  rintro e w' ⟨he, d', n, os, hp, hs, hw⟩
  obtain ⟨hp1, _, hp3⟩ := hp
  have hd : d'.size = xs.length := by rw [hp1]; simp
  obtain ⟨h1, h2⟩ := sorted_row hR pc_len (by decide) n d' os hd
  rw [← hw] at h1 h2
  refine ⟨he, d'.toList, ?_, ?_, h1, h2⟩
  · have e1 : (d'.extract 0 xs.length) = d' := by rw [← hd]; simp
    have e2 : (xs.toArray.extract 0 xs.length) = xs.toArray := by rw [← hsz]; simp
    rw [e1, e2] at hp3
    exact hp3
  · rw [List.pairwise_iff_getElem]
    intro i j hi hj hij
    have h3 := hs i j (Nat.zero_le _) hij (by simp at hj; omega)
    rw [getElem!_pos d' j (by simpa using hj), getElem!_pos d' i (by simpa using hi)] at h3
    exact (ltOf_cmpP' _ _).1 h3
end Go.Proofs.YticcccciefaemaaGreatDoor.Vx

namespace Go.Proofs.YticcccciefaemaaGreatDoor.Vx
open Go.RowKit Go.Shelf Go.Herb

end Go.Proofs.YticcccciefaemaaGreatDoor.Vx

namespace Go.Proofs.YticcccciefaemaaGreatDoor.Vx
open Go.RowKit Go.Shelf Go.Herb

/-- What Base answers. -/
def BasePost (L : Vs) (a b : Int) (w : World) (e : Ending) (w' : World) : Prop :=
  ∃ (q : Int × Int) (er : Int), e = .returned (.tuple #[.agg #[.int .u64 q.1, .int .u64 q.2], .int .i64 er]) ∧ Below w.heap.size w w' ∧
    ((er = 0 ∧ ∃ x y, getL L a = some x ∧ getL L b = some y ∧ IsBase x y q) ∨ (er = 7 ∧ q = (0, 0) ∧ (getL L a = none ∨ getL L b = none)))

set_option maxRecDepth 100000 in
set_option maxHeartbeats 1000000 in
theorem base_any (p mb : Nat) (M : List (Int × Nat)) (L : Vs) (a b : Int) (w : World) (h : VecIs w p mb M L) (hG : GoodV L) (hS : Small L) (ha : U64 a) (hb : U64 b) :
    Calls Tryz.prog (46) #[.pointer (some ⟨p, 0, none⟩), .int .u64 a, .int .u64 b] w (BasePost L a b w) := by
  have HG := Lib.hid hG
  have HS := Lib.hid hS
  obtain ⟨W0, hW0⟩ : ∃ W0 : World, W0 = w.alloc (.cells #[.int .u64 0, .int .u64 0] (72)) := ⟨_, rfl⟩
  have hb0 : Below w.heap.size w W0 := by rw [hW0]; exact (Below.refl _ _).alloc (Nat.le_refl _) _
  have hsz0 : W0.heap.size = w.heap.size + 1 := by rw [hW0]; simp
  have hbx0 : W0.heap[w.heap.size]? = some (.cells #[.int .u64 0, .int .u64 0] (72) (0, 0)) := by rw [hW0]; exact blk_new_at rfl _
  obtain ⟨W1, hW1⟩ : ∃ W1 : World, W1 = W0.alloc (.cells #[.int .u64 a, .int .u64 b] (52)) := ⟨_, rfl⟩
  have hb1' : Below W0.heap.size W0 W1 := by rw [hW1]; exact (Below.refl _ _).alloc (Nat.le_refl _) _
  have hb1 : Below w.heap.size w W1 := hb0.trans (hb1'.mono hb0.size)
  have hbx1 := blk_below hbx0 hb1' (by omega)
  have hn := needs_any p mb M L (some ⟨W0.heap.size, 0, none⟩) 2 [a, b] W1 (h.below hb1) (elsU_lit [a, b] (t := (52)) (by rw [hW1]; exact blk_new_at rfl _)) (by simp; exact ⟨ha, hb⟩) (by simp)
  rw [hsz0] at hn
  have HN := Lib.hid hn
  have H := Lib.hid h
  have HB1 := Lib.hid hb1
  have HV1 := Lib.hid (h.below hb1)
  have HX1 := Lib.hid hbx1
  have hs1 : w.heap.size + 1 < W1.heap.size := by rw [hW1]; simp; omega
  clear hn hb1 hb1' hbx0 h hG hS hb0
  rw [hW0] at hW1
  clear hW0
  by_cases hnn : ¬ ((getL L a).isSome = true ∧ (getL L b).isSome = true)
  · have hne : needsE L [a, b] = 7 := by
      cases hg : getL L a with
      | none => exact needsE_not (ls := [a, b]) (by simp) hg
      | some x =>
        cases hg2 : getL L b with
        | none => exact needsE_not (ls := [a, b]) (by simp) hg2
        | some c => exact absurd (by simp [hg, hg2]) hnn
    have hor : getL L a = none ∨ getL L b = none := by
      cases hg : getL L a with
      | none => exact .inl rfl
      | some x =>
        cases hg2 : getL L b with
        | none => exact .inr rfl
        | some c => exact absurd (by simp [hg, hg2]) hnn
    have HOR := Lib.hid hor
    have x0 := cell_of_blk HX1.out 0
    have x1 := cell_of_blk HX1.out 1
    have f0 := frozen_of_blk HX1.out 0
    have f1 := frozen_of_blk HX1.out 1
    simp at x0 x1
    have HE : Hid (Below w.heap.size w ((W1.setCell ⟨w.heap.size, 0, none⟩ (.int .u64 0)).setCell ⟨w.heap.size, 1, none⟩ (.int .u64 0))) := Lib.hid (by
      have h1 : W1.grownBy ((W1.setCell ⟨w.heap.size, 0, none⟩ (.int .u64 0)).setCell ⟨w.heap.size, 1, none⟩ (.int .u64 0)) (some w.heap.size) := grown_set (grown_set (grown_refl _ _) _ _) _ _
      exact HB1.out.grown h1 HB1.out.size (fun k e => by injection e with e; omega))
    clear hor hnn hsz0
    go_enter Tryz.func46, Tryz.ntmps46
    go_wp2
    go_step3
    go_wp2_with fail
    rw [← hW1]
    clear hW1
    refine (HN.out).mono ?_
    rintro e w' ⟨rfl, rfl⟩
    rw [hne]
    clear hne
    go_wp2
    try rw [Exit.noGoto_ret]
    refine bodyPost_ret (v := .tuple #[.agg #[.int .u64 0, .int .u64 0], .int .i64 7]) ?_ rfl ⟨(0, 0), 7, rfl, HE.out, .inr ⟨rfl, rfl, HOR.out⟩⟩
    simp [results, Tryz.results46, go_sem, x0, x1]
  · have hboth : (getL L a).isSome = true ∧ (getL L b).isSome = true := Classical.not_not.1 hnn
    clear hnn
    obtain ⟨x, hga⟩ := Option.isSome_iff_exists.1 hboth.1
    obtain ⟨y, hgb⟩ := Option.isSome_iff_exists.1 hboth.2
    clear hboth
    have hne : needsE L [a, b] = 0 := needsE_of (by intro z hz; simp only [List.mem_cons, List.not_mem_nil, or_false] at hz; rcases hz with rfl | rfl; rw [hga]; rfl; rw [hgb]; rfl)
    obtain ⟨ia, ma, hga2, hMa0, hpa⟩ := H.out.has hga
    obtain ⟨ib, my, hgb2, hMb0, hpb⟩ := H.out.has hgb
    have hMa := hMa0.same (HB1.out.block _ hMa0.lt)
    have hxG := HG.out.get hga
    have hyG := HG.out.get hgb
    have hok := hxG.1.ok.perm hpa.symm
    have hok2 := hyG.1.ok.perm hpb.symm
    obtain ⟨kl, hkl⟩ := keyU ha
    obtain ⟨kl2, hkl2⟩ := keyU hb
    have hlook := (HV1.out.out.look lawU eU_inj Tryz.underlying45 (zeroB _) hkl).1
    rw [hga2] at hlook
    simp only at hlook
    obtain ⟨w4, hrg, hit, hB4, hs4⟩ := hMa.range Tryz.underlying70
    have c0 := cell_of_blk HV1.out.blk 0
    simp at c0
    have HIT := Lib.hid hit
    have HB4 := Lib.hid (HB1.out.trans (hB4.mono HB1.out.size))
    have HX4 := Lib.hid (blk_below HX1.out hB4 (by omega))
    have HPA := Lib.hid hpa
    have HPB := Lib.hid hpb
    have HMB := Lib.hid hMb0
    have HGB := Lib.hid hgb2
    have HRA := Lib.hid hga
    have HRB := Lib.hid hgb
    have HOK := Lib.hid hok
    have HOK2 := Lib.hid hok2
    have hlA := hMa0.lt
    clear hit hB4 hs4 hpa hpb hMa hMa0 hMb0 hga hgb hga2 hgb2 hok hok2 hxG hyG
    go_enter Tryz.func46, Tryz.ntmps46
    go_wp2
    go_step3
    go_wp2_with fail
    rw [← hW1]
    clear hW1
    refine (HN.out).mono ?_
    rintro e w' ⟨rfl, rfl⟩
    rw [hne]
    clear hne
    go_wp2_with fail
    go_step3
    go_wp2_with fail
    clear hlook hrg c0
    go_loopg [] ma.length (fun gk wr => ∃ (done todo : Bh) (q : Int × Int), todo.length = gk ∧ Hid (ma.Perm (done ++ todo)) ∧ IterIs Tryz.prog (52) eU eU wr ia W1.heap.size ma todo ∧ Hid (BaseSt my done q) ∧ wr.heap[w.heap.size]? = some (.cells #[.int .u64 q.1, .int .u64 q.2] (72) (0, 0)) ∧ Below w.heap.size w wr)
    case atStart => exact ⟨[], ma, (0, 0), rfl, Lib.hid (List.Perm.refl _), HIT.out, Lib.hid (BaseSt.start _), HX4.out, HB4.out⟩
    case round =>
      obtain ⟨done, todo, ⟨q1, q2⟩, htl, HP, hit, HST, hbx, hbw⟩ := hrel
      have HBW := Lib.hid hbw
      have hsz := lt_of_blk hbx
      rcases hit.next 0 with ⟨rfl, hnx⟩ | ⟨⟨l, v⟩, todo', w5, htp, hpm, hnx, hit2, hg2, hs2, hen⟩
      · have x0 := cell_of_blk hbx 0
        have x1 := cell_of_blk hbx 1
        have f0 := frozen_of_blk hbx 0
        have f1 := frozen_of_blk hbx 1
        simp at x0 x1
        have hE : BasePost L a b w (.returned (.tuple #[.agg #[.int .u64 q1, .int .u64 q2], .int .i64 0])) ((wr.setCell ⟨w.heap.size, 0, none⟩ (.int .u64 q1)).setCell ⟨w.heap.size, 1, none⟩ (.int .u64 q2)) := by
          refine ⟨(q1, q2), 0, rfl, HBW.out.grown (grown_set (grown_set (grown_refl _ _) _ _) _ _ : wr.grownBy _ (some w.heap.size)) HBW.out.size (fun k e => by injection e with e; omega), .inl ⟨rfl, x, y, HRA.out, HRB.out, ?_⟩⟩
          have h1 := HST.out.done HOK.out HOK2.out (by have := HP.out; rwa [List.append_nil] at this)
          exact ⟨fun k => by rw [← g0_perm HOK.out HPA.out, ← g0_perm HOK2.out HPB.out]; exact h1.top k, h1.none, h1.nn, fun h0 => by rw [← g0_perm HOK.out HPA.out, ← g0_perm HOK2.out HPB.out]; exact h1.at_ h0, fun k h0 hk => h1.low k h0 (by rw [g0_perm HOK.out HPA.out, g0_perm HOK2.out HPB.out]; exact hk)⟩
        have HE := Lib.hid hE
        clear hit hbx hbw hE HIT HX4
        go_wp2
        try rw [Exit.noGoto_ret]
        refine bodyPost_ret (v := .tuple #[.agg #[.int .u64 q1, .int .u64 q2], .int .i64 0]) ?_ rfl HE.out
        simp [results, Tryz.results46, go_sem, x0, x1]
      · have htl2 : todo'.length + 1 = gk := by have := htp.length_eq; simp only [List.length_cons] at this; omega
        have HP2 := Lib.hid (show ma.Perm ((done ++ [(l, v)]) ++ todo') from by rw [List.append_assoc]; exact HP.out.trans (List.Perm.append_left _ htp))
        have hlw := (HOK.out.wf _ hpm).1
        have hvp := HOK.out.pos _ hpm
        simp only at hlw hvp
        have hra : W1.heap.size < wr.heap.size := hit.lt
        have hb5 : Below w.heap.size w w5 := hbw.grown hg2 hbw.size (fun k e => by injection e with e; omega)
        have hbx5 : w5.heap[w.heap.size]? = some (.cells #[.int .u64 q1, .int .u64 q2] (72) (0, 0)) := (hg2.block _ hsz (fun e => by injection e with e; omega)).trans hbx
        have hv5 : VecIs w5 p mb M L := H.out.below hb5
        have hm5 : MapU w5 ib my := HMB.out.same (hb5.block _ HMB.out.lt)
        have c0 := cell_of_blk hv5.blk 0
        have x0 := cell_of_blk hbx5 0
        have x1 := cell_of_blk hbx5 1
        have f0 := frozen_of_blk hbx5 0
        have f1 := frozen_of_blk hbx5 1
        simp at c0 x0 x1
        have hl1 := (hv5.out.look lawU eU_inj Tryz.underlying45 (zeroB _) hkl2).1
        rw [HGB.out] at hl1
        simp only at hl1
        obtain ⟨klk, hklk⟩ := keyU hlw
        have hl2 := (hm5.look lawU eU_inj Tryz.underlying70 (zeroU _) hklk).2
        have hs5 : w.heap.size < w5.heap.size := by rw [hs2]; exact hsz
        have hsr5 : W1.heap.size < w5.heap.size := by rw [hs2]; exact hra
        have HB5 := Lib.hid hb5
        have HIT2 := Lib.hid hit2
        have HBX5 := Lib.hid hbx5
        have HVP := Lib.hid hvp
        clear hit hit2 hg2 hs2 htp hpm HP htl hbw hbx hb5 hbx5 hv5 hm5 hvp HIT HX4 hklk hlw
        cases hgo : getL my l with
        | none =>
          rw [hgo] at hl2
          simp only at hl2
          have HK := Lib.hid (HST.out.keep (q := (l, v)) (.inr (.inl (by have : g0 my l = 0 := g0_of_none hgo; simp only [this]; omega))))
          clear hgo
          go_wp2_with fail
          go_roundg todo'.length
          case measure => omega
          case rel => exact ⟨done ++ [(l, v)], todo', (q1, q2), rfl, HP2, HIT2.out, HK, HBX5.out, HB5.out⟩
        | some o =>
          rw [hgo] at hl2
          simp only at hl2
          have hgl : g0 my l = o := g0_of_some hgo
          have hop : 0 < o := HOK2.out.pos _ (getL_mem hgo)
          obtain ⟨mn, hmn⟩ : ∃ mn, mn = min v o := ⟨_, rfl⟩
          have hmp : 0 < mn := by have := HVP.out; omega
          have HMN := Lib.hid hmn
          have HGL := Lib.hid hgl
          have fin : ∀ (w6 : World), w6 = w5.alloc (.cells #[.int .u64 l, .int .u64 mn] (72)) → w6.heap[w.heap.size]? = some (.cells #[.int .u64 q1, .int .u64 q2] (72) (0, 0)) ∧ IterIs Tryz.prog (52) eU eU w6 ia W1.heap.size ma todo' ∧ Below w.heap.size w w6 := fun w6 h6 => by
            rw [h6]
            exact ⟨blk_alloc HBX5.out, HIT2.out.same (Below.heap_alloc _ _ _ HIT2.out.map.lt) (Below.heap_alloc _ _ _ hsr5), HB5.out.alloc HB5.out.size _⟩
          have FIN := Lib.hid fin
          have take : (q2 < mn ∨ (mn = q2 ∧ l < q1)) → Hid (BaseSt my (done ++ [(l, v)]) (l, mn)) := fun h => Lib.hid (by
            have := HST.out.take (q := (l, v)) (by simp only [HGL.out, ← HMN.out]; exact hmp) (by simp only [HGL.out, ← HMN.out]; exact h)
            simpa only [HGL.out, ← HMN.out] using this)
          have keepq : (mn < q2 ∨ (mn = q2 ∧ q1 ≤ l)) → Hid (BaseSt my (done ++ [(l, v)]) (q1, q2)) := fun h => Lib.hid (HST.out.keep (q := (l, v)) (by simp only [HGL.out, ← HMN.out]; omega))
          have fin2 : Hid (∀ (w6 : World), w6 = (w5.setCell ⟨w.heap.size, 0, none⟩ (.int .u64 l)).setCell ⟨w.heap.size, 1, none⟩ (.int .u64 mn) → (w6.alloc (.cells #[.int .u64 l, .int .u64 mn] (72))).heap[w.heap.size]? = some (.cells #[.int .u64 l, .int .u64 mn] (72) (0, 0)) ∧ IterIs Tryz.prog (52) eU eU (w6.alloc (.cells #[.int .u64 l, .int .u64 mn] (72))) ia W1.heap.size ma todo' ∧ Below w.heap.size w (w6.alloc (.cells #[.int .u64 l, .int .u64 mn] (72)))) := Lib.hid (fun w6 h6 => by
            have h4 := blk_setCell (j := 1) (blk_setCell (j := 0) HBX5.out (.int .u64 l)) (.int .u64 mn)
            have h7 : w6.heap[w.heap.size]? = some (.cells #[.int .u64 l, .int .u64 mn] (72) (0, 0)) := by rw [h6]; simpa using h4
            have h8 : Below w.heap.size w w6 := by rw [h6]; exact HB5.out.grown (grown_set (grown_set (grown_refl _ _) _ _) _ _ : w5.grownBy _ (some w.heap.size)) HB5.out.size (fun k e => by injection e with e; omega)
            have h9 : w6.heap.size = w5.heap.size := by rw [h6]; simp
            have hit6 : IterIs Tryz.prog (52) eU eU w6 ia W1.heap.size ma todo' := HIT2.out.same (by
              rw [h6, Below.heap_setCell _ ⟨w.heap.size, 1, none⟩ _ _ (by show ia ≠ w.heap.size; omega), Below.heap_setCell _ ⟨w.heap.size, 0, none⟩ _ _ (by show ia ≠ w.heap.size; omega)]) (by
              rw [h6, Below.heap_setCell _ ⟨w.heap.size, 1, none⟩ _ _ (by show W1.heap.size ≠ w.heap.size; omega), Below.heap_setCell _ ⟨w.heap.size, 0, none⟩ _ _ (by show W1.heap.size ≠ w.heap.size; omega)])
            exact ⟨blk_alloc h7, hit6.same (Below.heap_alloc _ _ _ hit6.map.lt) (Below.heap_alloc _ _ _ hit6.lt), h8.alloc h8.size _⟩)
          have e1 : (Value.int IntKind.u64 (min v o)) = .int .u64 mn := by rw [hmn]
          have TK := Lib.hid take
          have KP := Lib.hid keepq
          clear take keepq fin hgo hgl hop hmp
          rcases Int.lt_trichotomy q2 mn with hc | hc | hc
          · have TT := TK.out (.inl hc)
            clear TK KP
            subst hmn
            go_wp2_with fail
            go_roundg todo'.length
            case measure => omega
            case rel => exact ⟨done ++ [(l, v)], todo', (l, min v o), rfl, HP2, (fin2.out _ rfl).2.1, TT, (fin2.out _ rfl).1, (fin2.out _ rfl).2.2⟩
          · have hd1 : decide (q2 < mn) = false := decide_eq_false (by omega)
            have hd2 : (mn == q2) = true := by simp [hc]
            by_cases hl : l < q1
            · have TT := TK.out (.inr ⟨hc.symm, hl⟩)
              clear TK KP
              subst hmn
              subst hc
              go_wp2_with fail
              go_roundg todo'.length
              case measure => omega
              case rel => exact ⟨done ++ [(l, v)], todo', (l, min v o), rfl, HP2, (fin2.out _ rfl).2.1, TT, (fin2.out _ rfl).1, (fin2.out _ rfl).2.2⟩
            · have TT := KP.out (.inr ⟨hc.symm, by omega⟩)
              clear TK KP
              subst hmn
              have hd3 : decide (l < q1) = false := decide_eq_false hl
              subst hc
              go_wp2_with fail
              go_roundg todo'.length
              case measure => omega
              case rel => exact ⟨done ++ [(l, v)], todo', (q1, min v o), rfl, HP2, (FIN.out _ rfl).2.1, TT, (FIN.out _ rfl).1, (FIN.out _ rfl).2.2⟩
          · have TT := KP.out (.inl hc)
            clear TK KP
            subst hmn
            have hd1 : decide (q2 < min v o) = false := decide_eq_false (by omega)
            have hd2 : (min v o == q2) = false := by simp; omega
            have hd3 : decide (min v o = q2) = false := decide_eq_false (by omega)
            go_wp2_with fail
            go_roundg todo'.length
            case measure => omega
            case rel => exact ⟨done ++ [(l, v)], todo', (q1, q2), rfl, HP2, (FIN.out _ rfl).2.1, TT, (FIN.out _ rfl).1, (FIN.out _ rfl).2.2⟩
end Go.Proofs.YticcccciefaemaaGreatDoor.Vx

namespace Go.Herb
open Go
/-- What is done to vectors. -/
structure Ac where
  kind : Int
  line : Int
  other : Int
  n : Int
  wk : (Lit.int .u8 kind).wf = true
  wl : U64 line
  wo : U64 other
  wn : U64 n
def actV (L : Vs) (x : Ac) : Int × Vs := if x.kind % 4 = 0 then stepV L x.line x.n else if x.kind % 4 = 1 then forkV L x.line x.other else if x.kind % 4 = 2 then mergeV L x.line x.other x.n else dropV L x.line
def doneV (L : Vs) (x : Ac) : Vs := if (actV L x).1 = 0 ∧ (actV L x).2.length < 40 then (actV L x).2 else L
def madeV (L : Vs) (acts : List Ac) : Vs := (acts.take 40).foldl doneV L
theorem actV_good {L : Vs} (h : GoodV L) {x : Ac} (e : (actV L x).1 = 0) : GoodV (actV L x).2 := by
  unfold actV at e ⊢
  split
  · rename_i hk; rw [if_pos hk] at e; exact stepV_good h x.wn e
  · rename_i hk; rw [if_neg hk] at e
    split
    · rename_i hk2; rw [if_pos hk2] at e; exact forkV_good h x.wl e
    · rename_i hk2; rw [if_neg hk2] at e
      split
      · rename_i hk3; rw [if_pos hk3] at e; exact mergeV_good h x.wn e
      · rename_i hk3; rw [if_neg hk3] at e; exact dropV_good h e
/-- All that stands behind a line is one of these. -/
def InK (K : List Int) (L : Vs) : Prop := ∀ p ∈ L, ∀ q ∈ p.2, q.1 ∈ K
theorem InK.get {K : List Int} {L : Vs} (h : InK K L) {k : Int} {b : Bh} (hg : getL L k = some b) : ∀ q ∈ b, q.1 ∈ K := h _ (getL_mem hg)
theorem InK.put {K : List Int} {L : Vs} (h : InK K L) {k : Int} {b : Bh} (hb : ∀ q ∈ b, q.1 ∈ K) : InK K (putS L k b) := fun p hp q hq => by
  rcases mem_putS.1 hp with rfl | ⟨h1, _⟩
  · exact hb q hq
  · exact h p h1 q hq
theorem actV_key {K : List Int} {L : Vs} (h : InK K L) {x : Ac} (hx : x.line ∈ K) (e : (actV L x).1 = 0) : InK K (actV L x).2 := by
  have one : ∀ s : Int, ∀ q ∈ [(x.line, s)], q.1 ∈ K := fun s q hq => by rw [List.mem_singleton.1 hq]; exact hx
  unfold actV at e ⊢
  split
  · rename_i hk; rw [if_pos hk] at e
    unfold stepV at e ⊢
    cases hg : getL L x.line with
    | none => rw [hg] at e; simp at e
    | some b =>
      simp only [hg] at e ⊢
      split
      · exact h.put (mem_laid_key (by intro c hc; simp only [List.mem_cons, List.not_mem_nil, or_false] at hc; rcases hc with rfl | rfl; exact h.get hg; exact one _))
      · rename_i ha; rw [if_neg ha] at e; simp at e
  · rename_i hk; rw [if_neg hk] at e
    split
    · rename_i hk2; rw [if_pos hk2] at e
      unfold forkV at e ⊢
      cases hg : getL L x.other with
      | none => rw [hg] at e; simp at e
      | some b =>
        simp only [hg] at e ⊢
        split
        · rename_i ha; rw [if_pos ha] at e; simp at e
        · exact h.put (mem_laid_key (by intro c hc; simp only [List.mem_cons, List.not_mem_nil, or_false] at hc; rw [hc]; exact h.get hg))
    · rename_i hk2; rw [if_neg hk2] at e
      split
      · rename_i hk3; rw [if_pos hk3] at e
        unfold mergeV at e ⊢
        cases hg : getL L x.line with
        | none => rw [hg] at e; simp at e
        | some b =>
          cases hg2 : getL L x.other with
          | none => rw [hg, hg2] at e; simp at e
          | some c =>
            simp only [hg, hg2] at e ⊢
            split
            · exact h.put (mem_laid_key (by intro d hd; simp only [List.mem_cons, List.not_mem_nil, or_false] at hd; rcases hd with rfl | rfl | rfl; exact h.get hg; exact h.get hg2; exact one _))
            · rename_i ha; rw [if_neg ha] at e; simp at e
      · rename_i hk3; rw [if_neg hk3] at e
        unfold dropV at e ⊢
        cases hg : getL L x.line with
        | none => rw [hg] at e; simp at e
        | some b => exact fun p hp => h p (List.mem_filter.1 hp).1
theorem actV_len (L : Vs) (x : Ac) : (actV L x).2.length ≤ L.length + 1 := by
  have hp : ∀ k (b : Bh), (putS L k b).length ≤ L.length + 1 := fun k b => putS_len
  unfold actV stepV forkV mergeV dropV
  split
  · split
    · simp
    · split
      · exact hp _ _
      · simp
  · split
    · split
      · simp
      · split
        · simp
        · exact hp _ _
    · split
      · split
        · split
          · exact hp _ _
          · simp
        · simp
      · split
        · simp
        · have := List.length_filter_le (fun p : Int × Bh => decide (p.1 ≠ x.line)) L
          simp only at this ⊢; omega
theorem nodup_len {α : Type} [DecidableEq α] : ∀ (l K : List α), l.Nodup → (∀ x ∈ l, x ∈ K) → l.length ≤ K.length
  | [], _, _, _ => Nat.zero_le _
  | x :: l, K, hn, hs => by
    have h1 := List.nodup_cons.1 hn
    have hx := hs x (by simp)
    have h2 := nodup_len l (K.erase x) h1.2 (fun y hy => (List.mem_erase_of_ne (fun e => h1.1 (by rw [← e]; exact hy))).2 (hs y (by simp [hy])))
    have h3 := List.length_erase_of_mem hx
    have h4 := List.length_pos_of_mem hx
    simp only [List.length_cons]
    omega
theorem InK.lens {K : List Int} {L : Vs} (h : InK K L) (hG : GoodV L) : ∀ p ∈ L, p.2.length ≤ K.length := fun p hp => by
  have h1 := nodup_len (p.2.map (·.1)) K (hG.inn p hp).srt.nodup (fun x hx => by obtain ⟨q, hq, rfl⟩ := List.mem_map.1 hx; exact h p hp q hq)
  simpa using h1
end Go.Herb
namespace Go.Proofs.YticcccciefaemaaGreatDoor.Vx
open Go.RowKit Go.Shelf Go.Herb

def acc (x : Ac) : List Value := [.int .u8 x.kind, .int .u64 x.line, .int .u64 x.other, .int .u64 x.n]
theorem acc_len (x : Ac) : (acc x).length = 4 := rfl
def greatB (xs : List Vc) (acts : List Ac) : Bool := decide (40 < xs.length) || decide (200 < acts.length) || xs.any (fun x => decide (60 < x.ps.length))
def MadePost (xs : List Vc) (acts : List Ac) (w : World) (e : Ending) (w' : World) : Prop :=
  ∃ v c, e = .returned (.tuple #[v, .bool c]) ∧ Below w.heap.size w w' ∧ (c = true → greatB xs acts = false ∧ okV (vsOf xs) ∧ GoodV (madeV (vsOf xs) acts) ∧ Small (madeV (vsOf xs) acts) ∧ (madeV (vsOf xs) acts).length ≤ 40 ∧ ∃ p mb M, v = .pointer (some ⟨p, 0, none⟩) ∧ VecIs w' p mb M (madeV (vsOf xs) acts)) ∧ (c = false → greatB xs acts = true ∨ ¬ okV (vsOf xs))
theorem small_of {K : List Int} {L : Vs} (hG : GoodV L) (hK : InK K L) (hk : K.length ≤ 10000) (hl : L.length ≤ 41) : Small L := ⟨by omega, fun p hp => by have := hK.lens hG p hp; omega⟩
theorem greatB_false {xs : List Vc} {acts : List Ac} (h : greatB xs acts = false) : xs.length ≤ 40 ∧ acts.length ≤ 200 ∧ ∀ x ∈ xs, x.ps.length ≤ 60 := by
  unfold greatB at h
  simp only [Bool.or_eq_false_iff, decide_eq_false_iff_not, List.any_eq_false, decide_eq_true_eq] at h
  exact ⟨by omega, by omega, fun x hx => by have := h.2 x hx; omega⟩
def keysAllV (xs : List Vc) (acts : List Ac) : List Int := xs.flatMap (fun x => x.ps.map (·.1)) ++ acts.map (·.line)
theorem keysAllV_len {xs : List Vc} {acts : List Ac} (h : greatB xs acts = false) : (keysAllV xs acts).length ≤ 10000 := by
  obtain ⟨h1, h2, h3⟩ := greatB_false h
  have h4 : ∀ l : List Vc, (∀ x ∈ l, x.ps.length ≤ 60) → (l.flatMap (fun x => x.ps.map (·.1))).length ≤ l.length * 60 := by
    intro l
    induction l with
    | nil => simp
    | cons x l ih =>
      intro hl
      have := ih (fun y hy => hl y (by simp [hy]))
      have := hl x (by simp)
      simp only [List.flatMap_cons, List.length_append, List.length_map, List.length_cons]
      omega
  have := h4 xs h3
  unfold keysAllV
  simp only [List.length_append, List.length_map]
  omega
theorem keysAllV_in (xs : List Vc) (acts : List Ac) : InK (keysAllV xs acts) (vsOf xs) := fun p hp q hq => by
  obtain ⟨x, hx, rfl⟩ := List.mem_map.1 hp
  exact List.mem_append_left _ (List.mem_flatMap.2 ⟨x, hx, List.mem_map.2 ⟨q, hq, rfl⟩⟩)
theorem foldl_take_succ {α β : Type} (f : β → α → β) (z : β) (l : List α) (i : Nat) (h : i < l.length) : (l.take (i + 1)).foldl f z = f ((l.take i).foldl f z) l[i] := by
  rw [List.take_succ_eq_append_getElem h, List.foldl_append]; rfl
theorem madeV_step (L : Vs) (acts : List Ac) (i : Nat) (h : i < acts.length) : (acts.take (i + 1)).foldl doneV L = doneV ((acts.take i).foldl doneV L) acts[i] := foldl_take_succ _ _ _ _ h

end Go.Proofs.YticcccciefaemaaGreatDoor.Vx

namespace Go.Proofs.YticcccciefaemaaGreatDoor.Vx
open Go.RowKit Go.Shelf Go.Herb

theorem run_eqIP (a b c d : Int) (w : World) : (Op.equalIn 10000 (72) (.agg #[.int .u64 a, .int .u64 b]) (.agg #[.int .u64 c, .int .u64 d])).run Tryz.prog w = .ok (decide (a = c ∧ b = d)) w := by
  have hS : Tryz.prog.underlying (72) = some (.struct (Tryz.prog.fieldsOf (72))) := by kernel_rfl
  have hp : Tryz.prog.stoodInHeld (72) = false := by kernel_rfl
  rw [show (10000 : Nat) = 9999 + 1 from rfl, run_equalIn_agg w 9999 (72) _ _ hS hp]
  simp only [Program.fieldsOf, Tryz.underlying72]
  have u9 := Tryz.underlying52
  go_simp
  by_cases h1 : a = c <;> by_cases h2 : b = d <;> simp [h1, h2]
theorem run_eqlP (a b c d : Int) (w : World) : (binOp .eql (72) (.agg #[.int .u64 a, .int .u64 b]) (.agg #[.int .u64 c, .int .u64 d])).run Tryz.prog w = .ok (.bool (decide (a = c ∧ b = d))) w := by
  rw [run_eql_struct, run_eqIP]; rfl
theorem run_neqP (a b c d : Int) (w : World) : (binOp .neq (72) (.agg #[.int .u64 a, .int .u64 b]) (.agg #[.int .u64 c, .int .u64 d])).run Tryz.prog w = .ok (.bool (!decide (a = c ∧ b = d))) w := by
  rw [run_neq_struct, run_eqIP]; rfl
theorem guardP : Tryz.prog.eqGuardType Tryz.prog.depth (72) = false := by kernel_rfl

theorem row_lit {α : Type} {enc : α → List Value} {s e : Nat} {w : World} {g : Nat} {xs : List α} (hs : ∀ x, (enc x).length = s) (hb : w.heap[g]? = some (.cells (xs.flatMap enc).toArray e (0, 0))) (hl : xs.length ≤ maxLen) : Row enc s e w g xs.length xs :=
  ⟨⟨_, hb, by simp only [List.size_toArray]; exact flatMap_len hs xs, by rw [← flatMap_len hs xs, List.take_length]⟩, Nat.le_refl _, hl⟩

theorem owns_els {α : Type} {enc : α → List Value} {s B e n cap : Nat} {w : World} {a : Option Addr} {xs : List α} (hs : ∀ x, (enc x).length = s) (h : w.ownsRow B e s (.slice a n cap) xs.length (xs.flatMap enc)) : Els enc s w a xs := by
  rcases row_of_owns h with ⟨h1, rfl⟩ | ⟨g, c, h1, _, hR⟩
  · exact Els.nil _ _ _ _
  · injection h1 with h1
    rw [h1]
    exact hR.els hs
theorem VcAt.pts {B : Nat} {w : World} {x : Vc} (h : VcAt B w x) : Pts w x.a x.ps := by
  obtain ⟨cap, ho⟩ := h.own
  exact owns_els pc_len ho
/-- What All answers, as a list that may come in. -/
theorem vin_of {B B' : Nat} {w : World} {va : Option Addr} {vcap : Nat} {xs : List Vc} {L : Vs} (hL : xs.map (fun x => (x.line, x.ps)) = L) (ho : OwnV B w (.slice va xs.length vcap) xs) (hx : ∀ x ∈ xs, VcAt B' w x) (hG : GoodV L) (hS : Small L) : VIn w va xs := by
  have hm : ∀ x ∈ xs, (x.line, x.ps) ∈ L := fun x hx => by rw [← hL]; exact List.mem_map.2 ⟨x, hx, rfl⟩
  have hl : xs.length = L.length := by rw [← hL]; simp
  refine ⟨owns_els vc_len ho, fun x h => (hx x h).pts, fun x h => ⟨hG.wf _ (hm x h), fun q hq => (hG.inn _ (hm x h)).wf q hq⟩, ?_, fun x h => ?_⟩
  · have := hS.len; unfold maxLen; omega
  · have := hS.inn _ (hm x h); simp only at this; unfold maxLen; omega

def ac (k l o n : Int) (h : (Lit.int .u8 k).wf = true ∧ U64 l ∧ U64 o ∧ U64 n) : Ac := ⟨k, l, o, n, h.1, h.2.1, h.2.2.1, h.2.2.2⟩
def livesActs : List Ac := [ac 0 0 0 1 ⟨rfl, rfl, rfl, rfl⟩, ac 1 2 0 0 ⟨rfl, rfl, rfl, rfl⟩, ac 0 2 0 3 ⟨rfl, rfl, rfl, rfl⟩, ac 0 0 0 4 ⟨rfl, rfl, rfl, rfl⟩]
theorem lives_made : madeV [(0, [])] livesActs = [(0, [(0, 4)]), (2, [(0, 1), (2, 3)])] := by decide
theorem lives_merge : mergeV [(0, [(0, 4)]), (2, [(0, 1), (2, 3)])] 0 2 5 = (0, [(0, [(0, 5), (2, 3)]), (2, [(0, 1), (2, 3)])]) := by decide
theorem okm_of {b : Bh} (h : Herb.Good b) : Okm b := h.ok
theorem good1 : Herb.Good [(0, 4)] := ⟨by unfold SrtK; decide, by decide, by intro p hp; rw [List.mem_singleton.1 hp]; exact ⟨rfl, rfl⟩⟩
theorem good2 : Herb.Good [(0, 1), (2, 3)] := ⟨by unfold SrtK; decide, by decide, by intro p hp; simp only [List.mem_cons, List.not_mem_nil, or_false] at hp; rcases hp with rfl | rfl <;> exact ⟨rfl, rfl⟩⟩
theorem good3 : Herb.Good [(0, 5), (2, 3)] := ⟨by unfold SrtK; decide, by decide, by intro p hp; simp only [List.mem_cons, List.not_mem_nil, or_false] at hp; rcases hp with rfl | rfl <;> exact ⟨rfl, rfl⟩⟩
theorem base1 : IsBase [(0, 4)] [(0, 1), (2, 3)] (0, 1) :=
  (((BaseSt.start [(0, 1), (2, 3)]).take (q := (0, 4)) (by decide) (by decide)).done (a := [(0, 4)]) good1.ok good2.ok (List.Perm.refl _))
theorem base2 : IsBase [(0, 5), (2, 3)] [(0, 1), (2, 3)] (2, 3) :=
  ((((BaseSt.start [(0, 1), (2, 3)]).take (q := (0, 5)) (by decide) (by decide)).take (q := (2, 3)) (by decide) (by decide)).done (a := [(0, 5), (2, 3)]) good3.ok good2.ok (List.Perm.refl _))
theorem goodL0 : GoodV [(0, [])] := ⟨List.pairwise_singleton _ _, by intro p hp; rw [List.mem_singleton.1 hp]; exact nil_good, by intro p hp; rw [List.mem_singleton.1 hp]; exact rfl⟩
theorem goodL3 : GoodV [(0, [(0, 5), (2, 3)]), (2, [(0, 1), (2, 3)])] := ⟨by unfold SrtK; decide, by intro p hp; simp only [List.mem_cons, List.not_mem_nil, or_false] at hp; rcases hp with rfl | rfl; exact good3; exact good2, by intro p hp; simp only [List.mem_cons, List.not_mem_nil, or_false] at hp; rcases hp with rfl | rfl <;> exact rfl⟩

end Go.Proofs.YticcccciefaemaaGreatDoor.Vx
