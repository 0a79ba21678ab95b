/- manifests.paired; slices.Equal at numbers. Condition: fewer than 1000000 branches and vectors. · manifests.may: its round's test, arm by arm. No condition. -/
import Derived.Test.YtchcelodeepjdaaGreatDoorZR
import Derived.Test.YtchcelodeepjdaaGreatDoorOG
import Derived.Test.YtchcelodeepjdaaGreatDoorLR
import Derived.Deep.Cut
import Derived.Deep.CutBlock
import Derived.BigQuiet
import Derived.Lib.AppendZeros
import Derived.Test.YtchcelodeepjdaaGreatDoorLN9b
import Derived.Test.YtchcelodeepjdaaGreatDoorU2a
import Derived.Sort.Walk0
import Derived.Deep.RegionHeld3
namespace Go.Proofs.YtchcelodeepjdaaGreatDoor.Ln
open Go.RowKit Go.Shelf Go.Herb

set_option maxRecDepth 100000 in
theorem equalU_any (a b : Option Addr) (ca cb n m : Nat) (xs ys : List Int) (w : World) (hx : Els Vx.nu 1 w a xs) (hy : Els Vx.nu 1 w b ys) (hn : xs.length = n) (hm : ys.length = m) (hl : n < 1000000) :
    Calls Tryz.prog (75) #[.slice a n ca, .slice b m cb] w fun e w' => ∃ q : Bool, e = .returned (.bool q) ∧ (q = true ↔ xs = ys) ∧ Below w.heap.size w w' := by
  have HX := Lib.hid hx
  have HY := Lib.hid hy
  have HN := Lib.hid hn
  have HM := Lib.hid hm.symm
  have HB0 := Lib.hid (Below.refl w.heap.size w)
  clear hx hy hn hm
  go_enter Tryz.func75, Tryz.ntmps75
  by_cases hnm : n = m
  case neg =>
    have h1 : ((n : Int) == (m : Int)) = false := beq_eq_false_iff_ne.2 (by omega)
    have h2 : ¬ (n : Int) = (m : Int) := by omega
    go_wp2_with fail
    go_ret
    exact ⟨false, rfl, ⟨(fun h => by cases h), fun h => absurd (by rw [← HN.out, h, ← HM.out]) hnm⟩, HB0.out⟩
  subst hnm
  have h1 : ((n : Int) == (n : Int)) = true := beq_self_eq_true _
  go_wp2_with fail
  go_loopg [13] n (fun gk iv wr => ∃ k : Nat, k + gk = n ∧ iv = .int .i64 k ∧ Hid (xs.take k = ys.take k) ∧ Hid (Below w.heap.size w wr))
  case atStart => exact ⟨0, by omega, rfl, Lib.hid rfl, HB0⟩
  case round =>
    obtain ⟨k, hk, rfl, HE, HB⟩ := hrel
    by_cases hlt : k < n
    · have hkx : k < xs.length := by have := HN.out; omega
      have hky : k < ys.length := by have := HM.out; omega
      obtain ⟨xb, xo, rfl, hxl, hxc⟩ := HX.out.get k hkx
      obtain ⟨yb, yo, rfl, hyl, hyc⟩ := HY.out.get k hky
      have c0 := (HB.out.cell (p := ⟨xb, _, none⟩) hxl).trans (hxc 0 _ rfl)
      have c1 := (HB.out.cell (p := ⟨yb, _, none⟩) hyl).trans (hyc 0 _ rfl)
      simp only [Nat.add_zero, Nat.mul_one] at c0 c1
      have HXE := Lib.hid (List.take_succ_eq_append_getElem hkx)
      have HYE := Lib.hid (List.take_succ_eq_append_getElem hky)
      have HXG := Lib.hid (List.getElem?_eq_getElem hkx)
      have HYG := Lib.hid (List.getElem?_eq_getElem hky)
      clear hxc hyc
      generalize xs[k] = x at *
      generalize ys[k] = y at *
      have i0 : (0 : Int) ≤ (k : Int) := by omega
      have i1 : (k : Int) < (n : Int) := by omega
      have hw1 : IntKind.i64.wrap ((k : Int) + 1) = (k : Int) + 1 := IntWalk.i64_in _ (by omega)
      by_cases hxy : x = y
      · have d1 : (x == y) = true := by rw [hxy]; exact beq_self_eq_true _
        have HE2 := Lib.hid (show xs.take (k + 1) = ys.take (k + 1) by rw [HXE.out, HYE.out, HE.out, hxy])
        clear hxy
        go_upto_region 6 with fail
        go_quiet (fail)
        have HBu := Lib.hid (show Below w.heap.size w (wr.drewN nq) from ⟨HB.out.os, HB.out.tape, HB.out.output, HB.out.size, HB.out.block⟩)
        go_wp2
        go_roundg (gk - 1)
        case measure => omega
        case rel => exact ⟨k + 1, by omega, by go_num, HE2, HBu⟩
      · have d1 : (x == y) = false := beq_eq_false_iff_ne.2 hxy
        have HNE := Lib.hid (show xs ≠ ys from fun h => hxy (by
          have := HXG.out
          rw [h, HYG.out] at this
          exact (Option.some.inj this).symm))
        clear hxy
        go_upto_region 6 with fail
        go_quiet (fail)
        have HBu := Lib.hid (show Below w.heap.size w (wr.drewN nq) from ⟨HB.out.os, HB.out.tape, HB.out.output, HB.out.size, HB.out.block⟩)
        go_wp2
        go_ret
        exact ⟨false, rfl, ⟨(fun h => by cases h), fun h => absurd h HNE.out⟩, HBu.out⟩
    · have HT := Lib.hid (show xs = ys from by
        have := HE.out
        rwa [List.take_of_length_le (by have := HN.out; omega), List.take_of_length_le (by have := HM.out; omega)] at this)
      go_wp2_with fail
      go_ret
      exact ⟨true, rfl, ⟨fun _ => HT.out, fun _ => rfl⟩, HB.out⟩

/-- A number more, behind what is owned. -/
theorem push_u {wr : World} {B : Nat} {v : Value} {ys : List Int} (x : Int) (o : Obj) (hBw : B ≤ wr.heap.size) (ho : Vx.OwnU B wr v ys) (hl : ys.length < 1000000) :
    ∃ v' w', (Builtin.append_ #[(88), (88)] (88) #[v, .slice (some ⟨wr.heap.size + 1, 0, none⟩) 1 1]).run Tryz.prog ((wr.alloc o).alloc (.cells #[.int .u64 x] (26))) = .ok v' w' ∧ Vx.OwnU B w' v' (ys ++ [x]) ∧ Below B wr w' := by
  have hb1 : Below wr.heap.size wr (wr.alloc o) := (Below.refl _ _).alloc (Nat.le_refl _) _
  have hb2 : Below wr.heap.size wr ((wr.alloc o).alloc (.cells #[.int .u64 x] (26))) := hb1.alloc hb1.size _
  have ho2 : Vx.OwnU B ((wr.alloc o).alloc (.cells #[.int .u64 x] (26))) v ys := ownsRow_below ho hb2 (Nat.le_refl _)
  obtain ⟨v', w', hr, h2, h3⟩ := Vx.run_append_u _ B v ys (wr.heap.size + 1) x ho2 (blk_new_at (by simp) _) hl (Nat.le_trans hBw hb2.size) (88)
  exact ⟨v', w', hr, h2, Below.appended (hb2.mono hBw) ho2 (Nat.le_refl _) (Nat.le_trans hBw hb2.size) h3⟩
end Go.Proofs.YtchcelodeepjdaaGreatDoor.Ln

namespace Go.Proofs.YtchcelodeepjdaaGreatDoor.Ln
open Go.RowKit Go.Herb
namespace Mf
noncomputable def R9 : Code := ((Tryz.f77.body.bind (regionAt 9)).getD .skip)
set_option maxRecDepth 100000 in
set_option maxHeartbeats 1000000 in
theorem may9_A {p b o n lc i j k : Nat} {lo hi ph : ByteArray} {X : World} {u0 u1 u2 u3 u8 u9 u10 u11 u12 u13 u14 u15 u16 u17 u18 u19 u20 u21 u22 u23 u24 u25 u26 u27 u28 u29 u30 u31 u32 u33 u34 u35 u36 u37 u38 u39 u40 u41 u42 u43 u44 u45 u46 u47 u48 u49 u50 u51 u52 u53 u54 u55 u56 u57 u58 u59 u60 u61 u62 u63 u64 : Value} {Q : Exit → Act → World → Prop}
    (HKP : Hid (∀ u, Below X.heap.size X u → u.cell? ⟨p, 2, none⟩ = some (.string lo) ∧ u.cell? ⟨p, 3, none⟩ = some (.string hi) ∧ u.cell? ⟨b, o + k * 4 + 3, none⟩ = some (.string ph)))
    (HK1 : Hid (∀ u, Calls Tryz.prog (102) #[.string lo] u fun e w' => e = .returned (.bool false) ∧ w' = u))
    (hP : ∀ ch a a' w', a'.defers = a.defers → Q (.panic ch) a w' → Q (.panic ch) a' w')
    (hQ : ∀ (v25 v26 v27 v28 v29 v30 v31 v32 v33 v34 v35 v36 v37 v38 v39 v40 v41 v42 v43 v44 v45 v46 v47 v48 v49 v50 v51 v52 v53 v54 v55 v56 v57 v58 v59 : Value) (w' : World), Below X.heap.size X w' → Q .normal ⟨#[u0, u1, u2, u3, .int .i64 (j : Int), .slice (some ⟨b, o, none⟩) n lc, .int .i64 (i : Int), .pointer (some ⟨p, 0, none⟩), u8, u9, u10, u11, u12, u13, u14, u15, u16, u17, u18, u19, u20, u21, u22, u23, u24, v25, v26, v27, v28, v29, v30, v31, v32, v33, v34, v35, v36, v37, v38, v39, v40, v41, v42, v43, v44, v45, v46, v47, v48, v49, v50, v51, v52, v53, v54, v55, v56, v57, v58, v59, .bool true, u61, u62, u63, u64], []⟩ w') :
    Code.wp Tryz.prog R9 Q ⟨#[u0, u1, u2, u3, .int .i64 (j : Int), .slice (some ⟨b, o, none⟩) n lc, .int .i64 (i : Int), .pointer (some ⟨p, 0, none⟩), u8, u9, u10, u11, u12, u13, u14, u15, u16, u17, u18, u19, u20, u21, u22, u23, u24, u25, u26, u27, u28, u29, u30, u31, u32, u33, u34, u35, u36, u37, u38, u39, u40, u41, u42, u43, u44, u45, u46, u47, u48, u49, u50, u51, u52, u53, u54, u55, u56, u57, u58, u59, u60, u61, u62, u63, u64], []⟩ X := by
  conv => arg 2; whnf
  have HP := Lib.hid hP
  have HQ := Lib.hid hQ
  clear hP hQ
  have HDA := Lib.hid (show Below X.heap.size X X.drew from (Below.refl X.heap.size X).drew)
  refine wp_region_held_drew (S := fun u => u.cell? ⟨p, 2, none⟩ = some (.string lo) ∧ u.cell? ⟨p, 3, none⟩ = some (.string hi) ∧ u.cell? ⟨b, o + k * 4 + 3, none⟩ = some (.string ph)) (by kernel_rfl) (by first | exact HKP.out _ hbu | exact HKP.out _ HDA.out) (fun hHeld => ?_)
  refine tkI HP.out 0 (h := ?_)
  refine tkI HP.out 1 (h := ?_)
  try simp only [Act.put, List.setIfInBounds_toArray, List.set_cons_zero, List.set_cons_succ]
  refine tkC 2 (h := fun K hK => ?_)
  go_wp2_with (go_at_call 102; (with_reducible refine (HK1.out _).mono ?_); rintro e w5 ⟨rfl, rfl⟩)
  refine hK.out _ _ (by first | exact HKP.out _ hbu | exact HKP.out _ HDA.out) (fun hHeld => ?_)
  clear hK K
  try simp only [Act.put, List.setIfInBounds_toArray, List.set_cons_zero, List.set_cons_succ]
  refine tkI HP.out 3 (h := ?_)
  refine tkI HP.out 4 (h := ?_)
  refine tkO HP.out 5 (h := ?_)
  try simp only [Act.put, List.setIfInBounds_toArray, List.set_cons_zero, List.set_cons_succ]
  refine tkO HP.out 6 (h := ?_)
  refine tkO HP.out 7 (h := ?_)
  refine tkO HP.out 8 (h := ?_)
  try simp only [Act.put, List.setIfInBounds_toArray, List.set_cons_zero, List.set_cons_succ]
  refine tkI HP.out 9 (h := ?_)
  refine tkI HP.out 10 (h := ?_)
  refine tkO HP.out 11 (h := ?_)
  try simp only [Act.put, List.setIfInBounds_toArray, List.set_cons_zero, List.set_cons_succ]
  refine tkO HP.out 12 (h := ?_)
  refine tkO HP.out 13 (h := ?_)
  refine tkO HP.out 14 (h := ?_)
  try simp only [Act.put, List.setIfInBounds_toArray, List.set_cons_zero, List.set_cons_succ]
  refine tkO HP.out 15 (h := ?_)
  refine tkI HP.out 16 (h := ?_)
  refine tkI HP.out 17 (h := ?_)
  try simp only [Act.put, List.setIfInBounds_toArray, List.set_cons_zero, List.set_cons_succ]
  refine tkO HP.out 18 (h := ?_)
  refine tkO HP.out 19 (h := ?_)
  refine tkO HP.out 20 (h := ?_)
  try simp only [Act.put, List.setIfInBounds_toArray, List.set_cons_zero, List.set_cons_succ]
  refine tkO HP.out 21 (h := ?_)
  refine tkO HP.out 22 (h := ?_)
  refine tkO HP.out 23 (h := ?_)
  try simp only [Act.put, List.setIfInBounds_toArray, List.set_cons_zero, List.set_cons_succ]
  refine tkO HP.out 24 (h := ?_)
  refine tkO HP.out 25 (h := ?_)
  refine tkO HP.out 26 (h := ?_)
  try simp only [Act.put, List.setIfInBounds_toArray, List.set_cons_zero, List.set_cons_succ]
  refine tkO HP.out 27 (h := ?_)
  refine tkO HP.out 28 (h := ?_)
  refine tkO HP.out 29 (h := ?_)
  try simp only [Act.put, List.setIfInBounds_toArray, List.set_cons_zero, List.set_cons_succ]
  refine tkO HP.out 30 (h := ?_)
  refine tkO HP.out 31 (h := ?_)
  refine tkO HP.out 32 (h := ?_)
  try simp only [Act.put, List.setIfInBounds_toArray, List.set_cons_zero, List.set_cons_succ]
  refine tkO HP.out 33 (h := ?_)
  refine tkO HP.out 34 (h := ?_)
  refine tkI HP.out 35 (h := ?_)
  try simp only [Act.put, List.setIfInBounds_toArray, List.set_cons_zero, List.set_cons_succ]
  try simp only [Act.put, List.setIfInBounds_toArray, List.set_cons_zero, List.set_cons_succ]
  refine wpAnyH_done (by kernel_rfl) ?_ _
  first | exact HQ.out _ _ _ _ _ _ _ _ _ _ _ _ _ _ _ _ _ _ _ _ _ _ _ _ _ _ _ _ _ _ _ _ _ _ _ _ hbu | exact HQ.out _ _ _ _ _ _ _ _ _ _ _ _ _ _ _ _ _ _ _ _ _ _ _ _ _ _ _ _ _ _ _ _ _ _ _ _ HDA.out
set_option maxRecDepth 100000 in
set_option maxHeartbeats 1000000 in
theorem may9_B {p b o n lc i j k : Nat} {lo hi ph : ByteArray} {X : World} {u0 u1 u2 u3 u8 u9 u10 u11 u12 u13 u14 u15 u16 u17 u18 u19 u20 u21 u22 u23 u24 u25 u26 u27 u28 u29 u30 u31 u32 u33 u34 u35 u36 u37 u38 u39 u40 u41 u42 u43 u44 u45 u46 u47 u48 u49 u50 u51 u52 u53 u54 u55 u56 u57 u58 u59 u60 u61 u62 u63 u64 : Value} {Q : Exit → Act → World → Prop}
    (HKP : Hid (∀ u, Below X.heap.size X u → u.cell? ⟨p, 2, none⟩ = some (.string lo) ∧ u.cell? ⟨p, 3, none⟩ = some (.string hi) ∧ u.cell? ⟨b, o + k * 4 + 3, none⟩ = some (.string ph)))
    (HK1 : Hid (∀ u, Calls Tryz.prog (102) #[.string lo] u fun e w' => e = .returned (.bool true) ∧ w' = u))
    (HK2 : Hid (∀ u, Calls Tryz.prog (102) #[.string hi] u fun e w' => e = .returned (.bool false) ∧ w' = u))
    (hP : ∀ ch a a' w', a'.defers = a.defers → Q (.panic ch) a w' → Q (.panic ch) a' w')
    (hQ : ∀ (v25 v26 v27 v28 v29 v30 v31 v32 v33 v34 v35 v36 v37 v38 v39 v40 v41 v42 v43 v44 v45 v46 v47 v48 v49 v50 v51 v52 v53 v54 v55 v56 v57 v58 v59 : Value) (w' : World), Below X.heap.size X w' → Q .normal ⟨#[u0, u1, u2, u3, .int .i64 (j : Int), .slice (some ⟨b, o, none⟩) n lc, .int .i64 (i : Int), .pointer (some ⟨p, 0, none⟩), u8, u9, u10, u11, u12, u13, u14, u15, u16, u17, u18, u19, u20, u21, u22, u23, u24, v25, v26, v27, v28, v29, v30, v31, v32, v33, v34, v35, v36, v37, v38, v39, v40, v41, v42, v43, v44, v45, v46, v47, v48, v49, v50, v51, v52, v53, v54, v55, v56, v57, v58, v59, .bool true, u61, u62, u63, u64], []⟩ w') :
    Code.wp Tryz.prog R9 Q ⟨#[u0, u1, u2, u3, .int .i64 (j : Int), .slice (some ⟨b, o, none⟩) n lc, .int .i64 (i : Int), .pointer (some ⟨p, 0, none⟩), u8, u9, u10, u11, u12, u13, u14, u15, u16, u17, u18, u19, u20, u21, u22, u23, u24, u25, u26, u27, u28, u29, u30, u31, u32, u33, u34, u35, u36, u37, u38, u39, u40, u41, u42, u43, u44, u45, u46, u47, u48, u49, u50, u51, u52, u53, u54, u55, u56, u57, u58, u59, u60, u61, u62, u63, u64], []⟩ X := by
  conv => arg 2; whnf
  have HP := Lib.hid hP
  have HQ := Lib.hid hQ
  clear hP hQ
  have HDA := Lib.hid (show Below X.heap.size X X.drew from (Below.refl X.heap.size X).drew)
  refine wp_region_held_drew (S := fun u => u.cell? ⟨p, 2, none⟩ = some (.string lo) ∧ u.cell? ⟨p, 3, none⟩ = some (.string hi) ∧ u.cell? ⟨b, o + k * 4 + 3, none⟩ = some (.string ph)) (by kernel_rfl) (by first | exact HKP.out _ hbu | exact HKP.out _ HDA.out) (fun hHeld => ?_)
  refine tkI HP.out 0 (h := ?_)
  refine tkI HP.out 1 (h := ?_)
  try simp only [Act.put, List.setIfInBounds_toArray, List.set_cons_zero, List.set_cons_succ]
  refine tkC 2 (h := fun K hK => ?_)
  go_wp2_with (go_at_call 102; (with_reducible refine (HK1.out _).mono ?_); rintro e w5 ⟨rfl, rfl⟩)
  refine hK.out _ _ (by first | exact HKP.out _ hbu | exact HKP.out _ HDA.out) (fun hHeld => ?_)
  clear hK K
  try simp only [Act.put, List.setIfInBounds_toArray, List.set_cons_zero, List.set_cons_succ]
  refine tkI HP.out 3 (h := ?_)
  refine tkI HP.out 4 (h := ?_)
  refine tkI HP.out 5 (h := ?_)
  try simp only [Act.put, List.setIfInBounds_toArray, List.set_cons_zero, List.set_cons_succ]
  refine tkI HP.out 6 (h := ?_)
  try simp only [Act.put, List.setIfInBounds_toArray, List.set_cons_zero, List.set_cons_succ]
  refine tkC 7 (h := fun K hK => ?_)
  go_wp2_with (go_at_call 102; (with_reducible refine (HK2.out _).mono ?_); rintro e w5 ⟨rfl, rfl⟩)
  refine hK.out _ _ (by first | exact HKP.out _ hbu | exact HKP.out _ HDA.out) (fun hHeld => ?_)
  clear hK K
  refine tkI HP.out 8 (h := ?_)
  try simp only [Act.put, List.setIfInBounds_toArray, List.set_cons_zero, List.set_cons_succ]
  refine tkI HP.out 9 (h := ?_)
  refine tkI HP.out 10 (h := ?_)
  refine tkO HP.out 11 (h := ?_)
  try simp only [Act.put, List.setIfInBounds_toArray, List.set_cons_zero, List.set_cons_succ]
  refine tkO HP.out 12 (h := ?_)
  refine tkO HP.out 13 (h := ?_)
  refine tkO HP.out 14 (h := ?_)
  try simp only [Act.put, List.setIfInBounds_toArray, List.set_cons_zero, List.set_cons_succ]
  refine tkO HP.out 15 (h := ?_)
  refine tkI HP.out 16 (h := ?_)
  refine tkI HP.out 17 (h := ?_)
  try simp only [Act.put, List.setIfInBounds_toArray, List.set_cons_zero, List.set_cons_succ]
  refine tkO HP.out 18 (h := ?_)
  refine tkO HP.out 19 (h := ?_)
  refine tkO HP.out 20 (h := ?_)
  try simp only [Act.put, List.setIfInBounds_toArray, List.set_cons_zero, List.set_cons_succ]
  refine tkO HP.out 21 (h := ?_)
  refine tkO HP.out 22 (h := ?_)
  refine tkO HP.out 23 (h := ?_)
  try simp only [Act.put, List.setIfInBounds_toArray, List.set_cons_zero, List.set_cons_succ]
  refine tkO HP.out 24 (h := ?_)
  refine tkO HP.out 25 (h := ?_)
  refine tkO HP.out 26 (h := ?_)
  try simp only [Act.put, List.setIfInBounds_toArray, List.set_cons_zero, List.set_cons_succ]
  refine tkO HP.out 27 (h := ?_)
  refine tkO HP.out 28 (h := ?_)
  refine tkO HP.out 29 (h := ?_)
  try simp only [Act.put, List.setIfInBounds_toArray, List.set_cons_zero, List.set_cons_succ]
  refine tkO HP.out 30 (h := ?_)
  refine tkO HP.out 31 (h := ?_)
  refine tkO HP.out 32 (h := ?_)
  try simp only [Act.put, List.setIfInBounds_toArray, List.set_cons_zero, List.set_cons_succ]
  refine tkO HP.out 33 (h := ?_)
  refine tkO HP.out 34 (h := ?_)
  refine tkI HP.out 35 (h := ?_)
  try simp only [Act.put, List.setIfInBounds_toArray, List.set_cons_zero, List.set_cons_succ]
  try simp only [Act.put, List.setIfInBounds_toArray, List.set_cons_zero, List.set_cons_succ]
  refine wpAnyH_done (by kernel_rfl) ?_ _
  first | exact HQ.out _ _ _ _ _ _ _ _ _ _ _ _ _ _ _ _ _ _ _ _ _ _ _ _ _ _ _ _ _ _ _ _ _ _ _ _ hbu | exact HQ.out _ _ _ _ _ _ _ _ _ _ _ _ _ _ _ _ _ _ _ _ _ _ _ _ _ _ _ _ _ _ _ _ _ _ _ _ HDA.out
set_option maxRecDepth 100000 in
set_option maxHeartbeats 1000000 in
theorem may9_C {p b o n lc i j k : Nat} {lo hi ph : ByteArray} {X : World} {u0 u1 u2 u3 u8 u9 u10 u11 u12 u13 u14 u15 u16 u17 u18 u19 u20 u21 u22 u23 u24 u25 u26 u27 u28 u29 u30 u31 u32 u33 u34 u35 u36 u37 u38 u39 u40 u41 u42 u43 u44 u45 u46 u47 u48 u49 u50 u51 u52 u53 u54 u55 u56 u57 u58 u59 u60 u61 u62 u63 u64 : Value} {Q : Exit → Act → World → Prop}
    (HKP : Hid (∀ u, Below X.heap.size X u → u.cell? ⟨p, 2, none⟩ = some (.string lo) ∧ u.cell? ⟨p, 3, none⟩ = some (.string hi) ∧ u.cell? ⟨b, o + k * 4 + 3, none⟩ = some (.string ph)))
    (HK1 : Hid (∀ u, Calls Tryz.prog (102) #[.string lo] u fun e w' => e = .returned (.bool true) ∧ w' = u))
    (HK2 : Hid (∀ u, Calls Tryz.prog (102) #[.string hi] u fun e w' => e = .returned (.bool true) ∧ w' = u))
    (e f : Bool) (he : Op.bytesLess lo.toList hi.toList = e) (hf : (lo.toList == hi.toList) = f) (hef : (!e && !f) = true)
    (hP : ∀ ch a a' w', a'.defers = a.defers → Q (.panic ch) a w' → Q (.panic ch) a' w')
    (hQ : ∀ (v25 v26 v27 v28 v29 v30 v31 v32 v33 v34 v35 v36 v37 v38 v39 v40 v41 v42 v43 v44 v45 v46 v47 v48 v49 v50 v51 v52 v53 v54 v55 v56 v57 v58 v59 : Value) (w' : World), Below X.heap.size X w' → Q .normal ⟨#[u0, u1, u2, u3, .int .i64 (j : Int), .slice (some ⟨b, o, none⟩) n lc, .int .i64 (i : Int), .pointer (some ⟨p, 0, none⟩), u8, u9, u10, u11, u12, u13, u14, u15, u16, u17, u18, u19, u20, u21, u22, u23, u24, v25, v26, v27, v28, v29, v30, v31, v32, v33, v34, v35, v36, v37, v38, v39, v40, v41, v42, v43, v44, v45, v46, v47, v48, v49, v50, v51, v52, v53, v54, v55, v56, v57, v58, v59, .bool true, u61, u62, u63, u64], []⟩ w') :
    Code.wp Tryz.prog R9 Q ⟨#[u0, u1, u2, u3, .int .i64 (j : Int), .slice (some ⟨b, o, none⟩) n lc, .int .i64 (i : Int), .pointer (some ⟨p, 0, none⟩), u8, u9, u10, u11, u12, u13, u14, u15, u16, u17, u18, u19, u20, u21, u22, u23, u24, u25, u26, u27, u28, u29, u30, u31, u32, u33, u34, u35, u36, u37, u38, u39, u40, u41, u42, u43, u44, u45, u46, u47, u48, u49, u50, u51, u52, u53, u54, u55, u56, u57, u58, u59, u60, u61, u62, u63, u64], []⟩ X := by
  conv => arg 2; whnf
  have HP := Lib.hid hP
  have HQ := Lib.hid hQ
  clear hP hQ
  have HDA := Lib.hid (show Below X.heap.size X X.drew from (Below.refl X.heap.size X).drew)
  refine wp_region_held_drew (S := fun u => u.cell? ⟨p, 2, none⟩ = some (.string lo) ∧ u.cell? ⟨p, 3, none⟩ = some (.string hi) ∧ u.cell? ⟨b, o + k * 4 + 3, none⟩ = some (.string ph)) (by kernel_rfl) (by first | exact HKP.out _ hbu | exact HKP.out _ HDA.out) (fun hHeld => ?_)
  refine tkI HP.out 0 (h := ?_)
  refine tkI HP.out 1 (h := ?_)
  try simp only [Act.put, List.setIfInBounds_toArray, List.set_cons_zero, List.set_cons_succ]
  refine tkC 2 (h := fun K hK => ?_)
  go_wp2_with (go_at_call 102; (with_reducible refine (HK1.out _).mono ?_); rintro e w5 ⟨rfl, rfl⟩)
  refine hK.out _ _ (by first | exact HKP.out _ hbu | exact HKP.out _ HDA.out) (fun hHeld => ?_)
  clear hK K
  try simp only [Act.put, List.setIfInBounds_toArray, List.set_cons_zero, List.set_cons_succ]
  refine tkI HP.out 3 (h := ?_)
  refine tkI HP.out 4 (h := ?_)
  refine tkI HP.out 5 (h := ?_)
  try simp only [Act.put, List.setIfInBounds_toArray, List.set_cons_zero, List.set_cons_succ]
  refine tkI HP.out 6 (h := ?_)
  try simp only [Act.put, List.setIfInBounds_toArray, List.set_cons_zero, List.set_cons_succ]
  refine tkC 7 (h := fun K hK => ?_)
  go_wp2_with (go_at_call 102; (with_reducible refine (HK2.out _).mono ?_); rintro e w5 ⟨rfl, rfl⟩)
  refine hK.out _ _ (by first | exact HKP.out _ hbu | exact HKP.out _ HDA.out) (fun hHeld => ?_)
  clear hK K
  refine tkI HP.out 8 (h := ?_)
  try simp only [Act.put, List.setIfInBounds_toArray, List.set_cons_zero, List.set_cons_succ]
  refine tkI HP.out 9 (h := ?_)
  refine tkI HP.out 10 (h := ?_)
  refine tkI HP.out 11 (h := ?_)
  try simp only [Act.put, List.setIfInBounds_toArray, List.set_cons_zero, List.set_cons_succ]
  refine tkI HP.out 12 (h := ?_)
  refine tkI HP.out 13 (h := ?_)
  refine tkI HP.out 14 (h := ?_)
  try simp only [Act.put, List.setIfInBounds_toArray, List.set_cons_zero, List.set_cons_succ]
  refine tkI HP.out 15 (h := ?_)
  refine tkI HP.out 16 (h := ?_)
  refine tkI HP.out 17 (h := ?_)
  try simp only [Act.put, List.setIfInBounds_toArray, List.set_cons_zero, List.set_cons_succ]
  refine tkO HP.out 18 (h := ?_)
  refine tkO HP.out 19 (h := ?_)
  refine tkO HP.out 20 (h := ?_)
  try simp only [Act.put, List.setIfInBounds_toArray, List.set_cons_zero, List.set_cons_succ]
  refine tkO HP.out 21 (h := ?_)
  refine tkO HP.out 22 (h := ?_)
  refine tkO HP.out 23 (h := ?_)
  try simp only [Act.put, List.setIfInBounds_toArray, List.set_cons_zero, List.set_cons_succ]
  refine tkO HP.out 24 (h := ?_)
  refine tkO HP.out 25 (h := ?_)
  refine tkO HP.out 26 (h := ?_)
  try simp only [Act.put, List.setIfInBounds_toArray, List.set_cons_zero, List.set_cons_succ]
  refine tkO HP.out 27 (h := ?_)
  refine tkO HP.out 28 (h := ?_)
  refine tkO HP.out 29 (h := ?_)
  try simp only [Act.put, List.setIfInBounds_toArray, List.set_cons_zero, List.set_cons_succ]
  refine tkO HP.out 30 (h := ?_)
  refine tkO HP.out 31 (h := ?_)
  refine tkO HP.out 32 (h := ?_)
  try simp only [Act.put, List.setIfInBounds_toArray, List.set_cons_zero, List.set_cons_succ]
  refine tkO HP.out 33 (h := ?_)
  refine tkO HP.out 34 (h := ?_)
  refine tkI HP.out 35 (h := ?_)
  try simp only [Act.put, List.setIfInBounds_toArray, List.set_cons_zero, List.set_cons_succ]
  try simp only [Act.put, List.setIfInBounds_toArray, List.set_cons_zero, List.set_cons_succ]
  refine wpAnyH_done (by kernel_rfl) ?_ _
  first | exact HQ.out _ _ _ _ _ _ _ _ _ _ _ _ _ _ _ _ _ _ _ _ _ _ _ _ _ _ _ _ _ _ _ _ _ _ _ _ hbu | exact HQ.out _ _ _ _ _ _ _ _ _ _ _ _ _ _ _ _ _ _ _ _ _ _ _ _ _ _ _ _ _ _ _ _ _ _ _ _ HDA.out
set_option maxRecDepth 100000 in
set_option maxHeartbeats 1000000 in
theorem may9_D {p b o n lc i j k : Nat} {lo hi ph : ByteArray} {X : World} {u0 u1 u2 u3 u8 u9 u10 u11 u12 u13 u14 u15 u16 u17 u18 u19 u20 u21 u22 u23 u24 u25 u26 u27 u28 u29 u30 u31 u32 u33 u34 u35 u36 u37 u38 u39 u40 u41 u42 u43 u44 u45 u46 u47 u48 u49 u50 u51 u52 u53 u54 u55 u56 u57 u58 u59 u60 u61 u62 u63 u64 : Value} {Q : Exit → Act → World → Prop}
    (HKP : Hid (∀ u, Below X.heap.size X u → u.cell? ⟨p, 2, none⟩ = some (.string lo) ∧ u.cell? ⟨p, 3, none⟩ = some (.string hi) ∧ u.cell? ⟨b, o + k * 4 + 3, none⟩ = some (.string ph)))
    (HK1 : Hid (∀ u, Calls Tryz.prog (102) #[.string lo] u fun e w' => e = .returned (.bool true) ∧ w' = u))
    (HK2 : Hid (∀ u, Calls Tryz.prog (102) #[.string hi] u fun e w' => e = .returned (.bool true) ∧ w' = u))
    (e f : Bool) (he : Op.bytesLess lo.toList hi.toList = e) (hf : (lo.toList == hi.toList) = f) (hef : (!e && !f) = false)
    (h0j : ¬ 0 < j) (dj : decide ((0 : Int) < (j : Int)) = false)
    (hP : ∀ ch a a' w', a'.defers = a.defers → Q (.panic ch) a w' → Q (.panic ch) a' w')
    (hQ : ∀ (v25 v26 v27 v28 v29 v30 v31 v32 v33 v34 v35 v36 v37 v38 v39 v40 v41 v42 v43 v44 v45 v46 v47 v48 v49 v50 v51 v52 v53 v54 v55 v56 v57 v58 v59 : Value) (w' : World), Below X.heap.size X w' → Q .normal ⟨#[u0, u1, u2, u3, .int .i64 (j : Int), .slice (some ⟨b, o, none⟩) n lc, .int .i64 (i : Int), .pointer (some ⟨p, 0, none⟩), u8, u9, u10, u11, u12, u13, u14, u15, u16, u17, u18, u19, u20, u21, u22, u23, u24, v25, v26, v27, v28, v29, v30, v31, v32, v33, v34, v35, v36, v37, v38, v39, v40, v41, v42, v43, v44, v45, v46, v47, v48, v49, v50, v51, v52, v53, v54, v55, v56, v57, v58, v59, .bool false, u61, u62, u63, u64], []⟩ w') :
    Code.wp Tryz.prog R9 Q ⟨#[u0, u1, u2, u3, .int .i64 (j : Int), .slice (some ⟨b, o, none⟩) n lc, .int .i64 (i : Int), .pointer (some ⟨p, 0, none⟩), u8, u9, u10, u11, u12, u13, u14, u15, u16, u17, u18, u19, u20, u21, u22, u23, u24, u25, u26, u27, u28, u29, u30, u31, u32, u33, u34, u35, u36, u37, u38, u39, u40, u41, u42, u43, u44, u45, u46, u47, u48, u49, u50, u51, u52, u53, u54, u55, u56, u57, u58, u59, u60, u61, u62, u63, u64], []⟩ X := by
  conv => arg 2; whnf
  have HP := Lib.hid hP
  have HQ := Lib.hid hQ
  clear hP hQ
  have HDA := Lib.hid (show Below X.heap.size X X.drew from (Below.refl X.heap.size X).drew)
  refine wp_region_held_drew (S := fun u => u.cell? ⟨p, 2, none⟩ = some (.string lo) ∧ u.cell? ⟨p, 3, none⟩ = some (.string hi) ∧ u.cell? ⟨b, o + k * 4 + 3, none⟩ = some (.string ph)) (by kernel_rfl) (by first | exact HKP.out _ hbu | exact HKP.out _ HDA.out) (fun hHeld => ?_)
  refine tkI HP.out 0 (h := ?_)
  refine tkI HP.out 1 (h := ?_)
  try simp only [Act.put, List.setIfInBounds_toArray, List.set_cons_zero, List.set_cons_succ]
  refine tkC 2 (h := fun K hK => ?_)
  go_wp2_with (go_at_call 102; (with_reducible refine (HK1.out _).mono ?_); rintro e w5 ⟨rfl, rfl⟩)
  refine hK.out _ _ (by first | exact HKP.out _ hbu | exact HKP.out _ HDA.out) (fun hHeld => ?_)
  clear hK K
  try simp only [Act.put, List.setIfInBounds_toArray, List.set_cons_zero, List.set_cons_succ]
  refine tkI HP.out 3 (h := ?_)
  refine tkI HP.out 4 (h := ?_)
  refine tkI HP.out 5 (h := ?_)
  try simp only [Act.put, List.setIfInBounds_toArray, List.set_cons_zero, List.set_cons_succ]
  refine tkI HP.out 6 (h := ?_)
  try simp only [Act.put, List.setIfInBounds_toArray, List.set_cons_zero, List.set_cons_succ]
  refine tkC 7 (h := fun K hK => ?_)
  go_wp2_with (go_at_call 102; (with_reducible refine (HK2.out _).mono ?_); rintro e w5 ⟨rfl, rfl⟩)
  refine hK.out _ _ (by first | exact HKP.out _ hbu | exact HKP.out _ HDA.out) (fun hHeld => ?_)
  clear hK K
  refine tkI HP.out 8 (h := ?_)
  try simp only [Act.put, List.setIfInBounds_toArray, List.set_cons_zero, List.set_cons_succ]
  refine tkI HP.out 9 (h := ?_)
  refine tkI HP.out 10 (h := ?_)
  refine tkI HP.out 11 (h := ?_)
  try simp only [Act.put, List.setIfInBounds_toArray, List.set_cons_zero, List.set_cons_succ]
  refine tkI HP.out 12 (h := ?_)
  refine tkI HP.out 13 (h := ?_)
  refine tkI HP.out 14 (h := ?_)
  try simp only [Act.put, List.setIfInBounds_toArray, List.set_cons_zero, List.set_cons_succ]
  refine tkI HP.out 15 (h := ?_)
  refine tkI HP.out 16 (h := ?_)
  refine tkI HP.out 17 (h := ?_)
  try simp only [Act.put, List.setIfInBounds_toArray, List.set_cons_zero, List.set_cons_succ]
  refine tkI HP.out 18 (h := ?_)
  refine tkI HP.out 19 (h := ?_)
  refine tkI HP.out 20 (h := ?_)
  try simp only [Act.put, List.setIfInBounds_toArray, List.set_cons_zero, List.set_cons_succ]
  refine tkO HP.out 21 (h := ?_)
  refine tkO HP.out 22 (h := ?_)
  refine tkI HP.out 23 (h := ?_)
  try simp only [Act.put, List.setIfInBounds_toArray, List.set_cons_zero, List.set_cons_succ]
  refine tkI HP.out 24 (h := ?_)
  refine tkO HP.out 25 (h := ?_)
  refine tkO HP.out 26 (h := ?_)
  try simp only [Act.put, List.setIfInBounds_toArray, List.set_cons_zero, List.set_cons_succ]
  refine tkO HP.out 27 (h := ?_)
  refine tkO HP.out 28 (h := ?_)
  refine tkO HP.out 29 (h := ?_)
  try simp only [Act.put, List.setIfInBounds_toArray, List.set_cons_zero, List.set_cons_succ]
  refine tkO HP.out 30 (h := ?_)
  refine tkO HP.out 31 (h := ?_)
  refine tkO HP.out 32 (h := ?_)
  try simp only [Act.put, List.setIfInBounds_toArray, List.set_cons_zero, List.set_cons_succ]
  refine tkO HP.out 33 (h := ?_)
  refine tkI HP.out 34 (h := ?_)
  refine tkI HP.out 35 (h := ?_)
  try simp only [Act.put, List.setIfInBounds_toArray, List.set_cons_zero, List.set_cons_succ]
  try simp only [Act.put, List.setIfInBounds_toArray, List.set_cons_zero, List.set_cons_succ]
  refine wpAnyH_done (by kernel_rfl) ?_ _
  first | exact HQ.out _ _ _ _ _ _ _ _ _ _ _ _ _ _ _ _ _ _ _ _ _ _ _ _ _ _ _ _ _ _ _ _ _ _ _ _ hbu | exact HQ.out _ _ _ _ _ _ _ _ _ _ _ _ _ _ _ _ _ _ _ _ _ _ _ _ _ _ _ _ _ _ _ _ _ _ _ _ HDA.out
set_option maxRecDepth 100000 in
set_option maxHeartbeats 1000000 in
theorem may9_E {p b o n lc i j k : Nat} {lo hi ph : ByteArray} {X : World} {u0 u1 u2 u3 u8 u9 u10 u11 u12 u13 u14 u15 u16 u17 u18 u19 u20 u21 u22 u23 u24 u25 u26 u27 u28 u29 u30 u31 u32 u33 u34 u35 u36 u37 u38 u39 u40 u41 u42 u43 u44 u45 u46 u47 u48 u49 u50 u51 u52 u53 u54 u55 u56 u57 u58 u59 u60 u61 u62 u63 u64 : Value} {Q : Exit → Act → World → Prop}
    (HKP : Hid (∀ u, Below X.heap.size X u → u.cell? ⟨p, 2, none⟩ = some (.string lo) ∧ u.cell? ⟨p, 3, none⟩ = some (.string hi) ∧ u.cell? ⟨b, o + k * 4 + 3, none⟩ = some (.string ph)))
    (HK1 : Hid (∀ u, Calls Tryz.prog (102) #[.string lo] u fun e w' => e = .returned (.bool true) ∧ w' = u))
    (HK2 : Hid (∀ u, Calls Tryz.prog (102) #[.string hi] u fun e w' => e = .returned (.bool true) ∧ w' = u))
    (e f : Bool) (he : Op.bytesLess lo.toList hi.toList = e) (hf : (lo.toList == hi.toList) = f) (hef : (!e && !f) = false)
    (h0j : 0 < j) (dj : decide ((0 : Int) < (j : Int)) = true)
    (h0i : ¬ 0 < i) (di : decide ((0 : Int) < (i : Int)) = false)
    (hP : ∀ ch a a' w', a'.defers = a.defers → Q (.panic ch) a w' → Q (.panic ch) a' w')
    (hQ : ∀ (v25 v26 v27 v28 v29 v30 v31 v32 v33 v34 v35 v36 v37 v38 v39 v40 v41 v42 v43 v44 v45 v46 v47 v48 v49 v50 v51 v52 v53 v54 v55 v56 v57 v58 v59 : Value) (w' : World), Below X.heap.size X w' → Q .normal ⟨#[u0, u1, u2, u3, .int .i64 (j : Int), .slice (some ⟨b, o, none⟩) n lc, .int .i64 (i : Int), .pointer (some ⟨p, 0, none⟩), u8, u9, u10, u11, u12, u13, u14, u15, u16, u17, u18, u19, u20, u21, u22, u23, u24, v25, v26, v27, v28, v29, v30, v31, v32, v33, v34, v35, v36, v37, v38, v39, v40, v41, v42, v43, v44, v45, v46, v47, v48, v49, v50, v51, v52, v53, v54, v55, v56, v57, v58, v59, .bool false, u61, u62, u63, u64], []⟩ w') :
    Code.wp Tryz.prog R9 Q ⟨#[u0, u1, u2, u3, .int .i64 (j : Int), .slice (some ⟨b, o, none⟩) n lc, .int .i64 (i : Int), .pointer (some ⟨p, 0, none⟩), u8, u9, u10, u11, u12, u13, u14, u15, u16, u17, u18, u19, u20, u21, u22, u23, u24, u25, u26, u27, u28, u29, u30, u31, u32, u33, u34, u35, u36, u37, u38, u39, u40, u41, u42, u43, u44, u45, u46, u47, u48, u49, u50, u51, u52, u53, u54, u55, u56, u57, u58, u59, u60, u61, u62, u63, u64], []⟩ X := by
  conv => arg 2; whnf
  have HP := Lib.hid hP
  have HQ := Lib.hid hQ
  clear hP hQ
  have HDA := Lib.hid (show Below X.heap.size X X.drew from (Below.refl X.heap.size X).drew)
  refine wp_region_held_drew (S := fun u => u.cell? ⟨p, 2, none⟩ = some (.string lo) ∧ u.cell? ⟨p, 3, none⟩ = some (.string hi) ∧ u.cell? ⟨b, o + k * 4 + 3, none⟩ = some (.string ph)) (by kernel_rfl) (by first | exact HKP.out _ hbu | exact HKP.out _ HDA.out) (fun hHeld => ?_)
  refine tkI HP.out 0 (h := ?_)
  refine tkI HP.out 1 (h := ?_)
  try simp only [Act.put, List.setIfInBounds_toArray, List.set_cons_zero, List.set_cons_succ]
  refine tkC 2 (h := fun K hK => ?_)
  go_wp2_with (go_at_call 102; (with_reducible refine (HK1.out _).mono ?_); rintro e w5 ⟨rfl, rfl⟩)
  refine hK.out _ _ (by first | exact HKP.out _ hbu | exact HKP.out _ HDA.out) (fun hHeld => ?_)
  clear hK K
  try simp only [Act.put, List.setIfInBounds_toArray, List.set_cons_zero, List.set_cons_succ]
  refine tkI HP.out 3 (h := ?_)
  refine tkI HP.out 4 (h := ?_)
  refine tkI HP.out 5 (h := ?_)
  try simp only [Act.put, List.setIfInBounds_toArray, List.set_cons_zero, List.set_cons_succ]
  refine tkI HP.out 6 (h := ?_)
  try simp only [Act.put, List.setIfInBounds_toArray, List.set_cons_zero, List.set_cons_succ]
  refine tkC 7 (h := fun K hK => ?_)
  go_wp2_with (go_at_call 102; (with_reducible refine (HK2.out _).mono ?_); rintro e w5 ⟨rfl, rfl⟩)
  refine hK.out _ _ (by first | exact HKP.out _ hbu | exact HKP.out _ HDA.out) (fun hHeld => ?_)
  clear hK K
  refine tkI HP.out 8 (h := ?_)
  try simp only [Act.put, List.setIfInBounds_toArray, List.set_cons_zero, List.set_cons_succ]
  refine tkI HP.out 9 (h := ?_)
  refine tkI HP.out 10 (h := ?_)
  refine tkI HP.out 11 (h := ?_)
  try simp only [Act.put, List.setIfInBounds_toArray, List.set_cons_zero, List.set_cons_succ]
  refine tkI HP.out 12 (h := ?_)
  refine tkI HP.out 13 (h := ?_)
  refine tkI HP.out 14 (h := ?_)
  try simp only [Act.put, List.setIfInBounds_toArray, List.set_cons_zero, List.set_cons_succ]
  refine tkI HP.out 15 (h := ?_)
  refine tkI HP.out 16 (h := ?_)
  refine tkI HP.out 17 (h := ?_)
  try simp only [Act.put, List.setIfInBounds_toArray, List.set_cons_zero, List.set_cons_succ]
  refine tkI HP.out 18 (h := ?_)
  refine tkI HP.out 19 (h := ?_)
  refine tkI HP.out 20 (h := ?_)
  try simp only [Act.put, List.setIfInBounds_toArray, List.set_cons_zero, List.set_cons_succ]
  refine tkI HP.out 21 (h := ?_)
  refine tkI HP.out 22 (h := ?_)
  refine tkI HP.out 23 (h := ?_)
  try simp only [Act.put, List.setIfInBounds_toArray, List.set_cons_zero, List.set_cons_succ]
  refine tkI HP.out 24 (h := ?_)
  refine tkO HP.out 25 (h := ?_)
  refine tkO HP.out 26 (h := ?_)
  try simp only [Act.put, List.setIfInBounds_toArray, List.set_cons_zero, List.set_cons_succ]
  refine tkO HP.out 27 (h := ?_)
  refine tkO HP.out 28 (h := ?_)
  refine tkO HP.out 29 (h := ?_)
  try simp only [Act.put, List.setIfInBounds_toArray, List.set_cons_zero, List.set_cons_succ]
  refine tkO HP.out 30 (h := ?_)
  refine tkO HP.out 31 (h := ?_)
  refine tkO HP.out 32 (h := ?_)
  try simp only [Act.put, List.setIfInBounds_toArray, List.set_cons_zero, List.set_cons_succ]
  refine tkO HP.out 33 (h := ?_)
  refine tkI HP.out 34 (h := ?_)
  refine tkI HP.out 35 (h := ?_)
  try simp only [Act.put, List.setIfInBounds_toArray, List.set_cons_zero, List.set_cons_succ]
  try simp only [Act.put, List.setIfInBounds_toArray, List.set_cons_zero, List.set_cons_succ]
  refine wpAnyH_done (by kernel_rfl) ?_ _
  first | exact HQ.out _ _ _ _ _ _ _ _ _ _ _ _ _ _ _ _ _ _ _ _ _ _ _ _ _ _ _ _ _ _ _ _ _ _ _ _ hbu | exact HQ.out _ _ _ _ _ _ _ _ _ _ _ _ _ _ _ _ _ _ _ _ _ _ _ _ _ _ _ _ _ _ _ _ _ _ _ _ HDA.out
set_option maxRecDepth 100000 in
set_option maxHeartbeats 1000000 in
theorem may9_F {p b o n lc i j k : Nat} {lo hi ph : ByteArray} {X : World} {u0 u1 u2 u3 u8 u9 u10 u11 u12 u13 u14 u15 u16 u17 u18 u19 u20 u21 u22 u23 u24 u25 u26 u27 u28 u29 u30 u31 u32 u33 u34 u35 u36 u37 u38 u39 u40 u41 u42 u43 u44 u45 u46 u47 u48 u49 u50 u51 u52 u53 u54 u55 u56 u57 u58 u59 u60 u61 u62 u63 u64 : Value} {Q : Exit → Act → World → Prop}
    (HKP : Hid (∀ u, Below X.heap.size X u → u.cell? ⟨p, 2, none⟩ = some (.string lo) ∧ u.cell? ⟨p, 3, none⟩ = some (.string hi) ∧ u.cell? ⟨b, o + k * 4 + 3, none⟩ = some (.string ph)))
    (HK1 : Hid (∀ u, Calls Tryz.prog (102) #[.string lo] u fun e w' => e = .returned (.bool true) ∧ w' = u))
    (HK2 : Hid (∀ u, Calls Tryz.prog (102) #[.string hi] u fun e w' => e = .returned (.bool true) ∧ w' = u))
    (e f : Bool) (he : Op.bytesLess lo.toList hi.toList = e) (hf : (lo.toList == hi.toList) = f) (hef : (!e && !f) = false)
    (h0j : 0 < j) (dj : decide ((0 : Int) < (j : Int)) = true)
    (h0i : 0 < i) (di : decide ((0 : Int) < (i : Int)) = true)
    (hwk : IntKind.i64.wrap ((i : Int) - 1) = (k : Int)) (hk0 : (0 : Int) ≤ (k : Int)) (hk1 : (k : Int) < (n : Int))
    (g : Bool) (hg : Op.bytesLess ph.toList lo.toList = g)
    (hP : ∀ ch a a' w', a'.defers = a.defers → Q (.panic ch) a w' → Q (.panic ch) a' w')
    (hQ : ∀ (v25 v26 v27 v28 v29 v30 v31 v32 v33 v34 v35 v36 v37 v38 v39 v40 v41 v42 v43 v44 v45 v46 v47 v48 v49 v50 v51 v52 v53 v54 v55 v56 v57 v58 v59 : Value) (w' : World), Below X.heap.size X w' → Q .normal ⟨#[u0, u1, u2, u3, .int .i64 (j : Int), .slice (some ⟨b, o, none⟩) n lc, .int .i64 (i : Int), .pointer (some ⟨p, 0, none⟩), u8, u9, u10, u11, u12, u13, u14, u15, u16, u17, u18, u19, u20, u21, u22, u23, u24, v25, v26, v27, v28, v29, v30, v31, v32, v33, v34, v35, v36, v37, v38, v39, v40, v41, v42, v43, v44, v45, v46, v47, v48, v49, v50, v51, v52, v53, v54, v55, v56, v57, v58, v59, .bool (!g), u61, u62, u63, u64], []⟩ w') :
    Code.wp Tryz.prog R9 Q ⟨#[u0, u1, u2, u3, .int .i64 (j : Int), .slice (some ⟨b, o, none⟩) n lc, .int .i64 (i : Int), .pointer (some ⟨p, 0, none⟩), u8, u9, u10, u11, u12, u13, u14, u15, u16, u17, u18, u19, u20, u21, u22, u23, u24, u25, u26, u27, u28, u29, u30, u31, u32, u33, u34, u35, u36, u37, u38, u39, u40, u41, u42, u43, u44, u45, u46, u47, u48, u49, u50, u51, u52, u53, u54, u55, u56, u57, u58, u59, u60, u61, u62, u63, u64], []⟩ X := by
  conv => arg 2; whnf
  have HP := Lib.hid hP
  have HQ := Lib.hid hQ
  clear hP hQ
  have HDA := Lib.hid (show Below X.heap.size X X.drew from (Below.refl X.heap.size X).drew)
  refine wp_region_held_drew (S := fun u => u.cell? ⟨p, 2, none⟩ = some (.string lo) ∧ u.cell? ⟨p, 3, none⟩ = some (.string hi) ∧ u.cell? ⟨b, o + k * 4 + 3, none⟩ = some (.string ph)) (by kernel_rfl) (by first | exact HKP.out _ hbu | exact HKP.out _ HDA.out) (fun hHeld => ?_)
  refine tkI HP.out 0 (h := ?_)
  refine tkI HP.out 1 (h := ?_)
  try simp only [Act.put, List.setIfInBounds_toArray, List.set_cons_zero, List.set_cons_succ]
  refine tkC 2 (h := fun K hK => ?_)
  go_wp2_with (go_at_call 102; (with_reducible refine (HK1.out _).mono ?_); rintro e w5 ⟨rfl, rfl⟩)
  refine hK.out _ _ (by first | exact HKP.out _ hbu | exact HKP.out _ HDA.out) (fun hHeld => ?_)
  clear hK K
  try simp only [Act.put, List.setIfInBounds_toArray, List.set_cons_zero, List.set_cons_succ]
  refine tkI HP.out 3 (h := ?_)
  refine tkI HP.out 4 (h := ?_)
  refine tkI HP.out 5 (h := ?_)
  try simp only [Act.put, List.setIfInBounds_toArray, List.set_cons_zero, List.set_cons_succ]
  refine tkI HP.out 6 (h := ?_)
  try simp only [Act.put, List.setIfInBounds_toArray, List.set_cons_zero, List.set_cons_succ]
  refine tkC 7 (h := fun K hK => ?_)
  go_wp2_with (go_at_call 102; (with_reducible refine (HK2.out _).mono ?_); rintro e w5 ⟨rfl, rfl⟩)
  refine hK.out _ _ (by first | exact HKP.out _ hbu | exact HKP.out _ HDA.out) (fun hHeld => ?_)
  clear hK K
  refine tkI HP.out 8 (h := ?_)
  try simp only [Act.put, List.setIfInBounds_toArray, List.set_cons_zero, List.set_cons_succ]
  refine tkI HP.out 9 (h := ?_)
  refine tkI HP.out 10 (h := ?_)
  refine tkI HP.out 11 (h := ?_)
  try simp only [Act.put, List.setIfInBounds_toArray, List.set_cons_zero, List.set_cons_succ]
  refine tkI HP.out 12 (h := ?_)
  refine tkI HP.out 13 (h := ?_)
  refine tkI HP.out 14 (h := ?_)
  try simp only [Act.put, List.setIfInBounds_toArray, List.set_cons_zero, List.set_cons_succ]
  refine tkI HP.out 15 (h := ?_)
  refine tkI HP.out 16 (h := ?_)
  refine tkI HP.out 17 (h := ?_)
  try simp only [Act.put, List.setIfInBounds_toArray, List.set_cons_zero, List.set_cons_succ]
  refine tkI HP.out 18 (h := ?_)
  refine tkI HP.out 19 (h := ?_)
  refine tkI HP.out 20 (h := ?_)
  try simp only [Act.put, List.setIfInBounds_toArray, List.set_cons_zero, List.set_cons_succ]
  refine tkI HP.out 21 (h := ?_)
  refine tkI HP.out 22 (h := ?_)
  refine tkI HP.out 23 (h := ?_)
  try simp only [Act.put, List.setIfInBounds_toArray, List.set_cons_zero, List.set_cons_succ]
  refine tkI HP.out 24 (h := ?_)
  refine tkI HP.out 25 (h := ?_)
  refine tkI HP.out 26 (h := ?_)
  try simp only [Act.put, List.setIfInBounds_toArray, List.set_cons_zero, List.set_cons_succ]
  refine tkI HP.out 27 (h := ?_)
  refine tkI HP.out 28 (h := ?_)
  refine tkI HP.out 29 (h := ?_)
  try simp only [Act.put, List.setIfInBounds_toArray, List.set_cons_zero, List.set_cons_succ]
  refine tkI HP.out 30 (h := ?_)
  refine tkI HP.out 31 (h := ?_)
  refine tkI HP.out 32 (h := ?_)
  try simp only [Act.put, List.setIfInBounds_toArray, List.set_cons_zero, List.set_cons_succ]
  refine tkI HP.out 33 (h := ?_)
  refine tkI HP.out 34 (h := ?_)
  refine tkI HP.out 35 (h := ?_)
  try simp only [Act.put, List.setIfInBounds_toArray, List.set_cons_zero, List.set_cons_succ]
  try simp only [Act.put, List.setIfInBounds_toArray, List.set_cons_zero, List.set_cons_succ]
  refine wpAnyH_done (by kernel_rfl) ?_ _
  first | exact HQ.out _ _ _ _ _ _ _ _ _ _ _ _ _ _ _ _ _ _ _ _ _ _ _ _ _ _ _ _ _ _ _ _ _ _ _ _ hbu | exact HQ.out _ _ _ _ _ _ _ _ _ _ _ _ _ _ _ _ _ _ _ _ _ _ _ _ _ _ _ _ _ _ _ _ _ _ _ _ HDA.out
end Mf
end Go.Proofs.YtchcelodeepjdaaGreatDoor.Ln
