/- manifests.shelved: its round's test, arm by arm. No condition. -/
import Derived.Test.YtchcelodeepjdaaGreatDoorLN9b
import Derived.Test.YtchcelodeepjdaaGreatDoorU2a
import Derived.Sort.Walk0
import Derived.Deep.RegionHeld3
namespace Go.Proofs.YtchcelodeepjdaaGreatDoor.Ln
open Go.RowKit Go.Herb
namespace Mf
noncomputable def R5 : Code := ((Tryz.f36.body.bind (regionAt 5)).getD .skip)
set_option maxRecDepth 100000 in
set_option maxHeartbeats 1000000 in
theorem shl5_A {p p0 b o n sc i k n0 n1 n2 c0 c1 c2 : Nat} {line pl : Int} {a0 a1 a2 : Option Addr} {X : World} {u0 u2 u3 u6 u7 u8 u9 u10 u11 u12 u13 u14 u15 u16 u17 u18 u19 u20 u21 u22 u23 u24 u25 u26 u27 u28 u29 u30 u31 u32 u33 u34 u35 u36 u37 u38 u39 u40 u41 u42 u43 u44 u45 u46 u47 u48 u49 u50 u51 u52 u53 u54 u55 u56 u57 u58 u59 u60 u61 u62 u63 u64 u65 u66 u67 u68 : Value} {Q : Exit → Act → World → Prop}
    (HKP : Hid (∀ u, Below X.heap.size X u → u.cell? ⟨p, 0, none⟩ = some (.int .u64 line) ∧ u.cell? ⟨p, 1, none⟩ = some (.slice a0 n0 c0) ∧ u.cell? ⟨p, 2, none⟩ = some (.slice a1 n1 c1) ∧ u.cell? ⟨p, 3, none⟩ = some (.slice a2 n2 c2) ∧ u.cell? ⟨p0, 6, none⟩ = some (.slice (some ⟨b, o, none⟩) n sc) ∧ u.cell? ⟨b, o + k * 4, none⟩ = some (.int .u64 pl)))
    (HM : Hid (∀ u, Below X.heap.size X u → Calls Tryz.prog (77) #[.agg #[.int .u64 line, .slice a0 n0 c0, .slice a1 n1 c1, .slice a2 n2 c2]] u fun e w' => e = .returned (.bool false) ∧ Below u.heap.size u w'))
    (hP : ∀ ch a a' w', a'.defers = a.defers → Q (.panic ch) a w' → Q (.panic ch) a' w')
    (hQ : ∀ (v19 v20 v21 v22 v23 v24 v25 v26 v27 v28 v29 v30 v31 v32 v33 v34 v35 v36 : Value) (w' : World), Below X.heap.size X w' → Q .normal ⟨#[u0, .pointer (some ⟨p0, 0, none⟩), u2, u3, .int .i64 (i : Int), .pointer (some ⟨p, 0, none⟩), u6, u7, u8, u9, u10, u11, u12, u13, u14, u15, u16, u17, u18, v19, v20, v21, v22, v23, v24, v25, v26, v27, v28, v29, v30, v31, v32, v33, v34, v35, v36, .bool true, u38, u39, u40, u41, u42, u43, u44, u45, u46, u47, u48, u49, u50, u51, u52, u53, u54, u55, u56, u57, u58, u59, u60, u61, u62, u63, u64, u65, u66, u67, u68], []⟩ w') :
    Code.wp Tryz.prog R5 Q ⟨#[u0, .pointer (some ⟨p0, 0, none⟩), u2, u3, .int .i64 (i : Int), .pointer (some ⟨p, 0, none⟩), u6, u7, u8, u9, u10, u11, u12, u13, u14, u15, u16, u17, u18, u19, u20, u21, u22, u23, u24, u25, u26, u27, u28, u29, u30, u31, u32, u33, u34, u35, u36, u37, u38, u39, u40, u41, u42, u43, u44, u45, u46, u47, u48, u49, u50, u51, u52, u53, u54, u55, u56, u57, u58, u59, u60, u61, u62, u63, u64, u65, u66, u67, u68], []⟩ X := by
  conv => arg 2; whnf
  have HP := Lib.hid hP
  have HQ := Lib.hid hQ
  clear hP hQ
  have HDA := Lib.hid (show Below X.heap.size X X.drew from (Below.refl X.heap.size X).drew)
  refine wp_region_held_drew (S := fun u => u.cell? ⟨p, 0, none⟩ = some (.int .u64 line) ∧ u.cell? ⟨p, 1, none⟩ = some (.slice a0 n0 c0) ∧ u.cell? ⟨p, 2, none⟩ = some (.slice a1 n1 c1) ∧ u.cell? ⟨p, 3, none⟩ = some (.slice a2 n2 c2) ∧ u.cell? ⟨p0, 6, none⟩ = some (.slice (some ⟨b, o, none⟩) n sc) ∧ u.cell? ⟨b, o + k * 4, none⟩ = some (.int .u64 pl)) (by kernel_rfl) (by first | exact HKP.out _ hbu | exact HKP.out _ HDA.out) (fun hHeld => ?_)
  refine tkI HP.out 0 (h := ?_)
  try simp only [Act.put, List.setIfInBounds_toArray, List.set_cons_zero, List.set_cons_succ]
  refine tkC 1 (h := fun K hK => ?_)
  go_wp2_with (go_at_call 77; (with_reducible refine (HM.out _ HDA.out).mono ?_); rintro e w5 ⟨rfl, hb5⟩; have hbu := HDA.out.trans (hb5.mono HDA.out.size))
  refine hK.out _ _ (by first | exact HKP.out _ hbu | exact HKP.out _ HDA.out) (fun hHeld => ?_)
  clear hK K
  refine tkI HP.out 2 (h := ?_)
  try simp only [Act.put, List.setIfInBounds_toArray, List.set_cons_zero, List.set_cons_succ]
  refine tkI HP.out 3 (h := ?_)
  refine tkO HP.out 4 (h := ?_)
  refine tkO HP.out 5 (h := ?_)
  try simp only [Act.put, List.setIfInBounds_toArray, List.set_cons_zero, List.set_cons_succ]
  refine tkO HP.out 6 (h := ?_)
  refine tkO HP.out 7 (h := ?_)
  refine tkO HP.out 8 (h := ?_)
  try simp only [Act.put, List.setIfInBounds_toArray, List.set_cons_zero, List.set_cons_succ]
  refine tkO HP.out 9 (h := ?_)
  refine tkO HP.out 10 (h := ?_)
  refine tkO HP.out 11 (h := ?_)
  try simp only [Act.put, List.setIfInBounds_toArray, List.set_cons_zero, List.set_cons_succ]
  refine tkO HP.out 12 (h := ?_)
  refine tkO HP.out 13 (h := ?_)
  refine tkO HP.out 14 (h := ?_)
  try simp only [Act.put, List.setIfInBounds_toArray, List.set_cons_zero, List.set_cons_succ]
  refine tkO HP.out 15 (h := ?_)
  refine tkO HP.out 16 (h := ?_)
  refine tkO HP.out 17 (h := ?_)
  try simp only [Act.put, List.setIfInBounds_toArray, List.set_cons_zero, List.set_cons_succ]
  refine tkI HP.out 18 (h := ?_)
  try simp only [Act.put, List.setIfInBounds_toArray, List.set_cons_zero, List.set_cons_succ]
  refine wpAnyH_done (by kernel_rfl) ?_ _
  first | exact HQ.out _ _ _ _ _ _ _ _ _ _ _ _ _ _ _ _ _ _ _ hbu | exact HQ.out _ _ _ _ _ _ _ _ _ _ _ _ _ _ _ _ _ _ _ HDA.out
set_option maxRecDepth 100000 in
set_option maxHeartbeats 1000000 in
theorem shl5_B {p p0 b o n sc i k n0 n1 n2 c0 c1 c2 : Nat} {line pl : Int} {a0 a1 a2 : Option Addr} {X : World} {u0 u2 u3 u6 u7 u8 u9 u10 u11 u12 u13 u14 u15 u16 u17 u18 u19 u20 u21 u22 u23 u24 u25 u26 u27 u28 u29 u30 u31 u32 u33 u34 u35 u36 u37 u38 u39 u40 u41 u42 u43 u44 u45 u46 u47 u48 u49 u50 u51 u52 u53 u54 u55 u56 u57 u58 u59 u60 u61 u62 u63 u64 u65 u66 u67 u68 : Value} {Q : Exit → Act → World → Prop}
    (HKP : Hid (∀ u, Below X.heap.size X u → u.cell? ⟨p, 0, none⟩ = some (.int .u64 line) ∧ u.cell? ⟨p, 1, none⟩ = some (.slice a0 n0 c0) ∧ u.cell? ⟨p, 2, none⟩ = some (.slice a1 n1 c1) ∧ u.cell? ⟨p, 3, none⟩ = some (.slice a2 n2 c2) ∧ u.cell? ⟨p0, 6, none⟩ = some (.slice (some ⟨b, o, none⟩) n sc) ∧ u.cell? ⟨b, o + k * 4, none⟩ = some (.int .u64 pl)))
    (HM : Hid (∀ u, Below X.heap.size X u → Calls Tryz.prog (77) #[.agg #[.int .u64 line, .slice a0 n0 c0, .slice a1 n1 c1, .slice a2 n2 c2]] u fun e w' => e = .returned (.bool true) ∧ Below u.heap.size u w'))
    (h0i : ¬ 0 < i) (di : decide ((0 : Int) < (i : Int)) = false)
    (hP : ∀ ch a a' w', a'.defers = a.defers → Q (.panic ch) a w' → Q (.panic ch) a' w')
    (hQ : ∀ (v19 v20 v21 v22 v23 v24 v25 v26 v27 v28 v29 v30 v31 v32 v33 v34 v35 v36 : Value) (w' : World), Below X.heap.size X w' → Q .normal ⟨#[u0, .pointer (some ⟨p0, 0, none⟩), u2, u3, .int .i64 (i : Int), .pointer (some ⟨p, 0, none⟩), u6, u7, u8, u9, u10, u11, u12, u13, u14, u15, u16, u17, u18, v19, v20, v21, v22, v23, v24, v25, v26, v27, v28, v29, v30, v31, v32, v33, v34, v35, v36, .bool false, u38, u39, u40, u41, u42, u43, u44, u45, u46, u47, u48, u49, u50, u51, u52, u53, u54, u55, u56, u57, u58, u59, u60, u61, u62, u63, u64, u65, u66, u67, u68], []⟩ w') :
    Code.wp Tryz.prog R5 Q ⟨#[u0, .pointer (some ⟨p0, 0, none⟩), u2, u3, .int .i64 (i : Int), .pointer (some ⟨p, 0, none⟩), u6, u7, u8, u9, u10, u11, u12, u13, u14, u15, u16, u17, u18, u19, u20, u21, u22, u23, u24, u25, u26, u27, u28, u29, u30, u31, u32, u33, u34, u35, u36, u37, u38, u39, u40, u41, u42, u43, u44, u45, u46, u47, u48, u49, u50, u51, u52, u53, u54, u55, u56, u57, u58, u59, u60, u61, u62, u63, u64, u65, u66, u67, u68], []⟩ X := by
  conv => arg 2; whnf
  have HP := Lib.hid hP
  have HQ := Lib.hid hQ
  clear hP hQ
  have HDA := Lib.hid (show Below X.heap.size X X.drew from (Below.refl X.heap.size X).drew)
  refine wp_region_held_drew (S := fun u => u.cell? ⟨p, 0, none⟩ = some (.int .u64 line) ∧ u.cell? ⟨p, 1, none⟩ = some (.slice a0 n0 c0) ∧ u.cell? ⟨p, 2, none⟩ = some (.slice a1 n1 c1) ∧ u.cell? ⟨p, 3, none⟩ = some (.slice a2 n2 c2) ∧ u.cell? ⟨p0, 6, none⟩ = some (.slice (some ⟨b, o, none⟩) n sc) ∧ u.cell? ⟨b, o + k * 4, none⟩ = some (.int .u64 pl)) (by kernel_rfl) (by first | exact HKP.out _ hbu | exact HKP.out _ HDA.out) (fun hHeld => ?_)
  refine tkI HP.out 0 (h := ?_)
  try simp only [Act.put, List.setIfInBounds_toArray, List.set_cons_zero, List.set_cons_succ]
  refine tkC 1 (h := fun K hK => ?_)
  go_wp2_with (go_at_call 77; (with_reducible refine (HM.out _ HDA.out).mono ?_); rintro e w5 ⟨rfl, hb5⟩; have hbu := HDA.out.trans (hb5.mono HDA.out.size))
  refine hK.out _ _ (by first | exact HKP.out _ hbu | exact HKP.out _ HDA.out) (fun hHeld => ?_)
  clear hK K
  refine tkI HP.out 2 (h := ?_)
  try simp only [Act.put, List.setIfInBounds_toArray, List.set_cons_zero, List.set_cons_succ]
  refine tkI HP.out 3 (h := ?_)
  refine tkI HP.out 4 (h := ?_)
  refine tkI HP.out 5 (h := ?_)
  try simp only [Act.put, List.setIfInBounds_toArray, List.set_cons_zero, List.set_cons_succ]
  refine tkI HP.out 6 (h := ?_)
  refine tkO HP.out 7 (h := ?_)
  refine tkO HP.out 8 (h := ?_)
  try simp only [Act.put, List.setIfInBounds_toArray, List.set_cons_zero, List.set_cons_succ]
  refine tkO HP.out 9 (h := ?_)
  refine tkO HP.out 10 (h := ?_)
  refine tkO HP.out 11 (h := ?_)
  try simp only [Act.put, List.setIfInBounds_toArray, List.set_cons_zero, List.set_cons_succ]
  refine tkO HP.out 12 (h := ?_)
  refine tkO HP.out 13 (h := ?_)
  refine tkO HP.out 14 (h := ?_)
  try simp only [Act.put, List.setIfInBounds_toArray, List.set_cons_zero, List.set_cons_succ]
  refine tkO HP.out 15 (h := ?_)
  refine tkO HP.out 16 (h := ?_)
  refine tkI HP.out 17 (h := ?_)
  try simp only [Act.put, List.setIfInBounds_toArray, List.set_cons_zero, List.set_cons_succ]
  refine tkI HP.out 18 (h := ?_)
  try simp only [Act.put, List.setIfInBounds_toArray, List.set_cons_zero, List.set_cons_succ]
  refine wpAnyH_done (by kernel_rfl) ?_ _
  first | exact HQ.out _ _ _ _ _ _ _ _ _ _ _ _ _ _ _ _ _ _ _ hbu | exact HQ.out _ _ _ _ _ _ _ _ _ _ _ _ _ _ _ _ _ _ _ HDA.out
set_option maxRecDepth 100000 in
set_option maxHeartbeats 1000000 in
theorem shl5_C {p p0 b o n sc i k n0 n1 n2 c0 c1 c2 : Nat} {line pl : Int} {a0 a1 a2 : Option Addr} {X : World} {u0 u2 u3 u6 u7 u8 u9 u10 u11 u12 u13 u14 u15 u16 u17 u18 u19 u20 u21 u22 u23 u24 u25 u26 u27 u28 u29 u30 u31 u32 u33 u34 u35 u36 u37 u38 u39 u40 u41 u42 u43 u44 u45 u46 u47 u48 u49 u50 u51 u52 u53 u54 u55 u56 u57 u58 u59 u60 u61 u62 u63 u64 u65 u66 u67 u68 : Value} {Q : Exit → Act → World → Prop}
    (HKP : Hid (∀ u, Below X.heap.size X u → u.cell? ⟨p, 0, none⟩ = some (.int .u64 line) ∧ u.cell? ⟨p, 1, none⟩ = some (.slice a0 n0 c0) ∧ u.cell? ⟨p, 2, none⟩ = some (.slice a1 n1 c1) ∧ u.cell? ⟨p, 3, none⟩ = some (.slice a2 n2 c2) ∧ u.cell? ⟨p0, 6, none⟩ = some (.slice (some ⟨b, o, none⟩) n sc) ∧ u.cell? ⟨b, o + k * 4, none⟩ = some (.int .u64 pl)))
    (HM : Hid (∀ u, Below X.heap.size X u → Calls Tryz.prog (77) #[.agg #[.int .u64 line, .slice a0 n0 c0, .slice a1 n1 c1, .slice a2 n2 c2]] u fun e w' => e = .returned (.bool true) ∧ Below u.heap.size u w'))
    (h0i : 0 < i) (di : decide ((0 : Int) < (i : Int)) = true)
    (hwk : IntKind.i64.wrap ((i : Int) - 1) = (k : Int)) (hk0 : (0 : Int) ≤ (k : Int)) (hk1 : (k : Int) < (n : Int))
    (g : Bool) (hg : decide (line ≤ pl) = g)
    (hP : ∀ ch a a' w', a'.defers = a.defers → Q (.panic ch) a w' → Q (.panic ch) a' w')
    (hQ : ∀ (v19 v20 v21 v22 v23 v24 v25 v26 v27 v28 v29 v30 v31 v32 v33 v34 v35 v36 : Value) (w' : World), Below X.heap.size X w' → Q .normal ⟨#[u0, .pointer (some ⟨p0, 0, none⟩), u2, u3, .int .i64 (i : Int), .pointer (some ⟨p, 0, none⟩), u6, u7, u8, u9, u10, u11, u12, u13, u14, u15, u16, u17, u18, v19, v20, v21, v22, v23, v24, v25, v26, v27, v28, v29, v30, v31, v32, v33, v34, v35, v36, .bool g, u38, u39, u40, u41, u42, u43, u44, u45, u46, u47, u48, u49, u50, u51, u52, u53, u54, u55, u56, u57, u58, u59, u60, u61, u62, u63, u64, u65, u66, u67, u68], []⟩ w') :
    Code.wp Tryz.prog R5 Q ⟨#[u0, .pointer (some ⟨p0, 0, none⟩), u2, u3, .int .i64 (i : Int), .pointer (some ⟨p, 0, none⟩), u6, u7, u8, u9, u10, u11, u12, u13, u14, u15, u16, u17, u18, u19, u20, u21, u22, u23, u24, u25, u26, u27, u28, u29, u30, u31, u32, u33, u34, u35, u36, u37, u38, u39, u40, u41, u42, u43, u44, u45, u46, u47, u48, u49, u50, u51, u52, u53, u54, u55, u56, u57, u58, u59, u60, u61, u62, u63, u64, u65, u66, u67, u68], []⟩ X := by
  conv => arg 2; whnf
  have HP := Lib.hid hP
  have HQ := Lib.hid hQ
  clear hP hQ
  have HDA := Lib.hid (show Below X.heap.size X X.drew from (Below.refl X.heap.size X).drew)
  refine wp_region_held_drew (S := fun u => u.cell? ⟨p, 0, none⟩ = some (.int .u64 line) ∧ u.cell? ⟨p, 1, none⟩ = some (.slice a0 n0 c0) ∧ u.cell? ⟨p, 2, none⟩ = some (.slice a1 n1 c1) ∧ u.cell? ⟨p, 3, none⟩ = some (.slice a2 n2 c2) ∧ u.cell? ⟨p0, 6, none⟩ = some (.slice (some ⟨b, o, none⟩) n sc) ∧ u.cell? ⟨b, o + k * 4, none⟩ = some (.int .u64 pl)) (by kernel_rfl) (by first | exact HKP.out _ hbu | exact HKP.out _ HDA.out) (fun hHeld => ?_)
  refine tkI HP.out 0 (h := ?_)
  try simp only [Act.put, List.setIfInBounds_toArray, List.set_cons_zero, List.set_cons_succ]
  refine tkC 1 (h := fun K hK => ?_)
  go_wp2_with (go_at_call 77; (with_reducible refine (HM.out _ HDA.out).mono ?_); rintro e w5 ⟨rfl, hb5⟩; have hbu := HDA.out.trans (hb5.mono HDA.out.size))
  refine hK.out _ _ (by first | exact HKP.out _ hbu | exact HKP.out _ HDA.out) (fun hHeld => ?_)
  clear hK K
  refine tkI HP.out 2 (h := ?_)
  try simp only [Act.put, List.setIfInBounds_toArray, List.set_cons_zero, List.set_cons_succ]
  refine tkI HP.out 3 (h := ?_)
  refine tkI HP.out 4 (h := ?_)
  refine tkI HP.out 5 (h := ?_)
  try simp only [Act.put, List.setIfInBounds_toArray, List.set_cons_zero, List.set_cons_succ]
  refine tkI HP.out 6 (h := ?_)
  refine tkI HP.out 7 (h := ?_)
  refine tkI HP.out 8 (h := ?_)
  try simp only [Act.put, List.setIfInBounds_toArray, List.set_cons_zero, List.set_cons_succ]
  refine tkI HP.out 9 (h := ?_)
  refine tkI HP.out 10 (h := ?_)
  refine tkI HP.out 11 (h := ?_)
  try simp only [Act.put, List.setIfInBounds_toArray, List.set_cons_zero, List.set_cons_succ]
  refine tkI HP.out 12 (h := ?_)
  refine tkI HP.out 13 (h := ?_)
  refine tkI HP.out 14 (h := ?_)
  try simp only [Act.put, List.setIfInBounds_toArray, List.set_cons_zero, List.set_cons_succ]
  refine tkI HP.out 15 (h := ?_)
  refine tkI HP.out 16 (h := ?_)
  refine tkI HP.out 17 (h := ?_)
  try simp only [Act.put, List.setIfInBounds_toArray, List.set_cons_zero, List.set_cons_succ]
  refine tkI HP.out 18 (h := ?_)
  try simp only [Act.put, List.setIfInBounds_toArray, List.set_cons_zero, List.set_cons_succ]
  refine wpAnyH_done (by kernel_rfl) ?_ _
  first | exact HQ.out _ _ _ _ _ _ _ _ _ _ _ _ _ _ _ _ _ _ _ hbu | exact HQ.out _ _ _ _ _ _ _ _ _ _ _ _ _ _ _ _ _ _ _ HDA.out
set_option maxRecDepth 100000 in
set_option maxHeartbeats 1000000 in
theorem shl5_N {p p0 b o n sc i k n0 n1 n2 c0 c1 c2 : Nat} {line pl : Int} {a0 a1 a2 : Option Addr} {X : World} {u0 u2 u3 u6 u7 u8 u9 u10 u11 u12 u13 u14 u15 u16 u17 u18 u19 u20 u21 u22 u23 u24 u25 u26 u27 u28 u29 u30 u31 u32 u33 u34 u35 u36 u37 u38 u39 u40 u41 u42 u43 u44 u45 u46 u47 u48 u49 u50 u51 u52 u53 u54 u55 u56 u57 u58 u59 u60 u61 u62 u63 u64 u65 u66 u67 u68 : Value} {Q : Exit → Act → World → Prop}
    (HKP : Hid (∀ u, Below X.heap.size X u → u.cell? ⟨p, 0, none⟩ = some (.int .u64 line) ∧ u.cell? ⟨p, 1, none⟩ = some (.slice a0 n0 c0) ∧ u.cell? ⟨p, 2, none⟩ = some (.slice a1 n1 c1) ∧ u.cell? ⟨p, 3, none⟩ = some (.slice a2 n2 c2) ∧ u.cell? ⟨p0, 6, none⟩ = some (.slice (some ⟨b, o, none⟩) n sc) ∧ u.cell? ⟨b, o + k * 4, none⟩ = some (.int .u64 pl)))
    (HM : Hid (∀ u, Below X.heap.size X u → Calls Tryz.prog (77) #[.agg #[.int .u64 line, .slice a0 n0 c0, .slice a1 n1 c1, .slice a2 n2 c2]] u fun e w' => e = .returned (.bool true) ∧ Below u.heap.size u w'))
    (hwk : 0 < i → IntKind.i64.wrap ((i : Int) - 1) = (k : Int)) (hk0 : (0 : Int) ≤ (k : Int)) (hk1 : (k : Int) < (n : Int))
    (hg : 0 < i → decide (line ≤ pl) = false)
    (hP : ∀ ch a a' w', a'.defers = a.defers → Q (.panic ch) a w' → Q (.panic ch) a' w')
    (hQ : ∀ (v19 v20 v21 v22 v23 v24 v25 v26 v27 v28 v29 v30 v31 v32 v33 v34 v35 v36 : Value) (w' : World), Below X.heap.size X w' → Q .normal ⟨#[u0, .pointer (some ⟨p0, 0, none⟩), u2, u3, .int .i64 (i : Int), .pointer (some ⟨p, 0, none⟩), u6, u7, u8, u9, u10, u11, u12, u13, u14, u15, u16, u17, u18, v19, v20, v21, v22, v23, v24, v25, v26, v27, v28, v29, v30, v31, v32, v33, v34, v35, v36, .bool false, u38, u39, u40, u41, u42, u43, u44, u45, u46, u47, u48, u49, u50, u51, u52, u53, u54, u55, u56, u57, u58, u59, u60, u61, u62, u63, u64, u65, u66, u67, u68], []⟩ w') :
    Code.wp Tryz.prog R5 Q ⟨#[u0, .pointer (some ⟨p0, 0, none⟩), u2, u3, .int .i64 (i : Int), .pointer (some ⟨p, 0, none⟩), u6, u7, u8, u9, u10, u11, u12, u13, u14, u15, u16, u17, u18, u19, u20, u21, u22, u23, u24, u25, u26, u27, u28, u29, u30, u31, u32, u33, u34, u35, u36, u37, u38, u39, u40, u41, u42, u43, u44, u45, u46, u47, u48, u49, u50, u51, u52, u53, u54, u55, u56, u57, u58, u59, u60, u61, u62, u63, u64, u65, u66, u67, u68], []⟩ X := by
  by_cases h0i : 0 < i
  · exact shl5_C HKP HM h0i (decide_eq_true (by omega)) (hwk h0i) hk0 hk1 false (hg h0i) hP hQ
  · exact shl5_B HKP HM h0i (decide_eq_false (by omega)) hP hQ
end Mf
end Go.Proofs.YtchcelodeepjdaaGreatDoor.Ln
