/- herbariumref20.Check: its first round's test. No condition. -/
import Derived.Test.YtchcelodeepjdaaGreatDoorZZO
namespace Go.Proofs.YtchcelodeepjdaaGreatDoor.Ln
open Go.RowKit Go.Herb
namespace Rc
noncomputable def R8 : Code := ((Tryz.f21.body.bind (regionAt 8)).getD .skip)
set_option maxRecDepth 100000 in
set_option maxHeartbeats 1000000 in
theorem ck8_A {p b o n sc i k : Nat} {ln pl : Int} {x0 x1 x2 : Value} {X : World} {u0 u2 u3 u4 u5 u6 u8 u9 u10 u11 u12 u13 u14 u15 u16 u17 u18 u19 u20 u21 u22 u23 u24 u25 u26 u27 u28 u29 u30 u31 u32 u33 u34 u35 u36 u37 u38 u39 u40 u41 u42 u43 u44 u45 u46 u47 u48 u49 u50 u51 u52 u53 u54 u55 u56 u57 u58 u59 u60 u61 u62 u63 u64 u65 u66 u67 u68 u69 u70 u71 u72 u73 u74 u75 u76 u77 u78 u79 u80 u81 u82 u83 u84 u85 u86 u87 u88 u89 u90 u91 u92 u93 u94 u95 u96 u97 u98 u99 u100 u101 u102 u103 u104 u105 u106 u107 u108 u109 u110 u111 : Value} {Q : Exit → Act → World → Prop}
    (HKP : Hid (∀ u, Below X.heap.size X u → u.cell? ⟨p, 6, none⟩ = some (.slice (some ⟨b, o, none⟩) n sc) ∧ u.cell? ⟨b, o + i * 4, none⟩ = some (.int .u64 ln) ∧ u.cell? ⟨b, o + i * 4 + 1, none⟩ = some x0 ∧ u.cell? ⟨b, o + i * 4 + 2, none⟩ = some x1 ∧ u.cell? ⟨b, o + i * 4 + 3, none⟩ = some x2 ∧ u.cell? ⟨b, o + k * 4, none⟩ = some (.int .u64 pl)))
    (HK1 : Hid (∀ u, Below X.heap.size X u → Calls Tryz.prog (58) #[.agg #[.int .u64 ln, x0, x1, x2]] u fun e w' => e = .returned (.bool false) ∧ Below u.heap.size u w'))
    (hi0 : (0 : Int) ≤ (i : Int)) (hi1 : (i : Int) < (n : Int))
    (o0 : x0.oneCell' = true) (o1 : x1.oneCell' = true) (o2 : x2.oneCell' = true)
    (hP : ∀ ch a a' w', a'.defers = a.defers → Q (.panic ch) a w' → Q (.panic ch) a' w')
    (hQ : ∀ (v55 v56 v57 v58 v59 v60 v61 v62 v63 v64 v65 v66 v67 v68 v69 v70 v71 v72 v73 v74 v75 v76 v77 v78 v79 v80 : Value) (w' : World), Below X.heap.size X w' → Q .normal ⟨#[u0, .pointer (some ⟨p, 0, none⟩), u2, u3, u4, u5, u6, .int .i64 (i : Int), u8, u9, u10, u11, u12, u13, u14, u15, u16, u17, u18, u19, u20, u21, u22, u23, u24, u25, u26, u27, u28, u29, u30, u31, u32, u33, u34, u35, u36, u37, u38, u39, u40, u41, u42, u43, u44, u45, u46, u47, u48, u49, u50, u51, u52, u53, u54, v55, v56, v57, v58, v59, v60, v61, v62, v63, v64, v65, v66, v67, v68, v69, v70, v71, v72, v73, v74, v75, v76, v77, v78, v79, v80, .bool true, u82, u83, u84, u85, u86, u87, u88, u89, u90, u91, u92, u93, u94, u95, u96, u97, u98, u99, u100, u101, u102, u103, u104, u105, u106, u107, u108, u109, u110, u111], []⟩ w') :
    Code.wp Tryz.prog R8 Q ⟨#[u0, .pointer (some ⟨p, 0, none⟩), u2, u3, u4, u5, u6, .int .i64 (i : Int), u8, u9, u10, u11, u12, u13, u14, u15, u16, u17, u18, u19, u20, u21, u22, u23, u24, u25, u26, u27, u28, u29, u30, u31, u32, u33, u34, u35, u36, u37, u38, u39, u40, u41, u42, u43, u44, u45, u46, u47, u48, u49, u50, u51, u52, u53, u54, u55, u56, u57, u58, u59, u60, u61, u62, u63, u64, u65, u66, u67, u68, u69, u70, u71, u72, u73, u74, u75, u76, u77, u78, u79, u80, u81, u82, u83, u84, u85, u86, u87, u88, u89, u90, u91, u92, u93, u94, u95, u96, u97, u98, u99, u100, u101, u102, u103, u104, u105, u106, u107, u108, u109, u110, u111], []⟩ X := by
  conv => arg 2; whnf
  have HP := Lib.hid hP
  have HQ := Lib.hid hQ
  clear hP hQ
  have HDA := Lib.hid (show Below X.heap.size X X.drew from (Below.refl X.heap.size X).drew)
  refine wp_region_held_drew (S := fun u => u.cell? ⟨p, 6, none⟩ = some (.slice (some ⟨b, o, none⟩) n sc) ∧ u.cell? ⟨b, o + i * 4, none⟩ = some (.int .u64 ln) ∧ u.cell? ⟨b, o + i * 4 + 1, none⟩ = some x0 ∧ u.cell? ⟨b, o + i * 4 + 2, none⟩ = some x1 ∧ u.cell? ⟨b, o + i * 4 + 3, none⟩ = some x2 ∧ u.cell? ⟨b, o + k * 4, none⟩ = some (.int .u64 pl)) (by kernel_rfl) (by first | exact HKP.out _ hbu | exact HKP.out _ HDA.out) (fun hHeld => ?_)
  refine tkI HP.out 0 (h := ?_)
  refine tkI HP.out 1 (h := ?_)
  refine tkI HP.out 2 (h := ?_)
  try simp only [Act.put, List.setIfInBounds_toArray, List.set_cons_zero, List.set_cons_succ]
  refine tkI HP.out 3 (h := ?_)
  refine tkI HP.out 4 (h := ?_)
  try simp only [Act.put, List.setIfInBounds_toArray, List.set_cons_zero, List.set_cons_succ]
  refine tkC 5 (h := fun K hK => ?_)
  go_wp2_with (go_at_call 58; (with_reducible refine (HK1.out _ HDA.out).mono ?_); rintro e w5 ⟨rfl, hb5⟩; have hbu := HDA.out.trans (hb5.mono HDA.out.size))
  refine hK.out _ _ (by first | exact HKP.out _ hbu | exact HKP.out _ HDA.out) (fun hHeld => ?_)
  clear hK K
  try simp only [Act.put, List.setIfInBounds_toArray, List.set_cons_zero, List.set_cons_succ]
  refine tkI HP.out 6 (h := ?_)
  refine tkI HP.out 7 (h := ?_)
  refine tkO HP.out 8 (h := ?_)
  try simp only [Act.put, List.setIfInBounds_toArray, List.set_cons_zero, List.set_cons_succ]
  refine tkO HP.out 9 (h := ?_)
  refine tkO HP.out 10 (h := ?_)
  refine tkO HP.out 11 (h := ?_)
  try simp only [Act.put, List.setIfInBounds_toArray, List.set_cons_zero, List.set_cons_succ]
  refine tkO HP.out 12 (h := ?_)
  refine tkO HP.out 13 (h := ?_)
  refine tkO HP.out 14 (h := ?_)
  try simp only [Act.put, List.setIfInBounds_toArray, List.set_cons_zero, List.set_cons_succ]
  refine tkO HP.out 15 (h := ?_)
  refine tkO HP.out 16 (h := ?_)
  refine tkO HP.out 17 (h := ?_)
  try simp only [Act.put, List.setIfInBounds_toArray, List.set_cons_zero, List.set_cons_succ]
  refine tkO HP.out 18 (h := ?_)
  refine tkO HP.out 19 (h := ?_)
  refine tkO HP.out 20 (h := ?_)
  try simp only [Act.put, List.setIfInBounds_toArray, List.set_cons_zero, List.set_cons_succ]
  refine tkO HP.out 21 (h := ?_)
  refine tkO HP.out 22 (h := ?_)
  refine tkO HP.out 23 (h := ?_)
  try simp only [Act.put, List.setIfInBounds_toArray, List.set_cons_zero, List.set_cons_succ]
  refine tkO HP.out 24 (h := ?_)
  refine tkO HP.out 25 (h := ?_)
  refine tkI HP.out 26 (h := ?_)
  try simp only [Act.put, List.setIfInBounds_toArray, List.set_cons_zero, List.set_cons_succ]
  try simp only [Act.put, List.setIfInBounds_toArray, List.set_cons_zero, List.set_cons_succ]
  refine wpAnyH_done (by kernel_rfl) ?_ _
  first | exact HQ.out _ _ _ _ _ _ _ _ _ _ _ _ _ _ _ _ _ _ _ _ _ _ _ _ _ _ _ hbu | exact HQ.out _ _ _ _ _ _ _ _ _ _ _ _ _ _ _ _ _ _ _ _ _ _ _ _ _ _ _ HDA.out
set_option maxRecDepth 100000 in
set_option maxHeartbeats 1000000 in
theorem ck8_B {p b o n sc i k : Nat} {ln pl : Int} {x0 x1 x2 : Value} {X : World} {u0 u2 u3 u4 u5 u6 u8 u9 u10 u11 u12 u13 u14 u15 u16 u17 u18 u19 u20 u21 u22 u23 u24 u25 u26 u27 u28 u29 u30 u31 u32 u33 u34 u35 u36 u37 u38 u39 u40 u41 u42 u43 u44 u45 u46 u47 u48 u49 u50 u51 u52 u53 u54 u55 u56 u57 u58 u59 u60 u61 u62 u63 u64 u65 u66 u67 u68 u69 u70 u71 u72 u73 u74 u75 u76 u77 u78 u79 u80 u81 u82 u83 u84 u85 u86 u87 u88 u89 u90 u91 u92 u93 u94 u95 u96 u97 u98 u99 u100 u101 u102 u103 u104 u105 u106 u107 u108 u109 u110 u111 : Value} {Q : Exit → Act → World → Prop}
    (HKP : Hid (∀ u, Below X.heap.size X u → u.cell? ⟨p, 6, none⟩ = some (.slice (some ⟨b, o, none⟩) n sc) ∧ u.cell? ⟨b, o + i * 4, none⟩ = some (.int .u64 ln) ∧ u.cell? ⟨b, o + i * 4 + 1, none⟩ = some x0 ∧ u.cell? ⟨b, o + i * 4 + 2, none⟩ = some x1 ∧ u.cell? ⟨b, o + i * 4 + 3, none⟩ = some x2 ∧ u.cell? ⟨b, o + k * 4, none⟩ = some (.int .u64 pl)))
    (HK1 : Hid (∀ u, Below X.heap.size X u → Calls Tryz.prog (58) #[.agg #[.int .u64 ln, x0, x1, x2]] u fun e w' => e = .returned (.bool true) ∧ Below u.heap.size u w'))
    (hi0 : (0 : Int) ≤ (i : Int)) (hi1 : (i : Int) < (n : Int))
    (o0 : x0.oneCell' = true) (o1 : x1.oneCell' = true) (o2 : x2.oneCell' = true)
    (h0i : ¬ 0 < i) (di : decide ((0 : Int) < (i : Int)) = false)
    (hP : ∀ ch a a' w', a'.defers = a.defers → Q (.panic ch) a w' → Q (.panic ch) a' w')
    (hQ : ∀ (v55 v56 v57 v58 v59 v60 v61 v62 v63 v64 v65 v66 v67 v68 v69 v70 v71 v72 v73 v74 v75 v76 v77 v78 v79 v80 : Value) (w' : World), Below X.heap.size X w' → Q .normal ⟨#[u0, .pointer (some ⟨p, 0, none⟩), u2, u3, u4, u5, u6, .int .i64 (i : Int), u8, u9, u10, u11, u12, u13, u14, u15, u16, u17, u18, u19, u20, u21, u22, u23, u24, u25, u26, u27, u28, u29, u30, u31, u32, u33, u34, u35, u36, u37, u38, u39, u40, u41, u42, u43, u44, u45, u46, u47, u48, u49, u50, u51, u52, u53, u54, v55, v56, v57, v58, v59, v60, v61, v62, v63, v64, v65, v66, v67, v68, v69, v70, v71, v72, v73, v74, v75, v76, v77, v78, v79, v80, .bool false, u82, u83, u84, u85, u86, u87, u88, u89, u90, u91, u92, u93, u94, u95, u96, u97, u98, u99, u100, u101, u102, u103, u104, u105, u106, u107, u108, u109, u110, u111], []⟩ w') :
    Code.wp Tryz.prog R8 Q ⟨#[u0, .pointer (some ⟨p, 0, none⟩), u2, u3, u4, u5, u6, .int .i64 (i : Int), u8, u9, u10, u11, u12, u13, u14, u15, u16, u17, u18, u19, u20, u21, u22, u23, u24, u25, u26, u27, u28, u29, u30, u31, u32, u33, u34, u35, u36, u37, u38, u39, u40, u41, u42, u43, u44, u45, u46, u47, u48, u49, u50, u51, u52, u53, u54, u55, u56, u57, u58, u59, u60, u61, u62, u63, u64, u65, u66, u67, u68, u69, u70, u71, u72, u73, u74, u75, u76, u77, u78, u79, u80, u81, u82, u83, u84, u85, u86, u87, u88, u89, u90, u91, u92, u93, u94, u95, u96, u97, u98, u99, u100, u101, u102, u103, u104, u105, u106, u107, u108, u109, u110, u111], []⟩ X := by
  conv => arg 2; whnf
  have HP := Lib.hid hP
  have HQ := Lib.hid hQ
  clear hP hQ
  have HDA := Lib.hid (show Below X.heap.size X X.drew from (Below.refl X.heap.size X).drew)
  refine wp_region_held_drew (S := fun u => u.cell? ⟨p, 6, none⟩ = some (.slice (some ⟨b, o, none⟩) n sc) ∧ u.cell? ⟨b, o + i * 4, none⟩ = some (.int .u64 ln) ∧ u.cell? ⟨b, o + i * 4 + 1, none⟩ = some x0 ∧ u.cell? ⟨b, o + i * 4 + 2, none⟩ = some x1 ∧ u.cell? ⟨b, o + i * 4 + 3, none⟩ = some x2 ∧ u.cell? ⟨b, o + k * 4, none⟩ = some (.int .u64 pl)) (by kernel_rfl) (by first | exact HKP.out _ hbu | exact HKP.out _ HDA.out) (fun hHeld => ?_)
  refine tkI HP.out 0 (h := ?_)
  refine tkI HP.out 1 (h := ?_)
  refine tkI HP.out 2 (h := ?_)
  try simp only [Act.put, List.setIfInBounds_toArray, List.set_cons_zero, List.set_cons_succ]
  refine tkI HP.out 3 (h := ?_)
  refine tkI HP.out 4 (h := ?_)
  try simp only [Act.put, List.setIfInBounds_toArray, List.set_cons_zero, List.set_cons_succ]
  refine tkC 5 (h := fun K hK => ?_)
  go_wp2_with (go_at_call 58; (with_reducible refine (HK1.out _ HDA.out).mono ?_); rintro e w5 ⟨rfl, hb5⟩; have hbu := HDA.out.trans (hb5.mono HDA.out.size))
  refine hK.out _ _ (by first | exact HKP.out _ hbu | exact HKP.out _ HDA.out) (fun hHeld => ?_)
  clear hK K
  try simp only [Act.put, List.setIfInBounds_toArray, List.set_cons_zero, List.set_cons_succ]
  refine tkI HP.out 6 (h := ?_)
  refine tkI HP.out 7 (h := ?_)
  refine tkI HP.out 8 (h := ?_)
  try simp only [Act.put, List.setIfInBounds_toArray, List.set_cons_zero, List.set_cons_succ]
  refine tkI HP.out 9 (h := ?_)
  refine tkI HP.out 10 (h := ?_)
  refine tkO HP.out 11 (h := ?_)
  try simp only [Act.put, List.setIfInBounds_toArray, List.set_cons_zero, List.set_cons_succ]
  refine tkO HP.out 12 (h := ?_)
  refine tkO HP.out 13 (h := ?_)
  refine tkO HP.out 14 (h := ?_)
  try simp only [Act.put, List.setIfInBounds_toArray, List.set_cons_zero, List.set_cons_succ]
  refine tkO HP.out 15 (h := ?_)
  refine tkO HP.out 16 (h := ?_)
  refine tkO HP.out 17 (h := ?_)
  try simp only [Act.put, List.setIfInBounds_toArray, List.set_cons_zero, List.set_cons_succ]
  refine tkO HP.out 18 (h := ?_)
  refine tkO HP.out 19 (h := ?_)
  refine tkO HP.out 20 (h := ?_)
  try simp only [Act.put, List.setIfInBounds_toArray, List.set_cons_zero, List.set_cons_succ]
  refine tkO HP.out 21 (h := ?_)
  refine tkO HP.out 22 (h := ?_)
  refine tkO HP.out 23 (h := ?_)
  try simp only [Act.put, List.setIfInBounds_toArray, List.set_cons_zero, List.set_cons_succ]
  refine tkO HP.out 24 (h := ?_)
  refine tkI HP.out 25 (h := ?_)
  refine tkI HP.out 26 (h := ?_)
  try simp only [Act.put, List.setIfInBounds_toArray, List.set_cons_zero, List.set_cons_succ]
  try simp only [Act.put, List.setIfInBounds_toArray, List.set_cons_zero, List.set_cons_succ]
  refine wpAnyH_done (by kernel_rfl) ?_ _
  first | exact HQ.out _ _ _ _ _ _ _ _ _ _ _ _ _ _ _ _ _ _ _ _ _ _ _ _ _ _ _ hbu | exact HQ.out _ _ _ _ _ _ _ _ _ _ _ _ _ _ _ _ _ _ _ _ _ _ _ _ _ _ _ HDA.out
set_option maxRecDepth 100000 in
set_option maxHeartbeats 1000000 in
theorem ck8_C {p b o n sc i k : Nat} {ln pl : Int} {x0 x1 x2 : Value} {X : World} {u0 u2 u3 u4 u5 u6 u8 u9 u10 u11 u12 u13 u14 u15 u16 u17 u18 u19 u20 u21 u22 u23 u24 u25 u26 u27 u28 u29 u30 u31 u32 u33 u34 u35 u36 u37 u38 u39 u40 u41 u42 u43 u44 u45 u46 u47 u48 u49 u50 u51 u52 u53 u54 u55 u56 u57 u58 u59 u60 u61 u62 u63 u64 u65 u66 u67 u68 u69 u70 u71 u72 u73 u74 u75 u76 u77 u78 u79 u80 u81 u82 u83 u84 u85 u86 u87 u88 u89 u90 u91 u92 u93 u94 u95 u96 u97 u98 u99 u100 u101 u102 u103 u104 u105 u106 u107 u108 u109 u110 u111 : Value} {Q : Exit → Act → World → Prop}
    (HKP : Hid (∀ u, Below X.heap.size X u → u.cell? ⟨p, 6, none⟩ = some (.slice (some ⟨b, o, none⟩) n sc) ∧ u.cell? ⟨b, o + i * 4, none⟩ = some (.int .u64 ln) ∧ u.cell? ⟨b, o + i * 4 + 1, none⟩ = some x0 ∧ u.cell? ⟨b, o + i * 4 + 2, none⟩ = some x1 ∧ u.cell? ⟨b, o + i * 4 + 3, none⟩ = some x2 ∧ u.cell? ⟨b, o + k * 4, none⟩ = some (.int .u64 pl)))
    (HK1 : Hid (∀ u, Below X.heap.size X u → Calls Tryz.prog (58) #[.agg #[.int .u64 ln, x0, x1, x2]] u fun e w' => e = .returned (.bool true) ∧ Below u.heap.size u w'))
    (hi0 : (0 : Int) ≤ (i : Int)) (hi1 : (i : Int) < (n : Int))
    (o0 : x0.oneCell' = true) (o1 : x1.oneCell' = true) (o2 : x2.oneCell' = true)
    (h0i : 0 < i) (di : decide ((0 : Int) < (i : Int)) = true)
    (hwk : IntKind.i64.wrap ((i : Int) - 1) = (k : Int)) (hk0 : (0 : Int) ≤ (k : Int)) (hk1 : (k : Int) < (n : Int))
    (g : Bool) (hg : decide (ln ≤ pl) = g)
    (hP : ∀ ch a a' w', a'.defers = a.defers → Q (.panic ch) a w' → Q (.panic ch) a' w')
    (hQ : ∀ (v55 v56 v57 v58 v59 v60 v61 v62 v63 v64 v65 v66 v67 v68 v69 v70 v71 v72 v73 v74 v75 v76 v77 v78 v79 v80 : Value) (w' : World), Below X.heap.size X w' → Q .normal ⟨#[u0, .pointer (some ⟨p, 0, none⟩), u2, u3, u4, u5, u6, .int .i64 (i : Int), u8, u9, u10, u11, u12, u13, u14, u15, u16, u17, u18, u19, u20, u21, u22, u23, u24, u25, u26, u27, u28, u29, u30, u31, u32, u33, u34, u35, u36, u37, u38, u39, u40, u41, u42, u43, u44, u45, u46, u47, u48, u49, u50, u51, u52, u53, u54, v55, v56, v57, v58, v59, v60, v61, v62, v63, v64, v65, v66, v67, v68, v69, v70, v71, v72, v73, v74, v75, v76, v77, v78, v79, v80, .bool g, u82, u83, u84, u85, u86, u87, u88, u89, u90, u91, u92, u93, u94, u95, u96, u97, u98, u99, u100, u101, u102, u103, u104, u105, u106, u107, u108, u109, u110, u111], []⟩ w') :
    Code.wp Tryz.prog R8 Q ⟨#[u0, .pointer (some ⟨p, 0, none⟩), u2, u3, u4, u5, u6, .int .i64 (i : Int), u8, u9, u10, u11, u12, u13, u14, u15, u16, u17, u18, u19, u20, u21, u22, u23, u24, u25, u26, u27, u28, u29, u30, u31, u32, u33, u34, u35, u36, u37, u38, u39, u40, u41, u42, u43, u44, u45, u46, u47, u48, u49, u50, u51, u52, u53, u54, u55, u56, u57, u58, u59, u60, u61, u62, u63, u64, u65, u66, u67, u68, u69, u70, u71, u72, u73, u74, u75, u76, u77, u78, u79, u80, u81, u82, u83, u84, u85, u86, u87, u88, u89, u90, u91, u92, u93, u94, u95, u96, u97, u98, u99, u100, u101, u102, u103, u104, u105, u106, u107, u108, u109, u110, u111], []⟩ X := by
  conv => arg 2; whnf
  have HP := Lib.hid hP
  have HQ := Lib.hid hQ
  clear hP hQ
  have HDA := Lib.hid (show Below X.heap.size X X.drew from (Below.refl X.heap.size X).drew)
  refine wp_region_held_drew (S := fun u => u.cell? ⟨p, 6, none⟩ = some (.slice (some ⟨b, o, none⟩) n sc) ∧ u.cell? ⟨b, o + i * 4, none⟩ = some (.int .u64 ln) ∧ u.cell? ⟨b, o + i * 4 + 1, none⟩ = some x0 ∧ u.cell? ⟨b, o + i * 4 + 2, none⟩ = some x1 ∧ u.cell? ⟨b, o + i * 4 + 3, none⟩ = some x2 ∧ u.cell? ⟨b, o + k * 4, none⟩ = some (.int .u64 pl)) (by kernel_rfl) (by first | exact HKP.out _ hbu | exact HKP.out _ HDA.out) (fun hHeld => ?_)
  refine tkI HP.out 0 (h := ?_)
  refine tkI HP.out 1 (h := ?_)
  refine tkI HP.out 2 (h := ?_)
  try simp only [Act.put, List.setIfInBounds_toArray, List.set_cons_zero, List.set_cons_succ]
  refine tkI HP.out 3 (h := ?_)
  refine tkI HP.out 4 (h := ?_)
  try simp only [Act.put, List.setIfInBounds_toArray, List.set_cons_zero, List.set_cons_succ]
  refine tkC 5 (h := fun K hK => ?_)
  go_wp2_with (go_at_call 58; (with_reducible refine (HK1.out _ HDA.out).mono ?_); rintro e w5 ⟨rfl, hb5⟩; have hbu := HDA.out.trans (hb5.mono HDA.out.size))
  refine hK.out _ _ (by first | exact HKP.out _ hbu | exact HKP.out _ HDA.out) (fun hHeld => ?_)
  clear hK K
  try simp only [Act.put, List.setIfInBounds_toArray, List.set_cons_zero, List.set_cons_succ]
  refine tkI HP.out 6 (h := ?_)
  refine tkI HP.out 7 (h := ?_)
  refine tkI HP.out 8 (h := ?_)
  try simp only [Act.put, List.setIfInBounds_toArray, List.set_cons_zero, List.set_cons_succ]
  refine tkI HP.out 9 (h := ?_)
  refine tkI HP.out 10 (h := ?_)
  refine tkI HP.out 11 (h := ?_)
  try simp only [Act.put, List.setIfInBounds_toArray, List.set_cons_zero, List.set_cons_succ]
  refine tkI HP.out 12 (h := ?_)
  refine tkI HP.out 13 (h := ?_)
  refine tkI HP.out 14 (h := ?_)
  try simp only [Act.put, List.setIfInBounds_toArray, List.set_cons_zero, List.set_cons_succ]
  refine tkI HP.out 15 (h := ?_)
  refine tkI HP.out 16 (h := ?_)
  refine tkI HP.out 17 (h := ?_)
  try simp only [Act.put, List.setIfInBounds_toArray, List.set_cons_zero, List.set_cons_succ]
  refine tkI HP.out 18 (h := ?_)
  refine tkI HP.out 19 (h := ?_)
  refine tkI HP.out 20 (h := ?_)
  try simp only [Act.put, List.setIfInBounds_toArray, List.set_cons_zero, List.set_cons_succ]
  refine tkI HP.out 21 (h := ?_)
  refine tkI HP.out 22 (h := ?_)
  refine tkI HP.out 23 (h := ?_)
  try simp only [Act.put, List.setIfInBounds_toArray, List.set_cons_zero, List.set_cons_succ]
  refine tkI HP.out 24 (h := ?_)
  refine tkI HP.out 25 (h := ?_)
  refine tkI HP.out 26 (h := ?_)
  try simp only [Act.put, List.setIfInBounds_toArray, List.set_cons_zero, List.set_cons_succ]
  try simp only [Act.put, List.setIfInBounds_toArray, List.set_cons_zero, List.set_cons_succ]
  refine wpAnyH_done (by kernel_rfl) ?_ _
  first | exact HQ.out _ _ _ _ _ _ _ _ _ _ _ _ _ _ _ _ _ _ _ _ _ _ _ _ _ _ _ hbu | exact HQ.out _ _ _ _ _ _ _ _ _ _ _ _ _ _ _ _ _ _ _ _ _ _ _ _ _ _ _ HDA.out
theorem ck8_all {p b o n sc i k : Nat} {ln pl : Int} {x0 x1 x2 : Value} {X : World} {u0 u2 u3 u4 u5 u6 u8 u9 u10 u11 u12 u13 u14 u15 u16 u17 u18 u19 u20 u21 u22 u23 u24 u25 u26 u27 u28 u29 u30 u31 u32 u33 u34 u35 u36 u37 u38 u39 u40 u41 u42 u43 u44 u45 u46 u47 u48 u49 u50 u51 u52 u53 u54 u55 u56 u57 u58 u59 u60 u61 u62 u63 u64 u65 u66 u67 u68 u69 u70 u71 u72 u73 u74 u75 u76 u77 u78 u79 u80 u81 u82 u83 u84 u85 u86 u87 u88 u89 u90 u91 u92 u93 u94 u95 u96 u97 u98 u99 u100 u101 u102 u103 u104 u105 u106 u107 u108 u109 u110 u111 : Value} {Q : Exit → Act → World → Prop} (q : Bool)
    (HKP : Hid (∀ u, Below X.heap.size X u → u.cell? ⟨p, 6, none⟩ = some (.slice (some ⟨b, o, none⟩) n sc) ∧ u.cell? ⟨b, o + i * 4, none⟩ = some (.int .u64 ln) ∧ u.cell? ⟨b, o + i * 4 + 1, none⟩ = some x0 ∧ u.cell? ⟨b, o + i * 4 + 2, none⟩ = some x1 ∧ u.cell? ⟨b, o + i * 4 + 3, none⟩ = some x2 ∧ u.cell? ⟨b, o + k * 4, none⟩ = some (.int .u64 pl)))
    (HK1 : Hid (∀ u, Below X.heap.size X u → Calls Tryz.prog (58) #[.agg #[.int .u64 ln, x0, x1, x2]] u fun e w' => e = .returned (.bool q) ∧ Below u.heap.size u w'))
    (hi0 : (0 : Int) ≤ (i : Int)) (hi1 : (i : Int) < (n : Int)) (o0 : x0.oneCell' = true) (o1 : x1.oneCell' = true) (o2 : x2.oneCell' = true) (hwk : 0 < i → IntKind.i64.wrap ((i : Int) - 1) = (k : Int)) (hk0 : (0 : Int) ≤ (k : Int)) (hk1 : (k : Int) < (n : Int))
    (hP : ∀ ch a a' w', a'.defers = a.defers → Q (.panic ch) a w' → Q (.panic ch) a' w')
    (hQ : ∀ (v55 v56 v57 v58 v59 v60 v61 v62 v63 v64 v65 v66 v67 v68 v69 v70 v71 v72 v73 v74 v75 v76 v77 v78 v79 v80 : Value) (w' : World), Below X.heap.size X w' → Q .normal ⟨#[u0, .pointer (some ⟨p, 0, none⟩), u2, u3, u4, u5, u6, .int .i64 (i : Int), u8, u9, u10, u11, u12, u13, u14, u15, u16, u17, u18, u19, u20, u21, u22, u23, u24, u25, u26, u27, u28, u29, u30, u31, u32, u33, u34, u35, u36, u37, u38, u39, u40, u41, u42, u43, u44, u45, u46, u47, u48, u49, u50, u51, u52, u53, u54, v55, v56, v57, v58, v59, v60, v61, v62, v63, v64, v65, v66, v67, v68, v69, v70, v71, v72, v73, v74, v75, v76, v77, v78, v79, v80, .bool (!q || (decide (0 < i) && decide (ln ≤ pl))), u82, u83, u84, u85, u86, u87, u88, u89, u90, u91, u92, u93, u94, u95, u96, u97, u98, u99, u100, u101, u102, u103, u104, u105, u106, u107, u108, u109, u110, u111], []⟩ w') :
    Code.wp Tryz.prog R8 Q ⟨#[u0, .pointer (some ⟨p, 0, none⟩), u2, u3, u4, u5, u6, .int .i64 (i : Int), u8, u9, u10, u11, u12, u13, u14, u15, u16, u17, u18, u19, u20, u21, u22, u23, u24, u25, u26, u27, u28, u29, u30, u31, u32, u33, u34, u35, u36, u37, u38, u39, u40, u41, u42, u43, u44, u45, u46, u47, u48, u49, u50, u51, u52, u53, u54, u55, u56, u57, u58, u59, u60, u61, u62, u63, u64, u65, u66, u67, u68, u69, u70, u71, u72, u73, u74, u75, u76, u77, u78, u79, u80, u81, u82, u83, u84, u85, u86, u87, u88, u89, u90, u91, u92, u93, u94, u95, u96, u97, u98, u99, u100, u101, u102, u103, u104, u105, u106, u107, u108, u109, u110, u111], []⟩ X := by
  cases q with
  | false => exact ck8_A HKP HK1 hi0 hi1 o0 o1 o2 hP (by simpa only [Bool.not_false, Bool.true_or] using hQ)
  | true =>
    rw [Bool.not_true, Bool.false_or] at hQ
    by_cases h5 : 0 < i
    · have d5 : decide ((0 : Int) < (i : Int)) = true := decide_eq_true (by omega)
      rw [decide_eq_true h5, Bool.true_and] at hQ
      exact ck8_C HKP HK1 hi0 hi1 o0 o1 o2 h5 d5 (hwk h5) hk0 hk1 _ rfl hP hQ
    · have d5 : decide ((0 : Int) < (i : Int)) = false := decide_eq_false (by omega)
      rw [decide_eq_false h5, Bool.false_and] at hQ
      exact ck8_B HKP HK1 hi0 hi1 o0 o1 o2 h5 d5 hP hQ
end Rc
end Go.Proofs.YtchcelodeepjdaaGreatDoor.Ln
