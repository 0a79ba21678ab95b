/- The reference's Of of lines: its branches' test. No condition. -/
import Derived.Test.YtchcelodeepjdaaGreatDoorU2a
import Derived.Test.YtchcelodeepjdaaGreatDoorLN9b
import Derived.Sort.Walk0
namespace Go.Proofs.YtchcelodeepjdaaGreatDoor.Ln
open Go.RowKit Go.Shelf Go.Herb
set_option maxRecDepth 100000 in
set_option maxHeartbeats 2000000 in
theorem o11_C {b o n bc m lc i k : Nat} {la : Option Addr} {xn yn : ByteArray} {xl : Int} {X : World} {u2 u3 u4 u5 u6 u8 u9 u10 u11 u12 u13 u14 u15 u16 u17 u18 u19 u20 u21 u22 u23 u24 u25 u26 u27 u28 u29 u30 u31 u32 u33 u34 u35 u36 u37 u38 u39 u40 u41 u42 u43 u44 u45 u46 u47 u48 u49 u50 u51 u52 u53 u54 u55 u56 u57 u58 u59 u60 u61 u62 u63 u64 u65 u66 u67 u68 u69 u70 u71 u72 u73 u74 u75 u76 u77 u78 u79 u80 u81 u82 u83 u84 u85 u86 u87 u88 u89 u90 u91 u92 u93 u94 u95 u96 u97 u98 u99 u100 u101 u102 u103 u104 u105 u106 u107 u108 u109 u110 u111 u112 u113 u114 u115 u116 u117 u118 u119 u120 u121 u122 u123 u124 u125 u126 : Value} {Q : Exit → Act → World → Prop}
    (hi0 : (0 : Int) ≤ (i : Int)) (hi1 : (i : Int) < (n : Int))
    (HKP : Hid (∀ u, Below X.heap.size X u → u.cell? ⟨b, o + i * 3, none⟩ = some (.string xn) ∧ u.cell? ⟨b, o + i * 3 + 1, none⟩ = some (.int .u64 xl) ∧ u.cell? ⟨b, o + k * 3, none⟩ = some (.string yn)))
    (HIN : Hid (∀ u, Below X.heap.size X u → Calls Tryz.prog (86) #[.string xn] u (fun e w' => e = .returned (.bool true) ∧ Below u.heap.size u w')))
    (h0i : 0 < i) (d0 : decide ((0 : Int) < (i : Int)) = true) (hw3 : IntKind.i64.wrap ((i : Int) - 1) = (k : Int)) (hk0 : (0 : Int) ≤ (k : Int)) (hk1 : (k : Int) < (n : Int))
    (d1 : (Op.bytesLess xn.toList yn.toList || xn.toList == yn.toList) = true)
    (hP : ∀ ch a a' w', a'.defers = a.defers → Q (.panic ch) a w' → Q (.panic ch) a' w')
    (hQ : ∀ (v70 v71 v72 v73 v74 v75 v76 v77 v78 v79 v80 v81 v82 v83 v84 v85 v86 v87 v88 v89 v90 v91 v92 v93 v94 v95 v96 v97 v98 v99 v100 v101 v102 v103 : Value) (w' : World), Below X.heap.size X w' → Q .normal ⟨#[.slice (some ⟨b, o, none⟩) n bc, .slice la m lc, u2, u3, u4, u5, u6, .int .i64 (i : Int), u8, u9, u10, u11, u12, u13, u14, u15, u16, u17, u18, u19, u20, u21, u22, u23, u24, u25, u26, u27, u28, u29, u30, u31, u32, u33, u34, u35, u36, u37, u38, u39, u40, u41, u42, u43, u44, u45, u46, u47, u48, u49, u50, u51, u52, u53, u54, u55, u56, u57, u58, u59, u60, u61, u62, u63, u64, u65, u66, u67, u68, u69, v70, v71, v72, v73, v74, v75, v76, v77, v78, v79, v80, v81, v82, v83, v84, v85, v86, v87, v88, v89, v90, v91, v92, v93, v94, v95, v96, v97, v98, v99, v100, v101, v102, v103, .bool (true), u105, u106, u107, u108, u109, u110, u111, u112, u113, u114, u115, u116, u117, u118, u119, u120, u121, u122, u123, u124, u125, u126], []⟩ w') :
    Code.wp Tryz.prog R11 Q ⟨#[.slice (some ⟨b, o, none⟩) n bc, .slice la m lc, u2, u3, u4, u5, u6, .int .i64 (i : Int), u8, u9, u10, u11, u12, u13, u14, u15, u16, u17, u18, u19, u20, u21, u22, u23, u24, u25, u26, u27, u28, u29, u30, u31, u32, u33, u34, u35, u36, u37, u38, u39, u40, u41, u42, u43, u44, u45, u46, u47, u48, u49, u50, u51, u52, u53, u54, u55, u56, u57, u58, u59, u60, u61, u62, u63, u64, u65, u66, u67, u68, u69, u70, u71, u72, u73, u74, u75, u76, u77, u78, u79, u80, u81, u82, u83, u84, u85, u86, u87, u88, u89, u90, u91, u92, u93, u94, u95, u96, u97, u98, u99, u100, u101, u102, u103, u104, u105, u106, u107, u108, u109, u110, u111, u112, u113, u114, u115, u116, u117, u118, u119, u120, u121, u122, u123, u124, u125, u126], []⟩ X := by
  conv => arg 2; whnf
  have HP := Lib.hid hP
  have HQ := Lib.hid hQ
  clear hP hQ
  have HDA := Lib.hid (show Below X.heap.size X X.drew from (Below.refl X.heap.size X).drew)
  refine wp_region_held_drew (S := fun u => u.cell? ⟨b, o + i * 3, none⟩ = some (.string xn) ∧ u.cell? ⟨b, o + i * 3 + 1, none⟩ = some (.int .u64 xl) ∧ u.cell? ⟨b, o + k * 3, none⟩ = some (.string yn)) (by kernel_rfl) (by first | exact HKP.out _ hbu | exact HKP.out _ HDA.out) (fun hHeld => ?_)
  refine tkI HP.out 0 (h := ?_)
  refine tkI HP.out 1 (h := ?_)
  refine tkI HP.out 2 (h := ?_)
  try simp only [Act.put, List.setIfInBounds_toArray, List.set_cons_zero, List.set_cons_succ]
  refine tkI HP.out 3 (h := ?_)
  refine tkI HP.out 4 (h := ?_)
  try simp only [Act.put, List.setIfInBounds_toArray, List.set_cons_zero, List.set_cons_succ]
  refine tkC 5 (h := fun K hK => ?_)
  go_wp2_with (go_at_call 86; (with_reducible refine (HIN.out _ HDA.out).mono ?_); rintro e w5 ⟨rfl, hb5⟩; have hbu := HDA.out.trans (hb5.mono HDA.out.size))
  refine hK.out _ _ (by first | exact HKP.out _ hbu | exact HKP.out _ HDA.out) (fun hHeld => ?_)
  clear hK K
  try simp only [Act.put, List.setIfInBounds_toArray, List.set_cons_zero, List.set_cons_succ]
  refine tkI HP.out 6 (h := ?_)
  refine tkI HP.out 7 (h := ?_)
  refine tkI HP.out 8 (h := ?_)
  try simp only [Act.put, List.setIfInBounds_toArray, List.set_cons_zero, List.set_cons_succ]
  refine tkI HP.out 9 (h := ?_)
  refine tkI HP.out 10 (h := ?_)
  refine tkI HP.out 11 (h := ?_)
  try simp only [Act.put, List.setIfInBounds_toArray, List.set_cons_zero, List.set_cons_succ]
  refine tkI HP.out 12 (h := ?_)
  refine tkI HP.out 13 (h := ?_)
  refine tkI HP.out 14 (h := ?_)
  try simp only [Act.put, List.setIfInBounds_toArray, List.set_cons_zero, List.set_cons_succ]
  refine tkI HP.out 15 (h := ?_)
  refine tkI HP.out 16 (h := ?_)
  refine tkI HP.out 17 (h := ?_)
  try simp only [Act.put, List.setIfInBounds_toArray, List.set_cons_zero, List.set_cons_succ]
  refine tkI HP.out 18 (h := ?_)
  refine tkI HP.out 19 (h := ?_)
  refine tkI HP.out 20 (h := ?_)
  try simp only [Act.put, List.setIfInBounds_toArray, List.set_cons_zero, List.set_cons_succ]
  refine tkI HP.out 21 (h := ?_)
  refine tkI HP.out 22 (h := ?_)
  refine tkI HP.out 23 (h := ?_)
  try simp only [Act.put, List.setIfInBounds_toArray, List.set_cons_zero, List.set_cons_succ]
  refine tkI HP.out 24 (h := ?_)
  refine tkI HP.out 25 (h := ?_)
  refine tkO HP.out 26 (h := ?_)
  try simp only [Act.put, List.setIfInBounds_toArray, List.set_cons_zero, List.set_cons_succ]
  refine tkO HP.out 27 (h := ?_)
  refine tkO HP.out 28 (h := ?_)
  refine tkO HP.out 29 (h := ?_)
  try simp only [Act.put, List.setIfInBounds_toArray, List.set_cons_zero, List.set_cons_succ]
  refine tkO HP.out 30 (h := ?_)
  refine tkO HP.out 31 (h := ?_)
  refine tkO HP.out 32 (h := ?_)
  try simp only [Act.put, List.setIfInBounds_toArray, List.set_cons_zero, List.set_cons_succ]
  refine tkO HP.out 33 (h := ?_)
  refine tkI HP.out 34 (h := ?_)
  try simp only [Act.put, List.setIfInBounds_toArray, List.set_cons_zero, List.set_cons_succ]
  refine wpAnyH_done (by kernel_rfl) ?_ _
  exact HQ.out _ _ _ _ _ _ _ _ _ _ _ _ _ _ _ _ _ _ _ _ _ _ _ _ _ _ _ _ _ _ _ _ _ _ _ hbu
set_option maxRecDepth 100000 in
set_option maxHeartbeats 2000000 in
theorem o11_D {b o n bc m lc i k : Nat} {la : Option Addr} {xn yn : ByteArray} {xl : Int} {hv : Bool} {X : World} {u2 u3 u4 u5 u6 u8 u9 u10 u11 u12 u13 u14 u15 u16 u17 u18 u19 u20 u21 u22 u23 u24 u25 u26 u27 u28 u29 u30 u31 u32 u33 u34 u35 u36 u37 u38 u39 u40 u41 u42 u43 u44 u45 u46 u47 u48 u49 u50 u51 u52 u53 u54 u55 u56 u57 u58 u59 u60 u61 u62 u63 u64 u65 u66 u67 u68 u69 u70 u71 u72 u73 u74 u75 u76 u77 u78 u79 u80 u81 u82 u83 u84 u85 u86 u87 u88 u89 u90 u91 u92 u93 u94 u95 u96 u97 u98 u99 u100 u101 u102 u103 u104 u105 u106 u107 u108 u109 u110 u111 u112 u113 u114 u115 u116 u117 u118 u119 u120 u121 u122 u123 u124 u125 u126 : Value} {Q : Exit → Act → World → Prop}
    (hi0 : (0 : Int) ≤ (i : Int)) (hi1 : (i : Int) < (n : Int))
    (HKP : Hid (∀ u, Below X.heap.size X u → u.cell? ⟨b, o + i * 3, none⟩ = some (.string xn) ∧ u.cell? ⟨b, o + i * 3 + 1, none⟩ = some (.int .u64 xl) ∧ u.cell? ⟨b, o + k * 3, none⟩ = some (.string yn)))
    (HIN : Hid (∀ u, Below X.heap.size X u → Calls Tryz.prog (86) #[.string xn] u (fun e w' => e = .returned (.bool true) ∧ Below u.heap.size u w')))
    (HHS : Hid (∀ u, Below X.heap.size X u → Calls Tryz.prog (85) #[.slice la m lc, .int .u64 xl] u (fun e w' => e = .returned (.bool hv) ∧ Below u.heap.size u w')))
    (h0i : 0 < i) (d0 : decide ((0 : Int) < (i : Int)) = true) (hw3 : IntKind.i64.wrap ((i : Int) - 1) = (k : Int)) (hk0 : (0 : Int) ≤ (k : Int)) (hk1 : (k : Int) < (n : Int))
    (d1 : Op.bytesLess xn.toList yn.toList = false) (d2 : (xn.toList == yn.toList) = false)
    (hP : ∀ ch a a' w', a'.defers = a.defers → Q (.panic ch) a w' → Q (.panic ch) a' w')
    (hQ : ∀ (v70 v71 v72 v73 v74 v75 v76 v77 v78 v79 v80 v81 v82 v83 v84 v85 v86 v87 v88 v89 v90 v91 v92 v93 v94 v95 v96 v97 v98 v99 v100 v101 v102 v103 : Value) (w' : World), Below X.heap.size X w' → Q .normal ⟨#[.slice (some ⟨b, o, none⟩) n bc, .slice la m lc, u2, u3, u4, u5, u6, .int .i64 (i : Int), u8, u9, u10, u11, u12, u13, u14, u15, u16, u17, u18, u19, u20, u21, u22, u23, u24, u25, u26, u27, u28, u29, u30, u31, u32, u33, u34, u35, u36, u37, u38, u39, u40, u41, u42, u43, u44, u45, u46, u47, u48, u49, u50, u51, u52, u53, u54, u55, u56, u57, u58, u59, u60, u61, u62, u63, u64, u65, u66, u67, u68, u69, v70, v71, v72, v73, v74, v75, v76, v77, v78, v79, v80, v81, v82, v83, v84, v85, v86, v87, v88, v89, v90, v91, v92, v93, v94, v95, v96, v97, v98, v99, v100, v101, v102, v103, .bool (!hv), u105, u106, u107, u108, u109, u110, u111, u112, u113, u114, u115, u116, u117, u118, u119, u120, u121, u122, u123, u124, u125, u126], []⟩ w') :
    Code.wp Tryz.prog R11 Q ⟨#[.slice (some ⟨b, o, none⟩) n bc, .slice la m lc, u2, u3, u4, u5, u6, .int .i64 (i : Int), u8, u9, u10, u11, u12, u13, u14, u15, u16, u17, u18, u19, u20, u21, u22, u23, u24, u25, u26, u27, u28, u29, u30, u31, u32, u33, u34, u35, u36, u37, u38, u39, u40, u41, u42, u43, u44, u45, u46, u47, u48, u49, u50, u51, u52, u53, u54, u55, u56, u57, u58, u59, u60, u61, u62, u63, u64, u65, u66, u67, u68, u69, u70, u71, u72, u73, u74, u75, u76, u77, u78, u79, u80, u81, u82, u83, u84, u85, u86, u87, u88, u89, u90, u91, u92, u93, u94, u95, u96, u97, u98, u99, u100, u101, u102, u103, u104, u105, u106, u107, u108, u109, u110, u111, u112, u113, u114, u115, u116, u117, u118, u119, u120, u121, u122, u123, u124, u125, u126], []⟩ X := by
  conv => arg 2; whnf
  have HP := Lib.hid hP
  have HQ := Lib.hid hQ
  clear hP hQ
  have HDA := Lib.hid (show Below X.heap.size X X.drew from (Below.refl X.heap.size X).drew)
  refine wp_region_held_drew (S := fun u => u.cell? ⟨b, o + i * 3, none⟩ = some (.string xn) ∧ u.cell? ⟨b, o + i * 3 + 1, none⟩ = some (.int .u64 xl) ∧ u.cell? ⟨b, o + k * 3, none⟩ = some (.string yn)) (by kernel_rfl) (by first | exact HKP.out _ hbu | exact HKP.out _ HDA.out) (fun hHeld => ?_)
  refine tkI HP.out 0 (h := ?_)
  refine tkI HP.out 1 (h := ?_)
  refine tkI HP.out 2 (h := ?_)
  try simp only [Act.put, List.setIfInBounds_toArray, List.set_cons_zero, List.set_cons_succ]
  refine tkI HP.out 3 (h := ?_)
  refine tkI HP.out 4 (h := ?_)
  try simp only [Act.put, List.setIfInBounds_toArray, List.set_cons_zero, List.set_cons_succ]
  refine tkC 5 (h := fun K hK => ?_)
  go_wp2_with (go_at_call 86; (with_reducible refine (HIN.out _ HDA.out).mono ?_); rintro e w5 ⟨rfl, hb5⟩; have hbu := HDA.out.trans (hb5.mono HDA.out.size))
  refine hK.out _ _ (by first | exact HKP.out _ hbu | exact HKP.out _ HDA.out) (fun hHeld => ?_)
  clear hK K
  try simp only [Act.put, List.setIfInBounds_toArray, List.set_cons_zero, List.set_cons_succ]
  refine tkI HP.out 6 (h := ?_)
  refine tkI HP.out 7 (h := ?_)
  refine tkI HP.out 8 (h := ?_)
  try simp only [Act.put, List.setIfInBounds_toArray, List.set_cons_zero, List.set_cons_succ]
  refine tkI HP.out 9 (h := ?_)
  refine tkI HP.out 10 (h := ?_)
  refine tkI HP.out 11 (h := ?_)
  try simp only [Act.put, List.setIfInBounds_toArray, List.set_cons_zero, List.set_cons_succ]
  refine tkI HP.out 12 (h := ?_)
  refine tkI HP.out 13 (h := ?_)
  refine tkI HP.out 14 (h := ?_)
  try simp only [Act.put, List.setIfInBounds_toArray, List.set_cons_zero, List.set_cons_succ]
  refine tkI HP.out 15 (h := ?_)
  refine tkI HP.out 16 (h := ?_)
  refine tkI HP.out 17 (h := ?_)
  try simp only [Act.put, List.setIfInBounds_toArray, List.set_cons_zero, List.set_cons_succ]
  refine tkI HP.out 18 (h := ?_)
  refine tkI HP.out 19 (h := ?_)
  refine tkI HP.out 20 (h := ?_)
  try simp only [Act.put, List.setIfInBounds_toArray, List.set_cons_zero, List.set_cons_succ]
  refine tkI HP.out 21 (h := ?_)
  refine tkI HP.out 22 (h := ?_)
  refine tkI HP.out 23 (h := ?_)
  try simp only [Act.put, List.setIfInBounds_toArray, List.set_cons_zero, List.set_cons_succ]
  refine tkI HP.out 24 (h := ?_)
  refine tkI HP.out 25 (h := ?_)
  refine tkI HP.out 26 (h := ?_)
  try simp only [Act.put, List.setIfInBounds_toArray, List.set_cons_zero, List.set_cons_succ]
  refine tkI HP.out 27 (h := ?_)
  refine tkI HP.out 28 (h := ?_)
  refine tkI HP.out 29 (h := ?_)
  try simp only [Act.put, List.setIfInBounds_toArray, List.set_cons_zero, List.set_cons_succ]
  refine tkI HP.out 30 (h := ?_)
  refine tkI HP.out 31 (h := ?_)
  try simp only [Act.put, List.setIfInBounds_toArray, List.set_cons_zero, List.set_cons_succ]
  refine tkC 32 (h := fun K hK => ?_)
  go_wp2_with (go_at_call 85; (with_reducible refine (HHS.out _ hbu).mono ?_); rintro e w6 ⟨rfl, hb6⟩; have hbu := hbu.trans (hb6.mono hbu.size))
  refine hK.out _ _ (by first | exact HKP.out _ hbu | exact HKP.out _ HDA.out) (fun hHeld => ?_)
  clear hK K
  try simp only [Act.put, List.setIfInBounds_toArray, List.set_cons_zero, List.set_cons_succ]
  refine tkI HP.out 33 (h := ?_)
  refine tkI HP.out 34 (h := ?_)
  try simp only [Act.put, List.setIfInBounds_toArray, List.set_cons_zero, List.set_cons_succ]
  refine wpAnyH_done (by kernel_rfl) ?_ _
  exact HQ.out _ _ _ _ _ _ _ _ _ _ _ _ _ _ _ _ _ _ _ _ _ _ _ _ _ _ _ _ _ _ _ _ _ _ _ hbu
end Go.Proofs.YtchcelodeepjdaaGreatDoor.Ln
