/- LinesAgain: its last test. No condition. -/
import Derived.Test.YtacibennmcegfaaDoorLN9a
import Derived.Test.YtacibennmcegfaaDoorLPB
namespace Go.Proofs.YtacibennmcegfaaDoor
open Go.RowKit Go.Shelf Go.Herb
noncomputable def R16 : Code := ((Tryd.f4.body.bind (regionAt 16)).getD .skip)
set_option maxRecDepth 100000 in
set_option maxHeartbeats 2000000 in
theorem r16_any {q p p2 nb bc n lc : Nat} {ba la : Option Addr} {bs : List Br} {ls : List Ln} {X : World} {u0 u2 u4 u5 u6 u8 u9 u10 u11 u12 u13 u14 u15 u16 u17 u18 u19 u20 u21 u22 u23 u24 u25 u26 u27 u28 u29 u30 u31 u32 u33 u34 u35 u36 u37 u38 u39 u40 u41 u42 u43 u44 u45 u46 u47 u48 u49 u50 u51 u52 u53 u54 u55 u56 u57 u58 u59 u60 u61 u62 u63 u64 u65 u66 u67 u68 u69 u70 u71 u72 u73 u74 u75 u76 u77 u78 u79 u80 u81 u82 u83 u84 u85 u86 u87 u88 u89 u90 u91 u92 u93 u94 u95 u96 u97 u98 u99 u100 u101 u102 u103 u104 u105 u106 u107 u108 : Value} {Q : Exit → Act → World → Prop}
    (HKP : Hid (∀ u, Below X.heap.size X u → u.cell? ⟨q, 0, none⟩ = some (.slice ba nb bc) ∧ u.cell? ⟨q, 1, none⟩ = some (.slice la n lc)))
    (HA1 : Hid (∀ u, Below X.heap.size X u → Calls Tryd.prog (12) #[.pointer (some ⟨p, 0, none⟩)] u fun e w' => ∃ (g : Nat) (R : List Value), e = .returned (.slice (some ⟨g, 0, none⟩) nb nb) ∧ u.heap.size ≤ g ∧ w'.heap[g]? = some (.cells (bs.flatMap brc ++ R).toArray (45) (0, 0)) ∧ Below u.heap.size u w'))
    (HA2 : Hid (∀ u, Below X.heap.size X u → Calls Tryd.prog (13) #[.pointer (some ⟨p, 0, none⟩)] u fun e w' => ∃ (g : Nat) (R : List Value), e = .returned (.slice (some ⟨g, 0, none⟩) n n) ∧ u.heap.size ≤ g ∧ w'.heap[g]? = some (.cells (ls.flatMap lnc ++ R).toArray (36) (0, 0)) ∧ Below u.heap.size u w'))
    (HA3 : Hid (∀ u, Below X.heap.size X u → Calls Tryd.prog (12) #[.pointer (some ⟨p2, 0, none⟩)] u fun e w' => ∃ (g : Nat) (R : List Value), e = .returned (.slice (some ⟨g, 0, none⟩) nb nb) ∧ u.heap.size ≤ g ∧ w'.heap[g]? = some (.cells (bs.flatMap brc ++ R).toArray (45) (0, 0)) ∧ Below u.heap.size u w'))
    (HS1 : Hid (∀ (u : World) (g : Nat) (R : List Value), Below X.heap.size X u → u.heap[g]? = some (.cells (bs.flatMap brc ++ R).toArray (45) (0, 0)) → Calls Tryd.prog (14) #[.slice (some ⟨g, 0, none⟩) nb nb, .slice ba nb bc] u fun e w' => e = .returned (.bool true) ∧ Below u.heap.size u w'))
    (HS2 : Hid (∀ (u : World) (g : Nat) (R : List Value), Below X.heap.size X u → u.heap[g]? = some (.cells (ls.flatMap lnc ++ R).toArray (36) (0, 0)) → Calls Tryd.prog (15) #[.slice (some ⟨g, 0, none⟩) n n, .slice la n lc] u fun e w' => e = .returned (.bool true) ∧ Below u.heap.size u w'))
    (hP : ∀ ch a a' w', a'.defers = a.defers → Q (.panic ch) a w' → Q (.panic ch) a' w')
    (hQ : ∀ (v87 v88 v89 v90 v91 v92 v93 v94 v95 v96 v97 v98 v99 v100 v101 v102 v103 v104 v105 v106 v107 v108 : Value) (w' : World), Below X.heap.size X w' → Q .normal ⟨#[u0, .pointer (some ⟨q, 0, none⟩), .bool true, .pointer (some ⟨p, 0, none⟩), u4, u5, u6, .pointer (some ⟨p2, 0, none⟩), u8, u9, u10, u11, u12, u13, u14, u15, u16, u17, u18, u19, u20, u21, u22, u23, u24, u25, u26, u27, u28, u29, u30, u31, u32, u33, u34, u35, u36, u37, u38, u39, u40, u41, u42, u43, u44, u45, u46, u47, u48, u49, u50, u51, u52, u53, u54, u55, u56, u57, u58, u59, u60, u61, u62, u63, u64, u65, u66, u67, u68, u69, u70, u71, u72, u73, u74, u75, u76, u77, u78, u79, u80, u81, u82, u83, u84, u85, u86, v87, v88, v89, v90, v91, v92, v93, v94, v95, v96, v97, v98, v99, v100, v101, v102, v103, v104, v105, v106, v107, v108], []⟩ w') :
    Code.wp Tryd.prog R16 Q ⟨#[u0, .pointer (some ⟨q, 0, none⟩), u2, .pointer (some ⟨p, 0, none⟩), u4, u5, u6, .pointer (some ⟨p2, 0, none⟩), u8, u9, u10, u11, u12, u13, u14, u15, u16, u17, u18, u19, u20, u21, u22, u23, u24, u25, u26, u27, u28, u29, u30, u31, u32, u33, u34, u35, u36, u37, u38, u39, u40, u41, u42, u43, u44, u45, u46, u47, u48, u49, u50, u51, u52, u53, u54, u55, u56, u57, u58, u59, u60, u61, u62, u63, u64, u65, u66, u67, u68, u69, u70, u71, u72, u73, u74, u75, u76, u77, u78, u79, u80, u81, u82, u83, u84, u85, u86, u87, u88, u89, u90, u91, u92, u93, u94, u95, u96, u97, u98, u99, u100, u101, u102, u103, u104, u105, u106, u107, u108], []⟩ X := by
  conv => arg 2; whnf
  have HP := Lib.hid hP
  have HQ := Lib.hid hQ
  clear hP hQ
  have HDA := Lib.hid (show Below X.heap.size X X.drew from (Below.refl X.heap.size X).drew)
  refine wp_region_held_drew (S := fun u => u.cell? ⟨q, 0, none⟩ = some (.slice ba nb bc) ∧ u.cell? ⟨q, 1, none⟩ = some (.slice la n lc)) (by kernel_rfl) (by first | exact HKP.out _ hbu | exact HKP.out _ HDA.out) (fun hHeld => ?_)
  refine wpAnyH_take (i := 0) (oi := ?_) (v := ?_) (by (simp only [List.getElem?_toArray, List.getElem?_cons_zero]; rfl)) (by kernel_rfl) (by kernel_rfl) (by kernel_rfl) (by exact fun _ _ _ h => HP.out _ _ _ _ (by rfl) h) (Or.inl ⟨by rfl, ?_⟩) (by assumption) ?_
  rotate_left 1
  · (intro w' hSw; (try dsimp only at hSw); go_simp; first | done | with_reducible rfl)
  try simp only [Act.put, List.setIfInBounds_toArray, List.set_cons_zero, List.set_cons_succ]
  refine wpAnyH_take (i := 2) (oi := ?_) (v := ?_) (by (simp only [List.getElem?_toArray, List.getElem?_cons_succ, List.getElem?_cons_zero]; rfl)) (by kernel_rfl) (by kernel_rfl) (by kernel_rfl) (by exact fun _ _ _ h => HP.out _ _ _ _ (by rfl) h) (Or.inl ⟨by rfl, ?_⟩) (by assumption) ?_
  rotate_left 1
  · (intro w' hSw; (try dsimp only at hSw); go_simp; first | done | with_reducible rfl)
  try simp only [Act.put, List.setIfInBounds_toArray, List.set_cons_zero, List.set_cons_succ]
  refine wpAnyH_take (i := 3) (oi := ?_) (v := ?_) (by (simp only [List.getElem?_toArray, List.getElem?_cons_succ, List.getElem?_cons_zero]; rfl)) (by kernel_rfl) (by kernel_rfl) (by kernel_rfl) (by exact fun _ _ _ h => HP.out _ _ _ _ (by rfl) h) (Or.inl ⟨by rfl, ?_⟩) (by assumption) ?_
  rotate_left 1
  · (intro w' hSw; (try dsimp only at hSw); go_simp; first | done | with_reducible rfl)
  try simp only [Act.put, List.setIfInBounds_toArray, List.set_cons_zero, List.set_cons_succ]
  refine wpAnyH_ready (rs := [1]) (by kernel_rfl) (by simp) ?_
  refine AllReadyH.cons (o := ?_) (by (simp only [List.getElem?_toArray, List.getElem?_cons_succ, List.getElem?_cons_zero]; rfl)) (fun K hK => ?_) AllReadyH.nil
  refine Eq.mpr (if_pos (by rfl)) ?_
  go_wp2_with (go_at_call 12; (with_reducible refine (HA1.out _ HDA.out).mono ?_); rintro e wa ⟨gx, Rx, rfl, -, hhx, hbx⟩; have hbu := HDA.out.trans (hbx.mono HDA.out.size); have HHX := Lib.hid hhx; clear hhx hbx)
  refine hK.out _ _ (by first | exact HKP.out _ hbu | exact HKP.out _ HDA.out) (fun hHeld => ?_)
  clear hK K
  try simp only [Act.put, List.setIfInBounds_toArray, List.set_cons_zero, List.set_cons_succ]
  refine wpAnyH_ready (rs := [4]) (by kernel_rfl) (by simp) ?_
  refine AllReadyH.cons (o := ?_) (by (simp only [List.getElem?_toArray, List.getElem?_cons_succ, List.getElem?_cons_zero]; rfl)) (fun K hK => ?_) AllReadyH.nil
  refine Eq.mpr (if_pos (by rfl)) ?_
  go_wp2_with (go_at_call 14; (with_reducible refine (HS1.out _ _ _ hbu HHX.out).mono ?_); rintro e wb ⟨rfl, hby⟩; have hbu := hbu.trans (hby.mono hbu.size); clear hby)
  refine hK.out _ _ (by first | exact HKP.out _ hbu | exact HKP.out _ HDA.out) (fun hHeld => ?_)
  clear hK K
  try simp only [Act.put, List.setIfInBounds_toArray, List.set_cons_zero, List.set_cons_succ]
  refine wpAnyH_take (i := 5) (oi := ?_) (v := ?_) (by (simp only [List.getElem?_toArray, List.getElem?_cons_succ, List.getElem?_cons_zero]; rfl)) (by kernel_rfl) (by kernel_rfl) (by kernel_rfl) (by exact fun _ _ _ h => HP.out _ _ _ _ (by rfl) h) (Or.inl ⟨by rfl, ?_⟩) (by assumption) ?_
  rotate_left 1
  · (intro w' hSw; (try dsimp only at hSw); go_simp; first | done | with_reducible rfl)
  try simp only [Act.put, List.setIfInBounds_toArray, List.set_cons_zero, List.set_cons_succ]
  refine wpAnyH_take (i := 6) (oi := ?_) (v := ?_) (by (simp only [List.getElem?_toArray, List.getElem?_cons_succ, List.getElem?_cons_zero]; rfl)) (by kernel_rfl) (by kernel_rfl) (by kernel_rfl) (by exact fun _ _ _ h => HP.out _ _ _ _ (by rfl) h) (Or.inl ⟨by rfl, ?_⟩) (by assumption) ?_
  rotate_left 1
  · (intro w' hSw; (try dsimp only at hSw); go_simp; first | done | with_reducible rfl)
  try simp only [Act.put, List.setIfInBounds_toArray, List.set_cons_zero, List.set_cons_succ]
  refine wpAnyH_take (i := 8) (oi := ?_) (v := ?_) (by (simp only [List.getElem?_toArray, List.getElem?_cons_succ, List.getElem?_cons_zero]; rfl)) (by kernel_rfl) (by kernel_rfl) (by kernel_rfl) (by exact fun _ _ _ h => HP.out _ _ _ _ (by rfl) h) (Or.inl ⟨by rfl, ?_⟩) (by assumption) ?_
  rotate_left 1
  · (intro w' hSw; (try dsimp only at hSw); go_simp; first | done | with_reducible rfl)
  try simp only [Act.put, List.setIfInBounds_toArray, List.set_cons_zero, List.set_cons_succ]
  refine wpAnyH_take (i := 9) (oi := ?_) (v := ?_) (by (simp only [List.getElem?_toArray, List.getElem?_cons_succ, List.getElem?_cons_zero]; rfl)) (by kernel_rfl) (by kernel_rfl) (by kernel_rfl) (by exact fun _ _ _ h => HP.out _ _ _ _ (by rfl) h) (Or.inl ⟨by rfl, ?_⟩) (by assumption) ?_
  rotate_left 1
  · (intro w' hSw; (try dsimp only at hSw); go_simp; first | done | with_reducible rfl)
  try simp only [Act.put, List.setIfInBounds_toArray, List.set_cons_zero, List.set_cons_succ]
  refine wpAnyH_ready (rs := [7]) (by kernel_rfl) (by simp) ?_
  refine AllReadyH.cons (o := ?_) (by (simp only [List.getElem?_toArray, List.getElem?_cons_succ, List.getElem?_cons_zero]; rfl)) (fun K hK => ?_) AllReadyH.nil
  refine Eq.mpr (if_pos (by rfl)) ?_
  go_wp2_with (go_at_call 13; (with_reducible refine (HA2.out _ hbu).mono ?_); rintro e wc ⟨gy, Ry, rfl, -, hhy, hby⟩; have hbu := hbu.trans (hby.mono hbu.size); have HHY := Lib.hid hhy; clear hhy hby)
  refine hK.out _ _ (by first | exact HKP.out _ hbu | exact HKP.out _ HDA.out) (fun hHeld => ?_)
  clear hK K
  try simp only [Act.put, List.setIfInBounds_toArray, List.set_cons_zero, List.set_cons_succ]
  refine wpAnyH_ready (rs := [10]) (by kernel_rfl) (by simp) ?_
  refine AllReadyH.cons (o := ?_) (by (simp only [List.getElem?_toArray, List.getElem?_cons_succ, List.getElem?_cons_zero]; rfl)) (fun K hK => ?_) AllReadyH.nil
  refine Eq.mpr (if_pos (by rfl)) ?_
  go_wp2_with (go_at_call 15; (with_reducible refine (HS2.out _ _ _ hbu HHY.out).mono ?_); rintro e wd ⟨rfl, hby⟩; have hbu := hbu.trans (hby.mono hbu.size); clear hby)
  refine hK.out _ _ (by first | exact HKP.out _ hbu | exact HKP.out _ HDA.out) (fun hHeld => ?_)
  clear hK K
  try simp only [Act.put, List.setIfInBounds_toArray, List.set_cons_zero, List.set_cons_succ]
  refine wpAnyH_take (i := 11) (oi := ?_) (v := ?_) (by (simp only [List.getElem?_toArray, List.getElem?_cons_succ, List.getElem?_cons_zero]; rfl)) (by kernel_rfl) (by kernel_rfl) (by kernel_rfl) (by exact fun _ _ _ h => HP.out _ _ _ _ (by rfl) h) (Or.inl ⟨by rfl, ?_⟩) (by assumption) ?_
  rotate_left 1
  · (intro w' hSw; (try dsimp only at hSw); go_simp; first | done | with_reducible rfl)
  try simp only [Act.put, List.setIfInBounds_toArray, List.set_cons_zero, List.set_cons_succ]
  refine wpAnyH_take (i := 12) (oi := ?_) (v := ?_) (by (simp only [List.getElem?_toArray, List.getElem?_cons_succ, List.getElem?_cons_zero]; rfl)) (by kernel_rfl) (by kernel_rfl) (by kernel_rfl) (by exact fun _ _ _ h => HP.out _ _ _ _ (by rfl) h) (Or.inl ⟨by rfl, ?_⟩) (by assumption) ?_
  rotate_left 1
  · (intro w' hSw; (try dsimp only at hSw); go_simp; first | done | with_reducible rfl)
  try simp only [Act.put, List.setIfInBounds_toArray, List.set_cons_zero, List.set_cons_succ]
  refine wpAnyH_take (i := 13) (oi := ?_) (v := ?_) (by (simp only [List.getElem?_toArray, List.getElem?_cons_succ, List.getElem?_cons_zero]; rfl)) (by kernel_rfl) (by kernel_rfl) (by kernel_rfl) (by exact fun _ _ _ h => HP.out _ _ _ _ (by rfl) h) (Or.inl ⟨by rfl, ?_⟩) (by assumption) ?_
  rotate_left 1
  · (intro w' hSw; (try dsimp only at hSw); go_simp; first | done | with_reducible rfl)
  try simp only [Act.put, List.setIfInBounds_toArray, List.set_cons_zero, List.set_cons_succ]
  refine wpAnyH_take (i := 15) (oi := ?_) (v := ?_) (by (simp only [List.getElem?_toArray, List.getElem?_cons_succ, List.getElem?_cons_zero]; rfl)) (by kernel_rfl) (by kernel_rfl) (by kernel_rfl) (by exact fun _ _ _ h => HP.out _ _ _ _ (by rfl) h) (Or.inl ⟨by rfl, ?_⟩) (by assumption) ?_
  rotate_left 1
  · (intro w' hSw; (try dsimp only at hSw); go_simp; first | done | with_reducible rfl)
  try simp only [Act.put, List.setIfInBounds_toArray, List.set_cons_zero, List.set_cons_succ]
  refine wpAnyH_take (i := 16) (oi := ?_) (v := ?_) (by (simp only [List.getElem?_toArray, List.getElem?_cons_succ, List.getElem?_cons_zero]; rfl)) (by kernel_rfl) (by kernel_rfl) (by kernel_rfl) (by exact fun _ _ _ h => HP.out _ _ _ _ (by rfl) h) (Or.inl ⟨by rfl, ?_⟩) (by assumption) ?_
  rotate_left 1
  · (intro w' hSw; (try dsimp only at hSw); go_simp; first | done | with_reducible rfl)
  try simp only [Act.put, List.setIfInBounds_toArray, List.set_cons_zero, List.set_cons_succ]
  refine wpAnyH_ready (rs := [14]) (by kernel_rfl) (by simp) ?_
  refine AllReadyH.cons (o := ?_) (by (simp only [List.getElem?_toArray, List.getElem?_cons_succ, List.getElem?_cons_zero]; rfl)) (fun K hK => ?_) AllReadyH.nil
  refine Eq.mpr (if_pos (by rfl)) ?_
  go_wp2_with (go_at_call 12; (with_reducible refine (HA3.out _ hbu).mono ?_); rintro e we ⟨gz, Rz, rfl, -, hhz, hby⟩; have hbu := hbu.trans (hby.mono hbu.size); have HHZ := Lib.hid hhz; clear hhz hby)
  refine hK.out _ _ (by first | exact HKP.out _ hbu | exact HKP.out _ HDA.out) (fun hHeld => ?_)
  clear hK K
  try simp only [Act.put, List.setIfInBounds_toArray, List.set_cons_zero, List.set_cons_succ]
  refine wpAnyH_ready (rs := [17]) (by kernel_rfl) (by simp) ?_
  refine AllReadyH.cons (o := ?_) (by (simp only [List.getElem?_toArray, List.getElem?_cons_succ, List.getElem?_cons_zero]; rfl)) (fun K hK => ?_) AllReadyH.nil
  refine Eq.mpr (if_pos (by rfl)) ?_
  go_wp2_with (go_at_call 14; (with_reducible refine (HS1.out _ _ _ hbu HHZ.out).mono ?_); rintro e wf ⟨rfl, hby⟩; have hbu := hbu.trans (hby.mono hbu.size); clear hby)
  refine hK.out _ _ (by first | exact HKP.out _ hbu | exact HKP.out _ HDA.out) (fun hHeld => ?_)
  clear hK K
  try simp only [Act.put, List.setIfInBounds_toArray, List.set_cons_zero, List.set_cons_succ]
  refine wpAnyH_take (i := 18) (oi := ?_) (v := ?_) (by (simp only [List.getElem?_toArray, List.getElem?_cons_succ, List.getElem?_cons_zero]; rfl)) (by kernel_rfl) (by kernel_rfl) (by kernel_rfl) (by exact fun _ _ _ h => HP.out _ _ _ _ (by rfl) h) (Or.inl ⟨by rfl, ?_⟩) (by assumption) ?_
  rotate_left 1
  · (intro w' hSw; (try dsimp only at hSw); go_simp; first | done | with_reducible rfl)
  try simp only [Act.put, List.setIfInBounds_toArray, List.set_cons_zero, List.set_cons_succ]
  refine wpAnyH_take (i := 19) (oi := ?_) (v := ?_) (by (simp only [List.getElem?_toArray, List.getElem?_cons_succ, List.getElem?_cons_zero]; rfl)) (by kernel_rfl) (by kernel_rfl) (by kernel_rfl) (by exact fun _ _ _ h => HP.out _ _ _ _ (by rfl) h) (Or.inl ⟨by rfl, ?_⟩) (by assumption) ?_
  rotate_left 1
  · (intro w' hSw; (try dsimp only at hSw); go_simp; first | done | with_reducible rfl)
  try simp only [Act.put, List.setIfInBounds_toArray, List.set_cons_zero, List.set_cons_succ]
  refine wpAnyH_ready (rs := [20]) (by kernel_rfl) (by simp) ?_
  refine AllReadyH.cons (o := ?_) (by (simp only [List.getElem?_toArray, List.getElem?_cons_succ, List.getElem?_cons_zero]; rfl)) (fun K hK => ?_) AllReadyH.nil
  refine Eq.mpr (if_pos (by rfl)) ?_
  go_wp2_with (go_at_call 9; (with_reducible refine (lives_any _).mono ?_); rintro e wg ⟨rfl, hby⟩; have hbu := hbu.trans (hby.mono hbu.size); clear hby)
  refine hK.out _ _ (by first | exact HKP.out _ hbu | exact HKP.out _ HDA.out) (fun hHeld => ?_)
  clear hK K
  try simp only [Act.put, List.setIfInBounds_toArray, List.set_cons_zero, List.set_cons_succ]
  refine wpAnyH_take (i := 21) (oi := ?_) (v := ?_) (by (simp only [List.getElem?_toArray, List.getElem?_cons_succ, List.getElem?_cons_zero]; rfl)) (by kernel_rfl) (by kernel_rfl) (by kernel_rfl) (by exact fun _ _ _ h => HP.out _ _ _ _ (by rfl) h) (Or.inl ⟨by rfl, ?_⟩) (by assumption) ?_
  rotate_left 1
  · (intro w' hSw; (try dsimp only at hSw); go_simp; first | done | with_reducible rfl)
  try simp only [Act.put, List.setIfInBounds_toArray, List.set_cons_zero, List.set_cons_succ]
  refine wpAnyH_take (i := 22) (oi := ?_) (v := ?_) (by (simp only [List.getElem?_toArray, List.getElem?_cons_succ, List.getElem?_cons_zero]; rfl)) (by kernel_rfl) (by kernel_rfl) (by kernel_rfl) (by exact fun _ _ _ h => HP.out _ _ _ _ (by rfl) h) (Or.inl ⟨by rfl, ?_⟩) (by assumption) ?_
  rotate_left 1
  · (intro w' hSw; (try dsimp only at hSw); go_simp; first | done | with_reducible rfl)
  try simp only [Act.put, List.setIfInBounds_toArray, List.set_cons_zero, List.set_cons_succ]
  refine wpAnyH_done (by kernel_rfl) ?_ _
  exact HQ.out _ _ _ _ _ _ _ _ _ _ _ _ _ _ _ _ _ _ _ _ _ _ _ hbu
end Go.Proofs.YtacibennmcegfaaDoor
