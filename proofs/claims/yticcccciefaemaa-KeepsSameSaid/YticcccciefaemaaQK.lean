/- KeepsMore's walk where it is gone through. No condition. -/
import Derived.Test.YticcccciefaemaaQJ
import Derived.Deep.RegionHeld3
namespace Go.Proofs.Yticcccciefaemaa
open Go.RowKit Go.Shelf Go.Herb
attribute [local go_sem ↓] Go.wp_at_zero Go.wp_at_succ

theorem keep_watch (al : Option Addr) (cl : Nat) (xs : List Fc) (b : Nat) (x : Wt) (w : World) (hL : Facts w al xs) (hb : w.heap[b]? = some (.cells #[.slice x.a x.cs.length x.c, .int .u64 x.at_, .bool x.on] (27) (0, 0))) (hl : Links w x.a x.cs) (hf : x.cs.length < 1000000) (hxl : xs.length < 1000) :
    Calls Try.prog (8) #[.slice al xs.length cl, .slice (some ⟨b, 0, none⟩) 1 1] w (KeepPost xs [x] w) :=
  keep_any al cl xs _ 1 [x] w hL (watch_of_blk hb hl hf) hxl (show 1 < 1000 by decide)

theorem later_at (a : Int) (h : (Lit.int .u64 a).wf = true) : ∃ b : Int, IntKind.u64.wrap (a + min 3 (IntKind.u64.wrap (18446744073709551615 - a))) = b ∧ a ≤ b ∧ (Lit.int .u64 b).wf = true := by
  have hb := bounds_u64 h
  have e1 : IntKind.u64.wrap (18446744073709551615 - a) = 18446744073709551615 - a := IntWalk.u64_in _ (by omega)
  have e2 : IntKind.u64.wrap (a + min 3 (18446744073709551615 - a)) = a + min 3 (18446744073709551615 - a) := IntWalk.u64_in _ (by omega)
  refine ⟨a + min 3 (18446744073709551615 - a), by rw [e1, e2], by omega, ?_⟩
  simp [Lit.wf, IntKind.min, IntKind.max, IntKind.signed, IntKind.bits]
  omega
theorem facts_set {w : World} {a : Option Addr} {ys : List Fc} {bx j : Nat} {c0 c1 c2 v : Value} {t : TypeId} (h : Facts w a ys) (hb : w.heap[bx]? = some (.cells #[c0, c1, c2] t (0, 0))) : Facts (w.setCell ⟨bx, j, none⟩ v) a ys :=
  ⟨fun i hi => by
    obtain ⟨b, o, ha, hlt, hc⟩ := h.get i hi
    have hne : b ≠ bx := by
      intro e
      subst e
      have h5 := hc 5 _ rfl
      rw [cell_of_blk hb] at h5
      have : (#[c0, c1, c2] : Array Value)[o + i * 6 + 5]? = none := Array.getElem?_eq_none (by simp)
      rw [this] at h5
      cases h5
    exact ⟨b, o, ha, by simpa [World.setCell] using hlt, fun q c hq => (World.cell?_of_block (w := w) (Below.heap_setCell w ⟨bx, j, none⟩ v b hne)).trans (hc q c hq)⟩⟩
theorem blk_set1 {w : World} {b : Nat} {c0 c1 c2 : Value} {t : TypeId} (h : w.heap[b]? = some (.cells #[c0, c1, c2] t (0, 0))) (v : Value) : (w.setCell ⟨b, 1, none⟩ v).heap[b]? = some (.cells #[c0, v, c2] t (0, 0)) := by
  rw [blk_setCell h]; rfl
theorem blk_set2 {w : World} {b : Nat} {c0 c1 c2 : Value} {t : TypeId} (h : w.heap[b]? = some (.cells #[c0, c1, c2] t (0, 0))) (v : Value) : (w.setCell ⟨b, 2, none⟩ v).heap[b]? = some (.cells #[c0, c1, v] t (0, 0)) := by
  rw [blk_setCell h]; rfl

set_option maxRecDepth 100000 in
set_option maxHeartbeats 2000000 in
theorem keepsMore_small (al : Option Addr) (cl : Nat) (xs : List Fc) (aw : Option Addr) (cw : Nat) (ws : List Wt) (x : Wt) (w : World) (hL : SlIn fc 6 w al cl xs) (hW : SlIn wc 3 w aw cw ws) (hWs : ∀ y ∈ ws, SlIn lc 2 w y.a y.c y.cs) (hX : SlIn lc 2 w x.a x.c x.cs)
    (h1 : greatB xs.length ws = false) (h2 : greatB xs.length [x] = false) (h3 : ¬ 20 < ws.length) :
    Calls Try.prog (3) #[.slice al xs.length cl, .slice aw ws.length cw, .agg #[.slice x.a x.cs.length x.c, .int .u64 x.at_, .bool x.on]] w fun e w' => e = .returned (.bool true) ∧ Below w.heap.size w w' := by
  have hxl : xs.length ≤ 80 := by
    rw [greatB_one] at h2
    simp at h2
    omega
  have hxc : x.cs.length ≤ 40 := by
    rw [greatB_one] at h2
    simp at h2
    omega
  have hwc : ∀ y ∈ ws, y.cs.length < 1000000 := by
    intro y hy
    unfold greatB at h1
    simp at h1
    have := h1.2.1 y hy
    omega
  have hwl : ws.length ≤ 20 := by omega
  have HXL := Lib.hid hL.lenle
  have HWL := Lib.hid hW.lenle
  have HL := Lib.hid hL.els
  have HW := Lib.hid (⟨hW.els, fun y hy => (hWs y hy).els, hwc⟩ : Watches w aw ws)
  have HWN := Lib.hid hW.none
  have HCS := Lib.hid (show ∀ y ∈ ws, y.cs.length ≤ maxLen from fun y hy => (hWs y hy).lenle)
  have HXC := Lib.hid hX.lenle
  have HXE := Lib.hid hX.els
  have HG := Lib.hid h1
  have HG2 := Lib.hid h2
  have hwm : ws.length ≤ 9223372036854775807 := by omega
  clear hL hW hWs hX h1 h2 hwc h3
  go_enter Try.func3, Try.ntmps3
  go_wp2_with fail
  have hbx : Below w.heap.size w (w.alloc (.cells #[.slice x.a x.cs.length x.c, .int .u64 x.at_, .bool x.on] (27))) := (Below.refl _ _).alloc (Nat.le_refl _) _
  refine (greatK_any al xs.length cl aw cw ws _ HXL.out HWL.out (HW.out.els.ext hbx) HCS.out).mono ?_
  rintro e w1 ⟨rfl, rfl⟩
  rw [HG.out]
  clear hbx
  go_wp2_with fail
  refine (greatK_any al xs.length cl _ 1 [x] _ HXL.out (show 1 ≤ maxLen by unfold maxLen; decide) (wts_of_one (blk_new_at (by simp) _)) (fun y hy => by rw [List.mem_singleton.1 hy]; exact HXC.out)).mono ?_
  rintro e w1 ⟨rfl, rfl⟩
  rw [HG2.out]
  obtain ⟨W, hW⟩ : ∃ W : World, W = (w.alloc (.cells #[.slice x.a x.cs.length x.c, .int .u64 x.at_, .bool x.on] (27))).alloc (.cells #[.slice x.a x.cs.length x.c, .int .u64 x.at_, .bool x.on] (27)) := ⟨_, rfl⟩
  have hBW : Below w.heap.size w W := by rw [hW]; exact ((Below.refl _ _).alloc (Nat.le_refl _) _).alloc (by simp) _
  have hb0 : W.heap[w.heap.size]? = some (.cells #[.slice x.a x.cs.length x.c, .int .u64 x.at_, .bool x.on] (27) (0, 0)) := by rw [hW]; exact blk_alloc (blk_new_at rfl _)
  rw [← hW]
  have HBW := Lib.hid hBW
  have HB0 := Lib.hid hb0
  clear hW hBW hb0 HG HG2 HXL HWL HXC HCS
  go_wp2_with fail
  refine (keep_any al cl xs aw cw ws W (HL.out.ext HBW.out) (HW.out.ext HBW.out) (by omega) (by omega)).mono ?_
  rintro e w2 ⟨a1, ys1, rfl, hk1, hF1, hn1, hl1, hB2⟩
  have hbb := blk_below HB0.out hB2 (lt_of_blk HB0.out)
  have HK1 := Lib.hid hk1
  have HF1 := Lib.hid hF1
  have HB2 := Lib.hid (HBW.out.trans (hB2.mono HBW.out.size))
  have HX2 := Lib.hid hbb
  have t0 := cell_of_blk hbb 0
  have t1 := cell_of_blk hbb 1
  have t2 := cell_of_blk hbb 2
  simp at t0 t1 t2
  have hlt2 := lt_of_blk hbb
  have HWE2 := Lib.hid (HW.out.els.ext HB2.out)
  clear hk1 hF1 hn1 hB2 hbb HB0
  have hall : ∀ (v : Value) (u : World), OwnWt w2.heap.size u v (ws ++ [x]) → Below w2.heap.size w2 u → ∃ (av : Option Addr) (cv : Nat), v = .slice av (ws ++ [x]).length cv ∧ Calls Try.prog (8) #[.slice al xs.length cl, .slice av (ws ++ [x]).length cv] u (KeepPost xs (ws ++ [x]) u) := by
    intro v u hO hb
    obtain ⟨av, cv, rfl, _, hE⟩ := els_of_owns wc_len hO
    have hbw := HB2.out.trans (hb.mono HB2.out.size)
    have hWW := HW.out.ext hbw
    refine ⟨av, cv, rfl, keep_any al cl xs av cv (ws ++ [x]) u (HL.out.ext hbw) ⟨hE, ?_, ?_⟩ (by omega) (by rw [List.length_append, List.length_singleton]; omega)⟩
    · intro y hy
      rcases List.mem_append.1 hy with hy | hy
      · exact hWW.links y hy
      · rw [List.mem_singleton.1 hy]; exact HXE.out.ext hbw
    · intro y hy
      rcases List.mem_append.1 hy with hy | hy
      · exact hWW.few y hy
      · rw [List.mem_singleton.1 hy]; omega
  have HALL := Lib.hid hall
  clear hall
  have hws1 : ws.length < 1000000 := by omega
  go_wp2_with fail
  go_region_held3 (fun w' => w'.cell? ⟨w.heap.size, 0, none⟩ = some (.slice x.a x.cs.length x.c) ∧ w'.cell? ⟨w.heap.size, 1, none⟩ = some (.int .u64 x.at_) ∧ w'.cell? ⟨w.heap.size, 2, none⟩ = some (.bool x.on)) (go_keep)
    (first | (refine wp_append_wts (.const (.slice none 0 0)) (.tmp 30) (by rfl) w2.heap.size (.slice none 0 0) [] aw cw ws (by rfl) (by rfl) (World.ownsRow_nil _ _ _ _) (HWE2.out.ext (by first | exact (Below.refl _ _).drew | go_grown)) (by simp) hws1 HWN.out (by simp) ?_; intro v1 w3 hO1 hg1; have hb1 : Below w2.heap.size w2 w3 := Below.grown (by first | exact (Below.refl _ _).drew | go_grown) hg1 (by simp) (fun k e => by cases e); have q0 := (hb1.cell (p := ⟨w.heap.size, 0, none⟩) hlt2).trans t0; have q1 := (hb1.cell (p := ⟨w.heap.size, 1, none⟩) hlt2).trans t1; have q2 := (hb1.cell (p := ⟨w.heap.size, 2, none⟩) hlt2).trans t2)
           | (refine wp_append_wts (.tmp 31) (.tmp 33) (by rfl) w2.heap.size v1 ws (some ⟨w3.heap.size, 0, none⟩) 1 [x] (by rfl) (by rfl) (ownsRow_below hO1 (by go_grown) (Nat.le_refl _)) (wts_of_one (blk_new_at (by rfl) _)) hws1 (by simp) (fun h => by cases h) (by have := hb1.size; first | omega | (simp only [World.size_alloc]; omega)) ?_; intro v2 w4 hO2 hg2; have hb2 : Below w2.heap.size w2 w4 := Below.grown (by first | exact hb1.alloc hb1.size _ | exact (hb1.alloc hb1.size _).drew | exact (hb1.drew).alloc hb1.size _) hg2 (by have := hb1.size; first | omega | (simp only [World.size_alloc]; omega)) (fun k e => (World.ownsRow.lt hO1 k e).1); have r0 := (hb2.cell (p := ⟨w.heap.size, 0, none⟩) hlt2).trans t0; have r1 := (hb2.cell (p := ⟨w.heap.size, 1, none⟩) hlt2).trans t1; have r2 := (hb2.cell (p := ⟨w.heap.size, 2, none⟩) hlt2).trans t2)
           | (refine wp_append_wts (.tmp 31) (.tmp 33) (by rfl) w2.heap.size v1 ws (some ⟨w2.heap.size, 0, none⟩) 1 [x] (by rfl) (by rfl) hO1 (wts_of_one ((hg1.block _ (by simp) (fun e => by cases e)).trans (blk_new_at (by rfl) _))) hws1 (by simp) (fun h => by cases h) hb1.size ?_; intro v2 w4 hO2 hg2; have hb2 : Below w2.heap.size w2 w4 := Below.grown hb1 hg2 hb1.size (fun k e => (World.ownsRow.lt hO1 k e).1); have r0 := (hb2.cell (p := ⟨w.heap.size, 0, none⟩) hlt2).trans t0; have r1 := (hb2.cell (p := ⟨w.heap.size, 1, none⟩) hlt2).trans t1; have r2 := (hb2.cell (p := ⟨w.heap.size, 2, none⟩) hlt2).trans t2)
           | (obtain ⟨av, cv, rfl, hcon⟩ := HALL.out _ _ hO2 hb2; go_at_call 8; refine (hcon).mono ?_; rintro e w5 ⟨a2, ys2, rfl, hk2, hF2, hn2, hl2, hB5⟩; have hb5 : Below w2.heap.size w2 w5 := hb2.trans (hB5.mono hb2.size); have m0 := (hb5.cell (p := ⟨w.heap.size, 0, none⟩) hlt2).trans t0; have m1 := (hb5.cell (p := ⟨w.heap.size, 1, none⟩) hlt2).trans t1; have m2 := (hb5.cell (p := ⟨w.heap.size, 2, none⟩) hlt2).trans t2))
  all_goals
    rename_i hheld
    have HK2 := Lib.hid hk2
    have HF2 := Lib.hid hF2
    have HF1' := Lib.hid (HF1.out.ext hb5)
    have HB5 := Lib.hid (HB2.out.trans (hb5.mono HB2.out.size))
    have hbb5 := blk_below HX2.out hb5 hlt2
    have HX5 := Lib.hid hbb5
    clear hheld hk2 hF2 hn2 hb5 hbb5 hO1 hO2 hg1 hg2 hb1 hb2 hB5 hcon HALL HWE2 t0 t1 t2 HF1 HB2 HX2
    clear q0 q1 q2 r0 r1 r2 m0 m1 m2
    obtain ⟨V1, hV1⟩ : ∃ V1 : World, V1 = w5.setCell ⟨w.heap.size, 2, none⟩ (.bool true) := ⟨_, rfl⟩
    have hx1 : V1.heap[w.heap.size]? = some (.cells #[.slice x.a x.cs.length x.c, .int .u64 x.at_, .bool true] (27) (0, 0)) := by rw [hV1]; exact blk_set2 HX5.out _
    have hBV1 : Below w.heap.size w V1 := by rw [hV1]; exact HB5.out.setCell (Nat.le_refl _) _
    have hF1V : Facts V1 a1 ys1 := by rw [hV1]; exact facts_set HF1'.out HX5.out
    have hF2V : Facts V1 a2 ys2 := by rw [hV1]; exact facts_set HF2.out HX5.out
    have t0 := cell_of_blk HX5.out 0
    have t1 := cell_of_blk HX5.out 1
    have t2 := cell_of_blk HX5.out 2
    have f2 := frozen_of_blk HX5.out 2
    simp at t0 t1 t2
    have hl5 := lt_of_blk HX5.out
    have hszV : V1.heap.size = w5.heap.size := by rw [hV1]; simp [World.setCell]
    have HX6 := Lib.hid hx1
    have HBV1 := Lib.hid hBV1
    have HF1V := Lib.hid hF1V
    have HF2V := Lib.hid hF2V
    have hAl : Below V1.heap.size V1 (V1.alloc (.cells #[.slice x.a x.cs.length x.c, .int .u64 x.at_, .bool true] (27))) := (Below.refl _ _).alloc (Nat.le_refl _) _
    have hBA := hBV1.trans (hAl.mono hBV1.size)
    have hcon := keep_watch al cl xs w5.heap.size ⟨x.a, x.c, x.cs, x.at_, true, x.wt⟩ (V1.alloc (.cells #[.slice x.a x.cs.length x.c, .int .u64 x.at_, .bool true] (27))) (HL.out.ext hBA) (blk_new_at hszV.symm _) (HXE.out.ext hBA) (show x.cs.length < 1000000 by omega) (by omega)
    rw [hV1] at hcon
    have HCON := Lib.hid hcon
    have HV1 := Lib.hid hV1
    have HAL := Lib.hid hAl
    clear hx1 hBV1 hF1V hF2V hAl hBA hcon hV1 HX5 HB5 HF1' HF2 hszV
    go_wp2_with fail
    refine (HCON.out).mono ?_
    rw [← HV1.out]
    rintro e w6 ⟨a3, ys3, rfl, hk3, hF3, hn3, hl3, hB6⟩
    have hB6' := HAL.out.trans (hB6.mono HAL.out.size)
    have hbb6 := blk_below HX6.out hB6' (lt_of_blk HX6.out)
    have HK3 := Lib.hid hk3
    have HF36 := Lib.hid hF3
    have HF16 := Lib.hid (HF1V.out.ext hB6')
    have HF26 := Lib.hid (HF2V.out.ext hB6')
    have HB6 := Lib.hid (HBV1.out.trans (hB6'.mono HBV1.out.size))
    have HXX6 := Lib.hid hbb6
    clear hk3 hF3 hn3 hB6 hB6' hbb6 HCON HV1 HAL HX6 HBV1 HF1V HF2V t0 t1 t2 f2 hl5
    have t0 := cell_of_blk HXX6.out 0
    have t1 := cell_of_blk HXX6.out 1
    have t2 := cell_of_blk HXX6.out 2
    have f1 := frozen_of_blk HXX6.out 1
    simp at t0 t1 t2
    have hl6 := lt_of_blk HXX6.out
    go_wp2_with fail
    obtain ⟨at2, hat2, hle2, hwf2⟩ := later_at x.at_ x.wt
    rw [hat2]
    clear hat2 t0 t1 t2 f1
    obtain ⟨V2, hV2⟩ : ∃ V2 : World, V2 = w6.setCell ⟨w.heap.size, 1, none⟩ (.int .u64 at2) := ⟨_, rfl⟩
    have hBV2 : Below w.heap.size w V2 := by rw [hV2]; exact HB6.out.setCell (Nat.le_refl _) _
    have hF1V : Facts V2 a1 ys1 := by rw [hV2]; exact facts_set HF16.out HXX6.out
    have hF2V : Facts V2 a2 ys2 := by rw [hV2]; exact facts_set HF26.out HXX6.out
    have hF3V : Facts V2 a3 ys3 := by rw [hV2]; exact facts_set HF36.out HXX6.out
    have hszV : V2.heap.size = w6.heap.size := by rw [hV2]; simp [World.setCell]
    have hAl : Below V2.heap.size V2 (V2.alloc (.cells #[.slice x.a x.cs.length x.c, .int .u64 at2, .bool true] (27))) := (Below.refl _ _).alloc (Nat.le_refl _) _
    have hBA := hBV2.trans (hAl.mono hBV2.size)
    have hcon := keep_watch al cl xs w6.heap.size ⟨x.a, x.c, x.cs, at2, true, hwf2⟩ (V2.alloc (.cells #[.slice x.a x.cs.length x.c, .int .u64 at2, .bool true] (27))) (HL.out.ext hBA) (blk_new_at hszV.symm _) (HXE.out.ext hBA) (show x.cs.length < 1000000 by omega) (by omega)
    rw [← hV2]
    refine hcon.mono ?_
    rintro e w7 ⟨a4, ys4, rfl, hk4, hF4, hn4, hl4, hB7⟩
    have hB7' := hAl.trans (hB7.mono hAl.size)
    have HF17 := Lib.hid (hF1V.ext hB7')
    have HF27 := Lib.hid (hF2V.ext hB7')
    have HF37 := Lib.hid (hF3V.ext hB7')
    have HF47 := Lib.hid hF4
    have HB7 := Lib.hid (hBV2.trans (hB7'.mono hBV2.size))
    have HS1 := Lib.hid (keepIs_sub HK1.out HK2.out (kept_more (fun y hy => List.mem_append_left _ hy)))
    have HS2 := Lib.hid (keepIs_sub hk4 HK3.out (kept_later (x := ⟨x.a, x.c, x.cs, x.at_, true, x.wt⟩) (y := ⟨x.a, x.c, x.cs, at2, true, hwf2⟩) rfl rfl hle2))
    have hl2' : ys2.length < 1000000 := by omega
    have hl3' : ys3.length < 1000000 := by omega
    clear hV2 hBV2 hF1V hF2V hF3V hszV hAl hBA hcon hk4 hF4 hn4 hl4 hB7 hB7' hle2 HF16 HF26 HF36 HB6 HXX6 HK1 HK2 HK3 hl6
    go_wp2_with fail
    refine (within_any a1 a2 _ _ ys1 ys2 w7 HF17.out HF27.out HS1.out hl2').mono ?_
    rintro e w8 ⟨rfl, n8, rfl⟩
    have HF38 := Lib.hid (HF37.out.ext (below_drewN (Below.refl _ w7) n8))
    have HF48 := Lib.hid (HF47.out.ext (below_drewN (Below.refl _ w7) n8))
    go_wp2_with fail
    refine (within_any a4 a3 _ _ ys4 ys3 _ HF48.out HF38.out HS2.out hl3').mono ?_
    rintro e w9 ⟨rfl, n9, rfl⟩
    go_wp2_with fail
    refine (livesK_any _).mono ?_
    rintro e w10 ⟨rfl, hB10⟩
    have hbq : Below w7.heap.size w7 w10 := Below.trans (below_drewN (Below.refl _ w7) (n8 + n9)) hB10
    have HB10 := Lib.hid (HB7.out.trans (hbq.mono HB7.out.size))
    clear hbq
    clear hB10
    go_wp2
    go_ret
    exact ⟨rfl, HB10.out⟩

theorem keepsMore_any (al : Option Addr) (cl : Nat) (xs : List Fc) (aw : Option Addr) (cw : Nat) (ws : List Wt) (ac : Option Addr) (cc : Nat) (cs : List Lk) (at_ : Int) (on : Bool) (w : World) (hL : SlIn fc 6 w al cl xs) (hW : SlIn wc 3 w aw cw ws) (hWs : ∀ y ∈ ws, SlIn lc 2 w y.a y.c y.cs) (hX : SlIn lc 2 w ac cc cs) (hwt : (Lit.int .u64 at_).wf = true) :
    Calls Try.prog (3) #[.slice al xs.length cl, .slice aw ws.length cw, .agg #[.slice ac cs.length cc, .int .u64 at_, .bool on]] w fun e w' => e = .returned (.bool true) ∧ Below w.heap.size w w' := by
  cases h1 : greatB xs.length ws with
  | true => exact keepsMore_great al cl xs aw cw ws ⟨ac, cc, cs, at_, on, hwt⟩ w hL.lenle hW.lenle hW.els (fun y hy => (hWs y hy).lenle) hX.lenle (.inl h1)
  | false =>
    cases h2 : greatB xs.length [⟨ac, cc, cs, at_, on, hwt⟩] with
    | true => exact keepsMore_great al cl xs aw cw ws ⟨ac, cc, cs, at_, on, hwt⟩ w hL.lenle hW.lenle hW.els (fun y hy => (hWs y hy).lenle) hX.lenle (.inr ⟨h1, .inl h2⟩)
    | false =>
      by_cases h3 : 20 < ws.length
      · exact keepsMore_great al cl xs aw cw ws ⟨ac, cc, cs, at_, on, hwt⟩ w hL.lenle hW.lenle hW.els (fun y hy => (hWs y hy).lenle) hX.lenle (.inr ⟨h1, .inr ⟨h2, h3⟩⟩)
      · exact keepsMore_small al cl xs aw cw ws ⟨ac, cc, cs, at_, on, hwt⟩ w hL hW hWs hX h1 h2 h3
end Go.Proofs.Yticcccciefaemaa
