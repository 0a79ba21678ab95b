import Derived.Test.YthdjokcjajlnnaaW8
import Derived.Test.YthdjokcjajlnnaaW9
namespace Go.Proofs.Ythdjokcjajlnnaa
open Go.RowKit Go.Herb Go.Fl

set_option maxRecDepth 100000 in
set_option maxHeartbeats 1000000 in
theorem rof_wide (line : Int) (l0 l1 l2 : Lv) (ad : Option Addr) (cd : Nat) (ds : List Int) (w : World) (h0 : LvOk w l0) (h1 : LvOk w l1) (hn : 2 < l0.ts.length) :
    Calls Try.prog 9 #[.agg #[.int .u64 line, sv l0, sv l1, sv l2], .slice ad ds.length cd] w (Planned (ofP ds l0.ts l1.ts l2.ts) w) := by
  obtain ⟨a0, cap0, ts0⟩ := l0
  simp only at hn
  obtain ⟨b, o, rfl, hbl, -⟩ := h0.tabs.get 0 (by simp; omega)
  have H0 := Lib.hid h0
  have H1 := Lib.hid h1
  have hlen := h0.len
  simp only [sv] at *
  clear h0 h1
  have hp : ofP ds ts0 l1.ts l2.ts = ⟨0, 1, ts0, l1.ts.filter (meetB · (spanL ts0)), true⟩ := by simp [ofP, hn]
  have HP := Lib.hid hp
  clear hp
  have hnb : decide ((2 : Int) < (ts0.length : Int)) = true := by simp; omega
  obtain ⟨i0, hi, hz0, hz1, hz2⟩ := info_parts Try.info45
  go_enter Try.func9, Try.ntmps9
  go_wp2_with fail
  obtain ⟨W, hW⟩ : ∃ W : World, W = (w.alloc (Obj.cells #[.int .u64 line, .slice (some ⟨b, o, none⟩) ts0.length cap0, sv l1, sv l2] 26)).alloc (Obj.cells #[.int .i64 0, .int .i64 0, .slice none 0 0, .slice none 0 0] 36) := ⟨_, rfl⟩
  have hB0 : Below w.heap.size w W := by rw [hW]; go_grown
  have hz : W.heap.size = w.heap.size + 2 := by rw [hW]; simp
  have p1 : W.heap[w.heap.size]? = some (.cells #[.int .u64 line, .slice (some ⟨b, o, none⟩) ts0.length cap0, sv l1, sv l2] 26 (0, 0)) := by rw [hW]; exact blk_alloc (blk_new_at (by simp) _)
  have p2 : W.heap[w.heap.size + 1]? = some (.cells #[.int .i64 0, .int .i64 0, .slice none 0 0, .slice none 0 0] 36 (0, 0)) := by rw [hW]; exact blk_new_at (by simp) _
  rw [← hW]
  obtain ⟨-, c1, c2, -, -⟩ := blk_cells4 p1
  obtain ⟨d0, d1, d2, d3, f0, f1, f2, f3⟩ := blk_cells4 p2
  have hsz : w.heap.size + 1 < W.heap.size := by omega
  have hsz0 : w.heap.size < W.heap.size := by omega
  have HZ := Lib.hid hz
  clear hW hz p1 p2
  have hfl := Els.flat (H0.out.ext hB0).tabs tc_len (by decide)
  have HFL := Lib.hid hfl
  have cmet : ∀ W', Below W.heap.size W W' → Calls Try.prog 17 #[sv l1, .slice (some ⟨b, o, none⟩) ts0.length cap0] W' fun e w' => ∃ v, e = .returned v ∧ w'.ownsRow W.heap.size 45 4 v (l1.ts.filter (meetB · (spanL ts0))).length ((l1.ts.filter (meetB · (spanL ts0))).flatMap tc) ∧ Below W'.heap.size W' w' := by
    intro W' hW'
    exact (met_any l1 ⟨some ⟨b, o, none⟩, cap0, ts0⟩ W' ((H1.out.ext hB0).ext hW') ((H0.out.ext hB0).ext hW') (by simp; omega)).mono fun e w' ⟨v, he, hO, hb⟩ => ⟨v, he, ownsRow_mono hO hW'.size, hb⟩
  have CM := Lib.hid cmet
  clear hfl cmet
  go_region_held3 (fun w' => w'.cell? ⟨w.heap.size, 1, none⟩ = some (.slice (some ⟨b, o, none⟩) ts0.length cap0) ∧ w'.cell? ⟨w.heap.size, 2, none⟩ = some (sv l1)) (go_keep)
    (first | (go_at_call 17; refine (CM.out _ hb1).mono ?_; rintro e w3 ⟨vb, rfl, hO3, hb3⟩; have hb4 : Below W.heap.size W w3 := hb1.trans (hb3.mono hb1.size); have m1 := (hb4.cell (p := ⟨w.heap.size, 1, none⟩) hsz0).trans c1; have m2 := (hb4.cell (p := ⟨w.heap.size, 2, none⟩) hsz0).trans c2; have d0' := (hb4.cell (p := ⟨w.heap.size + 1, 0, none⟩) hsz).trans d0; have d1' := (hb4.cell (p := ⟨w.heap.size + 1, 1, none⟩) hsz).trans d1; have d2' := (hb4.cell (p := ⟨w.heap.size + 1, 2, none⟩) hsz).trans d2; have d3' := (hb4.cell (p := ⟨w.heap.size + 1, 3, none⟩) hsz).trans d3; have f0' := (hb4.frozen (p := ⟨w.heap.size + 1, 0, none⟩) hsz).trans f0; have f1' := (hb4.frozen (p := ⟨w.heap.size + 1, 1, none⟩) hsz).trans f1; have f2' := (hb4.frozen (p := ⟨w.heap.size + 1, 2, none⟩) hsz).trans f2; have f3' := (hb4.frozen (p := ⟨w.heap.size + 1, 3, none⟩) hsz).trans f3; obtain ⟨lb, rfl, htb, -⟩ := lvOk_of_owns hO3 (Nat.le_trans (List.length_filter_le _ _) H1.out.len) (fun t ht => H1.out.wf t (List.mem_filter.1 ht).1); have HO3 := Lib.hid hO3; have HO1' := Lib.hid (ownsRow_below HO1.out hb3 (Nat.le_refl _)); clear hO3 htb HO1)
           | (refine wp_append_own _ (.const (.slice none 0 0)) (.tmp 19) 23 rfl W.heap.size 45 i0 _ 4 48 Try.underlying23 hi hz0 hz1 hz2 rfl (by decide) _ _ _ rfl (World.ownsRow_nil _ _ _ _) ⟨b, o, none⟩ ts0.length cap0 (ts0.flatMap tc) rfl (flatMap_len tc_len _) (fun j u hu => HFL.out j u hu) (tc_flat_one _) (by unfold maxLen; omega) (by omega) (by simp) ?_; intro v1 w1 hO1 hg1 _; have hb1 : Below W.heap.size W w1 := (Below.refl _ _).drew.grown hg1 (Nat.le_refl _) (fun k hk => by cases hk); have m1 := (hb1.cell (p := ⟨w.heap.size, 1, none⟩) hsz0).trans c1; have m2 := (hb1.cell (p := ⟨w.heap.size, 2, none⟩) hsz0).trans c2; obtain ⟨li, rfl, hti, -⟩ := lvOk_of_owns (by simpa using hO1) hlen H0.out.wf; have HO1 := Lib.hid hO1; clear hO1 hti hg1))
  rename_i hheld
  have HB4 := Lib.hid hb4
  clear hheld hb4 hb3 hb1 m1 m2 c1 c2 d0 d1 d2 d3 f0 f1 f2 f3
  go_wp2
  refine bodyPost_ret (v := .tuple #[.agg #[.int .i64 0, .int .i64 1, sv li, sv lb], .bool true]) (by simp [results, Try.results9, go_sem, *]) rfl ?_
  have hZ := HZ.out
  have hO1' : w3.ownsRow W.heap.size 45 4 (sv li) ts0.length (ts0.flatMap tc) := by simpa using HO1'.out
  obtain ⟨li', e1, ht1, hL1⟩ := lvOk_of_owns (ownsRow_set4 hO1' (b := w.heap.size + 1) (by omega) (.int .i64 0) (.int .i64 1) (sv li) (sv lb)) hlen H0.out.wf
  obtain ⟨lb', e2, ht2, hL2⟩ := lvOk_of_owns (ownsRow_set4 HO3.out (b := w.heap.size + 1) (by omega) (.int .i64 0) (.int .i64 1) (sv li) (sv lb)) (Nat.le_trans (List.length_filter_le _ _) H1.out.len) (fun t ht => H1.out.wf t (List.mem_filter.1 ht).1)
  have hBB := hB0.trans (HB4.out.mono (by omega))
  refine ⟨li', lb', ?_, ?_, ?_, hL1, hL2, by go_grown⟩
  · rw [HP.out, e1, e2]; rfl
  · rw [HP.out]; exact ht1
  · rw [HP.out]; exact ht2
end Go.Proofs.Ythdjokcjajlnnaa
