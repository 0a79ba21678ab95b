import Derived.Test.YthdjokcjajlnnaaWA
namespace Go.Proofs.Ythdjokcjajlnnaa
open Go.RowKit Go.Herb Go.Fl

theorem take_one (xs : List T) (h : 0 < xs.length) : xs.take 1 = [xs[0]] := by
  cases xs with
  | nil => simp at h
  | cons x xs => simp

set_option maxRecDepth 100000 in
set_option maxHeartbeats 1000000 in
theorem rof_bytes (line : Int) (l0 l1 l2 : Lv) (ad : Option Addr) (cd : Nat) (ds : List Int) (w : World) (h1 : LvOk w l1) (h2 : LvOk w l2) (hn : ¬ 2 < l0.ts.length) (h8 : 8192 < bytesL l1.ts) :
    Calls Try.prog 9 #[.agg #[.int .u64 line, sv l0, sv l1, sv l2], .slice ad ds.length cd] w (Planned (ofP ds l0.ts l1.ts l2.ts) w) := by
  have hp : ofP ds l0.ts l1.ts l2.ts = ⟨1, 2, l1.ts.take 1, l2.ts.filter (meetB · (spanL (l1.ts.take 1))), true⟩ := by simp [ofP, hn, h8]
  have HP := Lib.hid hp
  clear hp
  have hl1 : 1 ≤ l1.ts.length := by
    rcases Nat.eq_zero_or_pos l1.ts.length with h | h
    · rw [List.length_eq_zero_iff.1 h] at h8; simp [bytesL] at h8
    · exact h
  have H1 := Lib.hid h1
  have H2 := Lib.hid h2
  have hbl := bytesL_le l1.ts h1.wf
  have hbl1 : bytesL l1.ts ≤ 1000 * 4294967296 := Nat.le_trans hbl (Nat.mul_le_mul_right _ h1.len)
  clear h1 h2 hbl
  have hnb : decide ((2 : Int) < (l0.ts.length : Int)) = false := by simp; omega
  obtain ⟨i0, hi, hz0, hz1, hz2⟩ := info_parts Try.info45
  go_enter Try.func9, Try.ntmps9
  go_wp2_with fail
  obtain ⟨W, hW⟩ : ∃ W : World, W = (w.alloc (Obj.cells #[.int .u64 line, sv l0, sv l1, sv l2] 26)).alloc (Obj.cells #[.int .i64 0, .int .i64 0, .slice none 0 0, .slice none 0 0] 36) := ⟨_, rfl⟩
  have hB0 : Below w.heap.size w W := by rw [hW]; go_grown
  have hz : W.heap.size = w.heap.size + 2 := by rw [hW]; simp
  have p1 : W.heap[w.heap.size]? = some (.cells #[.int .u64 line, sv l0, sv l1, sv l2] 26 (0, 0)) := by rw [hW]; exact blk_alloc (blk_new_at (by simp) _)
  have p2 : W.heap[w.heap.size + 1]? = some (.cells #[.int .i64 0, .int .i64 0, .slice none 0 0, .slice none 0 0] 36 (0, 0)) := by rw [hW]; exact blk_new_at (by simp) _
  rw [← hW]
  obtain ⟨-, c1, c2, c3, -⟩ := blk_cells4 p1
  obtain ⟨d0, d1, d2, d3, f0, f1, f2, f3⟩ := blk_cells4 p2
  have hsz : w.heap.size + 1 < W.heap.size := by omega
  have hsz0 : w.heap.size < W.heap.size := by omega
  have HZ := Lib.hid hz
  have P2 := Lib.hid p2
  have P1 := Lib.hid p1
  clear hW hz p1 p2
  refine wp_loop_rounds 2 ?_
  rw [rounds_succ]
  go_wp2_with fail
  refine (rbytes_any l1 W (H1.out.ext hB0)).mono ?_
  rintro e w' ⟨rfl, rfl⟩
  have h8b : decide ((8192 : Int) < (bytesL l1.ts : Int)) = true := by simp; omega
  obtain ⟨b, o, ha, hb, hc⟩ := (H1.out.ext hB0).tabs.get 0 hl1
  have e0 := hc 0 _ rfl
  have e1 := hc 1 _ rfl
  have e2 := hc 2 _ rfl
  have e3 := hc 3 _ rfl
  simp only [Nat.zero_mul, Nat.add_zero] at e0 e1 e2 e3
  have hcc : W.cell? ⟨w.heap.size, 2, none⟩ = some (.slice (some ⟨b, o, none⟩) l1.ts.length l1.cap) := by rw [c2]; simp only [sv, ha]
  have htk : l1.ts.take 1 = [l1.ts[0]] := take_one _ hl1
  obtain ⟨x, hx⟩ : ∃ x, x = l1.ts[0] := ⟨_, rfl⟩
  have hwf := H1.out.wf _ (List.getElem_mem (show 0 < l1.ts.length by omega))
  rw [← hx] at e0 e1 e2 e3 htk hwf
  have HTK := Lib.hid htk
  have HWF := Lib.hid hwf
  clear hc hx htk hwf c2 ha h8
  go_wp2_with ((at_builtin; refine wpList_append_own _ rfl (.const (.slice none 0 0)) (.tmp 48) 23 rfl W.heap.size 45 i0 _ 4 48 Try.underlying23 hi hz0 hz1 hz2 rfl (by decide) _ _ _ rfl (World.ownsRow_nil _ _ _ _) ⟨W.heap.size, 0, none⟩ 1 1 (tc x) rfl rfl ?c1 ?c2 ?c3 ?c4 ?c5 ?_))
  case c1 => exact news_cells W (tc x) 45
  case c2 => exact tc_one x
  case c3 => unfold maxLen; omega
  case c4 => omega
  case c5 => simp
  intro v' w2 hO2 hg _
  have hB2 : Below W.heap.size W w2 := ((Below.refl _ _).alloc (Nat.le_refl _) _).grown hg (by simp) (fun k hk => by cases hk)
  have hO2' : w2.ownsRow W.heap.size 45 4 v' [x].length ([x].flatMap tc) := by simpa using hO2
  obtain ⟨li, rfl, hti, hLi⟩ := lvOk_of_owns hO2' (by simp) (by simpa using HWF.out)
  have m1 := blk_below P1.out hB2 (by omega)
  have m2 := blk_below P2.out hB2 (by omega)
  clear c1 c3 d0 d1 d2 d3 f0 f1 f2 f3 e0 e1 e2 e3 hcc hg hO2
  obtain ⟨-, c1, c2, c3, -⟩ := blk_cells4 m1
  have HO2 := Lib.hid hO2'
  have HLi := Lib.hid hLi
  have Hti := Lib.hid hti
  have hsz2 := hB2.size
  have hB02 : Below w.heap.size w w2 := hB0.trans (hB2.mono (by omega))
  have M2 := Lib.hid m2
  clear hO2' hLi hti m1 m2
  go_wp2_with fail
  refine (met_any l2 li w2 (H2.out.ext hB02) HLi.out (by rw [Hti.out]; simp)).mono ?_
  rintro e w3 ⟨vb, rfl, hO3, hb3⟩
  rw [Hti.out] at hO3
  obtain ⟨lb, rfl, -, -⟩ := lvOk_of_owns hO3 (Nat.le_trans (List.length_filter_le _ _) H2.out.len) (fun t ht => H2.out.wf t (List.mem_filter.1 ht).1)
  obtain ⟨d0, d1, d2, d3, f0, f1, f2, f3⟩ := blk_cells4 (blk_below M2.out hb3 (by omega))
  have HO3 := Lib.hid hO3
  have HO2b := Lib.hid (ownsRow_below HO2.out hb3 (Nat.le_refl _))
  have hBB := hB02.trans (hb3.mono (by omega))
  clear hO3 hb3 c1 c2 c3
  go_wp2
  refine bodyPost_ret (v := .tuple #[.agg #[.int .i64 1, .int .i64 2, sv li, sv lb], .bool true]) (by simp [results, Try.results9, go_sem, *]) rfl ?_
  have hZ := HZ.out
  obtain ⟨li', e1, ht1, hL1⟩ := lvOk_of_owns (ownsRow_set4 HO2b.out (b := w.heap.size + 1) (by omega) (.int .i64 1) (.int .i64 2) (sv li) (sv lb)) (by simp) (by simpa using HWF.out)
  obtain ⟨lb', e2, ht2, hL2⟩ := lvOk_of_owns (ownsRow_set4 HO3.out (b := w.heap.size + 1) (by omega) (.int .i64 1) (.int .i64 2) (sv li) (sv lb)) (Nat.le_trans (List.length_filter_le _ _) H2.out.len) (fun t ht => H2.out.wf t (List.mem_filter.1 ht).1)
  refine ⟨li', lb', ?_, ?_, ?_, hL1, hL2, by go_grown⟩
  · rw [HP.out, e1, e2]; rfl
  · rw [HP.out, HTK.out]; exact ht1
  · rw [HP.out, HTK.out]; exact ht2
end Go.Proofs.Ythdjokcjajlnnaa
