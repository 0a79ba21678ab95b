import Derived.Test.YthdjokcjajlnnaaW7
namespace Go.Proofs.Ythdjokcjajlnnaa
open Go.RowKit Go.Herb Go.Fl

theorem run_f2i (n : Nat) (hn : n < 2 ^ 53) (W : World) : (convert 54 3 (.float .f64 (fl false n))).run Try.prog W = .ok (.int .i64 n) W := by
  have h := toInt_rep (read_fl false n hn)
  have h1 : IntKind.i64.min ≤ (n : Int) := by show (-9223372036854775808 : Int) ≤ n; omega
  simp only [convert, Sem.run_bind, run_underlying Try.underlying54, run_underlying Try.underlying3, Result.andThen_ok]
  simp [Conv.floatToInt, FloatKind.decode, FloatKind.format, h, h1]
  intro h3; omega

theorem one_ok (w : World) (n : Nat) (hn : n = w.heap.size) (t : T) (h : 0 ≤ t.bytes ∧ t.bytes < 4294967296) : LvOk (w.alloc (.cells #[.int .u64 t.file, .int .u32 t.bytes, .string t.low, .string t.high] 45)) ⟨some ⟨n, 0, none⟩, 1, [t]⟩ := by
  subst hn
  refine ⟨⟨fun i hi => ?_⟩, (fun h => by cases h), by simp, by simp, by simpa using h⟩
  have : i = 0 := by simp at hi; omega
  subst this
  refine ⟨w.heap.size, 0, rfl, by simp, fun j c hj => ?_⟩
  simp only [Nat.zero_mul, Nat.zero_add]
  rw [cell_new]
  simpa [tc] using hj

theorem LvOk.set {w : World} {l : Lv} (h : LvOk w l) {b : Nat} (hb : ∀ ad, l.a = some ad → ad.block ≠ b) (j : Nat) (u : Value) : LvOk (w.setCell ⟨b, j, none⟩ u) l := by
  refine ⟨⟨fun i hi => ?_⟩, h.nil0, h.le, h.len, h.wf⟩
  obtain ⟨b', o, ha, hlt, hc⟩ := h.tabs.get i hi
  refine ⟨b', o, ha, by simpa [World.setCell] using hlt, fun j' c hj => ?_⟩
  have hne : b' ≠ b := hb _ ha
  exact (World.cell?_of_block (w := w) (Below.heap_setCell w ⟨b, j, none⟩ u b' hne)).trans (hc j' c hj)

theorem nil_ok (w : World) : LvOk w ⟨none, 0, []⟩ := ⟨Els.nil _ _ _ _, fun _ => rfl, Nat.le_refl _, by simp, by simp⟩

theorem run_store_cplx (P : Program) (w : World) (a : Addr) (m : Mode) (k : FloatKind) (x y : Nat) : (store a (.complex k x y) m).run P w = stored P w a (.complex k x y) m := run_store P w a _ m rfl
attribute [local go_sem] run_store_cplx

set_option maxRecDepth 100000 in
set_option maxHeartbeats 1000000 in
theorem of_bytes (line : Int) (l0 l1 l2 : Lv) (ad : Option Addr) (cd : Nat) (ds : List Int) (w : World) (h0 : LvOk w l0) (h1 : LvOk w l1) (h2 : LvOk w l2) (hd : U64s w ad ds) (hdl : ds.length < 1000000) (hn : ¬ 2 < l0.ts.length) (h8 : 8192 < bytesL l1.ts) :
    Calls Try.prog 8 #[.agg #[.int .u64 line, sv l0, sv l1, sv l2], .slice ad ds.length cd] w (Planned (ofP ds l0.ts l1.ts l2.ts) w) := by
  have H0 := Lib.hid h0
  have H1 := Lib.hid h1
  have H2 := Lib.hid h2
  have HD := Lib.hid hd
  have hlen := h0.len
  clear h0 h1 h2 hd
  have hp : ofP ds l0.ts l1.ts l2.ts = if 8192 < bytesL l1.ts then ⟨1, 2, l1.ts.take 1, l2.ts.filter (meetB · (spanL (l1.ts.take 1))), true⟩ else dirtyP ds l0.ts l1.ts l2.ts := by simp [ofP, hn]
  have HP := Lib.hid hp
  clear hp
  go_enter Try.func8, Try.ntmps8
  go_wp2_with fail
  obtain ⟨W, hW⟩ : ∃ W : World, W = ((w.alloc (Obj.cells #[.int .u64 line, sv l0, sv l1, sv l2] 26)).alloc (Obj.cells #[.int .i64 0, .int .i64 0, .slice none 0 0, .slice none 0 0] 29)).alloc (Obj.cells #[.complex .f64 0 0, .complex .f64 0 0, .complex .f64 0 0] 52) := ⟨_, rfl⟩
  have hBW : Below w.heap.size w W := by rw [hW]; go_grown
  have hzW : w.heap.size + 3 ≤ W.heap.size := by rw [hW]; simp
  have s1 : W.heap[w.heap.size]? = some (.cells #[.int .u64 line, sv l0, sv l1, sv l2] 26 (0, 0)) := by rw [hW]; exact blk_alloc (blk_alloc (blk_new_at (by simp) _))
  have s2 : W.heap[w.heap.size + 1]? = some (.cells #[.int .i64 0, .int .i64 0, .slice none 0 0, .slice none 0 0] 29 (0, 0)) := by rw [hW]; exact blk_alloc (blk_new_at (by simp) _)
  have s3 : W.heap[w.heap.size + 1 + 1]? = some (.cells #[.complex .f64 0 0, .complex .f64 0 0, .complex .f64 0 0] 52 (0, 0)) := by rw [hW]; exact blk_new_at (by simp) _
  obtain ⟨c0, c1, c2, c3, -⟩ := blk_cells4 s1
  rw [← hW]
  clear hW
  have S1 := Lib.hid s1
  have S2 := Lib.hid s2
  have S3 := Lib.hid s3
  clear s1 s2 s3
  refine wp_loop_rounds 4 ?_
  rw [rounds_succ]
  go_wp2_with fail
  have cf := full0_any line l0 l1 l2 ad cd ds W (H0.out.ext hBW) (HD.out.ext hBW) hdl
  obtain ⟨X0, hX0⟩ : ∃ X, X = fl false (bytesL l0.ts - 2048) := ⟨_, rfl⟩
  obtain ⟨D0, hD0⟩ : ∃ D, D = fl false (dirtyAt ds l0.ts) := ⟨_, rfl⟩
  rw [← hX0, ← hD0] at cf
  have HD0 := Lib.hid hD0
  have HX0 := Lib.hid hX0
  clear hX0 hD0
  refine cf.mono ?_
  rintro e w0 ⟨rfl, hb⟩
  clear c0 c1 c2 c3 cf
  have t1 := blk_below S1.out hb (by omega)
  have t2 := blk_below S2.out hb (by omega)
  have t3 := blk_below S3.out hb (by omega)
  have hBw0 := hBW.trans (hb.mono (by omega))
  have hz' : W.heap.size ≤ w0.heap.size := hb.size
  obtain ⟨c0, c1, c2, c3, -⟩ := blk_cells4 t1
  obtain ⟨g0, g1, g2, k0, k1, k2⟩ := blk_cells3 t3
  clear S1 S2 S3 hb
  have S1 := Lib.hid (blk_setCell_other t1 (a := ⟨w.heap.size + 1 + 1, 0, none⟩) (by simp; omega) (.complex .f64 X0 D0))
  have S2 := Lib.hid (blk_setCell_other t2 (a := ⟨w.heap.size + 1 + 1, 0, none⟩) (by simp) (.complex .f64 X0 D0))
  have S3 := Lib.hid (blk_setCell (j := 0) t3 (.complex .f64 X0 D0))
  clear t1 t2 t3
  go_wp2_with fail
  obtain ⟨W1, hW1⟩ : ∃ W', W' = w0.setCell ⟨w.heap.size + 1 + 1, 0, none⟩ (.complex .f64 X0 D0) := ⟨_, rfl⟩
  have hBW1 : Below w.heap.size w W1 := by rw [hW1]; exact hBw0.setCell (by simp; omega) _
  have hzW1 : w.heap.size + 3 ≤ W1.heap.size := by rw [hW1]; simp; omega
  rw [← hW1] at S1 S2 S3 ⊢
  clear hW1 hBw0 hBW hz' c0 c1 c2 c3 g0 g1 g2 k0 k1 k2
  obtain ⟨c0, c1, c2, c3, -⟩ := blk_cells4 S1.out
  rw [rounds_succ]
  go_wp2_with fail
  have cf := full1_any line l0 l1 l2 ad cd ds W1 (H1.out.ext hBW1) (HD.out.ext hBW1) hdl
  obtain ⟨X1, hX1⟩ : ∃ X, X = fl false (bytesL l1.ts - 8192) := ⟨_, rfl⟩
  obtain ⟨D1, hD1⟩ : ∃ D, D = fl false (dirtyAt ds l1.ts) := ⟨_, rfl⟩
  rw [← hX1, ← hD1] at cf
  have HD1 := Lib.hid hD1
  have HX1 := Lib.hid hX1
  clear hX1 hD1
  refine cf.mono ?_
  rintro e w1 ⟨rfl, hb⟩
  clear c0 c1 c2 c3 cf
  have t1 := blk_below S1.out hb (by omega)
  have t2 := blk_below S2.out hb (by omega)
  have t3 := blk_below S3.out hb (by omega)
  have hBw1 := hBW1.trans (hb.mono (by omega))
  have hz' : W1.heap.size ≤ w1.heap.size := hb.size
  obtain ⟨c0, c1, c2, c3, -⟩ := blk_cells4 t1
  obtain ⟨g0, g1, g2, k0, k1, k2⟩ := blk_cells3 t3
  clear S1 S2 S3 hb
  have S1 := Lib.hid (blk_setCell_other t1 (a := ⟨w.heap.size + 1 + 1, 1, none⟩) (by simp; omega) (.complex .f64 X1 D1))
  have S2 := Lib.hid (blk_setCell_other t2 (a := ⟨w.heap.size + 1 + 1, 1, none⟩) (by simp) (.complex .f64 X1 D1))
  have S3 := Lib.hid (blk_setCell (j := 1) t3 (.complex .f64 X1 D1))
  clear t1 t2 t3
  have hbl1 : bytesL l1.ts ≤ 1000 * 4294967296 := Nat.le_trans (bytesL_le l1.ts H1.out.wf) (Nat.mul_le_mul_right _ H1.out.len)
  have ho : FloatKind.f64.format.order X1 0 = some .gt := by
    have := order0 (bytesL l1.ts - 8192) (by omega)
    rw [if_neg (by omega), ← HX1.out] at this
    exact this
  rw [if_pos h8] at HP
  have hl1 : 1 ≤ l1.ts.length := by
    rcases Nat.eq_zero_or_pos l1.ts.length with h | h
    · rw [List.length_eq_zero_iff.1 h] at h8; simp [bytesL] at h8
    · exact h
  clear hbl1 h8
  go_wp2_with fail
  obtain ⟨W2, hW2⟩ : ∃ W', W' = w1.setCell ⟨w.heap.size + 1 + 1, 1, none⟩ (.complex .f64 X1 D1) := ⟨_, rfl⟩
  have hBW2 : Below w.heap.size w W2 := by rw [hW2]; exact hBw1.setCell (by simp; omega) _
  have hzW2 : w.heap.size + 3 ≤ W2.heap.size := by rw [hW2]; simp; omega
  rw [← hW2] at S1 S2 S3 ⊢
  clear hW2 hBw1 hBW1 hz' c0 c1 c2 c3 g0 g1 g2 k0 k1 k2
  refine (down1_any line l0 l1 l2 W2 (H1.out.ext hBW2) (H2.out.ext hBW2) 1 (by omega) hl1).mono ?_
  rintro e w3 ⟨vi, vb, rfl, hO1, hO2, hb1⟩
  have hlen1 : (l1.ts.take 1).length = 1 := by simp; omega
  have hwf1 : ∀ t ∈ l1.ts.take 1, 0 ≤ t.bytes ∧ t.bytes < 4294967296 := fun t ht => H1.out.wf t (List.mem_of_mem_take ht)
  rw [← hlen1] at hO1
  have hO1' : w3.ownsRow W2.heap.size 45 4 vi (l1.ts.take 1).length ((l1.ts.take 1).flatMap tc) := by simpa [hlen1] using hO1
  obtain ⟨li, rfl, hti, -⟩ := lvOk_of_owns hO1' (by omega) hwf1
  obtain ⟨lb, rfl, htb, -⟩ := lvOk_of_owns hO2 (Nat.le_trans (List.length_filter_le _ _) H2.out.len) (fun t ht => H2.out.wf t (List.mem_filter.1 ht).1)
  obtain ⟨d0, d1, d2, d3, f0, f1, f2, f3⟩ := blk_cells4 (blk_below S2.out hb1 (by omega))
  have HO1 := Lib.hid hO1'
  have HO2 := Lib.hid hO2
  have HL1 := Lib.hid hlen1
  have HW1 := Lib.hid hwf1
  have hBw := hBW2.trans (hb1.mono (by omega))
  clear hO1 hO2 hti htb hO1' hlen1 hwf1 hb1 ho
  go_wp2
  refine bodyPost_ret (v := .tuple #[.agg #[.int .i64 1, .int .i64 2, sv li, sv lb], .bool true]) (by simp [results, Try.results8, go_sem, *]) rfl ?_
  obtain ⟨li', e1, ht1, hL1⟩ := lvOk_of_owns (ownsRow_set4 HO1.out (b := w.heap.size + 1) (by omega) (.int .i64 1) (.int .i64 2) (sv li) (sv lb)) (by have := HL1.out; omega) HW1.out
  obtain ⟨lb', e2, ht2, hL2⟩ := lvOk_of_owns (ownsRow_set4 HO2.out (b := w.heap.size + 1) (by omega) (.int .i64 1) (.int .i64 2) (sv li) (sv lb)) (Nat.le_trans (List.length_filter_le _ _) H2.out.len) (fun t ht => H2.out.wf t (List.mem_filter.1 ht).1)
  refine ⟨li', lb', ?_, ?_, ?_, hL1, hL2, by go_grown⟩
  · rw [HP.out, e1, e2]; rfl
  · rw [HP.out]; exact ht1
  · rw [HP.out]; exact ht2

set_option maxRecDepth 100000 in
set_option maxHeartbeats 1000000 in
theorem of_dirty0 (line : Int) (l0 l1 l2 : Lv) (ad : Option Addr) (cd : Nat) (ds : List Int) (w : World) (h0 : LvOk w l0) (h1 : LvOk w l1) (h2 : LvOk w l2) (hd : U64s w ad ds) (hdl : ds.length < 1000000) (hn : ¬ 2 < l0.ts.length) (h8 : ¬ 8192 < bytesL l1.ts)  (hd0 : 0 < dirtyAt ds l0.ts) :
    Calls Try.prog 8 #[.agg #[.int .u64 line, sv l0, sv l1, sv l2], .slice ad ds.length cd] w (Planned (ofP ds l0.ts l1.ts l2.ts) w) := by
  have H0 := Lib.hid h0
  have H1 := Lib.hid h1
  have H2 := Lib.hid h2
  have HD := Lib.hid hd
  have hlen := h0.len
  clear h0 h1 h2 hd
  have hp : ofP ds l0.ts l1.ts l2.ts = if 8192 < bytesL l1.ts then ⟨1, 2, l1.ts.take 1, l2.ts.filter (meetB · (spanL (l1.ts.take 1))), true⟩ else dirtyP ds l0.ts l1.ts l2.ts := by simp [ofP, hn]
  have HP := Lib.hid hp
  clear hp
  go_enter Try.func8, Try.ntmps8
  go_wp2_with fail
  obtain ⟨W, hW⟩ : ∃ W : World, W = ((w.alloc (Obj.cells #[.int .u64 line, sv l0, sv l1, sv l2] 26)).alloc (Obj.cells #[.int .i64 0, .int .i64 0, .slice none 0 0, .slice none 0 0] 29)).alloc (Obj.cells #[.complex .f64 0 0, .complex .f64 0 0, .complex .f64 0 0] 52) := ⟨_, rfl⟩
  have hBW : Below w.heap.size w W := by rw [hW]; go_grown
  have hzW : w.heap.size + 3 ≤ W.heap.size := by rw [hW]; simp
  have s1 : W.heap[w.heap.size]? = some (.cells #[.int .u64 line, sv l0, sv l1, sv l2] 26 (0, 0)) := by rw [hW]; exact blk_alloc (blk_alloc (blk_new_at (by simp) _))
  have s2 : W.heap[w.heap.size + 1]? = some (.cells #[.int .i64 0, .int .i64 0, .slice none 0 0, .slice none 0 0] 29 (0, 0)) := by rw [hW]; exact blk_alloc (blk_new_at (by simp) _)
  have s3 : W.heap[w.heap.size + 1 + 1]? = some (.cells #[.complex .f64 0 0, .complex .f64 0 0, .complex .f64 0 0] 52 (0, 0)) := by rw [hW]; exact blk_new_at (by simp) _
  obtain ⟨c0, c1, c2, c3, -⟩ := blk_cells4 s1
  rw [← hW]
  clear hW
  have S1 := Lib.hid s1
  have S2 := Lib.hid s2
  have S3 := Lib.hid s3
  clear s1 s2 s3
  refine wp_loop_rounds 4 ?_
  rw [rounds_succ]
  go_wp2_with fail
  have cf := full0_any line l0 l1 l2 ad cd ds W (H0.out.ext hBW) (HD.out.ext hBW) hdl
  obtain ⟨X0, hX0⟩ : ∃ X, X = fl false (bytesL l0.ts - 2048) := ⟨_, rfl⟩
  obtain ⟨D0, hD0⟩ : ∃ D, D = fl false (dirtyAt ds l0.ts) := ⟨_, rfl⟩
  rw [← hX0, ← hD0] at cf
  have HD0 := Lib.hid hD0
  have HX0 := Lib.hid hX0
  clear hX0 hD0
  refine cf.mono ?_
  rintro e w0 ⟨rfl, hb⟩
  clear c0 c1 c2 c3 cf
  have t1 := blk_below S1.out hb (by omega)
  have t2 := blk_below S2.out hb (by omega)
  have t3 := blk_below S3.out hb (by omega)
  have hBw0 := hBW.trans (hb.mono (by omega))
  have hz' : W.heap.size ≤ w0.heap.size := hb.size
  obtain ⟨c0, c1, c2, c3, -⟩ := blk_cells4 t1
  obtain ⟨g0, g1, g2, k0, k1, k2⟩ := blk_cells3 t3
  clear S1 S2 S3 hb
  have S1 := Lib.hid (blk_setCell_other t1 (a := ⟨w.heap.size + 1 + 1, 0, none⟩) (by simp; omega) (.complex .f64 X0 D0))
  have S2 := Lib.hid (blk_setCell_other t2 (a := ⟨w.heap.size + 1 + 1, 0, none⟩) (by simp) (.complex .f64 X0 D0))
  have S3 := Lib.hid (blk_setCell (j := 0) t3 (.complex .f64 X0 D0))
  clear t1 t2 t3
  go_wp2_with fail
  obtain ⟨W1, hW1⟩ : ∃ W', W' = w0.setCell ⟨w.heap.size + 1 + 1, 0, none⟩ (.complex .f64 X0 D0) := ⟨_, rfl⟩
  have hBW1 : Below w.heap.size w W1 := by rw [hW1]; exact hBw0.setCell (by simp; omega) _
  have hzW1 : w.heap.size + 3 ≤ W1.heap.size := by rw [hW1]; simp; omega
  rw [← hW1] at S1 S2 S3 ⊢
  clear hW1 hBw0 hBW hz' c0 c1 c2 c3 g0 g1 g2 k0 k1 k2
  obtain ⟨c0, c1, c2, c3, -⟩ := blk_cells4 S1.out
  rw [rounds_succ]
  go_wp2_with fail
  have cf := full1_any line l0 l1 l2 ad cd ds W1 (H1.out.ext hBW1) (HD.out.ext hBW1) hdl
  obtain ⟨X1, hX1⟩ : ∃ X, X = fl false (bytesL l1.ts - 8192) := ⟨_, rfl⟩
  obtain ⟨D1, hD1⟩ : ∃ D, D = fl false (dirtyAt ds l1.ts) := ⟨_, rfl⟩
  rw [← hX1, ← hD1] at cf
  have HD1 := Lib.hid hD1
  have HX1 := Lib.hid hX1
  clear hX1 hD1
  refine cf.mono ?_
  rintro e w1 ⟨rfl, hb⟩
  clear c0 c1 c2 c3 cf
  have t1 := blk_below S1.out hb (by omega)
  have t2 := blk_below S2.out hb (by omega)
  have t3 := blk_below S3.out hb (by omega)
  have hBw1 := hBW1.trans (hb.mono (by omega))
  have hz' : W1.heap.size ≤ w1.heap.size := hb.size
  obtain ⟨c0, c1, c2, c3, -⟩ := blk_cells4 t1
  obtain ⟨g0, g1, g2, k0, k1, k2⟩ := blk_cells3 t3
  clear S1 S2 S3 hb
  have S1 := Lib.hid (blk_setCell_other t1 (a := ⟨w.heap.size + 1 + 1, 1, none⟩) (by simp; omega) (.complex .f64 X1 D1))
  have S2 := Lib.hid (blk_setCell_other t2 (a := ⟨w.heap.size + 1 + 1, 1, none⟩) (by simp) (.complex .f64 X1 D1))
  have S3 := Lib.hid (blk_setCell (j := 1) t3 (.complex .f64 X1 D1))
  clear t1 t2 t3
  have hbl1 : bytesL l1.ts ≤ 1000 * 4294967296 := Nat.le_trans (bytesL_le l1.ts H1.out.wf) (Nat.mul_le_mul_right _ H1.out.len)
  have ho : FloatKind.f64.format.order X1 0 = some .eq := by
    have := order0 (bytesL l1.ts - 8192) (by omega)
    rw [if_pos (by omega), ← HX1.out] at this
    exact this
  rw [if_neg h8] at HP
  clear hbl1 h8
  go_wp2_with fail
  obtain ⟨W2, hW2⟩ : ∃ W', W' = w1.setCell ⟨w.heap.size + 1 + 1, 1, none⟩ (.complex .f64 X1 D1) := ⟨_, rfl⟩
  have hBW2 : Below w.heap.size w W2 := by rw [hW2]; exact hBw1.setCell (by simp; omega) _
  have hzW2 : w.heap.size + 3 ≤ W2.heap.size := by rw [hW2]; simp; omega
  rw [← hW2] at S1 S2 S3 ⊢
  clear hW2 hBw1 hBW1 hz' c0 c1 c2 c3 g0 g1 g2 k0 k1 k2
  obtain ⟨c0, c1, c2, c3, -⟩ := blk_cells4 S1.out
  rw [rounds_succ]
  go_wp2_with fail
  have cf := full2_any line l0 l1 l2 ad cd ds W2 (H2.out.ext hBW2) (HD.out.ext hBW2) hdl
  obtain ⟨X2, hX2⟩ : ∃ X, X = fl false (bytesL l2.ts - 32768) := ⟨_, rfl⟩
  obtain ⟨D2, hD2⟩ : ∃ D, D = fl false (dirtyAt ds l2.ts) := ⟨_, rfl⟩
  rw [← hX2, ← hD2] at cf
  have HD2 := Lib.hid hD2
  have HX2 := Lib.hid hX2
  clear hX2 hD2
  refine cf.mono ?_
  rintro e w2 ⟨rfl, hb⟩
  clear c0 c1 c2 c3 cf
  have t1 := blk_below S1.out hb (by omega)
  have t2 := blk_below S2.out hb (by omega)
  have t3 := blk_below S3.out hb (by omega)
  have hBw2 := hBW2.trans (hb.mono (by omega))
  have hz' : W2.heap.size ≤ w2.heap.size := hb.size
  obtain ⟨c0, c1, c2, c3, -⟩ := blk_cells4 t1
  obtain ⟨g0, g1, g2, k0, k1, k2⟩ := blk_cells3 t3
  clear S1 S2 S3 hb
  have S1 := Lib.hid (blk_setCell_other t1 (a := ⟨w.heap.size + 1 + 1, 2, none⟩) (by simp; omega) (.complex .f64 X2 D2))
  have S2 := Lib.hid (blk_setCell_other t2 (a := ⟨w.heap.size + 1 + 1, 2, none⟩) (by simp) (.complex .f64 X2 D2))
  have S3 := Lib.hid (blk_setCell (j := 2) t3 (.complex .f64 X2 D2))
  clear t1 t2 t3
  go_wp2_with fail
  obtain ⟨W3, hW3⟩ : ∃ W', W' = w2.setCell ⟨w.heap.size + 1 + 1, 2, none⟩ (.complex .f64 X2 D2) := ⟨_, rfl⟩
  have hBW3 : Below w.heap.size w W3 := by rw [hW3]; exact hBw2.setCell (by simp; omega) _
  have hzW3 : w.heap.size + 3 ≤ W3.heap.size := by rw [hW3]; simp; omega
  rw [← hW3] at S1 S2 S3 ⊢
  clear hW3 hBw2 hBW2 hz' c0 c1 c2 c3 g0 g1 g2 k0 k1 k2
  obtain ⟨c0, c1, c2, c3, -⟩ := blk_cells4 S1.out
  obtain ⟨g0, g1, g2, k0, k1, k2⟩ := blk_cells3 S3.out
  rw [rounds_succ]
  go_wp2_with fail
  have hlt3 : w.heap.size + 1 < W3.heap.size := by omega
  have hix0 : ∀ (x y z : Value) (W : World), (Instr.index 52 (.agg #[x, y, z]) (.int .i64 0)).run Try.prog W = .ok x W := fun _ _ _ _ => by kernel_rfl
  have hix1 : ∀ (x y z : Value) (W : World), (Instr.index 52 (.agg #[x, y, z]) (.int .i64 1)).run Try.prog W = .ok y W := fun _ _ _ _ => by kernel_rfl
  have hix2 : ∀ (x y z : Value) (W : World), (Instr.index 52 (.agg #[x, y, z]) (.int .i64 2)).run Try.prog W = .ok z W := fun _ _ _ _ => by kernel_rfl
  refine wp_loop_rounds 4 ?_
  rw [rounds_succ]
  obtain ⟨e, he⟩ : ∃ e, dirtyAt ds l0.ts = e + 1 := ⟨dirtyAt ds l0.ts - 1, by omega⟩
  have hel : e < l0.ts.length := by have := dirtyAt_le ds l0.ts; omega
  obtain ⟨b, o, ha, hb, hc⟩ := (H0.out.ext hBW3).tabs.get e hel
  have hwf := H0.out.wf _ (List.getElem_mem hel)
  have hdrop : (l0.ts.drop e).take 1 = [l0.ts[e]] := by rw [List.drop_eq_getElem_cons hel]; rfl
  have e0 := hc 0 _ rfl
  have e1 := hc 1 _ rfl
  have e2 := hc 2 _ rfl
  have e3 := hc 3 _ rfl
  simp only [Nat.add_zero] at e0
  have hcv := fun W => run_f2i (dirtyAt ds l0.ts) (by have := H0.out.len; omega) W
  rw [← HD0.out, he] at hcv
  simp only [Int.natCast_add, Int.cast_ofNat_Int] at hcv
  have cc : W3.cell? ⟨w.heap.size, 1, none⟩ = some (.slice (some ⟨b, o, none⟩) l0.ts.length l0.cap) := by rw [c1]; simp only [sv, ha]
  have hp : dirtyP ds l0.ts l1.ts l2.ts = ⟨0, 0, [l0.ts[e]], [], true⟩ := by
    simp [dirtyP, hdrop, he]
  rw [hp] at HP
  obtain ⟨d0, d1, d2, d3, f0, f1, f2, f3⟩ := blk_cells4 S2.out
  generalize l0.ts[e] = x at *
  have hln := H0.out.len
  have HWF := Lib.hid hwf
  have HE := Lib.hid he
  clear hp hdrop hwf hc ha c1 c2 c3 hd0 he
  go_wp2
  refine bodyPost_ret (v := .tuple #[.agg #[.int .i64 0, .int .i64 0, .slice (some ⟨W3.heap.size, 0, none⟩) 1 1, .slice none 0 0], .bool true]) (by simp [results, Try.results8, go_sem, *]) rfl ?_
  refine ⟨⟨some ⟨W3.heap.size, 0, none⟩, 1, [x]⟩, ⟨none, 0, []⟩, ?_, ?_, ?_, one_ok _ _ (by simp) x HWF.out, nil_ok _, by go_grown⟩
  · rw [HP.out]; rfl
  · rw [HP.out]
  · rw [HP.out]

set_option maxRecDepth 100000 in
set_option maxHeartbeats 1000000 in
theorem of_dirty1 (line : Int) (l0 l1 l2 : Lv) (ad : Option Addr) (cd : Nat) (ds : List Int) (w : World) (h0 : LvOk w l0) (h1 : LvOk w l1) (h2 : LvOk w l2) (hd : U64s w ad ds) (hdl : ds.length < 1000000) (hn : ¬ 2 < l0.ts.length) (h8 : ¬ 8192 < bytesL l1.ts) (z0 : dirtyAt ds l0.ts = 0) (hd0 : 0 < dirtyAt ds l1.ts) :
    Calls Try.prog 8 #[.agg #[.int .u64 line, sv l0, sv l1, sv l2], .slice ad ds.length cd] w (Planned (ofP ds l0.ts l1.ts l2.ts) w) := by
  have Z0 := Lib.hid z0
  clear z0
  have H0 := Lib.hid h0
  have H1 := Lib.hid h1
  have H2 := Lib.hid h2
  have HD := Lib.hid hd
  have hlen := h0.len
  clear h0 h1 h2 hd
  have hp : ofP ds l0.ts l1.ts l2.ts = if 8192 < bytesL l1.ts then ⟨1, 2, l1.ts.take 1, l2.ts.filter (meetB · (spanL (l1.ts.take 1))), true⟩ else dirtyP ds l0.ts l1.ts l2.ts := by simp [ofP, hn]
  have HP := Lib.hid hp
  clear hp
  go_enter Try.func8, Try.ntmps8
  go_wp2_with fail
  obtain ⟨W, hW⟩ : ∃ W : World, W = ((w.alloc (Obj.cells #[.int .u64 line, sv l0, sv l1, sv l2] 26)).alloc (Obj.cells #[.int .i64 0, .int .i64 0, .slice none 0 0, .slice none 0 0] 29)).alloc (Obj.cells #[.complex .f64 0 0, .complex .f64 0 0, .complex .f64 0 0] 52) := ⟨_, rfl⟩
  have hBW : Below w.heap.size w W := by rw [hW]; go_grown
  have hzW : w.heap.size + 3 ≤ W.heap.size := by rw [hW]; simp
  have s1 : W.heap[w.heap.size]? = some (.cells #[.int .u64 line, sv l0, sv l1, sv l2] 26 (0, 0)) := by rw [hW]; exact blk_alloc (blk_alloc (blk_new_at (by simp) _))
  have s2 : W.heap[w.heap.size + 1]? = some (.cells #[.int .i64 0, .int .i64 0, .slice none 0 0, .slice none 0 0] 29 (0, 0)) := by rw [hW]; exact blk_alloc (blk_new_at (by simp) _)
  have s3 : W.heap[w.heap.size + 1 + 1]? = some (.cells #[.complex .f64 0 0, .complex .f64 0 0, .complex .f64 0 0] 52 (0, 0)) := by rw [hW]; exact blk_new_at (by simp) _
  obtain ⟨c0, c1, c2, c3, -⟩ := blk_cells4 s1
  rw [← hW]
  clear hW
  have S1 := Lib.hid s1
  have S2 := Lib.hid s2
  have S3 := Lib.hid s3
  clear s1 s2 s3
  refine wp_loop_rounds 4 ?_
  rw [rounds_succ]
  go_wp2_with fail
  have cf := full0_any line l0 l1 l2 ad cd ds W (H0.out.ext hBW) (HD.out.ext hBW) hdl
  obtain ⟨X0, hX0⟩ : ∃ X, X = fl false (bytesL l0.ts - 2048) := ⟨_, rfl⟩
  obtain ⟨D0, hD0⟩ : ∃ D, D = fl false (dirtyAt ds l0.ts) := ⟨_, rfl⟩
  rw [← hX0, ← hD0] at cf
  have HD0 := Lib.hid hD0
  have HX0 := Lib.hid hX0
  clear hX0 hD0
  refine cf.mono ?_
  rintro e w0 ⟨rfl, hb⟩
  clear c0 c1 c2 c3 cf
  have t1 := blk_below S1.out hb (by omega)
  have t2 := blk_below S2.out hb (by omega)
  have t3 := blk_below S3.out hb (by omega)
  have hBw0 := hBW.trans (hb.mono (by omega))
  have hz' : W.heap.size ≤ w0.heap.size := hb.size
  obtain ⟨c0, c1, c2, c3, -⟩ := blk_cells4 t1
  obtain ⟨g0, g1, g2, k0, k1, k2⟩ := blk_cells3 t3
  clear S1 S2 S3 hb
  have S1 := Lib.hid (blk_setCell_other t1 (a := ⟨w.heap.size + 1 + 1, 0, none⟩) (by simp; omega) (.complex .f64 X0 D0))
  have S2 := Lib.hid (blk_setCell_other t2 (a := ⟨w.heap.size + 1 + 1, 0, none⟩) (by simp) (.complex .f64 X0 D0))
  have S3 := Lib.hid (blk_setCell (j := 0) t3 (.complex .f64 X0 D0))
  clear t1 t2 t3
  go_wp2_with fail
  obtain ⟨W1, hW1⟩ : ∃ W', W' = w0.setCell ⟨w.heap.size + 1 + 1, 0, none⟩ (.complex .f64 X0 D0) := ⟨_, rfl⟩
  have hBW1 : Below w.heap.size w W1 := by rw [hW1]; exact hBw0.setCell (by simp; omega) _
  have hzW1 : w.heap.size + 3 ≤ W1.heap.size := by rw [hW1]; simp; omega
  rw [← hW1] at S1 S2 S3 ⊢
  clear hW1 hBw0 hBW hz' c0 c1 c2 c3 g0 g1 g2 k0 k1 k2
  obtain ⟨c0, c1, c2, c3, -⟩ := blk_cells4 S1.out
  rw [rounds_succ]
  go_wp2_with fail
  have cf := full1_any line l0 l1 l2 ad cd ds W1 (H1.out.ext hBW1) (HD.out.ext hBW1) hdl
  obtain ⟨X1, hX1⟩ : ∃ X, X = fl false (bytesL l1.ts - 8192) := ⟨_, rfl⟩
  obtain ⟨D1, hD1⟩ : ∃ D, D = fl false (dirtyAt ds l1.ts) := ⟨_, rfl⟩
  rw [← hX1, ← hD1] at cf
  have HD1 := Lib.hid hD1
  have HX1 := Lib.hid hX1
  clear hX1 hD1
  refine cf.mono ?_
  rintro e w1 ⟨rfl, hb⟩
  clear c0 c1 c2 c3 cf
  have t1 := blk_below S1.out hb (by omega)
  have t2 := blk_below S2.out hb (by omega)
  have t3 := blk_below S3.out hb (by omega)
  have hBw1 := hBW1.trans (hb.mono (by omega))
  have hz' : W1.heap.size ≤ w1.heap.size := hb.size
  obtain ⟨c0, c1, c2, c3, -⟩ := blk_cells4 t1
  obtain ⟨g0, g1, g2, k0, k1, k2⟩ := blk_cells3 t3
  clear S1 S2 S3 hb
  have S1 := Lib.hid (blk_setCell_other t1 (a := ⟨w.heap.size + 1 + 1, 1, none⟩) (by simp; omega) (.complex .f64 X1 D1))
  have S2 := Lib.hid (blk_setCell_other t2 (a := ⟨w.heap.size + 1 + 1, 1, none⟩) (by simp) (.complex .f64 X1 D1))
  have S3 := Lib.hid (blk_setCell (j := 1) t3 (.complex .f64 X1 D1))
  clear t1 t2 t3
  have hbl1 : bytesL l1.ts ≤ 1000 * 4294967296 := Nat.le_trans (bytesL_le l1.ts H1.out.wf) (Nat.mul_le_mul_right _ H1.out.len)
  have ho : FloatKind.f64.format.order X1 0 = some .eq := by
    have := order0 (bytesL l1.ts - 8192) (by omega)
    rw [if_pos (by omega), ← HX1.out] at this
    exact this
  rw [if_neg h8] at HP
  clear hbl1 h8
  go_wp2_with fail
  obtain ⟨W2, hW2⟩ : ∃ W', W' = w1.setCell ⟨w.heap.size + 1 + 1, 1, none⟩ (.complex .f64 X1 D1) := ⟨_, rfl⟩
  have hBW2 : Below w.heap.size w W2 := by rw [hW2]; exact hBw1.setCell (by simp; omega) _
  have hzW2 : w.heap.size + 3 ≤ W2.heap.size := by rw [hW2]; simp; omega
  rw [← hW2] at S1 S2 S3 ⊢
  clear hW2 hBw1 hBW1 hz' c0 c1 c2 c3 g0 g1 g2 k0 k1 k2
  obtain ⟨c0, c1, c2, c3, -⟩ := blk_cells4 S1.out
  rw [rounds_succ]
  go_wp2_with fail
  have cf := full2_any line l0 l1 l2 ad cd ds W2 (H2.out.ext hBW2) (HD.out.ext hBW2) hdl
  obtain ⟨X2, hX2⟩ : ∃ X, X = fl false (bytesL l2.ts - 32768) := ⟨_, rfl⟩
  obtain ⟨D2, hD2⟩ : ∃ D, D = fl false (dirtyAt ds l2.ts) := ⟨_, rfl⟩
  rw [← hX2, ← hD2] at cf
  have HD2 := Lib.hid hD2
  have HX2 := Lib.hid hX2
  clear hX2 hD2
  refine cf.mono ?_
  rintro e w2 ⟨rfl, hb⟩
  clear c0 c1 c2 c3 cf
  have t1 := blk_below S1.out hb (by omega)
  have t2 := blk_below S2.out hb (by omega)
  have t3 := blk_below S3.out hb (by omega)
  have hBw2 := hBW2.trans (hb.mono (by omega))
  have hz' : W2.heap.size ≤ w2.heap.size := hb.size
  obtain ⟨c0, c1, c2, c3, -⟩ := blk_cells4 t1
  obtain ⟨g0, g1, g2, k0, k1, k2⟩ := blk_cells3 t3
  clear S1 S2 S3 hb
  have S1 := Lib.hid (blk_setCell_other t1 (a := ⟨w.heap.size + 1 + 1, 2, none⟩) (by simp; omega) (.complex .f64 X2 D2))
  have S2 := Lib.hid (blk_setCell_other t2 (a := ⟨w.heap.size + 1 + 1, 2, none⟩) (by simp) (.complex .f64 X2 D2))
  have S3 := Lib.hid (blk_setCell (j := 2) t3 (.complex .f64 X2 D2))
  clear t1 t2 t3
  go_wp2_with fail
  obtain ⟨W3, hW3⟩ : ∃ W', W' = w2.setCell ⟨w.heap.size + 1 + 1, 2, none⟩ (.complex .f64 X2 D2) := ⟨_, rfl⟩
  have hBW3 : Below w.heap.size w W3 := by rw [hW3]; exact hBw2.setCell (by simp; omega) _
  have hzW3 : w.heap.size + 3 ≤ W3.heap.size := by rw [hW3]; simp; omega
  rw [← hW3] at S1 S2 S3 ⊢
  clear hW3 hBw2 hBW2 hz' c0 c1 c2 c3 g0 g1 g2 k0 k1 k2
  obtain ⟨c0, c1, c2, c3, -⟩ := blk_cells4 S1.out
  obtain ⟨g0, g1, g2, k0, k1, k2⟩ := blk_cells3 S3.out
  rw [rounds_succ]
  go_wp2_with fail
  have hlt3 : w.heap.size + 1 < W3.heap.size := by omega
  have hix0 : ∀ (x y z : Value) (W : World), (Instr.index 52 (.agg #[x, y, z]) (.int .i64 0)).run Try.prog W = .ok x W := fun _ _ _ _ => by kernel_rfl
  have hix1 : ∀ (x y z : Value) (W : World), (Instr.index 52 (.agg #[x, y, z]) (.int .i64 1)).run Try.prog W = .ok y W := fun _ _ _ _ => by kernel_rfl
  have hix2 : ∀ (x y z : Value) (W : World), (Instr.index 52 (.agg #[x, y, z]) (.int .i64 2)).run Try.prog W = .ok z W := fun _ _ _ _ => by kernel_rfl
  refine wp_loop_rounds 4 ?_
  rw [rounds_succ]
  have hcv0 := fun W => run_f2i (dirtyAt ds l0.ts) (by rw [Z0.out]; decide) W
  rw [← HD0.out, Z0.out] at hcv0
  simp only [Int.cast_ofNat_Int] at hcv0
  go_wp2_with fail
  rw [rounds_succ]
  obtain ⟨e, he⟩ : ∃ e, dirtyAt ds l1.ts = e + 1 := ⟨dirtyAt ds l1.ts - 1, by omega⟩
  have hel : e < l1.ts.length := by have := dirtyAt_le ds l1.ts; omega
  obtain ⟨b, o, ha, hb, hc⟩ := (H1.out.ext hBW3).tabs.get e hel
  have hwf := H1.out.wf _ (List.getElem_mem hel)
  have hdrop : (l1.ts.drop e).take 1 = [l1.ts[e]] := by rw [List.drop_eq_getElem_cons hel]; rfl
  have e0 := hc 0 _ rfl
  have e1 := hc 1 _ rfl
  have e2 := hc 2 _ rfl
  have e3 := hc 3 _ rfl
  simp only [Nat.add_zero] at e0
  have hcv := fun W => run_f2i (dirtyAt ds l1.ts) (by have := H1.out.len; omega) W
  rw [← HD1.out, he] at hcv
  simp only [Int.natCast_add, Int.cast_ofNat_Int] at hcv
  have cc : W3.cell? ⟨w.heap.size, 2, none⟩ = some (.slice (some ⟨b, o, none⟩) l1.ts.length l1.cap) := by rw [c2]; simp only [sv, ha]
  have hp : dirtyP ds l0.ts l1.ts l2.ts = ⟨1, 1, [l1.ts[e]], [], true⟩ := by
    simp [dirtyP, hdrop, he, Z0.out]
  rw [hp] at HP
  obtain ⟨d0, d1, d2, d3, f0, f1, f2, f3⟩ := blk_cells4 S2.out
  generalize l1.ts[e] = x at *
  have hln := H1.out.len
  have HWF := Lib.hid hwf
  have HE := Lib.hid he
  clear hp hdrop hwf hc ha c1 c2 c3 hd0 he
  go_wp2
  refine bodyPost_ret (v := .tuple #[.agg #[.int .i64 1, .int .i64 1, .slice (some ⟨W3.heap.size, 0, none⟩) 1 1, .slice none 0 0], .bool true]) (by simp [results, Try.results8, go_sem, *]) rfl ?_
  refine ⟨⟨some ⟨W3.heap.size, 0, none⟩, 1, [x]⟩, ⟨none, 0, []⟩, ?_, ?_, ?_, one_ok _ _ (by simp) x HWF.out, nil_ok _, by go_grown⟩
  · rw [HP.out]; rfl
  · rw [HP.out]
  · rw [HP.out]

set_option maxRecDepth 100000 in
set_option maxHeartbeats 1000000 in
theorem of_dirty2 (line : Int) (l0 l1 l2 : Lv) (ad : Option Addr) (cd : Nat) (ds : List Int) (w : World) (h0 : LvOk w l0) (h1 : LvOk w l1) (h2 : LvOk w l2) (hd : U64s w ad ds) (hdl : ds.length < 1000000) (hn : ¬ 2 < l0.ts.length) (h8 : ¬ 8192 < bytesL l1.ts) (z0 : dirtyAt ds l0.ts = 0) (z1 : dirtyAt ds l1.ts = 0) (hd0 : 0 < dirtyAt ds l2.ts) :
    Calls Try.prog 8 #[.agg #[.int .u64 line, sv l0, sv l1, sv l2], .slice ad ds.length cd] w (Planned (ofP ds l0.ts l1.ts l2.ts) w) := by
  have Z0 := Lib.hid z0
  clear z0
  have Z1 := Lib.hid z1
  clear z1
  have H0 := Lib.hid h0
  have H1 := Lib.hid h1
  have H2 := Lib.hid h2
  have HD := Lib.hid hd
  have hlen := h0.len
  clear h0 h1 h2 hd
  have hp : ofP ds l0.ts l1.ts l2.ts = if 8192 < bytesL l1.ts then ⟨1, 2, l1.ts.take 1, l2.ts.filter (meetB · (spanL (l1.ts.take 1))), true⟩ else dirtyP ds l0.ts l1.ts l2.ts := by simp [ofP, hn]
  have HP := Lib.hid hp
  clear hp
  go_enter Try.func8, Try.ntmps8
  go_wp2_with fail
  obtain ⟨W, hW⟩ : ∃ W : World, W = ((w.alloc (Obj.cells #[.int .u64 line, sv l0, sv l1, sv l2] 26)).alloc (Obj.cells #[.int .i64 0, .int .i64 0, .slice none 0 0, .slice none 0 0] 29)).alloc (Obj.cells #[.complex .f64 0 0, .complex .f64 0 0, .complex .f64 0 0] 52) := ⟨_, rfl⟩
  have hBW : Below w.heap.size w W := by rw [hW]; go_grown
  have hzW : w.heap.size + 3 ≤ W.heap.size := by rw [hW]; simp
  have s1 : W.heap[w.heap.size]? = some (.cells #[.int .u64 line, sv l0, sv l1, sv l2] 26 (0, 0)) := by rw [hW]; exact blk_alloc (blk_alloc (blk_new_at (by simp) _))
  have s2 : W.heap[w.heap.size + 1]? = some (.cells #[.int .i64 0, .int .i64 0, .slice none 0 0, .slice none 0 0] 29 (0, 0)) := by rw [hW]; exact blk_alloc (blk_new_at (by simp) _)
  have s3 : W.heap[w.heap.size + 1 + 1]? = some (.cells #[.complex .f64 0 0, .complex .f64 0 0, .complex .f64 0 0] 52 (0, 0)) := by rw [hW]; exact blk_new_at (by simp) _
  obtain ⟨c0, c1, c2, c3, -⟩ := blk_cells4 s1
  rw [← hW]
  clear hW
  have S1 := Lib.hid s1
  have S2 := Lib.hid s2
  have S3 := Lib.hid s3
  clear s1 s2 s3
  refine wp_loop_rounds 4 ?_
  rw [rounds_succ]
  go_wp2_with fail
  have cf := full0_any line l0 l1 l2 ad cd ds W (H0.out.ext hBW) (HD.out.ext hBW) hdl
  obtain ⟨X0, hX0⟩ : ∃ X, X = fl false (bytesL l0.ts - 2048) := ⟨_, rfl⟩
  obtain ⟨D0, hD0⟩ : ∃ D, D = fl false (dirtyAt ds l0.ts) := ⟨_, rfl⟩
  rw [← hX0, ← hD0] at cf
  have HD0 := Lib.hid hD0
  have HX0 := Lib.hid hX0
  clear hX0 hD0
  refine cf.mono ?_
  rintro e w0 ⟨rfl, hb⟩
  clear c0 c1 c2 c3 cf
  have t1 := blk_below S1.out hb (by omega)
  have t2 := blk_below S2.out hb (by omega)
  have t3 := blk_below S3.out hb (by omega)
  have hBw0 := hBW.trans (hb.mono (by omega))
  have hz' : W.heap.size ≤ w0.heap.size := hb.size
  obtain ⟨c0, c1, c2, c3, -⟩ := blk_cells4 t1
  obtain ⟨g0, g1, g2, k0, k1, k2⟩ := blk_cells3 t3
  clear S1 S2 S3 hb
  have S1 := Lib.hid (blk_setCell_other t1 (a := ⟨w.heap.size + 1 + 1, 0, none⟩) (by simp; omega) (.complex .f64 X0 D0))
  have S2 := Lib.hid (blk_setCell_other t2 (a := ⟨w.heap.size + 1 + 1, 0, none⟩) (by simp) (.complex .f64 X0 D0))
  have S3 := Lib.hid (blk_setCell (j := 0) t3 (.complex .f64 X0 D0))
  clear t1 t2 t3
  go_wp2_with fail
  obtain ⟨W1, hW1⟩ : ∃ W', W' = w0.setCell ⟨w.heap.size + 1 + 1, 0, none⟩ (.complex .f64 X0 D0) := ⟨_, rfl⟩
  have hBW1 : Below w.heap.size w W1 := by rw [hW1]; exact hBw0.setCell (by simp; omega) _
  have hzW1 : w.heap.size + 3 ≤ W1.heap.size := by rw [hW1]; simp; omega
  rw [← hW1] at S1 S2 S3 ⊢
  clear hW1 hBw0 hBW hz' c0 c1 c2 c3 g0 g1 g2 k0 k1 k2
  obtain ⟨c0, c1, c2, c3, -⟩ := blk_cells4 S1.out
  rw [rounds_succ]
  go_wp2_with fail
  have cf := full1_any line l0 l1 l2 ad cd ds W1 (H1.out.ext hBW1) (HD.out.ext hBW1) hdl
  obtain ⟨X1, hX1⟩ : ∃ X, X = fl false (bytesL l1.ts - 8192) := ⟨_, rfl⟩
  obtain ⟨D1, hD1⟩ : ∃ D, D = fl false (dirtyAt ds l1.ts) := ⟨_, rfl⟩
  rw [← hX1, ← hD1] at cf
  have HD1 := Lib.hid hD1
  have HX1 := Lib.hid hX1
  clear hX1 hD1
  refine cf.mono ?_
  rintro e w1 ⟨rfl, hb⟩
  clear c0 c1 c2 c3 cf
  have t1 := blk_below S1.out hb (by omega)
  have t2 := blk_below S2.out hb (by omega)
  have t3 := blk_below S3.out hb (by omega)
  have hBw1 := hBW1.trans (hb.mono (by omega))
  have hz' : W1.heap.size ≤ w1.heap.size := hb.size
  obtain ⟨c0, c1, c2, c3, -⟩ := blk_cells4 t1
  obtain ⟨g0, g1, g2, k0, k1, k2⟩ := blk_cells3 t3
  clear S1 S2 S3 hb
  have S1 := Lib.hid (blk_setCell_other t1 (a := ⟨w.heap.size + 1 + 1, 1, none⟩) (by simp; omega) (.complex .f64 X1 D1))
  have S2 := Lib.hid (blk_setCell_other t2 (a := ⟨w.heap.size + 1 + 1, 1, none⟩) (by simp) (.complex .f64 X1 D1))
  have S3 := Lib.hid (blk_setCell (j := 1) t3 (.complex .f64 X1 D1))
  clear t1 t2 t3
  have hbl1 : bytesL l1.ts ≤ 1000 * 4294967296 := Nat.le_trans (bytesL_le l1.ts H1.out.wf) (Nat.mul_le_mul_right _ H1.out.len)
  have ho : FloatKind.f64.format.order X1 0 = some .eq := by
    have := order0 (bytesL l1.ts - 8192) (by omega)
    rw [if_pos (by omega), ← HX1.out] at this
    exact this
  rw [if_neg h8] at HP
  clear hbl1 h8
  go_wp2_with fail
  obtain ⟨W2, hW2⟩ : ∃ W', W' = w1.setCell ⟨w.heap.size + 1 + 1, 1, none⟩ (.complex .f64 X1 D1) := ⟨_, rfl⟩
  have hBW2 : Below w.heap.size w W2 := by rw [hW2]; exact hBw1.setCell (by simp; omega) _
  have hzW2 : w.heap.size + 3 ≤ W2.heap.size := by rw [hW2]; simp; omega
  rw [← hW2] at S1 S2 S3 ⊢
  clear hW2 hBw1 hBW1 hz' c0 c1 c2 c3 g0 g1 g2 k0 k1 k2
  obtain ⟨c0, c1, c2, c3, -⟩ := blk_cells4 S1.out
  rw [rounds_succ]
  go_wp2_with fail
  have cf := full2_any line l0 l1 l2 ad cd ds W2 (H2.out.ext hBW2) (HD.out.ext hBW2) hdl
  obtain ⟨X2, hX2⟩ : ∃ X, X = fl false (bytesL l2.ts - 32768) := ⟨_, rfl⟩
  obtain ⟨D2, hD2⟩ : ∃ D, D = fl false (dirtyAt ds l2.ts) := ⟨_, rfl⟩
  rw [← hX2, ← hD2] at cf
  have HD2 := Lib.hid hD2
  have HX2 := Lib.hid hX2
  clear hX2 hD2
  refine cf.mono ?_
  rintro e w2 ⟨rfl, hb⟩
  clear c0 c1 c2 c3 cf
  have t1 := blk_below S1.out hb (by omega)
  have t2 := blk_below S2.out hb (by omega)
  have t3 := blk_below S3.out hb (by omega)
  have hBw2 := hBW2.trans (hb.mono (by omega))
  have hz' : W2.heap.size ≤ w2.heap.size := hb.size
  obtain ⟨c0, c1, c2, c3, -⟩ := blk_cells4 t1
  obtain ⟨g0, g1, g2, k0, k1, k2⟩ := blk_cells3 t3
  clear S1 S2 S3 hb
  have S1 := Lib.hid (blk_setCell_other t1 (a := ⟨w.heap.size + 1 + 1, 2, none⟩) (by simp; omega) (.complex .f64 X2 D2))
  have S2 := Lib.hid (blk_setCell_other t2 (a := ⟨w.heap.size + 1 + 1, 2, none⟩) (by simp) (.complex .f64 X2 D2))
  have S3 := Lib.hid (blk_setCell (j := 2) t3 (.complex .f64 X2 D2))
  clear t1 t2 t3
  go_wp2_with fail
  obtain ⟨W3, hW3⟩ : ∃ W', W' = w2.setCell ⟨w.heap.size + 1 + 1, 2, none⟩ (.complex .f64 X2 D2) := ⟨_, rfl⟩
  have hBW3 : Below w.heap.size w W3 := by rw [hW3]; exact hBw2.setCell (by simp; omega) _
  have hzW3 : w.heap.size + 3 ≤ W3.heap.size := by rw [hW3]; simp; omega
  rw [← hW3] at S1 S2 S3 ⊢
  clear hW3 hBw2 hBW2 hz' c0 c1 c2 c3 g0 g1 g2 k0 k1 k2
  obtain ⟨c0, c1, c2, c3, -⟩ := blk_cells4 S1.out
  obtain ⟨g0, g1, g2, k0, k1, k2⟩ := blk_cells3 S3.out
  rw [rounds_succ]
  go_wp2_with fail
  have hlt3 : w.heap.size + 1 < W3.heap.size := by omega
  have hix0 : ∀ (x y z : Value) (W : World), (Instr.index 52 (.agg #[x, y, z]) (.int .i64 0)).run Try.prog W = .ok x W := fun _ _ _ _ => by kernel_rfl
  have hix1 : ∀ (x y z : Value) (W : World), (Instr.index 52 (.agg #[x, y, z]) (.int .i64 1)).run Try.prog W = .ok y W := fun _ _ _ _ => by kernel_rfl
  have hix2 : ∀ (x y z : Value) (W : World), (Instr.index 52 (.agg #[x, y, z]) (.int .i64 2)).run Try.prog W = .ok z W := fun _ _ _ _ => by kernel_rfl
  refine wp_loop_rounds 4 ?_
  rw [rounds_succ]
  have hcv0 := fun W => run_f2i (dirtyAt ds l0.ts) (by rw [Z0.out]; decide) W
  rw [← HD0.out, Z0.out] at hcv0
  simp only [Int.cast_ofNat_Int] at hcv0
  go_wp2_with fail
  rw [rounds_succ]
  have hcv1 := fun W => run_f2i (dirtyAt ds l1.ts) (by rw [Z1.out]; decide) W
  rw [← HD1.out, Z1.out] at hcv1
  simp only [Int.cast_ofNat_Int] at hcv1
  go_wp2_with fail
  rw [rounds_succ]
  obtain ⟨e, he⟩ : ∃ e, dirtyAt ds l2.ts = e + 1 := ⟨dirtyAt ds l2.ts - 1, by omega⟩
  have hel : e < l2.ts.length := by have := dirtyAt_le ds l2.ts; omega
  obtain ⟨b, o, ha, hb, hc⟩ := (H2.out.ext hBW3).tabs.get e hel
  have hwf := H2.out.wf _ (List.getElem_mem hel)
  have hdrop : (l2.ts.drop e).take 1 = [l2.ts[e]] := by rw [List.drop_eq_getElem_cons hel]; rfl
  have e0 := hc 0 _ rfl
  have e1 := hc 1 _ rfl
  have e2 := hc 2 _ rfl
  have e3 := hc 3 _ rfl
  simp only [Nat.add_zero] at e0
  have hcv := fun W => run_f2i (dirtyAt ds l2.ts) (by have := H2.out.len; omega) W
  rw [← HD2.out, he] at hcv
  simp only [Int.natCast_add, Int.cast_ofNat_Int] at hcv
  have cc : W3.cell? ⟨w.heap.size, 3, none⟩ = some (.slice (some ⟨b, o, none⟩) l2.ts.length l2.cap) := by rw [c3]; simp only [sv, ha]
  have hp : dirtyP ds l0.ts l1.ts l2.ts = ⟨2, 2, [l2.ts[e]], [], true⟩ := by
    simp [dirtyP, hdrop, he, Z0.out, Z1.out]
  rw [hp] at HP
  obtain ⟨d0, d1, d2, d3, f0, f1, f2, f3⟩ := blk_cells4 S2.out
  generalize l2.ts[e] = x at *
  have hln := H2.out.len
  have HWF := Lib.hid hwf
  have HE := Lib.hid he
  clear hp hdrop hwf hc ha c1 c2 c3 hd0 he
  go_wp2
  refine bodyPost_ret (v := .tuple #[.agg #[.int .i64 2, .int .i64 2, .slice (some ⟨W3.heap.size, 0, none⟩) 1 1, .slice none 0 0], .bool true]) (by simp [results, Try.results8, go_sem, *]) rfl ?_
  refine ⟨⟨some ⟨W3.heap.size, 0, none⟩, 1, [x]⟩, ⟨none, 0, []⟩, ?_, ?_, ?_, one_ok _ _ (by simp) x HWF.out, nil_ok _, by go_grown⟩
  · rw [HP.out]; rfl
  · rw [HP.out]
  · rw [HP.out]

set_option maxRecDepth 100000 in
set_option maxHeartbeats 1000000 in
theorem of_none (line : Int) (l0 l1 l2 : Lv) (ad : Option Addr) (cd : Nat) (ds : List Int) (w : World) (h0 : LvOk w l0) (h1 : LvOk w l1) (h2 : LvOk w l2) (hd : U64s w ad ds) (hdl : ds.length < 1000000) (hn : ¬ 2 < l0.ts.length) (h8 : ¬ 8192 < bytesL l1.ts) (z0 : dirtyAt ds l0.ts = 0) (z1 : dirtyAt ds l1.ts = 0) (z2 : dirtyAt ds l2.ts = 0) :
    Calls Try.prog 8 #[.agg #[.int .u64 line, sv l0, sv l1, sv l2], .slice ad ds.length cd] w (Planned (ofP ds l0.ts l1.ts l2.ts) w) := by
  have Z0 := Lib.hid z0
  clear z0
  have Z1 := Lib.hid z1
  clear z1
  have Z2 := Lib.hid z2
  clear z2
  have H0 := Lib.hid h0
  have H1 := Lib.hid h1
  have H2 := Lib.hid h2
  have HD := Lib.hid hd
  have hlen := h0.len
  clear h0 h1 h2 hd
  have hp : ofP ds l0.ts l1.ts l2.ts = if 8192 < bytesL l1.ts then ⟨1, 2, l1.ts.take 1, l2.ts.filter (meetB · (spanL (l1.ts.take 1))), true⟩ else dirtyP ds l0.ts l1.ts l2.ts := by simp [ofP, hn]
  have HP := Lib.hid hp
  clear hp
  go_enter Try.func8, Try.ntmps8
  go_wp2_with fail
  obtain ⟨W, hW⟩ : ∃ W : World, W = ((w.alloc (Obj.cells #[.int .u64 line, sv l0, sv l1, sv l2] 26)).alloc (Obj.cells #[.int .i64 0, .int .i64 0, .slice none 0 0, .slice none 0 0] 29)).alloc (Obj.cells #[.complex .f64 0 0, .complex .f64 0 0, .complex .f64 0 0] 52) := ⟨_, rfl⟩
  have hBW : Below w.heap.size w W := by rw [hW]; go_grown
  have hzW : w.heap.size + 3 ≤ W.heap.size := by rw [hW]; simp
  have s1 : W.heap[w.heap.size]? = some (.cells #[.int .u64 line, sv l0, sv l1, sv l2] 26 (0, 0)) := by rw [hW]; exact blk_alloc (blk_alloc (blk_new_at (by simp) _))
  have s2 : W.heap[w.heap.size + 1]? = some (.cells #[.int .i64 0, .int .i64 0, .slice none 0 0, .slice none 0 0] 29 (0, 0)) := by rw [hW]; exact blk_alloc (blk_new_at (by simp) _)
  have s3 : W.heap[w.heap.size + 1 + 1]? = some (.cells #[.complex .f64 0 0, .complex .f64 0 0, .complex .f64 0 0] 52 (0, 0)) := by rw [hW]; exact blk_new_at (by simp) _
  obtain ⟨c0, c1, c2, c3, -⟩ := blk_cells4 s1
  rw [← hW]
  clear hW
  have S1 := Lib.hid s1
  have S2 := Lib.hid s2
  have S3 := Lib.hid s3
  clear s1 s2 s3
  refine wp_loop_rounds 4 ?_
  rw [rounds_succ]
  go_wp2_with fail
  have cf := full0_any line l0 l1 l2 ad cd ds W (H0.out.ext hBW) (HD.out.ext hBW) hdl
  obtain ⟨X0, hX0⟩ : ∃ X, X = fl false (bytesL l0.ts - 2048) := ⟨_, rfl⟩
  obtain ⟨D0, hD0⟩ : ∃ D, D = fl false (dirtyAt ds l0.ts) := ⟨_, rfl⟩
  rw [← hX0, ← hD0] at cf
  have HD0 := Lib.hid hD0
  have HX0 := Lib.hid hX0
  clear hX0 hD0
  refine cf.mono ?_
  rintro e w0 ⟨rfl, hb⟩
  clear c0 c1 c2 c3 cf
  have t1 := blk_below S1.out hb (by omega)
  have t2 := blk_below S2.out hb (by omega)
  have t3 := blk_below S3.out hb (by omega)
  have hBw0 := hBW.trans (hb.mono (by omega))
  have hz' : W.heap.size ≤ w0.heap.size := hb.size
  obtain ⟨c0, c1, c2, c3, -⟩ := blk_cells4 t1
  obtain ⟨g0, g1, g2, k0, k1, k2⟩ := blk_cells3 t3
  clear S1 S2 S3 hb
  have S1 := Lib.hid (blk_setCell_other t1 (a := ⟨w.heap.size + 1 + 1, 0, none⟩) (by simp; omega) (.complex .f64 X0 D0))
  have S2 := Lib.hid (blk_setCell_other t2 (a := ⟨w.heap.size + 1 + 1, 0, none⟩) (by simp) (.complex .f64 X0 D0))
  have S3 := Lib.hid (blk_setCell (j := 0) t3 (.complex .f64 X0 D0))
  clear t1 t2 t3
  go_wp2_with fail
  obtain ⟨W1, hW1⟩ : ∃ W', W' = w0.setCell ⟨w.heap.size + 1 + 1, 0, none⟩ (.complex .f64 X0 D0) := ⟨_, rfl⟩
  have hBW1 : Below w.heap.size w W1 := by rw [hW1]; exact hBw0.setCell (by simp; omega) _
  have hzW1 : w.heap.size + 3 ≤ W1.heap.size := by rw [hW1]; simp; omega
  rw [← hW1] at S1 S2 S3 ⊢
  clear hW1 hBw0 hBW hz' c0 c1 c2 c3 g0 g1 g2 k0 k1 k2
  obtain ⟨c0, c1, c2, c3, -⟩ := blk_cells4 S1.out
  rw [rounds_succ]
  go_wp2_with fail
  have cf := full1_any line l0 l1 l2 ad cd ds W1 (H1.out.ext hBW1) (HD.out.ext hBW1) hdl
  obtain ⟨X1, hX1⟩ : ∃ X, X = fl false (bytesL l1.ts - 8192) := ⟨_, rfl⟩
  obtain ⟨D1, hD1⟩ : ∃ D, D = fl false (dirtyAt ds l1.ts) := ⟨_, rfl⟩
  rw [← hX1, ← hD1] at cf
  have HD1 := Lib.hid hD1
  have HX1 := Lib.hid hX1
  clear hX1 hD1
  refine cf.mono ?_
  rintro e w1 ⟨rfl, hb⟩
  clear c0 c1 c2 c3 cf
  have t1 := blk_below S1.out hb (by omega)
  have t2 := blk_below S2.out hb (by omega)
  have t3 := blk_below S3.out hb (by omega)
  have hBw1 := hBW1.trans (hb.mono (by omega))
  have hz' : W1.heap.size ≤ w1.heap.size := hb.size
  obtain ⟨c0, c1, c2, c3, -⟩ := blk_cells4 t1
  obtain ⟨g0, g1, g2, k0, k1, k2⟩ := blk_cells3 t3
  clear S1 S2 S3 hb
  have S1 := Lib.hid (blk_setCell_other t1 (a := ⟨w.heap.size + 1 + 1, 1, none⟩) (by simp; omega) (.complex .f64 X1 D1))
  have S2 := Lib.hid (blk_setCell_other t2 (a := ⟨w.heap.size + 1 + 1, 1, none⟩) (by simp) (.complex .f64 X1 D1))
  have S3 := Lib.hid (blk_setCell (j := 1) t3 (.complex .f64 X1 D1))
  clear t1 t2 t3
  have hbl1 : bytesL l1.ts ≤ 1000 * 4294967296 := Nat.le_trans (bytesL_le l1.ts H1.out.wf) (Nat.mul_le_mul_right _ H1.out.len)
  have ho : FloatKind.f64.format.order X1 0 = some .eq := by
    have := order0 (bytesL l1.ts - 8192) (by omega)
    rw [if_pos (by omega), ← HX1.out] at this
    exact this
  rw [if_neg h8] at HP
  clear hbl1 h8
  go_wp2_with fail
  obtain ⟨W2, hW2⟩ : ∃ W', W' = w1.setCell ⟨w.heap.size + 1 + 1, 1, none⟩ (.complex .f64 X1 D1) := ⟨_, rfl⟩
  have hBW2 : Below w.heap.size w W2 := by rw [hW2]; exact hBw1.setCell (by simp; omega) _
  have hzW2 : w.heap.size + 3 ≤ W2.heap.size := by rw [hW2]; simp; omega
  rw [← hW2] at S1 S2 S3 ⊢
  clear hW2 hBw1 hBW1 hz' c0 c1 c2 c3 g0 g1 g2 k0 k1 k2
  obtain ⟨c0, c1, c2, c3, -⟩ := blk_cells4 S1.out
  rw [rounds_succ]
  go_wp2_with fail
  have cf := full2_any line l0 l1 l2 ad cd ds W2 (H2.out.ext hBW2) (HD.out.ext hBW2) hdl
  obtain ⟨X2, hX2⟩ : ∃ X, X = fl false (bytesL l2.ts - 32768) := ⟨_, rfl⟩
  obtain ⟨D2, hD2⟩ : ∃ D, D = fl false (dirtyAt ds l2.ts) := ⟨_, rfl⟩
  rw [← hX2, ← hD2] at cf
  have HD2 := Lib.hid hD2
  have HX2 := Lib.hid hX2
  clear hX2 hD2
  refine cf.mono ?_
  rintro e w2 ⟨rfl, hb⟩
  clear c0 c1 c2 c3 cf
  have t1 := blk_below S1.out hb (by omega)
  have t2 := blk_below S2.out hb (by omega)
  have t3 := blk_below S3.out hb (by omega)
  have hBw2 := hBW2.trans (hb.mono (by omega))
  have hz' : W2.heap.size ≤ w2.heap.size := hb.size
  obtain ⟨c0, c1, c2, c3, -⟩ := blk_cells4 t1
  obtain ⟨g0, g1, g2, k0, k1, k2⟩ := blk_cells3 t3
  clear S1 S2 S3 hb
  have S1 := Lib.hid (blk_setCell_other t1 (a := ⟨w.heap.size + 1 + 1, 2, none⟩) (by simp; omega) (.complex .f64 X2 D2))
  have S2 := Lib.hid (blk_setCell_other t2 (a := ⟨w.heap.size + 1 + 1, 2, none⟩) (by simp) (.complex .f64 X2 D2))
  have S3 := Lib.hid (blk_setCell (j := 2) t3 (.complex .f64 X2 D2))
  clear t1 t2 t3
  go_wp2_with fail
  obtain ⟨W3, hW3⟩ : ∃ W', W' = w2.setCell ⟨w.heap.size + 1 + 1, 2, none⟩ (.complex .f64 X2 D2) := ⟨_, rfl⟩
  have hBW3 : Below w.heap.size w W3 := by rw [hW3]; exact hBw2.setCell (by simp; omega) _
  have hzW3 : w.heap.size + 3 ≤ W3.heap.size := by rw [hW3]; simp; omega
  rw [← hW3] at S1 S2 S3 ⊢
  clear hW3 hBw2 hBW2 hz' c0 c1 c2 c3 g0 g1 g2 k0 k1 k2
  obtain ⟨c0, c1, c2, c3, -⟩ := blk_cells4 S1.out
  obtain ⟨g0, g1, g2, k0, k1, k2⟩ := blk_cells3 S3.out
  rw [rounds_succ]
  go_wp2_with fail
  have hlt3 : w.heap.size + 1 < W3.heap.size := by omega
  have hix0 : ∀ (x y z : Value) (W : World), (Instr.index 52 (.agg #[x, y, z]) (.int .i64 0)).run Try.prog W = .ok x W := fun _ _ _ _ => by kernel_rfl
  have hix1 : ∀ (x y z : Value) (W : World), (Instr.index 52 (.agg #[x, y, z]) (.int .i64 1)).run Try.prog W = .ok y W := fun _ _ _ _ => by kernel_rfl
  have hix2 : ∀ (x y z : Value) (W : World), (Instr.index 52 (.agg #[x, y, z]) (.int .i64 2)).run Try.prog W = .ok z W := fun _ _ _ _ => by kernel_rfl
  refine wp_loop_rounds 4 ?_
  rw [rounds_succ]
  have hcv0 := fun W => run_f2i (dirtyAt ds l0.ts) (by rw [Z0.out]; decide) W
  rw [← HD0.out, Z0.out] at hcv0
  simp only [Int.cast_ofNat_Int] at hcv0
  go_wp2_with fail
  rw [rounds_succ]
  have hcv1 := fun W => run_f2i (dirtyAt ds l1.ts) (by rw [Z1.out]; decide) W
  rw [← HD1.out, Z1.out] at hcv1
  simp only [Int.cast_ofNat_Int] at hcv1
  go_wp2_with fail
  rw [rounds_succ]
  have hcv2 := fun W => run_f2i (dirtyAt ds l2.ts) (by rw [Z2.out]; decide) W
  rw [← HD2.out, Z2.out] at hcv2
  simp only [Int.cast_ofNat_Int] at hcv2
  go_wp2_with fail
  rw [rounds_succ]
  obtain ⟨d0, d1, d2, d3, f0, f1, f2, f3⟩ := blk_cells4 S2.out
  have hp : dirtyP ds l0.ts l1.ts l2.ts = ⟨0, 0, [], [], false⟩ := by simp [dirtyP, Z0.out, Z1.out, Z2.out]
  rw [hp] at HP
  clear hp
  go_wp2
  refine bodyPost_ret (v := .tuple #[.agg #[.int .i64 0, .int .i64 0, .slice none 0 0, .slice none 0 0], .bool false]) (by simp [results, Try.results8, go_sem, *]) rfl ?_
  refine ⟨⟨none, 0, []⟩, ⟨none, 0, []⟩, ?_, ?_, ?_, nil_ok _, nil_ok _, by go_grown⟩
  · rw [HP.out]; rfl
  · rw [HP.out]
  · rw [HP.out]

theorem of_any (line : Int) (l0 l1 l2 : Lv) (ad : Option Addr) (cd : Nat) (ds : List Int) (w : World) (h0 : LvOk w l0) (h1 : LvOk w l1) (h2 : LvOk w l2) (hd : U64s w ad ds) (hdl : ds.length < 1000000) :
    Calls Try.prog 8 #[.agg #[.int .u64 line, sv l0, sv l1, sv l2], .slice ad ds.length cd] w (Planned (ofP ds l0.ts l1.ts l2.ts) w) := by
  by_cases hn : 2 < l0.ts.length
  · exact of_wide line l0 l1 l2 ad cd ds w h0 h1 h2 hn
  · by_cases h8 : 8192 < bytesL l1.ts
    · exact of_bytes line l0 l1 l2 ad cd ds w h0 h1 h2 hd hdl hn h8
    · by_cases z0 : dirtyAt ds l0.ts = 0
      · by_cases z1 : dirtyAt ds l1.ts = 0
        · by_cases z2 : dirtyAt ds l2.ts = 0
          · exact of_none line l0 l1 l2 ad cd ds w h0 h1 h2 hd hdl hn h8 z0 z1 z2
          · exact of_dirty2 line l0 l1 l2 ad cd ds w h0 h1 h2 hd hdl hn h8 z0 z1 (by omega)
        · exact of_dirty1 line l0 l1 l2 ad cd ds w h0 h1 h2 hd hdl hn h8 z0 (by omega)
      · exact of_dirty0 line l0 l1 l2 ad cd ds w h0 h1 h2 hd hdl hn h8 (by omega)
end Go.Proofs.Ythdjokcjajlnnaa
