import Derived.Test.YthdjokcjajlnnaaW3
import Derived.Deep.RegionHeld3
namespace Go.Proofs.Ythdjokcjajlnnaa
open Go.RowKit Go.Herb

/-- A level of a shelf: its address, its room, its tables. -/
structure Lv where
  a : Option Addr
  cap : Nat
  ts : List T

abbrev sv (l : Lv) : Value := .slice l.a l.ts.length l.cap

structure LvOk (w : World) (l : Lv) : Prop where
  tabs : Tabs w l.a l.ts
  nil0 : l.a = none → l.cap = 0
  le : l.ts.length ≤ l.cap
  len : l.ts.length ≤ 1000
  wf : ∀ t ∈ l.ts, 0 ≤ t.bytes ∧ t.bytes < 4294967296

theorem LvOk.ext {w w' : World} {l : Lv} (h : LvOk w l) (hb : Below w.heap.size w w') : LvOk w' l := ⟨h.tabs.ext hb, h.nil0, h.le, h.len, h.wf⟩

set_option maxHeartbeats 800000 in
theorem down0_any (line : Int) (l0 l1 l2 : Lv) (w : World) (h0 : LvOk w l0) (h1 : LvOk w l1) (m : Nat) (hm : 0 < m) (hle : m ≤ l0.ts.length) :
    Calls Try.prog 15 #[.agg #[.int .u64 line, sv l0, sv l1, sv l2], .int .i64 0, .int .i64 m] w fun e w' =>
      ∃ vi vb, e = .returned (.agg #[.int .i64 0, .int .i64 1, vi, vb]) ∧ w'.ownsRow w.heap.size 45 4 vi m ((l0.ts.take m).flatMap tc) ∧
        w'.ownsRow w.heap.size 45 4 vb (l1.ts.filter (meetB · (spanL (l0.ts.take m)))).length ((l1.ts.filter (meetB · (spanL (l0.ts.take m)))).flatMap tc) ∧ Below w.heap.size w w' := by
  have hcap := h0.le
  have hlen := h0.len
  have H0 := Lib.hid h0
  have H1 := Lib.hid h1
  have hml : (l0.ts.take m).length = m := by simp; omega
  have HML := Lib.hid hml
  clear h0 h1 hml
  go_enter Try.func15, Try.ntmps15
  go_wp2_with fail
  have hb0 : Below w.heap.size w ((w.alloc (Obj.cells #[Value.int IntKind.u64 line, sv l0, sv l1, sv l2] 26)).alloc (Obj.cells #[Value.int IntKind.i64 0, Value.int IntKind.i64 0, Value.slice none 0 0, Value.slice none 0 0] 29)) := ((Below.refl _ _).alloc (Nat.le_refl _) _).alloc (by simp) _
  have c := clone_any l0.a l0.cap (l0.ts.take m) ((w.alloc (Obj.cells #[Value.int IntKind.u64 line, sv l0, sv l1, sv l2] 26)).alloc (Obj.cells #[Value.int IntKind.i64 0, Value.int IntKind.i64 0, Value.slice none 0 0, Value.slice none 0 0] 29)) ((H0.out.tabs.ext hb0).take m) (by simp; omega) H0.out.nil0
  rw [HML.out] at c
  refine c.mono ?_
  clear c
  rintro e w1 ⟨vi, rfl, hO1, hb1⟩
  simp only [World.size_alloc] at hO1 hb1
  obtain ⟨ai, capi, rfl, hci, hEi⟩ := els_of_owns (xs := l0.ts.take m) tc_len (by rw [HML.out]; exact hO1)
  have s1 := blk_below (blk_alloc (blk_new w (Obj.cells #[Value.int IntKind.u64 line, sv l0, sv l1, sv l2] 26))) hb1 (by omega)
  have s2 := blk_below (blk_new (w.alloc (Obj.cells #[Value.int IntKind.u64 line, sv l0, sv l1, sv l2] 26)) (Obj.cells #[Value.int IntKind.i64 0, Value.int IntKind.i64 0, Value.slice none 0 0, Value.slice none 0 0] 29)) hb1 (by simp)
  simp only [World.size_alloc] at s2
  have c2 := cell_of_blk s1 2
  have d0 := cell_of_blk s2 0
  have d1 := cell_of_blk s2 1
  have d2 := cell_of_blk s2 2
  have d3 := cell_of_blk s2 3
  have f0 := frozen_of_blk s2 0
  have f1 := frozen_of_blk s2 1
  have f2 := frozen_of_blk s2 2
  have f3 := frozen_of_blk s2 3
  simp at c2 d0 d1 d2 d3
  have hb2 : Below w.heap.size w w1 := hb0.trans (hb1.mono (by omega))
  have HE1 := Lib.hid (H1.out.ext hb2)
  have hsz : w.heap.size + 2 ≤ w1.heap.size := by have := hb1.size; simpa using this
  have S2 := Lib.hid s2
  have HEI := Lib.hid hEi
  have HO1 := Lib.hid hO1
  clear s1 s2 hEi hO1 hb1 hb0
  go_wp2_with fail
  have hwr : IntKind.i64.wrap 1 = 1 := by decide
  have csp : Calls Try.prog 27 #[Value.slice ai m capi] w1.drew fun e w' => e = .returned (tv (spanL (l0.ts.take m))) ∧ Below w1.heap.size w1 w' := by
    have c := span_any ai capi (l0.ts.take m) w1.drew (HEI.out.ext (Below.refl _ _).drew) (by simp; omega)
    rw [HML.out] at c
    exact c.mono fun e w' ⟨he, hb⟩ => ⟨he, (Below.refl _ _).drew.trans hb⟩
  have CSP := Lib.hid csp
  clear csp
  have cam : ∀ W, Below w1.heap.size w1 W → Calls Try.prog 26 #[sv l1, tv (spanL (l0.ts.take m)), .func (.func 28) #[] #[]] W fun e w' => ∃ vb, e = .returned vb ∧ w'.ownsRow w1.heap.size 45 4 vb (l1.ts.filter (meetB · (spanL (l0.ts.take m)))).length ((l1.ts.filter (meetB · (spanL (l0.ts.take m)))).flatMap tc) ∧ Below w1.heap.size w1 w' := by
    intro W hW
    exact (among_any l1.a l1.cap l1.ts _ W (HE1.out.tabs.ext hW) (by have := HE1.out.len; omega)).mono fun e w' ⟨vb, he, hO, hb⟩ => ⟨vb, he, ownsRow_mono hO hW.size, hW.trans (hb.mono hW.size)⟩
  have CAM := Lib.hid cam
  clear cam
  obtain ⟨sp, hsp⟩ : ∃ sp, sp = spanL (l0.ts.take m) := ⟨_, rfl⟩
  rw [← hsp] at CSP CAM
  have HSP := Lib.hid hsp
  clear hsp
  go_region_held3 (fun w' => w'.cell? ⟨w.heap.size, 2, none⟩ = some (sv l1)) (go_keep)
    (first | (go_at_call 27; refine (CSP.out).mono ?_; rintro e w2 ⟨rfl, hb3⟩; have hw2c := (hb3.cell (p := ⟨w.heap.size, 2, none⟩) (by simp; omega)).trans c2)
           | (go_at_call 26; refine (CAM.out _ hb3).mono ?_; rintro e w3 ⟨vb, rfl, hO3, hb4⟩; obtain ⟨ab, capb, rfl, hcb, hEb⟩ := els_of_owns tc_len hO3; have HO3 := Lib.hid hO3; clear hO3 hEb; have hw3c := (hb4.cell (p := ⟨w.heap.size, 2, none⟩) (by simp; omega)).trans c2; have d0' := (hb4.cell (p := ⟨w.heap.size + 1, 0, none⟩) (by simp; omega)).trans d0; have d1' := (hb4.cell (p := ⟨w.heap.size + 1, 1, none⟩) (by simp; omega)).trans d1; have d2' := (hb4.cell (p := ⟨w.heap.size + 1, 2, none⟩) (by simp; omega)).trans d2; have d3' := (hb4.cell (p := ⟨w.heap.size + 1, 3, none⟩) (by simp; omega)).trans d3; have f0' := (hb4.frozen (p := ⟨w.heap.size + 1, 0, none⟩) (by simp; omega)).trans f0; have f1' := (hb4.frozen (p := ⟨w.heap.size + 1, 1, none⟩) (by simp; omega)).trans f1; have f2' := (hb4.frozen (p := ⟨w.heap.size + 1, 2, none⟩) (by simp; omega)).trans f2; have f3' := (hb4.frozen (p := ⟨w.heap.size + 1, 3, none⟩) (by simp; omega)).trans f3))
  rename_i hheld
  clear hheld
  have HB4 := Lib.hid hb4
  clear hb4 hb3 CAM CSP
  go_wp2
  refine bodyPost_ret (v := .agg #[.int .i64 0, .int .i64 1, .slice ai m capi, .slice ab (l1.ts.filter (meetB · sp)).length capb]) (by simp [results, Try.results15, go_sem, *]) rfl ⟨_, _, rfl, ?_, ?_, ?_⟩
  · have h := ownsRow_below HO1.out HB4.out (Nat.le_refl _)
    rw [HML.out] at h
    exact ownsRow_mono (ownsRow_setCell_below (ownsRow_setCell_below (ownsRow_setCell_below (ownsRow_setCell_below h (by simp) _) (by simp) _) (by simp) _) (by simp) _) (by omega)
  · rw [← HSP.out]
    exact ownsRow_mono (ownsRow_setCell_below (ownsRow_setCell_below (ownsRow_setCell_below (ownsRow_setCell_below HO3.out (by simp; omega) _) (by simp; omega) _) (by simp; omega) _) (by simp; omega) _) (by omega)
  · exact ((((hb2.trans (HB4.out.mono (by omega))).setCell (by simp) _).setCell (by simp) _).setCell (by simp) _).setCell (by simp) _

set_option maxHeartbeats 800000 in
theorem down1_any (line : Int) (l0 l1 l2 : Lv) (w : World) (h0 : LvOk w l1) (h1 : LvOk w l2) (m : Nat) (hm : 0 < m) (hle : m ≤ l1.ts.length) :
    Calls Try.prog 15 #[.agg #[.int .u64 line, sv l0, sv l1, sv l2], .int .i64 1, .int .i64 m] w fun e w' =>
      ∃ vi vb, e = .returned (.agg #[.int .i64 1, .int .i64 2, vi, vb]) ∧ w'.ownsRow w.heap.size 45 4 vi m ((l1.ts.take m).flatMap tc) ∧
        w'.ownsRow w.heap.size 45 4 vb (l2.ts.filter (meetB · (spanL (l1.ts.take m)))).length ((l2.ts.filter (meetB · (spanL (l1.ts.take m)))).flatMap tc) ∧ Below w.heap.size w w' := by
  have hcap := h0.le
  have hlen := h0.len
  have H0 := Lib.hid h0
  have H1 := Lib.hid h1
  have hml : (l1.ts.take m).length = m := by simp; omega
  have HML := Lib.hid hml
  clear h0 h1 hml
  go_enter Try.func15, Try.ntmps15
  go_wp2_with fail
  have hb0 : Below w.heap.size w ((w.alloc (Obj.cells #[Value.int IntKind.u64 line, sv l0, sv l1, sv l2] 26)).alloc (Obj.cells #[Value.int IntKind.i64 0, Value.int IntKind.i64 0, Value.slice none 0 0, Value.slice none 0 0] 29)) := ((Below.refl _ _).alloc (Nat.le_refl _) _).alloc (by simp) _
  have c := clone_any l1.a l1.cap (l1.ts.take m) ((w.alloc (Obj.cells #[Value.int IntKind.u64 line, sv l0, sv l1, sv l2] 26)).alloc (Obj.cells #[Value.int IntKind.i64 0, Value.int IntKind.i64 0, Value.slice none 0 0, Value.slice none 0 0] 29)) ((H0.out.tabs.ext hb0).take m) (by simp; omega) H0.out.nil0
  rw [HML.out] at c
  refine c.mono ?_
  clear c
  rintro e w1 ⟨vi, rfl, hO1, hb1⟩
  simp only [World.size_alloc] at hO1 hb1
  obtain ⟨ai, capi, rfl, hci, hEi⟩ := els_of_owns (xs := l1.ts.take m) tc_len (by rw [HML.out]; exact hO1)
  have s1 := blk_below (blk_alloc (blk_new w (Obj.cells #[Value.int IntKind.u64 line, sv l0, sv l1, sv l2] 26))) hb1 (by omega)
  have s2 := blk_below (blk_new (w.alloc (Obj.cells #[Value.int IntKind.u64 line, sv l0, sv l1, sv l2] 26)) (Obj.cells #[Value.int IntKind.i64 0, Value.int IntKind.i64 0, Value.slice none 0 0, Value.slice none 0 0] 29)) hb1 (by simp)
  simp only [World.size_alloc] at s2
  have c2 := cell_of_blk s1 3
  have d0 := cell_of_blk s2 0
  have d1 := cell_of_blk s2 1
  have d2 := cell_of_blk s2 2
  have d3 := cell_of_blk s2 3
  have f0 := frozen_of_blk s2 0
  have f1 := frozen_of_blk s2 1
  have f2 := frozen_of_blk s2 2
  have f3 := frozen_of_blk s2 3
  simp at c2 d0 d1 d2 d3
  have hb2 : Below w.heap.size w w1 := hb0.trans (hb1.mono (by omega))
  have HE1 := Lib.hid (H1.out.ext hb2)
  have hsz : w.heap.size + 2 ≤ w1.heap.size := by have := hb1.size; simpa using this
  have S2 := Lib.hid s2
  have HEI := Lib.hid hEi
  have HO1 := Lib.hid hO1
  clear s1 s2 hEi hO1 hb1 hb0
  go_wp2_with fail
  have hwr : IntKind.i64.wrap 2 = 2 := by decide
  have csp : Calls Try.prog 27 #[Value.slice ai m capi] w1.drew fun e w' => e = .returned (tv (spanL (l1.ts.take m))) ∧ Below w1.heap.size w1 w' := by
    have c := span_any ai capi (l1.ts.take m) w1.drew (HEI.out.ext (Below.refl _ _).drew) (by simp; omega)
    rw [HML.out] at c
    exact c.mono fun e w' ⟨he, hb⟩ => ⟨he, (Below.refl _ _).drew.trans hb⟩
  have CSP := Lib.hid csp
  clear csp
  have cam : ∀ W, Below w1.heap.size w1 W → Calls Try.prog 26 #[sv l2, tv (spanL (l1.ts.take m)), .func (.func 28) #[] #[]] W fun e w' => ∃ vb, e = .returned vb ∧ w'.ownsRow w1.heap.size 45 4 vb (l2.ts.filter (meetB · (spanL (l1.ts.take m)))).length ((l2.ts.filter (meetB · (spanL (l1.ts.take m)))).flatMap tc) ∧ Below w1.heap.size w1 w' := by
    intro W hW
    exact (among_any l2.a l2.cap l2.ts _ W (HE1.out.tabs.ext hW) (by have := HE1.out.len; omega)).mono fun e w' ⟨vb, he, hO, hb⟩ => ⟨vb, he, ownsRow_mono hO hW.size, hW.trans (hb.mono hW.size)⟩
  have CAM := Lib.hid cam
  clear cam
  obtain ⟨sp, hsp⟩ : ∃ sp, sp = spanL (l1.ts.take m) := ⟨_, rfl⟩
  rw [← hsp] at CSP CAM
  have HSP := Lib.hid hsp
  clear hsp
  go_region_held3 (fun w' => w'.cell? ⟨w.heap.size, 3, none⟩ = some (sv l2)) (go_keep)
    (first | (go_at_call 27; refine (CSP.out).mono ?_; rintro e w2 ⟨rfl, hb3⟩; have hw2c := (hb3.cell (p := ⟨w.heap.size, 3, none⟩) (by simp; omega)).trans c2)
           | (go_at_call 26; refine (CAM.out _ hb3).mono ?_; rintro e w3 ⟨vb, rfl, hO3, hb4⟩; obtain ⟨ab, capb, rfl, hcb, hEb⟩ := els_of_owns tc_len hO3; have HO3 := Lib.hid hO3; clear hO3 hEb; have hw3c := (hb4.cell (p := ⟨w.heap.size, 3, none⟩) (by simp; omega)).trans c2; have d0' := (hb4.cell (p := ⟨w.heap.size + 1, 0, none⟩) (by simp; omega)).trans d0; have d1' := (hb4.cell (p := ⟨w.heap.size + 1, 1, none⟩) (by simp; omega)).trans d1; have d2' := (hb4.cell (p := ⟨w.heap.size + 1, 2, none⟩) (by simp; omega)).trans d2; have d3' := (hb4.cell (p := ⟨w.heap.size + 1, 3, none⟩) (by simp; omega)).trans d3; have f0' := (hb4.frozen (p := ⟨w.heap.size + 1, 0, none⟩) (by simp; omega)).trans f0; have f1' := (hb4.frozen (p := ⟨w.heap.size + 1, 1, none⟩) (by simp; omega)).trans f1; have f2' := (hb4.frozen (p := ⟨w.heap.size + 1, 2, none⟩) (by simp; omega)).trans f2; have f3' := (hb4.frozen (p := ⟨w.heap.size + 1, 3, none⟩) (by simp; omega)).trans f3))
  rename_i hheld
  clear hheld
  have HB4 := Lib.hid hb4
  clear hb4 hb3 CAM CSP
  go_wp2
  refine bodyPost_ret (v := .agg #[.int .i64 1, .int .i64 2, .slice ai m capi, .slice ab (l2.ts.filter (meetB · sp)).length capb]) (by simp [results, Try.results15, go_sem, *]) rfl ⟨_, _, rfl, ?_, ?_, ?_⟩
  · have h := ownsRow_below HO1.out HB4.out (Nat.le_refl _)
    rw [HML.out] at h
    exact ownsRow_mono (ownsRow_setCell_below (ownsRow_setCell_below (ownsRow_setCell_below (ownsRow_setCell_below h (by simp) _) (by simp) _) (by simp) _) (by simp) _) (by omega)
  · rw [← HSP.out]
    exact ownsRow_mono (ownsRow_setCell_below (ownsRow_setCell_below (ownsRow_setCell_below (ownsRow_setCell_below HO3.out (by simp; omega) _) (by simp; omega) _) (by simp; omega) _) (by simp; omega) _) (by omega)
  · exact ((((hb2.trans (HB4.out.mono (by omega))).setCell (by simp) _).setCell (by simp) _).setCell (by simp) _).setCell (by simp) _
end Go.Proofs.Ythdjokcjajlnnaa
