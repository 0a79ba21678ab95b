import Derived.Test.YthdjokcjajlnnaaW6
namespace Go.Proofs.Ythdjokcjajlnnaa
open Go.RowKit Go.Herb Go.Fl

/-- A plan. -/
structure Pl where
  frm : Nat
  to : Nat
  inn : List T
  beside : List T
  is : Bool

def dirtyP (ds : List Int) (l0 l1 l2 : List T) : Pl :=
  if dirtyAt ds l0 ≠ 0 then ⟨0, 0, (l0.drop (dirtyAt ds l0 - 1)).take 1, [], true⟩
  else if dirtyAt ds l1 ≠ 0 then ⟨1, 1, (l1.drop (dirtyAt ds l1 - 1)).take 1, [], true⟩
  else if dirtyAt ds l2 ≠ 0 then ⟨2, 2, (l2.drop (dirtyAt ds l2 - 1)).take 1, [], true⟩
  else ⟨0, 0, [], [], false⟩

def ofP (ds : List Int) (l0 l1 l2 : List T) : Pl :=
  if 2 < l0.length then ⟨0, 1, l0, l1.filter (meetB · (spanL l0)), true⟩
  else if 8192 < bytesL l1 then ⟨1, 2, l1.take 1, l2.filter (meetB · (spanL (l1.take 1))), true⟩
  else dirtyP ds l0 l1 l2

/-- What Of answers: a plan in memory. -/
def Planned (p : Pl) (w : World) (e : Ending) (w' : World) : Prop :=
  ∃ li lb : Lv, e = .returned (.tuple #[.agg #[.int .i64 p.frm, .int .i64 p.to, sv li, sv lb], .bool p.is]) ∧ li.ts = p.inn ∧ lb.ts = p.beside ∧ LvOk w' li ∧ LvOk w' lb ∧ Below w.heap.size w w'

theorem lvOk_of_owns {w : World} {base : Nat} {v : Value} {xs : List T} (h : w.ownsRow base 45 4 v xs.length (xs.flatMap tc)) (hl : xs.length ≤ 1000) (hw : ∀ t ∈ xs, 0 ≤ t.bytes ∧ t.bytes < 4294967296) :
    ∃ l : Lv, v = sv l ∧ l.ts = xs ∧ LvOk w l := by
  obtain ⟨h1, ⟨h2, h3⟩ | ⟨g, cap, cur, hv, hg, hh, hle, r⟩⟩ := h
  · have : xs = [] := List.length_eq_zero_iff.1 h3
    subst this
    exact ⟨⟨none, 0, []⟩, h2, rfl, ⟨Els.nil _ _ _ _, fun _ => rfl, Nat.le_refl _, by simp, by simp⟩⟩
  · obtain ⟨a, cap', hv', hle', hE⟩ := els_of_owns tc_len ⟨h1, .inr ⟨g, cap, cur, hv, hg, hh, hle, r⟩⟩
    refine ⟨⟨a, cap', xs⟩, hv', rfl, ⟨hE, ?_, hle', hl, hw⟩⟩
    rw [hv] at hv'
    injection hv' with h4
    intro h5
    have h6 : a = none := h5
    rw [h6] at h4
    cases h4

set_option maxRecDepth 100000 in
set_option maxHeartbeats 800000 in
theorem of_wide (line : Int) (l0 l1 l2 : Lv) (ad : Option Addr) (cd : Nat) (ds : List Int) (w : World) (h0 : LvOk w l0) (h1 : LvOk w l1) (h2 : LvOk w l2) (hn : 2 < l0.ts.length) :
    Calls Try.prog 8 #[.agg #[.int .u64 line, sv l0, sv l1, sv l2], .slice ad ds.length cd] w (Planned (ofP ds l0.ts l1.ts l2.ts) w) := by
  have H0 := Lib.hid h0
  have H1 := Lib.hid h1
  have H2 := Lib.hid h2
  have hlen := h0.len
  clear h0 h1 h2
  have hp : ofP ds l0.ts l1.ts l2.ts = ⟨0, 1, l0.ts, l1.ts.filter (meetB · (spanL l0.ts)), true⟩ := by simp [ofP, hn]
  have HP := Lib.hid hp
  clear hp
  go_enter Try.func8, Try.ntmps8
  go_wp2_with fail
  obtain ⟨W, hW⟩ : ∃ W : World, W = (w.alloc (Obj.cells #[.int .u64 line, sv l0, sv l1, sv l2] 26)).alloc (Obj.cells #[.int .i64 0, .int .i64 0, .slice none 0 0, .slice none 0 0] 29) := ⟨_, rfl⟩
  have hB0 : Below w.heap.size w W := by rw [hW]; go_grown
  have hz : W.heap.size = w.heap.size + 2 := by rw [hW]; simp
  have hp2 : W.heap[w.heap.size + 1]? = some (.cells #[.int .i64 0, .int .i64 0, .slice none 0 0, .slice none 0 0] 29 (0, 0)) := by rw [hW]; exact blk_new_at (by simp) _
  rw [← hW]
  clear hW
  refine (down0_any line l0 l1 l2 W (H0.out.ext hB0) (H1.out.ext hB0) l0.ts.length (by omega) (Nat.le_refl _)).mono ?_
  rintro e w1 ⟨vi, vb, rfl, hO1, hO2, hb1⟩
  rw [List.take_length] at hO1 hO2
  obtain ⟨li, rfl, hti, hLi⟩ := lvOk_of_owns hO1 hlen H0.out.wf
  obtain ⟨lb, rfl, htb, hLb⟩ := lvOk_of_owns hO2 (Nat.le_trans (List.length_filter_le _ _) H1.out.len) (fun t ht => H1.out.wf t ((List.mem_filter.1 ht).1))
  obtain ⟨d0, d1, d2, d3, f0, f1, f2, f3⟩ := blk_cells4 (blk_below hp2 hb1 (by omega))
  have HO1 := Lib.hid hO1
  have HO2 := Lib.hid hO2
  have Hti := Lib.hid hti
  have Htb := Lib.hid htb
  have hBw := hB0.trans (hb1.mono (by omega))
  clear hO1 hO2 hLi hLb hti htb hp2
  go_wp2
  refine bodyPost_ret (v := .tuple #[.agg #[.int .i64 0, .int .i64 1, sv li, sv lb], .bool true]) (by simp [results, Try.results8, go_sem, *]) rfl ?_
  obtain ⟨li', e1, ht1, hL1⟩ := lvOk_of_owns (ownsRow_set4 HO1.out (b := w.heap.size + 1) (by omega) (.int .i64 0) (.int .i64 1) (sv li) (sv lb)) hlen H0.out.wf
  obtain ⟨lb', e2, ht2, hL2⟩ := lvOk_of_owns (ownsRow_set4 HO2.out (b := w.heap.size + 1) (by omega) (.int .i64 0) (.int .i64 1) (sv li) (sv lb)) (Nat.le_trans (List.length_filter_le _ _) H1.out.len) (fun t ht => H1.out.wf t (List.mem_filter.1 ht).1)
  refine ⟨li', lb', ?_, ?_, ?_, hL1, hL2, by go_grown⟩
  · rw [HP.out, e1, e2]; rfl
  · rw [HP.out]; exact ht1
  · rw [HP.out]; exact ht2
end Go.Proofs.Ythdjokcjajlnnaa
