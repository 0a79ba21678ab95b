import Derived.Test.YthdjokcjajlnnaaRows
import Derived.Test.YthdjokcjajlnnaaWG
import Derived.Test.YthdjokcjajlnnaaRd
namespace Go.Proofs.Ythdjokcjajlnnaa
open Go.ChangeShapes Go.WideShapes Go.ChangeAt Go.RowKit Go.Herb Go.Deep

theorem Try.own : ownKnob Try.prog.godebug = none := by kernel_rfl
theorem Try.laidOut : laidOutB Try.prog = true := by kernel_rfl
theorem Try.cells45 : Try.prog.cellsOf 45 = 4 := by kernel_rfl
theorem Try.cells23 : Try.prog.cellsOf 23 = 1 := by kernel_rfl
theorem Try.cells24 : Try.prog.cellsOf 24 = 3 := by kernel_rfl
theorem Try.cells26 : Try.prog.cellsOf 26 = 4 := by kernel_rfl
theorem Try.cells27 : Try.prog.cellsOf 27 = 1 := by kernel_rfl
theorem Try.cells29 : Try.prog.cellsOf 29 = 4 := by kernel_rfl
theorem Try.cells31 : Try.prog.cellsOf 31 = 10 := by kernel_rfl
theorem Try.cells22 : Try.prog.cellsOf 22 = 1 := by kernel_rfl
theorem Try.cells3 : Try.prog.cellsOf 3 = 1 := by kernel_rfl

section
variable {H : Type} {enc : TypeId × Value → H} {w : World}

theorem fieldAt {fs : Array Field} {Q : Nat → TypeId → Prop} (h : ∀ (j : Nat) (f : Field), fs[j]? = some f → Q j f.type) (j : Nat) (t : TypeId) (ht : (fs[j]?).map (·.type) = some t) : Q j t := by
  obtain ⟨f, hf, rfl⟩ := Option.map_eq_some_iff.1 ht
  exact h j f hf

theorem rd_tables {fuel : Nat} {cs : List Value} {x : DataW H × List MemPlace} (h : DataW.trod enc Try.prog w 0 (fun _ => true) true fuel 23 cs = some x) :
    ∃ l : Lv, cs = [sv l] ∧ LvIn w l := by
  have hfs : Try.prog.underlying 45 = some (.struct (Try.prog.fieldsOf 45)) := by kernel_rfl
  rcases open_slice_fields Try.underlying23 hfs (by kernel_rfl) (by kernel_rfl) h with h0 | ⟨a, len, cap, hcs, hl, hm, hi⟩
  · exact ⟨⟨none, 0, []⟩, h0, ⟨Els.nil _ _ _ _, fun _ => rfl, Nat.le_refl _, by simp⟩⟩
  · obtain ⟨xs, hlen, hq, hE⟩ := els_of_cells (enc := tc) (s := 4) (w := w) (a := a) (Q := fun t => 0 ≤ t.bytes ∧ t.bytes < 4294967296) len (fun _ => by simp [tc]) (fun i hil => by
      obtain ⟨n, hj⟩ := hi i hil
      have hsz : (Try.prog.fieldsOf 45).size = 4 := by kernel_rfl
      rw [hsz] at hj
      obtain ⟨v0, y0, c0, e0⟩ := fieldAt (Q := fun j t => ∃ v y, w.cell? (a.add (i * 4 + j)) = some v ∧ DataW.trod enc Try.prog w 0 (fun _ => true) true n t [v] = some y) hj 0 22 (by kernel_rfl)
      obtain ⟨v1, y1, c1, e1⟩ := fieldAt (Q := fun j t => ∃ v y, w.cell? (a.add (i * 4 + j)) = some v ∧ DataW.trod enc Try.prog w 0 (fun _ => true) true n t [v] = some y) hj 1 43 (by kernel_rfl)
      obtain ⟨v2, y2, c2, e2⟩ := fieldAt (Q := fun j t => ∃ v y, w.cell? (a.add (i * 4 + j)) = some v ∧ DataW.trod enc Try.prog w 0 (fun _ => true) true n t [v] = some y) hj 2 9 (by kernel_rfl)
      obtain ⟨v3, y3, c3, e3⟩ := fieldAt (Q := fun j t => ∃ v y, w.cell? (a.add (i * 4 + j)) = some v ∧ DataW.trod enc Try.prog w 0 (fun _ => true) true n t [v] = some y) hj 3 9 (by kernel_rfl)
      obtain ⟨n0, hn0, _, w0⟩ := DataW.trod_int Try.underlying22 e0
      obtain ⟨n1, hn1, _, w1⟩ := DataW.trod_int Try.underlying43 e1
      obtain ⟨n2, hn2, _⟩ := DataW.trod_string Try.underlying9 e2
      obtain ⟨n3, hn3, _⟩ := DataW.trod_string Try.underlying9 e3
      simp only [List.cons.injEq, and_true] at hn0 hn1 hn2 hn3
      subst hn0 hn1 hn2 hn3
      refine ⟨⟨n0, n1, n2, n3⟩, (by have := bounds_u32 w1; simp only; omega), fun j c hj => ?_⟩
      match j, hj with
      | 0, hj => simp [tc] at hj; subst hj; exact c0
      | 1, hj => simp [tc] at hj; subst hj; exact c1
      | 2, hj => simp [tc] at hj; subst hj; exact c2
      | 3, hj => simp [tc] at hj; subst hj; exact c3
      | j + 4, hj => simp [tc] at hj)
    subst hlen
    exact ⟨⟨some a, cap, xs⟩, hcs, ⟨hE, (fun h => by cases h), hl, hq⟩⟩

/-- The fields of a struct, each where it lies. -/
theorem rd_struct {t : TypeId} {fuel : Nat} {cs : List Value} {x : DataW H × List MemPlace} (ht : Try.prog.underlying t = some (.struct (Try.prog.fieldsOf t))) (h : DataW.trod enc Try.prog w 0 (fun _ => true) true fuel t cs = some x) :
    cs.length = Try.prog.cellsOf t ∧ ∃ n, ∀ (i o u : Nat), ((Try.prog.fieldsOf t)[i]?).map (fun f => (f.offset, f.type)) = some (o, u) → ∃ y, DataW.trod enc Try.prog w 0 (fun _ => true) true n u ((cs.drop o).take (Try.prog.cellsOf u)) = some y := by
  obtain ⟨ys, n, _, _, hlen, hyl, hf⟩ := DataW.trod_struct ht h
  refine ⟨hlen, n, fun i o u hi => ?_⟩
  obtain ⟨f, hf', he⟩ := Option.map_eq_some_iff.1 hi
  simp only [Prod.mk.injEq] at he
  obtain ⟨rfl, rfl⟩ := he
  have hil : i < (Try.prog.fieldsOf t).size := (Array.getElem?_eq_some_iff.1 hf').1
  exact ⟨_, (hf i f hf').trans (List.getElem?_eq_getElem (by omega))⟩

theorem rd_shelf {fuel : Nat} {cs : List Value} {x : DataW H × List MemPlace} (h : DataW.trod enc Try.prog w 0 (fun _ => true) true fuel 26 cs = some x) :
    ∃ (line : Int) (l0 l1 l2 : Lv), cs = [.int .u64 line, sv l0, sv l1, sv l2] ∧ LvIn w l0 ∧ LvIn w l1 ∧ LvIn w l2 := by
  obtain ⟨hlen, n, hf⟩ := rd_struct (t := 26) (by kernel_rfl) h
  rw [Try.cells26] at hlen
  match cs, hlen with
  | [c0, c1, c2, c3], _ =>
    obtain ⟨y0, e0⟩ := hf 0 0 22 (by kernel_rfl)
    obtain ⟨y1, e1⟩ := hf 1 1 24 (by kernel_rfl)
    rw [Try.cells22] at e0
    rw [Try.cells24] at e1
    simp only [List.drop_zero, List.take_succ_cons, List.take_zero, List.drop_succ_cons] at e0 e1
    obtain ⟨n0, hn0, _, _⟩ := DataW.trod_int Try.underlying22 e0
    obtain ⟨ys, m, _, _, _, hyl, ha⟩ := DataW.trod_array Try.underlying24 e1
    have a0 := ha 0 (by omega)
    have a1 := ha 1 (by omega)
    have a2 := ha 2 (by omega)
    rw [Try.cells23] at a0 a1 a2
    simp only [Nat.mul_one, List.drop_zero, List.take_succ_cons, List.take_zero, List.drop_succ_cons] at a0 a1 a2
    obtain ⟨l0, h0, i0⟩ := rd_tables (a0.trans (List.getElem?_eq_getElem (by omega)))
    obtain ⟨l1, h1, i1⟩ := rd_tables (a1.trans (List.getElem?_eq_getElem (by omega)))
    obtain ⟨l2, h2, i2⟩ := rd_tables (a2.trans (List.getElem?_eq_getElem (by omega)))
    simp only [List.cons.injEq, and_true] at hn0 h0 h1 h2
    subst hn0 h0 h1 h2
    exact ⟨n0, l0, l1, l2, rfl, i0, i1, i2⟩

theorem rd_plan {fuel : Nat} {cs : List Value} {x : DataW H × List MemPlace} (h : DataW.trod enc Try.prog w 0 (fun _ => true) true fuel 29 cs = some x) :
    ∃ (fr to : Int) (l0 l1 : Lv), cs = [.int .i64 fr, .int .i64 to, sv l0, sv l1] ∧ LvIn w l0 ∧ LvIn w l1 := by
  obtain ⟨hlen, n, hf⟩ := rd_struct (t := 29) (by kernel_rfl) h
  rw [Try.cells29] at hlen
  match cs, hlen with
  | [c0, c1, c2, c3], _ =>
    obtain ⟨y0, e0⟩ := hf 0 0 3 (by kernel_rfl)
    obtain ⟨y1, e1⟩ := hf 1 1 3 (by kernel_rfl)
    obtain ⟨y2, e2⟩ := hf 2 2 23 (by kernel_rfl)
    obtain ⟨y3, e3⟩ := hf 3 3 23 (by kernel_rfl)
    rw [Try.cells3] at e0 e1
    rw [Try.cells23] at e2 e3
    simp only [List.drop_zero, List.take_succ_cons, List.take_zero, List.drop_succ_cons] at e0 e1 e2 e3
    obtain ⟨n0, hn0, _, _⟩ := DataW.trod_int Try.underlying3 e0
    obtain ⟨n1, hn1, _, _⟩ := DataW.trod_int Try.underlying3 e1
    obtain ⟨l0, h0, i0⟩ := rd_tables e2
    obtain ⟨l1, h1, i1⟩ := rd_tables e3
    simp only [List.cons.injEq, and_true] at hn0 hn1 h0 h1
    subst hn0 hn1 h0 h1
    exact ⟨n0, n1, l0, l1, rfl, i0, i1⟩

theorem rd_asked {fuel : Nat} {cs : List Value} {x : DataW H × List MemPlace} (h : DataW.trod enc Try.prog w 0 (fun _ => true) true fuel 31 cs = some x) :
    ∃ (line fr to : Int) (l0 l1 l2 li lb ll : Lv) (ad : Option Addr) (cd : Nat) (ds : List Int), cs = [.int .u64 line, sv l0, sv l1, sv l2, .slice ad ds.length cd, .int .i64 fr, .int .i64 to, sv li, sv lb, sv ll] ∧
      LvIn w l0 ∧ LvIn w l1 ∧ LvIn w l2 ∧ LvIn w li ∧ LvIn w lb ∧ LvIn w ll ∧ U64s w ad ds := by
  obtain ⟨hlen, n, hf⟩ := rd_struct (t := 31) (by kernel_rfl) h
  rw [Try.cells31] at hlen
  match cs, hlen with
  | [c0, c1, c2, c3, c4, c5, c6, c7, c8, c9], _ =>
    obtain ⟨y0, e0⟩ := hf 0 0 26 (by kernel_rfl)
    obtain ⟨y1, e1⟩ := hf 1 4 27 (by kernel_rfl)
    obtain ⟨y2, e2⟩ := hf 2 5 29 (by kernel_rfl)
    obtain ⟨y3, e3⟩ := hf 3 9 23 (by kernel_rfl)
    rw [Try.cells26] at e0
    rw [Try.cells27] at e1
    rw [Try.cells29] at e2
    rw [Try.cells23] at e3
    simp only [List.drop_zero, List.take_succ_cons, List.take_zero, List.drop_succ_cons] at e0 e1 e2 e3
    obtain ⟨line, l0, l1, l2, h0, i0, i1, i2⟩ := rd_shelf e0
    obtain ⟨ad, cd, ds, h1, _, _, _, _, hd⟩ := open_slice_ints Try.underlying27 Try.underlying22 Try.cells22 e1
    obtain ⟨fr, to, li, lb, h2, i3, i4⟩ := rd_plan e2
    obtain ⟨ll, h3, i5⟩ := rd_tables e3
    simp only [List.cons.injEq, and_true] at h0 h1 h2 h3
    obtain ⟨rfl, rfl, rfl, rfl⟩ := h0
    obtain ⟨rfl, rfl, rfl, rfl⟩ := h2
    subst h1 h3
    exact ⟨line, fr, to, l0, l1, l2, li, lb, ll, ad, cd, ds, rfl, i0, i1, i2, i3, i4, i5, hd⟩
end

set_option maxRecDepth 100000 in
theorem picksOf_lifted (os : Os) (started : os.Started) (H : Type) (enc : TypeId × Value → H) :
    ReturnsInHanded {} Try.checked os 3 .any (Rows.picksOfSpec.pre6 enc Try.prog Try.f3 Rows.picksOfRow.domain false) (Rows.picksOfSpec.post enc Try.prog Try.f3 false true false false) := by
  refine returnsInHanded_of_change (C := Try.checked) Try.own started (by kernel_rfl) Try.func3
    (ChangeSpec.witness6 (enc := enc) (C := Try.checked) false ⟨#[], #[.agg #[.int .u64 0, .slice none 0 0, .slice none 0 0, .slice none 0 0, .slice none 0 0, .int .i64 0, .int .i64 0, .slice none 0 0, .slice none 0 0, .slice none 0 0]], []⟩ 8 (by kernel_rfl) (by kernel_rfl) (by kernel_rfl) (by kernel_rfl)) ?_
  intro W base args ds gs before hval0 hW hcnd _
  have hval : ∀ (j : Nat) t v, Try.f3.params[j]? = some t → args[j]? = some v → Value.okWide Try.prog W .any base t v := hval0
  have hW' := hW
  obtain ⟨p, q, hA0, hV, rfl, hfz, hnd⟩ := hW
  have hA : DataW.TrodAll enc Try.prog W 0 (fun _ => true) true Try.f3.params.toList args.toList ds p := hA0
  rw [Try.params3] at hA hval
  obtain ⟨v0, d0, rfl, rfl, h0⟩ := trodAll_one hA
  obtain ⟨rfl, rfl⟩ := trodVars_none hV
  clear hA0 hval0
  simp only [List.append_nil] at hW'
  have h0k := h0
  obtain ⟨cs, rfl, hsz⟩ := okWide_struct (fs := Try.prog.fieldsOf 31) (by kernel_rfl) (hval 0 31 v0 rfl rfl)
  obtain ⟨fuel, hf⟩ := h0
  obtain ⟨line, fr, to, l0, l1, l2, li, lb, ll, ad, cd, dl, hcs, i0, i1, i2, _, _, _, hd⟩ := rd_asked (by simpa [Value.cells] using hf)
  obtain ⟨cl⟩ := cs
  simp only at hcs
  subst hcs
  refine (picksOf_any line fr to l0 l1 l2 li lb ll ad cd dl W i0 i1 i2 hd).mono fun e W' ⟨he, hb⟩ => ?_
  subst he
  have hlt : ∀ x ∈ p, x.block < W.heap.size := fun x hx => by simpa using hW'.lt x hx
  refine ⟨_, rfl, post_of_below (pa := p) (pv := []) hW' (fun _ _ _ => trodAll_mk1 (shut_bool Try.underlying4 true)) (fun sp hsp => ?_) (fun _ _ => rfl) (by simp) hb (ok_one (by kernel_rfl) rfl (okWide_bool_mk Try.underlying4 true))⟩
  exact trodAll_mk1 (WideElems.Trod_stays Try.laidOut (by kernel_rfl) (of_decide_eq_true (by kernel_rfl)) h0k (fun x hx => hb.same (hlt x hx)) (fun x hx => hsp x (by simpa using hx)))

theorem picksOf_holds : Rows.PicksOfSaid :=
  OpenClaim.holds_of_wide 3 Try.f3 rfl rfl rfl rfl rfl rfl rfl ⟨rfl, rfl, rfl, rfl, rfl⟩ rfl rfl rfl rfl rfl (by kernel_rfl) Try.func3 (by kernel_rfl)
    (of_decide_eq_true (by kernel_rfl)) (by unfold Func.isWrapper; first | (rw [if_pos (by decide +kernel)]; kernel_rfl) | (rw [if_neg (by decide +kernel)]; exact ⟨rfl, rfl⟩))
    (fun os started H enc _ => picksOf_lifted os started H enc)
#print axioms picksOf_holds
end Go.Proofs.Ythdjokcjajlnnaa
