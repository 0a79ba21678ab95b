/- How facts, links and watches are read. No condition. -/
import Derived.Test.YtenocakpipppiaaGreatDoorV2
import Derived.Test.YtenocakpipppiaaGreatDoorRd
import Derived.Test.YtenocakpipppiaaGreatDoorProg
namespace Go.Proofs.YtenocakpipppiaaGreatDoor
open Go.ChangeShapes Go.WideShapes Go.ChangeAt Go.RowKit Go.Herb Go.Deep

section
variable {H : Type} {enc : TypeId × Value → H} {w : World}

theorem fieldAt {fs : Array Field} {Q : Nat → TypeId → Prop} (h : ∀ (j : Nat) (f : Field), fs[j]? = some f → Q j f.type) (j : Nat) (t : TypeId) (ht : (fs[j]?).map (·.type) = some t) : Q j t := by
  obtain ⟨f, hf, rfl⟩ := Option.map_eq_some_iff.1 ht
  exact h j f hf

/-- The fields of a struct, each where it lies. -/
theorem rd_struct {t : TypeId} {fuel : Nat} {cs : List Value} {x : DataW H × List MemPlace} (ht : Tryz.prog.underlying t = some (.struct (Tryz.prog.fieldsOf t))) (h : DataW.trod enc Tryz.prog w 0 (fun _ => true) true fuel t cs = some x) :
    cs.length = Tryz.prog.cellsOf t ∧ ∃ n, ∀ (i o u : Nat), ((Tryz.prog.fieldsOf t)[i]?).map (fun f => (f.offset, f.type)) = some (o, u) → ∃ y, DataW.trod enc Tryz.prog w 0 (fun _ => true) true n u ((cs.drop o).take (Tryz.prog.cellsOf u)) = some y := by
  obtain ⟨ys, n, _, _, hlen, hyl, hf⟩ := DataW.trod_struct ht h
  refine ⟨hlen, n, fun i o u hi => ?_⟩
  obtain ⟨f, hf', he⟩ := Option.map_eq_some_iff.1 hi
  simp only [Prod.mk.injEq] at he
  obtain ⟨rfl, rfl⟩ := he
  have hil : i < (Tryz.prog.fieldsOf t).size := (Array.getElem?_eq_some_iff.1 hf').1
  exact ⟨_, (hf i f hf').trans (List.getElem?_eq_getElem (by omega))⟩

/-- A slice as it may come in. -/
structure SlIn {α : Type} (enc : α → List Value) (s : Nat) (w : World) (a : Option Addr) (cap : Nat) (xs : List α) : Prop where
  els : Els enc s w a xs
  none : a = none → cap = 0
  le : xs.length ≤ cap
  max : cap ≤ maxLen

theorem SlIn.lenle {α : Type} {enc : α → List Value} {s : Nat} {w : World} {a : Option Addr} {cap : Nat} {xs : List α} (h : SlIn enc s w a cap xs) : xs.length ≤ maxLen := Nat.le_trans h.le h.max

theorem rd_facts {fuel : Nat} {cs : List Value} {x : DataW H × List MemPlace} (h : DataW.trod enc Tryz.prog w 0 (fun _ => true) true fuel 22 cs = some x) :
    ∃ (a : Option Addr) (cap : Nat) (xs : List Fc), cs = [.slice a xs.length cap] ∧ SlIn fc 6 w a cap xs := by
  have hfs : Tryz.prog.underlying 50 = some (.struct (Tryz.prog.fieldsOf 50)) := by kernel_rfl
  rcases open_slice_fields Tryz.underlying22 hfs (by kernel_rfl) (by kernel_rfl) h with h0 | ⟨a, len, cap, hcs, hl, hm, hi⟩
  · exact ⟨none, 0, [], h0, ⟨Els.nil _ _ _ _, fun _ => rfl, Nat.le_refl _, by unfold maxLen; decide⟩⟩
  · obtain ⟨xs, hlen, hq, hE⟩ := els_of_cells (enc := fc) (s := 6) (w := w) (a := a) (Q := fun t => True) len (fun _ => by simp [fc]) (fun i hil => by
      obtain ⟨n, hj⟩ := hi i hil
      have hsz : (Tryz.prog.fieldsOf 50).size = 6 := by kernel_rfl
      rw [hsz] at hj
      obtain ⟨v0, y0, c0, e0⟩ := fieldAt (Q := fun j t => ∃ v y, w.cell? (a.add (i * 6 + j)) = some v ∧ DataW.trod enc Tryz.prog w 0 (fun _ => true) true n t [v] = some y) hj 0 (9) (by kernel_rfl)
      obtain ⟨v1, y1, c1, e1⟩ := fieldAt (Q := fun j t => ∃ v y, w.cell? (a.add (i * 6 + j)) = some v ∧ DataW.trod enc Tryz.prog w 0 (fun _ => true) true n t [v] = some y) hj 1 (27) (by kernel_rfl)
      obtain ⟨v2, y2, c2, e2⟩ := fieldAt (Q := fun j t => ∃ v y, w.cell? (a.add (i * 6 + j)) = some v ∧ DataW.trod enc Tryz.prog w 0 (fun _ => true) true n t [v] = some y) hj 2 (24) (by kernel_rfl)
      obtain ⟨v3, y3, c3, e3⟩ := fieldAt (Q := fun j t => ∃ v y, w.cell? (a.add (i * 6 + j)) = some v ∧ DataW.trod enc Tryz.prog w 0 (fun _ => true) true n t [v] = some y) hj 3 (24) (by kernel_rfl)
      obtain ⟨v4, y4, c4, e4⟩ := fieldAt (Q := fun j t => ∃ v y, w.cell? (a.add (i * 6 + j)) = some v ∧ DataW.trod enc Tryz.prog w 0 (fun _ => true) true n t [v] = some y) hj 4 (48) (by kernel_rfl)
      obtain ⟨v5, y5, c5, e5⟩ := fieldAt (Q := fun j t => ∃ v y, w.cell? (a.add (i * 6 + j)) = some v ∧ DataW.trod enc Tryz.prog w 0 (fun _ => true) true n t [v] = some y) hj 5 (9) (by kernel_rfl)
      obtain ⟨n0, hn0, _, w0⟩ := DataW.trod_string Tryz.underlying9 e0
      obtain ⟨n1, hn1, _, w1⟩ := DataW.trod_int Tryz.underlying27 e1
      obtain ⟨n2, hn2, _, w2⟩ := DataW.trod_int Tryz.underlying24 e2
      obtain ⟨n3, hn3, _, w3⟩ := DataW.trod_int Tryz.underlying24 e3
      obtain ⟨n4, hn4, _, w4⟩ := DataW.trod_int Tryz.underlying48 e4
      obtain ⟨n5, hn5, _, w5⟩ := DataW.trod_string Tryz.underlying9 e5
      simp only [List.cons.injEq, and_true] at hn0 hn1 hn2 hn3 hn4 hn5
      subst hn0 hn1 hn2 hn3 hn4 hn5
      refine ⟨⟨n0, n1, n2, n3, n4, n5, w0, w1, w2, w3, w4⟩, trivial, fun j c hj => ?_⟩
      match j, hj with
      | 0, hj => simp [fc] at hj; subst hj; exact c0
      | 1, hj => simp [fc] at hj; subst hj; exact c1
      | 2, hj => simp [fc] at hj; subst hj; exact c2
      | 3, hj => simp [fc] at hj; subst hj; exact c3
      | 4, hj => simp [fc] at hj; subst hj; exact c4
      | 5, hj => simp [fc] at hj; subst hj; exact c5
      | j + 6, hj => simp [fc] at hj)
    subst hlen
    exact ⟨some a, cap, xs, hcs, ⟨hE, (fun h => by cases h), hl, hm⟩⟩

theorem rd_links {fuel : Nat} {cs : List Value} {x : DataW H × List MemPlace} (h : DataW.trod enc Tryz.prog w 0 (fun _ => true) true fuel 23 cs = some x) :
    ∃ (a : Option Addr) (cap : Nat) (xs : List Lk), cs = [.slice a xs.length cap] ∧ SlIn lc 2 w a cap xs := by
  have hfs : Tryz.prog.underlying 52 = some (.struct (Tryz.prog.fieldsOf 52)) := by kernel_rfl
  rcases open_slice_fields Tryz.underlying23 hfs (by kernel_rfl) (by kernel_rfl) h with h0 | ⟨a, len, cap, hcs, hl, hm, hi⟩
  · exact ⟨none, 0, [], h0, ⟨Els.nil _ _ _ _, fun _ => rfl, Nat.le_refl _, by unfold maxLen; decide⟩⟩
  · obtain ⟨xs, hlen, hq, hE⟩ := els_of_cells (enc := lc) (s := 2) (w := w) (a := a) (Q := fun t => True) len (fun _ => by simp [lc]) (fun i hil => by
      obtain ⟨n, hj⟩ := hi i hil
      have hsz : (Tryz.prog.fieldsOf 52).size = 2 := by kernel_rfl
      rw [hsz] at hj
      obtain ⟨v0, y0, c0, e0⟩ := fieldAt (Q := fun j t => ∃ v y, w.cell? (a.add (i * 2 + j)) = some v ∧ DataW.trod enc Tryz.prog w 0 (fun _ => true) true n t [v] = some y) hj 0 (24) (by kernel_rfl)
      obtain ⟨v1, y1, c1, e1⟩ := fieldAt (Q := fun j t => ∃ v y, w.cell? (a.add (i * 2 + j)) = some v ∧ DataW.trod enc Tryz.prog w 0 (fun _ => true) true n t [v] = some y) hj 1 (24) (by kernel_rfl)
      obtain ⟨n0, hn0, _, w0⟩ := DataW.trod_int Tryz.underlying24 e0
      obtain ⟨n1, hn1, _, w1⟩ := DataW.trod_int Tryz.underlying24 e1
      simp only [List.cons.injEq, and_true] at hn0 hn1
      subst hn0 hn1
      refine ⟨⟨n0, n1, w0, w1⟩, trivial, fun j c hj => ?_⟩
      match j, hj with
      | 0, hj => simp [lc] at hj; subst hj; exact c0
      | 1, hj => simp [lc] at hj; subst hj; exact c1
      | j + 2, hj => simp [lc] at hj)
    subst hlen
    exact ⟨some a, cap, xs, hcs, ⟨hE, (fun h => by cases h), hl, hm⟩⟩

set_option maxRecDepth 100000 in
theorem rd_watch {fuel : Nat} {cs : List Value} {x : DataW H × List MemPlace} (h : DataW.trod enc Tryz.prog w 0 (fun _ => true) true fuel 26 cs = some x) :
    ∃ (a : Option Addr) (cap : Nat) (xs : List Lk) (at_ : Int) (on : Bool), cs = [.slice a xs.length cap, .int .u64 at_, .bool on] ∧ SlIn lc 2 w a cap xs ∧ (Lit.int .u64 at_).wf = true := by
  have k26 : Tryz.prog.cellsOf 26 = 3 := by kernel_rfl
  have k23 : Tryz.prog.cellsOf 23 = 1 := by kernel_rfl
  have k24 : Tryz.prog.cellsOf 24 = 1 := by kernel_rfl
  have k4 : Tryz.prog.cellsOf 4 = 1 := by kernel_rfl
  obtain ⟨hlen, n, hf⟩ := rd_struct (t := 26) (by kernel_rfl) h
  rw [k26] at hlen
  match cs, hlen with
  | [c0, c1, c2], _ =>
    obtain ⟨y0, e0⟩ := hf 0 0 (23) (by kernel_rfl)
    obtain ⟨y1, e1⟩ := hf 1 1 (24) (by kernel_rfl)
    obtain ⟨y2, e2⟩ := hf 2 2 (4) (by kernel_rfl)
    rw [k23] at e0
    rw [k24] at e1
    rw [k4] at e2
    simp only [List.drop_zero, List.take_succ_cons, List.take_zero, List.drop_succ_cons] at e0 e1 e2
    obtain ⟨a, cap, xs, h0, hs⟩ := rd_links e0
    obtain ⟨n1, hn1, _, w1⟩ := DataW.trod_int Tryz.underlying24 e1
    obtain ⟨n2, hn2, _⟩ := DataW.trod_bool Tryz.underlying4 e2
    simp only [List.cons.injEq, and_true] at h0 hn1 hn2
    subst h0 hn1 hn2
    exact ⟨a, cap, xs, n1, n2, rfl, hs, w1⟩

set_option maxRecDepth 100000 in
theorem rd_fact {fuel : Nat} {cs : List Value} {x : DataW H × List MemPlace} (h : DataW.trod enc Tryz.prog w 0 (fun _ => true) true fuel 50 cs = some x) :
    ∃ f : Fc, cs = fc f := by
  have k34 : Tryz.prog.cellsOf 50 = 6 := by kernel_rfl
  have k9 : Tryz.prog.cellsOf 9 = 1 := by kernel_rfl
  have k31 : Tryz.prog.cellsOf 27 = 1 := by kernel_rfl
  have k24 : Tryz.prog.cellsOf 24 = 1 := by kernel_rfl
  have k32 : Tryz.prog.cellsOf 48 = 1 := by kernel_rfl
  obtain ⟨hlen, n, hf⟩ := rd_struct (t := 50) (by kernel_rfl) h
  rw [k34] at hlen
  match cs, hlen with
  | [c0, c1, c2, c3, c4, c5], _ =>
    obtain ⟨y0, e0⟩ := hf 0 0 (9) (by kernel_rfl)
    obtain ⟨y1, e1⟩ := hf 1 1 (27) (by kernel_rfl)
    obtain ⟨y2, e2⟩ := hf 2 2 (24) (by kernel_rfl)
    obtain ⟨y3, e3⟩ := hf 3 3 (24) (by kernel_rfl)
    obtain ⟨y4, e4⟩ := hf 4 4 (48) (by kernel_rfl)
    obtain ⟨y5, e5⟩ := hf 5 5 (9) (by kernel_rfl)
    rw [k9] at e0 e5
    rw [k31] at e1
    rw [k24] at e2 e3
    rw [k32] at e4
    simp only [List.drop_zero, List.take_succ_cons, List.take_zero, List.drop_succ_cons] at e0 e1 e2 e3 e4 e5
    obtain ⟨n0, hn0, _, w0⟩ := DataW.trod_string Tryz.underlying9 e0
    obtain ⟨n1, hn1, _, w1⟩ := DataW.trod_int Tryz.underlying27 e1
    obtain ⟨n2, hn2, _, w2⟩ := DataW.trod_int Tryz.underlying24 e2
    obtain ⟨n3, hn3, _, w3⟩ := DataW.trod_int Tryz.underlying24 e3
    obtain ⟨n4, hn4, _, w4⟩ := DataW.trod_int Tryz.underlying48 e4
    obtain ⟨n5, hn5, _, w5⟩ := DataW.trod_string Tryz.underlying9 e5
    simp only [List.cons.injEq, and_true] at hn0 hn1 hn2 hn3 hn4 hn5
    subst hn0 hn1 hn2 hn3 hn4 hn5
    exact ⟨⟨n0, n1, n2, n3, n4, n5, w0, w1, w2, w3, w4⟩, rfl⟩
end
end Go.Proofs.YtenocakpipppiaaGreatDoor
