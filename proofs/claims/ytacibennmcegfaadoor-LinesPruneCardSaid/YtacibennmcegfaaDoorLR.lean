/- How branches, lines, numbers, acts are read. No condition. -/
import Derived.Test.YtacibennmcegfaaDoorLN8
import Derived.Test.YtacibennmcegfaaDoorRd
import Derived.Test.YtacibennmcegfaaDoorProg
namespace Go.Proofs.YtacibennmcegfaaDoor
open Go.ChangeShapes Go.WideShapes Go.ChangeAt Go.RowKit Go.Herb Go.Deep

section
variable {H : Type} {enc : TypeId × Value → H} {w : World}
def U64 (x : Int) : Prop := (Lit.int .u64 x).wf = true
theorem fieldAt {fs : Array Field} {Q : Nat → TypeId → Prop} (h : ∀ (j : Nat) (f : Field), fs[j]? = some f → Q j f.type) (j : Nat) (t : TypeId) (ht : (fs[j]?).map (·.type) = some t) : Q j t := by
  obtain ⟨f, hf, rfl⟩ := Option.map_eq_some_iff.1 ht
  exact h j f hf
/-- The fields of a struct, each where it lies. -/
theorem rd_struct {t : TypeId} {fuel : Nat} {cs : List Value} {x : DataW H × List MemPlace} (ht : Tryd.prog.underlying t = some (.struct (Tryd.prog.fieldsOf t))) (h : DataW.trod enc Tryd.prog w 0 (fun _ => true) true fuel t cs = some x) :
    cs.length = Tryd.prog.cellsOf t ∧ ∃ n, ∀ (i o u : Nat), ((Tryd.prog.fieldsOf t)[i]?).map (fun f => (f.offset, f.type)) = some (o, u) → ∃ y, DataW.trod enc Tryd.prog w 0 (fun _ => true) true n u ((cs.drop o).take (Tryd.prog.cellsOf u)) = some y := by
  obtain ⟨ys, n, _, _, hlen, hyl, hf⟩ := DataW.trod_struct ht h
  refine ⟨hlen, n, fun i o u hi => ?_⟩
  obtain ⟨f, hf', he⟩ := Option.map_eq_some_iff.1 hi
  simp only [Prod.mk.injEq] at he
  obtain ⟨rfl, rfl⟩ := he
  have hil : i < (Tryd.prog.fieldsOf t).size := (Array.getElem?_eq_some_iff.1 hf').1
  exact ⟨_, (hf i f hf').trans (List.getElem?_eq_getElem (by omega))⟩
/-- A slice, as it may come in. -/
structure SIn {α : Type} (enc : α → List Value) (s : Nat) (Q : α → Prop) (w : World) (a : Option Addr) (cap : Nat) (xs : List α) : Prop where
  els : Els enc s w a xs
  nil : a = none → cap = 0
  le : xs.length ≤ cap
  max : cap ≤ maxLen
  all : ∀ x ∈ xs, Q x
set_option maxRecDepth 100000 in
theorem rd_lines {fuel : Nat} {cs : List Value} {x : DataW H × List MemPlace} (h : DataW.trod enc Tryd.prog w 0 (fun _ => true) true fuel (23) cs = some x) :
    ∃ (a : Option Addr) (cap : Nat) (xs : List Ln), cs = [.slice a xs.length cap] ∧ SIn lnc 2 (fun q : Ln => U64 q.1 ∧ U64 q.2) w a cap xs := by
  have hfs : Tryd.prog.underlying (36) = some (.struct (Tryd.prog.fieldsOf (36))) := by kernel_rfl
  rcases open_slice_fields Tryd.underlying23 hfs (by kernel_rfl) (by kernel_rfl) h with h0 | ⟨a, len, cap, hcs, hl, hm, hi⟩
  · exact ⟨none, 0, [], h0, ⟨Els.nil _ _ _ _, fun _ => rfl, Nat.le_refl _, by unfold maxLen; decide, by simp⟩⟩
  · obtain ⟨xs, hlen, hq, hE⟩ := els_of_cells (enc := lnc) (s := 2) (w := w) (a := a) (Q := fun q : Ln => U64 q.1 ∧ U64 q.2) len (fun _ => by simp [lnc]) (fun i hil => by
      obtain ⟨n, hj⟩ := hi i hil
      have hsz : (Tryd.prog.fieldsOf (36)).size = 2 := by kernel_rfl
      rw [hsz] at hj
      obtain ⟨v0, y0, c0, e0⟩ := fieldAt (Q := fun j t => ∃ v y, w.cell? (a.add (i * 2 + j)) = some v ∧ DataW.trod enc Tryd.prog w 0 (fun _ => true) true n t [v] = some y) hj 0 (34) (by kernel_rfl)
      obtain ⟨v1, y1, c1, e1⟩ := fieldAt (Q := fun j t => ∃ v y, w.cell? (a.add (i * 2 + j)) = some v ∧ DataW.trod enc Tryd.prog w 0 (fun _ => true) true n t [v] = some y) hj 1 (34) (by kernel_rfl)
      obtain ⟨n0, hn0, _, w0⟩ := DataW.trod_int Tryd.underlying34 e0
      obtain ⟨n1, hn1, _, w1⟩ := DataW.trod_int Tryd.underlying34 e1
      simp only [List.cons.injEq, and_true] at hn0 hn1
      subst hn0 hn1
      refine ⟨(n0, n1), ⟨w0, w1⟩, fun j c hj => ?_⟩
      match j, hj with
      | 0, hj => simp [lnc] at hj; subst hj; exact c0
      | 1, hj => simp [lnc] at hj; subst hj; exact c1
      | j + 2, hj => simp [lnc] at hj)
    subst hlen
    exact ⟨some a, cap, xs, hcs, ⟨hE, (fun h => by cases h), hl, hm, hq⟩⟩
set_option maxRecDepth 100000 in
theorem rd_branches {fuel : Nat} {cs : List Value} {x : DataW H × List MemPlace} (h : DataW.trod enc Tryd.prog w 0 (fun _ => true) true fuel (22) cs = some x) :
    ∃ (a : Option Addr) (cap : Nat) (xs : List Br), cs = [.slice a xs.length cap] ∧ SIn brc 3 (fun q : Br => q.1.size ≤ maxLen ∧ U64 q.2.1 ∧ U64 q.2.2) w a cap xs := by
  have hfs : Tryd.prog.underlying (45) = some (.struct (Tryd.prog.fieldsOf (45))) := by kernel_rfl
  rcases open_slice_fields Tryd.underlying22 hfs (by kernel_rfl) (by kernel_rfl) h with h0 | ⟨a, len, cap, hcs, hl, hm, hi⟩
  · exact ⟨none, 0, [], h0, ⟨Els.nil _ _ _ _, fun _ => rfl, Nat.le_refl _, by unfold maxLen; decide, by simp⟩⟩
  · obtain ⟨xs, hlen, hq, hE⟩ := els_of_cells (enc := brc) (s := 3) (w := w) (a := a) (Q := fun q : Br => q.1.size ≤ maxLen ∧ U64 q.2.1 ∧ U64 q.2.2) len (fun _ => by simp [brc]) (fun i hil => by
      obtain ⟨n, hj⟩ := hi i hil
      have hsz : (Tryd.prog.fieldsOf (45)).size = 3 := by kernel_rfl
      rw [hsz] at hj
      obtain ⟨v0, y0, c0, e0⟩ := fieldAt (Q := fun j t => ∃ v y, w.cell? (a.add (i * 3 + j)) = some v ∧ DataW.trod enc Tryd.prog w 0 (fun _ => true) true n t [v] = some y) hj 0 (9) (by kernel_rfl)
      obtain ⟨v1, y1, c1, e1⟩ := fieldAt (Q := fun j t => ∃ v y, w.cell? (a.add (i * 3 + j)) = some v ∧ DataW.trod enc Tryd.prog w 0 (fun _ => true) true n t [v] = some y) hj 1 (34) (by kernel_rfl)
      obtain ⟨v2, y2, c2, e2⟩ := fieldAt (Q := fun j t => ∃ v y, w.cell? (a.add (i * 3 + j)) = some v ∧ DataW.trod enc Tryd.prog w 0 (fun _ => true) true n t [v] = some y) hj 2 (34) (by kernel_rfl)
      obtain ⟨n0, hn0, _, w0⟩ := DataW.trod_string Tryd.underlying9 e0
      obtain ⟨n1, hn1, _, w1⟩ := DataW.trod_int Tryd.underlying34 e1
      obtain ⟨n2, hn2, _, w2⟩ := DataW.trod_int Tryd.underlying34 e2
      simp only [List.cons.injEq, and_true] at hn0 hn1 hn2
      subst hn0 hn1 hn2
      refine ⟨(n0, n1, n2), ⟨w0, w1, w2⟩, fun j c hj => ?_⟩
      match j, hj with
      | 0, hj => simp [brc] at hj; subst hj; exact c0
      | 1, hj => simp [brc] at hj; subst hj; exact c1
      | 2, hj => simp [brc] at hj; subst hj; exact c2
      | j + 3, hj => simp [brc] at hj)
    subst hlen
    exact ⟨some a, cap, xs, hcs, ⟨hE, (fun h => by cases h), hl, hm, hq⟩⟩
abbrev uc (x : Int) : List Value := [.int .u64 x]
set_option maxRecDepth 100000 in
theorem rd_act {fuel : Nat} {cs : List Value} {x : DataW H × List MemPlace} (h : DataW.trod enc Tryd.prog w 0 (fun _ => true) true fuel (48) cs = some x) :
    ∃ (k : Int) (a b : ByteArray) (n : Int) (ad : Option Addr) (an ac : Nat), cs = [.int .u8 k, .string a, .string b, .int .u64 n, .slice ad an ac] ∧ a.size ≤ maxLen ∧ b.size ≤ maxLen ∧ U64 n := by
  have k0 : Tryd.prog.cellsOf (48) = 5 := by kernel_rfl
  have k1 : Tryd.prog.cellsOf (5) = 1 := by kernel_rfl
  have k2 : Tryd.prog.cellsOf (34) = 1 := by kernel_rfl
  have k3 : Tryd.prog.cellsOf (9) = 1 := by kernel_rfl
  have k4 : Tryd.prog.cellsOf (46) = 1 := by kernel_rfl
  obtain ⟨hlen, n, hf⟩ := rd_struct (t := (48)) (by kernel_rfl) h
  rw [k0] at hlen
  match cs, hlen with
  | [c0, c1, c2, c3, c4], _ =>
    obtain ⟨y0, e0⟩ := hf 0 0 (5) (by kernel_rfl)
    obtain ⟨y1, e1⟩ := hf 1 1 (9) (by kernel_rfl)
    obtain ⟨y2, e2⟩ := hf 2 2 (9) (by kernel_rfl)
    obtain ⟨y3, e3⟩ := hf 3 3 (34) (by kernel_rfl)
    obtain ⟨y4, e4⟩ := hf 4 4 (46) (by kernel_rfl)
    rw [k1] at e0
    rw [k3] at e1 e2
    rw [k2] at e3
    rw [k4] at e4
    simp only [List.drop_zero, List.take_succ_cons, List.take_zero, List.drop_succ_cons] at e0 e1 e2 e3 e4
    obtain ⟨n0, hn0, _, w0⟩ := DataW.trod_int Tryd.underlying5 e0
    obtain ⟨n1, hn1, _, w1⟩ := DataW.trod_string Tryd.underlying9 e1
    obtain ⟨n2, hn2, _, w2⟩ := DataW.trod_string Tryd.underlying9 e2
    obtain ⟨n3, hn3, _, w3⟩ := DataW.trod_int Tryd.underlying34 e3
    have h4 : ∃ (ad : Option Addr) (an ac : Nat), [c4] = [.slice ad an ac] := by
      rcases open_slice Tryd.underlying46 e4 with h0 | ⟨a, len, cap, m, n, D, Pl, hcs, -⟩
      · exact ⟨_, _, _, h0.1⟩
      · exact ⟨_, _, _, hcs⟩
    obtain ⟨ad, an, ac, hn4⟩ := h4
    simp only [List.cons.injEq, and_true] at hn0 hn1 hn2 hn3 hn4
    subst hn0 hn1 hn2 hn3 hn4
    exact ⟨n0, n1, n2, n3, ad, an, ac, rfl, w1, w2, w3⟩
set_option maxRecDepth 100000 in
theorem rd_given {fuel : Nat} {cs : List Value} {x : DataW H × List MemPlace} (h : DataW.trod enc Tryd.prog w 0 (fun _ => true) true fuel (25) cs = some x) :
    ∃ (ba : Option Addr) (bc : Nat) (bs : List Br) (la : Option Addr) (lc : Nat) (ls : List Ln), cs = [.slice ba bs.length bc, .slice la ls.length lc] ∧ SIn brc 3 (fun q : Br => q.1.size ≤ maxLen ∧ U64 q.2.1 ∧ U64 q.2.2) w ba bc bs ∧ SIn lnc 2 (fun q : Ln => U64 q.1 ∧ U64 q.2) w la lc ls := by
  have k0 : Tryd.prog.cellsOf (25) = 2 := by kernel_rfl
  have k1 : Tryd.prog.cellsOf (22) = 1 := by kernel_rfl
  have k2 : Tryd.prog.cellsOf (23) = 1 := by kernel_rfl
  obtain ⟨hlen, n, hf⟩ := rd_struct (t := (25)) (by kernel_rfl) h
  rw [k0] at hlen
  match cs, hlen with
  | [c0, c1], _ =>
    obtain ⟨y0, e0⟩ := hf 0 0 (22) (by kernel_rfl)
    obtain ⟨y1, e1⟩ := hf 1 1 (23) (by kernel_rfl)
    rw [k1] at e0
    rw [k2] at e1
    simp only [List.drop_zero, List.take_succ_cons, List.take_zero, List.drop_succ_cons] at e0 e1
    obtain ⟨ba, bc, bs, h1, q1⟩ := rd_branches e0
    obtain ⟨la, lc, ls, h2, q2⟩ := rd_lines e1
    simp only [List.cons.injEq, and_true] at h1 h2
    subst h1 h2
    exact ⟨ba, bc, bs, la, lc, ls, rfl, q1, q2⟩
end
end Go.Proofs.YtacibennmcegfaaDoor
