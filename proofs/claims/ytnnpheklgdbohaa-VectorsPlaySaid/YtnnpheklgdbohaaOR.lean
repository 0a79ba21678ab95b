/- How vectors and acts are read. No condition. -/
import Derived.Test.YtnnpheklgdbohaaON
import Derived.Test.YtnnpheklgdbohaaRd
import Derived.Test.YtnnpheklgdbohaaProg
namespace Go.Proofs.Ytnnpheklgdbohaa
open Go.ChangeShapes Go.WideShapes Go.ChangeAt Go.RowKit Go.Herb Go.Deep

section
variable {H : Type} {enc : TypeId × Value → H} {w : World}

theorem fieldAt {fs : Array Field} {Q : Nat → TypeId → Prop} (h : ∀ (j : Nat) (f : Field), fs[j]? = some f → Q j f.type) (j : Nat) (t : TypeId) (ht : (fs[j]?).map (·.type) = some t) : Q j t := by
  obtain ⟨f, hf, rfl⟩ := Option.map_eq_some_iff.1 ht
  exact h j f hf

/-- The fields of a struct, each where it lies. -/
theorem rd_struct {t : TypeId} {fuel : Nat} {cs : List Value} {x : DataW H × List MemPlace} (ht : Try.prog.underlying t = some (.struct (Try.prog.fieldsOf t))) (h : DataW.trod enc Try.prog w 0 (fun _ => true) true fuel t cs = some x) :
    cs.length = Try.prog.cellsOf t ∧ ∃ n, ∀ (i o u : Nat), ((Try.prog.fieldsOf t)[i]?).map (fun f => (f.offset, f.type)) = some (o, u) → ∃ y, DataW.trod enc Try.prog w 0 (fun _ => true) true n u ((cs.drop o).take (Try.prog.cellsOf u)) = some y := by
  obtain ⟨ys, n, _, _, hlen, hyl, hf⟩ := DataW.trod_struct ht h
  refine ⟨hlen, n, fun i o u hi => ?_⟩
  obtain ⟨f, hf', he⟩ := Option.map_eq_some_iff.1 hi
  simp only [Prod.mk.injEq] at he
  obtain ⟨rfl, rfl⟩ := he
  have hil : i < (Try.prog.fieldsOf t).size := (Array.getElem?_eq_some_iff.1 hf').1
  exact ⟨_, (hf i f hf').trans (List.getElem?_eq_getElem (by omega))⟩

theorem rd_points {fuel : Nat} {cs : List Value} {x : DataW H × List MemPlace} (h : DataW.trod enc Try.prog w 0 (fun _ => true) true fuel (30) cs = some x) :
    ∃ (a : Option Addr) (cap : Nat) (xs : Bh), cs = [.slice a xs.length cap] ∧ Pts w a xs ∧ xs.length ≤ maxLen ∧ ∀ q ∈ xs, U64 q.1 ∧ U64 q.2 := by
  have hfs : Try.prog.underlying (34) = some (.struct (Try.prog.fieldsOf (34))) := by kernel_rfl
  rcases open_slice_fields Try.underlying30 hfs (by kernel_rfl) (by kernel_rfl) h with h0 | ⟨a, len, cap, hcs, hl, hm, hi⟩
  · exact ⟨none, 0, [], h0, Els.nil _ _ _ _, by simp, by simp⟩
  · obtain ⟨xs, hlen, hq, hE⟩ := els_of_cells (enc := pc) (s := 2) (w := w) (a := a) (Q := fun q : Int × Int => U64 q.1 ∧ U64 q.2) len (fun _ => by simp [pc]) (fun i hil => by
      obtain ⟨n, hj⟩ := hi i hil
      have hsz : (Try.prog.fieldsOf (34)).size = 2 := by kernel_rfl
      rw [hsz] at hj
      obtain ⟨v0, y0, c0, e0⟩ := fieldAt (Q := fun j t => ∃ v y, w.cell? (a.add (i * 2 + j)) = some v ∧ DataW.trod enc Try.prog w 0 (fun _ => true) true n t [v] = some y) hj 0 (29) (by kernel_rfl)
      obtain ⟨v1, y1, c1, e1⟩ := fieldAt (Q := fun j t => ∃ v y, w.cell? (a.add (i * 2 + j)) = some v ∧ DataW.trod enc Try.prog w 0 (fun _ => true) true n t [v] = some y) hj 1 (29) (by kernel_rfl)
      obtain ⟨n0, hn0, _, w0⟩ := DataW.trod_int Try.underlying29 e0
      obtain ⟨n1, hn1, _, w1⟩ := DataW.trod_int Try.underlying29 e1
      simp only [List.cons.injEq, and_true] at hn0 hn1
      subst hn0 hn1
      refine ⟨(n0, n1), ⟨w0, w1⟩, fun j c hj => ?_⟩
      match j, hj with
      | 0, hj => simp [pc] at hj; subst hj; exact c0
      | 1, hj => simp [pc] at hj; subst hj; exact c1
      | j + 2, hj => simp [pc] at hj)
    subst hlen
    exact ⟨some a, cap, xs, hcs, hE, Nat.le_trans hl hm, hq⟩

set_option maxRecDepth 100000 in
theorem rd_vectors {fuel : Nat} {cs : List Value} {x : DataW H × List MemPlace} (h : DataW.trod enc Try.prog w 0 (fun _ => true) true fuel (22) cs = some x) :
    ∃ (a : Option Addr) (cap : Nat) (xs : List Vc), cs = [.slice a xs.length cap] ∧ VIn w a xs := by
  have hfs : Try.prog.underlying (32) = some (.struct (Try.prog.fieldsOf (32))) := by kernel_rfl
  rcases open_slice_fields Try.underlying22 hfs (by kernel_rfl) (by kernel_rfl) h with h0 | ⟨a, len, cap, hcs, hl, hm, hi⟩
  · exact ⟨none, 0, [], h0, ⟨Els.nil _ _ _ _, by simp, by simp, by simp, by simp⟩⟩
  · obtain ⟨xs, hlen, hq, hE⟩ := els_of_cells (enc := vc) (s := 2) (w := w) (a := a) (Q := fun y : Vc => Pts w y.a y.ps ∧ (U64 y.line ∧ ∀ q ∈ y.ps, U64 q.1 ∧ U64 q.2) ∧ y.ps.length ≤ maxLen) len (fun _ => by simp [vc]) (fun i hil => by
      obtain ⟨n, hj⟩ := hi i hil
      have hsz : (Try.prog.fieldsOf (32)).size = 2 := by kernel_rfl
      rw [hsz] at hj
      obtain ⟨v0, y0, c0, e0⟩ := fieldAt (Q := fun j t => ∃ v y, w.cell? (a.add (i * 2 + j)) = some v ∧ DataW.trod enc Try.prog w 0 (fun _ => true) true n t [v] = some y) hj 0 (29) (by kernel_rfl)
      obtain ⟨v1, y1, c1, e1⟩ := fieldAt (Q := fun j t => ∃ v y, w.cell? (a.add (i * 2 + j)) = some v ∧ DataW.trod enc Try.prog w 0 (fun _ => true) true n t [v] = some y) hj 1 (30) (by kernel_rfl)
      obtain ⟨n0, hn0, _, w0⟩ := DataW.trod_int Try.underlying29 e0
      obtain ⟨pa, pcap, ps, h1, hp, hpl, hpw⟩ := rd_points e1
      simp only [List.cons.injEq, and_true] at hn0 h1
      subst hn0 h1
      refine ⟨⟨n0, pa, pcap, ps⟩, ⟨hp, ⟨w0, hpw⟩, hpl⟩, fun j c hj => ?_⟩
      match j, hj with
      | 0, hj => simp [vc] at hj; subst hj; exact c0
      | 1, hj => simp [vc] at hj; subst hj; exact c1
      | j + 2, hj => simp [vc] at hj)
    subst hlen
    exact ⟨some a, cap, xs, hcs, ⟨hE, fun y hy => (hq y hy).1, fun y hy => (hq y hy).2.1, Nat.le_trans hl hm, fun y hy => (hq y hy).2.2⟩⟩

/-- Acts, as they may come in. -/
structure AIn (w : World) (a : Option Addr) (xs : List Ac) : Prop where
  els : Els acc 4 w a xs
  len : xs.length ≤ maxLen
set_option maxRecDepth 100000 in
theorem rd_acts {fuel : Nat} {cs : List Value} {x : DataW H × List MemPlace} (h : DataW.trod enc Try.prog w 0 (fun _ => true) true fuel (23) cs = some x) :
    ∃ (a : Option Addr) (cap : Nat) (xs : List Ac), cs = [.slice a xs.length cap] ∧ AIn w a xs := by
  have hfs : Try.prog.underlying (40) = some (.struct (Try.prog.fieldsOf (40))) := by kernel_rfl
  rcases open_slice_fields Try.underlying23 hfs (by kernel_rfl) (by kernel_rfl) h with h0 | ⟨a, len, cap, hcs, hl, hm, hi⟩
  · exact ⟨none, 0, [], h0, ⟨Els.nil _ _ _ _, by simp⟩⟩
  · obtain ⟨xs, hlen, hq, hE⟩ := els_of_cells (enc := acc) (s := 4) (w := w) (a := a) (Q := fun _ : Ac => True) len (fun _ => by simp [acc]) (fun i hil => by
      obtain ⟨n, hj⟩ := hi i hil
      have hsz : (Try.prog.fieldsOf (40)).size = 4 := by kernel_rfl
      rw [hsz] at hj
      obtain ⟨v0, y0, c0, e0⟩ := fieldAt (Q := fun j t => ∃ v y, w.cell? (a.add (i * 4 + j)) = some v ∧ DataW.trod enc Try.prog w 0 (fun _ => true) true n t [v] = some y) hj 0 (5) (by kernel_rfl)
      obtain ⟨v1, y1, c1, e1⟩ := fieldAt (Q := fun j t => ∃ v y, w.cell? (a.add (i * 4 + j)) = some v ∧ DataW.trod enc Try.prog w 0 (fun _ => true) true n t [v] = some y) hj 1 (29) (by kernel_rfl)
      obtain ⟨v2, y2, c2, e2⟩ := fieldAt (Q := fun j t => ∃ v y, w.cell? (a.add (i * 4 + j)) = some v ∧ DataW.trod enc Try.prog w 0 (fun _ => true) true n t [v] = some y) hj 2 (29) (by kernel_rfl)
      obtain ⟨v3, y3, c3, e3⟩ := fieldAt (Q := fun j t => ∃ v y, w.cell? (a.add (i * 4 + j)) = some v ∧ DataW.trod enc Try.prog w 0 (fun _ => true) true n t [v] = some y) hj 3 (29) (by kernel_rfl)
      obtain ⟨n0, hn0, _, w0⟩ := DataW.trod_int Try.underlying5 e0
      obtain ⟨n1, hn1, _, w1⟩ := DataW.trod_int Try.underlying29 e1
      obtain ⟨n2, hn2, _, w2⟩ := DataW.trod_int Try.underlying29 e2
      obtain ⟨n3, hn3, _, w3⟩ := DataW.trod_int Try.underlying29 e3
      simp only [List.cons.injEq, and_true] at hn0 hn1 hn2 hn3
      subst hn0 hn1 hn2 hn3
      refine ⟨⟨n0, n1, n2, n3, w0, w1, w2, w3⟩, trivial, fun j c hj => ?_⟩
      match j, hj with
      | 0, hj => simp [acc] at hj; subst hj; exact c0
      | 1, hj => simp [acc] at hj; subst hj; exact c1
      | 2, hj => simp [acc] at hj; subst hj; exact c2
      | 3, hj => simp [acc] at hj; subst hj; exact c3
      | j + 4, hj => simp [acc] at hj)
    subst hlen
    exact ⟨some a, cap, xs, hcs, ⟨hE, Nat.le_trans hl hm⟩⟩

set_option maxRecDepth 100000 in
theorem rd_act {fuel : Nat} {cs : List Value} {x : DataW H × List MemPlace} (h : DataW.trod enc Try.prog w 0 (fun _ => true) true fuel (40) cs = some x) :
    ∃ f : Ac, cs = acc f := by
  have k40 : Try.prog.cellsOf (40) = 4 := by kernel_rfl
  have k5 : Try.prog.cellsOf (5) = 1 := by kernel_rfl
  have k29 : Try.prog.cellsOf (29) = 1 := by kernel_rfl
  obtain ⟨hlen, n, hf⟩ := rd_struct (t := (40)) (by kernel_rfl) h
  rw [k40] at hlen
  match cs, hlen with
  | [c0, c1, c2, c3], _ =>
    obtain ⟨y0, e0⟩ := hf 0 0 (5) (by kernel_rfl)
    obtain ⟨y1, e1⟩ := hf 1 1 (29) (by kernel_rfl)
    obtain ⟨y2, e2⟩ := hf 2 2 (29) (by kernel_rfl)
    obtain ⟨y3, e3⟩ := hf 3 3 (29) (by kernel_rfl)
    rw [k5] at e0
    rw [k29] at e1 e2 e3
    simp only [List.drop_zero, List.take_succ_cons, List.take_zero, List.drop_succ_cons] at e0 e1 e2 e3
    obtain ⟨n0, hn0, _, w0⟩ := DataW.trod_int Try.underlying5 e0
    obtain ⟨n1, hn1, _, w1⟩ := DataW.trod_int Try.underlying29 e1
    obtain ⟨n2, hn2, _, w2⟩ := DataW.trod_int Try.underlying29 e2
    obtain ⟨n3, hn3, _, w3⟩ := DataW.trod_int Try.underlying29 e3
    simp only [List.cons.injEq, and_true] at hn0 hn1 hn2 hn3
    subst hn0 hn1 hn2 hn3
    exact ⟨⟨n0, n1, n2, n3, w0, w1, w2, w3⟩, rfl⟩
end
end Go.Proofs.Ytnnpheklgdbohaa
