/- How vectors and acts are read. No condition. -/
import Derived.Test.YtchcelodeepjdaaGreatDoorON
import Derived.Test.YtchcelodeepjdaaGreatDoorRd
import Derived.Test.YtchcelodeepjdaaGreatDoorProg
namespace Go.Proofs.YtchcelodeepjdaaGreatDoor.Vx
open Go.ChangeShapes Go.WideShapes Go.ChangeAt Go.RowKit Go.Herb Go.Deep

section
variable {H : Type} {enc : TypeId × Value → H} {w : World}

theorem fieldAt {fs : Array Field} {Q : Nat → TypeId → Prop} (h : ∀ (j : Nat) (f : Field), fs[j]? = some f → Q j f.type) (j : Nat) (t : TypeId) (ht : (fs[j]?).map (·.type) = some t) : Q j t := by
  obtain ⟨f, hf, rfl⟩ := Option.map_eq_some_iff.1 ht
  exact h j f hf

/-- The fields of a struct, each where it lies. -/
theorem rd_struct {t : TypeId} {fuel : Nat} {cs : List Value} {x : DataW H × List MemPlace} (ht : Tryz.prog.underlying t = some (.struct (Tryz.prog.fieldsOf t))) (h : DataW.trod enc Tryz.prog w 0 (fun _ => true) true fuel t cs = some x) :
    cs.length = Tryz.prog.cellsOf t ∧ ∃ n, ∀ (i o u : Nat), ((Tryz.prog.fieldsOf t)[i]?).map (fun f => (f.offset, f.type)) = some (o, u) → ∃ y, DataW.trod enc Tryz.prog w 0 (fun _ => true) true n u ((cs.drop o).take (Tryz.prog.cellsOf u)) = some y := by
  obtain ⟨ys, n, _, _, hlen, hyl, hf⟩ := DataW.trod_struct ht h
  refine ⟨hlen, n, fun i o u hi => ?_⟩
  obtain ⟨f, hf', he⟩ := Option.map_eq_some_iff.1 hi
  simp only [Prod.mk.injEq] at he
  obtain ⟨rfl, rfl⟩ := he
  have hil : i < (Tryz.prog.fieldsOf t).size := (Array.getElem?_eq_some_iff.1 hf').1
  exact ⟨_, (hf i f hf').trans (List.getElem?_eq_getElem (by omega))⟩

theorem rd_points {fuel : Nat} {cs : List Value} {x : DataW H × List MemPlace} (h : DataW.trod enc Tryz.prog w 0 (fun _ => true) true fuel (74) cs = some x) :
    ∃ (a : Option Addr) (cap : Nat) (xs : Bh), cs = [.slice a xs.length cap] ∧ Pts w a xs ∧ xs.length ≤ maxLen ∧ ∀ q ∈ xs, U64 q.1 ∧ U64 q.2 := by
  have hfs : Tryz.prog.underlying (78) = some (.struct (Tryz.prog.fieldsOf (78))) := by kernel_rfl
  rcases open_slice_fields Tryz.underlying74 hfs (by kernel_rfl) (by kernel_rfl) h with h0 | ⟨a, len, cap, hcs, hl, hm, hi⟩
  · exact ⟨none, 0, [], h0, Els.nil _ _ _ _, by simp, by simp⟩
  · obtain ⟨xs, hlen, hq, hE⟩ := els_of_cells (enc := pc) (s := 2) (w := w) (a := a) (Q := fun q : Int × Int => U64 q.1 ∧ U64 q.2) len (fun _ => by simp [pc]) (fun i hil => by
      obtain ⟨n, hj⟩ := hi i hil
      have hsz : (Tryz.prog.fieldsOf (78)).size = 2 := by kernel_rfl
      rw [hsz] at hj
      obtain ⟨v0, y0, c0, e0⟩ := fieldAt (Q := fun j t => ∃ v y, w.cell? (a.add (i * 2 + j)) = some v ∧ DataW.trod enc Tryz.prog w 0 (fun _ => true) true n t [v] = some y) hj 0 (26) (by kernel_rfl)
      obtain ⟨v1, y1, c1, e1⟩ := fieldAt (Q := fun j t => ∃ v y, w.cell? (a.add (i * 2 + j)) = some v ∧ DataW.trod enc Tryz.prog w 0 (fun _ => true) true n t [v] = some y) hj 1 (26) (by kernel_rfl)
      obtain ⟨n0, hn0, _, w0⟩ := DataW.trod_int Tryz.underlying26 e0
      obtain ⟨n1, hn1, _, w1⟩ := DataW.trod_int Tryz.underlying26 e1
      simp only [List.cons.injEq, and_true] at hn0 hn1
      subst hn0 hn1
      refine ⟨(n0, n1), ⟨w0, w1⟩, fun j c hj => ?_⟩
      match j, hj with
      | 0, hj => simp [pc] at hj; subst hj; exact c0
      | 1, hj => simp [pc] at hj; subst hj; exact c1
      | j + 2, hj => simp [pc] at hj)
    subst hlen
    exact ⟨some a, cap, xs, hcs, hE, Nat.le_trans hl hm, hq⟩

set_option maxRecDepth 100000 in
theorem rd_vectors {fuel : Nat} {cs : List Value} {x : DataW H × List MemPlace} (h : DataW.trod enc Tryz.prog w 0 (fun _ => true) true fuel (29) cs = some x) :
    ∃ (a : Option Addr) (cap : Nat) (xs : List Vc), cs = [.slice a xs.length cap] ∧ VIn w a xs := by
  have hfs : Tryz.prog.underlying (76) = some (.struct (Tryz.prog.fieldsOf (76))) := by kernel_rfl
  rcases open_slice_fields Tryz.underlying29 hfs (by kernel_rfl) (by kernel_rfl) h with h0 | ⟨a, len, cap, hcs, hl, hm, hi⟩
  · exact ⟨none, 0, [], h0, ⟨Els.nil _ _ _ _, by simp, by simp, by simp, by simp⟩⟩
  · obtain ⟨xs, hlen, hq, hE⟩ := els_of_cells (enc := vc) (s := 2) (w := w) (a := a) (Q := fun y : Vc => Pts w y.a y.ps ∧ (U64 y.line ∧ ∀ q ∈ y.ps, U64 q.1 ∧ U64 q.2) ∧ y.ps.length ≤ maxLen) len (fun _ => by simp [vc]) (fun i hil => by
      obtain ⟨n, hj⟩ := hi i hil
      have hsz : (Tryz.prog.fieldsOf (76)).size = 2 := by kernel_rfl
      rw [hsz] at hj
      obtain ⟨v0, y0, c0, e0⟩ := fieldAt (Q := fun j t => ∃ v y, w.cell? (a.add (i * 2 + j)) = some v ∧ DataW.trod enc Tryz.prog w 0 (fun _ => true) true n t [v] = some y) hj 0 (26) (by kernel_rfl)
      obtain ⟨v1, y1, c1, e1⟩ := fieldAt (Q := fun j t => ∃ v y, w.cell? (a.add (i * 2 + j)) = some v ∧ DataW.trod enc Tryz.prog w 0 (fun _ => true) true n t [v] = some y) hj 1 (74) (by kernel_rfl)
      obtain ⟨n0, hn0, _, w0⟩ := DataW.trod_int Tryz.underlying26 e0
      obtain ⟨pa, pcap, ps, h1, hp, hpl, hpw⟩ := rd_points e1
      simp only [List.cons.injEq, and_true] at hn0 h1
      subst hn0 h1
      refine ⟨⟨n0, pa, pcap, ps⟩, ⟨hp, ⟨w0, hpw⟩, hpl⟩, fun j c hj => ?_⟩
      match j, hj with
      | 0, hj => simp [vc] at hj; subst hj; exact c0
      | 1, hj => simp [vc] at hj; subst hj; exact c1
      | j + 2, hj => simp [vc] at hj)
    subst hlen
    exact ⟨some a, cap, xs, hcs, ⟨hE, fun y hy => (hq y hy).1, fun y hy => (hq y hy).2.1, Nat.le_trans hl hm, fun y hy => (hq y hy).2.2⟩⟩

/-- Acts, as they may come in. -/
structure AIn (w : World) (a : Option Addr) (xs : List Ac) : Prop where
  els : Els acc 4 w a xs
  len : xs.length ≤ maxLen
end
end Go.Proofs.YtchcelodeepjdaaGreatDoor.Vx
