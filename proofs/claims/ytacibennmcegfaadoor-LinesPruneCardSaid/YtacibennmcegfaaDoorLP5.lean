/- lines: what a fork may be; where a branch of that name would stand. No condition. -/
import Derived.Test.YtacibennmcegfaaDoorLP4
import Derived.Test.YtacibennmcegfaaDoorLN7
namespace Go.Proofs.YtacibennmcegfaaDoor
open Go.RowKit Go.Shelf Go.Herb

structure ForkOk (bs : List Br) (ls : List Ln) (name frm : ByteArray) (seq : Int) : Prop where
  isn : nameB name = true
  rise : ∀ x ∈ ls, x.1 < seq
  has : ∃ x ∈ bs, x.1 = frm
  new : ∀ x ∈ bs, x.1 ≠ name
  nb : bs.length < 12
  nl : ls.length < 48
/-- Where a branch of a name stands that is not there yet. -/
structure PlaceB (bs : List Br) (k : ByteArray) (i : Nat) : Prop where
  le : i ≤ bs.length
  lo : ∀ (j : Nat) (x : Br), j < i → bs[j]? = some x → x.1.toList < k.toList
  hi : ∀ (j : Nat) (x : Br), i ≤ j → bs[j]? = some x → k.toList < x.1.toList
theorem PlaceB.srt {bs : List Br} {k : ByteArray} {i : Nat} (h : PlaceB bs k i) (hs : SrtB bs) (l m : Int) : SrtB (bs.take i ++ (k, l, m) :: bs.drop i) := by
  unfold SrtB at hs ⊢
  rw [List.pairwise_append, List.pairwise_cons]
  have hlo : ∀ a ∈ bs.take i, a.1.toList < k.toList := fun a ha => by
    obtain ⟨j, hj, rfl⟩ := List.getElem_of_mem ha
    rw [List.length_take] at hj
    rw [List.getElem_take]
    exact h.lo j _ (by omega) (List.getElem?_eq_getElem _)
  have hhi : ∀ a ∈ bs.drop i, k.toList < a.1.toList := fun a ha => by
    obtain ⟨j, hj, rfl⟩ := List.getElem_of_mem ha
    rw [List.getElem_drop]
    exact h.hi (i + j) _ (by omega) (List.getElem?_eq_getElem _)
  refine ⟨hs.sublist (List.take_sublist _ _), ⟨hhi, hs.sublist (List.drop_sublist _ _)⟩, fun a ha b hb => ?_⟩
  rcases List.mem_cons.1 hb with rfl | hb
  · exact hlo a ha
  · exact List.lt_trans (hlo a ha) (hhi b hb)
theorem srtL_last {ls : List Ln} (h : SrtL ls) {m : Nat} {y : Ln} (hy : ls[m]? = some y) (hm : m + 1 = ls.length) : ∀ x ∈ ls, x.1 ≤ y.1 := fun x hx => by
  obtain ⟨j, hj, e⟩ := List.getElem_of_mem hx
  exact lnc_srt h (show j ≤ m by omega) (by rw [List.getElem?_eq_getElem hj, e]) hy
theorem els_same {α : Type} {enc : α → List Value} {s : Nat} {w w' : World} {g o : Nat} {xs : List α} (h : Els enc s w (some ⟨g, o, none⟩) xs) (hw : w'.heap[g]? = w.heap[g]?) : Els enc s w' (some ⟨g, o, none⟩) xs :=
  ⟨fun i hi => by
    obtain ⟨b, o', ha, hlt, hc⟩ := h.get i hi
    injection ha with ha
    injection ha with e1 e2
    subst e1 e2
    refine ⟨g, o, rfl, ?_, fun j c hj => ?_⟩
    · rw [Array.getElem?_eq_getElem hlt] at hw
      exact lt_of_blk hw
    · rw [← hc j c hj]
      unfold World.cell?
      simp only [hw]⟩
end Go.Proofs.YtacibennmcegfaaDoor
