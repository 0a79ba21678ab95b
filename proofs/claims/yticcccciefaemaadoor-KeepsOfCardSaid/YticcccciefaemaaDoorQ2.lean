/- Rows of elements of one cell; lists whose parts are exchanged: plain lemmas. No condition. -/
import Derived.Test.YticcccciefaemaaDoorRow
import Derived.Test.YticcccciefaemaaDoorQ1
namespace Go.Herb
open Go.RowKit

theorem flat_one {α : Type} {enc : α → List Value} {f : α → Value} (he : ∀ x, enc x = [f x]) (xs : List α) : xs.flatMap enc = xs.map f := by
  have : enc = fun x => [f x] := funext he
  rw [this]
  induction xs with
  | nil => rfl
  | cons x xs ih => rw [List.flatMap_cons, List.map_cons, ih]; rfl

/-- One element of a row of one cell each, stored anew. -/
theorem Row.set1 {α : Type} {enc : α → List Value} {f : α → Value} {e : Nat} {w : World} {g cap : Nat} {xs : List α} (h : Row enc 1 e w g cap xs) (he : ∀ x, enc x = [f x]) (i : Nat) (x : α) :
    Row enc 1 e (w.setCell ⟨g, i, none⟩ (f x)) g cap (xs.set i x) := by
  obtain ⟨cur, hc, hsz, htk⟩ := h.blk
  refine ⟨⟨_, blk_setCell hc _, by simpa using hsz, ?_⟩, by simpa using h.le, h.max⟩
  rw [flat_one he] at htk ⊢
  rw [Array.toList_setIfInBounds, List.length_set, List.take_set, htk, List.map_set]

/-- Two far ones exchanged. -/
theorem swap_far {α : Type} (P Q R : List α) (x y : α) : ((P ++ x :: (Q ++ y :: R)).set P.length y).set (P.length + 1 + Q.length) x = P ++ y :: (Q ++ x :: R) := by
  rw [List.set_append_right _ _ (Nat.le_refl _), Nat.sub_self, List.set_cons_zero, List.set_append_right _ _ (by omega), show P.length + 1 + Q.length - P.length = Q.length + 1 from by omega, List.set_cons_succ, List.set_append_right _ _ (Nat.le_refl _), Nat.sub_self, List.set_cons_zero]

/-- Two parts of one length, exchanged so far as i. -/
def swp {α : Type} (A X M Y C : List α) (i : Nat) : List α := A ++ (Y.take i ++ (X.drop i ++ (M ++ (X.take i ++ (Y.drop i ++ C)))))
theorem swp_zero {α : Type} (A X M Y C : List α) : swp A X M Y C 0 = A ++ (X ++ (M ++ (Y ++ C))) := by simp [swp]
theorem swp_end {α : Type} (A X M Y C : List α) (n : Nat) (h1 : X.length = n) (h2 : Y.length = n) : swp A X M Y C n = A ++ (Y ++ (M ++ (X ++ C))) := by
  unfold swp
  rw [List.take_of_length_le (by omega), List.drop_of_length_le (by omega), List.take_of_length_le (by omega), List.drop_of_length_le (by omega)]
  simp
theorem swp_len {α : Type} (A X M Y C : List α) (i : Nat) : (swp A X M Y C i).length = (A ++ (X ++ (M ++ (Y ++ C)))).length := by
  unfold swp
  simp only [List.length_append, List.length_take, List.length_drop]
  omega
theorem swp_step {α : Type} (A X M Y C : List α) (i : Nat) (hX : i < X.length) (hY : i < Y.length) :
    (swp A X M Y C i)[A.length + i]? = some X[i] ∧ (swp A X M Y C i)[A.length + X.length + M.length + i]? = some Y[i] ∧
    ((swp A X M Y C i).set (A.length + i) Y[i]).set (A.length + X.length + M.length + i) X[i] = swp A X M Y C (i + 1) := by
  have e0 : swp A X M Y C i = (A ++ Y.take i) ++ X[i] :: ((X.drop (i + 1) ++ (M ++ X.take i)) ++ Y[i] :: (Y.drop (i + 1) ++ C)) := by
    unfold swp
    rw [List.drop_eq_getElem_cons hX, List.drop_eq_getElem_cons hY]
    simp only [List.append_assoc, List.cons_append]
  have l0 : (A ++ Y.take i).length = A.length + i := by rw [List.length_append, List.length_take]; omega
  have l1 : (X.drop (i + 1) ++ (M ++ X.take i)).length = X.length + M.length - 1 := by simp only [List.length_append, List.length_drop, List.length_take]; omega
  have l2 : A.length + X.length + M.length + i = (A ++ Y.take i).length + 1 + (X.drop (i + 1) ++ (M ++ X.take i)).length := by rw [l0, l1]; omega
  refine ⟨?_, ?_, ?_⟩
  · rw [e0, ← l0, List.getElem?_append_right (Nat.le_refl _), Nat.sub_self, List.getElem?_cons_zero]
  · rw [e0, l2, List.getElem?_append_right (by omega), show (A ++ Y.take i).length + 1 + (X.drop (i + 1) ++ (M ++ X.take i)).length - (A ++ Y.take i).length = (X.drop (i + 1) ++ (M ++ X.take i)).length + 1 from by omega, List.getElem?_cons_succ, List.getElem?_append_right (Nat.le_refl _), Nat.sub_self, List.getElem?_cons_zero]
  · rw [e0, l2, ← l0, swap_far]
    unfold swp
    rw [List.take_succ_eq_append_getElem hY, List.take_succ_eq_append_getElem hX]
    simp only [List.append_assoc, List.cons_append, List.nil_append]
end Go.Herb
