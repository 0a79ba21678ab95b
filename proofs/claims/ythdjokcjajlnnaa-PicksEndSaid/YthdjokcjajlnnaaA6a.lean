/- Plain facts on a plan, and the statements' own meet. -/
import Derived.Test.YthdjokcjajlnnaaWC
import Derived.Test.YthdjokcjajlnnaaWF
namespace Go.Proofs.Ythdjokcjajlnnaa
open Go.RowKit Go.Herb

set_option maxHeartbeats 400000 in
theorem lmeet_any (x y : T) (w : World) :
    Calls Try.prog 12 #[tv x, tv y] w fun e w' => e = .returned (.bool (meetB x y)) ∧ Below w.heap.size w w' := by
  go_enter Try.func12, Try.ntmps12
  go_wp2
  all_goals
    go_ret
    refine ⟨?_, ((Below.refl _ _).alloc (Nat.le_refl _) _).alloc (by simp) _⟩
    simp_all [meetB]

/-- What is left beside the filtered ones does not pass the filter. -/
theorem rest_of_filter {l r : List T} (p : T → Bool) (h : (l.filter p ++ r).Perm l) : ∀ x ∈ r, p x = false := by
  have h1 := h.countP_eq p
  rw [List.countP_append] at h1
  have h2 : (l.filter p).countP p = l.countP p := by
    rw [List.countP_eq_length_filter, List.countP_eq_length_filter, List.filter_filter]
    simp
  have h3 : r.countP p = 0 := by omega
  intro x hx
  have := List.countP_eq_zero.1 h3 x hx
  simpa using this

theorem one_perm (l : List T) (k : Nat) (h0 : k ≠ 0) : ((l.drop (k - 1)).take 1 ++ (l.take (k - 1) ++ l.drop k)).Perm l := by
  have h1 : l = l.take (k - 1) ++ ((l.drop (k - 1)).take 1 ++ l.drop k) := by
    have : l.drop k = (l.drop (k - 1)).drop 1 := by rw [List.drop_drop]; congr 1; omega
    rw [this, List.take_append_drop, List.take_append_drop]
  conv => rhs; rw [h1]
  rw [← List.append_assoc, ← List.append_assoc]
  exact (List.perm_append_comm).append_right _

def taking (f t : Nat) (ins bs : List T) (i : Nat) : List T := (if i = f then ins else []) ++ (if i = t then bs else [])

structure PlOk (p : Pl) (lv : Nat → Lv) : Prop where
  f : p.frm < 3
  t : p.to < 3
  ft : p.frm ≤ p.to
  ft1 : p.to ≤ p.frm + 1
  inn : p.inn ≠ []
  same : p.to = p.frm → p.beside = []
  rem : ∀ i, i < 3 → ∃ r, (taking p.frm p.to p.inn p.beside i ++ r).Perm (lv i).ts
  next : p.frm < p.to → p.beside = (lv p.to).ts.filter (meetB · (spanL p.inn))

theorem filter_rest (l : List T) (p : T → Bool) : (l.filter p ++ l.filter (fun x => !p x)).Perm l := List.filter_append_perm p l

theorem ofP_ok (ds : List Int) (l0 l1 l2 : Lv) (h : (ofP ds l0.ts l1.ts l2.ts).is = true) : PlOk (ofP ds l0.ts l1.ts l2.ts) (lvAt l0 l1 l2) := by
  unfold ofP at h ⊢
  by_cases h0 : 2 < l0.ts.length
  · simp only [h0, if_true] at h ⊢
    refine ⟨by simp, by simp, by simp, by simp, ?_, by simp, ?_, by simp [lvAt]⟩
    · intro h1
      simp only at h1
      rw [h1] at h0
      simp at h0
    · intro i hi
      have : i = 0 ∨ i = 1 ∨ i = 2 := by omega
      rcases this with rfl | rfl | rfl
      · exact ⟨[], by simp [taking, lvAt]⟩
      · exact ⟨_, by simpa [taking, lvAt] using filter_rest l1.ts (meetB · (spanL l0.ts))⟩
      · exact ⟨l2.ts, by simp [taking, lvAt]⟩
  · simp only [h0, if_false] at h ⊢
    by_cases h1 : 8192 < bytesL l1.ts
    · simp only [h1, if_true] at h ⊢
      have hne : l1.ts ≠ [] := by
        intro h2
        rw [h2] at h1
        simp [bytesL] at h1
      refine ⟨by simp, by simp, by simp, by simp, ?_, by simp, ?_, by simp [lvAt]⟩
      · intro h2
        simp only at h2
        cases h3 : l1.ts with
        | nil => exact hne h3
        | cons x xs => rw [h3] at h2; simp at h2
      · intro i hi
        have : i = 0 ∨ i = 1 ∨ i = 2 := by omega
        rcases this with rfl | rfl | rfl
        · exact ⟨l0.ts, by simp [taking, lvAt]⟩
        · exact ⟨l1.ts.drop 1, by simpa [taking, lvAt] using List.Perm.of_eq (List.take_append_drop 1 l1.ts)⟩
        · exact ⟨_, by simpa [taking, lvAt] using filter_rest l2.ts (meetB · (spanL (l1.ts.take 1)))⟩
    · simp only [h1, if_false] at h ⊢
      unfold dirtyP at h ⊢
      have key : ∀ (l : List T), dirtyAt ds l ≠ 0 → (l.drop (dirtyAt ds l - 1)).take 1 ≠ [] := by
        intro l hl h2
        have h3 := dirtyAt_le ds l
        have h4 := congrArg List.length h2
        simp at h4
        omega
      by_cases d0 : dirtyAt ds l0.ts ≠ 0
      · simp only [d0, if_true, ne_eq, not_false_iff] at h ⊢
        refine ⟨by simp, by simp, by simp, by simp, key _ d0, by simp, ?_, by simp⟩
        intro i hi
        have : i = 0 ∨ i = 1 ∨ i = 2 := by omega
        rcases this with rfl | rfl | rfl
        · exact ⟨_, by simpa [taking, lvAt] using one_perm l0.ts _ d0⟩
        · exact ⟨l1.ts, by simp [taking, lvAt]⟩
        · exact ⟨l2.ts, by simp [taking, lvAt]⟩
      · simp only [d0, if_false] at h ⊢
        by_cases d1 : dirtyAt ds l1.ts ≠ 0
        · simp only [d1, if_true, ne_eq, not_false_iff] at h ⊢
          refine ⟨by simp, by simp, by simp, by simp, key _ d1, by simp, ?_, by simp⟩
          intro i hi
          have : i = 0 ∨ i = 1 ∨ i = 2 := by omega
          rcases this with rfl | rfl | rfl
          · exact ⟨l0.ts, by simp [taking, lvAt]⟩
          · exact ⟨_, by simpa [taking, lvAt] using one_perm l1.ts _ d1⟩
          · exact ⟨l2.ts, by simp [taking, lvAt]⟩
        · simp only [d1, if_false] at h ⊢
          by_cases d2 : dirtyAt ds l2.ts ≠ 0
          · simp only [d2, if_true, ne_eq, not_false_iff] at h ⊢
            refine ⟨by simp, by simp, by simp, by simp, key _ d2, by simp, ?_, by simp⟩
            intro i hi
            have : i = 0 ∨ i = 1 ∨ i = 2 := by omega
            rcases this with rfl | rfl | rfl
            · exact ⟨l0.ts, by simp [taking, lvAt]⟩
            · exact ⟨l1.ts, by simp [taking, lvAt]⟩
            · exact ⟨_, by simpa [taking, lvAt] using one_perm l2.ts _ d2⟩
          · simp only [d2, if_false] at h
            cases h

theorem ofP_no (ds : List Int) (l0 l1 l2 : List T) (h : (ofP ds l0 l1 l2).is = false) : (ofP ds l0 l1 l2).inn = [] ∧ (ofP ds l0 l1 l2).beside = [] := by
  unfold ofP at h ⊢
  split at h
  · cases h
  · rename_i h0
    simp only [h0, if_false]
    split at h
    · cases h
    · rename_i h1
      simp only [h1, if_false]
      unfold dirtyP at h ⊢
      split at h
      · cases h
      · rename_i h2
        simp only [h2, if_false]
        split at h
        · cases h
        · rename_i h3
          simp only [h3, if_false]
          split at h
          · cases h
          · rename_i h4
            simp only [h4, if_false, and_self]

/-- The span, reckoned from the first one on. -/
def spanK (x : T) (xs : List T) (k : Nat) : T := (xs.take k).foldl spanStep x
theorem spanK_succ (x : T) (xs : List T) (k : Nat) (h : k < xs.length) : spanK x xs (k + 1) = spanStep (spanK x xs k) xs[k] := by
  unfold spanK
  rw [List.take_succ_eq_append_getElem h, List.foldl_append]
  rfl
theorem spanK_all (xs : List T) (h : 0 < xs.length) : spanK xs[0] xs xs.length = spanL xs := by
  cases xs with
  | nil => simp at h
  | cons x xs => simp [spanK, spanL]
end Go.Proofs.Ythdjokcjajlnnaa
