/- The reference's view, as a list that is built step by step, is the view. No condition. -/
import Derived.Test.YtenocakpipppiaaGreatDoorV8
namespace Go.Proofs.YtenocakpipppiaaGreatDoor
open Go.RowKit Go.Shelf Go.Herb

/-- Ahead by key and by time. -/
def AhF (a b : Fc) : Prop := a.key.toList < b.key.toList ∨ a.key.toList = b.key.toList ∧ b.valid < a.valid
instance (a b : Fc) : Decidable (AhF a b) := by unfold AhF; infer_instance
theorem AhF.not_lt {a b : Fc} (h : AhF a b) : ¬ LtF b a := by
  rintro (h2 | ⟨e, h2⟩)
  · rcases h with h | ⟨e, _⟩
    · exact List.lt_asymm h h2
    · rw [e] at h2; exact List.lt_irrefl _ h2
  · rcases h with h | ⟨_, h⟩
    · rw [e] at h; exact List.lt_irrefl _ h
    · omega
theorem AhF.ne {a b : Fc} (h : AhF a b) : spotOf a ≠ spotOf b := by
  intro e
  injection e with e1 e2
  rcases h with h | ⟨_, h⟩
  · rw [e1] at h; exact List.lt_irrefl _ h
  · omega
theorem spot_of_not {a b : Fc} (h1 : ¬ AhF a b) (h2 : ¬ AhF b a) : spotOf a = spotOf b := by
  unfold AhF at h1 h2
  simp only [not_or, not_and] at h1 h2
  have e : a.key.toList = b.key.toList := List.le_antisymm (List.not_lt.1 h2.1) (List.not_lt.1 h1.1)
  have := h1.2 e
  have := h2.2 e.symm
  exact Prod.ext (bytes_ext e) (by show a.valid = b.valid; omega)
theorem AhF.trans {a b c : Fc} (h1 : AhF a b) (h2 : AhF b c) : AhF a c := by
  rcases h1 with h1 | ⟨e1, h1⟩ <;> rcases h2 with h2 | ⟨e2, h2⟩
  · exact .inl (List.lt_trans h1 h2)
  · exact .inl (e2 ▸ h1)
  · exact .inl (e1 ▸ h2)
  · exact .inr ⟨e1.trans e2, by omega⟩

def refStep : List Fc → Fc → List Fc
  | [], x => [x]
  | o :: out, x => if AhF o x then o :: refStep out x else if AhF x o then x :: o :: out else if o.seq < x.seq then x :: out else o :: out
def refOf (zs : List Fc) : List Fc := zs.foldl refStep []
def atL (out : List Fc) (s : Spot) : Option Fc := out.find? (fun y => decide (spotOf y = s))

theorem ahF_spot {a b c : Fc} (h : AhF a b) (e : spotOf b = spotOf c) : AhF a c := by
  injection e with e1 e2
  unfold AhF at *
  rw [← e1, ← e2]
  exact h
theorem refStep_mem {out : List Fc} {x y : Fc} : y ∈ refStep out x → y = x ∨ y ∈ out := by
  induction out with
  | nil => intro h; exact .inl (List.mem_singleton.1 h)
  | cons o out ih =>
    intro h
    unfold refStep at h
    split at h
    · rcases List.mem_cons.1 h with h | h
      · exact .inr (by rw [h]; simp)
      · rcases ih h with h | h
        · exact .inl h
        · exact .inr (List.mem_cons_of_mem _ h)
    · split at h
      · rcases List.mem_cons.1 h with h | h
        · exact .inl h
        · exact .inr h
      · split at h
        · rcases List.mem_cons.1 h with h | h
          · exact .inl h
          · exact .inr (List.mem_cons_of_mem _ h)
        · exact .inr h
theorem refStep_rise {out : List Fc} (h : out.Pairwise AhF) (x : Fc) : (refStep out x).Pairwise AhF := by
  induction out with
  | nil => exact List.pairwise_singleton _ _
  | cons o out ih =>
    obtain ⟨h1, h2⟩ := List.pairwise_cons.1 h
    unfold refStep
    split
    · rename_i ha
      refine List.pairwise_cons.2 ⟨fun y hy => ?_, ih h2⟩
      rcases refStep_mem hy with rfl | hy
      · exact ha
      · exact h1 y hy
    · rename_i hna
      split
      · rename_i hb
        refine List.pairwise_cons.2 ⟨fun y hy => ?_, h⟩
        rcases List.mem_cons.1 hy with rfl | hy
        · exact hb
        · exact hb.trans (h1 y hy)
      · rename_i hnb
        have hs := spot_of_not hna hnb
        split
        · refine List.pairwise_cons.2 ⟨fun y hy => ?_, h2⟩
          have := h1 y hy
          injection hs with e1 e2
          unfold AhF at *
          rw [← e1, ← e2]
          exact this
        · exact h
theorem atL_none_of {out : List Fc} {s : Spot} (h : ∀ y ∈ out, spotOf y ≠ s) : atL out s = none := by
  unfold atL
  rw [List.find?_eq_none]
  intro y hy
  simpa using h y hy
theorem atL_refStep {out : List Fc} (h : out.Pairwise AhF) (x : Fc) (s : Spot) :
    atL (refStep out x) s = if s = spotOf x then (match atL out s with | none => some x | some o => if o.seq < x.seq then some x else some o) else atL out s := by
  induction out with
  | nil =>
    by_cases e : s = spotOf x
    · subst e; simp [refStep, atL]
    · have : ¬ spotOf x = s := fun h => e h.symm
      simp [refStep, atL, e, this]
  | cons o out ih =>
    obtain ⟨h1, h2⟩ := List.pairwise_cons.1 h
    unfold refStep
    split
    · rename_i ha
      by_cases eo : spotOf o = s
      · have : ¬ s = spotOf x := fun e => ha.ne (eo.trans e)
        simp [atL, eo, this]
      · have i2 := ih h2
        unfold atL at i2 ⊢
        rw [List.find?_cons_of_neg (by simpa using eo), List.find?_cons_of_neg (by simpa using eo)]
        exact i2
    · rename_i hna
      split
      · rename_i hb
        by_cases e : s = spotOf x
        · have hnone : atL (o :: out) s = none := atL_none_of (fun y hy => by
            rw [e]
            rcases List.mem_cons.1 hy with rfl | hy
            · exact fun h => hb.ne h.symm
            · exact fun h => (hb.trans (h1 y hy)).ne h.symm)
          rw [if_pos e, hnone]
          unfold atL
          rw [List.find?_cons_of_pos (by simp [e])]
        · rw [if_neg e]
          unfold atL
          rw [List.find?_cons_of_neg (by simpa using fun h => e h.symm)]
      · rename_i hnb
        have hs := spot_of_not hna hnb
        by_cases e : s = spotOf x
        · have hat : atL (o :: out) s = some o := by
            unfold atL
            rw [List.find?_cons_of_pos (by simp [e, hs])]
          rw [if_pos e, hat]
          simp only
          split
          · unfold atL
            rw [List.find?_cons_of_pos (by simp [e])]
          · exact hat
        · rw [if_neg e]
          split
          · unfold atL
            rw [List.find?_cons_of_neg (by simpa using fun h => e h.symm), List.find?_cons_of_neg (by simpa using fun h => e (h.symm.trans hs))]
          · rfl

theorem refOf_snoc (zs : List Fc) (x : Fc) : refOf (zs ++ [x]) = refStep (refOf zs) x := by simp [refOf]
theorem refOf_inv (zs : List Fc) : (refOf zs).Pairwise AhF ∧ ∀ s, atL (refOf zs) s = getL (lastM zs) s := by
  induction zs using list_snoc_ind with
  | h0 => exact ⟨List.Pairwise.nil, fun s => rfl⟩
  | h1 zs x ih =>
    rw [refOf_snoc, lastM_snoc]
    refine ⟨refStep_rise ih.1 x, fun s => ?_⟩
    rw [atL_refStep ih.1, ih.2]
    unfold lastStep
    by_cases e : s = spotOf x
    · subst e
      rw [if_pos rfl]
      cases hg : getL (lastM zs) (spotOf x) with
      | none => simp only; rw [getL_put_same]
      | some y =>
        simp only
        split
        · rw [getL_put_same]
        · exact hg.symm
    · rw [if_neg e]
      split
      · rw [getL_put_other _ _ _ e]
      · split
        · rw [getL_put_other _ _ _ e]
        · rfl
theorem mem_refOf (zs : List Fc) (y : Fc) : y ∈ refOf zs ↔ y ∈ lastL zs := by
  obtain ⟨hp, ha⟩ := refOf_inv zs
  rw [mem_lastL, ← ha]
  constructor
  · intro h
    cases hf : atL (refOf zs) (spotOf y) with
    | none =>
      unfold atL at hf
      rw [List.find?_eq_none] at hf
      exact absurd (decide_eq_true rfl) (hf y h)
    | some u =>
      have hu := List.mem_of_find?_eq_some hf
      have hs : spotOf u = spotOf y := by have := List.find?_some hf; simpa using this
      have : u = y := by
        obtain ⟨i, hi, rfl⟩ := List.getElem_of_mem hu
        obtain ⟨j, hj, rfl⟩ := List.getElem_of_mem h
        rcases Nat.lt_trichotomy i j with h | h | h
        · exact absurd hs (List.pairwise_iff_getElem.1 hp i j hi hj h).ne
        · subst h; rfl
        · exact absurd hs.symm (List.pairwise_iff_getElem.1 hp j i hj hi h).ne
      rw [this]
  · intro h
    exact List.mem_of_find?_eq_some h
/-- The reference's view is a sorted list of the view's facts. -/
theorem refOf_view (zs : List Fc) : (refOf zs).Perm (lastL zs) ∧ (refOf zs).Pairwise (fun x y => ¬ LtF y x) := by
  obtain ⟨hp, ha⟩ := refOf_inv zs
  have hn1 : (refOf zs).Nodup := hp.imp (fun h e => h.ne (by rw [e]))
  have hn2 : (lastL zs).Nodup := List.Pairwise.of_map spotOf (fun a b h e => h (by rw [e])) (lastL_spots zs)
  exact ⟨(List.perm_ext_iff_of_nodup hn1 hn2).2 (mem_refOf zs), hp.imp (fun h => h.not_lt)⟩
end Go.Proofs.YtenocakpipppiaaGreatDoor
