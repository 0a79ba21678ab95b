/- lastL keeps, of one spot and commit, the first of the list. No condition. -/
import Derived.Test.YticcccciefaemaaDoorLm
namespace Go.Proofs.YticcccciefaemaaDoor
open Go.RowKit Go.Shelf Go.Herb

/-- What stands at a spot: the first of its greatest ones. -/
def FirstAt (zs : List Fc) (s : Spot) : Option Fc → Prop
  | some y => spotOf y = s ∧ ∃ pre post, zs = pre ++ y :: post ∧ (∀ z ∈ pre, spotOf z = s → z.seq < y.seq) ∧ (∀ z ∈ post, spotOf z = s → z.seq ≤ y.seq)
  | none => ∀ z ∈ zs, spotOf z ≠ s

theorem firstAt_snoc {zs : List Fc} {x : Fc} (ih : ∀ s, FirstAt zs s (getL (lastM zs) s)) (s : Spot) : FirstAt (zs ++ [x]) s (getL (lastM (zs ++ [x])) s) := by
  rw [lastM_snoc]
  have ihs := ih s
  have ihx := ih (spotOf x)
  unfold lastStep
  by_cases hs : spotOf x = s
  · subst hs
    cases hg : getL (lastM zs) (spotOf x) with
    | none =>
      rw [hg] at ihx
      simp only
      rw [getL_put_same]
      exact ⟨rfl, zs, [], rfl, fun z hz e => absurd e (ihx z hz), fun z hz => by simp at hz⟩
    | some y =>
      rw [hg] at ihx
      obtain ⟨h1, pre, post, h2, h3, h4⟩ := ihx
      simp only
      by_cases hlt : y.seq < x.seq
      · rw [if_pos hlt, getL_put_same]
        refine ⟨rfl, zs, [], rfl, fun z hz e => ?_, fun z hz => by simp at hz⟩
        rw [h2] at hz
        rcases List.mem_append.1 hz with hz | hz
        · have := h3 z hz e; omega
        · rcases List.mem_cons.1 hz with rfl | hz
          · exact hlt
          · have := h4 z hz e; omega
      · rw [if_neg hlt, hg]
        refine ⟨h1, pre, post ++ [x], by rw [h2]; simp, h3, fun z hz e => ?_⟩
        rcases List.mem_append.1 hz with hz | hz
        · exact h4 z hz e
        · rw [List.mem_singleton.1 hz]; omega
  · have hkeep : ∀ o, FirstAt zs s o → FirstAt (zs ++ [x]) s o := by
      intro o ho
      cases o with
      | none =>
        intro z hz
        rcases List.mem_append.1 hz with hz | hz
        · exact ho z hz
        · rw [List.mem_singleton.1 hz]; exact hs
      | some y =>
        obtain ⟨h1, pre, post, h2, h3, h4⟩ := ho
        refine ⟨h1, pre, post ++ [x], by rw [h2]; simp, h3, fun z hz e => ?_⟩
        rcases List.mem_append.1 hz with hz | hz
        · exact h4 z hz e
        · rw [List.mem_singleton.1 hz] at e; exact absurd e hs
    have hput : getL (putL (lastM zs) (spotOf x) x) s = getL (lastM zs) s := getL_put_other _ _ _ (fun e => hs e.symm)
    cases hg : getL (lastM zs) (spotOf x) with
    | none => simp only; rw [hput]; exact hkeep _ ihs
    | some y =>
      simp only
      split
      · rw [hput]; exact hkeep _ ihs
      · exact hkeep _ ihs

theorem firstAt (zs : List Fc) (s : Spot) : FirstAt zs s (getL (lastM zs) s) := by
  revert s
  induction zs using list_snoc_ind with
  | h0 => intro s z hz; simp at hz
  | h1 xs x ih => exact firstAt_snoc ih

theorem mem_lastL_first {zs : List Fc} {y : Fc} : y ∈ lastL zs ↔ ∃ pre post, zs = pre ++ y :: post ∧ (∀ z ∈ pre, spotOf z = spotOf y → z.seq < y.seq) ∧ (∀ z ∈ post, spotOf z = spotOf y → z.seq ≤ y.seq) := by
  constructor
  · intro h
    have := firstAt zs (spotOf y)
    rw [mem_lastL.1 h] at this
    exact this.2
  · rintro ⟨pre, post, h2, h3, h4⟩
    have hf := firstAt zs (spotOf y)
    cases hg : getL (lastM zs) (spotOf y) with
    | none => rw [hg] at hf; exact absurd rfl (hf y (by rw [h2]; simp))
    | some u =>
      rw [hg] at hf
      obtain ⟨k1, pre', post', k2, k3, k4⟩ := hf
      have he : pre ++ y :: post = pre' ++ u :: post' := h2.symm.trans k2
      have hu : u = y := by
        rcases List.append_eq_append_iff.1 he with ⟨ms, ha, hb⟩ | ⟨ms, ha, hb⟩
        · cases ms with
          | nil => rw [List.nil_append] at hb; injection hb with hb _; exact hb.symm
          | cons a ms =>
            rw [List.cons_append] at hb
            injection hb with hb1 hb2
            subst hb1
            have q1 := k3 y (by rw [ha]; simp) rfl
            have q2 := h4 u (by rw [hb2]; simp) k1
            omega
        · cases ms with
          | nil => rw [List.nil_append] at hb; injection hb with hb _
          | cons a ms =>
            rw [List.cons_append] at hb
            injection hb with hb1 hb2
            subst hb1
            have q1 := h3 u (by rw [ha]; simp) k1
            have q2 := k4 y (by rw [hb2]; simp) rfl
            omega
      subst hu
      exact mem_lastL.2 hg
end Go.Proofs.YticcccciefaemaaDoor
