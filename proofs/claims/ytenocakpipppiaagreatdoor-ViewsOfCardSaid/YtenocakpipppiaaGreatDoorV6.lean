/- Plain facts on the last facts of each key and time. No condition. -/
import Derived.Test.YtenocakpipppiaaGreatDoorV5
namespace Go.Proofs.YtenocakpipppiaaGreatDoor
open Go.RowKit Go.Shelf Go.Herb

/-- What stands at a spot: a greatest one of the list. -/
def LastAt (zs : List Fc) (s : Spot) : Option Fc → Prop
  | some y => y ∈ zs ∧ spotOf y = s ∧ ∀ z ∈ zs, spotOf z = s → z.seq ≤ y.seq
  | none => ∀ z ∈ zs, spotOf z ≠ s

theorem lastAt_snoc {zs : List Fc} {x : Fc} (ih : ∀ s, LastAt zs s (getL (lastM zs) s)) (s : Spot) : LastAt (zs ++ [x]) s (getL (lastM (zs ++ [x])) s) := by
  rw [lastM_snoc]
  have ihs := ih s
  have ihx := ih (spotOf x)
  unfold lastStep
  by_cases hs : spotOf x = s
  · subst hs
    cases hg : getL (lastM zs) (spotOf x) with
    | none =>
      rw [hg] at ihx
      simp only
      rw [getL_put_same]
      refine ⟨by simp, rfl, fun z hz e => ?_⟩
      rcases List.mem_append.1 hz with hz | hz
      · exact absurd e (ihx z hz)
      · rw [List.mem_singleton.1 hz]; exact Int.le_refl _
    | some y =>
      rw [hg] at ihx
      obtain ⟨h1, h2, h3⟩ := ihx
      simp only
      by_cases hlt : y.seq < x.seq
      · rw [if_pos hlt, getL_put_same]
        refine ⟨by simp, rfl, fun z hz e => ?_⟩
        rcases List.mem_append.1 hz with hz | hz
        · have := h3 z hz e; omega
        · rw [List.mem_singleton.1 hz]; exact Int.le_refl _
      · rw [if_neg hlt, hg]
        refine ⟨by simp [h1], h2, fun z hz e => ?_⟩
        rcases List.mem_append.1 hz with hz | hz
        · exact h3 z hz e
        · rw [List.mem_singleton.1 hz]; omega
  · have hkeep : ∀ o, LastAt zs s o → LastAt (zs ++ [x]) s o := by
      intro o ho
      cases o with
      | none =>
        intro z hz
        rcases List.mem_append.1 hz with hz | hz
        · exact ho z hz
        · rw [List.mem_singleton.1 hz]; exact hs
      | some y =>
        refine ⟨by simp [ho.1], ho.2.1, fun z hz e => ?_⟩
        rcases List.mem_append.1 hz with hz | hz
        · exact ho.2.2 z hz e
        · rw [List.mem_singleton.1 hz] at e; exact absurd e hs
    have hput : getL (putL (lastM zs) (spotOf x) x) s = getL (lastM zs) s := getL_put_other _ _ _ (fun e => hs e.symm)
    cases hg : getL (lastM zs) (spotOf x) with
    | none => simp only; rw [hput]; exact hkeep _ ihs
    | some y =>
      simp only
      split
      · rw [hput]; exact hkeep _ ihs
      · exact hkeep _ ihs

theorem list_snoc_ind {α : Type} {P : List α → Prop} (h0 : P []) (h1 : ∀ xs x, P xs → P (xs ++ [x])) (xs : List α) : P xs := by
  have : ∀ ys : List α, P ys.reverse := by
    intro ys
    induction ys with
    | nil => exact h0
    | cons y ys ih => rw [List.reverse_cons]; exact h1 _ _ ih
  have := this xs.reverse
  rwa [List.reverse_reverse] at this

theorem lastAt (zs : List Fc) (s : Spot) : LastAt zs s (getL (lastM zs) s) := by
  revert s
  induction zs using list_snoc_ind with
  | h0 => intro s z hz; simp at hz
  | h1 xs x ih => exact lastAt_snoc ih

theorem mem_lastL {zs : List Fc} {y : Fc} : y ∈ lastL zs ↔ getL (lastM zs) (spotOf y) = some y := by
  obtain ⟨hi, hn⟩ := lastM_inv zs
  unfold lastL
  constructor
  · intro h
    obtain ⟨p, hp, rfl⟩ := List.mem_map.1 h
    rw [getL_some hn, ← hi p hp]
    exact hp
  · intro h
    rw [getL_some hn] at h
    exact List.mem_map.2 ⟨_, h, rfl⟩

theorem lastL_sub {zs : List Fc} {y : Fc} (h : y ∈ lastL zs) : y ∈ zs ∧ ∀ z ∈ zs, spotOf z = spotOf y → z.seq ≤ y.seq := by
  have := lastAt zs (spotOf y)
  rw [mem_lastL.1 h] at this
  exact ⟨this.1, this.2.2⟩

theorem lastL_has {zs : List Fc} {z : Fc} (h : z ∈ zs) : ∃ y ∈ lastL zs, spotOf y = spotOf z ∧ z.seq ≤ y.seq := by
  have hl := lastAt zs (spotOf z)
  cases hg : getL (lastM zs) (spotOf z) with
  | none => rw [hg] at hl; exact absurd rfl (hl z h)
  | some y =>
    rw [hg] at hl
    exact ⟨y, mem_lastL.2 (by rw [hl.2.1]; exact hg), hl.2.1, hl.2.2 z h rfl⟩

theorem lastM_distinct {zs : List Fc} (h : (zs.map spotOf).Nodup) : lastM zs = zs.map (fun x => (spotOf x, x)) := by
  induction zs using list_snoc_ind with
  | h0 => rfl
  | h1 xs x ih =>
    rw [List.map_append, List.nodup_append] at h
    obtain ⟨h1, _, h2⟩ := h
    rw [lastM_snoc, ih h1]
    have hno : spotOf x ∉ (xs.map (fun x => (spotOf x, x))).map (·.1) := by
      rw [List.map_map]
      intro hin
      exact h2 (spotOf x) hin (spotOf x) (by simp) rfl
    have hg : getL (xs.map (fun x => (spotOf x, x))) (spotOf x) = none := getL_none.2 hno
    unfold lastStep
    rw [hg]
    simp only
    unfold putL
    rw [if_neg hno, List.map_append]
    rfl
theorem lastL_distinct {zs : List Fc} (h : (zs.map spotOf).Nodup) : lastL zs = zs := by
  unfold lastL
  rw [lastM_distinct h, List.map_map]
  conv => rhs; rw [← List.map_id zs]
  rfl

theorem IsView.spots {xs : List Fc} {cs : List Lk} {at_ : Int} {ys : List Fc} (h : IsView xs cs at_ ys) : (ys.map spotOf).Nodup :=
  ((h.perm.map spotOf).nodup_iff).2 (lastL_spots _)
theorem IsView.mem {xs : List Fc} {cs : List Lk} {at_ : Int} {ys : List Fc} (h : IsView xs cs at_ ys) {y : Fc} (hy : y ∈ ys) : y ∈ xs ∧ seenC cs at_ y = true ∧ ∀ z ∈ xs, seenC cs at_ z = true → spotOf z = spotOf y → z.seq ≤ y.seq := by
  obtain ⟨h1, h2⟩ := lastL_sub (h.perm.mem_iff.1 hy)
  rw [seenL_eq] at h1 h2
  exact ⟨(List.mem_filter.1 h1).1, (List.mem_filter.1 h1).2, fun z hz hs e => h2 z (List.mem_filter.2 ⟨hz, hs⟩) e⟩
theorem IsView.has {xs : List Fc} {cs : List Lk} {at_ : Int} {ys : List Fc} (h : IsView xs cs at_ ys) {z : Fc} (hz : z ∈ xs) (hs : seenC cs at_ z = true) : ∃ y ∈ ys, spotOf y = spotOf z ∧ z.seq ≤ y.seq := by
  obtain ⟨y, hy, r⟩ := lastL_has (zs := seenL xs cs at_) (z := z) (by rw [seenL_eq]; exact List.mem_filter.2 ⟨hz, hs⟩)
  exact ⟨y, h.perm.mem_iff.2 hy, r⟩
theorem IsView.len {xs : List Fc} {cs : List Lk} {at_ : Int} {ys : List Fc} (h : IsView xs cs at_ ys) : ys.length ≤ xs.length := by
  have h1 := h.perm.length_eq
  have h2 := lastM_len (seenL xs cs at_)
  have h3 : (seenL xs cs at_).length ≤ xs.length := List.length_filter_le _ _
  simp at h1
  omega

theorem seenC_max {cs : List Lk} {at_ : Int} {x : Fc} (h : seenC cs at_ x = true) : seenC cs 18446744073709551615 x = true := by
  unfold seenC at h ⊢
  have hs := (bounds_u64 x.ws).2
  cases hf : cs.find? (fun l => decide (l.line = x.line)) with
  | none => rw [hf] at h; exact absurd h (by simp)
  | some l =>
    rw [hf] at h
    simp only [Bool.and_eq_true, decide_eq_true_eq] at h ⊢
    exact ⟨h.1, hs⟩

/-- A view of a view is that view. -/
theorem IsView.again {xs : List Fc} {cs : List Lk} {at_ at' : Int} {ys : List Fc} (h : IsView xs cs at_ ys) (hm : ∀ x, seenC cs at_ x = true → seenC cs at' x = true) : IsView ys cs at' ys := by
  refine ⟨?_, h.sorted⟩
  have : seenL ys cs at' = ys := by
    rw [seenL_eq, List.filter_eq_self]
    exact fun y hy => hm y (h.mem hy).2.1
  rw [this, lastL_distinct h.spots]
theorem IsView.mine {xs : List Fc} {cs : List Lk} {at_ : Int} {ys : List Fc} (h : IsView xs cs at_ ys) : IsView (xs.filter (seenC cs at_)) cs at_ ys := by
  refine ⟨?_, h.sorted⟩
  have : seenL (xs.filter (seenC cs at_)) cs at_ = seenL xs cs at_ := by
    rw [seenL_eq, seenL_eq, List.filter_filter]
    congr 1
    funext x
    simp
  rw [this]
  exact h.perm
end Go.Proofs.YtenocakpipppiaaGreatDoor
