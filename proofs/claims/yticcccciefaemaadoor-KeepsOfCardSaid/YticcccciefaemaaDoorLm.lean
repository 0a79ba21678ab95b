/- Plain facts on views: the last facts of each key and time. No condition. -/
import Derived.Test.YticcccciefaemaaDoorLk
namespace Go.Proofs.YticcccciefaemaaDoor
open Go.RowKit Go.Shelf Go.Herb

theorem same_spot {x y : Fc} (h1 : ¬ LtF x y) (h2 : ¬ LtF y x) : spotOf x = spotOf y := by
  rw [LtF.not] at h1 h2
  rcases h1 with h1 | ⟨e1, h1⟩
  · rcases h2 with h2 | ⟨e2, h2⟩
    · exact absurd h2 (List.lt_asymm h1)
    · rw [e2] at h1; exact absurd h1 (List.lt_irrefl _)
  · rcases h2 with h2 | ⟨e2, h2⟩
    · rw [e1] at h2; exact absurd h2 (List.lt_irrefl _)
    · exact Prod.ext (bytes_ext e1) (by show x.valid = y.valid; omega)

theorem sorted_eq : ∀ {ys zs : List Fc}, ys.Perm zs → ys.Pairwise (fun x y => ¬ LtF y x) → zs.Pairwise (fun x y => ¬ LtF y x) → (∀ x ∈ ys, ∀ y ∈ ys, spotOf x = spotOf y → x = y) → ys = zs
  | [], zs, hp, _, _, _ => (List.Perm.nil_eq hp)
  | y :: ys, [], hp, _, _, _ => by have := hp.length_eq; simp at this
  | y :: ys, z :: zs, hp, h1, h2, hd => by
    have p1 := List.pairwise_cons.1 h1
    have p2 := List.pairwise_cons.1 h2
    have hyz : y = z := by
      have hy : y ∈ z :: zs := hp.mem_iff.1 (by simp)
      have hz : z ∈ y :: ys := hp.mem_iff.2 (by simp)
      rcases List.mem_cons.1 hy with e | hy
      · exact e
      · rcases List.mem_cons.1 hz with e | hz'
        · exact e.symm
        · exact hd y (by simp) z hz (same_spot (p2.1 y hy) (p1.1 z hz'))
    subst hyz
    rw [sorted_eq (hp.cons_inv) p1.2 p2.2 (fun a ha b hb => hd a (by simp [ha]) b (by simp [hb]))]

/-- Each entry stands at its own spot. -/
theorem lastStep_spot {m : List (Spot × Fc)} (h : ∀ p ∈ m, p.1 = spotOf p.2) (x : Fc) : ∀ p ∈ lastStep m x, p.1 = spotOf p.2 := by
  have hput : ∀ p ∈ putL m (spotOf x) x, p.1 = spotOf p.2 := by
    intro p hp
    unfold putL at hp
    split at hp
    · obtain ⟨q, hq, e⟩ := List.mem_map.1 hp
      split at e
      · rw [← e]
      · rw [← e]; exact h q hq
    · rcases List.mem_append.1 hp with hp | hp
      · exact h p hp
      · rw [List.mem_singleton.1 hp]
  unfold lastStep
  split
  · exact hput
  · split
    · exact hput
    · exact h
theorem lastStep_nodup {m : List (Spot × Fc)} (h : (m.map (·.1)).Nodup) (x : Fc) : ((lastStep m x).map (·.1)).Nodup := by
  unfold lastStep
  split
  · exact putL_nodup h _ _
  · split
    · exact putL_nodup h _ _
    · exact h
theorem lastM_inv (xs : List Fc) : (∀ p ∈ lastM xs, p.1 = spotOf p.2) ∧ ((lastM xs).map (·.1)).Nodup := by
  suffices h : ∀ m : List (Spot × Fc), (∀ p ∈ m, p.1 = spotOf p.2) → (m.map (·.1)).Nodup → (∀ p ∈ xs.foldl lastStep m, p.1 = spotOf p.2) ∧ ((xs.foldl lastStep m).map (·.1)).Nodup from h [] (by simp) (by simp)
  induction xs with
  | nil => intro m h1 h2; exact ⟨h1, h2⟩
  | cons x xs ih => intro m h1 h2; exact ih _ (lastStep_spot h1 x) (lastStep_nodup h2 x)

theorem lastL_spots (xs : List Fc) : ((lastL xs).map spotOf).Nodup := by
  have h := lastM_inv xs
  have : (lastL xs).map spotOf = (lastM xs).map (·.1) := by
    rw [List.map_map]
    exact List.map_congr_left (fun p hp => (h.1 p hp).symm)
  rw [this]
  exact h.2

theorem nodup_inj {xs : List Fc} (h : (xs.map spotOf).Nodup) : ∀ x ∈ xs, ∀ y ∈ xs, spotOf x = spotOf y → x = y := by
  induction xs with
  | nil => intro x hx; simp at hx
  | cons a xs ih =>
    obtain ⟨h1, h2⟩ := List.nodup_cons.1 (List.map_cons ▸ h : (spotOf a :: xs.map spotOf).Nodup)
    intro x hx y hy e
    rcases List.mem_cons.1 hx with hxa | hxa
    · rcases List.mem_cons.1 hy with hya | hya
      · rw [hxa, hya]
      · exact absurd (List.mem_map.2 ⟨y, hya, by rw [← e, hxa]⟩) h1
    · rcases List.mem_cons.1 hy with hya | hya
      · exact absurd (List.mem_map.2 ⟨x, hxa, by rw [e, hya]⟩) h1
      · exact ih h2 x hxa y hya e

/-- Two sorted lists of the same last facts are one. -/
theorem view_one {ys zs ls : List Fc} (h1 : ys.Perm ls) (h2 : zs.Perm ls) (s1 : ys.Pairwise (fun x y => ¬ LtF y x)) (s2 : zs.Pairwise (fun x y => ¬ LtF y x)) (hd : (ls.map spotOf).Nodup) : ys = zs :=
  sorted_eq (h1.trans h2.symm) s1 s2 (fun x hx y hy e => nodup_inj hd x (h1.mem_iff.1 hx) y (h1.mem_iff.1 hy) e)

/-- What stands at a spot: a greatest one of the list. -/
def LastAt (zs : List Fc) (s : Spot) : Option Fc → Prop
  | some y => y ∈ zs ∧ spotOf y = s ∧ ∀ z ∈ zs, spotOf z = s → z.seq ≤ y.seq
  | none => ∀ z ∈ zs, spotOf z ≠ s

theorem lastAt_snoc {zs : List Fc} {x : Fc} (ih : ∀ s, LastAt zs s (getL (lastM zs) s)) (s : Spot) : LastAt (zs ++ [x]) s (getL (lastM (zs ++ [x])) s) := by
  rw [lastM_snoc]
  have ihs := ih s
  have ihx := ih (spotOf x)
  unfold lastStep
  by_cases hs : spotOf x = s
  · subst hs
    cases hg : getL (lastM zs) (spotOf x) with
    | none =>
      rw [hg] at ihx
      simp only
      rw [getL_put_same]
      refine ⟨by simp, rfl, fun z hz e => ?_⟩
      rcases List.mem_append.1 hz with hz | hz
      · exact absurd e (ihx z hz)
      · rw [List.mem_singleton.1 hz]; exact Int.le_refl _
    | some y =>
      rw [hg] at ihx
      obtain ⟨h1, h2, h3⟩ := ihx
      simp only
      by_cases hlt : y.seq < x.seq
      · rw [if_pos hlt, getL_put_same]
        refine ⟨by simp, rfl, fun z hz e => ?_⟩
        rcases List.mem_append.1 hz with hz | hz
        · have := h3 z hz e; omega
        · rw [List.mem_singleton.1 hz]; exact Int.le_refl _
      · rw [if_neg hlt, hg]
        refine ⟨by simp [h1], h2, fun z hz e => ?_⟩
        rcases List.mem_append.1 hz with hz | hz
        · exact h3 z hz e
        · rw [List.mem_singleton.1 hz]; omega
  · have hkeep : ∀ o, LastAt zs s o → LastAt (zs ++ [x]) s o := by
      intro o ho
      cases o with
      | none =>
        intro z hz
        rcases List.mem_append.1 hz with hz | hz
        · exact ho z hz
        · rw [List.mem_singleton.1 hz]; exact hs
      | some y =>
        refine ⟨by simp [ho.1], ho.2.1, fun z hz e => ?_⟩
        rcases List.mem_append.1 hz with hz | hz
        · exact ho.2.2 z hz e
        · rw [List.mem_singleton.1 hz] at e; exact absurd e hs
    have hput : getL (putL (lastM zs) (spotOf x) x) s = getL (lastM zs) s := getL_put_other _ _ _ (fun e => hs e.symm)
    cases hg : getL (lastM zs) (spotOf x) with
    | none => simp only; rw [hput]; exact hkeep _ ihs
    | some y =>
      simp only
      split
      · rw [hput]; exact hkeep _ ihs
      · exact hkeep _ ihs

theorem list_snoc_ind {α : Type} {P : List α → Prop} (h0 : P []) (h1 : ∀ xs x, P xs → P (xs ++ [x])) (xs : List α) : P xs := by
  have : ∀ ys : List α, P ys.reverse := by
    intro ys
    induction ys with
    | nil => exact h0
    | cons y ys ih => rw [List.reverse_cons]; exact h1 _ _ ih
  have := this xs.reverse
  rwa [List.reverse_reverse] at this

theorem lastAt (zs : List Fc) (s : Spot) : LastAt zs s (getL (lastM zs) s) := by
  revert s
  induction zs using list_snoc_ind with
  | h0 => intro s z hz; simp at hz
  | h1 xs x ih => exact lastAt_snoc ih

theorem mem_lastL {zs : List Fc} {y : Fc} : y ∈ lastL zs ↔ getL (lastM zs) (spotOf y) = some y := by
  obtain ⟨hi, hn⟩ := lastM_inv zs
  unfold lastL
  constructor
  · intro h
    obtain ⟨p, hp, rfl⟩ := List.mem_map.1 h
    rw [getL_some hn, ← hi p hp]
    exact hp
  · intro h
    rw [getL_some hn] at h
    exact List.mem_map.2 ⟨_, h, rfl⟩

theorem lastL_sub {zs : List Fc} {y : Fc} (h : y ∈ lastL zs) : y ∈ zs ∧ ∀ z ∈ zs, spotOf z = spotOf y → z.seq ≤ y.seq := by
  have := lastAt zs (spotOf y)
  rw [mem_lastL.1 h] at this
  exact ⟨this.1, this.2.2⟩

theorem lastL_has {zs : List Fc} {z : Fc} (h : z ∈ zs) : ∃ y ∈ lastL zs, spotOf y = spotOf z ∧ z.seq ≤ y.seq := by
  have hl := lastAt zs (spotOf z)
  cases hg : getL (lastM zs) (spotOf z) with
  | none => rw [hg] at hl; exact absurd rfl (hl z h)
  | some y =>
    rw [hg] at hl
    exact ⟨y, mem_lastL.2 (by rw [hl.2.1]; exact hg), hl.2.1, hl.2.2 z h rfl⟩

theorem lastM_distinct {zs : List Fc} (h : (zs.map spotOf).Nodup) : lastM zs = zs.map (fun x => (spotOf x, x)) := by
  induction zs using list_snoc_ind with
  | h0 => rfl
  | h1 xs x ih =>
    rw [List.map_append, List.nodup_append] at h
    obtain ⟨h1, _, h2⟩ := h
    rw [lastM_snoc, ih h1]
    have hno : spotOf x ∉ (xs.map (fun x => (spotOf x, x))).map (·.1) := by
      rw [List.map_map]
      intro hin
      exact h2 (spotOf x) hin (spotOf x) (by simp) rfl
    have hg : getL (xs.map (fun x => (spotOf x, x))) (spotOf x) = none := getL_none.2 hno
    unfold lastStep
    rw [hg]
    simp only
    unfold putL
    rw [if_neg hno, List.map_append]
    rfl
theorem lastL_distinct {zs : List Fc} (h : (zs.map spotOf).Nodup) : lastL zs = zs := by
  unfold lastL
  rw [lastM_distinct h, List.map_map]
  conv => rhs; rw [← List.map_id zs]
  rfl

end Go.Proofs.YticcccciefaemaaDoor
