/- Plain facts on views: a view is one list. No condition. -/
import Derived.Test.YtenocakpipppiaaGreatDoorL1
namespace Go.Proofs.YtenocakpipppiaaGreatDoor
open Go.RowKit Go.Shelf Go.Herb

theorem bytes_ext {a b : ByteArray} (h : a.toList = b.toList) : a = b := by
  rw [ByteArray.toList_eq, ByteArray.toList_eq] at h
  exact ByteArray.ext (Array.toList_inj.1 h)

theorem same_spot {x y : Fc} (h1 : ¬ LtF x y) (h2 : ¬ LtF y x) : spotOf x = spotOf y := by
  rw [LtF.not] at h1 h2
  rcases h1 with h1 | ⟨e1, h1⟩
  · rcases h2 with h2 | ⟨e2, h2⟩
    · exact absurd h2 (List.lt_asymm h1)
    · rw [e2] at h1; exact absurd h1 (List.lt_irrefl _)
  · rcases h2 with h2 | ⟨e2, h2⟩
    · rw [e1] at h2; exact absurd h2 (List.lt_irrefl _)
    · exact Prod.ext (bytes_ext e1) (by show x.valid = y.valid; omega)

theorem sorted_eq : ∀ {ys zs : List Fc}, ys.Perm zs → ys.Pairwise (fun x y => ¬ LtF y x) → zs.Pairwise (fun x y => ¬ LtF y x) → (∀ x ∈ ys, ∀ y ∈ ys, spotOf x = spotOf y → x = y) → ys = zs
  | [], zs, hp, _, _, _ => (List.Perm.nil_eq hp)
  | y :: ys, [], hp, _, _, _ => by have := hp.length_eq; simp at this
  | y :: ys, z :: zs, hp, h1, h2, hd => by
    have p1 := List.pairwise_cons.1 h1
    have p2 := List.pairwise_cons.1 h2
    have hyz : y = z := by
      have hy : y ∈ z :: zs := hp.mem_iff.1 (by simp)
      have hz : z ∈ y :: ys := hp.mem_iff.2 (by simp)
      rcases List.mem_cons.1 hy with e | hy
      · exact e
      · rcases List.mem_cons.1 hz with e | hz'
        · exact e.symm
        · exact hd y (by simp) z hz (same_spot (p2.1 y hy) (p1.1 z hz'))
    subst hyz
    rw [sorted_eq (hp.cons_inv) p1.2 p2.2 (fun a ha b hb => hd a (by simp [ha]) b (by simp [hb]))]

/-- Each entry stands at its own spot. -/
theorem lastStep_spot {m : List (Spot × Fc)} (h : ∀ p ∈ m, p.1 = spotOf p.2) (x : Fc) : ∀ p ∈ lastStep m x, p.1 = spotOf p.2 := by
  have hput : ∀ p ∈ putL m (spotOf x) x, p.1 = spotOf p.2 := by
    intro p hp
    unfold putL at hp
    split at hp
    · obtain ⟨q, hq, e⟩ := List.mem_map.1 hp
      split at e
      · rw [← e]
      · rw [← e]; exact h q hq
    · rcases List.mem_append.1 hp with hp | hp
      · exact h p hp
      · rw [List.mem_singleton.1 hp]
  unfold lastStep
  split
  · exact hput
  · split
    · exact hput
    · exact h
theorem lastStep_nodup {m : List (Spot × Fc)} (h : (m.map (·.1)).Nodup) (x : Fc) : ((lastStep m x).map (·.1)).Nodup := by
  unfold lastStep
  split
  · exact putL_nodup h _ _
  · split
    · exact putL_nodup h _ _
    · exact h
theorem lastM_inv (xs : List Fc) : (∀ p ∈ lastM xs, p.1 = spotOf p.2) ∧ ((lastM xs).map (·.1)).Nodup := by
  suffices h : ∀ m : List (Spot × Fc), (∀ p ∈ m, p.1 = spotOf p.2) → (m.map (·.1)).Nodup → (∀ p ∈ xs.foldl lastStep m, p.1 = spotOf p.2) ∧ ((xs.foldl lastStep m).map (·.1)).Nodup from h [] (by simp) (by simp)
  induction xs with
  | nil => intro m h1 h2; exact ⟨h1, h2⟩
  | cons x xs ih => intro m h1 h2; exact ih _ (lastStep_spot h1 x) (lastStep_nodup h2 x)

theorem lastL_spots (xs : List Fc) : ((lastL xs).map spotOf).Nodup := by
  have h := lastM_inv xs
  have : (lastL xs).map spotOf = (lastM xs).map (·.1) := by
    rw [List.map_map]
    exact List.map_congr_left (fun p hp => (h.1 p hp).symm)
  rw [this]
  exact h.2

theorem nodup_inj {xs : List Fc} (h : (xs.map spotOf).Nodup) : ∀ x ∈ xs, ∀ y ∈ xs, spotOf x = spotOf y → x = y := by
  induction xs with
  | nil => intro x hx; simp at hx
  | cons a xs ih =>
    obtain ⟨h1, h2⟩ := List.nodup_cons.1 (List.map_cons ▸ h : (spotOf a :: xs.map spotOf).Nodup)
    intro x hx y hy e
    rcases List.mem_cons.1 hx with hxa | hxa
    · rcases List.mem_cons.1 hy with hya | hya
      · rw [hxa, hya]
      · exact absurd (List.mem_map.2 ⟨y, hya, by rw [← e, hxa]⟩) h1
    · rcases List.mem_cons.1 hy with hya | hya
      · exact absurd (List.mem_map.2 ⟨x, hxa, by rw [e, hya]⟩) h1
      · exact ih h2 x hxa y hya e

/-- Two sorted lists of the same last facts are one. -/
theorem view_one {ys zs ls : List Fc} (h1 : ys.Perm ls) (h2 : zs.Perm ls) (s1 : ys.Pairwise (fun x y => ¬ LtF y x)) (s2 : zs.Pairwise (fun x y => ¬ LtF y x)) (hd : (ls.map spotOf).Nodup) : ys = zs :=
  sorted_eq (h1.trans h2.symm) s1 s2 (fun x hx y hy e => nodup_inj hd x (h1.mem_iff.1 hx) y (h1.mem_iff.1 hy) e)

/-- The elements of a row of facts that was just laid. -/
theorem facts_of_blk {w : World} {b : Nat} {xs : List Fc} {cs : Array Value} (h : w.heap[b]? = some (.cells cs 50 (0, 0))) (hc : cs.toList = xs.flatMap fc) : Facts w (some ⟨b, 0, none⟩) xs := by
  refine ⟨fun i hi => ⟨b, 0, rfl, lt_of_blk h, fun j c hj => ?_⟩⟩
  have hjs : j < 6 := by
    rcases Nat.lt_or_ge j 6 with h' | h'
    · exact h'
    · rw [List.getElem?_eq_none (by rw [fc_len]; exact h')] at hj; simp at hj
  have h1 := flatMap_get fc_len xs i j hi hjs
  rw [cell_of_blk h, Nat.zero_add, ← Array.getElem?_toList, hc, h1]
  exact hj
theorem links_of_blk {w : World} {b : Nat} {xs : List Lk} {cs : Array Value} (h : w.heap[b]? = some (.cells cs 52 (0, 0))) (hc : cs.toList = xs.flatMap lc) : Links w (some ⟨b, 0, none⟩) xs := by
  refine ⟨fun i hi => ⟨b, 0, rfl, lt_of_blk h, fun j c hj => ?_⟩⟩
  have hl : ∀ x : Lk, (lc x).length = 2 := fun _ => rfl
  have hjs : j < 2 := by
    rcases Nat.lt_or_ge j 2 with h' | h'
    · exact h'
    · rw [List.getElem?_eq_none (by rw [hl]; exact h')] at hj; simp at hj
  have h1 := flatMap_get hl xs i j hi hjs
  rw [cell_of_blk h, Nat.zero_add, ← Array.getElem?_toList, hc, h1]
  exact hj
end Go.Proofs.YtenocakpipppiaaGreatDoor
