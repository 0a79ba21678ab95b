/- What views.History's answer is, beside views.Of's: plain facts. No condition. -/
import Derived.Test.YtenocakpipppiaaGreatDoorH5
import Derived.Test.YtenocakpipppiaaGreatDoorV8
import Derived.OpenShut
namespace Go.Herb
section
variable {α β : Type} [DecidableEq α]

theorem getL_filter (p : α → Bool) (m : List (α × β)) (a : α) (ha : p a = true) : getL (m.filter (fun q => p q.1)) a = getL m a := by
  unfold getL
  rw [List.find?_filter]
  congr 1
  congr 1
  funext q
  by_cases h : q.1 = a
  · simp [h, ha]
  · simp [h]

omit [DecidableEq α] in
theorem keys_filter (p : α → Bool) (m : List (α × β)) (a : α) (ha : p a = true) : a ∈ (m.filter (fun q => p q.1)).map (·.1) ↔ a ∈ m.map (·.1) := by
  simp only [List.mem_map, List.mem_filter]
  constructor
  · rintro ⟨q, ⟨h1, _⟩, h2⟩
    exact ⟨q, h1, h2⟩
  · rintro ⟨q, h1, h2⟩
    exact ⟨q, ⟨h1, by rw [h2]; exact ha⟩, h2⟩

theorem putL_filter_in (p : α → Bool) (m : List (α × β)) (a : α) (b : β) (ha : p a = true) : (putL m a b).filter (fun q => p q.1) = putL (m.filter (fun q => p q.1)) a b := by
  unfold putL
  by_cases h : a ∈ m.map (·.1)
  · rw [if_pos h, if_pos ((keys_filter p m a ha).2 h), List.filter_map]
    congr 1
    apply List.filter_congr
    intro q _
    show p (if q.1 = a then (a, b) else q).1 = p q.1
    split
    · rename_i e; rw [e]
    · rfl
  · rw [if_neg h, if_neg (fun h2 => h ((keys_filter p m a ha).1 h2)), List.filter_append]
    congr 1
    simp [ha]

theorem putL_filter_out (p : α → Bool) (m : List (α × β)) (a : α) (b : β) (ha : p a = false) : (putL m a b).filter (fun q => p q.1) = m.filter (fun q => p q.1) := by
  unfold putL
  by_cases h : a ∈ m.map (·.1)
  · rw [if_pos h, List.filter_map]
    have h1 : m.filter ((fun q => p q.1) ∘ fun q => if q.1 = a then (a, b) else q) = m.filter (fun q => p q.1) := by
      apply List.filter_congr
      intro q _
      show p (if q.1 = a then (a, b) else q).1 = p q.1
      split
      · rename_i e; rw [e]
      · rfl
    rw [h1]
    conv => rhs; rw [← List.map_id (m.filter (fun q => p q.1))]
    apply List.map_congr_left
    intro q hq
    have hp := (List.mem_filter.1 hq).2
    have hne : ¬ q.1 = a := fun e => by rw [e, ha] at hp; cases hp
    simp [hne]
  · rw [if_neg h, List.filter_append]
    simp [ha]
end
end Go.Herb

namespace Go.Proofs.YtenocakpipppiaaGreatDoor
open Go.RowKit Go.Shelf Go.Herb

theorem lastStep_filter (k : ByteArray) (m : List (Spot × Fc)) (x : Fc) : (lastStep m x).filter (fun q => decide (q.1.1.toList = k.toList)) = if x.key.toList = k.toList then lastStep (m.filter (fun q => decide (q.1.1.toList = k.toList))) x else m.filter (fun q => decide (q.1.1.toList = k.toList)) := by
  have hf := fun b => putL_filter_in (β := Fc) (fun s : Spot => decide (s.1.toList = k.toList)) m (spotOf x) b
  have ho := fun b => putL_filter_out (β := Fc) (fun s : Spot => decide (s.1.toList = k.toList)) m (spotOf x) b
  by_cases hk : x.key.toList = k.toList
  · rw [if_pos hk]
    unfold lastStep
    have hg := getL_filter (β := Fc) (fun s : Spot => decide (s.1.toList = k.toList)) m (spotOf x) (by simpa using hk)
    rw [hg]
    cases getL m (spotOf x) with
    | none => exact hf x (by simpa using hk)
    | some y =>
      simp only
      split
      · exact hf x (by simpa using hk)
      · rfl
  · rw [if_neg hk]
    unfold lastStep
    cases getL m (spotOf x) with
    | none => exact ho x (by simpa using hk)
    | some y =>
      simp only
      split
      · exact ho x (by simpa using hk)
      · rfl

/-- The last ones of one key. -/
theorem lastM_filter (k : ByteArray) (xs : List Fc) : lastM (xs.filter (fun x => decide (x.key.toList = k.toList))) = (lastM xs).filter (fun q => decide (q.1.1.toList = k.toList)) := by
  suffices h : ∀ m : List (Spot × Fc), (xs.filter (fun x => decide (x.key.toList = k.toList))).foldl lastStep (m.filter (fun q => decide (q.1.1.toList = k.toList))) = (xs.foldl lastStep m).filter (fun q => decide (q.1.1.toList = k.toList)) from h []
  induction xs with
  | nil => intro m; rfl
  | cons x xs ih =>
    intro m
    rw [List.foldl_cons, ← ih, lastStep_filter]
    by_cases hk : x.key.toList = k.toList
    · rw [if_pos hk, List.filter_cons_of_pos (by simpa using hk), List.foldl_cons]
    · rw [if_neg hk, List.filter_cons_of_neg (by simpa using hk)]

theorem lastL_filter (k : ByteArray) (xs : List Fc) : lastL (xs.filter (fun x => decide (x.key.toList = k.toList))) = (lastL xs).filter (fun x => decide (x.key.toList = k.toList)) := by
  unfold lastL
  rw [lastM_filter, List.filter_map]
  congr 1
  apply List.filter_congr
  intro q hq
  have := (lastM_inv xs).1 q hq
  show decide (q.1.1.toList = k.toList) = decide (q.2.key.toList = k.toList)
  rw [this]

theorem seq_le_max (x : Fc) : x.seq ≤ 18446744073709551615 := (bounds_u64 x.ws).2

/-- The old ones are those that views.Of sees. -/
theorem oldF_seen (key : ByteArray) (at_ : Int) (xs : List Fc) (cs : List Lk) : oldF key at_ (seenL xs cs 18446744073709551615) = (seenL xs cs at_).filter (fun x => decide (x.key.toList = key.toList)) := by
  unfold oldF
  rw [List.filter_filter, List.filter_filter]
  apply List.filter_congr
  intro x _
  have h := seq_le_max x
  unfold seenB
  cases getL (uptoM (backs cs cs.length)) x.line with
  | none => simp
  | some u =>
    simp only [h, decide_true, Bool.and_true]
    cases decide (x.key.toList = key.toList) <;> cases decide (x.seq ≤ at_) <;> cases decide (x.seq ≤ u) <;> rfl

theorem lastM_in (xs : List Fc) : ∀ p ∈ lastM xs, p.2 ∈ xs := by
  suffices h : ∀ (ws : List Fc) (m : List (Spot × Fc)), (∀ p ∈ m, p.2 ∈ xs) → (∀ x ∈ ws, x ∈ xs) → ∀ p ∈ ws.foldl lastStep m, p.2 ∈ xs from h xs [] (by simp) (fun _ h => h)
  intro ws
  induction ws with
  | nil => intro m h _; exact h
  | cons x ws ih =>
    intro m h hw
    rw [List.foldl_cons]
    apply ih _ _ (fun y hy => hw y (List.mem_cons_of_mem _ hy))
    have hp : ∀ p ∈ putL m (spotOf x) x, p.2 ∈ xs := by
      intro p hp
      unfold putL at hp
      split at hp
      · obtain ⟨q, hq, rfl⟩ := List.mem_map.1 hp
        split
        · exact hw x (by simp)
        · exact h q hq
      · rcases List.mem_append.1 hp with hp | hp
        · exact h p hp
        · rw [List.mem_singleton.1 hp]
          exact hw x (by simp)
    intro p hpp
    unfold lastStep at hpp
    split at hpp
    · exact hp p hpp
    · split at hpp
      · exact hp p hpp
      · exact h p hpp

theorem lastL_in {xs : List Fc} {x : Fc} (h : x ∈ lastL xs) : x ∈ xs := by
  obtain ⟨p, hp, rfl⟩ := List.mem_map.1 h
  exact lastM_in xs p hp

abbrev prOf (x : Fc) : Tq := (x.valid, x.seq)
theorem newF_inv (key : ByteArray) (at_ : Int) (zs : List Fc) : (∀ x ∈ (newF key at_ zs).1, x.key.toList = key.toList ∧ at_ < x.seq) ∧ ((newF key at_ zs).1.map prOf).Nodup := by
  suffices h : ∀ p : List Fc × List (Tq × Int), (∀ x ∈ p.1, (x.key.toList = key.toList ∧ at_ < x.seq) ∧ getL p.2 (prOf x) ≠ none) → (p.1.map prOf).Nodup →
      (∀ x ∈ (zs.foldl (newStep key at_) p).1, (x.key.toList = key.toList ∧ at_ < x.seq) ∧ getL (zs.foldl (newStep key at_) p).2 (prOf x) ≠ none) ∧ ((zs.foldl (newStep key at_) p).1.map prOf).Nodup by
    have := h ([], []) (by simp) (by simp)
    exact ⟨fun x hx => (this.1 x hx).1, this.2⟩
  induction zs with
  | nil => intro p h1 h2; exact ⟨h1, h2⟩
  | cons x zs ih =>
    intro p h1 h2
    rw [List.foldl_cons]
    apply ih
    · intro y hy
      unfold newStep at hy ⊢
      split at hy
      · rename_i hc
        rw [if_pos hc]
        rcases List.mem_append.1 hy with hy | hy
        · refine ⟨(h1 y hy).1, ?_⟩
          show getL (putL p.2 (prOf x) 1) (prOf y) ≠ none
          by_cases e : prOf y = prOf x
          · rw [e, getL_put_same]; simp
          · rw [getL_put_other _ _ _ e]; exact (h1 y hy).2
        · rw [List.mem_singleton.1 hy]
          refine ⟨⟨hc.1, hc.2.1⟩, ?_⟩
          show getL (putL p.2 (prOf x) 1) (prOf x) ≠ none
          rw [getL_put_same]; simp
      · rename_i hc
        rw [if_neg hc]
        exact h1 y hy
    · unfold newStep
      split
      · rename_i hc
        show ((p.1 ++ [x]).map prOf).Nodup
        rw [List.map_append, List.nodup_append]
        refine ⟨h2, by simp, ?_⟩
        intro a ha b hb e
        simp at hb
        subst hb
        obtain ⟨y, hy, rfl⟩ := List.mem_map.1 ha
        exact (h1 y hy).2 (by rw [e]; exact hc.2.2)
      · exact h2

theorem oldF_mem {key : ByteArray} {at_ : Int} {zs : List Fc} {x : Fc} (h : x ∈ oldF key at_ zs) : x.key.toList = key.toList ∧ x.seq ≤ at_ := by
  have := (List.mem_filter.1 h).2
  simpa using this

section
variable {key : ByteArray} {at_ : Int} {xs : List Fc} {cs : List Lk} {ys vs : List Fc}
abbrev seenA (xs : List Fc) (cs : List Lk) : List Fc := seenL xs cs 18446744073709551615

theorem hist_pairs (hp : ys.Perm ((newF key at_ (seenA xs cs)).1 ++ lastL (oldF key at_ (seenA xs cs)))) : (∀ x ∈ ys, x.key.toList = key.toList) ∧ (ys.map prOf).Nodup := by
  obtain ⟨n1, n2⟩ := newF_inv key at_ (seenA xs cs)
  constructor
  · intro x hx
    rcases List.mem_append.1 (hp.mem_iff.1 hx) with h | h
    · exact (n1 x h).1
    · exact (oldF_mem (lastL_in h)).1
  · refine (hp.map prOf).nodup_iff.2 ?_
    rw [List.map_append, List.nodup_append]
    refine ⟨n2, ?_, ?_⟩
    · have h1 := lastL_spots (oldF key at_ (seenA xs cs))
      unfold List.Nodup at h1 ⊢
      rw [List.pairwise_map] at h1 ⊢
      refine List.Pairwise.imp_of_mem ?_ h1
      intro a b ha hb hne e
      apply hne
      have k1 := (oldF_mem (lastL_in ha)).1
      have k2 := (oldF_mem (lastL_in hb)).1
      exact Prod.ext (bytes_ext (k1.trans k2.symm)) (congrArg Prod.fst e)
    · intro a ha b hb e
      obtain ⟨x, hx, rfl⟩ := List.mem_map.1 ha
      obtain ⟨y, hy, rfl⟩ := List.mem_map.1 hb
      have h1 := (n1 x hx).2
      have h2 := (oldF_mem (lastL_in hy)).2
      have h3 : x.seq = y.seq := congrArg Prod.snd e
      omega

/-- Two neighbours: the time falls, or it's the same and the place falls. -/
theorem hist_falls (hp : ys.Perm ((newF key at_ (seenA xs cs)).1 ++ lastL (oldF key at_ (seenA xs cs)))) (hs : ys.Pairwise (fun x y => ¬ LtF y x)) : ys.Pairwise (fun x y => ¬ (x.valid < y.valid) ∧ ¬ (x.valid = y.valid ∧ x.seq ≤ y.seq)) := by
  obtain ⟨h1, h2⟩ := hist_pairs hp
  unfold List.Nodup at h2
  rw [List.pairwise_map] at h2
  refine List.Pairwise.imp_of_mem ?_ (hs.and h2)
  intro a b ha hb hab
  have hk : b.key.toList = a.key.toList := (h1 b hb).trans (h1 a ha).symm
  have hne : ¬ (a.valid = b.valid ∧ a.seq = b.seq) := fun e => hab.2 (Prod.ext e.1 e.2)
  have hnl := hab.1
  unfold LtF at hnl
  refine ⟨fun h => hnl (.inr ⟨hk, .inl h⟩), fun h => ?_⟩
  have hlt : a.seq < b.seq := by
    have := h.2
    have : a.seq ≠ b.seq := fun e => hne ⟨h.1, e⟩
    omega
  exact hnl (.inr ⟨hk, .inr ⟨h.1, .inl hlt⟩⟩)

/-- As many old ones as views.Of has of the key. -/
theorem hist_count (hp : ys.Perm ((newF key at_ (seenA xs cs)).1 ++ lastL (oldF key at_ (seenA xs cs)))) (hv : vs.Perm (lastL (seenL xs cs at_))) : ys.countP (fun x => decide (x.seq ≤ at_)) = vs.countP (fun x => decide (x.key.toList = key.toList)) := by
  rw [hp.countP_eq, hv.countP_eq, List.countP_append]
  have h0 : (newF key at_ (seenA xs cs)).1.countP (fun x => decide (x.seq ≤ at_)) = 0 := by
    rw [List.countP_eq_zero]
    intro x hx
    have := ((newF_inv key at_ (seenA xs cs)).1 x hx).2
    simp
    omega
  have h1 : (lastL (oldF key at_ (seenA xs cs))).countP (fun x => decide (x.seq ≤ at_)) = (lastL (oldF key at_ (seenA xs cs))).length := by
    rw [List.countP_eq_length]
    intro x hx
    simpa using (oldF_mem (lastL_in hx)).2
  rw [h0, h1, oldF_seen, lastL_filter, List.countP_eq_length_filter]
  omega

theorem hist_has (hp : ys.Perm ((newF key at_ (seenA xs cs)).1 ++ lastL (oldF key at_ (seenA xs cs)))) (hv : vs.Perm (lastL (seenL xs cs at_))) (x : Fc) (hx : x ∈ vs) (hk : x.key.toList = key.toList) : x ∈ ys := by
  refine hp.mem_iff.2 (List.mem_append.2 (.inr ?_))
  rw [oldF_seen, lastL_filter]
  exact List.mem_filter.2 ⟨hv.mem_iff.1 hx, by simpa using hk⟩
end
end Go.Proofs.YtenocakpipppiaaGreatDoor
