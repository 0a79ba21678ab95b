/- Who sees a fact, by views and by what Keep keeps: where no facts are alike. No condition. -/
import Derived.Test.YticcccciefaemaaDoorQG
import Derived.Test.YticcccciefaemaaDoorLm
namespace Go.Proofs.YticcccciefaemaaDoor
open Go.RowKit Go.Shelf Go.Herb

/-- No two facts of one key, time and commit. -/
def NoAlike (xs : List Fc) : Prop := ∀ i k (hk : k < i) (hi : i < xs.length), ¬ (xs[i].key.toList = (xs[k]'(by omega)).key.toList ∧ xs[i].valid = (xs[k]'(by omega)).valid ∧ xs[i].seq = (xs[k]'(by omega)).seq)
theorem NoAlike.eq {xs : List Fc} (h : NoAlike xs) {i k : Nat} (hi : i < xs.length) (hk : k < xs.length) (hs : spotOf xs[i] = spotOf xs[k]) (hq : xs[i].seq = xs[k].seq) : i = k := by
  injection hs with h1 h2
  rcases Nat.lt_trichotomy i k with h3 | h3 | h3
  · exact absurd ⟨by rw [h1], h2.symm, hq.symm⟩ (h k i h3 hk)
  · exact h3
  · exact absurd ⟨by rw [h1], h2, hq⟩ (h i k h3 hi)
theorem NoAlike.mem {xs : List Fc} (h : NoAlike xs) {x y : Fc} (hx : x ∈ xs) (hy : y ∈ xs) (hs : spotOf x = spotOf y) (hq : x.seq = y.seq) : x = y := by
  obtain ⟨i, hi, rfl⟩ := List.getElem_of_mem hx
  obtain ⟨k, hk, rfl⟩ := List.getElem_of_mem hy
  have := h.eq hi hk hs hq
  subst this
  rfl
theorem NoAlike.ne {xs : List Fc} (h : NoAlike xs) {i k : Nat} (hi : i < xs.length) (hk : k < xs.length) (hne : i ≠ k) : xs[i] ≠ xs[k] := fun e => hne (h.eq hi hk (by rw [e]) (by rw [e]))
theorem NoAlike.first {xs : List Fc} (h : NoAlike xs) (i : Nat) (hi : i < xs.length) : firstI xs i = true := by
  unfold firstI
  rw [List.all_eq_true]
  intro j hj
  rw [List.mem_range] at hj
  rw [List.getElem?_eq_getElem hi, List.getElem?_eq_getElem (show j < xs.length by omega)]
  simp only [Option.any_some, Bool.not_eq_true', Bool.and_eq_false_iff, decide_eq_false_iff_not]
  by_cases hs : spotOf (xs[j]'(by omega)) = spotOf xs[i]
  · refine .inr ?_
    unfold sameSL
    rw [Bool.and_eq_false_iff]
    refine .inl (decide_eq_false (fun hq => ?_))
    have := h.eq (show j < xs.length by omega) hi hs hq
    omega
  · exact .inl hs

theorem lastL_iff {zs : List Fc} (hd : ∀ a ∈ zs, ∀ b ∈ zs, spotOf a = spotOf b → a.seq = b.seq → a = b) (y : Fc) : y ∈ lastL zs ↔ y ∈ zs ∧ ∀ z ∈ zs, spotOf z = spotOf y → z.seq ≤ y.seq := by
  constructor
  · exact lastL_sub
  · rintro ⟨h1, h2⟩
    obtain ⟨u, hu, hs, hq⟩ := lastL_has h1
    obtain ⟨h3, h4⟩ := lastL_sub hu
    have h5 := h2 u h3 hs
    rw [hd y h1 u h3 hs.symm (by omega)]
    exact hu

/-- Is a fact seen along a chain, whenever? -/
def seenU (m : List (Int × Int)) (x : Fc) : Bool := match getL m x.line with | some u => decide (x.seq ≤ u) | none => false
theorem seenI_at (xs : List Fc) (m : List (Int × Int)) (i : Nat) (hi : i < xs.length) : seenI xs m i = seenU m xs[i] := by
  unfold seenI seenU
  rw [List.getElem?_eq_getElem hi]
  rfl
theorem seenB_iff (m : List (Int × Int)) (at_ : Int) (x : Fc) : seenB m at_ x = true ↔ seenU m x = true ∧ x.seq ≤ at_ := by
  unfold seenB seenU
  cases getL m x.line with
  | none => simp
  | some u => simp

/-- A watch's views have a fact, at its commit, or at the fact's own. -/
def SeesP (xs : List Fc) (x : Wt) (f : Fc) : Prop := f ∈ lastL (seenL xs x.cs x.at_) ∨ (x.on = true ∧ x.at_ < f.seq ∧ f ∈ lastL (seenL xs x.cs f.seq))

theorem view_iff {xs : List Fc} (hN : NoAlike xs) (cs : List Lk) (at_ : Int) (f : Fc) (hf : f ∈ xs) : f ∈ lastL (seenL xs cs at_) ↔ seenU (uptoM (backs cs cs.length)) f = true ∧ f.seq ≤ at_ ∧ ∀ y ∈ xs, seenU (uptoM (backs cs cs.length)) y = true → spotOf y = spotOf f → y.seq ≤ at_ → y.seq ≤ f.seq := by
  rw [lastL_iff (fun a ha b hb hs hq => hN.mem (List.mem_filter.1 ha).1 (List.mem_filter.1 hb).1 hs hq), List.mem_filter, seenB_iff]
  constructor
  · rintro ⟨⟨_, h1, h2⟩, h3⟩
    exact ⟨h1, h2, fun y hy hs hsp hq => h3 y (List.mem_filter.2 ⟨hy, (seenB_iff _ _ _).2 ⟨hs, hq⟩⟩) hsp⟩
  · rintro ⟨h1, h2, h3⟩
    exact ⟨⟨hf, h1, h2⟩, fun y hy hsp => by
      obtain ⟨hy1, hy2⟩ := List.mem_filter.1 hy
      obtain ⟨hs, hq⟩ := (seenB_iff _ _ _).1 hy2
      exact h3 y hy1 hs hsp hq⟩

theorem mem_row {xs : List Fc} (hN : NoAlike xs) (s : Spot) (m : List (Int × Int)) (i : Nat) : i ∈ (rowP xs xs.length s).filter (seenI xs m) ↔ ∃ h : i < xs.length, spotOf xs[i] = s ∧ seenU m xs[i] = true := by
  rw [List.mem_filter, mem_rowP]
  constructor
  · rintro ⟨⟨h1, h2, _⟩, h3⟩
    refine ⟨h1, ?_, ?_⟩
    · unfold atSpot at h2
      rw [List.getElem?_eq_getElem h1] at h2
      exact of_decide_eq_true h2
    · rw [← seenI_at xs m i h1]; exact h3
  · rintro ⟨h1, h2, h3⟩
    refine ⟨⟨h1, ?_, hN.first i h1⟩, by rw [seenI_at xs m i h1]; exact h3⟩
    unfold atSpot
    rw [List.getElem?_eq_getElem h1]
    exact decide_eq_true h2

/-- What a watch looks at is what its views have. -/
theorem looks_sees {xs : List Fc} (hN : NoAlike xs) (x : Wt) (i : Nat) (hi : i < xs.length) : (∃ s, LooksAt xs s x i) ↔ SeesP xs x xs[i] := by
  have hmem := List.getElem_mem hi
  obtain ⟨m, hm⟩ : ∃ m, m = uptoM (backs x.cs x.cs.length) := ⟨_, rfl⟩
  have hv := fun at_ => view_iff hN x.cs at_ xs[i] hmem
  unfold SeesP
  rw [hv, hv, ← hm]
  unfold LooksAt LookB
  rw [← hm]
  have hsq : ∀ j (hj : j < xs.length), sqF xs j = xs[j].seq := sqF_at xs
  constructor
  · rintro ⟨s, h1, _, h3, h4⟩
    obtain ⟨_, hs, hu⟩ := (mem_row hN s m i).1 h1
    subst hs
    rw [hsq i hi] at h3 h4
    have h5 : ∀ y ∈ xs, seenU m y = true → spotOf y = spotOf xs[i] → xs[i].seq < y.seq → x.at_ < y.seq := by
      intro y hy hyu hys hlt
      obtain ⟨j, hj, rfl⟩ := List.getElem_of_mem hy
      have := h4 j ((mem_row hN _ m j).2 ⟨hj, hys, hyu⟩)
      rw [hsq j hj] at this
      exact this hlt
    by_cases hle : xs[i].seq ≤ x.at_
    · refine .inl ⟨hu, hle, fun y hy hyu hys hyq => ?_⟩
      rcases Int.lt_or_le xs[i].seq y.seq with h | h
      · have := h5 y hy hyu hys h; omega
      · exact h
    · have hon : x.on = true := by
        rcases h3 with h | h
        · exact h
        · exact absurd h hle
      exact .inr ⟨hon, by omega, hu, Int.le_refl _, fun y hy hyu hys hyq => hyq⟩
  · intro h
    have hu : seenU m xs[i] = true := by
      rcases h with h | h
      · exact h.1
      · exact h.2.2.1
    refine ⟨spotOf xs[i], (mem_row hN _ m i).2 ⟨hi, rfl, hu⟩, ?_, ?_, ?_⟩
    · intro j hj hq
      obtain ⟨hjl, hjs, _⟩ := (mem_row hN _ m j).1 hj
      rw [hsq j hjl, hsq i hi] at hq
      have := hN.eq hjl hi hjs hq
      omega
    · rw [hsq i hi]
      rcases h with h | h
      · exact .inr h.2.1
      · exact .inl h.1
    · intro j hj hlt
      obtain ⟨hjl, hjs, hju⟩ := (mem_row hN _ m j).1 hj
      rw [hsq i hi, hsq j hjl] at hlt
      rw [hsq j hjl]
      rcases h with h | h
      · rcases Int.lt_or_le x.at_ xs[j].seq with h6 | h6
        · exact h6
        · have := h.2.2 xs[j] (List.getElem_mem hjl) hju hjs h6
          omega
      · have := h.2.1; omega
theorem kept_sees {xs : List Fc} (hN : NoAlike xs) (ws : List Wt) (i : Nat) (hi : i < xs.length) : KeptP xs ws i ↔ ∃ x ∈ ws, SeesP xs x xs[i] := by
  unfold KeptP
  constructor
  · rintro ⟨s, x, hx, hl⟩
    exact ⟨x, hx, (looks_sees hN x i hi).1 ⟨s, hl⟩⟩
  · rintro ⟨x, hx, hs⟩
    obtain ⟨s, hl⟩ := (looks_sees hN x i hi).2 hs
    exact ⟨s, x, hx, hl⟩

/-- Where the next kept fact stands. -/
theorem kept_next {xs : List Fc} (hN : NoAlike xs) (f : Nat → Bool) (i : Nat) (hi : i < xs.length) :
    (f i = true → (keptL xs f xs.length)[(keptL xs f i).length]? = some xs[i]) ∧ (f i = false → (keptL xs f xs.length)[(keptL xs f i).length]? ≠ some xs[i]) := by
  obtain ⟨r, hr⟩ : ∃ r, xs.length = i + 1 + r := ⟨xs.length - (i + 1), by omega⟩
  have hsplit : keptL xs f xs.length = keptL xs f i ++ ((if f i then [xs[i]] else []) ++ ((List.range r).map (fun j => i + 1 + j)).filterMap (fun j => if f j then xs[j]? else none)) := by
    rw [← List.append_assoc, ← keptL_succ xs f i hi]
    unfold keptL
    rw [← List.filterMap_append]
    congr 1
    rw [hr, List.range_add]
  rw [hsplit, List.getElem?_append_right (Nat.le_refl _), Nat.sub_self]
  constructor
  · intro h; rw [h]; rfl
  · intro h
    rw [h]
    simp only [Bool.false_eq_true, if_false, List.nil_append]
    intro he
    have hm := List.mem_of_getElem? he
    rw [List.mem_filterMap] at hm
    obtain ⟨j, hj, hx⟩ := hm
    obtain ⟨k, _, rfl⟩ := List.mem_map.1 hj
    split at hx
    · obtain ⟨hl, e⟩ := List.getElem?_eq_some_iff.1 hx
      exact hN.ne hl hi (by omega) e
    · cases hx
end Go.Proofs.YticcccciefaemaaDoor
