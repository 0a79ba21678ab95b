/- What Keep keeps is what the reference keeps, whatever facts are alike. No condition. -/
import Derived.Test.YticcccciefaemaaDoorQT
import Derived.Test.YticcccciefaemaaDoorQL
namespace Go.Proofs.YticcccciefaemaaDoor
open Go.RowKit Go.Shelf Go.Herb

/-- One of that key, time, commit and line. -/
def InL (f : Fc) (l : List Fc) : Prop := ∃ y ∈ l, spotOf y = spotOf f ∧ y.seq = f.seq ∧ y.line = f.line
def RefSees (xs : List Fc) (x : Wt) (f : Fc) : Prop := InL f (lastL (seenL xs x.cs x.at_)) ∨ (x.on = true ∧ x.at_ < f.seq ∧ InL f (lastL (seenL xs x.cs f.seq)))

theorem firstI_iff (xs : List Fc) (i : Nat) (hi : i < xs.length) : firstI xs i = true ↔ ∀ j (hj : j < i), ¬ (spotOf (xs[j]'(by omega)) = spotOf xs[i] ∧ (xs[j]'(by omega)).seq = xs[i].seq ∧ (xs[j]'(by omega)).line = xs[i].line) := by
  unfold firstI
  rw [List.all_eq_true]
  constructor
  · intro h j hj ⟨h1, h2, h3⟩
    have := h j (List.mem_range.2 hj)
    rw [List.getElem?_eq_getElem hi, List.getElem?_eq_getElem (show j < xs.length by omega)] at this
    simp only [Option.any_some, sameSL, h2, h3, decide_true, Bool.and_true, Bool.not_eq_true', decide_eq_false_iff_not] at this
    exact this h1
  · intro h j hj
    have hj := List.mem_range.1 hj
    have := h j hj
    rw [List.getElem?_eq_getElem hi, List.getElem?_eq_getElem (show j < xs.length by omega)]
    simp only [Option.any_some, Bool.not_eq_true', sameSL, Bool.and_eq_false_iff, decide_eq_false_iff_not]
    by_cases h1 : spotOf (xs[j]'(by omega)) = spotOf xs[i]
    · by_cases h2 : (xs[j]'(by omega)).seq = xs[i].seq
      · exact .inr (.inr (fun h3 => this ⟨h1, h2, h3⟩))
      · exact .inr (.inl h2)
    · exact .inl h1

/-- Each has a first one of its kind. -/
theorem has_first (xs : List Fc) : ∀ n j, j ≤ n → (hj : j < xs.length) → ∃ k, ∃ hk : k < xs.length, k ≤ j ∧ firstI xs k = true ∧ spotOf xs[k] = spotOf xs[j] ∧ xs[k].seq = xs[j].seq ∧ xs[k].line = xs[j].line := by
  intro n
  induction n with
  | zero =>
    intro j hn hj
    exact ⟨j, hj, Nat.le_refl _, (firstI_iff xs j hj).2 (fun q hq => by omega), rfl, rfl, rfl⟩
  | succ n ih =>
    intro j hn hj
    by_cases h : firstI xs j = true
    · exact ⟨j, hj, Nat.le_refl _, h, rfl, rfl, rfl⟩
    · have hex : ∃ q, ∃ hq : q < j, spotOf (xs[q]'(by omega)) = spotOf xs[j] ∧ (xs[q]'(by omega)).seq = xs[j].seq ∧ (xs[q]'(by omega)).line = xs[j].line := by
        refine Classical.byContradiction fun hne => h ((firstI_iff xs j hj).2 fun q hq hh => hne ⟨q, hq, hh⟩)
      obtain ⟨q, hq, h1, h2, h3⟩ := hex
      obtain ⟨k, hk, k1, k2, k3, k4, k5⟩ := ih q (by omega) (by omega)
      exact ⟨k, hk, by omega, k2, k3.trans h1, k4.trans h2, k5.trans h3⟩

theorem mem_mine (xs : List Fc) (s : Spot) (m : List (Int × Int)) (i : Nat) : i ∈ (rowP xs xs.length s).filter (seenI xs m) ↔ ∃ h : i < xs.length, spotOf xs[i] = s ∧ firstI xs i = true ∧ seenU m xs[i] = true := by
  rw [List.mem_filter, mem_rowP]
  constructor
  · rintro ⟨⟨h1, h2, h4⟩, h3⟩
    refine ⟨h1, ?_, h4, ?_⟩
    · unfold atSpot at h2
      rw [List.getElem?_eq_getElem h1] at h2
      exact of_decide_eq_true h2
    · rw [← seenI_at xs m i h1]; exact h3
  · rintro ⟨h1, h2, h4, h3⟩
    refine ⟨⟨h1, ?_, h4⟩, by rw [seenI_at xs m i h1]; exact h3⟩
    unfold atSpot
    rw [List.getElem?_eq_getElem h1]
    exact decide_eq_true h2

theorem seenU_same {m : List (Int × Int)} {x y : Fc} (h1 : x.seq = y.seq) (h2 : x.line = y.line) : seenU m x = seenU m y := by
  unfold seenU
  rw [h1, h2]

theorem in_view (xs : List Fc) (cs : List Lk) (at_ : Int) (i : Nat) (hi : i < xs.length) (hf : firstI xs i = true) :
    InL xs[i] (lastL (seenL xs cs at_)) ↔ seenU (uptoM (backs cs cs.length)) xs[i] = true ∧ xs[i].seq ≤ at_ ∧ (∀ j (hj : j < xs.length), spotOf xs[j] = spotOf xs[i] → firstI xs j = true → seenU (uptoM (backs cs cs.length)) xs[j] = true → (xs[j].seq = xs[i].seq → i ≤ j) ∧ (xs[i].seq < xs[j].seq → at_ < xs[j].seq)) := by
  obtain ⟨m, hm⟩ : ∃ m, m = uptoM (backs cs cs.length) := ⟨_, rfl⟩
  have hseen : ∀ z, z ∈ seenL xs cs at_ ↔ z ∈ xs ∧ seenU m z = true ∧ z.seq ≤ at_ := fun z => by
    rw [hm]
    show z ∈ xs.filter _ ↔ _
    rw [List.mem_filter, seenB_iff]
  rw [← hm]
  constructor
  · rintro ⟨y, hy, h1, h2, h3⟩
    obtain ⟨hy1, hmax⟩ := lastL_sub hy
    obtain ⟨hyx, hyu, hyq⟩ := (hseen y).1 hy1
    refine ⟨by rw [← seenU_same h2 h3]; exact hyu, by omega, fun j hj hs hfj hu => ⟨fun he => ?_, fun hlt => ?_⟩⟩
    · rcases Nat.lt_or_ge j i with hji | hji
      · exfalso
        obtain ⟨pre, post, e, hpre, _⟩ := mem_lastL_first.1 hy
        have e' : xs.filter (seenB (uptoM (backs cs cs.length)) at_) = pre ++ y :: post := e
        obtain ⟨l1, l2, hxs, hl1, hl2⟩ := List.filter_eq_append_iff.1 e'
        obtain ⟨k1, k2, hl2', hk1, _, _⟩ := List.filter_eq_cons_iff.1 hl2
        have hpos : xs = (l1 ++ k1) ++ y :: k2 := by rw [hxs, hl2', List.append_assoc]
        have hle : i ≤ (l1 ++ k1).length := by
          rcases Nat.lt_or_ge (l1 ++ k1).length i with h | h
          · exfalso
            refine (firstI_iff xs i hi).1 hf _ h ?_
            have hg : xs[(l1 ++ k1).length]'(by omega) = y := by
              simp only [hpos]
              rw [List.getElem_append_right (Nat.le_refl _)]
              simp
            rw [hg]
            exact ⟨h1, h2, h3⟩
          · exact h
        have hjl : j < (l1 ++ k1).length := by omega
        have hxj : xs[j] ∈ l1 ++ k1 := by
          have : xs[j] = (l1 ++ k1)[j] := by
            simp only [hpos]
            rw [List.getElem_append_left hjl]
          rw [this]
          exact List.getElem_mem _
        have hb : seenB (uptoM (backs cs cs.length)) at_ xs[j] = true := by rw [← hm]; exact (seenB_iff _ _ _).2 ⟨hu, by omega⟩
        rcases List.mem_append.1 hxj with h | h
        · have hp : xs[j] ∈ pre := by rw [← hl1]; exact List.mem_filter.2 ⟨h, hb⟩
          have := hpre _ hp (by rw [hs, h1])
          omega
        · exact absurd hb (hk1 _ h)
      · exact hji
    · rcases Int.lt_or_le at_ xs[j].seq with h | h
      · exact h
      · have := hmax xs[j] ((hseen _).2 ⟨List.getElem_mem _, hu, h⟩) (by rw [hs, h1])
        omega
  · rintro ⟨h1, h2, h3⟩
    refine ⟨xs[i], ?_, rfl, rfl, rfl⟩
    refine mem_lastL_first.2 ⟨(xs.take i).filter (seenB m at_), (xs.drop (i + 1)).filter (seenB m at_), ?_, ?_, ?_⟩
    · show xs.filter _ = _
      rw [← hm]
      have hb : seenB m at_ xs[i] = true := (seenB_iff _ _ _).2 ⟨h1, h2⟩
      have hsp : xs = xs.take i ++ xs[i] :: xs.drop (i + 1) := by rw [← List.drop_eq_getElem_cons hi, List.take_append_drop]
      conv => lhs; rw [hsp]
      rw [List.filter_append, List.filter_cons_of_pos hb]
    · intro z hz hs
      obtain ⟨hz1, hz2⟩ := List.mem_filter.1 hz
      obtain ⟨hu, hq⟩ := (seenB_iff _ _ _).1 hz2
      obtain ⟨j, hj, rfl⟩ := List.getElem_of_mem hz1
      rw [List.getElem_take] at *
      rw [List.length_take] at hj
      have hjl : j < xs.length := by omega
      obtain ⟨k, hk, k1, k2, k3, k4, k5⟩ := has_first xs j j (Nat.le_refl _) hjl
      obtain ⟨q1, q2⟩ := h3 k hk (k3.trans hs) k2 (by rw [seenU_same k4 k5]; exact hu)
      rcases Int.lt_or_le xs[j].seq xs[i].seq with h | h
      · exact h
      · rcases Int.lt_or_eq_of_le h with h | h
        · have := q2 (by omega); omega
        · have := q1 (by omega); omega
    · intro z hz hs
      obtain ⟨hz1, hz2⟩ := List.mem_filter.1 hz
      obtain ⟨hu, hq⟩ := (seenB_iff _ _ _).1 hz2
      have hzx : z ∈ xs := List.mem_of_mem_drop hz1
      obtain ⟨j, hjl, rfl⟩ := List.getElem_of_mem hzx
      obtain ⟨k, hk, k1, k2, k3, k4, k5⟩ := has_first xs j j (Nat.le_refl _) hjl
      obtain ⟨q1, q2⟩ := h3 k hk (k3.trans hs) k2 (by rw [seenU_same k4 k5]; exact hu)
      rcases Int.lt_or_le xs[i].seq xs[j].seq with h | h
      · have := q2 (by omega); omega
      · exact h

theorem looks_ref (xs : List Fc) (x : Wt) (i : Nat) (hi : i < xs.length) : (∃ s, LooksAt xs s x i) ↔ firstI xs i = true ∧ RefSees xs x xs[i] := by
  have hsq : ∀ j, (hj : j < xs.length) → sqF xs j = xs[j].seq := sqF_at xs
  obtain ⟨m, hm⟩ : ∃ m, m = uptoM (backs x.cs x.cs.length) := ⟨_, rfl⟩
  have hv := fun at_ hf => in_view xs x.cs at_ i hi hf
  unfold LooksAt LookB RefSees
  rw [← hm] at hv ⊢
  constructor
  · rintro ⟨s, hmem, htie, hon, hlt⟩
    obtain ⟨_, hs, hf, hu⟩ := (mem_mine xs s m i).1 hmem
    have hin : ∀ j (hj : j < xs.length), spotOf xs[j] = spotOf xs[i] → firstI xs j = true → seenU m xs[j] = true → j ∈ (rowP xs xs.length s).filter (seenI xs m) := fun j hj h1 h2 h3 => (mem_mine xs s m j).2 ⟨hj, h1.trans hs, h2, h3⟩
    refine ⟨hf, ?_⟩
    rcases Int.lt_or_le x.at_ xs[i].seq with h | h
    · refine .inr ⟨?_, h, (hv _ hf).2 ⟨hu, Int.le_refl _, fun j hj h1 h2 h3 => ⟨fun e => htie j (hin j hj h1 h2 h3) (by rw [hsq j hj, hsq i hi]; exact e), fun h => h⟩⟩⟩
      rcases hon with h1 | h1
      · exact h1
      · rw [hsq i hi] at h1; omega
    · refine .inl ((hv _ hf).2 ⟨hu, h, fun j hj h1 h2 h3 => ⟨fun e => htie j (hin j hj h1 h2 h3) (by rw [hsq j hj, hsq i hi]; exact e), fun h => ?_⟩⟩)
      have := hlt j (hin j hj h1 h2 h3) (by rw [hsq j hj, hsq i hi]; exact h)
      rw [hsq j hj] at this
      exact this
  · rintro ⟨hf, h | ⟨h1, h2, h3⟩⟩
    · obtain ⟨hu, hle, hall⟩ := (hv _ hf).1 h
      refine ⟨spotOf xs[i], (mem_mine xs _ m i).2 ⟨hi, rfl, hf, hu⟩, fun y hy e => ?_, .inr (by rw [hsq i hi]; exact hle), fun y hy hl => ?_⟩
      · obtain ⟨hyl, k1, k2, k3⟩ := (mem_mine xs _ m y).1 hy
        rw [hsq y hyl, hsq i hi] at e
        exact (hall y hyl k1 k2 k3).1 e
      · obtain ⟨hyl, k1, k2, k3⟩ := (mem_mine xs _ m y).1 hy
        rw [hsq y hyl, hsq i hi] at *
        exact (hall y hyl k1 k2 k3).2 hl
    · obtain ⟨hu, hle, hall⟩ := (hv _ hf).1 h3
      refine ⟨spotOf xs[i], (mem_mine xs _ m i).2 ⟨hi, rfl, hf, hu⟩, fun y hy e => ?_, .inl h1, fun y hy hl => ?_⟩
      · obtain ⟨hyl, k1, k2, k3⟩ := (mem_mine xs _ m y).1 hy
        rw [hsq y hyl, hsq i hi] at e
        exact (hall y hyl k1 k2 k3).1 e
      · obtain ⟨hyl, k1, k2, k3⟩ := (mem_mine xs _ m y).1 hy
        rw [hsq y hyl] at *
        rw [hsq i hi] at hl
        omega

/-- What is kept is what the reference keeps. -/
theorem kept_ref (xs : List Fc) (ws : List Wt) (i : Nat) (hi : i < xs.length) : KeptP xs ws i ↔ firstI xs i = true ∧ ∃ x ∈ ws, RefSees xs x xs[i] := by
  unfold KeptP
  constructor
  · rintro ⟨s, x, hx, hl⟩
    obtain ⟨h1, h2⟩ := (looks_ref xs x i hi).1 ⟨s, hl⟩
    exact ⟨h1, x, hx, h2⟩
  · rintro ⟨hf, x, hx, hs⟩
    obtain ⟨s, hl⟩ := (looks_ref xs x i hi).2 ⟨hf, hs⟩
    exact ⟨s, x, hx, hl⟩
end Go.Proofs.YticcccciefaemaaDoor
