/- Lines as a plain list: chains; what a fork and a prune leave of them. No condition. · lines.byID; slices.BinarySearchFunc at lines. Condition: fewer than 1000000 lines, sorted. · lines.parts.line. Condition: fewer than 1000000 lines, sorted. · lines.parts.formed. Condition: the list's cells lie. -/
import Derived.Test.YtchcelodeepjdaaGreatDoorRow
import Derived.Test.YtchcelodeepjdaaGreatDoorMp
import Derived.Test.YtchcelodeepjdaaGreatDoorRd
import Derived.Test.YtchcelodeepjdaaGreatDoorProg
import Derived.Outline
import Derived.Deep.DeepCutAuto
import Derived.Deep.RegionHeld3
namespace Go.Herb

abbrev Ln := Int × Int
def parL (l : List Ln) (k : Int) : Option Int := (l.find? (fun p => decide (p.1 = k))).map (·.2)
def SrtL (l : List Ln) : Prop := l.Pairwise (fun p q => p.1 < q.1)
structure FormedL (l : List Ln) : Prop where
  first : l[0]? = some (0, 0)
  srt : SrtL l
  par : ∀ (i : Nat) (x : Ln), 0 < i → l[i]? = some x → ∃ j y, j < i ∧ l[j]? = some y ∧ y.1 = x.2
theorem parL_at {l : List Ln} (h : SrtL l) {i : Nat} {x : Ln} (hx : l[i]? = some x) : parL l x.1 = some x.2 := by
  induction l generalizing i with
  | nil => simp at hx
  | cons a l ih =>
    unfold parL
    obtain ⟨h1, h2⟩ := List.pairwise_cons.1 h
    rw [List.find?_cons]
    cases i with
    | zero =>
      simp at hx
      subst hx
      simp
    | succ i =>
      simp at hx
      have hm := h1 x (List.mem_of_getElem? hx)
      have hne : decide (a.1 = x.1) = false := decide_eq_false (by omega)
      rw [hne]
      exact ih h2 hx
theorem parL_some {l : List Ln} {k p : Int} (h : parL l k = some p) : ∃ i : Nat, l[i]? = some (k, p) := by
  unfold parL at h
  obtain ⟨x, h1, h2⟩ := Option.map_eq_some_iff.1 h
  have h3 := List.find?_some h1
  simp at h3
  obtain ⟨i, hi, he⟩ := List.getElem_of_mem (List.mem_of_find?_eq_some h1)
  refine ⟨i, ?_⟩
  rw [List.getElem?_eq_getElem hi, he, ← h3, ← h2]
/-- A line's chain, as many steps of it. -/
def chainF (l : List Ln) : Nat → Int → Int → List (Int × Int)
  | 0, _, _ => []
  | n + 1, line, ahead => match parL l line with
    | none => []
    | some p => (line, ahead) :: if line = 0 then [] else chainF l n p line
theorem chainF_succ (l : List Ln) (n : Nat) (line a : Int) : chainF l (n + 1) line a = match parL l line with
    | none => []
    | some p => (line, a) :: if line = 0 then [] else chainF l n p line := rfl
/-- Two links that stand side by side. -/
def Side (l : List Ln) : List (Int × Int) → Prop
  | a :: b :: c => ((a.1, b.1) ∈ l ∧ b.2 = a.1 ∧ b.1 < a.1) ∧ Side l (b :: c)
  | _ => True
theorem chain_law {l : List Ln} (h : FormedL l) : ∀ (n i : Nat) (x : Ln) (ahead : Int), l[i]? = some x → i < n →
    ∃ c, chainF l n x.1 ahead = (x.1, ahead) :: c ∧ (((x.1, ahead) :: c).getLast?.map (·.1)) = some 0 ∧ Side l ((x.1, ahead) :: c)
  | 0, _, _, _, _, hi => by omega
  | n + 1, i, x, ahead, hx, hi => by
    unfold chainF
    rw [parL_at h.srt hx]
    by_cases h0 : x.1 = 0
    · exact ⟨[], by simp [h0], by simp [h0], trivial⟩
    · have hi0 : 0 < i := by
        rcases Nat.eq_zero_or_pos i with h1 | h1
        · subst h1
          rw [h.first] at hx
          injection hx with hx
          exact absurd (by rw [← hx]) h0
        · exact h1
      obtain ⟨j, y, hj, hy, hp⟩ := h.par i x hi0 hx
      obtain ⟨c, hc, hl, hs⟩ := chain_law h n j y x.1 hy (by omega)
      refine ⟨(y.1, x.1) :: c, ?_, ?_, ?_⟩
      · simp only [if_neg h0]
        rw [← hp, hc]
      · rw [List.getLast?_cons_cons]
        exact hl
      · refine ⟨⟨?_, rfl, ?_⟩, hs⟩
        · show (x.1, y.1) ∈ l
          rw [hp]
          exact List.mem_of_getElem? hx
        · obtain ⟨h1, e1⟩ := List.getElem?_eq_some_iff.1 hx
          obtain ⟨h2, e2⟩ := List.getElem?_eq_some_iff.1 hy
          have := List.pairwise_iff_getElem.1 h.srt j i h2 h1 hj
          rw [e1, e2] at this
          exact this
/-- As many steps as there are lines ahead are enough. -/
theorem chain_fuel {l : List Ln} (h : FormedL l) : ∀ (n m i : Nat) (x : Ln) (ahead : Int), l[i]? = some x → i < n → i < m → chainF l n x.1 ahead = chainF l m x.1 ahead
  | 0, _, _, _, _, _, hi, _ => by omega
  | _ + 1, 0, _, _, _, _, _, hi => by omega
  | n + 1, m + 1, i, x, ahead, hx, hi, hm => by
    unfold chainF
    rw [parL_at h.srt hx]
    by_cases h0 : x.1 = 0
    · simp [h0]
    · have hi0 : 0 < i := by
        rcases Nat.eq_zero_or_pos i with h1 | h1
        · subst h1
          rw [h.first] at hx
          injection hx with hx
          exact absurd (by rw [← hx]) h0
        · exact h1
      obtain ⟨j, y, hj, hy, hp⟩ := h.par i x hi0 hx
      have ih := chain_fuel h n m j y x.1 hy (by omega) (by omega)
      simp only [if_neg h0]
      rw [← hp, ih]
/-- Where a line's chain is kept, it is the same. -/
theorem chain_keep {l l' : List Ln} (hs : ∀ k p, parL l' k = some p → parL l k = some p) : ∀ (n : Nat) (line ahead : Int), (∀ x ∈ chainF l n line ahead, ∃ p, parL l' x.1 = some p) → chainF l' n line ahead = chainF l n line ahead
  | 0, _, _, _ => rfl
  | n + 1, line, ahead, hk => by
    unfold chainF at hk ⊢
    cases hg : parL l line with
    | none =>
      rw [hg] at hk
      cases hg' : parL l' line with
      | none => rfl
      | some p => rw [hs _ _ hg'] at hg; cases hg
    | some p =>
      rw [hg] at hk
      obtain ⟨p', hp'⟩ := hk (line, ahead) (by simp)
      have : p' = p := by
        have := hs _ _ hp'
        rw [hg] at this
        injection this with this
        exact this.symm
      subst this
      simp only at hp'
      rw [hp']
      by_cases h0 : line = 0
      · simp [h0]
      · simp only [if_neg h0] at hk ⊢
        rw [chain_keep hs n p' line (fun x hx => hk x (List.mem_cons_of_mem _ hx))]
/-- A line more at the end. -/
theorem FormedL.snoc {l : List Ln} (h : FormedL l) {id par : Int} (hid : ∀ x ∈ l, x.1 < id) (hp : ∃ p, parL l par = some p) : FormedL (l ++ [(id, par)]) := by
  have hl : 0 < l.length := by
    have := h.first
    obtain ⟨h1, _⟩ := List.getElem?_eq_some_iff.1 this
    exact h1
  refine ⟨by rw [List.getElem?_append_left hl]; exact h.first, ?_, fun i x hi hx => ?_⟩
  · unfold SrtL
    rw [List.pairwise_append]
    exact ⟨h.srt, List.pairwise_singleton _ _, fun a ha b hb => by rw [List.mem_singleton.1 hb]; exact hid a ha⟩
  · by_cases hlt : i < l.length
    · rw [List.getElem?_append_left hlt] at hx
      obtain ⟨j, y, hj, hy, he⟩ := h.par i x hi hx
      exact ⟨j, y, hj, by rw [List.getElem?_append_left (by omega)]; exact hy, he⟩
    · rw [List.getElem?_append_right (by omega)] at hx
      have hi2 : i = l.length := by
        rcases Nat.lt_or_ge l.length i with h1 | h1
        · rw [List.getElem?_eq_none (by simp; omega)] at hx; cases hx
        · omega
      subst hi2
      simp at hx
      subst hx
      obtain ⟨p, hp⟩ := hp
      obtain ⟨j, hj⟩ := parL_some hp
      obtain ⟨h1, _⟩ := List.getElem?_eq_some_iff.1 hj
      exact ⟨j, (par, p), h1, by rw [List.getElem?_append_left h1]; exact hj, rfl⟩
theorem parL_snoc {l : List Ln} {id par k p : Int} (hg : parL l k = some p) : parL (l ++ [(id, par)]) k = some p := by
  unfold parL at hg ⊢
  rw [List.find?_append]
  obtain ⟨x, h1, h2⟩ := Option.map_eq_some_iff.1 hg
  rw [h1]
  simp [h2]
theorem chain_closed {l : List Ln} (h : FormedL l) : ∀ (n i : Nat) (x : Ln) (ahead : Int), l[i]? = some x → i < n →
    (∀ y ∈ chainF l n x.1 ahead, ∃ p, parL l y.1 = some p ∧ (y.1 ≠ 0 → ∃ z ∈ chainF l n x.1 ahead, z.1 = p)) ∧ (∃ z ∈ chainF l n x.1 ahead, z.1 = 0)
  | 0, _, _, _, _, hi => by omega
  | n + 1, i, x, ahead, hx, hi => by
    have hg := parL_at h.srt hx
    unfold chainF
    rw [hg]
    by_cases h0 : x.1 = 0
    · simp only [if_pos h0]
      exact ⟨fun y hy => by rw [List.mem_singleton.1 hy]; exact ⟨x.2, hg, fun hne => absurd h0 hne⟩, (x.1, ahead), by simp, h0⟩
    · have hi0 : 0 < i := by
        rcases Nat.eq_zero_or_pos i with h1 | h1
        · subst h1
          rw [h.first] at hx
          injection hx with hx
          exact absurd (by rw [← hx]) h0
        · exact h1
      obtain ⟨j, y, hj, hy, hp⟩ := h.par i x hi0 hx
      obtain ⟨ih1, z, hz, hz0⟩ := chain_closed h n j y x.1 hy (by omega)
      obtain ⟨c, hc, -, -⟩ := chain_law h n j y x.1 hy (by omega)
      simp only [if_neg h0]
      rw [← hp]
      refine ⟨fun u hu => ?_, z, List.mem_cons_of_mem _ hz, hz0⟩
      rcases List.mem_cons.1 hu with rfl | hu
      · exact ⟨x.2, hg, fun _ => ⟨(y.1, x.1), List.mem_cons_of_mem _ (by rw [hc]; simp), hp⟩⟩
      · obtain ⟨p, h1, h2⟩ := ih1 u hu
        exact ⟨p, h1, fun hne => by obtain ⟨v, hv, e⟩ := h2 hne; exact ⟨v, List.mem_cons_of_mem _ hv, e⟩⟩
/-- The lines of all chains of some. -/
def keepL (l : List Ln) (fr : List Int) : List Int := fr.flatMap (fun id => (chainF l l.length id 0).map (·.1))
def prunedL (l : List Ln) (fr : List Int) : List Ln := l.filter (fun x => decide (x.1 ∈ keepL l fr))
theorem chainF_ahead (l : List Ln) : ∀ (n : Nat) (line a b : Int), (chainF l n line a).map (·.1) = (chainF l n line b).map (·.1)
  | 0, _, _, _ => rfl
  | n + 1, line, a, b => by
    unfold chainF
    cases parL l line with
    | none => rfl
    | some p => by_cases h0 : line = 0 <;> simp [h0]
theorem prunedL_get {l : List Ln} (h : FormedL l) {fr : List Int} {k : Int} (hk : k ∈ keepL l fr) {p : Int} (hg : parL l k = some p) : parL (prunedL l fr) k = some p := by
  obtain ⟨i, hi⟩ := parL_some hg
  have hm : (k, p) ∈ prunedL l fr := List.mem_filter.2 ⟨List.mem_of_getElem? hi, by simpa using hk⟩
  obtain ⟨j, hj, he⟩ := List.getElem_of_mem hm
  have hs : SrtL (prunedL l fr) := List.Pairwise.filter _ h.srt
  have := parL_at hs (i := j) (x := (k, p)) (by rw [List.getElem?_eq_getElem hj, he])
  exact this
theorem pruned_sub {l : List Ln} (h : FormedL l) {fr : List Int} (k p : Int) (hg : parL (prunedL l fr) k = some p) : parL l k = some p := by
  obtain ⟨i, hi⟩ := parL_some hg
  have hm := List.mem_of_getElem? hi
  unfold prunedL at hm
  obtain ⟨j, hj, he⟩ := List.getElem_of_mem (List.mem_filter.1 hm).1
  exact parL_at h.srt (i := j) (x := (k, p)) (by rw [List.getElem?_eq_getElem hj, he])
theorem keepL_closed {l : List Ln} (h : FormedL l) {fr : List Int} (hf : ∀ id ∈ fr, ∃ p, parL l id = some p) {k : Int} (hk : k ∈ keepL l fr) : ∃ p, parL l k = some p ∧ (k ≠ 0 → p ∈ keepL l fr) := by
  unfold keepL at hk ⊢
  obtain ⟨id, hid, hk⟩ := List.mem_flatMap.1 hk
  obtain ⟨y, hy, rfl⟩ := List.mem_map.1 hk
  obtain ⟨p, hp⟩ := hf id hid
  obtain ⟨i, hi⟩ := parL_some hp
  obtain ⟨hl, _⟩ := List.getElem?_eq_some_iff.1 hi
  obtain ⟨h1, -⟩ := chain_closed h l.length i (id, p) 0 hi hl
  obtain ⟨q, h2, h3⟩ := h1 y hy
  refine ⟨q, h2, fun hne => ?_⟩
  obtain ⟨z, hz, e⟩ := h3 hne
  exact List.mem_flatMap.2 ⟨id, hid, List.mem_map.2 ⟨z, hz, e⟩⟩
theorem keepL_zero {l : List Ln} (h : FormedL l) {fr : List Int} (hf : ∀ id ∈ fr, ∃ p, parL l id = some p) (hne : fr ≠ []) : (0 : Int) ∈ keepL l fr := by
  obtain ⟨id, hid⟩ := List.exists_mem_of_ne_nil fr hne
  obtain ⟨p, hp⟩ := hf id hid
  obtain ⟨i, hi⟩ := parL_some hp
  obtain ⟨hl, _⟩ := List.getElem?_eq_some_iff.1 hi
  obtain ⟨-, z, hz, e⟩ := chain_closed h l.length i (id, p) 0 hi hl
  exact List.mem_flatMap.2 ⟨id, hid, List.mem_map.2 ⟨z, hz, e⟩⟩
theorem pruned_formed {l : List Ln} (h : FormedL l) {fr : List Int} (hf : ∀ id ∈ fr, ∃ p, parL l id = some p) (hne : fr ≠ []) : FormedL (prunedL l fr) := by
  have hs : SrtL (prunedL l fr) := List.Pairwise.filter _ h.srt
  have hz := keepL_zero h hf hne
  obtain ⟨t, ht⟩ : ∃ t, l = (0, 0) :: t := by
    have h1 := h.first
    cases l with
    | nil => simp at h1
    | cons a t => simp at h1; exact ⟨t, by rw [h1]⟩
  have hfirst : (prunedL l fr)[0]? = some (0, 0) := by
    have hh : ∀ K : List Int, (0 : Int) ∈ K → ((((0, 0) : Ln) :: t).filter (fun x => decide (x.1 ∈ K)))[0]? = some (0, 0) := fun K hK => by
      rw [List.filter_cons, if_pos (by simpa using hK)]; rfl
    unfold prunedL
    generalize keepL l fr = K at hz
    rw [ht]
    exact hh K hz
  refine ⟨hfirst, hs, fun i x hi hx => ?_⟩
  have hm := List.mem_filter.1 (List.mem_of_getElem? hx)
  have hk : x.1 ∈ keepL l fr := by simpa using hm.2
  obtain ⟨h0, _⟩ := List.getElem?_eq_some_iff.1 hfirst
  obtain ⟨hi1, he1⟩ := List.getElem?_eq_some_iff.1 hx
  have hx0 : x.1 ≠ 0 := by
    have := List.pairwise_iff_getElem.1 hs 0 i h0 hi1 hi
    rw [he1, (List.getElem?_eq_some_iff.1 hfirst).2] at this
    have : (0 : Int) < x.1 := this
    omega
  obtain ⟨p, hp1, hp2⟩ := keepL_closed h hf hk
  obtain ⟨a, ha, hae⟩ := List.getElem_of_mem hm.1
  have hxp : parL l x.1 = some x.2 := parL_at h.srt (i := a) (by rw [List.getElem?_eq_getElem ha, hae])
  rw [hp1] at hxp
  injection hxp with hxp
  have hpk := hp2 hx0
  obtain ⟨q, hq, -⟩ := keepL_closed h hf hpk
  obtain ⟨j, hj⟩ := parL_some (prunedL_get h hpk hq)
  obtain ⟨hj1, hje⟩ := List.getElem?_eq_some_iff.1 hj
  refine ⟨j, (p, q), ?_, hj, hxp⟩
  rcases Nat.lt_or_ge j i with hlt | hge
  · exact hlt
  · exfalso
    have hpar : p < x.1 := by
      have ha0 : 0 < a := by
        rcases Nat.eq_zero_or_pos a with h1 | h1
        · subst h1
          have h9 := h.first
          rw [List.getElem?_eq_getElem ha, hae] at h9
          injection h9 with h9
          exact absurd (by rw [h9]) hx0
        · exact h1
      obtain ⟨b, y, hb, hy, hyp⟩ := h.par a x ha0 (by rw [List.getElem?_eq_getElem ha, hae])
      obtain ⟨hb1, hbe⟩ := List.getElem?_eq_some_iff.1 hy
      have := List.pairwise_iff_getElem.1 h.srt b a hb1 ha hb
      rw [hbe, hae] at this
      omega
    rcases Nat.lt_or_eq_of_le hge with h1 | h1
    · have := List.pairwise_iff_getElem.1 hs i j hi1 hj1 h1
      rw [he1, hje] at this
      have : x.1 < p := this
      omega
    · subst h1
      rw [he1] at hje
      rw [hje] at hpar
      exact absurd hpar (by show ¬ p < p; omega)
theorem prune_chain {l : List Ln} (h : FormedL l) {fr : List Int} (hf : ∀ id ∈ fr, ∃ p, parL l id = some p) {id : Int} (hid : id ∈ fr) (a : Int) : chainF (prunedL l fr) (prunedL l fr).length id a = chainF l l.length id a := by
  have hne : fr ≠ [] := fun e => by rw [e] at hid; simp at hid
  have hpf := pruned_formed h hf hne
  have hin : ∀ x ∈ chainF l l.length id a, x.1 ∈ keepL l fr := fun x hx => by
    refine List.mem_flatMap.2 ⟨id, hid, ?_⟩
    rw [chainF_ahead l l.length id 0 a]
    exact List.mem_map.2 ⟨x, hx, rfl⟩
  have hk : ∀ x ∈ chainF l l.length id a, ∃ p, parL (prunedL l fr) x.1 = some p := fun x hx => by
    obtain ⟨p, hp, -⟩ := keepL_closed h hf (hin x hx)
    exact ⟨p, prunedL_get h (hin x hx) hp⟩
  have h1 := chain_keep (pruned_sub h) l.length id a hk
  rw [← h1]
  obtain ⟨p, hp⟩ := hf id hid
  obtain ⟨i, hi⟩ := parL_some hp
  obtain ⟨hil, _⟩ := List.getElem?_eq_some_iff.1 hi
  obtain ⟨c, hc, -, -⟩ := chain_law h l.length i (id, p) a hi hil
  have hidk : id ∈ keepL l fr := hin (id, a) (by rw [show id = ((id, p) : Ln).1 from rfl, hc]; simp)
  obtain ⟨j, hj⟩ := parL_some (prunedL_get h hidk hp)
  obtain ⟨hjl, _⟩ := List.getElem?_eq_some_iff.1 hj
  have hle : (prunedL l fr).length ≤ l.length := List.length_filter_le _ _
  exact chain_fuel hpf _ _ j (id, p) a hj hjl (by omega)
/-- A line at the end: its chain goes off the other one's. -/
theorem fork_chain {l : List Ln} (h : FormedL l) {id par : Int} (hid : ∀ x ∈ l, x.1 < id) (h0 : 0 < id) {p : Int} (hp : parL l par = some p) (a : Int) :
    chainF (l ++ [(id, par)]) (l ++ [(id, par)]).length id a = (id, a) :: chainF l l.length par id := by
  have hs := h.snoc hid ⟨p, hp⟩
  rw [List.length_append, List.length_singleton]
  rw [chainF_succ]
  have hg : parL (l ++ [(id, par)]) id = some par := parL_at hs.srt (i := l.length) (x := (id, par)) (by rw [List.getElem?_append_right (Nat.le_refl _)]; simp)
  rw [hg]
  simp only [if_neg (show ¬ id = 0 by omega)]
  congr 1
  refine (chain_keep (l := l ++ [(id, par)]) (l' := l) (fun k q hq => parL_snoc hq) l.length par id (fun x hx => ?_)).symm
  obtain ⟨i, hi⟩ := parL_some hp
  obtain ⟨hil, _⟩ := List.getElem?_eq_some_iff.1 hi
  obtain ⟨h1, -⟩ := chain_closed hs l.length i (par, p) id (by rw [List.getElem?_append_left hil]; exact hi) hil
  obtain ⟨q, hq, -⟩ := h1 x hx
  obtain ⟨j, hj⟩ := parL_some hq
  by_cases hjl : j < l.length
  · rw [List.getElem?_append_left hjl] at hj
    exact ⟨q, parL_at h.srt hj⟩
  · exfalso
    rw [List.getElem?_append_right (by omega)] at hj
    have hxe : x.1 = id := by
      obtain ⟨h5, h6⟩ := List.getElem?_eq_some_iff.1 hj
      have h7 : j - l.length = 0 := by simp at h5; omega
      simp [h7] at h6
      exact h6.1.symm
    -- a chain of an old line holds old lines alone
    have hlow : ∀ (n i : Nat) (y : Ln) (b : Int), (l ++ [(id, par)])[i]? = some y → i < n → i < l.length → ∀ u ∈ chainF (l ++ [(id, par)]) n y.1 b, u.1 < id := by
      intro n
      induction n with
      | zero => intro i y b _ hi; omega
      | succ n ih =>
        intro i y b hy hin hi u hu
        have hyl : y ∈ l := by rw [List.getElem?_append_left hi] at hy; exact List.mem_of_getElem? hy
        unfold chainF at hu
        rw [parL_at hs.srt hy] at hu
        by_cases hy0 : y.1 = 0
        · simp only [if_pos hy0] at hu
          rw [List.mem_singleton.1 hu]
          exact hid y hyl
        · simp only [if_neg hy0] at hu
          rcases List.mem_cons.1 hu with rfl | hu
          · exact hid y hyl
          · have hi0 : 0 < i := by
              rcases Nat.eq_zero_or_pos i with h1 | h1
              · subst h1
                rw [hs.first] at hy
                injection hy with hy
                exact absurd (by rw [← hy]) hy0
              · exact h1
            obtain ⟨j, z, hj, hz, hzp⟩ := hs.par i y hi0 hy
            rw [← hzp] at hu
            exact ih j z y.1 hz (by omega) (by omega) u hu
    have := hlow l.length i (par, p) id (by rw [List.getElem?_append_left hil]; exact hi) hil hil x hx
    omega
end Go.Herb

namespace Go.Proofs.YtchcelodeepjdaaGreatDoor.Ln
open Go.RowKit Go.Herb

def lnc (x : Ln) : List Value := [.int .u64 x.1, .int .u64 x.2]
theorem lnc_len (x : Ln) : (lnc x).length = 2 := rfl
abbrev Lns (w : World) (a : Option Addr) (xs : List Ln) : Prop := Els lnc 2 w a xs
def cmpI (a b : Int) : Int := if a < b then -1 else if b < a then 1 else 0
theorem isNaN_u (a : Int) (w : World) : Calls Tryz.prog (112) #[.int .u64 a] w fun e w' => e = .returned (.bool false) ∧ w = w' := by
  go_enter Tryz.func112, Tryz.ntmps112
  go_wp2
  go_ret
  exact ⟨by simp, rfl⟩
theorem cmp_64 (a b : Int) (w : World) : Calls Tryz.prog (94) #[.int .u64 a, .int .u64 b] w fun e w' => e = .returned (.int .i64 (cmpI a b)) ∧ w = w' := by
  go_enter Tryz.func94, Tryz.ntmps94
  go_wp2_with (go_at_call 112; refine (isNaN_u _ _).mono ?_; rintro e w' ⟨rfl, rfl⟩)
  all_goals
    go_ret
    refine ⟨?_, rfl⟩
    unfold cmpI
    first | (rw [if_pos (by omega)]; rfl) | (rw [if_neg (by omega), if_pos (by omega)]; rfl) | (rw [if_neg (by omega), if_neg (by omega)]; rfl)
theorem byID_any (x : Ln) (k : Int) (w : World) : Calls Tryz.prog (115) #[.agg #[.int .u64 x.1, .int .u64 x.2], .int .u64 k] w fun e w' => e = .returned (.int .i64 (cmpI x.1 k)) ∧ Below w.heap.size w w' := by
  have HB := Lib.hid (show Below w.heap.size w (w.alloc (.cells #[.int .u64 x.1, .int .u64 x.2] (53))) from (Below.refl _ _).alloc (Nat.le_refl _) _)
  go_enter Tryz.func115, Tryz.ntmps115
  go_wp2_with (go_at_call 94; refine (cmp_64 _ _ _).mono ?_; rintro e w' ⟨rfl, rfl⟩)
  go_ret
  exact ⟨rfl, HB.out⟩
theorem lnc_srt {xs : List Ln} (h : SrtL xs) {i j : Nat} (hi : i ≤ j) {y x : Ln} (hy : xs[i]? = some y) (hx : xs[j]? = some x) : y.1 ≤ x.1 := by
  obtain ⟨h1, e1⟩ := List.getElem?_eq_some_iff.1 hy
  obtain ⟨h2, e2⟩ := List.getElem?_eq_some_iff.1 hx
  rcases Nat.lt_or_eq_of_le hi with hl | rfl
  · have := List.pairwise_iff_getElem.1 h i j h1 h2 hl
    rw [e1, e2] at this
    omega
  · rw [e1] at e2; rw [e2]; exact Int.le_refl _

def BsPost (xs : List Ln) (k : Int) (n : Nat) (w : World) (e : Ending) (w' : World) : Prop :=
  ∃ (i : Nat) (b : Bool), e = .returned (.tuple #[.int .i64 i, .bool b]) ∧ i ≤ n ∧ (∀ (j : Nat) (x : Ln), j < i → xs[j]? = some x → x.1 < k) ∧ (∀ (j : Nat) (x : Ln), i ≤ j → xs[j]? = some x → k ≤ x.1) ∧ (b = true ↔ ∃ p, xs[i]? = some (k, p)) ∧ Below w.heap.size w w'

set_option maxRecDepth 100000 in
set_option maxHeartbeats 1000000 in
theorem bsL_any (a : Option Addr) (cap n : Nat) (xs : List Ln) (k : Int) (w : World) (hE : Lns w a xs) (hn : xs.length = n) (hm : n < 1000000) (hs : SrtL xs) :
    Calls Tryz.prog (114) #[.slice a n cap, .int .u64 k, .func (.func (115)) #[] #[]] w (BsPost xs k n w) := by
  have HE := Lib.hid hE
  have HN := Lib.hid hn
  have HS := Lib.hid hs
  clear hE hn hs
  go_enter Tryz.func114, Tryz.ntmps114
  go_wp2_with fail
  go_loopg [9, 10] n (fun gk iv jv wr => ∃ i j : Nat, i + gk = j ∧ j ≤ n ∧ iv = .int .i64 i ∧ jv = .int .i64 j ∧ Hid (∀ (m : Nat) (x : Ln), m < i → xs[m]? = some x → x.1 < k) ∧ Hid (∀ (m : Nat) (x : Ln), j ≤ m → xs[m]? = some x → k ≤ x.1) ∧ Hid (Below w.heap.size w wr))
  case atStart => exact ⟨0, n, by omega, Nat.le_refl _, rfl, rfl, Lib.hid (fun m x h => by omega), Lib.hid (fun m x h hx => by obtain ⟨h1, _⟩ := List.getElem?_eq_some_iff.1 hx; have := HN.out; omega), Lib.hid (Below.refl _ _)⟩
  case round =>
    obtain ⟨i, j, hij, hjn, rfl, rfl, HLO, HHI, HB⟩ := hrel
    by_cases hlt : i < j
    · have h1 : (i : Int) < (j : Int) := by omega
      have hw1 : IntKind.i64.wrap ((i : Int) + (j : Int)) = (i : Int) + (j : Int) := IntWalk.i64_in _ (by omega)
      obtain ⟨h, hh⟩ : ∃ h : Nat, h = (i + j) / 2 := ⟨_, rfl⟩
      have hdiv : ((i : Int) + (j : Int)) / 2 = (h : Int) := by omega
      have hih : i ≤ h := by omega
      have hhj : h < j := by omega
      have hh0 : (0 : Int) ≤ (h : Int) := by omega
      have hh1 : (h : Int) < (n : Int) := by omega
      have hw2 : IntKind.i64.wrap ((h : Int) + 1) = (h : Int) + 1 := IntWalk.i64_in _ (by omega)
      have hhl : h < xs.length := by have := HN.out; omega
      obtain ⟨b, o, rfl, hlb, hcell⟩ := HE.out.get h hhl
      have x0 := (HB.out.cell (p := ⟨b, _, none⟩) hlb).trans (hcell 0 _ rfl)
      have x1 := (HB.out.cell (p := ⟨b, _, none⟩) hlb).trans (hcell 1 _ rfl)
      simp only [Nat.add_zero] at x0 x1
      have HX := Lib.hid (List.getElem?_eq_getElem hhl)
      generalize xs[h] = x at x0 x1 HX
      clear hcell hh
      by_cases hc : x.1 < k
      · have hcmp : cmpI x.1 k = -1 := by unfold cmpI; rw [if_pos hc]
        have HLO2 := Lib.hid (show ∀ (m : Nat) (y : Ln), m < h + 1 → xs[m]? = some y → y.1 < k from fun m y hm hy => by
          have := lnc_srt HS.out (show m ≤ h by omega) hy HX.out
          omega)
        have HBY := Lib.hid (fun u => byID_any x k u)
        rw [hcmp] at HBY
        clear hc hcmp
        go_wp2_with fail
        refine (HBY.out wr).mono ?_
        rintro e w1 ⟨rfl, hb1⟩
        have HB1 := Lib.hid (HB.out.trans (hb1.mono HB.out.size))
        clear hb1 x0 x1
        go_wp2_with fail
        go_roundg (j - (h + 1))
        case measure => omega
        case rel => exact ⟨h + 1, j, by omega, hjn, by go_num, rfl, HLO2, HHI, HB1⟩
      · have hcmp : ¬ cmpI x.1 k < 0 := by unfold cmpI; rw [if_neg hc]; split <;> omega
        have HHI2 := Lib.hid (show ∀ (m : Nat) (y : Ln), h ≤ m → xs[m]? = some y → k ≤ y.1 from fun m y hm hy => by
          have := lnc_srt HS.out hm HX.out hy
          omega)
        have HBY := Lib.hid (fun u => byID_any x k u)
        obtain ⟨cv, hcv⟩ : ∃ cv, cv = cmpI x.1 k := ⟨_, rfl⟩
        rw [← hcv] at HBY hcmp
        clear hc hcv
        go_wp2_with fail
        refine (HBY.out wr).mono ?_
        rintro e w1 ⟨rfl, hb1⟩
        have HB1 := Lib.hid (HB.out.trans (hb1.mono HB.out.size))
        clear hb1 x0 x1
        go_wp2_with fail
        go_roundg (h - i)
        case measure => omega
        case rel => exact ⟨i, h, by omega, by omega, rfl, by go_num, HLO, HHI2, HB1⟩
    · have hij2 : i = j := by omega
      subst hij2
      by_cases hin : i < n
      · have h0 : (0 : Int) ≤ (i : Int) := by omega
        have h1 : (i : Int) < (n : Int) := by omega
        have hhl : i < xs.length := by have := HN.out; omega
        obtain ⟨b, o, rfl, hlb, hcell⟩ := HE.out.get i hhl
        have x0 := (HB.out.cell (p := ⟨b, _, none⟩) hlb).trans (hcell 0 _ rfl)
        have x1 := (HB.out.cell (p := ⟨b, _, none⟩) hlb).trans (hcell 1 _ rfl)
        simp only [Nat.add_zero] at x0 x1
        have HX := Lib.hid (List.getElem?_eq_getElem hhl)
        generalize xs[i] = x at x0 x1 HX
        clear hcell
        have HBY := Lib.hid (fun u => byID_any x k u)
        obtain ⟨cv, hcv⟩ : ∃ cv, cv = cmpI x.1 k := ⟨_, rfl⟩
        rw [← hcv] at HBY
        have HBB := Lib.hid (show (decide (cv = 0) = true ↔ ∃ p, xs[i]? = some (k, p)) ∧ ((cv == 0) = decide (cv = 0)) from by
          refine ⟨?_, by by_cases h : cv = 0 <;> simp [h]⟩
          rw [decide_eq_true_eq, hcv, HX.out]
          unfold cmpI
          constructor
          · intro h
            refine ⟨x.2, ?_⟩
            have : x.1 = k := by
              by_cases g1 : x.1 < k
              · rw [if_pos g1] at h; cases h
              · rw [if_neg g1] at h
                by_cases g2 : k < x.1
                · rw [if_pos g2] at h; cases h
                · omega
            rw [← this]
          · rintro ⟨p, h⟩
            injection h with h
            rw [h]
            simp)
        have hbq := HBB.out.2
        clear hcv
        go_wp2_with fail
        refine (HBY.out wr).mono ?_
        rintro e w1 ⟨rfl, hb1⟩
        have HB1 := Lib.hid (HB.out.trans (hb1.mono HB.out.size))
        clear hb1 x0 x1
        go_wp2_with fail
        go_ret2
        unfold BsPost
        exact ⟨i, decide (cv = 0), by first | rfl | (rw [← hbq]; done) | (rw [← hbq]; rfl) | (simp [hbq]; done), hjn, HLO.out, HHI.out, HBB.out.1, HB1.out⟩
      · have hin2 : ¬ (i : Int) < (n : Int) := by omega
        go_wp2_with fail
        go_ret2
        unfold BsPost
        exact ⟨i, false, rfl, hjn, HLO.out, HHI.out, ⟨(fun h => by cases h), fun ⟨p, h⟩ => by
          obtain ⟨h1, _⟩ := List.getElem?_eq_some_iff.1 h
          have := HN.out
          omega⟩, HB.out⟩
end Go.Proofs.YtchcelodeepjdaaGreatDoor.Ln

namespace Go.Herb
theorem parL_none_of {l : List Ln} {k : Int} (h : ∀ x ∈ l, x.1 ≠ k) : parL l k = none := by
  unfold parL
  rw [Option.map_eq_none_iff, List.find?_eq_none]
  intro x hx
  simpa using h x hx
end Go.Herb
namespace Go.Proofs.YtchcelodeepjdaaGreatDoor.Ln
open Go.RowKit Go.Herb

/-- A tree's parts, as a value. -/
abbrev partsV (ba : Option Addr) (bn bc : Nat) (la : Option Addr) (ln lc : Nat) : Value := .agg #[.slice ba bn bc, .slice la ln lc]
/-- Where a line stands; below 0: nowhere. -/
def LineAt (xs : List Ln) (k : Int) (r : Int) : Prop := (∃ (i : Nat) (p : Int), r = i ∧ xs[i]? = some (k, p) ∧ parL xs k = some p) ∨ (r = -1 ∧ parL xs k = none)
def LinePost (xs : List Ln) (k : Int) (w : World) (e : Ending) (w' : World) : Prop := ∃ r : Int, e = .returned (.int .i64 r) ∧ LineAt xs k r ∧ Below w.heap.size w w'
theorem line_any (ba : Option Addr) (bn bc : Nat) (la : Option Addr) (lc n : Nat) (xs : List Ln) (k : Int) (w : World) (hE : Lns w la xs) (hn : xs.length = n) (hm : n < 1000000) (hs : SrtL xs) :
    Calls Tryz.prog (98) #[partsV ba bn bc la n lc, .int .u64 k] w (LinePost xs k w) := by
  obtain ⟨W, hW⟩ : ∃ W : World, W = w.alloc (.cells #[.slice ba bn bc, .slice la n lc] (133)) := ⟨_, rfl⟩
  have hB : Below w.heap.size w W := by rw [hW]; exact (Below.refl _ _).alloc (Nat.le_refl _) _
  have HB := Lib.hid hB
  have HS := Lib.hid hs
  have HBS := Lib.hid (bsL_any la lc n xs k W (hE.ext hB) hn hm hs)
  rw [hW] at HBS
  clear hB hE hn hs
  go_enter Tryz.func98, Tryz.ntmps98
  go_wp2_with fail
  refine (HBS.out).mono ?_
  rw [← hW]
  rintro e w1 ⟨i, b, rfl, hi, hlo, hhi, hb, hB1⟩
  have HB1 := Lib.hid (HB.out.trans (hB1.mono HB.out.size))
  cases b with
  | true =>
    obtain ⟨p, hp⟩ := hb.1 rfl
    have HE := Lib.hid (show LinePost xs k w (.returned (.int .i64 (i : Int))) w1 from ⟨i, rfl, .inl ⟨i, p, rfl, hp, parL_at HS.out (x := (k, p)) hp⟩, HB1.out⟩)
    clear hlo hhi hb hB1 hp hW HBS
    go_wp2_with fail
    go_ret
    exact HE.out
  | false =>
    have hno : parL xs k = none := parL_none_of (fun x hx e => by
      obtain ⟨j, hj, he⟩ := List.getElem_of_mem hx
      have hx' : xs[j]? = some x := by rw [List.getElem?_eq_getElem hj, he]
      rcases Nat.lt_trichotomy j i with h | h | h
      · have := hlo j x h hx'; omega
      · subst h
        have := hb.2 ⟨x.2, by rw [hx', ← e]⟩
        cases this
      · have hi2 : i < xs.length := by omega
        have h1 := hhi i _ (Nat.le_refl _) (List.getElem?_eq_getElem hi2)
        have h2 := List.pairwise_iff_getElem.1 HS.out i j hi2 hj h
        rw [he] at h2
        omega)
    have HE := Lib.hid (show LinePost xs k w (.returned (.int .i64 (-1))) w1 from ⟨-1, rfl, .inr ⟨rfl, hno⟩, HB1.out⟩)
    clear hlo hhi hb hB1 hW HBS hno
    go_wp2_with fail
    go_ret
    exact HE.out
end Go.Proofs.YtchcelodeepjdaaGreatDoor.Ln

namespace Go.Proofs.YtchcelodeepjdaaGreatDoor.Ln
open Go.RowKit Go.Herb

theorem slice_loL {b o n lc k : Nat} {z : Int} (hz : z = (k : Int)) (hk : k ≤ lc) (h0 : 0 < lc) : ∀ W, (Instr.slice (28) (.slice (some ⟨b, o, none⟩) n lc) none (some (.int .i64 z)) none).run Tryz.prog W = .ok (.slice (some ⟨b, o, none⟩) k lc) W := fun W => by
  have h1 : lc ≠ 0 := by omega
  subst hz
  rw [run_slice_h (P := Tryz.prog) W (28) (some ⟨b, o, none⟩) n lc (by kernel_rfl) .i64 k (by omega) (by omega)]
  rw [show Tryz.prog.elem (28) = (53) from by kernel_rfl, Tryz.sizeOf53]
  simp [sliced, Result.andThen, addr_add, h1]
theorem slice_hiL {b o n lc : Nat} (_ : n ≤ lc) (hi : 1 ≤ n) :
    ∃ a2, (∀ W, (Instr.slice (28) (.slice (some ⟨b, o, none⟩) n lc) (some (.int .i64 1)) none none).run Tryz.prog W = .ok (.slice (some a2) (n - 1) (lc - 1)) W) ∧ (1 < lc → a2 = ⟨b, o + 2, none⟩) := by
  refine ⟨if lc = 1 then ⟨b, o, none⟩ else ⟨b, o + 2, none⟩, fun W => ?_, fun h => if_neg (by omega)⟩
  have := run_slice_l (P := Tryz.prog) W (28) (some ⟨b, o, none⟩) n lc (by kernel_rfl) .i64 1 (by omega) (by omega)
  rw [this]
  rw [show Tryz.prog.elem (28) = (53) from by kernel_rfl, Tryz.sizeOf53]
  by_cases h0 : lc = 1 <;> simp [sliced, Result.andThen, addr_add, h0]
theorem run_eqLn (a b c d : Int) (w : World) : (Op.equalIn 10000 (53) (.agg #[.int .u64 a, .int .u64 b]) (.agg #[.int .u64 c, .int .u64 d])).run Tryz.prog w = .ok (decide (a = c ∧ b = d)) w := by
  have hS : Tryz.prog.underlying (53) = some (.struct (Tryz.prog.fieldsOf (53))) := by kernel_rfl
  have hp : Tryz.prog.stoodInHeld (53) = false := by kernel_rfl
  rw [show (10000 : Nat) = 9999 + 1 from rfl, run_equalIn_agg w 9999 (53) _ _ hS hp]
  simp only [Program.fieldsOf, Tryz.underlying53]
  have u9 := Tryz.underlying26
  go_simp
  by_cases h1 : a = c <;> by_cases h2 : b = d <;> simp [h1, h2]
theorem run_neqLn (a b c d : Int) (w : World) : (binOp .neq (53) (.agg #[.int .u64 a, .int .u64 b]) (.agg #[.int .u64 c, .int .u64 d])).run Tryz.prog w = .ok (.bool (!decide (a = c ∧ b = d))) w := by
  rw [run_neq_struct, run_eqLn]; rfl
theorem guardLn : Tryz.prog.eqGuardType Tryz.prog.depth (53) = false := by kernel_rfl

def FormedPost (xs : List Ln) (w : World) (e : Ending) (w' : World) : Prop := ∃ r : Bool, e = .returned (.bool r) ∧ (r = true ↔ FormedL xs ∧ xs.length ≤ 48) ∧ Below w.heap.size w w'
theorem formed_take {xs : List Ln} (h : FormedL xs) {i : Nat} (hi : 0 < i) : FormedL (xs.take i) := by
  refine ⟨by rw [List.getElem?_take, if_pos hi]; exact h.first, List.Pairwise.sublist (List.take_sublist _ _) h.srt, fun j x hj hx => ?_⟩
  rw [List.getElem?_take] at hx
  split at hx
  · obtain ⟨m, y, hm, hy, e⟩ := h.par j x hj hx
    exact ⟨m, y, hm, by rw [List.getElem?_take, if_pos (by omega)]; exact hy, e⟩
  · cases hx
theorem formed_next {xs : List Ln} {i : Nat} {x y : Ln} (h : FormedL (xs.take (i + 1))) (hy : xs[i]? = some y) (hx : xs[i + 1]? = some x) (hlt : y.1 < x.1) {p : Int} (hp : parL (xs.take (i + 1)) x.2 = some p) : FormedL (xs.take (i + 2)) := by
  obtain ⟨hi, he⟩ := List.getElem?_eq_some_iff.1 hx
  obtain ⟨hi', he'⟩ := List.getElem?_eq_some_iff.1 hy
  have e : xs.take (i + 2) = xs.take (i + 1) ++ [(x.1, x.2)] := by rw [List.take_succ_eq_append_getElem hi, he]
  rw [e]
  refine h.snoc (fun z hz => ?_) ⟨p, hp⟩
  obtain ⟨j, hj, hze⟩ := List.getElem_of_mem hz
  simp at hj
  have hl : (xs.take (i + 1)).length = i + 1 := by simp; omega
  rcases Nat.lt_or_eq_of_le (show j ≤ i by omega) with h1 | h1
  · have := List.pairwise_iff_getElem.1 h.srt j i (by omega) (by omega) h1
    rw [hze, List.getElem_take, he'] at this
    omega
  · subst h1
    rw [List.getElem_take, he'] at hze
    rw [← hze]
    exact hlt
theorem formed_not {xs : List Ln} {i : Nat} {x y : Ln} (h : FormedL xs) (hy : xs[i]? = some y) (hx : xs[i + 1]? = some x) : y.1 < x.1 ∧ ∃ p, parL (xs.take (i + 1)) x.2 = some p := by
  obtain ⟨hi, he⟩ := List.getElem?_eq_some_iff.1 hx
  obtain ⟨hi', he'⟩ := List.getElem?_eq_some_iff.1 hy
  refine ⟨?_, ?_⟩
  · have := List.pairwise_iff_getElem.1 h.srt i (i + 1) hi' hi (by omega)
    rw [he, he'] at this
    exact this
  · obtain ⟨j, z, hj, hz, e⟩ := h.par (i + 1) x (by omega) hx
    rw [← e]
    exact ⟨z.2, parL_at (formed_take h (by omega)).srt (i := j) (x := z) (by rw [List.getElem?_take, if_pos hj]; exact hz)⟩
end Go.Proofs.YtchcelodeepjdaaGreatDoor.Ln
