/- Lines as a plain list: chains; what a fork and a prune leave of them. No condition. -/
import Derived.Test.YtacibennmcegfaaDoorBase
namespace Go.Herb

abbrev Ln := Int × Int
def parL (l : List Ln) (k : Int) : Option Int := (l.find? (fun p => decide (p.1 = k))).map (·.2)
def SrtL (l : List Ln) : Prop := l.Pairwise (fun p q => p.1 < q.1)
structure FormedL (l : List Ln) : Prop where
  first : l[0]? = some (0, 0)
  srt : SrtL l
  par : ∀ (i : Nat) (x : Ln), 0 < i → l[i]? = some x → ∃ j y, j < i ∧ l[j]? = some y ∧ y.1 = x.2
theorem parL_at {l : List Ln} (h : SrtL l) {i : Nat} {x : Ln} (hx : l[i]? = some x) : parL l x.1 = some x.2 := by
  induction l generalizing i with
  | nil => simp at hx
  | cons a l ih =>
    unfold parL
    obtain ⟨h1, h2⟩ := List.pairwise_cons.1 h
    rw [List.find?_cons]
    cases i with
    | zero =>
      simp at hx
      subst hx
      simp
    | succ i =>
      simp at hx
      have hm := h1 x (List.mem_of_getElem? hx)
      have hne : decide (a.1 = x.1) = false := decide_eq_false (by omega)
      rw [hne]
      exact ih h2 hx
theorem parL_some {l : List Ln} {k p : Int} (h : parL l k = some p) : ∃ i : Nat, l[i]? = some (k, p) := by
  unfold parL at h
  obtain ⟨x, h1, h2⟩ := Option.map_eq_some_iff.1 h
  have h3 := List.find?_some h1
  simp at h3
  obtain ⟨i, hi, he⟩ := List.getElem_of_mem (List.mem_of_find?_eq_some h1)
  refine ⟨i, ?_⟩
  rw [List.getElem?_eq_getElem hi, he, ← h3, ← h2]
/-- A line's chain, as many steps of it. -/
def chainF (l : List Ln) : Nat → Int → Int → List (Int × Int)
  | 0, _, _ => []
  | n + 1, line, ahead => match parL l line with
    | none => []
    | some p => (line, ahead) :: if line = 0 then [] else chainF l n p line
theorem chainF_succ (l : List Ln) (n : Nat) (line a : Int) : chainF l (n + 1) line a = match parL l line with
    | none => []
    | some p => (line, a) :: if line = 0 then [] else chainF l n p line := rfl
/-- Two links that stand side by side. -/
def Side (l : List Ln) : List (Int × Int) → Prop
  | a :: b :: c => ((a.1, b.1) ∈ l ∧ b.2 = a.1 ∧ b.1 < a.1) ∧ Side l (b :: c)
  | _ => True
theorem chain_law {l : List Ln} (h : FormedL l) : ∀ (n i : Nat) (x : Ln) (ahead : Int), l[i]? = some x → i < n →
    ∃ c, chainF l n x.1 ahead = (x.1, ahead) :: c ∧ (((x.1, ahead) :: c).getLast?.map (·.1)) = some 0 ∧ Side l ((x.1, ahead) :: c)
  | 0, _, _, _, _, hi => by omega
  | n + 1, i, x, ahead, hx, hi => by
    unfold chainF
    rw [parL_at h.srt hx]
    by_cases h0 : x.1 = 0
    · exact ⟨[], by simp [h0], by simp [h0], trivial⟩
    · have hi0 : 0 < i := by
        rcases Nat.eq_zero_or_pos i with h1 | h1
        · subst h1
          rw [h.first] at hx
          injection hx with hx
          exact absurd (by rw [← hx]) h0
        · exact h1
      obtain ⟨j, y, hj, hy, hp⟩ := h.par i x hi0 hx
      obtain ⟨c, hc, hl, hs⟩ := chain_law h n j y x.1 hy (by omega)
      refine ⟨(y.1, x.1) :: c, ?_, ?_, ?_⟩
      · simp only [if_neg h0]
        rw [← hp, hc]
      · rw [List.getLast?_cons_cons]
        exact hl
      · refine ⟨⟨?_, rfl, ?_⟩, hs⟩
        · show (x.1, y.1) ∈ l
          rw [hp]
          exact List.mem_of_getElem? hx
        · obtain ⟨h1, e1⟩ := List.getElem?_eq_some_iff.1 hx
          obtain ⟨h2, e2⟩ := List.getElem?_eq_some_iff.1 hy
          have := List.pairwise_iff_getElem.1 h.srt j i h2 h1 hj
          rw [e1, e2] at this
          exact this
/-- As many steps as there are lines ahead are enough. -/
theorem chain_fuel {l : List Ln} (h : FormedL l) : ∀ (n m i : Nat) (x : Ln) (ahead : Int), l[i]? = some x → i < n → i < m → chainF l n x.1 ahead = chainF l m x.1 ahead
  | 0, _, _, _, _, _, hi, _ => by omega
  | _ + 1, 0, _, _, _, _, _, hi => by omega
  | n + 1, m + 1, i, x, ahead, hx, hi, hm => by
    unfold chainF
    rw [parL_at h.srt hx]
    by_cases h0 : x.1 = 0
    · simp [h0]
    · have hi0 : 0 < i := by
        rcases Nat.eq_zero_or_pos i with h1 | h1
        · subst h1
          rw [h.first] at hx
          injection hx with hx
          exact absurd (by rw [← hx]) h0
        · exact h1
      obtain ⟨j, y, hj, hy, hp⟩ := h.par i x hi0 hx
      have ih := chain_fuel h n m j y x.1 hy (by omega) (by omega)
      simp only [if_neg h0]
      rw [← hp, ih]
/-- Where a line's chain is kept, it is the same. -/
theorem chain_keep {l l' : List Ln} (hs : ∀ k p, parL l' k = some p → parL l k = some p) : ∀ (n : Nat) (line ahead : Int), (∀ x ∈ chainF l n line ahead, ∃ p, parL l' x.1 = some p) → chainF l' n line ahead = chainF l n line ahead
  | 0, _, _, _ => rfl
  | n + 1, line, ahead, hk => by
    unfold chainF at hk ⊢
    cases hg : parL l line with
    | none =>
      rw [hg] at hk
      cases hg' : parL l' line with
      | none => rfl
      | some p => rw [hs _ _ hg'] at hg; cases hg
    | some p =>
      rw [hg] at hk
      obtain ⟨p', hp'⟩ := hk (line, ahead) (by simp)
      have : p' = p := by
        have := hs _ _ hp'
        rw [hg] at this
        injection this with this
        exact this.symm
      subst this
      simp only at hp'
      rw [hp']
      by_cases h0 : line = 0
      · simp [h0]
      · simp only [if_neg h0] at hk ⊢
        rw [chain_keep hs n p' line (fun x hx => hk x (List.mem_cons_of_mem _ hx))]
/-- A line more at the end. -/
theorem FormedL.snoc {l : List Ln} (h : FormedL l) {id par : Int} (hid : ∀ x ∈ l, x.1 < id) (hp : ∃ p, parL l par = some p) : FormedL (l ++ [(id, par)]) := by
  have hl : 0 < l.length := by
    have := h.first
    obtain ⟨h1, _⟩ := List.getElem?_eq_some_iff.1 this
    exact h1
  refine ⟨by rw [List.getElem?_append_left hl]; exact h.first, ?_, fun i x hi hx => ?_⟩
  · unfold SrtL
    rw [List.pairwise_append]
    exact ⟨h.srt, List.pairwise_singleton _ _, fun a ha b hb => by rw [List.mem_singleton.1 hb]; exact hid a ha⟩
  · by_cases hlt : i < l.length
    · rw [List.getElem?_append_left hlt] at hx
      obtain ⟨j, y, hj, hy, he⟩ := h.par i x hi hx
      exact ⟨j, y, hj, by rw [List.getElem?_append_left (by omega)]; exact hy, he⟩
    · rw [List.getElem?_append_right (by omega)] at hx
      have hi2 : i = l.length := by
        rcases Nat.lt_or_ge l.length i with h1 | h1
        · rw [List.getElem?_eq_none (by simp; omega)] at hx; cases hx
        · omega
      subst hi2
      simp at hx
      subst hx
      obtain ⟨p, hp⟩ := hp
      obtain ⟨j, hj⟩ := parL_some hp
      obtain ⟨h1, _⟩ := List.getElem?_eq_some_iff.1 hj
      exact ⟨j, (par, p), h1, by rw [List.getElem?_append_left h1]; exact hj, rfl⟩
theorem parL_snoc {l : List Ln} {id par k p : Int} (hg : parL l k = some p) : parL (l ++ [(id, par)]) k = some p := by
  unfold parL at hg ⊢
  rw [List.find?_append]
  obtain ⟨x, h1, h2⟩ := Option.map_eq_some_iff.1 hg
  rw [h1]
  simp [h2]
theorem chain_closed {l : List Ln} (h : FormedL l) : ∀ (n i : Nat) (x : Ln) (ahead : Int), l[i]? = some x → i < n →
    (∀ y ∈ chainF l n x.1 ahead, ∃ p, parL l y.1 = some p ∧ (y.1 ≠ 0 → ∃ z ∈ chainF l n x.1 ahead, z.1 = p)) ∧ (∃ z ∈ chainF l n x.1 ahead, z.1 = 0)
  | 0, _, _, _, _, hi => by omega
  | n + 1, i, x, ahead, hx, hi => by
    have hg := parL_at h.srt hx
    unfold chainF
    rw [hg]
    by_cases h0 : x.1 = 0
    · simp only [if_pos h0]
      exact ⟨fun y hy => by rw [List.mem_singleton.1 hy]; exact ⟨x.2, hg, fun hne => absurd h0 hne⟩, (x.1, ahead), by simp, h0⟩
    · have hi0 : 0 < i := by
        rcases Nat.eq_zero_or_pos i with h1 | h1
        · subst h1
          rw [h.first] at hx
          injection hx with hx
          exact absurd (by rw [← hx]) h0
        · exact h1
      obtain ⟨j, y, hj, hy, hp⟩ := h.par i x hi0 hx
      obtain ⟨ih1, z, hz, hz0⟩ := chain_closed h n j y x.1 hy (by omega)
      obtain ⟨c, hc, -, -⟩ := chain_law h n j y x.1 hy (by omega)
      simp only [if_neg h0]
      rw [← hp]
      refine ⟨fun u hu => ?_, z, List.mem_cons_of_mem _ hz, hz0⟩
      rcases List.mem_cons.1 hu with rfl | hu
      · exact ⟨x.2, hg, fun _ => ⟨(y.1, x.1), List.mem_cons_of_mem _ (by rw [hc]; simp), hp⟩⟩
      · obtain ⟨p, h1, h2⟩ := ih1 u hu
        exact ⟨p, h1, fun hne => by obtain ⟨v, hv, e⟩ := h2 hne; exact ⟨v, List.mem_cons_of_mem _ hv, e⟩⟩
/-- The lines of all chains of some. -/
def keepL (l : List Ln) (fr : List Int) : List Int := fr.flatMap (fun id => (chainF l l.length id 0).map (·.1))
def prunedL (l : List Ln) (fr : List Int) : List Ln := l.filter (fun x => decide (x.1 ∈ keepL l fr))
theorem chainF_ahead (l : List Ln) : ∀ (n : Nat) (line a b : Int), (chainF l n line a).map (·.1) = (chainF l n line b).map (·.1)
  | 0, _, _, _ => rfl
  | n + 1, line, a, b => by
    unfold chainF
    cases parL l line with
    | none => rfl
    | some p => by_cases h0 : line = 0 <;> simp [h0]
theorem prunedL_get {l : List Ln} (h : FormedL l) {fr : List Int} {k : Int} (hk : k ∈ keepL l fr) {p : Int} (hg : parL l k = some p) : parL (prunedL l fr) k = some p := by
  obtain ⟨i, hi⟩ := parL_some hg
  have hm : (k, p) ∈ prunedL l fr := List.mem_filter.2 ⟨List.mem_of_getElem? hi, by simpa using hk⟩
  obtain ⟨j, hj, he⟩ := List.getElem_of_mem hm
  have hs : SrtL (prunedL l fr) := List.Pairwise.filter _ h.srt
  have := parL_at hs (i := j) (x := (k, p)) (by rw [List.getElem?_eq_getElem hj, he])
  exact this
theorem pruned_sub {l : List Ln} (h : FormedL l) {fr : List Int} (k p : Int) (hg : parL (prunedL l fr) k = some p) : parL l k = some p := by
  obtain ⟨i, hi⟩ := parL_some hg
  have hm := List.mem_of_getElem? hi
  unfold prunedL at hm
  obtain ⟨j, hj, he⟩ := List.getElem_of_mem (List.mem_filter.1 hm).1
  exact parL_at h.srt (i := j) (x := (k, p)) (by rw [List.getElem?_eq_getElem hj, he])
theorem keepL_closed {l : List Ln} (h : FormedL l) {fr : List Int} (hf : ∀ id ∈ fr, ∃ p, parL l id = some p) {k : Int} (hk : k ∈ keepL l fr) : ∃ p, parL l k = some p ∧ (k ≠ 0 → p ∈ keepL l fr) := by
  unfold keepL at hk ⊢
  obtain ⟨id, hid, hk⟩ := List.mem_flatMap.1 hk
  obtain ⟨y, hy, rfl⟩ := List.mem_map.1 hk
  obtain ⟨p, hp⟩ := hf id hid
  obtain ⟨i, hi⟩ := parL_some hp
  obtain ⟨hl, _⟩ := List.getElem?_eq_some_iff.1 hi
  obtain ⟨h1, -⟩ := chain_closed h l.length i (id, p) 0 hi hl
  obtain ⟨q, h2, h3⟩ := h1 y hy
  refine ⟨q, h2, fun hne => ?_⟩
  obtain ⟨z, hz, e⟩ := h3 hne
  exact List.mem_flatMap.2 ⟨id, hid, List.mem_map.2 ⟨z, hz, e⟩⟩
theorem keepL_zero {l : List Ln} (h : FormedL l) {fr : List Int} (hf : ∀ id ∈ fr, ∃ p, parL l id = some p) (hne : fr ≠ []) : (0 : Int) ∈ keepL l fr := by
  obtain ⟨id, hid⟩ := List.exists_mem_of_ne_nil fr hne
  obtain ⟨p, hp⟩ := hf id hid
  obtain ⟨i, hi⟩ := parL_some hp
  obtain ⟨hl, _⟩ := List.getElem?_eq_some_iff.1 hi
  obtain ⟨-, z, hz, e⟩ := chain_closed h l.length i (id, p) 0 hi hl
  exact List.mem_flatMap.2 ⟨id, hid, List.mem_map.2 ⟨z, hz, e⟩⟩
theorem pruned_formed {l : List Ln} (h : FormedL l) {fr : List Int} (hf : ∀ id ∈ fr, ∃ p, parL l id = some p) (hne : fr ≠ []) : FormedL (prunedL l fr) := by
  have hs : SrtL (prunedL l fr) := List.Pairwise.filter _ h.srt
  have hz := keepL_zero h hf hne
  obtain ⟨t, ht⟩ : ∃ t, l = (0, 0) :: t := by
    have h1 := h.first
    cases l with
    | nil => simp at h1
    | cons a t => simp at h1; exact ⟨t, by rw [h1]⟩
  have hfirst : (prunedL l fr)[0]? = some (0, 0) := by
    have hh : ∀ K : List Int, (0 : Int) ∈ K → ((((0, 0) : Ln) :: t).filter (fun x => decide (x.1 ∈ K)))[0]? = some (0, 0) := fun K hK => by
      rw [List.filter_cons, if_pos (by simpa using hK)]; rfl
    unfold prunedL
    generalize keepL l fr = K at hz
    rw [ht]
    exact hh K hz
  refine ⟨hfirst, hs, fun i x hi hx => ?_⟩
  have hm := List.mem_filter.1 (List.mem_of_getElem? hx)
  have hk : x.1 ∈ keepL l fr := by simpa using hm.2
  obtain ⟨h0, _⟩ := List.getElem?_eq_some_iff.1 hfirst
  obtain ⟨hi1, he1⟩ := List.getElem?_eq_some_iff.1 hx
  have hx0 : x.1 ≠ 0 := by
    have := List.pairwise_iff_getElem.1 hs 0 i h0 hi1 hi
    rw [he1, (List.getElem?_eq_some_iff.1 hfirst).2] at this
    have : (0 : Int) < x.1 := this
    omega
  obtain ⟨p, hp1, hp2⟩ := keepL_closed h hf hk
  obtain ⟨a, ha, hae⟩ := List.getElem_of_mem hm.1
  have hxp : parL l x.1 = some x.2 := parL_at h.srt (i := a) (by rw [List.getElem?_eq_getElem ha, hae])
  rw [hp1] at hxp
  injection hxp with hxp
  have hpk := hp2 hx0
  obtain ⟨q, hq, -⟩ := keepL_closed h hf hpk
  obtain ⟨j, hj⟩ := parL_some (prunedL_get h hpk hq)
  obtain ⟨hj1, hje⟩ := List.getElem?_eq_some_iff.1 hj
  refine ⟨j, (p, q), ?_, hj, hxp⟩
  rcases Nat.lt_or_ge j i with hlt | hge
  · exact hlt
  · exfalso
    have hpar : p < x.1 := by
      have ha0 : 0 < a := by
        rcases Nat.eq_zero_or_pos a with h1 | h1
        · subst h1
          have h9 := h.first
          rw [List.getElem?_eq_getElem ha, hae] at h9
          injection h9 with h9
          exact absurd (by rw [h9]) hx0
        · exact h1
      obtain ⟨b, y, hb, hy, hyp⟩ := h.par a x ha0 (by rw [List.getElem?_eq_getElem ha, hae])
      obtain ⟨hb1, hbe⟩ := List.getElem?_eq_some_iff.1 hy
      have := List.pairwise_iff_getElem.1 h.srt b a hb1 ha hb
      rw [hbe, hae] at this
      omega
    rcases Nat.lt_or_eq_of_le hge with h1 | h1
    · have := List.pairwise_iff_getElem.1 hs i j hi1 hj1 h1
      rw [he1, hje] at this
      have : x.1 < p := this
      omega
    · subst h1
      rw [he1] at hje
      rw [hje] at hpar
      exact absurd hpar (by show ¬ p < p; omega)
theorem prune_chain {l : List Ln} (h : FormedL l) {fr : List Int} (hf : ∀ id ∈ fr, ∃ p, parL l id = some p) {id : Int} (hid : id ∈ fr) (a : Int) : chainF (prunedL l fr) (prunedL l fr).length id a = chainF l l.length id a := by
  have hne : fr ≠ [] := fun e => by rw [e] at hid; simp at hid
  have hpf := pruned_formed h hf hne
  have hin : ∀ x ∈ chainF l l.length id a, x.1 ∈ keepL l fr := fun x hx => by
    refine List.mem_flatMap.2 ⟨id, hid, ?_⟩
    rw [chainF_ahead l l.length id 0 a]
    exact List.mem_map.2 ⟨x, hx, rfl⟩
  have hk : ∀ x ∈ chainF l l.length id a, ∃ p, parL (prunedL l fr) x.1 = some p := fun x hx => by
    obtain ⟨p, hp, -⟩ := keepL_closed h hf (hin x hx)
    exact ⟨p, prunedL_get h (hin x hx) hp⟩
  have h1 := chain_keep (pruned_sub h) l.length id a hk
  rw [← h1]
  obtain ⟨p, hp⟩ := hf id hid
  obtain ⟨i, hi⟩ := parL_some hp
  obtain ⟨hil, _⟩ := List.getElem?_eq_some_iff.1 hi
  obtain ⟨c, hc, -, -⟩ := chain_law h l.length i (id, p) a hi hil
  have hidk : id ∈ keepL l fr := hin (id, a) (by rw [show id = ((id, p) : Ln).1 from rfl, hc]; simp)
  obtain ⟨j, hj⟩ := parL_some (prunedL_get h hidk hp)
  obtain ⟨hjl, _⟩ := List.getElem?_eq_some_iff.1 hj
  have hle : (prunedL l fr).length ≤ l.length := List.length_filter_le _ _
  exact chain_fuel hpf _ _ j (id, p) a hj hjl (by omega)
/-- A line at the end: its chain goes off the other one's. -/
theorem fork_chain {l : List Ln} (h : FormedL l) {id par : Int} (hid : ∀ x ∈ l, x.1 < id) (h0 : 0 < id) {p : Int} (hp : parL l par = some p) (a : Int) :
    chainF (l ++ [(id, par)]) (l ++ [(id, par)]).length id a = (id, a) :: chainF l l.length par id := by
  have hs := h.snoc hid ⟨p, hp⟩
  rw [List.length_append, List.length_singleton]
  rw [chainF_succ]
  have hg : parL (l ++ [(id, par)]) id = some par := parL_at hs.srt (i := l.length) (x := (id, par)) (by rw [List.getElem?_append_right (Nat.le_refl _)]; simp)
  rw [hg]
  simp only [if_neg (show ¬ id = 0 by omega)]
  congr 1
  refine (chain_keep (l := l ++ [(id, par)]) (l' := l) (fun k q hq => parL_snoc hq) l.length par id (fun x hx => ?_)).symm
  obtain ⟨i, hi⟩ := parL_some hp
  obtain ⟨hil, _⟩ := List.getElem?_eq_some_iff.1 hi
  obtain ⟨h1, -⟩ := chain_closed hs l.length i (par, p) id (by rw [List.getElem?_append_left hil]; exact hi) hil
  obtain ⟨q, hq, -⟩ := h1 x hx
  obtain ⟨j, hj⟩ := parL_some hq
  by_cases hjl : j < l.length
  · rw [List.getElem?_append_left hjl] at hj
    exact ⟨q, parL_at h.srt hj⟩
  · exfalso
    rw [List.getElem?_append_right (by omega)] at hj
    have hxe : x.1 = id := by
      obtain ⟨h5, h6⟩ := List.getElem?_eq_some_iff.1 hj
      have h7 : j - l.length = 0 := by simp at h5; omega
      simp [h7] at h6
      exact h6.1.symm
    -- a chain of an old line holds old lines alone
    have hlow : ∀ (n i : Nat) (y : Ln) (b : Int), (l ++ [(id, par)])[i]? = some y → i < n → i < l.length → ∀ u ∈ chainF (l ++ [(id, par)]) n y.1 b, u.1 < id := by
      intro n
      induction n with
      | zero => intro i y b _ hi; omega
      | succ n ih =>
        intro i y b hy hin hi u hu
        have hyl : y ∈ l := by rw [List.getElem?_append_left hi] at hy; exact List.mem_of_getElem? hy
        unfold chainF at hu
        rw [parL_at hs.srt hy] at hu
        by_cases hy0 : y.1 = 0
        · simp only [if_pos hy0] at hu
          rw [List.mem_singleton.1 hu]
          exact hid y hyl
        · simp only [if_neg hy0] at hu
          rcases List.mem_cons.1 hu with rfl | hu
          · exact hid y hyl
          · have hi0 : 0 < i := by
              rcases Nat.eq_zero_or_pos i with h1 | h1
              · subst h1
                rw [hs.first] at hy
                injection hy with hy
                exact absurd (by rw [← hy]) hy0
              · exact h1
            obtain ⟨j, z, hj, hz, hzp⟩ := hs.par i y hi0 hy
            rw [← hzp] at hu
            exact ih j z y.1 hz (by omega) (by omega) u hu
    have := hlow l.length i (par, p) id (by rw [List.getElem?_append_left hil]; exact hi) hil hil x hx
    omega
end Go.Herb
