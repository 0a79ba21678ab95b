/- Plain facts on a list of numbers that is sorted in place. No condition. -/
import Derived.Test.YtnnpheklgdbohaaBase
namespace Go.Herb

def at_ (xs : List Int) (i : Nat) : Int := xs.getD i 0
def swq (xs : List Int) (i j : Nat) : List Int := (xs.set i (at_ xs j)).set j (at_ xs i)

theorem at_get {xs : List Int} {i : Nat} (h : i < xs.length) : at_ xs i = xs[i] := by
  unfold at_; rw [List.getD_eq_getElem?_getD, List.getElem?_eq_getElem h]; rfl
theorem at_ge {xs : List Int} {i : Nat} (h : xs.length ≤ i) : at_ xs i = 0 := by
  unfold at_; rw [List.getD_eq_getElem?_getD, List.getElem?_eq_none h]; rfl
theorem swq_len (xs : List Int) (i j : Nat) : (swq xs i j).length = xs.length := by simp [swq]
theorem at_set {xs : List Int} {i : Nat} (hi : i < xs.length) (v : Int) (k : Nat) : at_ (xs.set i v) k = if k = i then v else at_ xs k := by
  unfold at_
  rw [List.getD_eq_getElem?_getD, List.getD_eq_getElem?_getD]
  by_cases h : k = i
  · subst h; rw [List.getElem?_set_self hi, if_pos rfl]; rfl
  · rw [List.getElem?_set_ne (fun e => h e.symm), if_neg h]
theorem at_swq {xs : List Int} {i j : Nat} (hi : i < xs.length) (hj : j < xs.length) (k : Nat) : at_ (swq xs i j) k = if k = j then at_ xs i else if k = i then at_ xs j else at_ xs k := by
  unfold swq
  rw [at_set (by simpa using hj), at_set hi]
theorem swq_perm {xs : List Int} {i j : Nat} (hi : i < xs.length) (hj : j < xs.length) : (swq xs i j).Perm xs := by
  unfold swq
  rw [at_get hi, at_get hj]
  have h := Array.swap_perm (xs := xs.toArray) (i := i) (j := j) (by simpa using hi) (by simpa using hj)
  have h' := h.toList
  simpa [Array.swap] using h'

/-- Only what stands from a on, ahead of b, has changed its places. -/
structure InR (a b : Nat) (xs ys : List Int) : Prop where
  len : ys.length = xs.length
  out : ∀ k, k < a ∨ b ≤ k → at_ ys k = at_ xs k
  perm : ys.Perm xs
theorem InR.refl (a b : Nat) (xs : List Int) : InR a b xs xs := ⟨rfl, fun _ _ => rfl, .refl _⟩
theorem InR.trans {a b : Nat} {xs ys zs : List Int} (h : InR a b xs ys) (k : InR a b ys zs) : InR a b xs zs :=
  ⟨k.len.trans h.len, fun i hi => (k.out i hi).trans (h.out i hi), k.perm.trans h.perm⟩
theorem InR.mono {a b a' b' : Nat} {xs ys : List Int} (h : InR a b xs ys) (ha : a' ≤ a) (hb : b ≤ b') : InR a' b' xs ys :=
  ⟨h.len, fun i hi => h.out i (by omega), h.perm⟩
theorem InR.swq {a b i j : Nat} {xs : List Int} (hb : b ≤ xs.length) (hi : a ≤ i) (hi' : i < b) (hj : a ≤ j) (hj' : j < b) : InR a b xs (swq xs i j) :=
  ⟨swq_len _ _ _, fun k hk => by rw [at_swq (by omega) (by omega), if_neg (by omega), if_neg (by omega)], swq_perm (by omega) (by omega)⟩

theorem list_ext_at {xs ys : List Int} (hl : xs.length = ys.length) (h : ∀ k, k < xs.length → at_ xs k = at_ ys k) : xs = ys :=
  List.ext_getElem hl fun k h1 h2 => by rw [← at_get h1, ← at_get h2]; exact h k h1

theorem InR.mid {a b : Nat} {xs ys : List Int} (h : InR a b xs ys) (hab : a ≤ b) (hb : b ≤ xs.length) : ((ys.drop a).take (b - a)).Perm ((xs.drop a).take (b - a)) := by
  have split : ∀ l : List Int, l = l.take a ++ ((l.drop a).take (b - a) ++ l.drop b) := fun l => by
    conv => lhs; rw [← List.take_append_drop a l, ← List.take_append_drop (b - a) (l.drop a), List.drop_drop, show a + (b - a) = b from by omega]
  have hlen := h.len
  have h1 : ys.take a = xs.take a := List.ext_getElem (by simp; omega) fun k k1 k2 => by
    simp only [List.length_take] at k1
    rw [List.getElem_take, List.getElem_take, ← at_get (by omega), ← at_get (by omega)]
    exact h.out k (by omega)
  have h2 : ys.drop b = xs.drop b := List.ext_getElem (by simp; omega) fun k k1 k2 => by
    simp only [List.length_drop] at k1
    rw [List.getElem_drop, List.getElem_drop, ← at_get (by omega), ← at_get (by omega)]
    exact h.out _ (by omega)
  have hp := h.perm
  rw [split ys, split xs, h1, h2, List.perm_append_left_iff, List.perm_append_right_iff] at hp
  exact hp

/-- What is so of all in the range, stays so. -/
theorem InR.all {a b : Nat} {xs ys : List Int} (h : InR a b xs ys) (hb : b ≤ xs.length) {P : Int → Prop} (hP : ∀ k, a ≤ k → k < b → P (at_ xs k)) (k : Nat) (h1 : a ≤ k) (h2 : k < b) : P (at_ ys k) := by
  have hm := h.mid (by omega) hb
  have hlen := h.len
  have hmem : at_ ys k ∈ (ys.drop a).take (b - a) := by
    rw [at_get (by omega), List.mem_take_iff_getElem]
    refine ⟨k - a, by simp; omega, ?_⟩
    rw [List.getElem_drop]
    congr 1
    omega
  have h3 := hm.mem_iff.1 hmem
  rw [List.mem_take_iff_getElem] at h3
  obtain ⟨i, hi, e⟩ := h3
  rw [List.getElem_drop] at e
  simp only [List.length_drop] at hi
  rw [← e, ← at_get (by omega)]
  exact hP _ (by omega) (by omega)

def SortR (a b : Nat) (xs : List Int) : Prop := ∀ i j, a ≤ i → i ≤ j → j < b → at_ xs i ≤ at_ xs j
theorem SortR.small {a b : Nat} (h : b ≤ a + 1) (xs : List Int) : SortR a b xs := fun i j h1 h2 h3 => by
  have : i = j := by omega
  rw [this]; exact Int.le_refl _
/-- Neighbours that do not fall. -/
theorem SortR.of_next {a b : Nat} {xs : List Int} (h : ∀ k, a < k → k < b → at_ xs (k - 1) ≤ at_ xs k) : SortR a b xs := by
  intro i j h1 h2 h3
  obtain ⟨d, rfl⟩ : ∃ d, j = i + d := ⟨j - i, by omega⟩
  induction d with
  | zero => exact Int.le_refl _
  | succ d ih =>
    have e1 := ih (by omega) (by omega)
    have e2 := h (i + (d + 1)) (by omega) h3
    have : i + (d + 1) - 1 = i + d := by omega
    rw [this] at e2
    omega
theorem SortR.whole {xs : List Int} (h : SortR 0 xs.length xs) : xs.Pairwise (· ≤ ·) := by
  rw [List.pairwise_iff_getElem]
  intro i j hi hj hij
  have := h i j (by omega) (by omega) hj
  rw [at_get hi, at_get hj] at this
  exact this

/-- Behind an end, or what is there is not greater than all of the range. -/
def LowR (a b : Nat) (xs : List Int) : Prop := 0 < a → ∀ k, a ≤ k → k < b → at_ xs (a - 1) ≤ at_ xs k
theorem LowR.kept {a b : Nat} {xs ys : List Int} (h : LowR a b xs) (hr : InR a b xs ys) (hb : b ≤ xs.length) : LowR a b ys := fun h0 k h1 h2 => by
  rw [hr.out (a - 1) (by omega)]
  exact hr.all hb (P := fun v => at_ xs (a - 1) ≤ v) (h h0) k h1 h2

/-- The three parts of a range, each sorted. -/
theorem SortR.join {a m b : Nat} {xs : List Int} (h1 : SortR a m xs) (h2 : SortR (m + 1) b xs) (hl : ∀ k, a ≤ k → k < m → at_ xs k ≤ at_ xs m) (hr : ∀ k, m < k → k < b → at_ xs m ≤ at_ xs k) : SortR a b xs := by
  intro i j hi hij hj
  rcases Nat.lt_trichotomy j m with h | h | h
  · exact h1 i j hi hij h
  · subst h
    rcases Nat.lt_or_eq_of_le hij with h | h
    · exact hl i hi h
    · rw [h]; exact Int.le_refl _
  · rcases Nat.lt_trichotomy i m with h' | h' | h'
    · exact Int.le_trans (hl i hi h') (hr j h hj)
    · rw [h']; exact hr j h hj
    · exact h2 i j h' hij hj
theorem SortR.kept {a b : Nat} {xs ys : List Int} (h : SortR a b xs) (he : ∀ k, a ≤ k → k < b → at_ ys k = at_ xs k) : SortR a b ys := fun i j h1 h2 h3 => by
  rw [he i h1 (by omega), he j (by omega) h3]; exact h i j h1 h2 h3

/- Insertion: all but what stands at j is sorted, and that is not above what is behind it. -/
structure InsR (a i j : Nat) (xs : List Int) : Prop where
  le : a ≤ j ∧ j ≤ i
  rise : ∀ p q, a ≤ p → p ≤ q → q ≤ i → p ≠ j → q ≠ j → at_ xs p ≤ at_ xs q
  behind : ∀ q, j < q → q ≤ i → at_ xs j ≤ at_ xs q
theorem InsR.start {a i : Nat} {xs : List Int} (h : SortR a i xs) (hi : a ≤ i) : InsR a i i xs :=
  ⟨⟨hi, Nat.le_refl _⟩, fun p q h1 h2 h3 h4 h5 => h p q h1 h2 (by omega), fun q h1 h2 => by omega⟩
theorem InsR.step {a i j : Nat} {xs : List Int} (h : InsR a i j xs) (hj : a < j) (hi : i < xs.length) (hlt : at_ xs j < at_ xs (j - 1)) : InsR a i (j - 1) (swq xs j (j - 1)) := by
  have hle := h.le
  have hs := at_swq (xs := xs) (i := j) (j := j - 1) (by omega) (by omega)
  refine ⟨by omega, fun p q h1 h2 h3 h4 h5 => ?_, fun q h1 h2 => ?_⟩
  · rw [hs p, hs q, if_neg h4, if_neg h5]
    by_cases e1 : p = j <;> by_cases e2 : q = j
    · rw [if_pos e1, if_pos e2]; exact Int.le_refl _
    · rw [if_pos e1, if_neg e2]; exact h.rise (j - 1) q (by omega) (by omega) h3 (by omega) e2
    · rw [if_neg e1, if_pos e2]; exact h.rise p (j - 1) h1 (by omega) (by omega) e1 (by omega)
    · rw [if_neg e1, if_neg e2]; exact h.rise p q h1 h2 h3 e1 e2
  · rw [hs (j - 1), hs q, if_pos rfl, if_neg (show ¬ q = j - 1 by omega)]
    by_cases e2 : q = j
    · rw [if_pos e2]; omega
    · rw [if_neg e2]; exact h.behind q (by omega) h2
theorem InsR.done {a i j : Nat} {xs : List Int} (h : InsR a i j xs) (hd : j = a ∨ at_ xs (j - 1) ≤ at_ xs j) : SortR a (i + 1) xs := by
  have hle := h.le
  intro p q h1 h2 h3
  by_cases e1 : p = j
  · by_cases e2 : q = j
    · rw [e1, e2]; exact Int.le_refl _
    · rw [e1]; exact h.behind q (by omega) (by omega)
  · by_cases e2 : q = j
    · rcases hd with hd | hd
      · omega
      · rw [e2]
        rcases Nat.lt_or_eq_of_le (show p ≤ j - 1 by omega) with h4 | h4
        · exact Int.le_trans (h.rise p (j - 1) h1 (by omega) (by omega) e1 (by omega)) hd
        · rw [h4]; exact hd
    · exact h.rise p q h1 h2 (by omega) e1 e2

/- Heaps: at f, of hi elements, from lo on; but for what stands at r. -/
def HeapR (f lo hi : Nat) (xs : List Int) : Prop := ∀ i c, lo ≤ i → c < hi → (c = 2 * i + 1 ∨ c = 2 * i + 2) → at_ xs (f + c) ≤ at_ xs (f + i)
structure SiftR (f lo hi r : Nat) (xs : List Int) : Prop where
  le : lo ≤ r
  heap : ∀ i c, lo ≤ i → i ≠ r → c < hi → (c = 2 * i + 1 ∨ c = 2 * i + 2) → at_ xs (f + c) ≤ at_ xs (f + i)
  over : ∀ p c, lo ≤ p → (r = 2 * p + 1 ∨ r = 2 * p + 2) → c < hi → (c = 2 * r + 1 ∨ c = 2 * r + 2) → at_ xs (f + c) ≤ at_ xs (f + p)
theorem SiftR.start {f lo hi : Nat} {xs : List Int} (h : HeapR f (lo + 1) hi xs) : SiftR f lo hi lo xs :=
  ⟨Nat.le_refl _, fun i c h1 h2 h3 h4 => h i c (by omega) h3 h4, fun p c h1 h2 h3 h4 => by omega⟩
theorem SiftR.step {f lo hi r c : Nat} {xs : List Int} (h : SiftR f lo hi r xs) (hc : c = 2 * r + 1 ∨ c = 2 * r + 2) (hch : c < hi) (hl : f + hi ≤ xs.length)
    (hgt : at_ xs (f + r) < at_ xs (f + c)) (hmax : ∀ d, d < hi → (d = 2 * r + 1 ∨ d = 2 * r + 2) → at_ xs (f + d) ≤ at_ xs (f + c)) : SiftR f lo hi c (swq xs (f + r) (f + c)) := by
  have hle := h.le
  have hs := at_swq (xs := xs) (i := f + r) (j := f + c) (by omega) (by omega)
  refine ⟨by omega, fun i d h1 h2 h3 h4 => ?_, fun p d h1 h2 h3 h4 => ?_⟩
  · rw [hs (f + d), hs (f + i), if_neg (show ¬ f + i = f + c by omega)]
    by_cases e : i = r
    · subst e
      rw [if_pos rfl]
      by_cases e2 : d = c
      · rw [if_pos (by omega)]; omega
      · rw [if_neg (by omega), if_neg (by omega)]; exact hmax d h3 h4
    · rw [if_neg (show ¬ f + i = f + r by omega)]
      by_cases e2 : d = c
      · omega
      · rw [if_neg (by omega)]
        by_cases e3 : d = r
        · subst e3
          rw [if_pos rfl]
          exact h.over i c h1 h4 hch hc
        · rw [if_neg (by omega)]
          exact h.heap i d h1 e h3 h4
  · have : p = r := by omega
    subst this
    rw [hs (f + d), hs (f + p), if_neg (show ¬ f + p = f + c by omega), if_pos rfl, if_neg (by omega), if_neg (by omega)]
    exact h.heap c d (by omega) (by omega) h3 h4
theorem SiftR.done {f lo hi r : Nat} {xs : List Int} (h : SiftR f lo hi r xs) (hd : ∀ c, c < hi → (c = 2 * r + 1 ∨ c = 2 * r + 2) → at_ xs (f + c) ≤ at_ xs (f + r)) : HeapR f lo hi xs := fun i c h1 h2 h3 => by
  by_cases e : i = r
  · subst e; exact hd c h2 h3
  · exact h.heap i c h1 e h2 h3
/-- The top is the greatest. -/
theorem HeapR.top {f hi : Nat} {xs : List Int} (h : HeapR f 0 hi xs) : ∀ n i, i ≤ n → i < hi → at_ xs (f + i) ≤ at_ xs f := by
  intro n
  induction n with
  | zero => intro i h1 _; rw [show i = 0 by omega]; exact Int.le_refl _
  | succ n ih =>
    intro i h1 h2
    rcases Nat.eq_zero_or_pos i with e | e
    · rw [e]; exact Int.le_refl _
    · have := h ((i - 1) / 2) i (by omega) h2 (by omega)
      exact Int.le_trans this (ih _ (by omega) (by omega))

/- Partition: those ahead of i below p, those behind j not below. -/
structure PartR (lt : Int → Int → Prop) (a b i j : Nat) (p : Int) (xs : List Int) : Prop where
  at0 : at_ xs a = p
  low : ∀ k, a < k → k < i → lt (at_ xs k) p
  high : ∀ k, j < k → k < b → ¬ lt (at_ xs k) p

theorem PartR.swap {lt : Int → Int → Prop} {a b i j : Nat} {p : Int} {xs : List Int} (h : PartR lt a b i j p xs) (hb : b ≤ xs.length) (hi : a < i) (hij : i ≤ j) (hj : j < b) (hni : ¬ lt (at_ xs i) p) (hlj : lt (at_ xs j) p) : i ≠ j ∧ PartR lt a b (i + 1) (j - 1) p (swq xs i j) := by
  have hne : i ≠ j := fun e => by rw [e] at hni; exact hni hlj
  have hs := at_swq (xs := xs) (i := i) (j := j) (by omega) (by omega)
  refine ⟨hne, ⟨?_, fun k h1 h2 => ?_, fun k h1 h2 => ?_⟩⟩
  · rw [hs a, if_neg (by omega), if_neg (by omega)]; exact h.at0
  · rw [hs k]
    by_cases e : k = i
    · rw [if_neg (by omega), if_pos e]; exact hlj
    · rw [if_neg (by omega), if_neg e]; exact h.low k h1 (by omega)
  · rw [hs k]
    by_cases e : k = j
    · rw [if_pos e]; exact hni
    · rw [if_neg e, if_neg (by omega)]; exact h.high k (by omega) h2
end Go.Herb
