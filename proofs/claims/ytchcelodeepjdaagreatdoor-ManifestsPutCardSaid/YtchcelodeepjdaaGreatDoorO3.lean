/- Plain facts on a list of numbers that is sorted in place. No condition. · Plain facts on a list of numbers that is sorted in place: heaps, partitions, the whole. No condition. · Rows of numbers (uint64); cmp.Less, slices.insertionSortOrdered at uint64. Condition: fewer than 1000000 numbers. -/
import Derived.Test.YtchcelodeepjdaaGreatDoorMp
import Derived.WalkKit
import Derived.WalkSpells
import Derived.WalkLawsBesides
import Derived.Deep.QuietTactic
import Derived.Deep.LoopGhost
import Derived.BigQuiet
import Derived.Lib.Hide
import Derived.IntWalk
import Derived.Deep.RegionHeld3
import Derived.Test.YtchcelodeepjdaaGreatDoorProg
namespace Go.Herb

def at_ (xs : List Int) (i : Nat) : Int := xs.getD i 0
def swq (xs : List Int) (i j : Nat) : List Int := (xs.set i (at_ xs j)).set j (at_ xs i)

theorem at_get {xs : List Int} {i : Nat} (h : i < xs.length) : at_ xs i = xs[i] := by
  unfold at_; rw [List.getD_eq_getElem?_getD, List.getElem?_eq_getElem h]; rfl
theorem swq_len (xs : List Int) (i j : Nat) : (swq xs i j).length = xs.length := by simp [swq]
theorem at_set {xs : List Int} {i : Nat} (hi : i < xs.length) (v : Int) (k : Nat) : at_ (xs.set i v) k = if k = i then v else at_ xs k := by
  unfold at_
  rw [List.getD_eq_getElem?_getD, List.getD_eq_getElem?_getD]
  by_cases h : k = i
  · subst h; rw [List.getElem?_set_self hi, if_pos rfl]; rfl
  · rw [List.getElem?_set_ne (fun e => h e.symm), if_neg h]
theorem at_swq {xs : List Int} {i j : Nat} (hi : i < xs.length) (hj : j < xs.length) (k : Nat) : at_ (swq xs i j) k = if k = j then at_ xs i else if k = i then at_ xs j else at_ xs k := by
  unfold swq
  rw [at_set (by simpa using hj), at_set hi]
theorem swq_perm {xs : List Int} {i j : Nat} (hi : i < xs.length) (hj : j < xs.length) : (swq xs i j).Perm xs := by
  unfold swq
  rw [at_get hi, at_get hj]
  have h := Array.swap_perm (xs := xs.toArray) (i := i) (j := j) (by simpa using hi) (by simpa using hj)
  have h' := h.toList
  simpa [Array.swap] using h'

/-- Only what stands from a on, ahead of b, has changed its places. -/
structure InR (a b : Nat) (xs ys : List Int) : Prop where
  len : ys.length = xs.length
  out : ∀ k, k < a ∨ b ≤ k → at_ ys k = at_ xs k
  perm : ys.Perm xs
theorem InR.refl (a b : Nat) (xs : List Int) : InR a b xs xs := ⟨rfl, fun _ _ => rfl, .refl _⟩
theorem InR.trans {a b : Nat} {xs ys zs : List Int} (h : InR a b xs ys) (k : InR a b ys zs) : InR a b xs zs :=
  ⟨k.len.trans h.len, fun i hi => (k.out i hi).trans (h.out i hi), k.perm.trans h.perm⟩
theorem InR.mono {a b a' b' : Nat} {xs ys : List Int} (h : InR a b xs ys) (ha : a' ≤ a) (hb : b ≤ b') : InR a' b' xs ys :=
  ⟨h.len, fun i hi => h.out i (by omega), h.perm⟩
theorem InR.swq {a b i j : Nat} {xs : List Int} (hb : b ≤ xs.length) (hi : a ≤ i) (hi' : i < b) (hj : a ≤ j) (hj' : j < b) : InR a b xs (swq xs i j) :=
  ⟨swq_len _ _ _, fun k hk => by rw [at_swq (by omega) (by omega), if_neg (by omega), if_neg (by omega)], swq_perm (by omega) (by omega)⟩

theorem InR.mid {a b : Nat} {xs ys : List Int} (h : InR a b xs ys) (hab : a ≤ b) (hb : b ≤ xs.length) : ((ys.drop a).take (b - a)).Perm ((xs.drop a).take (b - a)) := by
  have split : ∀ l : List Int, l = l.take a ++ ((l.drop a).take (b - a) ++ l.drop b) := fun l => by
    conv => lhs; rw [← List.take_append_drop a l, ← List.take_append_drop (b - a) (l.drop a), List.drop_drop, show a + (b - a) = b from by omega]
  have hlen := h.len
  have h1 : ys.take a = xs.take a := List.ext_getElem (by simp; omega) fun k k1 k2 => by
    simp only [List.length_take] at k1
    rw [List.getElem_take, List.getElem_take, ← at_get (by omega), ← at_get (by omega)]
    exact h.out k (by omega)
  have h2 : ys.drop b = xs.drop b := List.ext_getElem (by simp; omega) fun k k1 k2 => by
    simp only [List.length_drop] at k1
    rw [List.getElem_drop, List.getElem_drop, ← at_get (by omega), ← at_get (by omega)]
    exact h.out _ (by omega)
  have hp := h.perm
  rw [split ys, split xs, h1, h2, List.perm_append_left_iff, List.perm_append_right_iff] at hp
  exact hp

/-- What is so of all in the range, stays so. -/
theorem InR.all {a b : Nat} {xs ys : List Int} (h : InR a b xs ys) (hb : b ≤ xs.length) {P : Int → Prop} (hP : ∀ k, a ≤ k → k < b → P (at_ xs k)) (k : Nat) (h1 : a ≤ k) (h2 : k < b) : P (at_ ys k) := by
  have hm := h.mid (by omega) hb
  have hlen := h.len
  have hmem : at_ ys k ∈ (ys.drop a).take (b - a) := by
    rw [at_get (by omega), List.mem_take_iff_getElem]
    refine ⟨k - a, by simp; omega, ?_⟩
    rw [List.getElem_drop]
    congr 1
    omega
  have h3 := hm.mem_iff.1 hmem
  rw [List.mem_take_iff_getElem] at h3
  obtain ⟨i, hi, e⟩ := h3
  rw [List.getElem_drop] at e
  simp only [List.length_drop] at hi
  rw [← e, ← at_get (by omega)]
  exact hP _ (by omega) (by omega)

def SortR (a b : Nat) (xs : List Int) : Prop := ∀ i j, a ≤ i → i ≤ j → j < b → at_ xs i ≤ at_ xs j
theorem SortR.small {a b : Nat} (h : b ≤ a + 1) (xs : List Int) : SortR a b xs := fun i j h1 h2 h3 => by
  have : i = j := by omega
  rw [this]; exact Int.le_refl _
theorem SortR.whole {xs : List Int} (h : SortR 0 xs.length xs) : xs.Pairwise (· ≤ ·) := by
  rw [List.pairwise_iff_getElem]
  intro i j hi hj hij
  have := h i j (by omega) (by omega) hj
  rw [at_get hi, at_get hj] at this
  exact this

/-- Behind an end, or what is there is not greater than all of the range. -/
def LowR (a b : Nat) (xs : List Int) : Prop := 0 < a → ∀ k, a ≤ k → k < b → at_ xs (a - 1) ≤ at_ xs k
theorem LowR.kept {a b : Nat} {xs ys : List Int} (h : LowR a b xs) (hr : InR a b xs ys) (hb : b ≤ xs.length) : LowR a b ys := fun h0 k h1 h2 => by
  rw [hr.out (a - 1) (by omega)]
  exact hr.all hb (P := fun v => at_ xs (a - 1) ≤ v) (h h0) k h1 h2

/-- The three parts of a range, each sorted. -/
theorem SortR.join {a m b : Nat} {xs : List Int} (h1 : SortR a m xs) (h2 : SortR (m + 1) b xs) (hl : ∀ k, a ≤ k → k < m → at_ xs k ≤ at_ xs m) (hr : ∀ k, m < k → k < b → at_ xs m ≤ at_ xs k) : SortR a b xs := by
  intro i j hi hij hj
  rcases Nat.lt_trichotomy j m with h | h | h
  · exact h1 i j hi hij h
  · subst h
    rcases Nat.lt_or_eq_of_le hij with h | h
    · exact hl i hi h
    · rw [h]; exact Int.le_refl _
  · rcases Nat.lt_trichotomy i m with h' | h' | h'
    · exact Int.le_trans (hl i hi h') (hr j h hj)
    · rw [h']; exact hr j h hj
    · exact h2 i j h' hij hj
theorem SortR.kept {a b : Nat} {xs ys : List Int} (h : SortR a b xs) (he : ∀ k, a ≤ k → k < b → at_ ys k = at_ xs k) : SortR a b ys := fun i j h1 h2 h3 => by
  rw [he i h1 (by omega), he j (by omega) h3]; exact h i j h1 h2 h3

/- Insertion: all but what stands at j is sorted, and that is not above what is behind it. -/
structure InsR (a i j : Nat) (xs : List Int) : Prop where
  le : a ≤ j ∧ j ≤ i
  rise : ∀ p q, a ≤ p → p ≤ q → q ≤ i → p ≠ j → q ≠ j → at_ xs p ≤ at_ xs q
  behind : ∀ q, j < q → q ≤ i → at_ xs j ≤ at_ xs q
theorem InsR.start {a i : Nat} {xs : List Int} (h : SortR a i xs) (hi : a ≤ i) : InsR a i i xs :=
  ⟨⟨hi, Nat.le_refl _⟩, fun p q h1 h2 h3 h4 h5 => h p q h1 h2 (by omega), fun q h1 h2 => by omega⟩
theorem InsR.step {a i j : Nat} {xs : List Int} (h : InsR a i j xs) (hj : a < j) (hi : i < xs.length) (hlt : at_ xs j < at_ xs (j - 1)) : InsR a i (j - 1) (swq xs j (j - 1)) := by
  have hle := h.le
  have hs := at_swq (xs := xs) (i := j) (j := j - 1) (by omega) (by omega)
  refine ⟨by omega, fun p q h1 h2 h3 h4 h5 => ?_, fun q h1 h2 => ?_⟩
  · rw [hs p, hs q, if_neg h4, if_neg h5]
    by_cases e1 : p = j <;> by_cases e2 : q = j
    · rw [if_pos e1, if_pos e2]; exact Int.le_refl _
    · rw [if_pos e1, if_neg e2]; exact h.rise (j - 1) q (by omega) (by omega) h3 (by omega) e2
    · rw [if_neg e1, if_pos e2]; exact h.rise p (j - 1) h1 (by omega) (by omega) e1 (by omega)
    · rw [if_neg e1, if_neg e2]; exact h.rise p q h1 h2 h3 e1 e2
  · rw [hs (j - 1), hs q, if_pos rfl, if_neg (show ¬ q = j - 1 by omega)]
    by_cases e2 : q = j
    · rw [if_pos e2]; omega
    · rw [if_neg e2]; exact h.behind q (by omega) h2
theorem InsR.done {a i j : Nat} {xs : List Int} (h : InsR a i j xs) (hd : j = a ∨ at_ xs (j - 1) ≤ at_ xs j) : SortR a (i + 1) xs := by
  have hle := h.le
  intro p q h1 h2 h3
  by_cases e1 : p = j
  · by_cases e2 : q = j
    · rw [e1, e2]; exact Int.le_refl _
    · rw [e1]; exact h.behind q (by omega) (by omega)
  · by_cases e2 : q = j
    · rcases hd with hd | hd
      · omega
      · rw [e2]
        rcases Nat.lt_or_eq_of_le (show p ≤ j - 1 by omega) with h4 | h4
        · exact Int.le_trans (h.rise p (j - 1) h1 (by omega) (by omega) e1 (by omega)) hd
        · rw [h4]; exact hd
    · exact h.rise p q h1 h2 (by omega) e1 e2

/- Heaps: at f, of hi elements, from lo on; but for what stands at r. -/
def HeapR (f lo hi : Nat) (xs : List Int) : Prop := ∀ i c, lo ≤ i → c < hi → (c = 2 * i + 1 ∨ c = 2 * i + 2) → at_ xs (f + c) ≤ at_ xs (f + i)
structure SiftR (f lo hi r : Nat) (xs : List Int) : Prop where
  le : lo ≤ r
  heap : ∀ i c, lo ≤ i → i ≠ r → c < hi → (c = 2 * i + 1 ∨ c = 2 * i + 2) → at_ xs (f + c) ≤ at_ xs (f + i)
  over : ∀ p c, lo ≤ p → (r = 2 * p + 1 ∨ r = 2 * p + 2) → c < hi → (c = 2 * r + 1 ∨ c = 2 * r + 2) → at_ xs (f + c) ≤ at_ xs (f + p)
theorem SiftR.start {f lo hi : Nat} {xs : List Int} (h : HeapR f (lo + 1) hi xs) : SiftR f lo hi lo xs :=
  ⟨Nat.le_refl _, fun i c h1 h2 h3 h4 => h i c (by omega) h3 h4, fun p c h1 h2 h3 h4 => by omega⟩
theorem SiftR.step {f lo hi r c : Nat} {xs : List Int} (h : SiftR f lo hi r xs) (hc : c = 2 * r + 1 ∨ c = 2 * r + 2) (hch : c < hi) (hl : f + hi ≤ xs.length)
    (hgt : at_ xs (f + r) < at_ xs (f + c)) (hmax : ∀ d, d < hi → (d = 2 * r + 1 ∨ d = 2 * r + 2) → at_ xs (f + d) ≤ at_ xs (f + c)) : SiftR f lo hi c (swq xs (f + r) (f + c)) := by
  have hle := h.le
  have hs := at_swq (xs := xs) (i := f + r) (j := f + c) (by omega) (by omega)
  refine ⟨by omega, fun i d h1 h2 h3 h4 => ?_, fun p d h1 h2 h3 h4 => ?_⟩
  · rw [hs (f + d), hs (f + i), if_neg (show ¬ f + i = f + c by omega)]
    by_cases e : i = r
    · subst e
      rw [if_pos rfl]
      by_cases e2 : d = c
      · rw [if_pos (by omega)]; omega
      · rw [if_neg (by omega), if_neg (by omega)]; exact hmax d h3 h4
    · rw [if_neg (show ¬ f + i = f + r by omega)]
      by_cases e2 : d = c
      · omega
      · rw [if_neg (by omega)]
        by_cases e3 : d = r
        · subst e3
          rw [if_pos rfl]
          exact h.over i c h1 h4 hch hc
        · rw [if_neg (by omega)]
          exact h.heap i d h1 e h3 h4
  · have : p = r := by omega
    subst this
    rw [hs (f + d), hs (f + p), if_neg (show ¬ f + p = f + c by omega), if_pos rfl, if_neg (by omega), if_neg (by omega)]
    exact h.heap c d (by omega) (by omega) h3 h4
theorem SiftR.done {f lo hi r : Nat} {xs : List Int} (h : SiftR f lo hi r xs) (hd : ∀ c, c < hi → (c = 2 * r + 1 ∨ c = 2 * r + 2) → at_ xs (f + c) ≤ at_ xs (f + r)) : HeapR f lo hi xs := fun i c h1 h2 h3 => by
  by_cases e : i = r
  · subst e; exact hd c h2 h3
  · exact h.heap i c h1 e h2 h3
/-- The top is the greatest. -/
theorem HeapR.top {f hi : Nat} {xs : List Int} (h : HeapR f 0 hi xs) : ∀ n i, i ≤ n → i < hi → at_ xs (f + i) ≤ at_ xs f := by
  intro n
  induction n with
  | zero => intro i h1 _; rw [show i = 0 by omega]; exact Int.le_refl _
  | succ n ih =>
    intro i h1 h2
    rcases Nat.eq_zero_or_pos i with e | e
    · rw [e]; exact Int.le_refl _
    · have := h ((i - 1) / 2) i (by omega) h2 (by omega)
      exact Int.le_trans this (ih _ (by omega) (by omega))

/- Partition: those ahead of i below p, those behind j not below. -/
structure PartR (lt : Int → Int → Prop) (a b i j : Nat) (p : Int) (xs : List Int) : Prop where
  at0 : at_ xs a = p
  low : ∀ k, a < k → k < i → lt (at_ xs k) p
  high : ∀ k, j < k → k < b → ¬ lt (at_ xs k) p

theorem PartR.swap {lt : Int → Int → Prop} {a b i j : Nat} {p : Int} {xs : List Int} (h : PartR lt a b i j p xs) (hb : b ≤ xs.length) (hi : a < i) (hij : i ≤ j) (hj : j < b) (hni : ¬ lt (at_ xs i) p) (hlj : lt (at_ xs j) p) : i ≠ j ∧ PartR lt a b (i + 1) (j - 1) p (swq xs i j) := by
  have hne : i ≠ j := fun e => by rw [e] at hni; exact hni hlj
  have hs := at_swq (xs := xs) (i := i) (j := j) (by omega) (by omega)
  refine ⟨hne, ⟨?_, fun k h1 h2 => ?_, fun k h1 h2 => ?_⟩⟩
  · rw [hs a, if_neg (by omega), if_neg (by omega)]; exact h.at0
  · rw [hs k]
    by_cases e : k = i
    · rw [if_neg (by omega), if_pos e]; exact hlj
    · rw [if_neg (by omega), if_neg e]; exact h.low k h1 (by omega)
  · rw [hs k]
    by_cases e : k = j
    · rw [if_pos e]; exact hni
    · rw [if_neg e, if_neg (by omega)]; exact h.high k (by omega) h2
end Go.Herb

namespace Go.Herb

theorem HeapR.none {f hi : Nat} (xs : List Int) (lo : Nat) (h : hi ≤ 2 * lo + 1) : HeapR f lo hi xs := fun i c h1 h2 h3 => by omega
theorem HeapR.less {f lo hi : Nat} {xs : List Int} (h : HeapR f lo hi xs) {lo' : Nat} (hl : lo ≤ lo') : HeapR f lo' hi xs := fun i c h1 h2 h3 => h i c (by omega) h2 h3

/- What has been popped stands behind, sorted. -/
structure PopR (f k n : Nat) (xs : List Int) : Prop where
  heap : HeapR f 0 k xs
  sorted : SortR (f + k) (f + n) xs
  sep : ∀ p q, f ≤ p → p < f + k → f + k ≤ q → q < f + n → at_ xs p ≤ at_ xs q
theorem PopR.start {f n : Nat} {xs : List Int} (h : HeapR f 0 n xs) : PopR f n n xs := ⟨h, fun i j h1 h2 h3 => by omega, fun p q h1 h2 h3 h4 => by omega⟩
theorem PopR.step {f i n : Nat} {xs : List Int} (h : PopR f (i + 1) n xs) (hi : i < n) (hl : f + n ≤ xs.length) :
    HeapR f 1 i (swq xs f (f + i)) ∧ ∀ ys, InR f (f + i) (swq xs f (f + i)) ys → HeapR f 0 i ys → PopR f i n ys := by
  have hs := at_swq (xs := xs) (i := f) (j := f + i) (by omega) (by omega)
  have hsl := swq_len xs f (f + i)
  refine ⟨fun p c h1 h2 h3 => ?_, fun ys hr hh => ?_⟩
  · rw [hs (f + c), hs (f + p), if_neg (by omega), if_neg (by omega), if_neg (by omega), if_neg (by omega)]
    exact h.heap p c (by omega) (by omega) h3
  · have htop : ∀ k, f ≤ k → k < f + i → at_ ys k ≤ at_ xs f := hr.all (by omega) (P := fun v => v ≤ at_ xs f) (fun k h1 h2 => by
      rw [hs k, if_neg (by omega)]
      split
      · exact h.heap.top (i + 1) i (by omega) (by omega)
      · have := h.heap.top (i + 1) (k - f) (by omega) (by omega)
        rwa [show f + (k - f) = k from by omega] at this)
    have hout : ∀ k, f + i ≤ k → at_ ys k = if k = f + i then at_ xs f else at_ xs k := fun k hk => by
      rw [hr.out k (by omega), hs k]
      by_cases e : k = f + i
      · rw [if_pos e, if_pos e]
      · rw [if_neg e, if_neg e]
        split
        · omega
        · rfl
    have hsep : ∀ q, f + i < q → q < f + n → at_ xs f ≤ at_ xs q := fun q h1 h2 => h.sep f q (by omega) (by omega) (by omega) h2
    refine ⟨hh, fun p q h1 h2 h3 => ?_, fun p q h1 h2 h3 h4 => ?_⟩
    · rw [hout p h1, hout q (by omega)]
      by_cases e : p = f + i
      · rw [if_pos e]
        by_cases e2 : q = f + i
        · rw [if_pos e2]; exact Int.le_refl _
        · rw [if_neg e2]; exact hsep q (by omega) h3
      · rw [if_neg e, if_neg (by omega)]
        exact h.sorted p q (by omega) h2 h3
    · rw [hout q h3]
      by_cases e2 : q = f + i
      · rw [if_pos e2]; exact htop p h1 h2
      · rw [if_neg e2]; exact Int.le_trans (htop p h1 h2) (hsep q (by omega) h4)
theorem PopR.done {f n : Nat} {xs : List Int} (h : PopR f 0 n xs) : SortR f (f + n) xs := h.sorted

/-- The pivot goes to its place. -/
theorem PartR.fin {lt : Int → Int → Prop} {a b j : Nat} {p : Int} {xs : List Int} (h : PartR lt a b (j + 1) j p xs) (hb : b ≤ xs.length) (hj : a ≤ j) (hjb : j < b) :
    at_ (swq xs j a) j = p ∧ (∀ k, a ≤ k → k < j → lt (at_ (swq xs j a) k) p) ∧ ∀ k, j < k → k < b → ¬ lt (at_ (swq xs j a) k) p := by
  have hs := at_swq (xs := xs) (i := j) (j := a) (by omega) (by omega)
  refine ⟨?_, fun k h1 h2 => ?_, fun k h1 h2 => ?_⟩
  · rw [hs j]
    by_cases e : j = a
    · rw [if_pos e, e]; exact h.at0
    · rw [if_neg e, if_pos rfl]; exact h.at0
  · rw [hs k]
    by_cases e : k = a
    · rw [if_pos e]; exact h.low j (by omega) (by omega)
    · rw [if_neg e, if_neg (by omega)]; exact h.low k (by omega) (by omega)
  · rw [hs k, if_neg (by omega), if_neg (by omega)]
    exact h.high k h1 h2

/-- If what is left is sorted, all is. -/
def RestR (a b a' b' : Nat) (xs : List Int) : Prop := ∀ ys, InR a' b' xs ys → SortR a' b' ys → SortR a b ys
theorem RestR.start (a b : Nat) (xs : List Int) : RestR a b a b xs := fun _ _ h => h
theorem RestR.kept {a b a' b' : Nat} {xs ys : List Int} (h : RestR a b a' b' xs) (hr : InR a' b' xs ys) : RestR a b a' b' ys := fun zs hz hs => h zs (hr.trans hz) hs
/-- Behind a partition of equals: they stand where they belong. -/
theorem RestR.equals {a b a' b' mid : Nat} {p : Int} {xs : List Int} (h : RestR a b a' b' xs) (hl : LowR a' b' xs) (h0 : 0 < a') (hle : p ≤ at_ xs (a' - 1)) (ha : a' ≤ mid) (hm : mid ≤ b') (hb : b' ≤ xs.length)
    (h1 : ∀ k, a' ≤ k → k < mid → at_ xs k ≤ p) (h2 : ∀ k, mid ≤ k → k < b' → p < at_ xs k) : RestR a b mid b' xs ∧ LowR mid b' xs := by
  have heq : ∀ k, a' ≤ k → k < mid → at_ xs k = p := fun k k1 k2 => by
    have := h1 k k1 k2
    have := hl h0 k k1 (by omega)
    omega
  refine ⟨fun ys hr hs => h ys (hr.mono ha (Nat.le_refl _)) (fun i j h3 h4 h5 => ?_), fun h3 k h4 h5 => ?_⟩
  · have hall := hr.all hb (P := fun v => p < v) h2
    have hout : ∀ k, a' ≤ k → k < mid → at_ ys k = p := fun k k1 k2 => (hr.out k (by omega)).trans (heq k k1 k2)
    rcases Nat.lt_or_ge j mid with hj | hj
    · rw [hout i h3 (by omega), hout j (by omega) hj]; exact Int.le_refl _
    · rcases Nat.lt_or_ge i mid with hi | hi
      · rw [hout i h3 hi]; have := hall j hj h5; omega
      · exact hs i j hi h4 h5
  · rcases Nat.lt_or_eq_of_le ha with h6 | h6
    · have := h1 (mid - 1) (by omega) (by omega)
      have := h2 k h4 h5
      omega
    · subst h6
      exact hl h3 k h4 h5
/-- Behind a partition, with the left part sorted. -/
theorem RestR.left {a b a' b' mid : Nat} {p : Int} {xs ys : List Int} (h : RestR a b a' b' xs) (ha : a' ≤ mid) (hm : mid < b') (hb : b' ≤ xs.length) (hp : at_ xs mid = p) (h1 : ∀ k, a' ≤ k → k < mid → at_ xs k < p) (h2 : ∀ k, mid < k → k < b' → ¬ at_ xs k < p)
    (hr : InR a' mid xs ys) (hs : SortR a' mid ys) : RestR a b (mid + 1) b' ys ∧ LowR (mid + 1) b' ys := by
  have hlen := hr.len
  have hlo := hr.all (by omega) (P := fun v => v < p) h1
  have hmid : at_ ys mid = p := (hr.out mid (by omega)).trans hp
  have hhi : ∀ k, mid + 1 ≤ k → k < b' → ¬ at_ ys k < p := fun k k1 k2 => by rw [hr.out k (by omega)]; exact h2 k (by omega) k2
  refine ⟨fun zs hz hsz => h zs ((hr.mono (Nat.le_refl _) (by omega)).trans (hz.mono (by omega) (Nat.le_refl _))) ?_, fun _ k k1 k2 => ?_⟩
  · have hall := hz.all (by omega) (P := fun v => ¬ v < p) hhi
    have hmz : at_ zs mid = p := (hz.out mid (by omega)).trans hmid
    refine SortR.join (hs.kept (fun k k1 k2 => hz.out k (by omega))) hsz (fun k k1 k2 => ?_) (fun k k1 k2 => ?_)
    · rw [hmz, hz.out k (by omega)]; exact Int.le_of_lt (hlo k k1 k2)
    · rw [hmz]; have := hall k (by omega) k2; omega
  · rw [show mid + 1 - 1 = mid from rfl, hmid]
    have := hhi k k1 k2
    omega
/-- Behind a partition, with the right part sorted. -/
theorem RestR.right {a b a' b' mid : Nat} {p : Int} {xs ys : List Int} (h : RestR a b a' b' xs) (hl : LowR a' b' xs) (ha : a' ≤ mid) (hm : mid < b') (hb : b' ≤ xs.length) (hp : at_ xs mid = p) (h1 : ∀ k, a' ≤ k → k < mid → at_ xs k < p) (h2 : ∀ k, mid < k → k < b' → ¬ at_ xs k < p)
    (hr : InR (mid + 1) b' xs ys) (hs : SortR (mid + 1) b' ys) : RestR a b a' mid ys ∧ LowR a' mid ys := by
  have hlen := hr.len
  have hhi := hr.all hb (P := fun v => ¬ v < p) (fun k k1 k2 => h2 k (by omega) k2)
  have hmid : at_ ys mid = p := (hr.out mid (by omega)).trans hp
  have hlo : ∀ k, a' ≤ k → k < mid → at_ ys k < p := fun k k1 k2 => by rw [hr.out k (by omega)]; exact h1 k k1 k2
  refine ⟨fun zs hz hsz => h zs ((hr.mono (by omega) (Nat.le_refl _)).trans (hz.mono (Nat.le_refl _) (by omega))) ?_, fun h0 k k1 k2 => ?_⟩
  · have hall := hz.all (by omega) (P := fun v => v < p) hlo
    have hmz : at_ zs mid = p := (hz.out mid (by omega)).trans hmid
    refine SortR.join hsz (hs.kept (fun k k1 k2 => hz.out k (by omega))) (fun k k1 k2 => ?_) (fun k k1 k2 => ?_)
    · rw [hmz]; exact Int.le_of_lt (hall k k1 k2)
    · rw [hmz, hz.out k (by omega)]; have := hhi k (by omega) k2; omega
  · rw [hr.out (a' - 1) (by omega), hr.out k (by omega)]
    exact hl h0 k k1 (by omega)
/-- The right part's bound below. -/
theorem LowR.behind {b' mid : Nat} {p : Int} {xs : List Int} (hp : at_ xs mid = p) (h2 : ∀ k, mid < k → k < b' → ¬ at_ xs k < p) : LowR (mid + 1) b' xs := fun _ k k1 k2 => by
  rw [show mid + 1 - 1 = mid from rfl, hp]
  have := h2 k (by omega) k2
  omega
theorem LowR.less {a b b' : Nat} {xs : List Int} (h : LowR a b xs) (hb : b' ≤ b) : LowR a b' xs := fun h0 k h1 h2 => h h0 k h1 (by omega)

/-- A sorted permutation is one list. -/
theorem sort_one {xs ys : List Int} (hp : xs.Perm ys) (h1 : xs.Pairwise (· ≤ ·)) (h2 : ys.Pairwise (· ≤ ·)) : xs = ys := hp.eq_of_pairwise (fun _ _ _ _ h3 h4 => Int.le_antisymm h3 h4) h1 h2
end Go.Herb

namespace Go.Proofs.YtchcelodeepjdaaGreatDoor.Vx
open Go.RowKit Go.Herb

def nu (x : Int) : List Value := [.int .u64 x]
theorem nu_len (x : Int) : (nu x).length = 1 := rfl
abbrev RowU (w : World) (g cap : Nat) (xs : List Int) : Prop := Row nu 1 (26) w g cap xs
theorem rowU_cell {w : World} {g cap : Nat} {xs : List Int} (h : RowU w g cap xs) (i : Nat) (hi : i < xs.length) : w.cell? ⟨g, i, none⟩ = some (.int .u64 (at_ xs i)) := by
  rw [at_get hi]
  have := h.cell nu_len i hi 0 _ rfl
  simpa using this
theorem flat_nu (xs : List Int) : xs.flatMap nu = xs.map (fun m => Value.int .u64 m) := by
  induction xs with
  | nil => rfl
  | cons x xs ih => rw [List.flatMap_cons, List.map_cons, ih]; rfl
theorem rowU_set {w : World} {g cap : Nat} {xs : List Int} (h : RowU w g cap xs) (i : Nat) (x : Int) : RowU (w.setCell ⟨g, i, none⟩ (.int .u64 x)) g cap (xs.set i x) := by
  obtain ⟨cur, hc, hsz, htk⟩ := h.blk
  refine ⟨⟨_, blk_setCell hc _, by simpa using hsz, ?_⟩, by simpa using h.le, h.max⟩
  rw [flat_nu] at htk ⊢
  rw [Array.toList_setIfInBounds, List.length_set, List.take_set, htk, List.map_set]
theorem rowU_swap {w : World} {g cap : Nat} {xs : List Int} (h : RowU w g cap xs) (i j : Nat) : RowU ((w.setCell ⟨g, i, none⟩ (.int .u64 (at_ xs j))).setCell ⟨g, j, none⟩ (.int .u64 (at_ xs i))) g cap (swq xs i j) := rowU_set (rowU_set h i _) j _
theorem rowU_drew {w : World} {g cap : Nat} {xs : List Int} (h : RowU w g cap xs) : RowU w.drew g cap xs := h.same rfl
theorem rowU_drewN {w : World} {g cap : Nat} {xs : List Int} (h : RowU w g cap xs) (n : Nat) : RowU (w.drewN n) g cap xs := h.same rfl
theorem grown_drewN {a b : World} {row : Option Nat} (h : a.grownBy b row) (n : Nat) : a.grownBy (b.drewN n) row := ⟨h.os, h.tape, h.output, h.size, h.block⟩

theorem isNaN_u (a : Int) (w : World) : Calls Tryz.prog (112) #[.int .u64 a] w fun e w' => e = .returned (.bool false) ∧ w = w' := by
  go_enter Tryz.func112, Tryz.ntmps112
  go_wp2
  go_ret
  exact ⟨rfl, rfl⟩
theorem less_t {a b : Int} (h : a < b) (w : World) : Calls Tryz.prog (123) #[.int .u64 a, .int .u64 b] w fun e w' => e = .returned (.bool true) ∧ w' = w := by
  have hd : decide (a < b) = true := decide_eq_true h
  clear h
  go_enter Tryz.func123, Tryz.ntmps123
  go_wp2_with (go_at_call 112; refine (isNaN_u _ _).mono ?_; rintro e w' ⟨rfl, rfl⟩)
  go_ret
  exact ⟨rfl, rfl⟩
theorem less_f {a b : Int} (h : b ≤ a) (w : World) : Calls Tryz.prog (123) #[.int .u64 a, .int .u64 b] w fun e w' => e = .returned (.bool false) ∧ w' = w := by
  have hd : decide (a < b) = false := decide_eq_false (by omega)
  clear h
  go_enter Tryz.func123, Tryz.ntmps123
  go_wp2_with (go_at_call 112; refine (isNaN_u _ _).mono ?_; rintro e w' ⟨rfl, rfl⟩)
  go_ret
  exact ⟨rfl, rfl⟩

/-- Nothing is answered; only in a part of the row have places changed, and so. -/
def RowPost (a b : Nat) (Q : List Int → Prop) (g cap : Nat) (xs : List Int) (w : World) (e : Ending) (w' : World) : Prop :=
  e = .returned (.tuple #[]) ∧ ∃ ys, InR a b xs ys ∧ Q ys ∧ RowU w' g cap ys ∧ w.grownBy w' (some g)

set_option maxHeartbeats 2000000 in
theorem insertion_any (g cap a b N : Nat) (xs : List Int) (hN : xs.length = N) (hbN : b ≤ N) (w : World) (h : RowU w g cap xs) (hl : N < 1000000) (hab : a ≤ b) :
    Calls Tryz.prog (117) #[.slice (some ⟨g, 0, none⟩) N cap, .int .i64 a, .int .i64 b] w (RowPost a b (SortR a b) g cap xs w) := by
  have H := Lib.hid h
  have HN := Lib.hid hN
  clear h hN
  go_enter Tryz.func117, Tryz.ntmps117
  go_wp2
  go_loopg [6] (b + 1 - a) (fun gk iv wr => ∃ (i : Nat) (ys : List Int), i + gk = b + 1 + 1 ∧ a < i ∧ i ≤ b + 1 ∧ iv = .int .i64 i ∧ SortR a (min i b) ys ∧ InR a b xs ys ∧ RowU wr g cap ys ∧ w.grownBy wr (some g))
  case atStart => exact ⟨a + 1, _, by omega, by omega, by omega, by go_num, SortR.small (by omega) _, InR.refl _ _ _, H.out, grown_refl _ _⟩
  case round =>
    obtain ⟨i, ys, hi, hai, hib, rfl, hs, hr, hR, hg⟩ := hrel
    have HS := Lib.hid hs
    have HR := Lib.hid hR
    have HG := Lib.hid hg
    have HI := Lib.hid hr
    clear hs hR hg hr
    by_cases hlt : i < b
    · obtain ⟨gi, rfl⟩ : ∃ gi : Nat, gi = gk := ⟨_, rfl⟩
      obtain ⟨wo, rfl⟩ : ∃ wo : World, wo = wr := ⟨_, rfl⟩
      have hin : InsR a i i ys := by
        have := HS.out
        rw [show min i b = i from by omega] at this
        exact InsR.start this (by omega)
      have HIN := Lib.hid hin
      clear hin
      go_wp2
      go_loopg [7] i (fun gk jv wr => ∃ (j : Nat) (zs : List Int), gk = j ∧ a ≤ j ∧ j ≤ i ∧ jv = .int .i64 j ∧ InsR a i j zs ∧ InR a b xs zs ∧ RowU wr g cap zs ∧ w.grownBy wr (some g))
      case atStart => exact ⟨i, ys, rfl, by omega, by omega, rfl, HIN.out, HI.out, HR.out, HG.out⟩
      case round =>
        obtain ⟨j, zs, hj, haj, hji, rfl, hins, hr2, hR2, hg2⟩ := hrel
        have hzl : zs.length = N := by rw [hr2.len]; exact HN.out
        have HI2 := Lib.hid hins
        have HQ2 := Lib.hid hr2
        have HR2 := Lib.hid hR2
        have HG2 := Lib.hid hg2
        by_cases hja : a < j
        · have c0 := rowU_cell hR2 j (by omega)
          have d0 := rowU_cell hR2 (j - 1) (by omega)
          have HZL := Lib.hid hzl
          clear hins hR2 hg2 hr2 hzl
          have hjb : decide (a < j) = true := by simp; omega
          have hw1 : IntKind.i64.wrap ((j : Int) - 1) = (j : Int) - 1 := IntWalk.i64_in _ (by omega)
          have hp1 : (0 : Int) ≤ (j : Int) - 1 := by omega
          have hp1' : (1 : Int) ≤ (j : Int) := by omega
          have hq1 : ((j : Int) - 1).toNat = j - 1 := by omega
          have hr1 : (j : Int) - 1 < (N : Int) := by omega
          have hr2 : (j : Int) < (N : Int) := by omega
          by_cases hs : at_ zs j < at_ zs (j - 1)
          · have HS2 := Lib.hid hs
            clear hs
            go_wp2_with fail
            go_quiet ((go_at_call 123; exact Calls.quiet_of_same (less_t HS2.out _)))
            have HRQ := Lib.hid (rowU_drewN HR2.out nq)
            have HGQ := Lib.hid (grown_drewN HG2.out nq)
            have c1 := rowU_cell HRQ.out j (by have := HZL.out; omega)
            have d1 := rowU_cell HRQ.out (j - 1) (by have := HZL.out; omega)
            have f0 := HRQ.out.frozen j
            have g0 := HRQ.out.frozen (j - 1)
            generalize wr.drewN nq = wq at *
            clear c0 d0
            have hne : ¬ j = j - 1 := by omega
            go_wp2
            go_region
            clear hw1 hp1 hp1' hq1 hr1 hr2 f0 g0 c1 d1
            go_wp2
            go_roundg (j - 1)
            case measure => omega
            case rel =>
              have hzl := HZL.out
              refine ⟨j - 1, swq zs j (j - 1), rfl, by omega, by omega, by go_num, InsR.step HI2.out hja (by omega) HS2.out, HQ2.out.trans (InR.swq (by omega) (by omega) (by omega) (by omega) (by omega)), ?_, ?_⟩
              · exact rowU_drew (rowU_swap HRQ.out j (j - 1))
              · exact grown_drew (grown_set (grown_set HGQ.out _ _) _ _)
          · have HS2 := Lib.hid (Int.not_lt.1 hs)
            clear hs
            go_wp2_with fail
            go_quiet ((go_at_call 123; exact Calls.quiet_of_same (less_f HS2.out _)))
            have HRQ := Lib.hid (rowU_drewN HR2.out nq)
            have HGQ := Lib.hid (grown_drewN HG2.out nq)
            clear hw1 hp1 hp1' hq1 hr1 hr2 c0 d0
            go_wp2
            go_roundg (gi - 1)
            case measure => omega
            case rel => exact ⟨i + 1, zs, by omega, by omega, by omega, by go_num, by rw [show min (i + 1) b = i + 1 from by omega]; exact HI2.out.done (.inr HS2.out), HQ2.out, HRQ.out, HGQ.out⟩
        · have hjb : decide (a < j) = false := by simp; omega
          clear hins hR2 hg2 hr2 hzl
          have hje : j = a := by omega
          have HJE := Lib.hid hje
          clear hje
          go_wp2_with fail
          go_quiet (fail)
          have HRQ := Lib.hid (rowU_drewN HR2.out nq)
          have HGQ := Lib.hid (grown_drewN HG2.out nq)
          go_wp2
          go_roundg (gi - 1)
          case measure => omega
          case rel => exact ⟨i + 1, zs, by omega, by omega, by omega, by go_num, by rw [show min (i + 1) b = i + 1 from by omega]; exact HI2.out.done (.inl HJE.out), HQ2.out, HRQ.out, HGQ.out⟩
    · have hie : i = b ∨ i = b + 1 := by omega
      go_wp2
      go_end0
      exact ⟨rfl, ys, HI.out, by have := HS.out; rwa [show min i b = b from by omega] at this, HR.out, HG.out⟩
end Go.Proofs.YtchcelodeepjdaaGreatDoor.Vx
