/- Plain facts on a list of numbers that is sorted in place: heaps, partitions, the whole. No condition. -/
import Derived.Test.YtnnpheklgdbohaaO1
namespace Go.Herb

theorem HeapR.none {f hi : Nat} (xs : List Int) (lo : Nat) (h : hi ≤ 2 * lo + 1) : HeapR f lo hi xs := fun i c h1 h2 h3 => by omega
theorem HeapR.less {f lo hi : Nat} {xs : List Int} (h : HeapR f lo hi xs) {lo' : Nat} (hl : lo ≤ lo') : HeapR f lo' hi xs := fun i c h1 h2 h3 => h i c (by omega) h2 h3

/- What has been popped stands behind, sorted. -/
structure PopR (f k n : Nat) (xs : List Int) : Prop where
  heap : HeapR f 0 k xs
  sorted : SortR (f + k) (f + n) xs
  sep : ∀ p q, f ≤ p → p < f + k → f + k ≤ q → q < f + n → at_ xs p ≤ at_ xs q
theorem PopR.start {f n : Nat} {xs : List Int} (h : HeapR f 0 n xs) : PopR f n n xs := ⟨h, fun i j h1 h2 h3 => by omega, fun p q h1 h2 h3 h4 => by omega⟩
theorem PopR.step {f i n : Nat} {xs : List Int} (h : PopR f (i + 1) n xs) (hi : i < n) (hl : f + n ≤ xs.length) :
    HeapR f 1 i (swq xs f (f + i)) ∧ ∀ ys, InR f (f + i) (swq xs f (f + i)) ys → HeapR f 0 i ys → PopR f i n ys := by
  have hs := at_swq (xs := xs) (i := f) (j := f + i) (by omega) (by omega)
  have hsl := swq_len xs f (f + i)
  refine ⟨fun p c h1 h2 h3 => ?_, fun ys hr hh => ?_⟩
  · rw [hs (f + c), hs (f + p), if_neg (by omega), if_neg (by omega), if_neg (by omega), if_neg (by omega)]
    exact h.heap p c (by omega) (by omega) h3
  · have htop : ∀ k, f ≤ k → k < f + i → at_ ys k ≤ at_ xs f := hr.all (by omega) (P := fun v => v ≤ at_ xs f) (fun k h1 h2 => by
      rw [hs k, if_neg (by omega)]
      split
      · exact h.heap.top (i + 1) i (by omega) (by omega)
      · have := h.heap.top (i + 1) (k - f) (by omega) (by omega)
        rwa [show f + (k - f) = k from by omega] at this)
    have hout : ∀ k, f + i ≤ k → at_ ys k = if k = f + i then at_ xs f else at_ xs k := fun k hk => by
      rw [hr.out k (by omega), hs k]
      by_cases e : k = f + i
      · rw [if_pos e, if_pos e]
      · rw [if_neg e, if_neg e]
        split
        · omega
        · rfl
    have hsep : ∀ q, f + i < q → q < f + n → at_ xs f ≤ at_ xs q := fun q h1 h2 => h.sep f q (by omega) (by omega) (by omega) h2
    refine ⟨hh, fun p q h1 h2 h3 => ?_, fun p q h1 h2 h3 h4 => ?_⟩
    · rw [hout p h1, hout q (by omega)]
      by_cases e : p = f + i
      · rw [if_pos e]
        by_cases e2 : q = f + i
        · rw [if_pos e2]; exact Int.le_refl _
        · rw [if_neg e2]; exact hsep q (by omega) h3
      · rw [if_neg e, if_neg (by omega)]
        exact h.sorted p q (by omega) h2 h3
    · rw [hout q h3]
      by_cases e2 : q = f + i
      · rw [if_pos e2]; exact htop p h1 h2
      · rw [if_neg e2]; exact Int.le_trans (htop p h1 h2) (hsep q (by omega) h4)
theorem PopR.done {f n : Nat} {xs : List Int} (h : PopR f 0 n xs) : SortR f (f + n) xs := h.sorted

/-- The pivot goes to its place. -/
theorem PartR.fin {lt : Int → Int → Prop} {a b j : Nat} {p : Int} {xs : List Int} (h : PartR lt a b (j + 1) j p xs) (hb : b ≤ xs.length) (hj : a ≤ j) (hjb : j < b) :
    at_ (swq xs j a) j = p ∧ (∀ k, a ≤ k → k < j → lt (at_ (swq xs j a) k) p) ∧ ∀ k, j < k → k < b → ¬ lt (at_ (swq xs j a) k) p := by
  have hs := at_swq (xs := xs) (i := j) (j := a) (by omega) (by omega)
  refine ⟨?_, fun k h1 h2 => ?_, fun k h1 h2 => ?_⟩
  · rw [hs j]
    by_cases e : j = a
    · rw [if_pos e, e]; exact h.at0
    · rw [if_neg e, if_pos rfl]; exact h.at0
  · rw [hs k]
    by_cases e : k = a
    · rw [if_pos e]; exact h.low j (by omega) (by omega)
    · rw [if_neg e, if_neg (by omega)]; exact h.low k (by omega) (by omega)
  · rw [hs k, if_neg (by omega), if_neg (by omega)]
    exact h.high k h1 h2

/-- If what is left is sorted, all is. -/
def RestR (a b a' b' : Nat) (xs : List Int) : Prop := ∀ ys, InR a' b' xs ys → SortR a' b' ys → SortR a b ys
theorem RestR.start (a b : Nat) (xs : List Int) : RestR a b a b xs := fun _ _ h => h
theorem RestR.kept {a b a' b' : Nat} {xs ys : List Int} (h : RestR a b a' b' xs) (hr : InR a' b' xs ys) : RestR a b a' b' ys := fun zs hz hs => h zs (hr.trans hz) hs
/-- Behind a partition of equals: they stand where they belong. -/
theorem RestR.equals {a b a' b' mid : Nat} {p : Int} {xs : List Int} (h : RestR a b a' b' xs) (hl : LowR a' b' xs) (h0 : 0 < a') (hle : p ≤ at_ xs (a' - 1)) (ha : a' ≤ mid) (hm : mid ≤ b') (hb : b' ≤ xs.length)
    (h1 : ∀ k, a' ≤ k → k < mid → at_ xs k ≤ p) (h2 : ∀ k, mid ≤ k → k < b' → p < at_ xs k) : RestR a b mid b' xs ∧ LowR mid b' xs := by
  have heq : ∀ k, a' ≤ k → k < mid → at_ xs k = p := fun k k1 k2 => by
    have := h1 k k1 k2
    have := hl h0 k k1 (by omega)
    omega
  refine ⟨fun ys hr hs => h ys (hr.mono ha (Nat.le_refl _)) (fun i j h3 h4 h5 => ?_), fun h3 k h4 h5 => ?_⟩
  · have hall := hr.all hb (P := fun v => p < v) h2
    have hout : ∀ k, a' ≤ k → k < mid → at_ ys k = p := fun k k1 k2 => (hr.out k (by omega)).trans (heq k k1 k2)
    rcases Nat.lt_or_ge j mid with hj | hj
    · rw [hout i h3 (by omega), hout j (by omega) hj]; exact Int.le_refl _
    · rcases Nat.lt_or_ge i mid with hi | hi
      · rw [hout i h3 hi]; have := hall j hj h5; omega
      · exact hs i j hi h4 h5
  · rcases Nat.lt_or_eq_of_le ha with h6 | h6
    · have := h1 (mid - 1) (by omega) (by omega)
      have := h2 k h4 h5
      omega
    · subst h6
      exact hl h3 k h4 h5
/-- Behind a partition, with the left part sorted. -/
theorem RestR.left {a b a' b' mid : Nat} {p : Int} {xs ys : List Int} (h : RestR a b a' b' xs) (ha : a' ≤ mid) (hm : mid < b') (hb : b' ≤ xs.length) (hp : at_ xs mid = p) (h1 : ∀ k, a' ≤ k → k < mid → at_ xs k < p) (h2 : ∀ k, mid < k → k < b' → ¬ at_ xs k < p)
    (hr : InR a' mid xs ys) (hs : SortR a' mid ys) : RestR a b (mid + 1) b' ys ∧ LowR (mid + 1) b' ys := by
  have hlen := hr.len
  have hlo := hr.all (by omega) (P := fun v => v < p) h1
  have hmid : at_ ys mid = p := (hr.out mid (by omega)).trans hp
  have hhi : ∀ k, mid + 1 ≤ k → k < b' → ¬ at_ ys k < p := fun k k1 k2 => by rw [hr.out k (by omega)]; exact h2 k (by omega) k2
  refine ⟨fun zs hz hsz => h zs ((hr.mono (Nat.le_refl _) (by omega)).trans (hz.mono (by omega) (Nat.le_refl _))) ?_, fun _ k k1 k2 => ?_⟩
  · have hall := hz.all (by omega) (P := fun v => ¬ v < p) hhi
    have hmz : at_ zs mid = p := (hz.out mid (by omega)).trans hmid
    refine SortR.join (hs.kept (fun k k1 k2 => hz.out k (by omega))) hsz (fun k k1 k2 => ?_) (fun k k1 k2 => ?_)
    · rw [hmz, hz.out k (by omega)]; exact Int.le_of_lt (hlo k k1 k2)
    · rw [hmz]; have := hall k (by omega) k2; omega
  · rw [show mid + 1 - 1 = mid from rfl, hmid]
    have := hhi k k1 k2
    omega
/-- Behind a partition, with the right part sorted. -/
theorem RestR.right {a b a' b' mid : Nat} {p : Int} {xs ys : List Int} (h : RestR a b a' b' xs) (hl : LowR a' b' xs) (ha : a' ≤ mid) (hm : mid < b') (hb : b' ≤ xs.length) (hp : at_ xs mid = p) (h1 : ∀ k, a' ≤ k → k < mid → at_ xs k < p) (h2 : ∀ k, mid < k → k < b' → ¬ at_ xs k < p)
    (hr : InR (mid + 1) b' xs ys) (hs : SortR (mid + 1) b' ys) : RestR a b a' mid ys ∧ LowR a' mid ys := by
  have hlen := hr.len
  have hhi := hr.all hb (P := fun v => ¬ v < p) (fun k k1 k2 => h2 k (by omega) k2)
  have hmid : at_ ys mid = p := (hr.out mid (by omega)).trans hp
  have hlo : ∀ k, a' ≤ k → k < mid → at_ ys k < p := fun k k1 k2 => by rw [hr.out k (by omega)]; exact h1 k k1 k2
  refine ⟨fun zs hz hsz => h zs ((hr.mono (by omega) (Nat.le_refl _)).trans (hz.mono (Nat.le_refl _) (by omega))) ?_, fun h0 k k1 k2 => ?_⟩
  · have hall := hz.all (by omega) (P := fun v => v < p) hlo
    have hmz : at_ zs mid = p := (hz.out mid (by omega)).trans hmid
    refine SortR.join hsz (hs.kept (fun k k1 k2 => hz.out k (by omega))) (fun k k1 k2 => ?_) (fun k k1 k2 => ?_)
    · rw [hmz]; exact Int.le_of_lt (hall k k1 k2)
    · rw [hmz, hz.out k (by omega)]; have := hhi k (by omega) k2; omega
  · rw [hr.out (a' - 1) (by omega), hr.out k (by omega)]
    exact hl h0 k k1 (by omega)
/-- The right part's bound below. -/
theorem LowR.behind {b' mid : Nat} {p : Int} {xs : List Int} (hp : at_ xs mid = p) (h2 : ∀ k, mid < k → k < b' → ¬ at_ xs k < p) : LowR (mid + 1) b' xs := fun _ k k1 k2 => by
  rw [show mid + 1 - 1 = mid from rfl, hp]
  have := h2 k (by omega) k2
  omega
theorem LowR.less {a b b' : Nat} {xs : List Int} (h : LowR a b xs) (hb : b' ≤ b) : LowR a b' xs := fun h0 k h1 h2 => h h0 k h1 (by omega)

/-- A sorted permutation is one list. -/
theorem sort_one {xs ys : List Int} (hp : xs.Perm ys) (h1 : xs.Pairwise (· ≤ ·)) (h2 : ys.Pairwise (· ≤ ·)) : xs = ys := hp.eq_of_pairwise (fun _ _ _ _ h3 h4 => Int.le_antisymm h3 h4) h1 h2
end Go.Herb
