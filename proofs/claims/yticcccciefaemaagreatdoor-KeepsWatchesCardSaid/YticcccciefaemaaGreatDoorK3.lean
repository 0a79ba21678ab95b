/- Plain facts on a stable sort of places in a list, by a key. No condition. · Rows of elements of one cell; lists whose parts are exchanged: plain lemmas. No condition. · How a stable sort's loops turn a list: plain relations and their steps. No condition. · slices.Backward at links: the links from the last one to the first. Condition: fewer than 2^62 links. · views.seen: what it makes. Condition: fewer than 1000000 links. · The function value that views.seen makes: it hands out the facts that are seen. Condition: fewer than 1000000 facts. -/
import Derived.WalkKit
import Derived.Test.YticcccciefaemaaGreatDoorRow
import Derived.Test.YticcccciefaemaaGreatDoorMp
import Derived.RangeFuncNested
import Derived.RangeFuncBound
import Derived.RangeFuncCalls
import Derived.RangeFuncLeaves
import Derived.RangeFuncBox
import Derived.RangeFuncWrites
import Derived.Shelf.Abstract
import Derived.Shelf.RegionOpen
import Derived.OwnWalkIn
import Derived.TacticsInMore
import Derived.LoopNIn
import Derived.LoopIn
import Derived.Test.YticcccciefaemaaGreatDoorProg
namespace Go.Herb

/-- By the key, then by the place. -/
def LtI (sq : Nat → Int) (a b : Nat) : Prop := sq a < sq b ∨ (sq a = sq b ∧ a < b)
def SrtI (sq : Nat → Int) (l : List Nat) : Prop := l.Pairwise (LtI sq)

section
variable {sq : Nat → Int}

theorem LtI.le {a b : Nat} (h : LtI sq a b) : sq a ≤ sq b := by unfold LtI at h; omega

theorem SrtI.nil : SrtI sq [] := List.Pairwise.nil
theorem SrtI.one (x : Nat) : SrtI sq [x] := List.pairwise_singleton _ _

theorem SrtI.get {l : List Nat} (h : SrtI sq l) {i j : Nat} (hij : i < j) (hj : j < l.length) : LtI sq (l[i]'(by omega)) l[j] := List.pairwise_iff_getElem.1 h i j (by omega) hj hij

theorem SrtI.getle {l : List Nat} (h : SrtI sq l) {i j : Nat} (hij : i ≤ j) (hj : j < l.length) : sq (l[i]'(by omega)) ≤ sq l[j] := by
  rcases Nat.lt_or_ge i j with h1 | h1
  · exact (h.get h1 hj).le
  · have : i = j := by omega
    subst this
    omega

theorem srt_insert {P Q : List Nat} {x : Nat} (h : SrtI sq (P ++ Q)) (hx : ∀ y ∈ P ++ Q, y < x) (hq : ∀ y ∈ Q, sq x < sq y) (hp : ∀ y, P.getLast? = some y → sq y ≤ sq x) : SrtI sq (P ++ [x] ++ Q) := by
  unfold SrtI at h ⊢
  rw [List.pairwise_append] at h
  obtain ⟨h1, h2, h3⟩ := h
  have hP : ∀ y ∈ P, LtI sq y x := by
    intro y hy
    have hne : P ≠ [] := List.ne_nil_of_mem hy
    have hl := hp (P.getLast hne) (List.getLast?_eq_some_getLast hne)
    obtain ⟨i, hi, rfl⟩ := List.getElem_of_mem hy
    have h4 := SrtI.getle (sq := sq) h1 (show i ≤ P.length - 1 by omega) (by omega)
    rw [← List.getLast_eq_getElem hne] at h4
    have h5 := hx P[i] (List.mem_append_left _ hy)
    unfold LtI
    omega
  rw [List.append_assoc, List.pairwise_append]
  refine ⟨h1, ?_, ?_⟩
  · rw [List.singleton_append, List.pairwise_cons]
    exact ⟨fun y hy => .inl (hq y hy), h2⟩
  · intro y hy z hz
    rw [List.singleton_append, List.mem_cons] at hz
    rcases hz with rfl | hz
    · exact hP y hy
    · exact h3 y hy z hz

/-- Two sorted lists, each cut: the lower parts, sorted, and the upper ones. -/
theorem srt_merge {L R S1 S2 : List Nat} {u v : Nat} (hL : SrtI sq L) (hR : SrtI sq R) (hlt : ∀ x ∈ L, ∀ y ∈ R, x < y)
    (h1 : ∀ x y, 0 < u → L[u - 1]? = some x → R[v]? = some y → sq x ≤ sq y) (h2 : ∀ x y, 0 < v → R[v - 1]? = some x → L[u]? = some y → sq x < sq y)
    (hu : u ≤ L.length) (hv : v ≤ R.length)
    (p1 : S1.Perm (L.take u ++ R.take v)) (p2 : S2.Perm (L.drop u ++ R.drop v)) (s1 : SrtI sq S1) (s2 : SrtI sq S2) : SrtI sq (S1 ++ S2) := by
  unfold SrtI at s1 s2 ⊢
  rw [List.pairwise_append]
  refine ⟨s1, s2, ?_⟩
  intro x hx y hy
  rcases List.mem_append.1 (p1.mem_iff.1 hx) with hx | hx
  · obtain ⟨i, hi, rfl⟩ := List.getElem_of_mem hx
    rw [List.length_take] at hi
    rw [List.getElem_take]
    rcases List.mem_append.1 (p2.mem_iff.1 hy) with hy | hy
    · obtain ⟨k, hk, rfl⟩ := List.getElem_of_mem hy
      rw [List.length_drop] at hk
      rw [List.getElem_drop]
      exact hL.get (by omega) (by omega)
    · obtain ⟨k, hk, rfl⟩ := List.getElem_of_mem hy
      rw [List.length_drop] at hk
      rw [List.getElem_drop]
      have g1 := h1 _ _ (by omega) (List.getElem?_eq_getElem (show u - 1 < L.length by omega)) (List.getElem?_eq_getElem (show v < R.length by omega))
      have g2 := hL.getle (show i ≤ u - 1 by omega) (by omega)
      have g3 := hR.getle (show v ≤ v + k by omega) (by omega)
      have g4 := hlt (L[i]'(by omega)) (List.getElem_mem _) (R[v + k]'(by omega)) (List.getElem_mem _)
      unfold LtI
      omega
  · obtain ⟨i, hi, rfl⟩ := List.getElem_of_mem hx
    rw [List.length_take] at hi
    rw [List.getElem_take]
    rcases List.mem_append.1 (p2.mem_iff.1 hy) with hy | hy
    · obtain ⟨k, hk, rfl⟩ := List.getElem_of_mem hy
      rw [List.length_drop] at hk
      rw [List.getElem_drop]
      have g1 := h2 _ _ (by omega) (List.getElem?_eq_getElem (show v - 1 < R.length by omega)) (List.getElem?_eq_getElem (show u < L.length by omega))
      have g2 := hR.getle (show i ≤ v - 1 by omega) (by omega)
      have g3 := hL.getle (show u ≤ u + k by omega) (by omega)
      exact .inl (by omega)
    · obtain ⟨k, hk, rfl⟩ := List.getElem_of_mem hy
      rw [List.length_drop] at hk
      rw [List.getElem_drop]
      exact hR.get (by omega) (by omega)

/-- Blocks of n of the first list, each sorted, make the second one. -/
inductive Chk (sq : Nat → Int) (n : Nat) : List Nat → List Nat → Prop where
  | last (X Y : List Nat) : X.length ≤ n → Y.Perm X → SrtI sq Y → Chk sq n X Y
  | more (X Y xs ys : List Nat) : X.length = n → Y.Perm X → SrtI sq Y → Chk sq n xs ys → Chk sq n (X ++ xs) (Y ++ ys)

theorem Chk.perm {n : Nat} {xs ys : List Nat} (h : Chk sq n xs ys) : ys.Perm xs := by
  induction h with
  | last X Y _ hp _ => exact hp
  | more X Y xs ys _ hp _ _ ih => exact hp.append ih

theorem Chk.len {n : Nat} {xs ys : List Nat} (h : Chk sq n xs ys) : ys.length = xs.length := h.perm.length_eq

/-- One block. -/
theorem Chk.one {n : Nat} {xs ys : List Nat} (h : Chk sq n xs ys) (hl : ys.length ≤ n) : SrtI sq ys := by
  cases h with
  | last _ _ _ _ hs => exact hs
  | more X Y xs ys hX hp hs hc =>
    have h1 := hp.length_eq
    rw [List.length_append] at hl
    have : ys = [] := List.length_eq_zero_iff.1 (by omega)
    subst this
    rw [List.append_nil]
    exact hs

/-- More than one block. -/
theorem Chk.two {n : Nat} {xs ys : List Nat} (h : Chk sq n xs ys) (hl : n < ys.length) :
    ∃ X1 xr L rest, xs = X1 ++ xr ∧ ys = L ++ rest ∧ X1.length = n ∧ L.length = n ∧ L.Perm X1 ∧ SrtI sq L ∧ Chk sq n xr rest := by
  cases h with
  | last _ _ hX hp _ => have := hp.length_eq; omega
  | more X Y xs ys hX hp hs hc => exact ⟨X, xs, Y, ys, rfl, rfl, hX, hp.length_eq.trans hX, hp, hs, hc⟩

/-- The first block of some. -/
theorem Chk.head {n : Nat} {xs ys : List Nat} (h : Chk sq n xs ys) (hl : n ≤ ys.length) :
    ∃ X1 xr L rest, xs = X1 ++ xr ∧ ys = L ++ rest ∧ X1.length = n ∧ L.length = n ∧ L.Perm X1 ∧ SrtI sq L ∧ Chk sq n xr rest := by
  cases h with
  | last _ _ hX hp hs => exact ⟨xs, [], ys, [], by simp, by simp, by have := hp.length_eq; omega, by have := hp.length_eq; omega, hp, hs, .last _ _ (Nat.zero_le _) (.refl _) SrtI.nil⟩
  | more X Y xs ys hX hp hs hc => exact ⟨X, xs, Y, ys, rfl, rfl, hX, hp.length_eq.trans hX, hp, hs, hc⟩

/-- What is done: whatever stands behind it. -/
def Pre (sq : Nat → Int) (n : Nat) (X D : List Nat) : Prop := ∀ xs ys, Chk sq n xs ys → Chk sq n (X ++ xs) (D ++ ys)
theorem Pre.nil {n : Nat} : Pre sq n [] [] := fun _ _ h => h
theorem Pre.snoc {n : Nat} {X D Y S : List Nat} (h : Pre sq n X D) (hY : Y.length = n) (hp : S.Perm Y) (hs : SrtI sq S) : Pre sq n (X ++ Y) (D ++ S) := fun xs ys hc => by
  rw [List.append_assoc, List.append_assoc]
  exact h _ _ (.more _ _ _ _ hY hp hs hc)

/-- Two neighbours exchanged. -/
theorem swap_mid (L R : List Nat) (p x : Nat) : ((L ++ [p, x] ++ R).set L.length x).set (L.length + 1) p = L ++ [x, p] ++ R := by
  simp
end

def Asc (l : List Nat) : Prop := l.Pairwise (· < ·)
theorem Asc.app {a b : List Nat} (h : Asc (a ++ b)) : Asc a ∧ Asc b ∧ ∀ x ∈ a, ∀ y ∈ b, x < y := by
  unfold Asc at h
  rw [List.pairwise_append] at h
  exact h
theorem Asc.across {a b L R : List Nat} (h : Asc (a ++ b)) (hL : L.Perm a) (hR : R.Perm b) : ∀ x ∈ L, ∀ y ∈ R, x < y :=
  fun x hx y hy => h.app.2.2 x (hL.mem_iff.1 hx) y (hR.mem_iff.1 hy)
end Go.Herb

namespace Go.Herb
open Go.RowKit

theorem flat_one {α : Type} {enc : α → List Value} {f : α → Value} (he : ∀ x, enc x = [f x]) (xs : List α) : xs.flatMap enc = xs.map f := by
  have : enc = fun x => [f x] := funext he
  rw [this]
  induction xs with
  | nil => rfl
  | cons x xs ih => rw [List.flatMap_cons, List.map_cons, ih]; rfl

/-- One element of a row of one cell each, stored anew. -/
theorem Row.set1 {α : Type} {enc : α → List Value} {f : α → Value} {e : Nat} {w : World} {g cap : Nat} {xs : List α} (h : Row enc 1 e w g cap xs) (he : ∀ x, enc x = [f x]) (i : Nat) (x : α) :
    Row enc 1 e (w.setCell ⟨g, i, none⟩ (f x)) g cap (xs.set i x) := by
  obtain ⟨cur, hc, hsz, htk⟩ := h.blk
  refine ⟨⟨_, blk_setCell hc _, by simpa using hsz, ?_⟩, by simpa using h.le, h.max⟩
  rw [flat_one he] at htk ⊢
  rw [Array.toList_setIfInBounds, List.length_set, List.take_set, htk, List.map_set]

/-- Two far ones exchanged. -/
theorem swap_far {α : Type} (P Q R : List α) (x y : α) : ((P ++ x :: (Q ++ y :: R)).set P.length y).set (P.length + 1 + Q.length) x = P ++ y :: (Q ++ x :: R) := by
  rw [List.set_append_right _ _ (Nat.le_refl _), Nat.sub_self, List.set_cons_zero, List.set_append_right _ _ (by omega), show P.length + 1 + Q.length - P.length = Q.length + 1 from by omega, List.set_cons_succ, List.set_append_right _ _ (Nat.le_refl _), Nat.sub_self, List.set_cons_zero]

/-- Two parts of one length, exchanged so far as i. -/
def swp {α : Type} (A X M Y C : List α) (i : Nat) : List α := A ++ (Y.take i ++ (X.drop i ++ (M ++ (X.take i ++ (Y.drop i ++ C)))))
theorem swp_zero {α : Type} (A X M Y C : List α) : swp A X M Y C 0 = A ++ (X ++ (M ++ (Y ++ C))) := by simp [swp]
theorem swp_end {α : Type} (A X M Y C : List α) (n : Nat) (h1 : X.length = n) (h2 : Y.length = n) : swp A X M Y C n = A ++ (Y ++ (M ++ (X ++ C))) := by
  unfold swp
  rw [List.take_of_length_le (by omega), List.drop_of_length_le (by omega), List.take_of_length_le (by omega), List.drop_of_length_le (by omega)]
  simp
theorem swp_len {α : Type} (A X M Y C : List α) (i : Nat) : (swp A X M Y C i).length = (A ++ (X ++ (M ++ (Y ++ C)))).length := by
  unfold swp
  simp only [List.length_append, List.length_take, List.length_drop]
  omega
theorem swp_step {α : Type} (A X M Y C : List α) (i : Nat) (hX : i < X.length) (hY : i < Y.length) :
    (swp A X M Y C i)[A.length + i]? = some X[i] ∧ (swp A X M Y C i)[A.length + X.length + M.length + i]? = some Y[i] ∧
    ((swp A X M Y C i).set (A.length + i) Y[i]).set (A.length + X.length + M.length + i) X[i] = swp A X M Y C (i + 1) := by
  have e0 : swp A X M Y C i = (A ++ Y.take i) ++ X[i] :: ((X.drop (i + 1) ++ (M ++ X.take i)) ++ Y[i] :: (Y.drop (i + 1) ++ C)) := by
    unfold swp
    rw [List.drop_eq_getElem_cons hX, List.drop_eq_getElem_cons hY]
    simp only [List.append_assoc, List.cons_append]
  have l0 : (A ++ Y.take i).length = A.length + i := by rw [List.length_append, List.length_take]; omega
  have l1 : (X.drop (i + 1) ++ (M ++ X.take i)).length = X.length + M.length - 1 := by simp only [List.length_append, List.length_drop, List.length_take]; omega
  have l2 : A.length + X.length + M.length + i = (A ++ Y.take i).length + 1 + (X.drop (i + 1) ++ (M ++ X.take i)).length := by rw [l0, l1]; omega
  refine ⟨?_, ?_, ?_⟩
  · rw [e0, ← l0, List.getElem?_append_right (Nat.le_refl _), Nat.sub_self, List.getElem?_cons_zero]
  · rw [e0, l2, List.getElem?_append_right (by omega), show (A ++ Y.take i).length + 1 + (X.drop (i + 1) ++ (M ++ X.take i)).length - (A ++ Y.take i).length = (X.drop (i + 1) ++ (M ++ X.take i)).length + 1 from by omega, List.getElem?_cons_succ, List.getElem?_append_right (Nat.le_refl _), Nat.sub_self, List.getElem?_cons_zero]
  · rw [e0, l2, ← l0, swap_far]
    unfold swp
    rw [List.take_succ_eq_append_getElem hY, List.take_succ_eq_append_getElem hX]
    simp only [List.append_assoc, List.cons_append, List.nil_append]
end Go.Herb

namespace Go.Herb
section
variable {sq : Nat → Int}

theorem get_app {α : Type} (A B : List α) (j k : Nat) (h : j = A.length + k) : (A ++ B)[j]? = B[k]? := by
  subst h
  rw [List.getElem?_append_right (by omega)]
  congr 1
  omega

/-- Insertion, between two rounds. -/
def OutI (sq : Nat → Int) (A S C : List Nat) (i : Nat) (ys : List Nat) : Prop := A.length ≤ i ∧ i ≤ A.length + S.length ∧ ∃ P, ys = A ++ (P ++ (S.drop (i - A.length) ++ C)) ∧ P.Perm (S.take (i - A.length)) ∧ SrtI sq P
/-- Insertion, within a round. -/
def InsI (sq : Nat → Int) (A S C : List Nat) (i j : Nat) (zs : List Nat) : Prop := A.length ≤ i ∧ i < A.length + S.length ∧ ∃ P Q x, zs = A ++ (P ++ (x :: (Q ++ (S.drop (i - A.length + 1) ++ C)))) ∧ A.length + P.length = j ∧ (P ++ Q).Perm (S.take (i - A.length)) ∧ SrtI sq (P ++ Q) ∧ S[i - A.length]? = some x ∧ ∀ y ∈ Q, sq x < sq y

theorem OutI.len {A S C ys : List Nat} {i : Nat} (h : OutI sq A S C i ys) : ys.length = (A ++ (S ++ C)).length := by
  obtain ⟨_, _, P, rfl, hp, _⟩ := h
  have := hp.length_eq
  rw [List.length_take] at this
  simp only [List.length_append, List.length_drop]
  omega
theorem InsI.len {A S C ys : List Nat} {i j : Nat} (h : InsI sq A S C i j ys) : ys.length = (A ++ (S ++ C)).length := by
  obtain ⟨_, _, P, Q, x, rfl, _, hp, _⟩ := h
  have := hp.length_eq
  rw [List.length_take, List.length_append] at this
  simp only [List.length_append, List.length_drop, List.length_cons]
  omega

theorem OutI.start {A S C : List Nat} (h : 0 < S.length) : OutI sq A S C (A.length + 1) (A ++ (S ++ C)) := by
  refine ⟨by omega, by omega, S.take 1, ?_, ?_, ?_⟩
  · rw [show A.length + 1 - A.length = 1 from by omega, ← List.append_assoc (S.take 1), List.take_append_drop]
  · rw [show A.length + 1 - A.length = 1 from by omega]
  · obtain ⟨x, t, rfl⟩ := List.exists_cons_of_length_pos h
    exact SrtI.one x
theorem OutI.none {A C : List Nat} (i : Nat) (h : i = A.length) : OutI sq A [] C i (A ++ ([] ++ C)) := by
  subst h
  exact ⟨Nat.le_refl _, by simp, [], by simp, by simp, SrtI.nil⟩
theorem OutI.stop {A S C ys : List Nat} {i : Nat} (h : OutI sq A S C i ys) (hi : A.length + S.length ≤ i) : ∃ P, P.Perm S ∧ SrtI sq P ∧ ys = A ++ (P ++ C) := by
  obtain ⟨h1, h2, P, rfl, hp, hs⟩ := h
  have e : i - A.length = S.length := by omega
  rw [e] at hp ⊢
  rw [List.take_length] at hp
  exact ⟨P, hp, hs, by rw [List.drop_length, List.nil_append]⟩

theorem OutI.enter {A S C ys : List Nat} {i : Nat} (h : OutI sq A S C i ys) (hi : i < A.length + S.length) : InsI sq A S C i i ys := by
  obtain ⟨h1, h2, P, rfl, hp, hs⟩ := h
  have hk : i - A.length < S.length := by omega
  refine ⟨h1, hi, P, [], S[i - A.length], ?_, ?_, by simpa using hp, by simpa using hs, List.getElem?_eq_getElem hk, by simp⟩
  · rw [List.nil_append, List.drop_eq_getElem_cons hk, List.cons_append]
  · have := hp.length_eq
    rw [List.length_take] at this
    omega

theorem InsI.swap {A S C zs : List Nat} {i j x y : Nat} (h : InsI sq A S C i j zs) (hj : A.length < j) (hx : zs[j]? = some x) (hy : zs[j - 1]? = some y) (hlt : sq x < sq y) :
    InsI sq A S C i (j - 1) ((zs.set j y).set (j - 1) x) ∧ InsI sq A S C i (j - 1) ((zs.set (j - 1) x).set j y) := by
  obtain ⟨h1, h2, P, Q, x', hz, hl, hp, hs, hg, hq⟩ := h
  obtain ⟨P', p, hP⟩ : ∃ P' p, P = P' ++ [p] := by
    rcases List.eq_nil_or_concat P with e | ⟨P', p, e⟩
    · subst e; simp at hl; omega
    · exact ⟨P', p, by simpa using e⟩
  subst hP
  rw [List.length_append, List.length_singleton] at hl
  have ex : x' = x := by
    rw [hz, get_app _ _ _ (P'.length + 1) (by omega), get_app _ _ _ 0 (by simp)] at hx
    simpa using hx
  have ey : p = y := by
    rw [hz, get_app _ _ _ P'.length (by omega), List.append_assoc, get_app _ _ _ 0 (by simp)] at hy
    simpa using hy
  subst ex ey
  have key : InsI sq A S C i (j - 1) (A ++ (P' ++ (x' :: (p :: (Q ++ (S.drop (i - A.length + 1) ++ C)))))) := by
    refine ⟨h1, h2, P', p :: Q, x', rfl, by omega, ?_, ?_, hg, ?_⟩
    · simpa using hp
    · simpa using hs
    · intro z hz
      rcases List.mem_cons.1 hz with rfl | hz
      · exact hlt
      · exact hq z hz
  have e0 : zs = (A ++ P') ++ [p, x'] ++ (Q ++ (S.drop (i - A.length + 1) ++ C)) := by rw [hz]; simp
  have e1 : j - 1 = (A ++ P').length := by rw [List.length_append]; omega
  have e2 : j = (A ++ P').length + 1 := by rw [List.length_append]; omega
  have h3 := swap_mid (A ++ P') (Q ++ (S.drop (i - A.length + 1) ++ C)) p x'
  have h4 : (zs.set (j - 1) x').set j p = A ++ (P' ++ (x' :: (p :: (Q ++ (S.drop (i - A.length + 1) ++ C))))) := by
    rw [e0, e1, e2] at *
    rw [h3]
    simp
  constructor
  · rw [List.set_comm _ _ (by omega), h4]; exact key
  · rw [h4]; exact key

theorem InsI.leave {A S C zs : List Nat} {i j : Nat} (h : InsI sq A S C i j zs) (hS : Asc S) (hex : j = A.length ∨ ∃ x y, zs[j]? = some x ∧ zs[j - 1]? = some y ∧ A.length < j ∧ ¬ sq x < sq y) : OutI sq A S C (i + 1) zs := by
  obtain ⟨h1, h2, P, Q, x, hz, hl, hp, hs, hg, hq⟩ := h
  have hk : i - A.length < S.length := by omega
  have hgx : S[i - A.length] = x := by rw [List.getElem?_eq_getElem hk] at hg; exact Option.some.inj hg
  have e : i + 1 - A.length = i - A.length + 1 := by omega
  refine ⟨by omega, by omega, P ++ [x] ++ Q, ?_, ?_, ?_⟩
  · rw [hz, e]; simp
  · rw [e, List.take_succ_eq_append_getElem hk, hgx]
    have : (P ++ [x] ++ Q).Perm ((P ++ Q) ++ [x]) := by
      rw [List.append_assoc, List.append_assoc]
      exact List.Perm.append_left P List.perm_append_comm
    exact this.trans (hp.append_right [x])
  · refine srt_insert hs ?_ hq ?_
    · intro y hy
      have := hp.mem_iff.1 hy
      obtain ⟨k, hk2, rfl⟩ := List.getElem_of_mem this
      rw [List.length_take] at hk2
      rw [List.getElem_take, ← hgx]
      exact List.pairwise_iff_getElem.1 hS k _ (by omega) hk (by omega)
    · intro y hy
      rcases hex with hj | ⟨x', y', hx', hy', hj, hn⟩
      · have : P = [] := List.length_eq_zero_iff.1 (by omega)
        subst this
        simp at hy
      · obtain ⟨P', p, hP⟩ : ∃ P' p, P = P' ++ [p] := by
          rcases List.eq_nil_or_concat P with e | ⟨P', p, e⟩
          · subst e; simp at hl; omega
          · exact ⟨P', p, by simpa using e⟩
        subst hP
        simp at hy
        subst hy
        rw [List.length_append, List.length_singleton] at hl
        rw [hz, get_app _ _ _ (P'.length + 1) (by omega), get_app _ _ _ 0 (by simp)] at hx'
        rw [hz, get_app _ _ _ P'.length (by omega), List.append_assoc, get_app _ _ _ 0 (by simp)] at hy'
        simp at hx' hy'
        subst hx' hy'
        omega

/-- One that wanders up through a list. -/
def MvR (A : List Nat) (x : Nat) (R C : List Nat) (k : Nat) (ys : List Nat) : Prop := A.length ≤ k ∧ k ≤ A.length + R.length ∧ ys = A ++ (R.take (k - A.length) ++ (x :: (R.drop (k - A.length) ++ C)))
theorem MvR.start (A : List Nat) (x : Nat) (R C : List Nat) : MvR A x R C A.length (A ++ (x :: (R ++ C))) := ⟨Nat.le_refl _, by omega, by simp⟩
theorem MvR.len {A R C ys : List Nat} {x k : Nat} (h : MvR A x R C k ys) : ys.length = (A ++ (x :: (R ++ C))).length := by
  obtain ⟨_, _, rfl⟩ := h
  simp only [List.length_append, List.length_take, List.length_drop, List.length_cons]
  omega
theorem MvR.up {A R C ys : List Nat} {x k a b : Nat} (h : MvR A x R C k ys) (hk : k < A.length + R.length) (ha : ys[k]? = some a) (hb : ys[k + 1]? = some b) :
    MvR A x R C (k + 1) ((ys.set k b).set (k + 1) a) ∧ MvR A x R C (k + 1) ((ys.set (k + 1) a).set k b) := by
  obtain ⟨h1, h2, hy⟩ := h
  have hi : k - A.length < R.length := by omega
  have e : k + 1 - A.length = k - A.length + 1 := by omega
  have e0 : ys = (A ++ R.take (k - A.length)) ++ [x, R[k - A.length]] ++ (R.drop (k - A.length + 1) ++ C) := by
    rw [hy, List.drop_eq_getElem_cons hi]; simp only [List.append_assoc, List.cons_append, List.nil_append]
  have l0 : (A ++ R.take (k - A.length)).length = k := by rw [List.length_append, List.length_take]; omega
  have ea : x = a := by
    rw [hy, get_app _ _ _ (k - A.length) (by omega), get_app _ _ _ 0 (by rw [List.length_take]; omega)] at ha
    simpa using ha
  have eb : R[k - A.length] = b := by
    rw [e0, List.append_assoc, get_app _ _ _ 1 (by omega)] at hb
    simpa using hb
  rw [ea, eb] at e0
  have h3 := swap_mid (A ++ R.take (k - A.length)) (R.drop (k - A.length + 1) ++ C) a b
  rw [l0] at h3
  have key : (ys.set k b).set (k + 1) a = A ++ (R.take (k + 1 - A.length) ++ (x :: (R.drop (k + 1 - A.length) ++ C))) := by
    rw [e0, h3, e, List.take_succ_eq_append_getElem hi, eb, ea]; simp
  refine ⟨⟨by omega, by omega, key⟩, ⟨by omega, by omega, ?_⟩⟩
  rw [List.set_comm _ _ (by omega), key]
theorem MvR.down {A R C ys : List Nat} {x k a b : Nat} (h : MvR A x R C k ys) (hk : A.length < k) (ha : ys[k]? = some a) (hb : ys[k - 1]? = some b) :
    MvR A x R C (k - 1) ((ys.set k b).set (k - 1) a) ∧ MvR A x R C (k - 1) ((ys.set (k - 1) a).set k b) := by
  obtain ⟨h1, h2, hy⟩ := h
  have hi : k - 1 - A.length < R.length := by omega
  have e : k - A.length = k - 1 - A.length + 1 := by omega
  have e0 : ys = (A ++ R.take (k - 1 - A.length)) ++ [R[k - 1 - A.length], x] ++ (R.drop (k - A.length) ++ C) := by
    rw [hy, e, List.take_succ_eq_append_getElem hi]; simp only [List.append_assoc, List.cons_append, List.nil_append]
  have l0 : (A ++ R.take (k - 1 - A.length)).length = k - 1 := by rw [List.length_append, List.length_take]; omega
  have ea : x = a := by
    rw [e0, List.append_assoc, get_app _ _ _ 1 (by omega)] at ha
    simpa using ha
  have eb : R[k - 1 - A.length] = b := by
    rw [e0, List.append_assoc, get_app _ _ _ 0 (by omega)] at hb
    simpa using hb
  rw [ea, eb] at e0
  have h3 := swap_mid (A ++ R.take (k - 1 - A.length)) (R.drop (k - A.length) ++ C) b a
  rw [l0, show k - 1 + 1 = k from by omega] at h3
  have key : (ys.set (k - 1) a).set k b = A ++ (R.take (k - 1 - A.length) ++ (x :: (R.drop (k - 1 - A.length) ++ C))) := by
    rw [e0, h3, List.drop_eq_getElem_cons hi, eb, ea, ← e]; simp
  refine ⟨⟨by omega, by omega, ?_⟩, ⟨by omega, by omega, key⟩⟩
  rw [List.set_comm _ _ (by omega), key]

theorem OutI.perm {A S C ys : List Nat} {i : Nat} (h : OutI sq A S C i ys) : ys.Perm (A ++ (S ++ C)) := by
  obtain ⟨_, _, P, rfl, hp, _⟩ := h
  refine List.Perm.append_left A ?_
  have h2 : S ++ C = S.take (i - A.length) ++ (S.drop (i - A.length) ++ C) := by rw [← List.append_assoc, List.take_append_drop]
  rw [h2]
  exact hp.append_right _
theorem InsI.perm {A S C ys : List Nat} {i j : Nat} (h : InsI sq A S C i j ys) : ys.Perm (A ++ (S ++ C)) := by
  obtain ⟨h1, h2, P, Q, x, rfl, _, hp, _, hg, _⟩ := h
  refine List.Perm.append_left A ?_
  have hk : i - A.length < S.length := by omega
  have hgx : S[i - A.length] = x := by rw [List.getElem?_eq_getElem hk] at hg; exact Option.some.inj hg
  have h3 : S ++ C = S.take (i - A.length) ++ (x :: (S.drop (i - A.length + 1) ++ C)) := by
    rw [← hgx, ← List.cons_append, ← List.drop_eq_getElem_cons hk, ← List.append_assoc, List.take_append_drop]
  rw [h3]
  have h4 : (P ++ x :: (Q ++ (S.drop (i - A.length + 1) ++ C))).Perm ((P ++ Q) ++ (x :: (S.drop (i - A.length + 1) ++ C))) := by
    rw [List.append_assoc]
    exact List.Perm.append_left P List.perm_middle.symm
  exact h4.trans (hp.append_right _)
theorem MvR.perm {A R C ys : List Nat} {x k : Nat} (h : MvR A x R C k ys) : ys.Perm (A ++ (x :: (R ++ C))) := by
  obtain ⟨_, _, rfl⟩ := h
  refine List.Perm.append_left A ?_
  refine List.perm_middle.trans ?_
  rw [← List.append_assoc, List.take_append_drop]

/-- The left part has one alone. -/
theorem srt_left {R : List Nat} {x u : Nat} (hR : SrtI sq R) (hx : ∀ y ∈ R, x < y) (hu : u ≤ R.length) (h1 : ∀ y, 0 < u → R[u - 1]? = some y → sq y < sq x) (h2 : ∀ y, R[u]? = some y → sq x ≤ sq y) :
    (R.take u ++ x :: R.drop u).Perm ([x] ++ R) ∧ SrtI sq (R.take u ++ x :: R.drop u) := by
  constructor
  · have h := List.perm_middle (a := x) (l₁ := R.take u) (l₂ := R.drop u)
    rw [List.take_append_drop] at h
    exact h
  · have h3 := srt_merge (sq := sq) (L := [x]) (R := R) (S1 := R.take u) (S2 := x :: R.drop u) (u := 0) (v := u) (SrtI.one x) hR (by simpa using hx) (by intro _ _ h; omega) (by
      intro a b h0 ha hb
      simp at hb
      subst hb
      exact h1 a h0 ha) (Nat.zero_le _) hu (by simp) (by simp) (List.Pairwise.sublist (List.take_sublist _ _) hR) ?_
    · exact h3
    · unfold SrtI
      rw [List.pairwise_cons]
      refine ⟨fun y hy => ?_, List.Pairwise.sublist (List.drop_sublist _ _) hR⟩
      have hm := List.mem_of_mem_drop hy
      obtain ⟨i, hi, rfl⟩ := List.getElem_of_mem hy
      rw [List.length_drop] at hi
      rw [List.getElem_drop] at hm ⊢
      have g1 := h2 _ (List.getElem?_eq_getElem (show u < R.length by omega))
      have g2 := hR.getle (show u ≤ u + i by omega) (by omega)
      have g3 := hx _ hm
      unfold LtI
      omega

/-- The right part has one alone. -/
theorem srt_right {L : List Nat} {y u : Nat} (hL : SrtI sq L) (hx : ∀ x ∈ L, x < y) (hu : u ≤ L.length) (h1 : ∀ x, 0 < u → L[u - 1]? = some x → sq x ≤ sq y) (h2 : ∀ x, L[u]? = some x → sq y < sq x) :
    (L.take u ++ y :: L.drop u).Perm (L ++ [y]) ∧ SrtI sq (L.take u ++ y :: L.drop u) := by
  constructor
  · have h := List.perm_middle (a := y) (l₁ := L.take u) (l₂ := L.drop u)
    rw [List.take_append_drop] at h
    exact h.trans (List.perm_append_comm (l₁ := [y]) (l₂ := L))
  · have h := srt_insert (sq := sq) (P := L.take u) (Q := L.drop u) (x := y) (by rw [List.take_append_drop]; exact hL) (by rw [List.take_append_drop]; exact hx) ?_ ?_
    · simpa using h
    · intro z hz
      obtain ⟨i, hi, rfl⟩ := List.getElem_of_mem hz
      rw [List.length_drop] at hi
      rw [List.getElem_drop]
      have g1 := h2 _ (List.getElem?_eq_getElem (show u < L.length by omega))
      have g2 := hL.getle (show u ≤ u + i by omega) (by omega)
      omega
    · intro z hz
      rcases Nat.eq_zero_or_pos u with h0 | h0
      · subst h0; simp at hz
      · rw [List.getLast?_take] at hz
        rw [if_neg (by omega), List.getElem?_eq_getElem (show u - 1 < L.length by omega)] at hz
        simp at hz
        exact h1 z h0 (by rw [List.getElem?_eq_getElem (show u - 1 < L.length by omega), hz])
end
end Go.Herb

namespace Go.Proofs.YticcccciefaemaaGreatDoor
open Go.RowKit Go.Shelf Go.Herb
attribute [local go_sem] Oper.semAt_some

/-- A link. -/
structure Lk where
  line : Int
  upto : Int
  wl : (Lit.int .u64 line).wf = true
  wu : (Lit.int .u64 upto).wf = true
deriving DecidableEq

def lc (x : Lk) : List Value := [.int .u64 x.line, .int .u64 x.upto]
abbrev lv (x : Lk) : Value := .agg #[.int .u64 x.line, .int .u64 x.upto]
abbrev Links (w : World) (a : Option Addr) (xs : List Lk) : Prop := Els lc 2 w a xs

/-- Below n₀ all blocks but mb are as they were. -/
def Kept (n₀ mb : Nat) (W W' : World) : Prop := ∀ b, b < n₀ → b ≠ mb → W'.heap[b]? = W.heap[b]?

theorem Kept.refl (n₀ mb : Nat) (W : World) : Kept n₀ mb W W := fun _ _ _ => rfl
theorem Kept.trans {n₀ mb : Nat} {A B C : World} (h : Kept n₀ mb A B) (k : Kept n₀ mb B C) : Kept n₀ mb A C := fun b h1 h2 => (k b h1 h2).trans (h b h1 h2)
theorem Kept.cell {n₀ mb : Nat} {A B : World} (h : Kept n₀ mb A B) {b o : Nat} (h1 : b < n₀) (h2 : b ≠ mb) : B.cell? ⟨b, o, none⟩ = A.cell? ⟨b, o, none⟩ := World.cell?_of_block (h b h1 h2)
theorem kept_b {n₀ mb : Nat} {w : World} (hn : n₀ ≤ w.heap.size) (W : World) (l : Nat) (o o' : Obj) (hl : w.heap.size ≤ l) (_ : W.heap[l]? = some o) (_ : o.isCells = false) (_ : o.isWalk = false) : Kept n₀ mb W (W.putObj l o') :=
  fun b h1 _ => World.putObj_heap_other (fun e => by omega)
theorem Kept.below {n₀ mb : Nat} {A B : World} (h : Below n₀ A B) : Kept n₀ mb A B := fun b h1 _ => h.block b h1
theorem Kept.grown {n₀ mb : Nat} {A B : World} (h : A.grownBy B (some mb)) (hn : n₀ ≤ A.heap.size) : Kept n₀ mb A B := fun b h1 h2 => h.block b (by omega) (fun e => h2 (by cases e; rfl))

/-- What has come when the last j links have. -/
def backs (xs : List Lk) (j : Nat) : List (Int × Lk) := (List.range j).map fun i => (((xs.length - 1 - i : Nat) : Int), xs[xs.length - 1 - i]?.getD ⟨0, 0, rfl, rfl⟩)

theorem backs_succ (xs : List Lk) (j : Nat) (h : j < xs.length) : backs xs (j + 1) = backs xs j ++ [(((xs.length - 1 - j : Nat) : Int), xs[xs.length - 1 - j]'(by omega))] := by
  unfold backs
  rw [List.range_succ, List.map_append]
  simp [List.getElem?_eq_getElem (show xs.length - 1 - j < xs.length by omega)]

theorem backs_len (xs : List Lk) (j : Nat) : (backs xs j).length = j := by simp [backs]

theorem backs_prefix (xs : List Lk) {j n : Nat} (h : j ≤ n) : backs xs j <+: backs xs n := by
  unfold backs
  obtain ⟨d, rfl⟩ : ∃ d, n = j + d := ⟨n - j, by omega⟩
  rw [List.range_add, List.map_append]
  exact List.prefix_append _ _

set_option maxRecDepth 100000 in
set_option maxHeartbeats 1000000 in
theorem backward1_in (F : Fence) (n : Nat) (hF : F.fn 76) (hro : F.round = none) (hn : 1 ≤ n) (l Bn n₀ mb : Nat) (a : Option Addr) (cap : Nat) (xs : List Lk) (hlen : xs.length < 1000000) (J Jx : List (Int × Lk) → World → Prop)
    (hY : ∀ pre x W, J pre W → pre.length < xs.length → YieldAt F (n - 1) Tryz.prog l #[.int .i64 x.1, lv x.2] W fun e W' =>
      (e = .returned (.bool true) ∧ J (pre ++ [x]) W' ∧ Kept n₀ mb W W') ∨ (e = .returned (.bool false) ∧ Jx (pre ++ [x]) W'))
    (W : World) (hBn : Bn < n₀) (hBm : Bn ≠ mb) (hc : W.cell? ⟨Bn, 0, none⟩ = some (.slice a xs.length cap)) (hL : Links W a xs) (hb : 0 < xs.length → ∀ ad, a = some ad → ad.block < n₀ ∧ ad.block ≠ mb) (h0 : J [] W) :
    CallsIn F n Tryz.prog 76 #[.func (.yield l) #[] #[], .pointer (some ⟨Bn, 0, none⟩)] W fun e W' => (∃ v, e = .returned v) ∧
      ((∃ ys, ys = backs xs xs.length ∧ J ys W') ∨ (∃ pre, pre <+: backs xs xs.length ∧ Jx pre W')) := by
  refine callsIn_of_wp Tryz.func76 rfl hF ?_ hro
  simp only [Tryz.ntmps76, List.size_toArray, List.length_cons, List.length_nil, Nat.reduceAdd, Nat.reduceSub, Array.replicate_succ, Array.replicate_zero, List.push_toArray, List.append_toArray, List.nil_append, List.cons_append]
  have HC := Lib.hid hc
  have HL := Lib.hid hL
  have HB := Lib.hid hb
  clear hL hb
  gi_wp2
  clear hc
  gi_loopw [3] (fun i wr => ∃ r : Nat, r ≤ xs.length ∧ i = .int .i64 ((r : Int) - 1) ∧ Kept n₀ mb W wr ∧ J (backs xs (xs.length - r)) wr) (fun i _ => (intOf i + 1).toNat)
  case atStart => exact ⟨xs.length, Nat.le_refl _, rfl, Kept.refl _ _ _, by rw [Nat.sub_self]; exact h0⟩
  case round =>
    obtain ⟨r, hr, rfl, hBw, hJs⟩ := hrel
    have c0 := (hBw.cell (o := 0) hBn hBm).trans HC.out
    cases r with
    | zero =>
      rw [Nat.sub_zero] at hJs
      gi_wp2
      go_end0
      exact ⟨⟨_, rfl⟩, .inl ⟨_, rfl, hJs⟩⟩
    | succ q =>
      have hq1 : (((q + 1 : Nat) : Int) - 1) = (q : Int) := by omega
      rw [hq1]
      clear hq1
      obtain ⟨b, o, rfl, hlt, hcell⟩ := HL.out.get q (by omega)
      obtain ⟨hbn, hbm⟩ : b < n₀ ∧ b ≠ mb := HB.out (by omega) _ rfl
      have e0 := (hBw.cell hbn hbm).trans (hcell 0 _ rfl)
      have e1 := (hBw.cell hbn hbm).trans (hcell 1 _ rfl)
      simp only [Nat.add_zero] at e0 e1
      have hsn : backs xs (xs.length - q) = backs xs (xs.length - (q + 1)) ++ [((q : Int), xs[q])] := by
        have h1 := backs_succ xs (xs.length - (q + 1)) (by omega)
        have h2 : xs.length - (q + 1) + 1 = xs.length - q := by omega
        have h3 : xs.length - 1 - (xs.length - (q + 1)) = q := by omega
        rw [h2] at h1
        simp only [h3] at h1
        exact h1
      have HSN := Lib.hid hsn
      obtain ⟨fn, tmps, assign, body, hy, hR⟩ := hY (backs xs (xs.length - (q + 1))) ((q : Int), xs[q]) wr hJs (by rw [backs_len]; omega)
      dsimp only [lv] at hy
      generalize xs[q] = x at *
      clear hsn hcell hY
      have hql : q < xs.length := by omega
      gi_wp2
      refine hR.mono ?_
      rintro e W3 (⟨rfl, hJ3, hk3⟩ | ⟨rfl, hJx3⟩)
      · gi_wp2
        go_roundw
        case rel => exact ⟨q, by omega, rfl, hBw.trans hk3, by rw [HSN.out]; exact hJ3⟩
        case measure => simp [intOf]
      · gi_wp2
        refine bodyPost_ret (results_none rfl _ _ _) rfl ?_
        exact ⟨⟨_, rfl⟩, .inr ⟨_, by rw [← HSN.out]; exact backs_prefix xs (by omega), hJx3⟩⟩

/-- slices.Backward: the slice is boxed; the function value captures the box. -/
theorem backward_any (a : Option Addr) (n cap : Nat) (w : World) :
    Calls Tryz.prog 54 #[.slice a n cap] w fun e w' => e = .returned (.func (.func 76) #[] #[.pointer (some ⟨w.heap.size, 0, none⟩)]) ∧ w' = w.alloc (.cells #[.slice a n cap] 59) := by
  go_enter Tryz.func54, Tryz.ntmps54
  go_wp2
  go_ret
  exact ⟨rfl, rfl⟩

theorem backward_stops (F : Fence) (n : Nat) (hF : F.fn 76) (hro : F.round = none) (hn : 1 ≤ n) (Bn n₀ mb : Nat) (a : Option Addr) (cap : Nat) (xs : List Lk) (hlen : xs.length < 1000000) (w : World) (hBn : Bn < n₀) (hBm : Bn ≠ mb) (hn₀ : n₀ ≤ w.heap.size)
    (hc : w.cell? ⟨Bn, 0, none⟩ = some (.slice a xs.length cap)) (hL : Links w a xs) (hb : 0 < xs.length → ∀ ad, a = some ad → ad.block < n₀ ∧ ad.block ≠ mb) :
    SeqStopsK F n Tryz.prog 76 #[.pointer (some ⟨Bn, 0, none⟩)] (fun x : Int × Lk => #[Value.int .i64 x.1, lv x.2]) (Kept n₀ mb) (fun ys => ys = backs xs xs.length) (fun pre => pre <+: backs xs xs.length) xs.length w := fun l J Jx W hW _ _ hY h0 =>
  backward1_in F n hF hro hn l Bn n₀ mb a cap xs hlen J Jx hY W hBn hBm ((hW.cell (p := ⟨Bn, 0, none⟩) (show Bn < w.heap.size by omega)).trans hc) (hL.ext hW) hb h0
end Go.Proofs.YticcccciefaemaaGreatDoor

namespace Go.Proofs.YticcccciefaemaaGreatDoor
open Go.RowKit Go.Shelf Go.Herb
attribute [local go_sem] Oper.semAt_some

abbrev eU (x : Int) : Value := .int .u64 x
theorem eU_inj : ∀ a a', eU a = eU a' → a = a' := fun a a' h => by injection h
theorem law25 : Maps.Keyed Tryz.prog 52 := Maps.int_keyed Tryz.underlying52
abbrev MapU (w : World) (b : Nat) (m : List (Int × Int)) : Prop := MapIs Tryz.prog 52 eU eU w b m

/-- Up to where each line is seen, when these links have come. -/
def uptoM (ps : List (Int × Lk)) : List (Int × Int) := ps.foldl (fun m p => putL m p.2.line p.2.upto) []
theorem uptoM_snoc (ps : List (Int × Lk)) (x : Int × Lk) : uptoM (ps ++ [x]) = putL (uptoM ps) x.2.line x.2.upto := by simp [uptoM]
theorem uptoM_len (ps : List (Int × Lk)) : (uptoM ps).length ≤ ps.length := by
  suffices h : ∀ (m : List (Int × Int)), (ps.foldl (fun m p => putL m p.2.line p.2.upto) m).length ≤ m.length + ps.length by
    have := h []; simpa [uptoM] using this
  induction ps with
  | nil => intro m; simp
  | cons p ps ih => intro m; have := ih (putL m p.2.line p.2.upto); have h2 := putL_length m p.2.line p.2.upto; simp only [List.foldl_cons, List.length_cons]; omega

theorem backs_snd (xs : List Lk) : (backs xs xs.length).map (·.2) = xs.reverse := by
  apply List.ext_getElem?
  intro i
  unfold backs
  rw [List.getElem?_map, List.getElem?_map]
  rcases Nat.lt_or_ge i xs.length with h | h
  · rw [List.getElem?_range h, List.getElem?_reverse h]
    simp [List.getElem?_eq_getElem (show xs.length - 1 - i < xs.length by omega)]
  · rw [List.getElem?_eq_none (by simpa using h), List.getElem?_eq_none (by simpa using h)]
    rfl

/-- The first link of a line counts. -/
theorem uptoM_get (xs : List Lk) (line : Int) : getL (uptoM (backs xs xs.length)) line = (xs.find? (fun l => decide (l.line = line))).map (·.upto) := by
  have h1 : uptoM (backs xs xs.length) = xs.foldr (fun l m => putL m l.line l.upto) [] := by
    have h2 : uptoM (backs xs xs.length) = ((backs xs xs.length).map (·.2)).foldl (fun m l => putL m l.line l.upto) [] := by
      unfold uptoM
      rw [List.foldl_map]
    rw [h2, backs_snd, List.foldl_reverse]
  rw [h1]
  induction xs with
  | nil => rfl
  | cons x xs ih =>
    rw [List.foldr_cons, List.find?_cons]
    by_cases h : x.line = line
    · rw [h, getL_put_same]
      simp
    · rw [getL_put_other _ _ _ (fun e => h e.symm)]
      simp only [h, decide_false]
      refine Eq.trans ?_ (ih ?_)
      · rfl
      · have h2 : uptoM (backs xs xs.length) = ((backs xs xs.length).map (·.2)).foldl (fun m l => putL m l.line l.upto) [] := by
          unfold uptoM
          rw [List.foldl_map]
        rw [h2, backs_snd, List.foldl_reverse]

theorem blk_ownFrom {β : Type} (B b : Nat) (f : β → Array Value) (t : TypeId) : OwnFrom B (fun (s : β) W => W.heap[b]? = some (.cells (f s) t (0, 0))) := fun s X Y row hs hg hr => by
  refine (hg.block b (lt_of_blk hs) (fun e => ?_)).trans hs
  obtain ⟨_, o, ho, hc⟩ := hr b e.symm
  rw [hs] at ho
  cases ho
  cases hc

theorem map_ownFrom {β : Type} (B b : Nat) (hb : b < B) (f : β → List (Int × Int)) : OwnFrom B (fun (s : β) W => MapU W b (f s)) := fun s X Y row hs hg hr =>
  hs.same (hg.block b hs.lt (fun e => by have := (hr b e.symm).1; omega))

theorem size_ownFrom {β : Type} (B N : Nat) : OwnFrom B (fun (_ : β) W => N ≤ W.heap.size) := fun _ _ _ _ hs hg _ => Nat.le_trans hs hg.size

/-- What the function value that views.seen makes has captured. -/
structure SeenV (w : World) (bl bu ba bm : Nat) (vl : Value) (m : List (Int × Int)) (at_ : Int) : Prop where
  l : w.heap[bl]? = some (.cells #[vl] 56 (0, 0))
  u : w.heap[bu]? = some (.cells #[.map (some bm)] 69 (0, 0))
  a : w.heap[ba]? = some (.cells #[.int .u64 at_] 52 (0, 0))
  m : MapU w bm m

theorem SeenV.same {w w' : World} {bl bu ba bm : Nat} {vl : Value} {m : List (Int × Int)} {at_ : Int} (h : SeenV w bl bu ba bm vl m at_) (hl : w'.heap[bl]? = w.heap[bl]?) (hu : w'.heap[bu]? = w.heap[bu]?) (ha : w'.heap[ba]? = w.heap[ba]?) (hm : w'.heap[bm]? = w.heap[bm]?) : SeenV w' bl bu ba bm vl m at_ :=
  ⟨hl.trans h.l, hu.trans h.u, ha.trans h.a, h.m.same hm⟩

theorem SeenV.below {w w' : World} {bl bu ba bm : Nat} {vl : Value} {m : List (Int × Int)} {at_ : Int} (h : SeenV w bl bu ba bm vl m at_) (hb : Below w.heap.size w w') : SeenV w' bl bu ba bm vl m at_ :=
  h.same (hb.block _ (lt_of_blk h.l)) (hb.block _ (lt_of_blk h.u)) (hb.block _ (lt_of_blk h.a)) (hb.block _ h.m.lt)

end Go.Proofs.YticcccciefaemaaGreatDoor

namespace Go.Proofs.YticcccciefaemaaGreatDoor
open Go.RowKit Go.Shelf Go.Herb
attribute [local go_sem] Oper.semAt_some

/-- A fact. -/
structure Fc where
  key : ByteArray
  valid : Int
  seq : Int
  line : Int
  kind : Int
  val : ByteArray
  wk : key.size ≤ maxLen
  wv : (Lit.int .u32 valid).wf = true
  ws : (Lit.int .u64 seq).wf = true
  wl : (Lit.int .u64 line).wf = true
  wd : (Lit.int .u8 kind).wf = true
deriving DecidableEq

def fc (x : Fc) : List Value := [.string x.key, .int .u32 x.valid, .int .u64 x.seq, .int .u64 x.line, .int .u8 x.kind, .string x.val]
abbrev fv (x : Fc) : Value := .agg #[.string x.key, .int .u32 x.valid, .int .u64 x.seq, .int .u64 x.line, .int .u8 x.kind, .string x.val]
abbrev Facts (w : World) (a : Option Addr) (xs : List Fc) : Prop := Els fc 6 w a xs
theorem fc_len (x : Fc) : (fc x).length = 6 := rfl

/-- Is a fact seen? -/
def seenB (m : List (Int × Int)) (at_ : Int) (x : Fc) : Bool :=
  match getL m x.line with
  | some u => decide (x.seq ≤ u) && decide (x.seq ≤ at_)
  | none => false

theorem filter_succ (p : Fc → Bool) (xs : List Fc) (k : Nat) (h : k < xs.length) : (xs.take (k + 1)).filter p = (xs.take k).filter p ++ if p xs[k] then [xs[k]] else [] := by
  rw [List.take_succ_eq_append_getElem h, List.filter_append]
  congr 1
  cases hp : p xs[k] <;> simp [hp]

theorem filter_take_prefix (p : Fc → Bool) (xs : List Fc) (k : Nat) : (xs.take k).filter p <+: xs.filter p := (List.take_prefix k xs).filter p

theorem zero25 (w : World) : (zeroValue 52).run Tryz.prog w = .ok (.int .u64 0) w := by kernel_rfl

end Go.Proofs.YticcccciefaemaaGreatDoor
