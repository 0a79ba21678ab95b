/- Plain facts on a stable sort of places in a list, by a key. No condition. -/
import Derived.WalkKit
namespace Go.Herb

/-- By the key, then by the place. -/
def LtI (sq : Nat → Int) (a b : Nat) : Prop := sq a < sq b ∨ (sq a = sq b ∧ a < b)
def SrtI (sq : Nat → Int) (l : List Nat) : Prop := l.Pairwise (LtI sq)

section
variable {sq : Nat → Int}

theorem LtI.le {a b : Nat} (h : LtI sq a b) : sq a ≤ sq b := by unfold LtI at h; omega

theorem SrtI.nil : SrtI sq [] := List.Pairwise.nil
theorem SrtI.one (x : Nat) : SrtI sq [x] := List.pairwise_singleton _ _

theorem SrtI.get {l : List Nat} (h : SrtI sq l) {i j : Nat} (hij : i < j) (hj : j < l.length) : LtI sq (l[i]'(by omega)) l[j] := List.pairwise_iff_getElem.1 h i j (by omega) hj hij

theorem SrtI.getle {l : List Nat} (h : SrtI sq l) {i j : Nat} (hij : i ≤ j) (hj : j < l.length) : sq (l[i]'(by omega)) ≤ sq l[j] := by
  rcases Nat.lt_or_ge i j with h1 | h1
  · exact (h.get h1 hj).le
  · have : i = j := by omega
    subst this
    omega

theorem srt_insert {P Q : List Nat} {x : Nat} (h : SrtI sq (P ++ Q)) (hx : ∀ y ∈ P ++ Q, y < x) (hq : ∀ y ∈ Q, sq x < sq y) (hp : ∀ y, P.getLast? = some y → sq y ≤ sq x) : SrtI sq (P ++ [x] ++ Q) := by
  unfold SrtI at h ⊢
  rw [List.pairwise_append] at h
  obtain ⟨h1, h2, h3⟩ := h
  have hP : ∀ y ∈ P, LtI sq y x := by
    intro y hy
    have hne : P ≠ [] := List.ne_nil_of_mem hy
    have hl := hp (P.getLast hne) (List.getLast?_eq_some_getLast hne)
    obtain ⟨i, hi, rfl⟩ := List.getElem_of_mem hy
    have h4 := SrtI.getle (sq := sq) h1 (show i ≤ P.length - 1 by omega) (by omega)
    rw [← List.getLast_eq_getElem hne] at h4
    have h5 := hx P[i] (List.mem_append_left _ hy)
    unfold LtI
    omega
  rw [List.append_assoc, List.pairwise_append]
  refine ⟨h1, ?_, ?_⟩
  · rw [List.singleton_append, List.pairwise_cons]
    exact ⟨fun y hy => .inl (hq y hy), h2⟩
  · intro y hy z hz
    rw [List.singleton_append, List.mem_cons] at hz
    rcases hz with rfl | hz
    · exact hP y hy
    · exact h3 y hy z hz

/-- Two sorted lists, each cut: the lower parts, sorted, and the upper ones. -/
theorem srt_merge {L R S1 S2 : List Nat} {u v : Nat} (hL : SrtI sq L) (hR : SrtI sq R) (hlt : ∀ x ∈ L, ∀ y ∈ R, x < y)
    (h1 : ∀ x y, 0 < u → L[u - 1]? = some x → R[v]? = some y → sq x ≤ sq y) (h2 : ∀ x y, 0 < v → R[v - 1]? = some x → L[u]? = some y → sq x < sq y)
    (hu : u ≤ L.length) (hv : v ≤ R.length)
    (p1 : S1.Perm (L.take u ++ R.take v)) (p2 : S2.Perm (L.drop u ++ R.drop v)) (s1 : SrtI sq S1) (s2 : SrtI sq S2) : SrtI sq (S1 ++ S2) := by
  unfold SrtI at s1 s2 ⊢
  rw [List.pairwise_append]
  refine ⟨s1, s2, ?_⟩
  intro x hx y hy
  rcases List.mem_append.1 (p1.mem_iff.1 hx) with hx | hx
  · obtain ⟨i, hi, rfl⟩ := List.getElem_of_mem hx
    rw [List.length_take] at hi
    rw [List.getElem_take]
    rcases List.mem_append.1 (p2.mem_iff.1 hy) with hy | hy
    · obtain ⟨k, hk, rfl⟩ := List.getElem_of_mem hy
      rw [List.length_drop] at hk
      rw [List.getElem_drop]
      exact hL.get (by omega) (by omega)
    · obtain ⟨k, hk, rfl⟩ := List.getElem_of_mem hy
      rw [List.length_drop] at hk
      rw [List.getElem_drop]
      have g1 := h1 _ _ (by omega) (List.getElem?_eq_getElem (show u - 1 < L.length by omega)) (List.getElem?_eq_getElem (show v < R.length by omega))
      have g2 := hL.getle (show i ≤ u - 1 by omega) (by omega)
      have g3 := hR.getle (show v ≤ v + k by omega) (by omega)
      have g4 := hlt (L[i]'(by omega)) (List.getElem_mem _) (R[v + k]'(by omega)) (List.getElem_mem _)
      unfold LtI
      omega
  · obtain ⟨i, hi, rfl⟩ := List.getElem_of_mem hx
    rw [List.length_take] at hi
    rw [List.getElem_take]
    rcases List.mem_append.1 (p2.mem_iff.1 hy) with hy | hy
    · obtain ⟨k, hk, rfl⟩ := List.getElem_of_mem hy
      rw [List.length_drop] at hk
      rw [List.getElem_drop]
      have g1 := h2 _ _ (by omega) (List.getElem?_eq_getElem (show v - 1 < R.length by omega)) (List.getElem?_eq_getElem (show u < L.length by omega))
      have g2 := hR.getle (show i ≤ v - 1 by omega) (by omega)
      have g3 := hL.getle (show u ≤ u + k by omega) (by omega)
      exact .inl (by omega)
    · obtain ⟨k, hk, rfl⟩ := List.getElem_of_mem hy
      rw [List.length_drop] at hk
      rw [List.getElem_drop]
      exact hR.get (by omega) (by omega)

/-- Blocks of n of the first list, each sorted, make the second one. -/
inductive Chk (sq : Nat → Int) (n : Nat) : List Nat → List Nat → Prop where
  | last (X Y : List Nat) : X.length ≤ n → Y.Perm X → SrtI sq Y → Chk sq n X Y
  | more (X Y xs ys : List Nat) : X.length = n → Y.Perm X → SrtI sq Y → Chk sq n xs ys → Chk sq n (X ++ xs) (Y ++ ys)

theorem Chk.perm {n : Nat} {xs ys : List Nat} (h : Chk sq n xs ys) : ys.Perm xs := by
  induction h with
  | last X Y _ hp _ => exact hp
  | more X Y xs ys _ hp _ _ ih => exact hp.append ih

theorem Chk.len {n : Nat} {xs ys : List Nat} (h : Chk sq n xs ys) : ys.length = xs.length := h.perm.length_eq

/-- One block. -/
theorem Chk.one {n : Nat} {xs ys : List Nat} (h : Chk sq n xs ys) (hl : ys.length ≤ n) : SrtI sq ys := by
  cases h with
  | last _ _ _ _ hs => exact hs
  | more X Y xs ys hX hp hs hc =>
    have h1 := hp.length_eq
    rw [List.length_append] at hl
    have : ys = [] := List.length_eq_zero_iff.1 (by omega)
    subst this
    rw [List.append_nil]
    exact hs

/-- More than one block. -/
theorem Chk.two {n : Nat} {xs ys : List Nat} (h : Chk sq n xs ys) (hl : n < ys.length) :
    ∃ X1 xr L rest, xs = X1 ++ xr ∧ ys = L ++ rest ∧ X1.length = n ∧ L.length = n ∧ L.Perm X1 ∧ SrtI sq L ∧ Chk sq n xr rest := by
  cases h with
  | last _ _ hX hp _ => have := hp.length_eq; omega
  | more X Y xs ys hX hp hs hc => exact ⟨X, xs, Y, ys, rfl, rfl, hX, hp.length_eq.trans hX, hp, hs, hc⟩

/-- The first block of some. -/
theorem Chk.head {n : Nat} {xs ys : List Nat} (h : Chk sq n xs ys) (hl : n ≤ ys.length) :
    ∃ X1 xr L rest, xs = X1 ++ xr ∧ ys = L ++ rest ∧ X1.length = n ∧ L.length = n ∧ L.Perm X1 ∧ SrtI sq L ∧ Chk sq n xr rest := by
  cases h with
  | last _ _ hX hp hs => exact ⟨xs, [], ys, [], by simp, by simp, by have := hp.length_eq; omega, by have := hp.length_eq; omega, hp, hs, .last _ _ (Nat.zero_le _) (.refl _) SrtI.nil⟩
  | more X Y xs ys hX hp hs hc => exact ⟨X, xs, Y, ys, rfl, rfl, hX, hp.length_eq.trans hX, hp, hs, hc⟩

/-- What is done: whatever stands behind it. -/
def Pre (sq : Nat → Int) (n : Nat) (X D : List Nat) : Prop := ∀ xs ys, Chk sq n xs ys → Chk sq n (X ++ xs) (D ++ ys)
theorem Pre.nil {n : Nat} : Pre sq n [] [] := fun _ _ h => h
theorem Pre.snoc {n : Nat} {X D Y S : List Nat} (h : Pre sq n X D) (hY : Y.length = n) (hp : S.Perm Y) (hs : SrtI sq S) : Pre sq n (X ++ Y) (D ++ S) := fun xs ys hc => by
  rw [List.append_assoc, List.append_assoc]
  exact h _ _ (.more _ _ _ _ hY hp hs hc)

/-- Two neighbours exchanged. -/
theorem swap_mid (L R : List Nat) (p x : Nat) : ((L ++ [p, x] ++ R).set L.length x).set (L.length + 1) p = L ++ [x, p] ++ R := by
  simp
end

def Asc (l : List Nat) : Prop := l.Pairwise (· < ·)
theorem Asc.app {a b : List Nat} (h : Asc (a ++ b)) : Asc a ∧ Asc b ∧ ∀ x ∈ a, ∀ y ∈ b, x < y := by
  unfold Asc at h
  rw [List.pairwise_append] at h
  exact h
theorem Asc.across {a b L R : List Nat} (h : Asc (a ++ b)) (hL : L.Perm a) (hR : R.Perm b) : ∀ x ∈ L, ∀ y ∈ R, x < y :=
  fun x hx y hy => h.app.2.2 x (hL.mem_iff.1 hx) y (hR.mem_iff.1 hy)
end Go.Herb
