/- How a stable sort's loops turn a list: plain relations and their steps. No condition. -/
import Derived.Test.YticcccciefaemaaDoorQ2
namespace Go.Herb
section
variable {sq : Nat → Int}

theorem get_app {α : Type} (A B : List α) (j k : Nat) (h : j = A.length + k) : (A ++ B)[j]? = B[k]? := by
  subst h
  rw [List.getElem?_append_right (by omega)]
  congr 1
  omega

/-- Insertion, between two rounds. -/
def OutI (sq : Nat → Int) (A S C : List Nat) (i : Nat) (ys : List Nat) : Prop := A.length ≤ i ∧ i ≤ A.length + S.length ∧ ∃ P, ys = A ++ (P ++ (S.drop (i - A.length) ++ C)) ∧ P.Perm (S.take (i - A.length)) ∧ SrtI sq P
/-- Insertion, within a round. -/
def InsI (sq : Nat → Int) (A S C : List Nat) (i j : Nat) (zs : List Nat) : Prop := A.length ≤ i ∧ i < A.length + S.length ∧ ∃ P Q x, zs = A ++ (P ++ (x :: (Q ++ (S.drop (i - A.length + 1) ++ C)))) ∧ A.length + P.length = j ∧ (P ++ Q).Perm (S.take (i - A.length)) ∧ SrtI sq (P ++ Q) ∧ S[i - A.length]? = some x ∧ ∀ y ∈ Q, sq x < sq y

theorem OutI.len {A S C ys : List Nat} {i : Nat} (h : OutI sq A S C i ys) : ys.length = (A ++ (S ++ C)).length := by
  obtain ⟨_, _, P, rfl, hp, _⟩ := h
  have := hp.length_eq
  rw [List.length_take] at this
  simp only [List.length_append, List.length_drop]
  omega
theorem InsI.len {A S C ys : List Nat} {i j : Nat} (h : InsI sq A S C i j ys) : ys.length = (A ++ (S ++ C)).length := by
  obtain ⟨_, _, P, Q, x, rfl, _, hp, _⟩ := h
  have := hp.length_eq
  rw [List.length_take, List.length_append] at this
  simp only [List.length_append, List.length_drop, List.length_cons]
  omega

theorem OutI.start {A S C : List Nat} (h : 0 < S.length) : OutI sq A S C (A.length + 1) (A ++ (S ++ C)) := by
  refine ⟨by omega, by omega, S.take 1, ?_, ?_, ?_⟩
  · rw [show A.length + 1 - A.length = 1 from by omega, ← List.append_assoc (S.take 1), List.take_append_drop]
  · rw [show A.length + 1 - A.length = 1 from by omega]
  · obtain ⟨x, t, rfl⟩ := List.exists_cons_of_length_pos h
    exact SrtI.one x
theorem OutI.none {A C : List Nat} (i : Nat) (h : i = A.length) : OutI sq A [] C i (A ++ ([] ++ C)) := by
  subst h
  exact ⟨Nat.le_refl _, by simp, [], by simp, by simp, SrtI.nil⟩
theorem OutI.stop {A S C ys : List Nat} {i : Nat} (h : OutI sq A S C i ys) (hi : A.length + S.length ≤ i) : ∃ P, P.Perm S ∧ SrtI sq P ∧ ys = A ++ (P ++ C) := by
  obtain ⟨h1, h2, P, rfl, hp, hs⟩ := h
  have e : i - A.length = S.length := by omega
  rw [e] at hp ⊢
  rw [List.take_length] at hp
  exact ⟨P, hp, hs, by rw [List.drop_length, List.nil_append]⟩

theorem OutI.enter {A S C ys : List Nat} {i : Nat} (h : OutI sq A S C i ys) (hi : i < A.length + S.length) : InsI sq A S C i i ys := by
  obtain ⟨h1, h2, P, rfl, hp, hs⟩ := h
  have hk : i - A.length < S.length := by omega
  refine ⟨h1, hi, P, [], S[i - A.length], ?_, ?_, by simpa using hp, by simpa using hs, List.getElem?_eq_getElem hk, by simp⟩
  · rw [List.nil_append, List.drop_eq_getElem_cons hk, List.cons_append]
  · have := hp.length_eq
    rw [List.length_take] at this
    omega

theorem InsI.swap {A S C zs : List Nat} {i j x y : Nat} (h : InsI sq A S C i j zs) (hj : A.length < j) (hx : zs[j]? = some x) (hy : zs[j - 1]? = some y) (hlt : sq x < sq y) :
    InsI sq A S C i (j - 1) ((zs.set j y).set (j - 1) x) ∧ InsI sq A S C i (j - 1) ((zs.set (j - 1) x).set j y) := by
  obtain ⟨h1, h2, P, Q, x', hz, hl, hp, hs, hg, hq⟩ := h
  obtain ⟨P', p, hP⟩ : ∃ P' p, P = P' ++ [p] := by
    rcases List.eq_nil_or_concat P with e | ⟨P', p, e⟩
    · subst e; simp at hl; omega
    · exact ⟨P', p, by simpa using e⟩
  subst hP
  rw [List.length_append, List.length_singleton] at hl
  have ex : x' = x := by
    rw [hz, get_app _ _ _ (P'.length + 1) (by omega), get_app _ _ _ 0 (by simp)] at hx
    simpa using hx
  have ey : p = y := by
    rw [hz, get_app _ _ _ P'.length (by omega), List.append_assoc, get_app _ _ _ 0 (by simp)] at hy
    simpa using hy
  subst ex ey
  have key : InsI sq A S C i (j - 1) (A ++ (P' ++ (x' :: (p :: (Q ++ (S.drop (i - A.length + 1) ++ C)))))) := by
    refine ⟨h1, h2, P', p :: Q, x', rfl, by omega, ?_, ?_, hg, ?_⟩
    · simpa using hp
    · simpa using hs
    · intro z hz
      rcases List.mem_cons.1 hz with rfl | hz
      · exact hlt
      · exact hq z hz
  have e0 : zs = (A ++ P') ++ [p, x'] ++ (Q ++ (S.drop (i - A.length + 1) ++ C)) := by rw [hz]; simp
  have e1 : j - 1 = (A ++ P').length := by rw [List.length_append]; omega
  have e2 : j = (A ++ P').length + 1 := by rw [List.length_append]; omega
  have h3 := swap_mid (A ++ P') (Q ++ (S.drop (i - A.length + 1) ++ C)) p x'
  have h4 : (zs.set (j - 1) x').set j p = A ++ (P' ++ (x' :: (p :: (Q ++ (S.drop (i - A.length + 1) ++ C))))) := by
    rw [e0, e1, e2] at *
    rw [h3]
    simp
  constructor
  · rw [List.set_comm _ _ (by omega), h4]; exact key
  · rw [h4]; exact key

theorem InsI.leave {A S C zs : List Nat} {i j : Nat} (h : InsI sq A S C i j zs) (hS : Asc S) (hex : j = A.length ∨ ∃ x y, zs[j]? = some x ∧ zs[j - 1]? = some y ∧ A.length < j ∧ ¬ sq x < sq y) : OutI sq A S C (i + 1) zs := by
  obtain ⟨h1, h2, P, Q, x, hz, hl, hp, hs, hg, hq⟩ := h
  have hk : i - A.length < S.length := by omega
  have hgx : S[i - A.length] = x := by rw [List.getElem?_eq_getElem hk] at hg; exact Option.some.inj hg
  have e : i + 1 - A.length = i - A.length + 1 := by omega
  refine ⟨by omega, by omega, P ++ [x] ++ Q, ?_, ?_, ?_⟩
  · rw [hz, e]; simp
  · rw [e, List.take_succ_eq_append_getElem hk, hgx]
    have : (P ++ [x] ++ Q).Perm ((P ++ Q) ++ [x]) := by
      rw [List.append_assoc, List.append_assoc]
      exact List.Perm.append_left P List.perm_append_comm
    exact this.trans (hp.append_right [x])
  · refine srt_insert hs ?_ hq ?_
    · intro y hy
      have := hp.mem_iff.1 hy
      obtain ⟨k, hk2, rfl⟩ := List.getElem_of_mem this
      rw [List.length_take] at hk2
      rw [List.getElem_take, ← hgx]
      exact List.pairwise_iff_getElem.1 hS k _ (by omega) hk (by omega)
    · intro y hy
      rcases hex with hj | ⟨x', y', hx', hy', hj, hn⟩
      · have : P = [] := List.length_eq_zero_iff.1 (by omega)
        subst this
        simp at hy
      · obtain ⟨P', p, hP⟩ : ∃ P' p, P = P' ++ [p] := by
          rcases List.eq_nil_or_concat P with e | ⟨P', p, e⟩
          · subst e; simp at hl; omega
          · exact ⟨P', p, by simpa using e⟩
        subst hP
        simp at hy
        subst hy
        rw [List.length_append, List.length_singleton] at hl
        rw [hz, get_app _ _ _ (P'.length + 1) (by omega), get_app _ _ _ 0 (by simp)] at hx'
        rw [hz, get_app _ _ _ P'.length (by omega), List.append_assoc, get_app _ _ _ 0 (by simp)] at hy'
        simp at hx' hy'
        subst hx' hy'
        omega

/-- One that wanders up through a list. -/
def MvR (A : List Nat) (x : Nat) (R C : List Nat) (k : Nat) (ys : List Nat) : Prop := A.length ≤ k ∧ k ≤ A.length + R.length ∧ ys = A ++ (R.take (k - A.length) ++ (x :: (R.drop (k - A.length) ++ C)))
theorem MvR.start (A : List Nat) (x : Nat) (R C : List Nat) : MvR A x R C A.length (A ++ (x :: (R ++ C))) := ⟨Nat.le_refl _, by omega, by simp⟩
theorem MvR.len {A R C ys : List Nat} {x k : Nat} (h : MvR A x R C k ys) : ys.length = (A ++ (x :: (R ++ C))).length := by
  obtain ⟨_, _, rfl⟩ := h
  simp only [List.length_append, List.length_take, List.length_drop, List.length_cons]
  omega
theorem MvR.up {A R C ys : List Nat} {x k a b : Nat} (h : MvR A x R C k ys) (hk : k < A.length + R.length) (ha : ys[k]? = some a) (hb : ys[k + 1]? = some b) :
    MvR A x R C (k + 1) ((ys.set k b).set (k + 1) a) ∧ MvR A x R C (k + 1) ((ys.set (k + 1) a).set k b) := by
  obtain ⟨h1, h2, hy⟩ := h
  have hi : k - A.length < R.length := by omega
  have e : k + 1 - A.length = k - A.length + 1 := by omega
  have e0 : ys = (A ++ R.take (k - A.length)) ++ [x, R[k - A.length]] ++ (R.drop (k - A.length + 1) ++ C) := by
    rw [hy, List.drop_eq_getElem_cons hi]; simp only [List.append_assoc, List.cons_append, List.nil_append]
  have l0 : (A ++ R.take (k - A.length)).length = k := by rw [List.length_append, List.length_take]; omega
  have ea : x = a := by
    rw [hy, get_app _ _ _ (k - A.length) (by omega), get_app _ _ _ 0 (by rw [List.length_take]; omega)] at ha
    simpa using ha
  have eb : R[k - A.length] = b := by
    rw [e0, List.append_assoc, get_app _ _ _ 1 (by omega)] at hb
    simpa using hb
  rw [ea, eb] at e0
  have h3 := swap_mid (A ++ R.take (k - A.length)) (R.drop (k - A.length + 1) ++ C) a b
  rw [l0] at h3
  have key : (ys.set k b).set (k + 1) a = A ++ (R.take (k + 1 - A.length) ++ (x :: (R.drop (k + 1 - A.length) ++ C))) := by
    rw [e0, h3, e, List.take_succ_eq_append_getElem hi, eb, ea]; simp
  refine ⟨⟨by omega, by omega, key⟩, ⟨by omega, by omega, ?_⟩⟩
  rw [List.set_comm _ _ (by omega), key]
theorem MvR.down {A R C ys : List Nat} {x k a b : Nat} (h : MvR A x R C k ys) (hk : A.length < k) (ha : ys[k]? = some a) (hb : ys[k - 1]? = some b) :
    MvR A x R C (k - 1) ((ys.set k b).set (k - 1) a) ∧ MvR A x R C (k - 1) ((ys.set (k - 1) a).set k b) := by
  obtain ⟨h1, h2, hy⟩ := h
  have hi : k - 1 - A.length < R.length := by omega
  have e : k - A.length = k - 1 - A.length + 1 := by omega
  have e0 : ys = (A ++ R.take (k - 1 - A.length)) ++ [R[k - 1 - A.length], x] ++ (R.drop (k - A.length) ++ C) := by
    rw [hy, e, List.take_succ_eq_append_getElem hi]; simp only [List.append_assoc, List.cons_append, List.nil_append]
  have l0 : (A ++ R.take (k - 1 - A.length)).length = k - 1 := by rw [List.length_append, List.length_take]; omega
  have ea : x = a := by
    rw [e0, List.append_assoc, get_app _ _ _ 1 (by omega)] at ha
    simpa using ha
  have eb : R[k - 1 - A.length] = b := by
    rw [e0, List.append_assoc, get_app _ _ _ 0 (by omega)] at hb
    simpa using hb
  rw [ea, eb] at e0
  have h3 := swap_mid (A ++ R.take (k - 1 - A.length)) (R.drop (k - A.length) ++ C) b a
  rw [l0, show k - 1 + 1 = k from by omega] at h3
  have key : (ys.set (k - 1) a).set k b = A ++ (R.take (k - 1 - A.length) ++ (x :: (R.drop (k - 1 - A.length) ++ C))) := by
    rw [e0, h3, List.drop_eq_getElem_cons hi, eb, ea, ← e]; simp
  refine ⟨⟨by omega, by omega, ?_⟩, ⟨by omega, by omega, key⟩⟩
  rw [List.set_comm _ _ (by omega), key]

theorem OutI.perm {A S C ys : List Nat} {i : Nat} (h : OutI sq A S C i ys) : ys.Perm (A ++ (S ++ C)) := by
  obtain ⟨_, _, P, rfl, hp, _⟩ := h
  refine List.Perm.append_left A ?_
  have h2 : S ++ C = S.take (i - A.length) ++ (S.drop (i - A.length) ++ C) := by rw [← List.append_assoc, List.take_append_drop]
  rw [h2]
  exact hp.append_right _
theorem InsI.perm {A S C ys : List Nat} {i j : Nat} (h : InsI sq A S C i j ys) : ys.Perm (A ++ (S ++ C)) := by
  obtain ⟨h1, h2, P, Q, x, rfl, _, hp, _, hg, _⟩ := h
  refine List.Perm.append_left A ?_
  have hk : i - A.length < S.length := by omega
  have hgx : S[i - A.length] = x := by rw [List.getElem?_eq_getElem hk] at hg; exact Option.some.inj hg
  have h3 : S ++ C = S.take (i - A.length) ++ (x :: (S.drop (i - A.length + 1) ++ C)) := by
    rw [← hgx, ← List.cons_append, ← List.drop_eq_getElem_cons hk, ← List.append_assoc, List.take_append_drop]
  rw [h3]
  have h4 : (P ++ x :: (Q ++ (S.drop (i - A.length + 1) ++ C))).Perm ((P ++ Q) ++ (x :: (S.drop (i - A.length + 1) ++ C))) := by
    rw [List.append_assoc]
    exact List.Perm.append_left P List.perm_middle.symm
  exact h4.trans (hp.append_right _)
theorem MvR.perm {A R C ys : List Nat} {x k : Nat} (h : MvR A x R C k ys) : ys.Perm (A ++ (x :: (R ++ C))) := by
  obtain ⟨_, _, rfl⟩ := h
  refine List.Perm.append_left A ?_
  refine List.perm_middle.trans ?_
  rw [← List.append_assoc, List.take_append_drop]

/-- The left part has one alone. -/
theorem srt_left {R : List Nat} {x u : Nat} (hR : SrtI sq R) (hx : ∀ y ∈ R, x < y) (hu : u ≤ R.length) (h1 : ∀ y, 0 < u → R[u - 1]? = some y → sq y < sq x) (h2 : ∀ y, R[u]? = some y → sq x ≤ sq y) :
    (R.take u ++ x :: R.drop u).Perm ([x] ++ R) ∧ SrtI sq (R.take u ++ x :: R.drop u) := by
  constructor
  · have h := List.perm_middle (a := x) (l₁ := R.take u) (l₂ := R.drop u)
    rw [List.take_append_drop] at h
    exact h
  · have h3 := srt_merge (sq := sq) (L := [x]) (R := R) (S1 := R.take u) (S2 := x :: R.drop u) (u := 0) (v := u) (SrtI.one x) hR (by simpa using hx) (by intro _ _ h; omega) (by
      intro a b h0 ha hb
      simp at hb
      subst hb
      exact h1 a h0 ha) (Nat.zero_le _) hu (by simp) (by simp) (List.Pairwise.sublist (List.take_sublist _ _) hR) ?_
    · exact h3
    · unfold SrtI
      rw [List.pairwise_cons]
      refine ⟨fun y hy => ?_, List.Pairwise.sublist (List.drop_sublist _ _) hR⟩
      have hm := List.mem_of_mem_drop hy
      obtain ⟨i, hi, rfl⟩ := List.getElem_of_mem hy
      rw [List.length_drop] at hi
      rw [List.getElem_drop] at hm ⊢
      have g1 := h2 _ (List.getElem?_eq_getElem (show u < R.length by omega))
      have g2 := hR.getle (show u ≤ u + i by omega) (by omega)
      have g3 := hx _ hm
      unfold LtI
      omega

/-- The right part has one alone. -/
theorem srt_right {L : List Nat} {y u : Nat} (hL : SrtI sq L) (hx : ∀ x ∈ L, x < y) (hu : u ≤ L.length) (h1 : ∀ x, 0 < u → L[u - 1]? = some x → sq x ≤ sq y) (h2 : ∀ x, L[u]? = some x → sq y < sq x) :
    (L.take u ++ y :: L.drop u).Perm (L ++ [y]) ∧ SrtI sq (L.take u ++ y :: L.drop u) := by
  constructor
  · have h := List.perm_middle (a := y) (l₁ := L.take u) (l₂ := L.drop u)
    rw [List.take_append_drop] at h
    exact h.trans (List.perm_append_comm (l₁ := [y]) (l₂ := L))
  · have h := srt_insert (sq := sq) (P := L.take u) (Q := L.drop u) (x := y) (by rw [List.take_append_drop]; exact hL) (by rw [List.take_append_drop]; exact hx) ?_ ?_
    · simpa using h
    · intro z hz
      obtain ⟨i, hi, rfl⟩ := List.getElem_of_mem hz
      rw [List.length_drop] at hi
      rw [List.getElem_drop]
      have g1 := h2 _ (List.getElem?_eq_getElem (show u < L.length by omega))
      have g2 := hL.getle (show u ≤ u + i by omega) (by omega)
      omega
    · intro z hz
      rcases Nat.eq_zero_or_pos u with h0 | h0
      · subst h0; simp at hz
      · rw [List.getLast?_take] at hz
        rw [if_neg (by omega), List.getElem?_eq_getElem (show u - 1 < L.length by omega)] at hz
        simp at hz
        exact h1 z h0 (by rw [List.getElem?_eq_getElem (show u - 1 < L.length by omega), hz])
end
end Go.Herb
