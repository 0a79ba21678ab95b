/- Plain facts on which keys differ. No condition. -/
import Derived.Test.YtenocakpipppiaaM4
namespace Go.Proofs.Ytenocakpipppiaa
open Go.RowKit Go.Shelf Go.Herb

theorem nodup_len {α : Type} [DecidableEq α] : ∀ (l m : List α), l.Nodup → (∀ x ∈ l, x ∈ m) → l.length ≤ m.length
  | [], m, _, _ => Nat.zero_le _
  | a :: l, m, hn, hs => by
    obtain ⟨h1, h2⟩ := List.nodup_cons.1 hn
    have ha := hs a (by simp)
    have := nodup_len l (m.erase a) h2 (fun x hx => (List.mem_erase_of_ne (fun e => h1 (by rw [← e]; exact hx))).2 (hs x (by simp [hx])))
    rw [List.length_erase_of_mem ha] at this
    have hp : 0 < m.length := List.length_pos_of_mem ha
    rw [List.length_cons]
    omega
theorem nodup_back {α : Type} [DecidableEq α] {l m : List α} (hn : l.Nodup) (hs : ∀ x ∈ l, x ∈ m) (hl : l.length = m.length) : ∀ x ∈ m, x ∈ l := by
  intro x hx
  apply Decidable.byContradiction
  intro hno
  have := nodup_len (x :: l) m (List.nodup_cons.2 ⟨hno, hn⟩) (fun y hy => by
    rcases List.mem_cons.1 hy with rfl | hy
    · exact hx
    · exact hs y hy)
  rw [List.length_cons] at this
  omega

theorem nodup_of_keys {l : List (Int × Sd)} (h : (l.map (·.1)).Nodup) : l.Nodup := by
  unfold List.Nodup at h ⊢
  rw [List.pairwise_map] at h
  exact h.imp (fun h e => h (by rw [e]))

theorem sameB_iff {l m : List (Int × Sd)} (hl : (l.map (·.1)).Nodup) (hm : (m.map (·.1)).Nodup) : sameB l m = true ↔ ∀ p, p ∈ l ↔ p ∈ m := by
  unfold sameB
  rw [Bool.and_eq_true, decide_eq_true_eq, List.all_eq_true]
  constructor
  · rintro ⟨h1, h2⟩ p
    have hsub : ∀ x ∈ l, x ∈ m := fun x hx => (getL_some hm).1 (by simpa using h2 x hx)
    exact ⟨hsub p, nodup_back (nodup_of_keys hl) hsub h1 p⟩
  · intro h
    refine ⟨Nat.le_antisymm (nodup_len _ _ (nodup_of_keys hl) (fun x hx => (h x).1 hx)) (nodup_len _ _ (nodup_of_keys hm) (fun x hx => (h x).2 hx)), fun p hp => ?_⟩
    rw [decide_eq_true_eq, getL_some hm]
    exact (h p).1 hp
theorem sameK_iff {xs ys : List Fc} {k : Str} : sameK xs ys k = true ↔ ∀ p, p ∈ innL ⟨k.toArray⟩ xs ↔ p ∈ innL ⟨k.toArray⟩ ys := sameB_iff (innL_nodup _ _) (innL_nodup _ _)
theorem sameK_self (xs : List Fc) (k : Str) : sameK xs xs k = true := sameK_iff.2 (fun _ => Iff.rfl)
theorem sameK_comm (xs ys : List Fc) (k : Str) : sameK xs ys k = sameK ys xs k := by
  rw [Bool.eq_iff_iff, sameK_iff, sameK_iff]
  exact ⟨fun h p => (h p).symm, fun h p => (h p).symm⟩

theorem diffL_self (xs : List Fc) : diffL xs xs = [] := by
  unfold diffL diffOf
  rw [List.filter_eq_nil_iff]
  intro k _
  simp [sameK_self]

theorem lt_list_eq : ∀ {l m : List Str}, l.Pairwise (fun a b => a < b) → m.Pairwise (fun a b => a < b) → (∀ x, x ∈ l ↔ x ∈ m) → l = m
  | [], [], _, _, _ => rfl
  | [], b :: m, _, _, h => by have := (h b).2 (by simp); simp at this
  | a :: l, [], _, _, h => by have := (h a).1 (by simp); simp at this
  | a :: l, b :: m, h1, h2, h => by
    obtain ⟨g1, g2⟩ := List.pairwise_cons.1 h1
    obtain ⟨k1, k2⟩ := List.pairwise_cons.1 h2
    have hab : a = b := by
      have ha := (h a).1 (by simp)
      have hb := (h b).2 (by simp)
      rcases List.mem_cons.1 ha with e | ha
      · exact e
      · rcases List.mem_cons.1 hb with e | hb
        · exact e.symm
        · exact absurd (List.lt_trans (g1 b hb) (k1 a ha)) (List.lt_irrefl _)
    subst hab
    rw [lt_list_eq g2 k2 (fun x => ?_)]
    constructor
    · intro hx
      have := (h x).1 (by simp [hx])
      rcases List.mem_cons.1 this with rfl | hx'
      · exact absurd (g1 x hx) (List.lt_irrefl _)
      · exact hx'
    · intro hx
      have := (h x).2 (by simp [hx])
      rcases List.mem_cons.1 this with rfl | hx'
      · exact absurd (k1 x hx) (List.lt_irrefl _)
      · exact hx'

theorem named_comm (a b : List Str) : namedL (a ++ b) = namedL (b ++ a) :=
  lt_list_eq (namedL_lt _) (namedL_lt _) (fun x => by rw [namedL_mem, namedL_mem, List.mem_append, List.mem_append, Or.comm])
theorem diffL_comm (xs ys : List Fc) : diffL ys xs = diffL xs ys := by
  unfold diffL diffOf
  rw [named_comm]
  apply List.filter_congr
  intro k _
  rw [sameK_comm]

/-- What the best fact is, in what a key is. -/
structure BestI (l : List (Int × Sd)) (v : Int) (o : Option Fc) : Prop where
  none : o = none → ∀ p ∈ l, ¬ p.1 ≤ v
  some : ∀ y, o = some y → y.valid ≤ v ∧ (y.valid, (y.kind, y.val)) ∈ l ∧ ∀ p ∈ l, p.1 ≤ v → p.1 ≤ y.valid

theorem bestI (k : ByteArray) (v : Int) (xs : List Fc) : BestI (innL k xs) v (bestF k v xs) := by
  induction xs using list_snoc_ind with
  | h0 => exact ⟨(fun _ p hp => by simp [innL] at hp), (fun y hy => by simp [bestF] at hy)⟩
  | h1 xs x ih =>
    have e1 : bestF k v (xs ++ [x]) = bestStep k v (bestF k v xs) x := by unfold bestF; rw [List.foldl_append]; rfl
    have e2 : innL k (xs ++ [x]) = if x.key.toList = k.toList then insV (innL k xs) x else innL k xs := by unfold innL; rw [List.foldl_append]; rfl
    rw [e1, e2]
    have hnd := innL_nodup k xs
    generalize innL k xs = l at *
    generalize bestF k v xs = o at *
    unfold bestStep
    by_cases hk : x.key.toList = k.toList
    · rw [if_pos hk]
      unfold insV
      by_cases hin : x.valid ∈ l.map (·.1)
      · rw [if_pos hin]
        obtain ⟨p, hp, hpe⟩ := List.mem_map.1 hin
        rw [if_neg]
        · exact ih
        · rintro ⟨_, h2, h3⟩
          cases o with
          | none => exact ih.none rfl p hp (by rw [hpe]; exact h2)
          | some y =>
            have := (ih.some y rfl).2.2 p hp (by rw [hpe]; exact h2)
            have := h3 y rfl
            omega
      · rw [if_neg hin]
        have hput : putL l x.valid (x.kind, x.val) = l ++ [(x.valid, (x.kind, x.val))] := by unfold putL; rw [if_neg hin]
        rw [hput]
        by_cases hb : x.key.toList = k.toList ∧ x.valid ≤ v ∧ (∀ y, o = some y → y.valid < x.valid)
        · rw [if_pos hb]
          refine ⟨(fun h => by cases h), fun y hy => ?_⟩
          injection hy with hy
          subst hy
          refine ⟨hb.2.1, by simp, fun p hp hpv => ?_⟩
          rcases List.mem_append.1 hp with hp | hp
          · cases o with
            | none => exact absurd hpv (ih.none rfl p hp)
            | some y => have := (ih.some y rfl).2.2 p hp hpv; have := hb.2.2 y rfl; omega
          · rw [List.mem_singleton.1 hp]; exact Int.le_refl _
        · rw [if_neg hb]
          refine ⟨fun h p hp => ?_, fun y hy => ?_⟩
          · rcases List.mem_append.1 hp with hp | hp
            · exact ih.none h p hp
            · rw [List.mem_singleton.1 hp]
              intro hle
              exact hb ⟨hk, hle, fun y hy => by rw [h] at hy; cases hy⟩
          · obtain ⟨h1, h2, h3⟩ := ih.some y hy
            refine ⟨h1, by simp [h2], fun p hp hpv => ?_⟩
            rcases List.mem_append.1 hp with hp | hp
            · exact h3 p hp hpv
            · rw [List.mem_singleton.1 hp] at hpv ⊢
              simp only at hpv ⊢
              apply Int.not_lt.1
              intro hlt
              exact hb ⟨hk, hpv, fun z hz => by rw [hy] at hz; cases hz; exact hlt⟩
    · rw [if_neg hk, if_neg (fun h => hk h.1)]
      exact ih

theorem value_same {xs ys : List Fc} {k : ByteArray} (h : ∀ p, p ∈ innL k xs ↔ p ∈ innL k ys) (v : Int) : valueL k v xs = valueL k v ys := by
  have bx := bestI k v xs
  have by_ := bestI k v ys
  have hnd := innL_nodup k ys
  unfold valueL
  cases hx : bestF k v xs with
  | none =>
    cases hy : bestF k v ys with
    | none => rfl
    | some y =>
      obtain ⟨h1, h2, _⟩ := by_.some y hy
      exact absurd h1 (bx.none hx _ ((h _).2 h2))
  | some x =>
    cases hy : bestF k v ys with
    | none =>
      obtain ⟨h1, h2, _⟩ := bx.some x hx
      exact absurd h1 (by_.none hy _ ((h _).1 h2))
    | some y =>
      obtain ⟨a1, a2, a3⟩ := bx.some x hx
      obtain ⟨b1, b2, b3⟩ := by_.some y hy
      have hle1 := a3 _ ((h _).2 b2) b1
      have hle2 := b3 _ ((h _).1 a2) a1
      have he : x.valid = y.valid := by simp only at hle1 hle2; omega
      have g1 := (getL_some hnd).2 ((h _).1 a2)
      have g2 := (getL_some hnd).2 b2
      rw [he, g2] at g1
      injection g1 with g1
      injection g1 with g3 g4
      simp only [g3, g4]

theorem value_same_key {xs ys : List Fc} {k : ByteArray} (h : k.toList ∉ diffL xs ys) (hk : k.toList ∈ keysOf xs ++ keysOf ys) (v : Int) : valueL k v xs = valueL k v ys := by
  apply value_same
  have hs : sameK xs ys k.toList = true := by
    apply Decidable.byContradiction
    intro hs
    apply h
    unfold diffL diffOf
    rw [List.mem_filter]
    exact ⟨namedL_mem.2 hk, by simpa using hs⟩
  have := sameK_iff.1 hs
  rw [mk_bytes] at this
  exact this
end Go.Proofs.Ytenocakpipppiaa
