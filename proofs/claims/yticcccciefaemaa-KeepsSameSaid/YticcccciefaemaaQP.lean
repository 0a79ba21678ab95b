/- What is kept answers every watch as all does, and is kept again: where no facts are alike. No condition. -/
import Derived.Test.YticcccciefaemaaQL
import Derived.Test.YticcccciefaemaaLk
namespace Go.Proofs.Yticcccciefaemaa
open Go.RowKit Go.Shelf Go.Herb

theorem keptL_sub (xs : List Fc) (f : Nat → Bool) : ∀ n, n ≤ xs.length → List.Sublist (keptL xs f n) (xs.take n)
  | 0, _ => by simp [keptL]
  | n + 1, h => by
    rw [keptL_succ xs f n (by omega), ← List.take_append_getElem (show n < xs.length by omega)]
    refine List.Sublist.append (keptL_sub xs f n (by omega)) ?_
    split
    · exact List.Sublist.refl _
    · exact List.nil_sublist _
theorem NoAlike.pair {xs : List Fc} (h : NoAlike xs) : xs.Pairwise (fun a b => ¬ (spotOf a = spotOf b ∧ a.seq = b.seq)) := by
  rw [List.pairwise_iff_getElem]
  intro i j hi hj hij ⟨h1, h2⟩
  have := h.eq hi hj h1 h2
  omega
theorem NoAlike.of_pair {xs : List Fc} (h : xs.Pairwise (fun a b => ¬ (spotOf a = spotOf b ∧ a.seq = b.seq))) : NoAlike xs := by
  intro i k hk hi ⟨h1, h2, h3⟩
  refine List.pairwise_iff_getElem.1 h k i (by omega) hi hk ⟨?_, h3.symm⟩
  exact Prod.ext (bytes_ext h1.symm) h2.symm
theorem NoAlike.kept {xs : List Fc} (h : NoAlike xs) (f : Nat → Bool) : NoAlike (keptL xs f xs.length) := by
  have hs := keptL_sub xs f xs.length (Nat.le_refl _)
  rw [List.take_length] at hs
  exact NoAlike.of_pair (h.pair.sublist hs)
theorem mem_kept {xs : List Fc} {f : Nat → Bool} {x : Fc} : x ∈ keptL xs f xs.length ↔ ∃ i, ∃ h : i < xs.length, f i = true ∧ xs[i] = x := by
  unfold keptL
  rw [List.mem_filterMap]
  constructor
  · rintro ⟨i, hi, hx⟩
    have hi := List.mem_range.1 hi
    refine ⟨i, hi, ?_⟩
    cases hf : f i with
    | false => rw [hf] at hx; simp at hx
    | true =>
      rw [hf] at hx
      simp only [if_true] at hx
      rw [List.getElem?_eq_getElem hi] at hx
      injection hx with hx
      exact ⟨rfl, hx⟩
  · rintro ⟨i, hi, hf, rfl⟩
    refine ⟨i, List.mem_range.2 hi, ?_⟩
    rw [hf]
    simp

/-- The commits at which a watch must see the same. -/
def Asks (x : Wt) (at_ : Int) : Prop := at_ = x.at_ ∨ (x.on = true ∧ x.at_ ≤ at_)

theorem sees_of_view {xs : List Fc} (hN : NoAlike xs) (x : Wt) (at_ : Int) (ha : Asks x at_) (f : Fc) (h : f ∈ lastL (seenL xs x.cs at_)) : SeesP xs x f := by
  rcases ha with rfl | ⟨hon, hle⟩
  · exact .inl h
  · have hf : f ∈ xs := (List.mem_filter.1 (lastL_sub h).1).1
    obtain ⟨h1, h2, h3⟩ := (view_iff hN x.cs at_ f hf).1 h
    rcases Int.lt_or_le x.at_ f.seq with h4 | h4
    · exact .inr ⟨hon, h4, (view_iff hN x.cs f.seq f hf).2 ⟨h1, Int.le_refl _, fun y hy hu hs hq => h3 y hy hu hs (by omega)⟩⟩
    · exact .inl ((view_iff hN x.cs x.at_ f hf).2 ⟨h1, h4, fun y hy hu hs hq => h3 y hy hu hs (by omega)⟩)

theorem view_kept {xs : List Fc} (hN : NoAlike xs) (ws : List Wt) (f : Nat → Bool) (hf : ∀ i, i < xs.length → (f i = true ↔ KeptP xs ws i)) (x : Wt) (hx : x ∈ ws) (at_ : Int) (ha : Asks x at_) (z : Fc) :
    z ∈ lastL (seenL (keptL xs f xs.length) x.cs at_) ↔ z ∈ lastL (seenL xs x.cs at_) := by
  have hK := hN.kept f
  have hsub : ∀ y, y ∈ keptL xs f xs.length → y ∈ xs := fun y hy => by
    obtain ⟨i, hi, _, rfl⟩ := mem_kept.1 hy
    exact List.getElem_mem hi
  have hin : ∀ y, y ∈ lastL (seenL xs x.cs at_) → y ∈ keptL xs f xs.length := fun y hy => by
    have hm : y ∈ xs := (List.mem_filter.1 (lastL_sub hy).1).1
    obtain ⟨i, hi, rfl⟩ := List.getElem_of_mem hm
    exact mem_kept.2 ⟨i, hi, (hf i hi).2 ((kept_sees hN ws i hi).2 ⟨x, hx, sees_of_view hN x at_ ha _ hy⟩), rfl⟩
  have hfwd : z ∈ lastL (seenL xs x.cs at_) → z ∈ lastL (seenL (keptL xs f xs.length) x.cs at_) := fun h => by
    have hz := hin z h
    obtain ⟨h1, h2, h3⟩ := (view_iff hN x.cs at_ z (hsub z hz)).1 h
    exact (view_iff hK x.cs at_ z hz).2 ⟨h1, h2, fun y hy => h3 y (hsub y hy)⟩
  constructor
  · intro h
    have hz : z ∈ keptL xs f xs.length := (List.mem_filter.1 (lastL_sub h).1).1
    obtain ⟨h1, h2, h3⟩ := (view_iff hK x.cs at_ z hz).1 h
    have hzs : z ∈ seenL xs x.cs at_ := List.mem_filter.2 ⟨hsub z hz, (seenB_iff _ _ _).2 ⟨h1, h2⟩⟩
    obtain ⟨y, hy, hys, hyq⟩ := lastL_has hzs
    have hyk := hin y hy
    obtain ⟨k1, k2, k3⟩ := (view_iff hN x.cs at_ y (hsub y hyk)).1 hy
    have := h3 y hyk k1 hys k2
    rw [← hN.mem (hsub y hyk) (hsub z hz) hys (by omega)]
    exact hy
  · exact hfwd

theorem view_kept_perm {xs : List Fc} (hN : NoAlike xs) (ws : List Wt) (f : Nat → Bool) (hf : ∀ i, i < xs.length → (f i = true ↔ KeptP xs ws i)) (x : Wt) (hx : x ∈ ws) (at_ : Int) (ha : Asks x at_) :
    (lastL (seenL (keptL xs f xs.length) x.cs at_)).Perm (lastL (seenL xs x.cs at_)) := by
  have hnd : ∀ zs : List Fc, (lastL zs).Nodup := fun zs => List.Pairwise.of_map spotOf (fun a b h e => h (by rw [e])) (lastL_spots zs)
  rw [List.perm_ext_iff_of_nodup (hnd _) (hnd _)]
  exact fun z => view_kept hN ws f hf x hx at_ ha z

/-- The view of what is kept is the view of all. -/
theorem same_view {xs : List Fc} (hN : NoAlike xs) (ws : List Wt) {ks : List Fc} (hk : KeepIs xs ws ks) (x : Wt) (hx : x ∈ ws) (at_ : Int) (ha : Asks x at_) {ys zs : List Fc}
    (h1 : ys.Perm (lastL (seenL ks x.cs at_))) (s1 : ys.Pairwise (fun x y => ¬ LtF y x)) (h2 : zs.Perm (lastL (seenL xs x.cs at_))) (s2 : zs.Pairwise (fun x y => ¬ LtF y x)) : ys = zs := by
  obtain ⟨f, hf, rfl⟩ := hk
  exact view_one (h1.trans (view_kept_perm hN ws f hf x hx at_ ha)) h2 s1 s2 (lastL_spots _)

theorem keptL_all (xs : List Fc) (f : Nat → Bool) : ∀ n, n ≤ xs.length → (∀ i, i < n → f i = true) → keptL xs f n = xs.take n
  | 0, _, _ => by simp [keptL]
  | n + 1, h, hf => by
    rw [keptL_succ xs f n (by omega), ← List.take_append_getElem (show n < xs.length by omega), keptL_all xs f n (by omega) (fun i hi => hf i (by omega)), hf n (by omega)]
    rfl

/-- What is kept is kept again. -/
theorem keep_again {xs : List Fc} (hN : NoAlike xs) (ws : List Wt) {ks js : List Fc} (hk : KeepIs xs ws ks) (hj : KeepIs ks ws js) : js = ks := by
  obtain ⟨f, hf, rfl⟩ := hk
  obtain ⟨g, hg, rfl⟩ := hj
  have hall : ∀ i, i < (keptL xs f xs.length).length → g i = true := by
    intro i hi
    refine (hg i hi).2 ((kept_sees (hN.kept f) ws i hi).2 ?_)
    obtain ⟨q, hq, hfq, he⟩ := mem_kept.1 (List.getElem_mem hi)
    obtain ⟨x, hx, hs⟩ := (kept_sees hN ws q hq).1 ((hf q hq).1 hfq)
    refine ⟨x, hx, ?_⟩
    rw [← he]
    rcases hs with h | ⟨h1, h2, h3⟩
    · exact .inl ((view_kept hN ws f hf x hx x.at_ (.inl rfl) _).2 h)
    · exact .inr ⟨h1, h2, (view_kept hN ws f hf x hx _ (.inr ⟨h1, by omega⟩) _).2 h3⟩
  rw [keptL_all _ g _ (Nat.le_refl _) hall, List.take_length]
end Go.Proofs.Yticcccciefaemaa
