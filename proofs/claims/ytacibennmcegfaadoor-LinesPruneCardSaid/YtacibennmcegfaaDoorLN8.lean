/- A tree's branches as a plain list: names rise, each with a line of its own. No condition. -/
import Derived.Test.YtacibennmcegfaaDoorLN7
import Derived.Test.YtacibennmcegfaaDoorMp
namespace Go.Herb

/-- What `named` asks of branches beside lines. -/
structure NamedL (bs : List Br) (ls : List Ln) : Prop where
  names : ∀ x ∈ bs, nameB x.1 = true
  srt : SrtB bs
  lines : ∀ x ∈ bs, ∃ q, parL ls x.2.1 = some q
  apart : (bs.map (·.2.1)).Nodup

theorem NamedL.nil (ls : List Ln) : NamedL [] ls := ⟨by simp, List.Pairwise.nil, by simp, by simp⟩
theorem NamedL.take {bs : List Br} {ls : List Ln} (h : NamedL bs ls) (i : Nat) : NamedL (bs.take i) ls :=
  ⟨fun x hx => h.names x (List.mem_of_mem_take hx), h.srt.sublist (List.take_sublist _ _), fun x hx => h.lines x (List.mem_of_mem_take hx), h.apart.sublist ((List.take_sublist _ _).map _)⟩
theorem take_snoc {α : Type} {bs : List α} {i : Nat} {x : α} (hx : bs[i]? = some x) : bs.take (i + 1) = bs.take i ++ [x] := by
  obtain ⟨h, rfl⟩ := List.getElem?_eq_some_iff.1 hx
  exact List.take_succ_eq_append_getElem h
theorem NamedL.next {bs : List Br} {ls : List Ln} {i : Nat} {x : Br} {q : Int} (h : NamedL (bs.take i) ls) (hx : bs[i]? = some x) (hn : nameB x.1 = true)
    (hl : ∀ y, 0 < i → bs[i - 1]? = some y → y.1.toList < x.1.toList) (hp : parL ls x.2.1 = some q) (hin : x.2.1 ∉ (bs.take i).map (·.2.1)) : NamedL (bs.take (i + 1)) ls := by
  rw [take_snoc hx]
  refine ⟨?_, ?_, ?_, ?_⟩
  · intro y hy
    rcases List.mem_append.1 hy with hy | hy
    · exact h.names y hy
    · rw [List.mem_singleton.1 hy]; exact hn
  · refine List.pairwise_append.2 ⟨h.srt, by simp, ?_⟩
    intro y hy z hz
    rw [List.mem_singleton.1 hz]
    obtain ⟨j, hj, hjy⟩ := List.getElem_of_mem hy
    have hlen : (bs.take i).length = i := by
      obtain ⟨h3, _⟩ := List.getElem?_eq_some_iff.1 hx
      simp
      omega
    have hji : j < i := by omega
    have h1 : i - 1 < (bs.take i).length := by omega
    have h2 : bs[i - 1]? = some ((bs.take i)[i - 1]'h1) := by
      rw [← List.getElem?_eq_getElem h1, List.getElem?_take_of_lt (by omega)]
    have h3 := hl _ (by omega) h2
    rcases Nat.lt_or_ge j (i - 1) with h4 | h4
    · have h5 := List.pairwise_iff_getElem.1 h.srt j (i - 1) hj h1 h4
      rw [hjy] at h5
      exact List.lt_trans h5 h3
    · have h5 : j = i - 1 := by omega
      subst h5
      rw [hjy] at h3
      exact h3
  · intro y hy
    rcases List.mem_append.1 hy with hy | hy
    · exact h.lines y hy
    · rw [List.mem_singleton.1 hy]; exact ⟨q, hp⟩
  · rw [List.map_append, List.nodup_append]
    refine ⟨h.apart, by simp, ?_⟩
    intro a ha b hb e
    simp only [List.map_cons, List.map_nil, List.mem_singleton] at hb
    subst hb
    subst e
    exact hin ha
theorem NamedL.at {bs : List Br} {ls : List Ln} {i : Nat} {x : Br} (h : NamedL bs ls) (hx : bs[i]? = some x) :
    nameB x.1 = true ∧ (∀ y, 0 < i → bs[i - 1]? = some y → y.1.toList < x.1.toList) ∧ (∃ q, parL ls x.2.1 = some q) ∧ x.2.1 ∉ (bs.take i).map (·.2.1) := by
  obtain ⟨hi, he⟩ := List.getElem?_eq_some_iff.1 hx
  have hm : x ∈ bs := List.mem_of_getElem? hx
  refine ⟨h.names x hm, ?_, h.lines x hm, ?_⟩
  · intro y h0 hy
    obtain ⟨hj, hy⟩ := List.getElem?_eq_some_iff.1 hy
    have := List.pairwise_iff_getElem.1 h.srt (i - 1) i hj hi (by omega)
    rw [hy, he] at this
    exact this
  · intro hc
    have h1 := h.apart.sublist ((List.take_sublist (i + 1) bs).map _)
    rw [take_snoc hx, List.map_append, List.nodup_append] at h1
    exact h1.2.2 _ hc _ (by simp) rfl

/-- A map that has counted the numbers of a list, each once. -/
def Counted (m : List (Int × Int)) (ls : List Int) : Prop := ∀ k, getL m k = if k ∈ ls then some 1 else none
theorem Counted.nil : Counted [] [] := fun k => by simp [getL]
theorem Counted.put {m : List (Int × Int)} {ls : List Int} (h : Counted m ls) (x : Int) : Counted (putL m x (0 + 1)) (ls ++ [x]) := by
  intro k
  by_cases hk : k = x
  · subst hk
    rw [getL_put_same]
    simp
  · rw [getL_put_other _ _ _ hk, h k]
    simp [hk]
end Go.Herb
