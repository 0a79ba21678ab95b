/- Plain facts on scans. No condition. -/
import Derived.Test.YtenocakpipppiaaS5
namespace Go.Proofs.Ytenocakpipppiaa
open Go.RowKit Go.Shelf Go.Herb Go.Sort Go.Lib

/-- The scan of a view. -/
def scanV (view : List Fc) (low high : ByteArray) (valid : Int) : List Pr := scanL view low high valid (namedL (keysOf view))

theorem mem_keysOf {view : List Fc} {k : Str} : k ∈ keysOf view ↔ ∃ x ∈ view, x.key.toList = k := by
  unfold keysOf
  rw [List.mem_map]

theorem value_has {key : ByteArray} {valid : Int} {view : List Fc} (h : (valueL key valid view).2 = true) : ∃ x ∈ view, x.key.toList = key.toList := by
  have hb : ∀ xs : List Fc, ∀ b : Option Fc, (∀ y, b = some y → ∃ x ∈ view, x.key.toList = key.toList) → (∀ x ∈ xs, x ∈ view) → ∀ y, xs.foldl (bestStep key valid) b = some y → ∃ x ∈ view, x.key.toList = key.toList := by
    intro xs
    induction xs with
    | nil => intro b hb _ y hy; exact hb y hy
    | cons x xs ih =>
      intro b hb hs y hy
      rw [List.foldl_cons] at hy
      refine ih _ ?_ (fun z hz => hs z (by simp [hz])) y hy
      intro z hz
      unfold bestStep at hz
      split at hz
      · rename_i hc
        exact ⟨x, hs x (by simp), hc.1⟩
      · exact hb z hz
  unfold valueL at h
  cases hv : bestF key valid view with
  | none => rw [hv] at h; simp at h
  | some y => exact hb view none (by simp) (fun _ h => h) y hv

theorem pairAt_some {view : List Fc} {low high : ByteArray} {valid : Int} {k : Str} {p : Pr} (h : pairAt view low high valid k = some p) : p.1.toList = k ∧ betw low high k = true ∧ valueL p.1 valid view = (p.2, true) := by
  unfold pairAt at h
  split at h
  · rename_i hc
    injection h with h
    subst h
    exact ⟨bytes_mk k, hc.1, Prod.ext rfl hc.2⟩
  · cases h

theorem scanV_mem {view : List Fc} {low high : ByteArray} {valid : Int} {p : Pr} (h : p ∈ scanV view low high valid) : betw low high p.1.toList = true ∧ valueL p.1 valid view = (p.2, true) := by
  unfold scanV scanL at h
  obtain ⟨k, hk, hp⟩ := List.mem_filterMap.1 h
  obtain ⟨h1, h2, h3⟩ := pairAt_some hp
  exact ⟨by rw [h1]; exact h2, h3⟩

theorem scanV_lt (view : List Fc) (low high : ByteArray) (valid : Int) : (scanV view low high valid).Pairwise (fun p q => p.1.toList < q.1.toList) := by
  unfold scanV scanL
  rw [List.pairwise_filterMap]
  refine (namedL_lt _).imp ?_
  intro a b hab p hp q hq
  rw [(pairAt_some hp).1, (pairAt_some hq).1]
  exact hab

theorem scanV_has {view : List Fc} {low high : ByteArray} {valid : Int} {k : ByteArray} (h1 : betw low high k.toList = true) (h2 : (valueL k valid view).2 = true) : (k, (valueL k valid view).1) ∈ scanV view low high valid := by
  unfold scanV scanL
  rw [List.mem_filterMap]
  refine ⟨k.toList, namedL_mem.2 (mem_keysOf.2 (value_has h2)), ?_⟩
  unfold pairAt
  rw [mk_bytes, if_pos ⟨h1, h2⟩]

theorem between_one : ∀ (l k : Str), ¬ k < l → k < l ++ [0] → k = l
  | [], [], _, _ => rfl
  | [], c :: k, _, h => by
    rw [List.nil_append, List.cons_lt_cons_iff] at h
    rcases h with h | ⟨_, h⟩
    · exact absurd h (by rw [UInt8.lt_iff_toNat_lt]; simp)
    · exact absurd h (List.not_lt_nil _)
  | a :: l, [], h1, _ => absurd (by simp) h1
  | a :: l, c :: k, h1, h2 => by
    rw [List.cons_append, List.cons_lt_cons_iff] at h2
    rw [List.cons_lt_cons_iff] at h1
    rcases h2 with h2 | ⟨rfl, h2⟩
    · exact absurd (.inl h2) h1
    · rw [between_one l k (fun h => h1 (.inr ⟨rfl, h⟩)) h2]

def lowZ (low : ByteArray) : ByteArray := low ++ ⟨#[0]⟩
theorem lowZ_list (low : ByteArray) : (lowZ low).toList = low.toList ++ [0] := by
  unfold lowZ
  rw [ByteArray.toList_eq, ByteArray.toList_eq, ByteArray.data_append]
  simp

theorem betw_one (low : ByteArray) : betw low (lowZ low) low.toList = true := by
  unfold betw
  rw [Bool.and_eq_true, decide_eq_true_eq, decide_eq_true_eq]
  refine ⟨List.lt_irrefl _, .inr ?_⟩
  rw [lowZ_list]
  have : ∀ l : Str, l < l ++ [0] := by
    intro l
    induction l with
    | nil => simp
    | cons a l ih => rw [List.cons_append, List.cons_lt_cons_iff]; exact .inr ⟨rfl, ih⟩
  exact this _
theorem betw_only {low : ByteArray} {k : Str} (h : betw low (lowZ low) k = true) : k = low.toList := by
  unfold betw at h
  rw [Bool.and_eq_true, decide_eq_true_eq, decide_eq_true_eq, lowZ_list] at h
  rcases h.2 with h2 | h2
  · simp at h2
  · exact between_one _ _ h.1 h2

/-- At one key a scan is that one's value. -/
theorem scan_one (view : List Fc) (low : ByteArray) (valid : Int) : scanV view low (lowZ low) valid = if (valueL low valid view).2 = true then [(low, (valueL low valid view).1)] else [] := by
  have hall : ∀ p ∈ scanV view low (lowZ low) valid, p = (low, (valueL low valid view).1) ∧ (valueL low valid view).2 = true := by
    intro p hp
    obtain ⟨h1, h2⟩ := scanV_mem hp
    have h3 : p.1 = low := bytes_ext (betw_only h1)
    rw [h3] at h2
    exact ⟨Prod.ext h3 (by rw [h2]), by rw [h2]⟩
  have hlt := scanV_lt view low (lowZ low) valid
  by_cases hv : (valueL low valid view).2 = true
  · rw [if_pos hv]
    have hin := scanV_has (view := view) (low := low) (high := lowZ low) (betw_one low) hv
    cases hs : scanV view low (lowZ low) valid with
    | nil => rw [hs] at hin; simp at hin
    | cons p ps =>
      rw [hs] at hall hlt
      have hp := (hall p (by simp)).1
      cases ps with
      | nil => rw [hp]
      | cons q ps =>
        have hq := (hall q (by simp)).1
        have := (List.pairwise_cons.1 hlt).1 q (by simp)
        rw [hp, hq] at this
        exact absurd this (List.lt_irrefl _)
  · rw [if_neg hv]
    cases hs : scanV view low (lowZ low) valid with
    | nil => rfl
    | cons p ps => rw [hs] at hall; exact absurd (hall p (by simp)).2 hv

/-- The keys that are counted. -/
def many (view : List Fc) (low high : ByteArray) (valid : Int) (k : ByteArray) : Bool := (valueL k valid view).2 && betw low high k.toList

theorem many_len {view : List Fc} {low high : ByteArray} {valid : Int} {m : List (ByteArray × Int)} (hn : (m.map (·.1)).Nodup) (hm : ∀ k, k ∈ m.map (·.1) ↔ (∃ x ∈ view, x.key = k) ∧ many view low high valid k = true) : m.length = (scanV view low high valid).length := by
  have h2 : ((scanV view low high valid).map (·.1)).Nodup := by
    unfold List.Nodup
    rw [List.pairwise_map]
    refine (scanV_lt view low high valid).imp ?_
    intro p q h e
    rw [e] at h
    exact List.lt_irrefl _ h
  have : (m.map (·.1)).Perm ((scanV view low high valid).map (·.1)) := by
    rw [List.perm_ext_iff_of_nodup hn h2]
    intro k
    rw [hm, List.mem_map]
    unfold many
    rw [Bool.and_eq_true]
    constructor
    · rintro ⟨_, h1, h3⟩
      exact ⟨_, scanV_has h3 h1, rfl⟩
    · rintro ⟨p, hp, rfl⟩
      obtain ⟨h1, h3⟩ := scanV_mem hp
      have h4 : (valueL p.1 valid view).2 = true := by rw [h3]
      obtain ⟨x, hx, he⟩ := value_has h4
      exact ⟨⟨x, hx, bytes_ext he⟩, h4, h1⟩
  have := this.length_eq
  simpa using this
end Go.Proofs.Ytenocakpipppiaa
