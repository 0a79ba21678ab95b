/- Rows of strings that a call owns: appended to, sorted, made compact. No condition. -/
import Derived.Test.YtenocakpipppiaaGreatDoorV8
import Derived.Sort.OwnSorted
import Derived.Lib.RowBridge
import Derived.Lib.SlicesCompact
namespace Go.Proofs.YtenocakpipppiaaGreatDoor
open Go.RowKit Go.Shelf Go.Herb Go.Sort Go.Lib

abbrev Str := List UInt8
abbrev sc (l : Str) : List Value := [encStr l]
theorem sc_len (l : Str) : (sc l).length = 1 := rfl
abbrev Strs (w : World) (a : Option Addr) (ss : List Str) : Prop := Els sc 1 w a ss
theorem sc_flat (ss : List Str) : ss.flatMap sc = ss.map encStr := by
  induction ss with
  | nil => rfl
  | cons s ss ih => rw [List.flatMap_cons, List.map_cons, ih]; rfl

/-- Strings that a call owns. -/
def OwnS (B : Nat) (w : World) (v : Value) (ss : List Str) : Prop := w.ownsRow B 9 1 v ss.length (ss.map encStr)

theorem OwnS.below {B : Nat} {w w' : World} {v : Value} {ts : List Str} (h : OwnS B w v ts) (hb : Below w.heap.size w w') : OwnS B w' v ts := ownsRow_below h hb (Nat.le_refl _)
theorem OwnS.els {B : Nat} {w : World} {v : Value} {ss : List Str} (h : OwnS B w v ss) : ∃ a cap, v = .slice a ss.length cap ∧ ss.length ≤ cap ∧ Strs w a ss := by
  unfold OwnS at h
  rw [← sc_flat] at h
  exact els_of_owns sc_len h

theorem Tryz.info9 : (Tryz.prog.info? 9).map (fun i => (i.zero, i.size, i.bytes)) = some (some (.string .empty), 1, 16) := by kernel_rfl

theorem str_of_bytes (k : ByteArray) : encStr k.toList = .string k := by
  rw [ByteArray.toList_eq]

theorem run_append_str (w : World) (B : Nat) (v : Value) (ss : List Str) (vb : Nat) (k : ByteArray) (ho : OwnS B w v ss) (hb : w.heap[vb]? = some (.cells #[.string k] 9 (0, 0))) (hx : ss.length < 1000000) (hB : B ≤ w.heap.size) (ty : TypeId) :
    ∃ v' w', (Builtin.append_ #[64, 64] ty #[v, .slice (some ⟨vb, 0, none⟩) 1 1]).run Tryz.prog w = .ok v' w' ∧ OwnS B w' v' (ss ++ [k.toList]) ∧ w.grownBy w' v.ownBlock := by
  obtain ⟨i0, hin, hz0, hz1, hz2⟩ := info_parts Tryz.info9
  obtain ⟨v', w', hr, h2, h3, h4⟩ := run_append_own (P := Tryz.prog) w B 64 ty 9 i0 _ 1 16 Tryz.underlying64 hin hz0 hz1 hz2 rfl (by decide) v ss.length (ss.map encStr) ho ⟨vb, 0, none⟩ 1 1 [.string k] rfl (fun j u hj => by
      have : ((⟨vb, 0, none⟩ : Addr).add j) = ⟨vb, 0 + j, none⟩ := addr_add _ _ _
      rw [this, Nat.zero_add, cell_of_blk hb]
      simpa using hj) (by intro v hv; rw [List.mem_singleton.1 hv]; rfl) (by unfold maxLen; omega) (by omega) hB
  refine ⟨v', w', hr, ?_, h3⟩
  unfold OwnS
  rw [List.length_append, List.map_append]
  have : [k.toList].map encStr = [.string k] := by rw [List.map_singleton, str_of_bytes]
  rw [this]
  exact h2

/-- The keys, sorted, each once. -/
def sortS (ss : List Str) : List Str := ss.mergeSort fun x y => decide (x ≤ y)
def namedL (ss : List Str) : List Str := compact (sortS ss)

theorem le_total_str (a b : Str) : a ≤ b ∨ b ≤ a := List.le_total a b
theorem sortS_pair (ss : List Str) : (sortS ss).Pairwise (fun a b => a ≤ b) := by
  have := List.pairwise_mergeSort (le := fun x y : Str => decide (x ≤ y)) (fun a b c h1 h2 => by
    simp only [decide_eq_true_eq] at *
    exact List.le_trans h1 h2) (fun a b => by
    rcases le_total_str a b with h | h
    · simp [h]
    · simp [h]) ss
  exact this.imp (fun h => by simpa using h)
theorem sortS_perm (ss : List Str) : (sortS ss).Perm ss := List.mergeSort_perm _ _
theorem sortS_len (ss : List Str) : (sortS ss).length = ss.length := (sortS_perm ss).length_eq

theorem compact_mem (zs : List Str) (x : Str) (hs : zs.Pairwise (fun a b => a ≤ b)) : (x ∈ compact zs ↔ x ∈ zs) ∧ (compact zs).Pairwise (fun a b => a < b) := by
  unfold compact
  have key : ∀ m, m ≤ zs.length → ((∀ x, x ∈ compactUpTo zs.toArray m ↔ x ∈ zs.take m) ∧ (compactUpTo zs.toArray m).Pairwise (fun a b => a < b)) := by
    intro m
    induction m with
    | zero => intro _; exact ⟨fun x => by simp [compactUpTo], by simp [compactUpTo]⟩
    | succ m ih =>
      intro hm
      obtain ⟨h1, h2⟩ := ih (by omega)
      have hml : m < zs.length := by omega
      have hget : zs.toArray[m]! = zs[m] := by rw [getElem!_pos _ m (by simpa using hml)]; rfl
      rw [compactUpTo_succ, hget]
      have hsucc : zs.take (m + 1) = zs.take m ++ [zs[m]] := List.take_succ_eq_append_getElem hml
      have hle : ∀ y ∈ zs.take m, y ≤ zs[m] := by
        intro y hy
        obtain ⟨i, hi, rfl⟩ := List.getElem_of_mem hy
        rw [List.getElem_take]
        exact List.pairwise_iff_getElem.1 hs i m (by simp at hi; omega) hml (by simp at hi; omega)
      by_cases hk : keeps zs.toArray m = true
      · rw [if_pos hk, hsucc]
        refine ⟨fun x => by rw [List.mem_append, List.mem_append, h1], ?_⟩
        rw [List.pairwise_append]
        refine ⟨h2, by simp, ?_⟩
        intro a ha b hb
        rw [List.mem_singleton.1 hb]
        have hat := (h1 a).1 ha
        unfold keeps at hk
        rw [decide_eq_true_eq] at hk
        have h0 : m ≠ 0 := by
          intro h0
          subst h0
          simp at hat
        have hne : zs.toArray[m]! ≠ zs.toArray[m - 1]! := by
          rcases hk with h | h
          · exact absurd h h0
          · exact h
        have hm1 : m - 1 < zs.length := by omega
        have hget1 : zs.toArray[m - 1]! = zs[m - 1] := by rw [getElem!_pos _ (m - 1) (by simpa using hm1)]; rfl
        rw [hget, hget1] at hne
        have ha1 : a ≤ zs[m - 1] := by
          obtain ⟨i, hi, rfl⟩ := List.getElem_of_mem hat
          rw [List.getElem_take]
          have hi' : i < m := by simp at hi; omega
          rcases Nat.lt_or_ge i (m - 1) with h | h
          · exact List.pairwise_iff_getElem.1 hs i (m - 1) (by omega) hm1 h
          · have : i = m - 1 := by omega
            subst this
            exact List.le_refl _
        have h3 : zs[m - 1] ≤ zs[m] := List.pairwise_iff_getElem.1 hs (m - 1) m hm1 hml (by omega)
        have h4 : zs[m - 1] < zs[m] := by
          rcases lt_total_bytes zs[m - 1] zs[m] with h | h | h
          · exact h
          · exact absurd h.symm hne
          · exact absurd h (List.not_lt.2 h3)
        exact List.lt_of_le_of_lt ha1 h4
      · rw [if_neg hk, List.append_nil, hsucc]
        refine ⟨fun x => ?_, h2⟩
        rw [h1, List.mem_append]
        constructor
        · exact Or.inl
        · rintro (h | h)
          · exact h
          · rw [List.mem_singleton] at h
            have h0 : ¬ (m = 0 ∨ zs.toArray[m]! ≠ zs.toArray[m - 1]!) := by
              intro hh
              exact hk (by unfold keeps; exact decide_eq_true hh)
            have hm0 : m ≠ 0 := fun e => h0 (.inl e)
            have hm1 : m - 1 < zs.length := by omega
            have hget1 : zs.toArray[m - 1]! = zs[m - 1] := by rw [getElem!_pos _ (m - 1) (by simpa using hm1)]; rfl
            have he : zs[m] = zs[m - 1] := by
              apply Decidable.byContradiction
              intro hne
              exact h0 (.inr (by rw [hget, hget1]; exact hne))
            rw [h, he]
            rw [List.mem_take_iff_getElem]
            exact ⟨m - 1, by omega, rfl⟩
  have := key zs.length (Nat.le_refl _)
  rw [List.take_length] at this
  exact ⟨this.1 x, this.2⟩
theorem namedL_mem {ss : List Str} {x : Str} : x ∈ namedL ss ↔ x ∈ ss := by
  unfold namedL
  rw [(compact_mem _ x (sortS_pair ss)).1, (sortS_perm ss).mem_iff]
theorem namedL_lt (ss : List Str) : (namedL ss).Pairwise (fun a b => a < b) := (compact_mem _ [] (sortS_pair ss)).2
theorem namedL_len (ss : List Str) : (namedL ss).length ≤ ss.length := by
  unfold namedL
  have := compact_length_le (sortS ss)
  rw [sortS_len] at this
  exact this
end Go.Proofs.YtenocakpipppiaaGreatDoor
