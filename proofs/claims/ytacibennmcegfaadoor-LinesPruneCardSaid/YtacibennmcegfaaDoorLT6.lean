/- LinesPrune: what stays, counted; a prune done again. No condition. -/
import Derived.Test.YtacibennmcegfaaDoorLT5
import Derived.Test.YtacibennmcegfaaDoorLN9
namespace Go.Herb
open Go.RowKit
def cntM (m : List (Int × Int)) (k : Int) : Int := (getL m k).getD 0
/-- A map that counts the numbers of a list. -/
structure CountM (m : List (Int × Int)) (L : List Int) : Prop where
  nodup : (m.map (·.1)).Nodup
  keys : ∀ k, k ∈ m.map (·.1) ↔ k ∈ L
  vals : ∀ k v, getL m k = some v → 1 ≤ v ∧ v ≤ L.length
theorem CountM.nil : CountM [] [] := ⟨List.nodup_nil, fun k => by simp, fun k v h => by simp [getL] at h⟩
theorem CountM.cnt {m : List (Int × Int)} {L : List Int} (h : CountM m L) (k : Int) : 0 ≤ cntM m k ∧ cntM m k ≤ L.length ∧ (k ∈ L → cntM m k ≠ 0) := by
  unfold cntM
  cases hg : getL m k with
  | none =>
    refine ⟨Int.le_refl _, by simp, fun hk => ?_⟩
    exact absurd ((h.keys k).2 hk) (getL_none.1 hg)
  | some v =>
    have := h.vals k v hg
    simp only [Option.getD_some]
    exact ⟨by omega, by omega, fun _ => by omega⟩
theorem CountM.step {m : List (Int × Int)} {L : List Int} (h : CountM m L) (k : Int) : CountM (putL m k (cntM m k + 1)) (L ++ [k]) := by
  refine ⟨putL_nodup h.nodup _ _, fun j => ?_, fun j v hj => ?_⟩
  · rw [putL_keys, List.mem_append, List.mem_singleton, ← h.keys j]
    split
    · rename_i hk
      constructor
      · exact .inl
      · rintro (h1 | rfl)
        · exact h1
        · exact hk
    · rw [List.mem_append, List.mem_singleton]
  · have h1 := h.cnt k
    rw [List.length_append, List.length_singleton]
    by_cases hjk : j = k
    · subst hjk
      rw [getL_put_same] at hj
      injection hj with hj
      omega
    · rw [getL_put_other _ _ _ hjk] at hj
      have := h.vals j v hj
      omega
theorem CountM.length {m : List (Int × Int)} {L S : List Int} (h : CountM m L) (hs : S.Nodup) (hm : ∀ k ∈ L, k ∈ S) : m.length = (S.filter (fun k => decide (k ∈ L))).length := by
  rw [← List.length_map (f := (·.1))]
  refine List.Perm.length_eq ((List.perm_ext_iff_of_nodup h.nodup (hs.filter _)).2 (fun k => ?_))
  rw [h.keys k, List.mem_filter, decide_eq_true_eq]
  exact ⟨fun hk => ⟨hm k hk, hk⟩, fun hk => hk.2⟩
theorem chain_mem (l : List Ln) : ∀ (n : Nat) (line a : Int), ∀ x ∈ chainF l n line a, ∃ p, (x.1, p) ∈ l
  | 0, _, _, x, hx => by simp [chainF] at hx
  | n + 1, line, a, x, hx => by
    rw [chainF_succ] at hx
    cases hp : parL l line with
    | none => rw [hp] at hx; cases hx
    | some p =>
      rw [hp] at hx
      rcases List.mem_cons.1 hx with rfl | hx
      · obtain ⟨i, hi⟩ := parL_some hp
        exact ⟨p, List.mem_of_getElem? hi⟩
      · split at hx
        · cases hx
        · exact chain_mem l n p line x hx
theorem srtL_nodup {ls : List Ln} (h : SrtL ls) : (ls.map (·.1)).Nodup := by
  unfold SrtL at h
  rw [List.nodup_iff_pairwise_ne, List.pairwise_map]
  exact h.imp (fun h => by omega)
theorem keepL_mem {ls : List Ln} {fr : List Int} {k : Int} (hk : k ∈ keepL ls fr) : ∃ p, (k, p) ∈ ls := by
  unfold keepL at hk
  obtain ⟨id, _, hx⟩ := List.mem_flatMap.1 hk
  obtain ⟨x, hx2, rfl⟩ := List.mem_map.1 hx
  exact chain_mem ls _ _ _ x hx2
theorem pruned_len {ls : List Ln} {fr : List Int} {m : List (Int × Int)} (hs : SrtL ls) (h : CountM m (keepL ls fr)) : m.length = (prunedL ls fr).length := by
  rw [h.length (srtL_nodup hs) (fun k hk => by obtain ⟨p, hp⟩ := keepL_mem hk; exact List.mem_map.2 ⟨_, hp, rfl⟩)]
  unfold prunedL
  rw [List.filter_map, List.length_map]
  rfl
theorem pruned_in {ls : List Ln} {fr : List Int} (hf : FormedL ls) {id q : Int} (hid : id ∈ fr) (hq : parL ls id = some q) : parL (prunedL ls fr) id = some q := by
  refine prunedL_get hf ?_ hq
  unfold keepL
  refine List.mem_flatMap.2 ⟨id, hid, ?_⟩
  obtain ⟨n, hn⟩ : ∃ n, ls.length = n + 1 := by
    obtain ⟨i, hi⟩ := parL_some hq
    obtain ⟨h, _⟩ := List.getElem?_eq_some_iff.1 hi
    exact ⟨ls.length - 1, by omega⟩
  rw [hn, chainF_succ, hq]
  simp
theorem keepL_pruned {ls : List Ln} {fr : List Int} (h : FormedL ls) (hf : ∀ id ∈ fr, ∃ p, parL ls id = some p) : keepL (prunedL ls fr) fr = keepL ls fr := by
  show fr.flatMap (fun id => (chainF (prunedL ls fr) (prunedL ls fr).length id 0).map (·.1)) = fr.flatMap (fun id => (chainF ls ls.length id 0).map (·.1))
  have : ∀ (zs : List Int), (∀ z ∈ zs, z ∈ fr) → zs.flatMap (fun id => (chainF (prunedL ls fr) (prunedL ls fr).length id 0).map (·.1)) = zs.flatMap (fun id => (chainF ls ls.length id 0).map (·.1)) := by
    intro zs
    induction zs with
    | nil => intro _; rfl
    | cons z zs ih =>
      intro hz
      rw [List.flatMap_cons, List.flatMap_cons, ih (fun y hy => hz y (List.mem_cons_of_mem _ hy)), prune_chain h hf (hz z List.mem_cons_self) 0]
  exact this fr (fun _ h => h)
theorem pruned_again {ls : List Ln} {fr : List Int} (h : FormedL ls) (hf : ∀ id ∈ fr, ∃ p, parL ls id = some p) : prunedL (prunedL ls fr) fr = prunedL ls fr := by
  conv => lhs; unfold prunedL
  rw [show keepL (ls.filter fun x => decide (x.1 ∈ keepL ls fr)) fr = keepL ls fr from keepL_pruned h hf, List.filter_filter]
  show ls.filter (fun x => decide (x.1 ∈ keepL ls fr) && decide (x.1 ∈ keepL ls fr)) = ls.filter _
  congr 1
  funext x
  rw [Bool.and_self]
end Go.Herb
namespace Go.Proofs.YtacibennmcegfaaDoor
open Go.RowKit Go.Shelf Go.Herb
theorem MapIs.lookN {w : World} {b : Nat} {m : List (Int × Int)} (h : MapC w b m) (k : Int) (hk : (Lit.int .u64 k).wf = true) :
    (Instr.lookup (56) (.map (some b)) (.int .u64 k) false).run Tryd.prog w = .ok (.int .i64 (cntM m k)) w := by
  have := (MapIs.look h lawU eU_inj Tryd.underlying56 (zeroI w) (Maps.keyOf_int_mk Tryd.underlying34 hk)).1
  unfold cntM
  cases hg : getL m k with
  | none => rw [hg] at this; exact this
  | some v => rw [hg] at this; exact this
end Go.Proofs.YtacibennmcegfaaDoor
