/- keeps.rows: its walk. Condition: fewer than 1000000 facts. -/
import Derived.Test.YticcccciefaemaaDoorQD
namespace Go.Proofs.YticcccciefaemaaDoor
open Go.RowKit Go.Shelf Go.Herb

theorem row47 : ((49) : TypeId) < Tryd.prog.types.size := of_decide_eq_true (by kernel_rfl)
theorem wide47 : (match Tryd.prog.underlying (49) with | some (.array _ _) | some (.struct _) => true | _ => false) = true := by kernel_rfl
set_option maxRecDepth 100000 in
theorem klaw47 : Go.WideMaps.KeyLaw Tryd.prog (49) := deep_law_laid laidOut (m := 3) (by omega) row47 (by kernel_rfl) wide47
theorem law47 : Maps.Keyed Tryd.prog (49) := Maps.Keyed.of_law klaw47
theorem cells47 : Tryd.prog.cellsOf (49) = 2 := by kernel_rfl
theorem kt47 : Tryd.prog.keyType (49) = true := by kernel_rfl
theorem zero43 (w : World) : (zeroValue (45)).run Tryd.prog w = .ok (.slice none 0 0) w := by kernel_rfl

theorem key47 (k : ByteArray) (v : Int) (hk : k.size ≤ maxLen) (hv : (Lit.int .u32 v).wf = true) : ∃ kl, keyOf Tryd.prog (49) (eS (k, v)) = some kl := by
  obtain ⟨n, hn⟩ : ∃ n, Tryd.prog.types.size = n + 1 := ⟨Tryd.prog.types.size - 1, by have h : ((49) : Nat) < Tryd.prog.types.size := row47; omega⟩
  have hlits : ∃ ls, Tryd.prog.keyLits (Tryd.prog.types.size + 1) (49) [.string k, .int .u32 v] = some ls := by
    rw [hn]
    simp [Program.keyLits, Tryd.underlying49, Tryd.underlying9, Tryd.underlying38, cells47, cells9, cells36, hk, hv]
  obtain ⟨ls, hls⟩ := hlits
  refine ⟨.string (keyBytes ls), ?_⟩
  have hf : (eS (k, v)).formed Tryd.prog (49) = true := by
    simp [Value.formed, Tryd.underlying49, cells47]
  unfold keyOf
  rw [Tryd.underlying49]
  simp only [kt47, hf, Bool.and_self, if_true]
  have : (eS (k, v)).cells.toList = [.string k, .int .u32 v] := rfl
  rw [this, hls]
  rfl

abbrev MapP (w : World) (b : Nat) (m : List (Spot × Value)) : Prop := MapIs Tryd.prog (49) eS (fun v : Value => v) w b m

theorem own_grown {B : Nat} {w w' : World} {u : Value} {ys : List Nat} {r : Option Nat} (h : OwnI B w u ys) (hg : w.grownBy w' r) (hne : ∀ k, u.ownBlock = some k → r ≠ some k) : OwnI B w' u ys := by
  obtain ⟨h1, h2 | ⟨g, cap, cur, rfl, hgb, hh, rest⟩⟩ := h
  · exact ⟨h1, .inl h2⟩
  · refine ⟨h1, .inr ⟨g, cap, cur, rfl, hgb, ?_, rest⟩⟩
    rw [hg.block g (lt_of_blk hh) (fun e => hne g rfl e.symm)]
    exact hh

/-- The rows of the first n facts, in a map, each in memory of its own. -/
def RowsIs (B : Nat) (w : World) (mb : Nat) (xs : List Fc) (n : Nat) : Prop := ∃ M : List (Spot × Value), MapP w mb M ∧ M.length ≤ n ∧
  (∀ s v, getL M s = some v → OwnI B w v (rowP xs n s) ∧ rowP xs n s ≠ []) ∧ (∀ s, getL M s = none → rowP xs n s = []) ∧
  (∀ s t v u, s ≠ t → getL M s = some v → getL M t = some u → v.ownBlock ≠ u.ownBlock)

theorem RowsIs.below {B mb n : Nat} {w w' : World} {xs : List Fc} (h : RowsIs B w mb xs n) (hb : Below w.heap.size w w') : RowsIs B w' mb xs n := by
  obtain ⟨M, h1, h2, h3, h4, h5⟩ := h
  exact ⟨M, h1.same (hb.block _ h1.lt), h2, fun s v hs => ⟨ownsRow_below (h3 s v hs).1 hb (Nat.le_refl _), (h3 s v hs).2⟩, h4, h5⟩
theorem RowsIs.skip {B mb n : Nat} {w : World} {xs : List Fc} (h : RowsIs B w mb xs n) (hf : firstI xs n = false) : RowsIs B w mb xs (n + 1) := by
  have e : ∀ s, rowP xs (n + 1) s = rowP xs n s := fun s => by rw [rowP_succ, hf]; simp
  obtain ⟨M, h1, h2, h3, h4, h5⟩ := h
  exact ⟨M, h1, by omega, fun s v hs => by rw [e]; exact h3 s v hs, fun s hs => by rw [e]; exact h4 s hs, h5⟩
theorem RowsIs.look {B mb n : Nat} {w : World} {xs : List Fc} (h : RowsIs B w mb xs n) (x : Fc) :
    ∃ (a : Option Addr) (cap : Nat), (Instr.lookup (46) (.map (some mb)) (eS (spotOf x)) false).run Tryd.prog w = .ok (.slice a (rowP xs n (spotOf x)).length cap) w ∧ Ints w a (rowP xs n (spotOf x)) := by
  obtain ⟨M, h1, h2, h3, h4, h5⟩ := h
  obtain ⟨kl, hkl⟩ := key47 x.key x.valid x.wk x.wv
  have hlk := (h1.look law47 eS_inj Tryd.underlying46 (zero43 w) (a := spotOf x) hkl).1
  cases hg : getL M (spotOf x) with
  | none =>
    rw [hg] at hlk
    rw [h4 _ hg]
    exact ⟨none, 0, hlk, Els.nil _ _ _ _⟩
  | some v =>
    rw [hg] at hlk
    obtain ⟨a, cap, rfl, _, hE⟩ := els_of_owns ic_len (h3 _ _ hg).1
    exact ⟨a, cap, hlk, hE⟩

theorem run_append_int_at (w : World) (B : Nat) (v : Value) (ys : List Nat) (vb : Nat) (i : Nat) (ho : OwnI B w v ys) (hb : w.heap[vb]? = some (.cells #[.int .i64 i] (3) (0, 0))) (hx : ys.length < 1000000) (hB : B ≤ w.heap.size) (ty : TypeId) :
    ∃ v' w', (Builtin.append_ #[(45), (45)] ty #[v, .slice (some ⟨vb, 0, none⟩) 1 1]).run Tryd.prog w = .ok v' w' ∧ OwnI B w' v' (ys ++ [i]) ∧ w.grownBy w' v.ownBlock ∧ (v'.ownBlock = v.ownBlock ∨ v'.ownBlock = some w.heap.size) := by
  obtain ⟨i0, hin, hz0, hz1, hz2⟩ := info_parts info3
  have hT : Ints w (some ⟨vb, 0, none⟩) [i] := ⟨fun j hj => ⟨vb, 0, rfl, lt_of_blk hb, fun q c hq => by
    have hj0 : j = 0 := by simp at hj; exact hj
    subst hj0
    rw [cell_of_blk hb]
    simpa [ic] using hq⟩⟩
  obtain ⟨v', w', hr, h2, h3, _, h5⟩ := run_append_own_at (P := Tryd.prog) (w := w) B (45) ty (3) i0 _ 1 8 Tryd.underlying45 hin hz0 hz1 hz2 rfl (by decide) v ys.length (ys.flatMap ic) ho ⟨vb, 0, none⟩ 1 1 ([i].flatMap ic) (flatMap_len ic_len _) (hT.flat ic_len (by decide)) (by intro v hv; simp [ic] at hv; subst hv; rfl) (by unfold maxLen; omega) (by omega) hB
  refine ⟨v', w', hr, ?_, h3, h5⟩
  show w'.ownsRow B (3) 1 v' (ys ++ [i]).length ((ys ++ [i]).flatMap ic)
  rw [List.length_append, List.flatMap_append]
  exact h2

/-- A place comes to a row. -/
theorem RowsIs.put {B mb n : Nat} {X : World} {xs : List Fc} (h : RowsIs B X mb xs n) (hmb : mb < B) (hB : B ≤ X.heap.size) (hn : n < xs.length) (hf : firstI xs n = true) (hl : xs.length < 1000000) :
    ∃ (v : Value) (st : Nat) (W1 : World) (v' : Value) (W2 W3 : World), (Instr.mapEntry (46) (.map (some mb)) (eS (spotOf xs[n]))).run Tryd.prog (X.alloc (.cells #[.int .i64 n] (3))) = .ok (.tuple #[v, goInt st]) W1 ∧
      (Builtin.append_ #[(45), (45)] (45) #[v, .slice (some ⟨X.heap.size, 0, none⟩) 1 1]).run Tryd.prog W1 = .ok v' W2 ∧
      (Instr.entryStore (46) (.map (some mb)) (goInt st) v').run Tryd.prog W2 = .ok () W3 ∧ RowsIs B W3 mb xs (n + 1) ∧ X.heap.size ≤ W3.heap.size ∧ (∀ (B0 : Nat) (w : World), Below B0 w X → B0 ≤ mb → B0 ≤ X.heap.size → Below B0 w W3) := by
  have hX2 : Below X.heap.size X (X.alloc (.cells #[.int .i64 n] (3))) := (Below.refl _ _).alloc (Nat.le_refl _) _
  obtain ⟨M, h1, h2, h3, h4, h5⟩ := h.below hX2
  have hbx : (X.alloc (.cells #[.int .i64 n] (3))).heap[X.heap.size]? = some (.cells #[.int .i64 n] (3) (0, 0)) := blk_new_at rfl _
  have hsz : X.heap.size < (X.alloc (.cells #[.int .i64 n] (3))).heap.size := lt_of_blk hbx
  generalize X.alloc (.cells #[.int .i64 n] (3)) = X2 at *
  obtain ⟨p, hp⟩ : ∃ p, p = spotOf xs[n] := ⟨_, rfl⟩
  have hat : ∀ s, atSpot xs s n = decide (p = s) := fun s => by unfold atSpot; rw [List.getElem?_eq_getElem hn, hp]; rfl
  have hrs : ∀ s, rowP xs (n + 1) s = rowP xs n s ++ if p = s then [n] else [] := fun s => by
    rw [rowP_succ, hat, hf, Bool.and_true]
    by_cases e : p = s <;> simp [e]
  obtain ⟨kl, hkl⟩ := key47 xs[n].key xs[n].valid xs[n].wk xs[n].wv
  obtain ⟨st, W1, hE, hg1, hs1, hS⟩ := h1.entered klaw47 eS_inj Tryd.underlying46 zero43 (by unfold maxLen; omega) (a := spotOf xs[n]) hkl
  rw [← hp] at hE hS ⊢
  obtain ⟨v, hv⟩ : ∃ v, v = (match getL M p with | some v => v | none => Value.slice none 0 0) := ⟨_, rfl⟩
  have hown : OwnI B X2 v (rowP xs n p) := by
    rw [hv]
    cases hg : getL M p with
    | none => rw [h4 _ hg]; exact World.ownsRow_nil _ _ _ _
    | some u => exact (h3 _ _ hg).1
  have hvother : ∀ s u, p ≠ s → getL M s = some u → v.ownBlock ≠ u.ownBlock := by
    intro s u hne hu
    rw [hv]
    cases hg : getL M p with
    | none =>
      have hru := h3 _ _ hu
      rcases row_of_owns hru.1 with ⟨_, h0⟩ | ⟨g, cap, rfl, _, _⟩
      · exact absurd h0 hru.2
      · simp [Value.ownBlock]
    | some w => exact h5 p s w u hne hg hu
  have hge : ∀ k, v.ownBlock = some k → B ≤ k := fun k e => (World.ownsRow.lt hown k e).1
  have hown1 : OwnI B W1 v (rowP xs n p) := own_grown hown hg1 (fun k e h => by cases h; have := hge _ e; omega)
  have hbx1 : W1.heap[X.heap.size]? = some (.cells #[.int .i64 n] (3) (0, 0)) := (hg1.block _ hsz (fun e => by cases e; omega)).trans hbx
  have hpl := rowP_len xs n p
  obtain ⟨v', W2, hA, hO2, hg2, hwh⟩ := run_append_int_at W1 B v (rowP xs n p) X.heap.size n hown1 hbx1 (by omega) (by omega) (45)
  have hmb1 : W2.heap[mb]? = W1.heap[mb]? := hg2.block _ (by have := h1.lt; omega) (fun e => by have := hge _ e.symm; omega)
  obtain ⟨W3, hR3, hM3, hg3, hs3⟩ := hS W2 v' hmb1
  have hs2 := hg2.size
  have hn1 : rowP xs n p ++ [n] ≠ [] := by simp
  have hwh2 : ∃ k, v'.ownBlock = some k ∧ B ≤ k ∧ (v.ownBlock = some k ∨ k = W1.heap.size) := by
    rcases row_of_owns hO2 with ⟨_, h0⟩ | ⟨g, cap, rfl, hgB, _⟩
    · exact absurd h0 hn1
    · refine ⟨g, rfl, hgB, ?_⟩
      rcases hwh with e | e
      · exact .inl (by rw [← e]; rfl)
      · simp only [Value.ownBlock, Option.some.injEq] at e
        exact .inr e
  obtain ⟨g, hg, hgB, hgw⟩ := hwh2
  have hu2 : ∀ s u, p ≠ s → getL M s = some u → OwnI B W3 u (rowP xs n s) ∧ u.ownBlock ≠ some g := by
    intro s u hne hu
    have ho := (h3 _ _ hu).1
    have hk : ∀ k, u.ownBlock = some k → B ≤ k := fun k e => (World.ownsRow.lt ho k e).1
    have hlt : ∀ k, u.ownBlock = some k → k < X2.heap.size := fun k e => (World.ownsRow.lt ho k e).2
    have o1 : OwnI B W1 u (rowP xs n s) := own_grown ho hg1 (fun k e h => by cases h; have := hk _ e; omega)
    have o2 : OwnI B W2 u (rowP xs n s) := own_grown o1 hg2 (fun k e h => hvother s u hne hu (h.trans e.symm))
    refine ⟨own_grown o2 hg3 (fun k e h => by cases h; have := hk _ e; omega), fun e => ?_⟩
    rcases hgw with e2 | e2
    · exact hvother s u hne hu (e2.trans e.symm)
    · have := hlt _ e; omega
  refine ⟨v, st, W1, v', W2, W3, by rw [hv]; revert hE; cases getL M p <;> exact id, hA, hR3, ⟨putL M p v', hM3, by have := putL_length M p v'; omega, ?_, ?_, ?_⟩, by omega, ?_⟩
  · intro s u hs
    rw [hrs]
    by_cases e : p = s
    · subst e
      rw [getL_put_same] at hs
      cases hs
      rw [if_pos rfl]
      exact ⟨own_grown hO2 hg3 (fun k e h => by cases h; rw [hg] at e; cases e; omega), hn1⟩
    · rw [getL_put_other _ _ _ (fun h => e h.symm)] at hs
      rw [if_neg e, List.append_nil]
      exact ⟨(hu2 s u e hs).1, (h3 _ _ hs).2⟩
  · intro s hs
    rw [hrs]
    by_cases e : p = s
    · subst e
      rw [getL_put_same] at hs
      cases hs
    · rw [getL_put_other _ _ _ (fun h => e h.symm)] at hs
      rw [if_neg e, List.append_nil]
      exact h4 s hs
  · intro s t u z hne hs ht
    by_cases e : p = s
    · subst e
      rw [getL_put_same] at hs
      cases hs
      rw [getL_put_other _ _ _ (fun h => hne h.symm)] at ht
      rw [hg]
      exact fun h => (hu2 t z hne ht).2 h.symm
    · rw [getL_put_other _ _ _ (fun h => e h.symm)] at hs
      by_cases e2 : p = t
      · subst e2
        rw [getL_put_same] at ht
        cases ht
        rw [hg]
        exact (hu2 s u e hs).2
      · rw [getL_put_other _ _ _ (fun h => e2 h.symm)] at ht
        exact h5 s t u z hne hs ht
  · intro B0 w hb h0 h00
    have a1 : Below B0 w X2 := hb.trans (hX2.mono h00)
    have a2 : Below B0 w W1 := a1.grown hg1 (by omega) (fun k e => by cases e; exact h0)
    have a3 : Below B0 w W2 := a2.grown hg2 (by omega) (fun k e => by have := hge _ e; omega)
    exact a3.grown hg3 (by omega) (fun k e => by cases e; exact h0)
end Go.Proofs.YticcccciefaemaaDoor
