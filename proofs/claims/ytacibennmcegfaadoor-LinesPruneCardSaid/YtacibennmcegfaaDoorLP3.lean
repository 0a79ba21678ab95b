/- slices.Insert at branches, of one branch, where there is no room. Condition: fewer than 1000000 branches, not none. -/
import Derived.Test.YtacibennmcegfaaDoorLP2
import Derived.Deep.AppendSrc
import Derived.Lib.AppendZerosOnto
namespace Go.Herb
open Go.RowKit
theorem els_of_pre {α : Type} {enc : α → List Value} {s g : Nat} {w : World} {t : TypeId} {fr : Nat × Nat} {xs : List α} {L : Array Value} {R : List Value} (hs : ∀ x, (enc x).length = s) (h : w.heap[g]? = some (.cells L t fr)) (hL : L.toList = xs.flatMap enc ++ R) : Els enc s w (some ⟨g, 0, none⟩) xs :=
  ⟨fun i hi => ⟨g, 0, rfl, lt_of_blk h, fun j c hj => by
    have hjs : j < s := by
      rcases Nat.lt_or_ge j s with h' | h'
      · exact h'
      · rw [List.getElem?_eq_none (by rw [hs]; exact h')] at hj; cases hj
    rw [cell_of_blk h, Nat.zero_add, ← Array.getElem?_toList, hL]
    have h2 := flatMap_get hs xs i j hi hjs
    rw [hj] at h2
    have h3 : i * s + j < (xs.flatMap enc).length := (List.getElem?_eq_some_iff.1 h2).1
    rw [List.getElem?_append_left h3]
    exact h2⟩⟩
theorem els_drop {α : Type} {enc : α → List Value} {s : Nat} {w : World} {b : Nat} {xs : List α} (h : Els enc s w (some ⟨b, 0, none⟩) xs) (k : Nat) : Els enc s w (some ⟨b, k * s, none⟩) (xs.drop k) :=
  ⟨fun i hi => by
    simp only [List.length_drop] at hi
    obtain ⟨b', o', ha, hlt, hc⟩ := h.get (k + i) (by omega)
    injection ha with ha
    injection ha with h1 h2
    subst h1 h2
    refine ⟨b, k * s, rfl, hlt, fun j c hj => ?_⟩
    have := hc j c (by simpa using hj)
    rw [Nat.add_mul] at this
    rw [show k * s + i * s + j = 0 + (k * s + i * s) + j from by omega]
    exact this⟩
/-- 'append(s, x..)' where s has no room. -/
theorem run_append_full {P : Program} {α : Type} {enc : α → List Value} {s : Nat} (hel : ∀ x, (enc x).length = s) (hpos : 0 < s) (hone : ∀ x, ∀ v ∈ enc x, v.oneCell' = true) (w : World) (t e : TypeId) (i0 : TypeInfo) (z : Value) (ht : P.underlying t = some (.slice e)) (hi : P.info? e = some i0) (hz : i0.zero = some z) (hsz : i0.size = s)
    (n c m mc : Nat) (ad av : Option Addr) (xs vs : List α) (hx : Els enc s w ad xs) (hv : Els enc s w av vs) (hn : xs.length = n) (hm : vs.length = m) (h0 : 0 < n) (h1 : 0 < m) (hc : c < n + m) (hbig : (n + m) * i0.bytes ≤ 140737488355328) (h63 : n + m ≤ maxLen) :
    ∃ c' w', (∀ ty, (Builtin.append_ #[t, t] ty #[.slice ad n c, .slice av m mc]).run P w = .ok (.slice (some ⟨w.heap.size, 0, none⟩) (n + m) c') w') ∧ Els enc s w' (some ⟨w.heap.size, 0, none⟩) (xs ++ vs) ∧ n + m ≤ c' ∧ Below w.heap.size w w' := by
  obtain ⟨b, o, rfl, _, _⟩ := hx.get 0 (by omega)
  obtain ⟨vb, vo, rfl, _, _⟩ := hv.get 0 (by omega)
  subst hsz
  unfold maxLen at h63
  have hl : (xs.flatMap enc).length = n * i0.size := by rw [flatMap_len hel, hn]
  have hl2 : (vs.flatMap enc).length = m * i0.size := by rw [flatMap_len hel, hm]
  have hold : (Builtin.firstCells i0.size n (.slice (some ⟨b, o, none⟩) n c)).run P w.drew = .ok (xs.flatMap enc).toArray w.drew :=
    run_firstCells_some w.drew i0.size n ⟨b, o, none⟩ n c _ hl (Els.flat (w := w.drew) ⟨hx.get⟩ hel hpos)
  have hsrc : Src P i0.size t (.slice (some ⟨vb, vo, none⟩) m mc) m (vs.flatMap enc) w := Src.ofSlice w ht ⟨vb, vo, none⟩ m mc _ hl2 (hv.flat hel hpos) (fun v hv => by
    obtain ⟨x, _, hx⟩ := List.mem_flatMap.1 hv
    exact hone x v hx)
  refine ⟨_, _, fun ty => run_append_grow_src w t t ty e i0 z ht hi hz (some ⟨b, o, none⟩) n c _ hold _ m _ hsrc hc (by omega) (growslice_fits hc hbig), ?_, grownCap_ge _ _ _ _, (bdrw (Below.refl _ _)).alloc (Nat.le_refl _) _⟩
  exact els_of_pre (R := (Builtin.zeroCells z.cells (grownCap w (n + m) c e - (n + m))).toList) hel (blk_new_at (by simp) _) (by simp)
end Go.Herb
