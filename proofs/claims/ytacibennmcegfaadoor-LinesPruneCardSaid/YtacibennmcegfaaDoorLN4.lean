/- lines.parts.formed. Condition: the list's cells lie. -/
import Derived.Test.YtacibennmcegfaaDoorLN3
import Derived.Deep.RegionHeld3
namespace Go.Proofs.YtacibennmcegfaaDoor
open Go.RowKit Go.Herb

theorem slice_loL {b o n lc k : Nat} {z : Int} (hz : z = (k : Int)) (hk : k ≤ lc) (h0 : 0 < lc) : ∀ W, (Instr.slice (23) (.slice (some ⟨b, o, none⟩) n lc) none (some (.int .i64 z)) none).run Tryd.prog W = .ok (.slice (some ⟨b, o, none⟩) k lc) W := fun W => by
  have h1 : lc ≠ 0 := by omega
  subst hz
  rw [run_slice_h (P := Tryd.prog) W (23) (some ⟨b, o, none⟩) n lc (by kernel_rfl) .i64 k (by omega) (by omega)]
  rw [show Tryd.prog.elem (23) = (36) from by kernel_rfl, Tryd.sizeOf36]
  simp [sliced, Result.andThen, addr_add, h1]
theorem slice_hiL {b o n lc : Nat} (_ : n ≤ lc) (hi : 1 ≤ n) :
    ∃ a2, (∀ W, (Instr.slice (23) (.slice (some ⟨b, o, none⟩) n lc) (some (.int .i64 1)) none none).run Tryd.prog W = .ok (.slice (some a2) (n - 1) (lc - 1)) W) ∧ (1 < lc → a2 = ⟨b, o + 2, none⟩) := by
  refine ⟨if lc = 1 then ⟨b, o, none⟩ else ⟨b, o + 2, none⟩, fun W => ?_, fun h => if_neg (by omega)⟩
  have := run_slice_l (P := Tryd.prog) W (23) (some ⟨b, o, none⟩) n lc (by kernel_rfl) .i64 1 (by omega) (by omega)
  rw [this]
  rw [show Tryd.prog.elem (23) = (36) from by kernel_rfl, Tryd.sizeOf36]
  by_cases h0 : lc = 1 <;> simp [sliced, Result.andThen, addr_add, h0]
theorem run_eqLn (a b c d : Int) (w : World) : (Op.equalIn 10000 (36) (.agg #[.int .u64 a, .int .u64 b]) (.agg #[.int .u64 c, .int .u64 d])).run Tryd.prog w = .ok (decide (a = c ∧ b = d)) w := by
  have hS : Tryd.prog.underlying (36) = some (.struct (Tryd.prog.fieldsOf (36))) := by kernel_rfl
  have hp : Tryd.prog.stoodInHeld (36) = false := by kernel_rfl
  rw [show (10000 : Nat) = 9999 + 1 from rfl, run_equalIn_agg w 9999 (36) _ _ hS hp]
  simp only [Program.fieldsOf, Tryd.underlying36]
  have u9 := Tryd.underlying34
  go_simp
  by_cases h1 : a = c <;> by_cases h2 : b = d <;> simp [h1, h2]
theorem run_neqLn (a b c d : Int) (w : World) : (binOp .neq (36) (.agg #[.int .u64 a, .int .u64 b]) (.agg #[.int .u64 c, .int .u64 d])).run Tryd.prog w = .ok (.bool (!decide (a = c ∧ b = d))) w := by
  rw [run_neq_struct, run_eqLn]; rfl
theorem guardLn : Tryd.prog.eqGuardType Tryd.prog.depth (36) = false := by kernel_rfl

def FormedPost (xs : List Ln) (w : World) (e : Ending) (w' : World) : Prop := ∃ r : Bool, e = .returned (.bool r) ∧ (r = true ↔ FormedL xs ∧ xs.length ≤ 48) ∧ Below w.heap.size w w'
theorem formed_take {xs : List Ln} (h : FormedL xs) {i : Nat} (hi : 0 < i) : FormedL (xs.take i) := by
  refine ⟨by rw [List.getElem?_take, if_pos hi]; exact h.first, List.Pairwise.sublist (List.take_sublist _ _) h.srt, fun j x hj hx => ?_⟩
  rw [List.getElem?_take] at hx
  split at hx
  · obtain ⟨m, y, hm, hy, e⟩ := h.par j x hj hx
    exact ⟨m, y, hm, by rw [List.getElem?_take, if_pos (by omega)]; exact hy, e⟩
  · cases hx
theorem formed_next {xs : List Ln} {i : Nat} {x y : Ln} (h : FormedL (xs.take (i + 1))) (hy : xs[i]? = some y) (hx : xs[i + 1]? = some x) (hlt : y.1 < x.1) {p : Int} (hp : parL (xs.take (i + 1)) x.2 = some p) : FormedL (xs.take (i + 2)) := by
  obtain ⟨hi, he⟩ := List.getElem?_eq_some_iff.1 hx
  obtain ⟨hi', he'⟩ := List.getElem?_eq_some_iff.1 hy
  have e : xs.take (i + 2) = xs.take (i + 1) ++ [(x.1, x.2)] := by rw [List.take_succ_eq_append_getElem hi, he]
  rw [e]
  refine h.snoc (fun z hz => ?_) ⟨p, hp⟩
  obtain ⟨j, hj, hze⟩ := List.getElem_of_mem hz
  simp at hj
  have hl : (xs.take (i + 1)).length = i + 1 := by simp; omega
  rcases Nat.lt_or_eq_of_le (show j ≤ i by omega) with h1 | h1
  · have := List.pairwise_iff_getElem.1 h.srt j i (by omega) (by omega) h1
    rw [hze, List.getElem_take, he'] at this
    omega
  · subst h1
    rw [List.getElem_take, he'] at hze
    rw [← hze]
    exact hlt
theorem formed_not {xs : List Ln} {i : Nat} {x y : Ln} (h : FormedL xs) (hy : xs[i]? = some y) (hx : xs[i + 1]? = some x) : y.1 < x.1 ∧ ∃ p, parL (xs.take (i + 1)) x.2 = some p := by
  obtain ⟨hi, he⟩ := List.getElem?_eq_some_iff.1 hx
  obtain ⟨hi', he'⟩ := List.getElem?_eq_some_iff.1 hy
  refine ⟨?_, ?_⟩
  · have := List.pairwise_iff_getElem.1 h.srt i (i + 1) hi' hi (by omega)
    rw [he, he'] at this
    exact this
  · obtain ⟨j, z, hj, hz, e⟩ := h.par (i + 1) x (by omega) hx
    rw [← e]
    exact ⟨z.2, parL_at (formed_take h (by omega)).srt (i := j) (x := z) (by rw [List.getElem?_take, if_pos hj]; exact hz)⟩
end Go.Proofs.YtacibennmcegfaaDoor
