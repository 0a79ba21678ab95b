/- How what is asked of a view is read. No condition. -/
import Derived.Test.YtenocakpipppiaaGreatDoorV3
import Derived.SizedLaws
namespace Go.Proofs.YtenocakpipppiaaGreatDoor
open Go.ChangeShapes Go.WideShapes Go.ChangeAt Go.RowKit Go.Herb Go.Deep

section
variable {H : Type} {enc : TypeId × Value → H} {w : World}

set_option maxRecDepth 100000 in
theorem rd_asked {fuel : Nat} {cs : List Value} {x : DataW H × List MemPlace} (h : DataW.trod enc Tryz.prog w 0 (fun _ => true) true fuel 29 cs = some x) :
    ∃ (a : Option Addr) (cap : Nat) (xs : List Lk) (at_ : Int) (on : Bool) (lo hi : ByteArray) (va : Int), cs = [.slice a xs.length cap, .int .u64 at_, .bool on, .string lo, .string hi, .int .u32 va] ∧ SlIn lc 2 w a cap xs ∧ (Lit.int .u64 at_).wf = true ∧ lo.size ≤ maxLen ∧ hi.size ≤ maxLen ∧ (Lit.int .u32 va).wf = true ∧ ∃ d0 rest, x.1 = .agg (d0 :: .lit (.string lo.data.toList) :: rest) := by
  have k46 : Tryz.prog.cellsOf 29 = 6 := by kernel_rfl
  have k26 : Tryz.prog.cellsOf 26 = 3 := by kernel_rfl
  have k9 : Tryz.prog.cellsOf 9 = 1 := by kernel_rfl
  have k31 : Tryz.prog.cellsOf 27 = 1 := by kernel_rfl
  have ht : Tryz.prog.underlying 29 = some (.struct (Tryz.prog.fieldsOf 29)) := by kernel_rfl
  have hsz : (Tryz.prog.fieldsOf 29).size = 4 := by kernel_rfl
  obtain ⟨ys, n, _, hx, hlen, hyl, hf⟩ := DataW.trod_struct ht h
  rw [hsz] at hyl
  rw [k46] at hlen
  have hget : ∀ (i o u : Nat), ((Tryz.prog.fieldsOf 29)[i]?).map (fun f => (f.offset, f.type)) = some (o, u) → DataW.trod enc Tryz.prog w 0 (fun _ => true) true n u ((cs.drop o).take (Tryz.prog.cellsOf u)) = ys[i]? := by
    intro i o u hi
    obtain ⟨f, hf', he⟩ := Option.map_eq_some_iff.1 hi
    simp only [Prod.mk.injEq] at he
    obtain ⟨rfl, rfl⟩ := he
    exact hf i f hf'
  obtain ⟨y0, y1, y2, y3, rfl⟩ : ∃ y0 y1 y2 y3, ys = [y0, y1, y2, y3] := by
    match ys, hyl with
    | [y0, y1, y2, y3], _ => exact ⟨_, _, _, _, rfl⟩
  obtain ⟨c0, c1, c2, c3, c4, c5, rfl⟩ : ∃ c0 c1 c2 c3 c4 c5, cs = [c0, c1, c2, c3, c4, c5] := by
    match cs, hlen with
    | [c0, c1, c2, c3, c4, c5], _ => exact ⟨_, _, _, _, _, _, rfl⟩
  have e0 := hget 0 0 (26) (by kernel_rfl)
  have e1 := hget 1 3 (9) (by kernel_rfl)
  have e2 := hget 2 4 (9) (by kernel_rfl)
  have e3 := hget 3 5 (27) (by kernel_rfl)
  rw [k26] at e0
  rw [k9] at e1 e2
  rw [k31] at e3
  simp only [List.drop_zero, List.take_succ_cons, List.take_zero, List.drop_succ_cons, List.getElem?_cons_zero, List.getElem?_cons_succ] at e0 e1 e2 e3
  obtain ⟨a, cap, xs, at_, on, h0, hs, hw⟩ := rd_watch e0
  obtain ⟨n1, hn1, hy1, w1⟩ := DataW.trod_string Tryz.underlying9 e1
  obtain ⟨n2, hn2, _, w2⟩ := DataW.trod_string Tryz.underlying9 e2
  obtain ⟨n3, hn3, _, w3⟩ := DataW.trod_int Tryz.underlying27 e3
  simp only [List.cons.injEq, and_true] at h0 hn1 hn2 hn3
  obtain ⟨rfl, rfl, rfl⟩ := h0
  subst hn1 hn2 hn3
  refine ⟨a, cap, xs, at_, on, n1, n2, n3, rfl, hs, hw, w1, w2, w3, y0.1, [y2.1, y3.1], ?_⟩
  rw [hx, hy1]
  rfl
end
end Go.Proofs.YtenocakpipppiaaGreatDoor
