/- slices.Backward at links: the links from the last one to the first. Condition: fewer than 2^62 links. -/
import Derived.Test.YtenocakpipppiaaGreatDoorBase
import Derived.Test.YtenocakpipppiaaGreatDoorMp
import Derived.RangeFuncNested
import Derived.RangeFuncBound
import Derived.RangeFuncCalls
import Derived.RangeFuncLeaves
import Derived.RangeFuncBox
import Derived.RangeFuncWrites
import Derived.Shelf.Abstract
import Derived.Shelf.RegionOpen
import Derived.OwnWalkIn
import Derived.TacticsInMore
import Derived.LoopNIn
import Derived.LoopIn
import Derived.Test.YtenocakpipppiaaGreatDoorProg
namespace Go.Proofs.YtenocakpipppiaaGreatDoor
open Go.RowKit Go.Shelf Go.Herb
attribute [local go_sem] Oper.semAt_some

/-- A link. -/
structure Lk where
  line : Int
  upto : Int
  wl : (Lit.int .u64 line).wf = true
  wu : (Lit.int .u64 upto).wf = true
deriving DecidableEq

def lc (x : Lk) : List Value := [.int .u64 x.line, .int .u64 x.upto]
abbrev lv (x : Lk) : Value := .agg #[.int .u64 x.line, .int .u64 x.upto]
abbrev Links (w : World) (a : Option Addr) (xs : List Lk) : Prop := Els lc 2 w a xs

/-- Below n₀ all blocks but mb are as they were. -/
def Kept (n₀ mb : Nat) (W W' : World) : Prop := ∀ b, b < n₀ → b ≠ mb → W'.heap[b]? = W.heap[b]?

theorem Kept.refl (n₀ mb : Nat) (W : World) : Kept n₀ mb W W := fun _ _ _ => rfl
theorem Kept.trans {n₀ mb : Nat} {A B C : World} (h : Kept n₀ mb A B) (k : Kept n₀ mb B C) : Kept n₀ mb A C := fun b h1 h2 => (k b h1 h2).trans (h b h1 h2)
theorem Kept.cell {n₀ mb : Nat} {A B : World} (h : Kept n₀ mb A B) {b o : Nat} (h1 : b < n₀) (h2 : b ≠ mb) : B.cell? ⟨b, o, none⟩ = A.cell? ⟨b, o, none⟩ := World.cell?_of_block (h b h1 h2)
theorem kept_b {n₀ mb : Nat} {w : World} (hn : n₀ ≤ w.heap.size) (W : World) (l : Nat) (o o' : Obj) (hl : w.heap.size ≤ l) (_ : W.heap[l]? = some o) (_ : o.isCells = false) (_ : o.isWalk = false) : Kept n₀ mb W (W.putObj l o') :=
  fun b h1 _ => World.putObj_heap_other (fun e => by omega)
theorem Kept.below {n₀ mb : Nat} {A B : World} (h : Below n₀ A B) : Kept n₀ mb A B := fun b h1 _ => h.block b h1
theorem Kept.grown {n₀ mb : Nat} {A B : World} (h : A.grownBy B (some mb)) (hn : n₀ ≤ A.heap.size) : Kept n₀ mb A B := fun b h1 h2 => h.block b (by omega) (fun e => h2 (by cases e; rfl))

/-- What has come when the last j links have. -/
def backs (xs : List Lk) (j : Nat) : List (Int × Lk) := (List.range j).map fun i => (((xs.length - 1 - i : Nat) : Int), xs[xs.length - 1 - i]?.getD ⟨0, 0, rfl, rfl⟩)

theorem backs_succ (xs : List Lk) (j : Nat) (h : j < xs.length) : backs xs (j + 1) = backs xs j ++ [(((xs.length - 1 - j : Nat) : Int), xs[xs.length - 1 - j]'(by omega))] := by
  unfold backs
  rw [List.range_succ, List.map_append]
  simp [List.getElem?_eq_getElem (show xs.length - 1 - j < xs.length by omega)]

theorem backs_len (xs : List Lk) (j : Nat) : (backs xs j).length = j := by simp [backs]

theorem backs_prefix (xs : List Lk) {j n : Nat} (h : j ≤ n) : backs xs j <+: backs xs n := by
  unfold backs
  obtain ⟨d, rfl⟩ : ∃ d, n = j + d := ⟨n - j, by omega⟩
  rw [List.range_add, List.map_append]
  exact List.prefix_append _ _

set_option maxRecDepth 100000 in
set_option maxHeartbeats 1000000 in
theorem backward1_in (F : Fence) (n : Nat) (hF : F.fn 54) (hro : F.round = none) (hn : 1 ≤ n) (l Bn n₀ mb : Nat) (a : Option Addr) (cap : Nat) (xs : List Lk) (hlen : xs.length < 1000000) (J Jx : List (Int × Lk) → World → Prop)
    (hY : ∀ pre x W, J pre W → pre.length < xs.length → YieldAt F (n - 1) Tryz.prog l #[.int .i64 x.1, lv x.2] W fun e W' =>
      (e = .returned (.bool true) ∧ J (pre ++ [x]) W' ∧ Kept n₀ mb W W') ∨ (e = .returned (.bool false) ∧ Jx (pre ++ [x]) W'))
    (W : World) (hBn : Bn < n₀) (hBm : Bn ≠ mb) (hc : W.cell? ⟨Bn, 0, none⟩ = some (.slice a xs.length cap)) (hL : Links W a xs) (hb : 0 < xs.length → ∀ ad, a = some ad → ad.block < n₀ ∧ ad.block ≠ mb) (h0 : J [] W) :
    CallsIn F n Tryz.prog 54 #[.func (.yield l) #[] #[], .pointer (some ⟨Bn, 0, none⟩)] W fun e W' => (∃ v, e = .returned v) ∧
      ((∃ ys, ys = backs xs xs.length ∧ J ys W') ∨ (∃ pre, pre <+: backs xs xs.length ∧ Jx pre W')) := by
  refine callsIn_of_wp Tryz.func54 rfl hF ?_ hro
  simp only [Tryz.ntmps54, List.size_toArray, List.length_cons, List.length_nil, Nat.reduceAdd, Nat.reduceSub, Array.replicate_succ, Array.replicate_zero, List.push_toArray, List.append_toArray, List.nil_append, List.cons_append]
  have HC := Lib.hid hc
  have HL := Lib.hid hL
  have HB := Lib.hid hb
  clear hL hb
  gi_wp2
  clear hc
  gi_loopw [3] (fun i wr => ∃ r : Nat, r ≤ xs.length ∧ i = .int .i64 ((r : Int) - 1) ∧ Kept n₀ mb W wr ∧ J (backs xs (xs.length - r)) wr) (fun i _ => (intOf i + 1).toNat)
  case atStart => exact ⟨xs.length, Nat.le_refl _, rfl, Kept.refl _ _ _, by rw [Nat.sub_self]; exact h0⟩
  case round =>
    obtain ⟨r, hr, rfl, hBw, hJs⟩ := hrel
    have c0 := (hBw.cell (o := 0) hBn hBm).trans HC.out
    cases r with
    | zero =>
      rw [Nat.sub_zero] at hJs
      gi_wp2
      go_end0
      exact ⟨⟨_, rfl⟩, .inl ⟨_, rfl, hJs⟩⟩
    | succ q =>
      have hq1 : (((q + 1 : Nat) : Int) - 1) = (q : Int) := by omega
      rw [hq1]
      clear hq1
      obtain ⟨b, o, rfl, hlt, hcell⟩ := HL.out.get q (by omega)
      obtain ⟨hbn, hbm⟩ : b < n₀ ∧ b ≠ mb := HB.out (by omega) _ rfl
      have e0 := (hBw.cell hbn hbm).trans (hcell 0 _ rfl)
      have e1 := (hBw.cell hbn hbm).trans (hcell 1 _ rfl)
      simp only [Nat.add_zero] at e0 e1
      have hsn : backs xs (xs.length - q) = backs xs (xs.length - (q + 1)) ++ [((q : Int), xs[q])] := by
        have h1 := backs_succ xs (xs.length - (q + 1)) (by omega)
        have h2 : xs.length - (q + 1) + 1 = xs.length - q := by omega
        have h3 : xs.length - 1 - (xs.length - (q + 1)) = q := by omega
        rw [h2] at h1
        simp only [h3] at h1
        exact h1
      have HSN := Lib.hid hsn
      obtain ⟨fn, tmps, assign, body, hy, hR⟩ := hY (backs xs (xs.length - (q + 1))) ((q : Int), xs[q]) wr hJs (by rw [backs_len]; omega)
      dsimp only [lv] at hy
      generalize xs[q] = x at *
      clear hsn hcell hY
      have hql : q < xs.length := by omega
      gi_wp2
      refine hR.mono ?_
      rintro e W3 (⟨rfl, hJ3, hk3⟩ | ⟨rfl, hJx3⟩)
      · gi_wp2
        go_roundw
        case rel => exact ⟨q, by omega, rfl, hBw.trans hk3, by rw [HSN.out]; exact hJ3⟩
        case measure => simp [intOf]
      · gi_wp2
        refine bodyPost_ret (results_none rfl _ _ _) rfl ?_
        exact ⟨⟨_, rfl⟩, .inr ⟨_, by rw [← HSN.out]; exact backs_prefix xs (by omega), hJx3⟩⟩

/-- slices.Backward: the slice is boxed; the function value captures the box. -/
theorem backward_any (a : Option Addr) (n cap : Nat) (w : World) :
    Calls Tryz.prog 40 #[.slice a n cap] w fun e w' => e = .returned (.func (.func 54) #[] #[.pointer (some ⟨w.heap.size, 0, none⟩)]) ∧ w' = w.alloc (.cells #[.slice a n cap] 23) := by
  go_enter Tryz.func40, Tryz.ntmps40
  go_wp2
  go_ret
  exact ⟨rfl, rfl⟩

theorem backward_stops (F : Fence) (n : Nat) (hF : F.fn 54) (hro : F.round = none) (hn : 1 ≤ n) (Bn n₀ mb : Nat) (a : Option Addr) (cap : Nat) (xs : List Lk) (hlen : xs.length < 1000000) (w : World) (hBn : Bn < n₀) (hBm : Bn ≠ mb) (hn₀ : n₀ ≤ w.heap.size)
    (hc : w.cell? ⟨Bn, 0, none⟩ = some (.slice a xs.length cap)) (hL : Links w a xs) (hb : 0 < xs.length → ∀ ad, a = some ad → ad.block < n₀ ∧ ad.block ≠ mb) :
    SeqStopsK F n Tryz.prog 54 #[.pointer (some ⟨Bn, 0, none⟩)] (fun x : Int × Lk => #[Value.int .i64 x.1, lv x.2]) (Kept n₀ mb) (fun ys => ys = backs xs xs.length) (fun pre => pre <+: backs xs xs.length) xs.length w := fun l J Jx W hW _ _ hY h0 =>
  backward1_in F n hF hro hn l Bn n₀ mb a cap xs hlen J Jx hY W hBn hBm ((hW.cell (p := ⟨Bn, 0, none⟩) (show Bn < w.heap.size by omega)).trans hc) (hL.ext hW) hb h0
end Go.Proofs.YtenocakpipppiaaGreatDoor
