/- slices.Values at facts: its function value hands out the facts in their order. Condition: fewer than 1000000 facts. -/
import Derived.Test.YtenocakpipppiaaH1
namespace Go.Proofs.Ytenocakpipppiaa
open Go.RowKit Go.Shelf Go.Herb
attribute [local go_sem] Oper.semAt_some

set_option maxRecDepth 100000 in
set_option maxHeartbeats 1000000 in
theorem values_any (a : Option Addr) (n cap : Nat) (w : World) :
    Calls Try.prog 25 #[.slice a n cap] w fun e w' => ∃ b, e = .returned (.func (.func 39) #[] #[.pointer (some ⟨b, 0, none⟩)]) ∧ Below w.heap.size w w' ∧ w'.heap[b]? = some (.cells #[.slice a n cap] 22 (0, 0)) := by
  go_enter Try.func25, Try.ntmps25
  go_wp2
  go_ret
  exact ⟨_, rfl, (Below.refl _ w).alloc (Nat.le_refl _) _, blk_new_at rfl _⟩

set_option maxRecDepth 100000 in
set_option maxHeartbeats 1000000 in
theorem values1_in (n : Nat) (hn : 1 ≤ n) (l bl n₀ : Nat) (a : Option Addr) (cap : Nat) (xs : List Fc) (hlen : xs.length < 1000000) (J Jx : List Fc → World → Prop)
    (hY : ∀ pre x W, J pre W → pre.length < xs.length → YieldAt Fence.wide (n - 1) Try.prog l #[fv x] W fun e W' =>
      (e = .returned (.bool true) ∧ J (pre ++ [x]) W' ∧ Below n₀ W W') ∨ (e = .returned (.bool false) ∧ Jx (pre ++ [x]) W'))
    (W : World) (hJ : AbidesFrom W.heap.size J) (hV : W.heap[bl]? = some (.cells #[.slice a xs.length cap] 22 (0, 0))) (hn₀ : n₀ ≤ W.heap.size) (hL : Facts W a xs) (hb : 0 < xs.length → ∀ ad, a = some ad → ad.block < n₀) (h0 : J [] W) :
    CallsIn Fence.wide n Try.prog 39 #[.func (.yield l) #[] #[], .pointer (some ⟨bl, 0, none⟩)] W fun e W' => (∃ v, e = .returned v) ∧
      ((∃ ys, ys = xs ∧ J ys W') ∨ (∃ pre, pre <+: xs ∧ Jx pre W')) := by
  refine callsIn_of_wp Try.func39 rfl trivial ?_ rfl
  simp only [Try.ntmps39, List.size_toArray, List.length_cons, List.length_nil, Nat.reduceAdd, Nat.reduceSub, Array.replicate_succ, Array.replicate_zero, List.push_toArray, List.append_toArray, List.nil_append, List.cons_append]
  have HL := Lib.hid hL
  have HB := Lib.hid hb
  have HY := Lib.hid hY
  have HJ := Lib.hid hJ
  have cl := cell_of_blk hV 0
  simp at cl
  clear hV hL hb hY hJ
  gi_wp2
  clear cl
  gi_loopw [7] (fun i wr => ∃ k : Nat, k ≤ xs.length ∧ i = .int .i64 k ∧ Below n₀ W wr ∧ J (xs.take k) wr) (fun i _ => xs.length - (intOf i).toNat)
  case atStart => exact ⟨0, Nat.zero_le _, rfl, Below.refl _ _, h0⟩
  case round =>
    obtain ⟨k, hk, rfl, hBw, hJs⟩ := hrel
    by_cases hlt : k < xs.length
    · obtain ⟨b, o, rfl, hlb, hcell⟩ := HL.out.get k hlt
      have hbn : b < n₀ := HB.out (by omega) _ rfl
      have e0 := (hBw.cell (p := ⟨b, _, none⟩) hbn).trans (hcell 0 _ rfl)
      have e1 := (hBw.cell (p := ⟨b, _, none⟩) hbn).trans (hcell 1 _ rfl)
      have e2 := (hBw.cell (p := ⟨b, _, none⟩) hbn).trans (hcell 2 _ rfl)
      have e3 := (hBw.cell (p := ⟨b, _, none⟩) hbn).trans (hcell 3 _ rfl)
      have e4 := (hBw.cell (p := ⟨b, _, none⟩) hbn).trans (hcell 4 _ rfl)
      have e5 := (hBw.cell (p := ⟨b, _, none⟩) hbn).trans (hcell 5 _ rfl)
      simp only [Nat.add_zero] at e0 e1 e2 e3 e4 e5
      have hwr := hBw.size
      have hbr : b < wr.heap.size := by omega
      have hsn := List.take_succ_eq_append_getElem hlt
      have HSN := Lib.hid hsn
      clear hsn hcell
      generalize hx : xs[k] = x at *
      have HJ2 := Lib.hid (HJ.out _ wr (wr.alloc (.cells #[.string x.key, .int .u32 x.valid, .int .u64 x.seq, .int .u64 x.line, .int .u8 x.kind, .string x.val] 34)) none hJs (World.grownBy_alloc wr _ none) (fun r e => by cases e))
      have hwr' : n₀ ≤ wr.heap.size := by omega
      have hpl : (xs.take k).length < xs.length := by simp; omega
      clear hx
      obtain ⟨fn, tmps, assign, body, hy, hR⟩ := HY.out _ x _ HJ2.out hpl
      dsimp only [fv] at hy
      clear hpl
      gi_wp2
      all_goals
        refine hR.mono ?_
        rintro e W3 (⟨rfl, hJ3, hk3⟩ | ⟨rfl, hJx3⟩)
        · gi_wp2
          go_roundw
          case rel => exact ⟨k + 1, by omega, by go_num, (hBw.alloc hwr' _).trans hk3, by rw [HSN.out]; exact hJ3⟩
          case measure => simp [intOf]; omega
        · gi_wp2
          refine bodyPost_ret (results_none rfl _ _ _) rfl ?_
          refine ⟨⟨_, rfl⟩, .inr ⟨_, ?_, hJx3⟩⟩
          have h1 := List.take_prefix (k + 1) xs
          rw [HSN.out] at h1
          exact h1
    · have hke : k = xs.length := by omega
      subst hke
      gi_wp2
      go_end0
      rw [List.take_length] at hJs
      exact ⟨⟨_, rfl⟩, .inl ⟨_, rfl, hJs⟩⟩

theorem values1_stops (n : Nat) (hn : 1 ≤ n) (bl : Nat) (a : Option Addr) (cap : Nat) (xs : List Fc) (hlen : xs.length < 1000000) (w : World)
    (hV : w.heap[bl]? = some (.cells #[.slice a xs.length cap] 22 (0, 0))) (hL : Facts w a xs) :
    SeqStopsK Fence.wide n Try.prog 39 #[.pointer (some ⟨bl, 0, none⟩)] (fun x : Fc => #[fv x]) (Below w.heap.size) (fun ys => ys = xs) (fun pre => pre <+: xs) xs.length w := fun l J Jx W hW hJ _ hY h0 =>
  values1_in n hn l bl w.heap.size a cap xs hlen J Jx hY W hJ ((hW.block _ (lt_of_blk hV)).trans hV) hW.size (hL.ext hW) (fun h ad had => by
    obtain ⟨b, o, ha, hlt, _⟩ := hL.get 0 h
    rw [had] at ha
    injection ha with ha
    rw [ha]
    exact hlt) h0
end Go.Proofs.Ytenocakpipppiaa
