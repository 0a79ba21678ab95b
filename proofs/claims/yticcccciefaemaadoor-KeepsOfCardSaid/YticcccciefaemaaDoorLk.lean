/- herbariumlaw01.SameFacts at equal lists; Great. Condition: fewer than 1000000 facts. -/
import Derived.Test.YticcccciefaemaaDoorK8
namespace Go.Proofs.YticcccciefaemaaDoor
open Go.RowKit Go.Shelf Go.Herb

theorem drewN_drewN' (w : World) (a b : Nat) : (w.drewN a).drewN b = w.drewN (a + b) := by simp [World.drewN, Nat.add_assoc]

theorem run_eqF (x y : Fc) (w : World) : (Op.equalIn 10000 41 (fv x) (fv y)).run Tryd.prog w = .ok (x.key.toList == y.key.toList && x.valid == y.valid && x.seq == y.seq && x.line == y.line && x.kind == y.kind && x.val.toList == y.val.toList) w := by
  have hS : Tryd.prog.underlying 41 = some (.struct (Tryd.prog.fieldsOf 41)) := by kernel_rfl
  have hp : Tryd.prog.stoodInHeld 41 = false := by kernel_rfl
  rw [show (10000 : Nat) = 9999 + 1 from rfl, run_equalIn_agg w 9999 41 _ _ hS hp]
  simp only [Program.fieldsOf, Tryd.underlying41]
  have u25 := Tryd.underlying35
  have u36 := Tryd.underlying38
  have u37 := Tryd.underlying39
  have u9 := Tryd.underlying9
  go_simp
  by_cases h1 : x.key.toList = y.key.toList <;> by_cases h2 : x.valid = y.valid <;> by_cases h3 : x.seq = y.seq <;> by_cases h4 : x.line = y.line <;> by_cases h5 : x.kind = y.kind <;> by_cases h6 : x.val.toList = y.val.toList <;> simp [h1, h2, h3, h4, h5, h6]

theorem guardF : Tryd.prog.eqGuardType Tryd.prog.depth 41 = false := by kernel_rfl

theorem run_neqF (x y : Fc) (w : World) : (binOp .neq 41 (fv x) (fv y)).run Tryd.prog w = .ok (.bool (!(x.key.toList == y.key.toList && x.valid == y.valid && x.seq == y.seq && x.line == y.line && x.kind == y.kind && x.val.toList == y.val.toList))) w := by
  rw [run_neq_struct, run_eqF]; rfl

theorem run_neqF_same (x : Fc) (w : World) : (binOp .neq 41 (.agg #[.string x.key, .int .u32 x.valid, .int .u64 x.seq, .int .u64 x.line, .int .u8 x.kind, .string x.val]) (.agg #[.string x.key, .int .u32 x.valid, .int .u64 x.seq, .int .u64 x.line, .int .u8 x.kind, .string x.val])).run Tryd.prog w = .ok (.bool false) w := by
  have := run_neqF x x w
  simpa using this

set_option maxHeartbeats 400000 in
theorem equalF_any (a1 a2 : Option Addr) (c1 c2 : Nat) (ts : List Fc) (w : World) (h1 : Facts w a1 ts) (h2 : Facts w a2 ts) (hlen : ts.length < 1000000) :
    Calls Tryd.prog 18 #[.slice a1 ts.length c1, .slice a2 ts.length c2] w fun e w' => e = .returned (.bool true) ∧ ∃ n, w' = w.drewN n := by
  have HX := Lib.hid h1
  have HY := Lib.hid h2
  clear h1 h2
  go_enter Tryd.func18, Tryd.ntmps18
  go_wp2
  go_loopg [5] ts.length (fun gk i wr => ∃ k : Nat, k + gk = ts.length ∧ i = .int .i64 k ∧ ∃ n, wr = w.drewN n)
  case atStart => exact ⟨0, by omega, rfl, 0, rfl⟩
  case round =>
    obtain ⟨k, hk, rfl, n, rfl⟩ := hrel
    by_cases hlt : k < ts.length
    · obtain ⟨b1, o1, rfl, h1, hc1⟩ := HX.out.get k hlt
      obtain ⟨b2, o2, rfl, h2, hc2⟩ := HY.out.get k hlt
      have f0 := hc1 0 _ rfl
      have f1 := hc1 1 _ rfl
      have f2 := hc1 2 _ rfl
      have f3 := hc1 3 _ rfl
      have f4 := hc1 4 _ rfl
      have f5 := hc1 5 _ rfl
      have g0 := hc2 0 _ rfl
      have g1 := hc2 1 _ rfl
      have g2 := hc2 2 _ rfl
      have g3 := hc2 3 _ rfl
      have g4 := hc2 4 _ rfl
      have g5 := hc2 5 _ rfl
      simp only [Nat.add_zero] at f0 g0
      generalize ts[k] = x at *
      have hneq := run_neqF_same x
      have hgt := guardF
      clear hc1 hc2 HX HY
      obtain ⟨W, hW⟩ : ∃ W : World, W = w.drewN n := ⟨_, rfl⟩
      have hcell : ∀ a v, w.cell? a = some v → W.cell? a = some v := fun a v h => by rw [hW]; exact h
      have f0 := hcell _ _ f0
      have f1 := hcell _ _ f1
      have f2 := hcell _ _ f2
      have f3 := hcell _ _ f3
      have f4 := hcell _ _ f4
      have f5 := hcell _ _ f5
      have g0 := hcell _ _ g0
      have g1 := hcell _ _ g1
      have g2 := hcell _ _ g2
      have g3 := hcell _ _ g3
      have g4 := hcell _ _ g4
      have g5 := hcell _ _ g5
      rw [← hW]
      have HW := Lib.hid hW
      clear hW hcell
      go_wp2
      go_quiet (fail)
      go_wp2
      go_roundg (gk - 1)
      case measure => omega
      case rel => exact ⟨k + 1, by omega, by go_num, by rw [HW.out]; exact ⟨_, drewN_drewN' _ _ _⟩⟩
    · go_wp2
      go_ret
      exact ⟨rfl, n, rfl⟩

theorem sameFacts_any (a1 a2 : Option Addr) (c1 c2 : Nat) (ts : List Fc) (w : World) (h1 : Facts w a1 ts) (h2 : Facts w a2 ts) (hlen : ts.length < 1000000) :
    Calls Tryd.prog 8 #[.slice a1 ts.length c1, .slice a2 ts.length c2] w fun e w' => e = .returned (.bool true) ∧ ∃ n, w' = w.drewN n := by
  have hcon := equalF_any a1 a2 c1 c2 ts w h1 h2 hlen
  clear h1 h2
  go_enter Tryd.func8, Tryd.ntmps8
  go_wp2_with fail
  refine hcon.mono ?_
  rintro e w1 ⟨rfl, n, rfl⟩
  go_wp2
  go_ret
  exact ⟨rfl, n, rfl⟩

theorem great17_any (a1 a2 : Option Addr) (n1 c1 n2 c2 : Nat) (w : World) (h1 : n1 ≤ maxLen) (h2 : n2 ≤ maxLen) :
    Calls Tryd.prog 13 #[.slice a1 n1 c1, .slice a2 n2 c2] w fun e w' => e = .returned (.bool (decide (120 < n1) || decide (40 < n2))) ∧ w = w' := by
  unfold maxLen at h1 h2
  by_cases hg : 120 < n1
  · have e1 : decide (120 < n1) = true := decide_eq_true hg
    rw [e1, Bool.true_or]
    go_enter Tryd.func13, Tryd.ntmps13
    go_wp2
    go_ret
    exact ⟨rfl, rfl⟩
  · have e1 : decide (120 < n1) = false := decide_eq_false hg
    rw [e1, Bool.false_or]
    go_enter Tryd.func13, Tryd.ntmps13
    go_wp2
    go_ret
    refine ⟨?_, rfl⟩
    have : (decide ((120 : Int) < n1) || decide ((40 : Int) < n2)) = decide (40 < n2) := by
      rw [Bool.eq_iff_iff]; simp; omega
    simp [this]

theorem below_drewN {B : Nat} {a w : World} (h : Below B a w) (n : Nat) : Below B a (w.drewN n) := h.trans ⟨rfl, rfl, rfl, Nat.le_refl _, fun _ _ => rfl⟩

theorem bytes_ext {a b : ByteArray} (h : a.toList = b.toList) : a = b := by
  rw [ByteArray.toList_eq, ByteArray.toList_eq] at h
  exact ByteArray.ext (Array.toList_inj.1 h)

theorem fc_ext {x y : Fc} (h0 : x.key.toList = y.key.toList) (h1 : x.valid = y.valid) (h2 : x.seq = y.seq) (h3 : x.line = y.line) (h4 : x.kind = y.kind) (h5 : x.val.toList = y.val.toList) : x = y := by
  obtain ⟨a0, a1, a2, a3, a4, a5, _, _, _, _, _⟩ := x
  obtain ⟨b0, b1, b2, b3, b4, b5, _, _, _, _, _⟩ := y
  simp only at h0 h1 h2 h3 h4 h5
  have := bytes_ext h0
  have := bytes_ext h5
  subst_vars
  rfl

def sameF (x y : Fc) : Bool := x.key.toList == y.key.toList && x.valid == y.valid && x.seq == y.seq && x.line == y.line && x.kind == y.kind && x.val.toList == y.val.toList
theorem sameF_iff {x y : Fc} : sameF x y = true ↔ x = y := by
  unfold sameF
  simp only [Bool.and_eq_true, beq_iff_eq]
  constructor
  · rintro ⟨⟨⟨⟨⟨h0, h1⟩, h2⟩, h3⟩, h4⟩, h5⟩; exact fc_ext h0 h1 h2 h3 h4 h5
  · rintro rfl; simp

theorem run_eqlF (x y : Fc) (w : World) : (binOp .eql 41 (.agg #[.string x.key, .int .u32 x.valid, .int .u64 x.seq, .int .u64 x.line, .int .u8 x.kind, .string x.val]) (.agg #[.string y.key, .int .u32 y.valid, .int .u64 y.seq, .int .u64 y.line, .int .u8 y.kind, .string y.val])).run Tryd.prog w = .ok (.bool (sameF x y)) w := by
  have h := run_eqF x y w
  have : (binOp .eql 41 (fv x) (fv y)).run Tryd.prog w = .ok (.bool (sameF x y)) w := by
    rw [run_eql_struct, h]; rfl
  exact this
theorem facts_of_blk {w : World} {b : Nat} {xs : List Fc} {cs : Array Value} (h : w.heap[b]? = some (.cells cs 41 (0, 0))) (hc : cs.toList = xs.flatMap fc) : Facts w (some ⟨b, 0, none⟩) xs := by
  refine ⟨fun i hi => ⟨b, 0, rfl, lt_of_blk h, fun j c hj => ?_⟩⟩
  have hjs : j < 6 := by
    rcases Nat.lt_or_ge j 6 with h' | h'
    · exact h'
    · rw [List.getElem?_eq_none (by rw [fc_len]; exact h')] at hj; simp at hj
  have h1 := flatMap_get fc_len xs i j hi hjs
  rw [cell_of_blk h, Nat.zero_add, ← Array.getElem?_toList, hc, h1]
  exact hj
theorem links_of_blk {w : World} {b : Nat} {xs : List Lk} {cs : Array Value} (h : w.heap[b]? = some (.cells cs 43 (0, 0))) (hc : cs.toList = xs.flatMap lc) : Links w (some ⟨b, 0, none⟩) xs := by
  refine ⟨fun i hi => ⟨b, 0, rfl, lt_of_blk h, fun j c hj => ?_⟩⟩
  have hl : ∀ x : Lk, (lc x).length = 2 := fun _ => rfl
  have hjs : j < 2 := by
    rcases Nat.lt_or_ge j 2 with h' | h'
    · exact h'
    · rw [List.getElem?_eq_none (by rw [hl]; exact h')] at hj; simp at hj
  have h1 := flatMap_get hl xs i j hi hjs
  rw [cell_of_blk h, Nat.zero_add, ← Array.getElem?_toList, hc, h1]
  exact hj
end Go.Proofs.YticcccciefaemaaDoor
