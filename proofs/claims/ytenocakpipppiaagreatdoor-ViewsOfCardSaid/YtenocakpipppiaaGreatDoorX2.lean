/- ref17: Value. Condition: fewer than 1000000 facts. · law17: SamePairs, SameEntries, at equal lists. Condition: fewer than 1000000. -/
import Derived.Test.YtenocakpipppiaaGreatDoorRC
import Derived.Test.YtenocakpipppiaaGreatDoorR9
import Derived.Test.YtenocakpipppiaaGreatDoorN4
import Derived.Test.YtenocakpipppiaaGreatDoorS5
import Derived.Test.YtenocakpipppiaaGreatDoorH4b
import Derived.Test.YtenocakpipppiaaGreatDoorV2
namespace Go.Proofs.YtenocakpipppiaaGreatDoor
open Go.RowKit Go.Shelf Go.Herb Go.Sort

set_option maxRecDepth 100000 in
set_option maxHeartbeats 1000000 in
theorem refValue_any (a : Option Addr) (c : Nat) (xs : List Fc) (key : ByteArray) (valid : Int) (w : World) (hL : Facts w a xs) (hlen : xs.length < 1000000) :
    Calls Tryz.prog 10 #[.slice a xs.length c, .string key, .int .u32 valid] w (ValuePost (valueL key valid xs) w) := by
  have HL := Lib.hid hL
  clear hL
  go_enter Tryz.func10, Tryz.ntmps10
  go_wp2_with fail
  go_loopg [8, 9] xs.length (fun gk bv iv wr => ∃ (k : Nat) (i : Int), k + gk = xs.length ∧ iv = .int .i64 k ∧ bv = .int .i64 i ∧ BestAt key valid xs k i ∧ Below w.heap.size w wr)
  case atStart => exact ⟨0, -1, by omega, rfl, rfl, .inl ⟨rfl, rfl⟩, Below.refl _ _⟩
  case round =>
    obtain ⟨k, i, hk, rfl, rfl, hbest, hBw⟩ := hrel
    by_cases hlt : k < xs.length
    · obtain ⟨b, o, rfl, hlb, hcell⟩ := HL.out.get k hlt
      have e0 := (hBw.cell (p := ⟨b, _, none⟩) hlb).trans (hcell 0 _ rfl)
      have e1 := (hBw.cell (p := ⟨b, _, none⟩) hlb).trans (hcell 1 _ rfl)
      have e2 := (hBw.cell (p := ⟨b, _, none⟩) hlb).trans (hcell 2 _ rfl)
      have e3 := (hBw.cell (p := ⟨b, _, none⟩) hlb).trans (hcell 3 _ rfl)
      have e4 := (hBw.cell (p := ⟨b, _, none⟩) hlb).trans (hcell 4 _ rfl)
      have e5 := (hBw.cell (p := ⟨b, _, none⟩) hlb).trans (hcell 5 _ rfl)
      simp only [Nat.add_zero] at e0 e1 e2 e3 e4 e5
      have hbr : b < wr.heap.size := by have := hBw.size; omega
      have hst := bestF_succ key valid xs k hlt
      have HST := Lib.hid hst
      have HBW := Lib.hid hBw
      clear hst hcell
      have hnext : ∀ n, Below w.heap.size w (wr.drewN n) := fun n => below_drewN hBw n
      have HNX := Lib.hid hnext
      have HXK := Lib.hid (show xs[k] = xs[k] from rfl)
      obtain ⟨x, hx⟩ : ∃ x, x = xs[k] := ⟨_, rfl⟩
      rw [← hx] at e0 e1 e2 e3 e4 e5 HST
      have HX := Lib.hid hx
      clear hnext HXK hBw hx
      have hk0 : (0 : Int) ≤ (k : Int) := by omega
      have hk1 : (k : Int) < (xs.length : Int) := by omega
      by_cases g1 : x.key.toList = key.toList
      · have d1 : (x.key.toList == key.toList) = true := beq_iff_eq.2 g1
        by_cases g2 : x.valid ≤ valid
        · have d2 : decide (x.valid ≤ valid) = true := decide_eq_true g2
          rcases hbest with ⟨rfl, hb⟩ | ⟨j, hj, hjk, rfl, hb⟩
          · have hnew : BestAt key valid xs (k + 1) k := .inr ⟨k, hlt, by omega, rfl, by rw [HST.out, hb, ← HX.out]; simp [bestStep, g1, g2]⟩
            have HNEW := Lib.hid hnew
            clear hnew hb g1 g2
            go_wp2_with fail
            go_quiet (fail)
            go_wp2
            go_roundg (gk - 1)
            case measure => omega
            case rel => exact ⟨k + 1, k, by omega, by go_num, rfl, HNEW.out, HNX.out _⟩
          · obtain ⟨b', o', ha, _, hcj⟩ := HL.out.get j hj
            injection ha with ha
            injection ha with ha1 ha2
            subst ha1 ha2
            have f1 := (HBW.out.cell (p := ⟨b, _, none⟩) hlb).trans (hcj 1 _ rfl)
            have hj0 : (0 : Int) ≤ (j : Int) := by omega
            have hj1 : (j : Int) < (xs.length : Int) := by omega
            have hjn : decide ((j : Int) < 0) = false := decide_eq_false (by omega)
            obtain ⟨y, hy⟩ : ∃ y, y = xs[j] := ⟨_, rfl⟩
            rw [← hy] at f1
            by_cases g3 : y.valid < x.valid
            · have d3 : decide (y.valid < x.valid) = true := decide_eq_true g3
              have hnew : BestAt key valid xs (k + 1) k := .inr ⟨k, hlt, by omega, rfl, by rw [HST.out, hb, ← hy, ← HX.out]; simp [bestStep, g1, g2, g3]⟩
              have HNEW := Lib.hid hnew
              clear hnew hb g1 g2 g3 hcj hy
              go_wp2_with fail
              go_quiet (fail)
              go_wp2
              go_roundg (gk - 1)
              case measure => omega
              case rel => exact ⟨k + 1, k, by omega, by go_num, rfl, HNEW.out, HNX.out _⟩
            · have d3 : decide (y.valid < x.valid) = false := decide_eq_false g3
              have hnew : BestAt key valid xs (k + 1) j := .inr ⟨j, hj, by omega, rfl, by rw [HST.out, hb, ← hy]; simp [bestStep, g3]⟩
              have HNEW := Lib.hid hnew
              clear hnew hb g1 g2 g3 hcj hy
              go_wp2_with fail
              go_quiet (fail)
              go_wp2
              go_roundg (gk - 1)
              case measure => omega
              case rel => exact ⟨k + 1, j, by omega, by go_num, rfl, HNEW.out, HNX.out _⟩
        · have d2 : decide (x.valid ≤ valid) = false := decide_eq_false g2
          have hnew : BestAt key valid xs (k + 1) i := hbest.skip (by rw [HST.out]; exact if_neg (fun h => g2 h.2.1))
          have HNEW := Lib.hid hnew
          clear hnew hbest g1 g2
          go_wp2_with fail
          go_quiet (fail)
          go_wp2
          go_roundg (gk - 1)
          case measure => omega
          case rel => exact ⟨k + 1, i, by omega, by go_num, rfl, HNEW.out, HNX.out _⟩
      · have d1 : (x.key.toList == key.toList) = false := beq_eq_false_iff_ne.2 g1
        have hnew : BestAt key valid xs (k + 1) i := hbest.skip (by rw [HST.out]; exact if_neg (fun h => g1 h.1))
        have HNEW := Lib.hid hnew
        clear hnew hbest g1
        go_wp2_with fail
        go_quiet (fail)
        go_wp2
        go_roundg (gk - 1)
        case measure => omega
        case rel => exact ⟨k + 1, i, by omega, by go_num, rfl, HNEW.out, HNX.out _⟩
    · have hke : k = xs.length := by omega
      subst hke
      unfold BestAt at hbest
      rw [List.take_length] at hbest
      rcases hbest with ⟨rfl, hb⟩ | ⟨j, hj, -, rfl, hb⟩
      · have HV := Lib.hid (show valueL key valid xs = (.empty, false) by simp [valueL, hb])
        clear hb
        go_wp2
        go_ret2
        rw [HV.out]
        exact ⟨rfl, hBw⟩
      · obtain ⟨b, o, rfl, hlb, hcj⟩ := HL.out.get j hj
        have f4 := (hBw.cell (p := ⟨b, _, none⟩) hlb).trans (hcj 4 _ rfl)
        have f5 := (hBw.cell (p := ⟨b, _, none⟩) hlb).trans (hcj 5 _ rfl)
        have hj0 : (0 : Int) ≤ (j : Int) := by omega
        have hj1 : (j : Int) < (xs.length : Int) := by omega
        have hjn : decide ((j : Int) < 0) = false := decide_eq_false (by omega)
        have HBW := Lib.hid hBw
        obtain ⟨y, hy⟩ : ∃ y, y = xs[j] := ⟨_, rfl⟩
        rw [← hy] at f4 f5 hb
        by_cases g : y.kind = 0
        · have d : (y.kind != 0) = false := by simp [g]
          have HV := Lib.hid (show valueL key valid xs = (y.val, true) by simp [valueL, hb, g])
          clear hb g hcj hy hBw
          go_wp2
          go_ret2
          rw [HV.out]
          exact ⟨rfl, HBW.out⟩
        · have d : (y.kind != 0) = true := by simp [g]
          have HV := Lib.hid (show valueL key valid xs = (.empty, false) by simp [valueL, hb, g])
          clear hb g hcj hy hBw
          go_wp2
          go_ret2
          rw [HV.out]
          exact ⟨rfl, HBW.out⟩
end Go.Proofs.YtenocakpipppiaaGreatDoor

namespace Go.Proofs.YtenocakpipppiaaGreatDoor
open Go.RowKit Go.Shelf Go.Herb Go.Sort

theorem run_eqPr (x y : Pr) (w : World) : (Op.equalIn 10000 63 (.agg #[.string x.1, .string x.2]) (.agg #[.string y.1, .string y.2])).run Tryz.prog w = .ok (x.1.toList == y.1.toList && x.2.toList == y.2.toList) w := by
  have hS : Tryz.prog.underlying 63 = some (.struct (Tryz.prog.fieldsOf 63)) := by kernel_rfl
  have hp : Tryz.prog.stoodInHeld 63 = false := by kernel_rfl
  rw [show (10000 : Nat) = 9999 + 1 from rfl, run_equalIn_agg w 9999 63 _ _ hS hp]
  simp only [Program.fieldsOf, Tryz.underlying63]
  have u9 := Tryz.underlying9
  go_simp
  by_cases h1 : x.1.toList = y.1.toList <;> by_cases h2 : x.2.toList = y.2.toList <;> simp [h1, h2]
theorem guardPr : Tryz.prog.eqGuardType Tryz.prog.depth 63 = false := by kernel_rfl
theorem run_neqPr (x : Pr) (w : World) : (binOp .neq 63 (.agg #[.string x.1, .string x.2]) (.agg #[.string x.1, .string x.2])).run Tryz.prog w = .ok (.bool false) w := by
  rw [run_neq_struct, run_eqPr]
  simp
set_option maxHeartbeats 400000 in
theorem SamePairs_any (a1 a2 : Option Addr) (c1 c2 n : Nat) (ts : List Pr) (hn : ts.length = n) (w : World) (h1 : Els pc 2 w a1 ts) (h2 : Els pc 2 w a2 ts) (hlen : n < 1000000) :
    Calls Tryz.prog 12 #[.slice a1 n c1, .slice a2 n c2] w fun e w' => e = .returned (.bool true) ∧ ∃ n, w' = w.drewN n := by
  have HX := Lib.hid h1
  have HY := Lib.hid h2
  have HN := Lib.hid hn
  clear h1 h2 hn
  go_enter Tryz.func12, Tryz.ntmps12
  go_wp2
  go_loopg [5] n (fun gk i wr => ∃ k : Nat, k + gk = n ∧ i = .int .i64 k ∧ ∃ n, wr = w.drewN n)
  case atStart => exact ⟨0, by omega, rfl, 0, rfl⟩
  case round =>
    obtain ⟨k, hk, rfl, m, rfl⟩ := hrel
    by_cases hlt : k < n
    · have hkt : k < ts.length := by have := HN.out; omega
      obtain ⟨b1, o1, rfl, h1, hc1⟩ := HX.out.get k hkt
      obtain ⟨b2, o2, rfl, h2, hc2⟩ := HY.out.get k hkt
      have f0 := hc1 0 _ rfl
      have f1 := hc1 1 _ rfl
      have g0 := hc2 0 _ rfl
      have g1 := hc2 1 _ rfl
      simp only [Nat.add_zero] at f0 g0
      generalize ts[k] = x at *
      have hneq := run_neqPr x
      have hgt := guardPr
      clear hc1 hc2 HX HY
      obtain ⟨W, hW⟩ : ∃ W : World, W = w.drewN m := ⟨_, rfl⟩
      have hcell : ∀ a v, w.cell? a = some v → W.cell? a = some v := fun a v h => by rw [hW]; exact h
      have f0 := hcell _ _ f0
      have g0 := hcell _ _ g0
      have f1 := hcell _ _ f1
      have g1 := hcell _ _ g1
      rw [← hW]
      have HW := Lib.hid hW
      clear hW hcell
      go_wp2
      go_quiet (fail)
      go_wp2
      go_roundg (gk - 1)
      case measure => omega
      case rel => exact ⟨k + 1, by omega, by go_num, by rw [HW.out]; exact ⟨_, drewN_drewN' _ _ _⟩⟩
    · go_wp2
      go_ret
      exact ⟨rfl, m, rfl⟩

theorem run_eqEn (x y : Fc) (w : World) : (Op.equalIn 10000 71 (.agg #[.int .u32 x.valid, .int .u64 x.seq, .int .u8 x.kind, .string x.val]) (.agg #[.int .u32 y.valid, .int .u64 y.seq, .int .u8 y.kind, .string y.val])).run Tryz.prog w = .ok (x.valid == y.valid && x.seq == y.seq && x.kind == y.kind && x.val.toList == y.val.toList) w := by
  have hS : Tryz.prog.underlying 71 = some (.struct (Tryz.prog.fieldsOf 71)) := by kernel_rfl
  have hp : Tryz.prog.stoodInHeld 71 = false := by kernel_rfl
  rw [show (10000 : Nat) = 9999 + 1 from rfl, run_equalIn_agg w 9999 71 _ _ hS hp]
  simp only [Program.fieldsOf, Tryz.underlying71]
  have u25 := Tryz.underlying24
  have u36 := Tryz.underlying27
  have u37 := Tryz.underlying48
  have u9 := Tryz.underlying9
  go_simp
  by_cases h1 : x.valid = y.valid <;> by_cases h2 : x.seq = y.seq <;> by_cases h3 : x.kind = y.kind <;> by_cases h4 : x.val.toList = y.val.toList <;> simp [h1, h2, h3, h4]
theorem guardEn : Tryz.prog.eqGuardType Tryz.prog.depth 71 = false := by kernel_rfl
theorem run_neqEn (x : Fc) (w : World) : (binOp .neq 71 (.agg #[.int .u32 x.valid, .int .u64 x.seq, .int .u8 x.kind, .string x.val]) (.agg #[.int .u32 x.valid, .int .u64 x.seq, .int .u8 x.kind, .string x.val])).run Tryz.prog w = .ok (.bool false) w := by
  rw [run_neq_struct, run_eqEn]
  simp
set_option maxHeartbeats 400000 in
theorem SameEntries_any (a1 a2 : Option Addr) (c1 c2 n : Nat) (ts : List Fc) (hn : ts.length = n) (w : World) (h1 : Els ec 4 w a1 ts) (h2 : Els ec 4 w a2 ts) (hlen : n < 1000000) :
    Calls Tryz.prog 15 #[.slice a1 n c1, .slice a2 n c2] w fun e w' => e = .returned (.bool true) ∧ ∃ n, w' = w.drewN n := by
  have HX := Lib.hid h1
  have HY := Lib.hid h2
  have HN := Lib.hid hn
  clear h1 h2 hn
  go_enter Tryz.func15, Tryz.ntmps15
  go_wp2
  go_loopg [5] n (fun gk i wr => ∃ k : Nat, k + gk = n ∧ i = .int .i64 k ∧ ∃ n, wr = w.drewN n)
  case atStart => exact ⟨0, by omega, rfl, 0, rfl⟩
  case round =>
    obtain ⟨k, hk, rfl, m, rfl⟩ := hrel
    by_cases hlt : k < n
    · have hkt : k < ts.length := by have := HN.out; omega
      obtain ⟨b1, o1, rfl, h1, hc1⟩ := HX.out.get k hkt
      obtain ⟨b2, o2, rfl, h2, hc2⟩ := HY.out.get k hkt
      have f0 := hc1 0 _ rfl
      have f1 := hc1 1 _ rfl
      have f2 := hc1 2 _ rfl
      have f3 := hc1 3 _ rfl
      have g0 := hc2 0 _ rfl
      have g1 := hc2 1 _ rfl
      have g2 := hc2 2 _ rfl
      have g3 := hc2 3 _ rfl
      simp only [Nat.add_zero] at f0 g0
      generalize ts[k] = x at *
      have hneq := run_neqEn x
      have hgt := guardEn
      clear hc1 hc2 HX HY
      obtain ⟨W, hW⟩ : ∃ W : World, W = w.drewN m := ⟨_, rfl⟩
      have hcell : ∀ a v, w.cell? a = some v → W.cell? a = some v := fun a v h => by rw [hW]; exact h
      have f0 := hcell _ _ f0
      have g0 := hcell _ _ g0
      have f1 := hcell _ _ f1
      have g1 := hcell _ _ g1
      have f2 := hcell _ _ f2
      have g2 := hcell _ _ g2
      have f3 := hcell _ _ f3
      have g3 := hcell _ _ g3
      rw [← hW]
      have HW := Lib.hid hW
      clear hW hcell
      go_wp2
      go_quiet (fail)
      go_wp2
      go_roundg (gk - 1)
      case measure => omega
      case rel => exact ⟨k + 1, by omega, by go_num, by rw [HW.out]; exact ⟨_, drewN_drewN' _ _ _⟩⟩
    · go_wp2
      go_ret
      exact ⟨rfl, m, rfl⟩
end Go.Proofs.YtenocakpipppiaaGreatDoor
