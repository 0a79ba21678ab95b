/- herbariumlaw01.SameFacts at equal lists; views.Value; Great. Condition: fewer than 1000000 facts. -/
import Derived.Test.YtenocakpipppiaaGreatDoorK8
namespace Go.Proofs.YtenocakpipppiaaGreatDoor
open Go.RowKit Go.Shelf Go.Herb

theorem drewN_drewN' (w : World) (a b : Nat) : (w.drewN a).drewN b = w.drewN (a + b) := by simp [World.drewN, Nat.add_assoc]

theorem run_eqF (x y : Fc) (w : World) : (Op.equalIn 10000 50 (fv x) (fv y)).run Tryz.prog w = .ok (x.key.toList == y.key.toList && x.valid == y.valid && x.seq == y.seq && x.line == y.line && x.kind == y.kind && x.val.toList == y.val.toList) w := by
  have hS : Tryz.prog.underlying 50 = some (.struct (Tryz.prog.fieldsOf 50)) := by kernel_rfl
  have hp : Tryz.prog.stoodInHeld 50 = false := by kernel_rfl
  rw [show (10000 : Nat) = 9999 + 1 from rfl, run_equalIn_agg w 9999 50 _ _ hS hp]
  simp only [Program.fieldsOf, Tryz.underlying50]
  have u25 := Tryz.underlying24
  have u36 := Tryz.underlying27
  have u37 := Tryz.underlying48
  have u9 := Tryz.underlying9
  go_simp
  by_cases h1 : x.key.toList = y.key.toList <;> by_cases h2 : x.valid = y.valid <;> by_cases h3 : x.seq = y.seq <;> by_cases h4 : x.line = y.line <;> by_cases h5 : x.kind = y.kind <;> by_cases h6 : x.val.toList = y.val.toList <;> simp [h1, h2, h3, h4, h5, h6]

theorem guardF : Tryz.prog.eqGuardType Tryz.prog.depth 50 = false := by kernel_rfl

theorem run_neqF (x y : Fc) (w : World) : (binOp .neq 50 (fv x) (fv y)).run Tryz.prog w = .ok (.bool (!(x.key.toList == y.key.toList && x.valid == y.valid && x.seq == y.seq && x.line == y.line && x.kind == y.kind && x.val.toList == y.val.toList))) w := by
  rw [run_neq_struct, run_eqF]; rfl

theorem run_neqF_same (x : Fc) (w : World) : (binOp .neq 50 (.agg #[.string x.key, .int .u32 x.valid, .int .u64 x.seq, .int .u64 x.line, .int .u8 x.kind, .string x.val]) (.agg #[.string x.key, .int .u32 x.valid, .int .u64 x.seq, .int .u64 x.line, .int .u8 x.kind, .string x.val])).run Tryz.prog w = .ok (.bool false) w := by
  have := run_neqF x x w
  simpa using this

set_option maxHeartbeats 400000 in
theorem equalF_any (a1 a2 : Option Addr) (c1 c2 : Nat) (ts : List Fc) (w : World) (h1 : Facts w a1 ts) (h2 : Facts w a2 ts) (hlen : ts.length < 1000000) :
    Calls Tryz.prog 27 #[.slice a1 ts.length c1, .slice a2 ts.length c2] w fun e w' => e = .returned (.bool true) ∧ ∃ n, w' = w.drewN n := by
  have HX := Lib.hid h1
  have HY := Lib.hid h2
  clear h1 h2
  go_enter Tryz.func27, Tryz.ntmps27
  go_wp2
  go_loopg [5] ts.length (fun gk i wr => ∃ k : Nat, k + gk = ts.length ∧ i = .int .i64 k ∧ ∃ n, wr = w.drewN n)
  case atStart => exact ⟨0, by omega, rfl, 0, rfl⟩
  case round =>
    obtain ⟨k, hk, rfl, n, rfl⟩ := hrel
    by_cases hlt : k < ts.length
    · obtain ⟨b1, o1, rfl, h1, hc1⟩ := HX.out.get k hlt
      obtain ⟨b2, o2, rfl, h2, hc2⟩ := HY.out.get k hlt
      have f0 := hc1 0 _ rfl
      have f1 := hc1 1 _ rfl
      have f2 := hc1 2 _ rfl
      have f3 := hc1 3 _ rfl
      have f4 := hc1 4 _ rfl
      have f5 := hc1 5 _ rfl
      have g0 := hc2 0 _ rfl
      have g1 := hc2 1 _ rfl
      have g2 := hc2 2 _ rfl
      have g3 := hc2 3 _ rfl
      have g4 := hc2 4 _ rfl
      have g5 := hc2 5 _ rfl
      simp only [Nat.add_zero] at f0 g0
      generalize ts[k] = x at *
      have hneq := run_neqF_same x
      have hgt := guardF
      clear hc1 hc2 HX HY
      obtain ⟨W, hW⟩ : ∃ W : World, W = w.drewN n := ⟨_, rfl⟩
      have hcell : ∀ a v, w.cell? a = some v → W.cell? a = some v := fun a v h => by rw [hW]; exact h
      have f0 := hcell _ _ f0
      have f1 := hcell _ _ f1
      have f2 := hcell _ _ f2
      have f3 := hcell _ _ f3
      have f4 := hcell _ _ f4
      have f5 := hcell _ _ f5
      have g0 := hcell _ _ g0
      have g1 := hcell _ _ g1
      have g2 := hcell _ _ g2
      have g3 := hcell _ _ g3
      have g4 := hcell _ _ g4
      have g5 := hcell _ _ g5
      rw [← hW]
      have HW := Lib.hid hW
      clear hW hcell
      go_wp2
      go_quiet (fail)
      go_wp2
      go_roundg (gk - 1)
      case measure => omega
      case rel => exact ⟨k + 1, by omega, by go_num, by rw [HW.out]; exact ⟨_, drewN_drewN' _ _ _⟩⟩
    · go_wp2
      go_ret
      exact ⟨rfl, n, rfl⟩

theorem sameFacts_any (a1 a2 : Option Addr) (c1 c2 : Nat) (ts : List Fc) (w : World) (h1 : Facts w a1 ts) (h2 : Facts w a2 ts) (hlen : ts.length < 1000000) :
    Calls Tryz.prog 11 #[.slice a1 ts.length c1, .slice a2 ts.length c2] w fun e w' => e = .returned (.bool true) ∧ ∃ n, w' = w.drewN n := by
  have hcon := equalF_any a1 a2 c1 c2 ts w h1 h2 hlen
  clear h1 h2
  go_enter Tryz.func11, Tryz.ntmps11
  go_wp2_with fail
  refine hcon.mono ?_
  rintro e w1 ⟨rfl, n, rfl⟩
  go_wp2
  go_ret
  exact ⟨rfl, n, rfl⟩

theorem great17_any (a1 a2 : Option Addr) (n1 c1 n2 c2 : Nat) (w : World) (h1 : n1 ≤ maxLen) (h2 : n2 ≤ maxLen) :
    Calls Tryz.prog 4 #[.slice a1 n1 c1, .slice a2 n2 c2] w fun e w' => e = .returned (.bool (decide (120 < n1) || decide (40 < n2))) ∧ w = w' := by
  unfold maxLen at h1 h2
  by_cases hg : 120 < n1
  · have e1 : decide (120 < n1) = true := decide_eq_true hg
    rw [e1, Bool.true_or]
    go_enter Tryz.func4, Tryz.ntmps4
    go_wp2
    go_ret
    exact ⟨rfl, rfl⟩
  · have e1 : decide (120 < n1) = false := decide_eq_false hg
    rw [e1, Bool.false_or]
    go_enter Tryz.func4, Tryz.ntmps4
    go_wp2
    go_ret
    refine ⟨?_, rfl⟩
    have : (decide ((120 : Int) < n1) || decide ((40 : Int) < n2)) = decide (40 < n2) := by
      rw [Bool.eq_iff_iff]; simp; omega
    simp [this]

theorem below_drewN {B : Nat} {a w : World} (h : Below B a w) (n : Nat) : Below B a (w.drewN n) := h.trans ⟨rfl, rfl, rfl, Nat.le_refl _, fun _ _ => rfl⟩

/-! views.Value -/
/-- The better one of two. -/
def bestStep (key : ByteArray) (valid : Int) (b : Option Fc) (x : Fc) : Option Fc :=
  if x.key.toList = key.toList ∧ x.valid ≤ valid ∧ (∀ y, b = some y → y.valid < x.valid) then some x else b
def bestF (key : ByteArray) (valid : Int) (xs : List Fc) : Option Fc := xs.foldl (bestStep key valid) none
theorem bestF_succ (key : ByteArray) (valid : Int) (xs : List Fc) (k : Nat) (h : k < xs.length) : bestF key valid (xs.take (k + 1)) = bestStep key valid (bestF key valid (xs.take k)) xs[k] := by
  unfold bestF
  rw [List.take_succ_eq_append_getElem h, List.foldl_append]
  rfl

def valueL (key : ByteArray) (valid : Int) (xs : List Fc) : ByteArray × Bool :=
  match bestF key valid xs with
  | some y => if y.kind = 0 then (y.val, true) else (.empty, false)
  | none => (.empty, false)

/-- Where the best one of the first k stands. -/
def BestAt (key : ByteArray) (valid : Int) (xs : List Fc) (k : Nat) (i : Int) : Prop :=
  (i = -1 ∧ bestF key valid (xs.take k) = none) ∨ ∃ (j : Nat) (h : j < xs.length), j < k ∧ i = j ∧ bestF key valid (xs.take k) = some xs[j]

theorem BestAt.skip {key : ByteArray} {valid : Int} {xs : List Fc} {k : Nat} {i : Int} (h : BestAt key valid xs k i) (he : bestF key valid (xs.take (k + 1)) = bestF key valid (xs.take k)) : BestAt key valid xs (k + 1) i := by
  rcases h with ⟨h1, h2⟩ | ⟨j, hj, h1, h2, h3⟩
  · exact .inl ⟨h1, he.trans h2⟩
  · exact .inr ⟨j, hj, by omega, h2, he.trans h3⟩

def ValuePost (r : ByteArray × Bool) (w : World) (e : Ending) (w' : World) : Prop := e = .returned (.tuple #[.string r.1, .bool r.2]) ∧ Below w.heap.size w w'

set_option maxRecDepth 100000 in
set_option maxHeartbeats 1000000 in
theorem value_any (a : Option Addr) (c : Nat) (xs : List Fc) (key : ByteArray) (valid : Int) (w : World) (hL : Facts w a xs) (hlen : xs.length < 1000000) :
    Calls Tryz.prog 9 #[.slice a xs.length c, .string key, .int .u32 valid] w (ValuePost (valueL key valid xs) w) := by
  have HL := Lib.hid hL
  clear hL
  go_enter Tryz.func9, Tryz.ntmps9
  go_wp2_with fail
  go_loopg [8, 13] xs.length (fun gk bv iv wr => ∃ (k : Nat) (i : Int), k + gk = xs.length ∧ iv = .int .i64 k ∧ bv = .int .i64 i ∧ BestAt key valid xs k i ∧ Below w.heap.size w wr)
  case atStart => exact ⟨0, -1, by omega, rfl, rfl, .inl ⟨rfl, rfl⟩, Below.refl _ _⟩
  case round =>
    obtain ⟨k, i, hk, rfl, rfl, hbest, hBw⟩ := hrel
    by_cases hlt : k < xs.length
    · obtain ⟨b, o, rfl, hlb, hcell⟩ := HL.out.get k hlt
      have e0 := (hBw.cell (p := ⟨b, _, none⟩) hlb).trans (hcell 0 _ rfl)
      have e1 := (hBw.cell (p := ⟨b, _, none⟩) hlb).trans (hcell 1 _ rfl)
      have e2 := (hBw.cell (p := ⟨b, _, none⟩) hlb).trans (hcell 2 _ rfl)
      have e3 := (hBw.cell (p := ⟨b, _, none⟩) hlb).trans (hcell 3 _ rfl)
      have e4 := (hBw.cell (p := ⟨b, _, none⟩) hlb).trans (hcell 4 _ rfl)
      have e5 := (hBw.cell (p := ⟨b, _, none⟩) hlb).trans (hcell 5 _ rfl)
      simp only [Nat.add_zero] at e0 e1 e2 e3 e4 e5
      have hbr : b < wr.heap.size := by have := hBw.size; omega
      have hst := bestF_succ key valid xs k hlt
      have HST := Lib.hid hst
      have HBW := Lib.hid hBw
      clear hst hcell
      have hnext : ∀ n, Below w.heap.size w ((wr.alloc (.cells #[.string xs[k].key, .int .u32 xs[k].valid, .int .u64 xs[k].seq, .int .u64 xs[k].line, .int .u8 xs[k].kind, .string xs[k].val] 50)).drewN n) := fun n => below_drewN (hBw.alloc hBw.size _) n
      have HNX := Lib.hid hnext
      have HXK := Lib.hid (show xs[k] = xs[k] from rfl)
      obtain ⟨x, hx⟩ : ∃ x, x = xs[k] := ⟨_, rfl⟩
      rw [← hx] at e0 e1 e2 e3 e4 e5 HST HNX
      have HX := Lib.hid hx
      clear hnext HXK hBw hx
      have hk0 : (0 : Int) ≤ (k : Int) := by omega
      have hk1 : (k : Int) < (xs.length : Int) := by omega
      by_cases g1 : x.key.toList = key.toList
      · have d1 : (x.key.toList == key.toList) = true := beq_iff_eq.2 g1
        by_cases g2 : x.valid ≤ valid
        · have d2 : decide (x.valid ≤ valid) = true := decide_eq_true g2
          rcases hbest with ⟨rfl, hb⟩ | ⟨j, hj, hjk, rfl, hb⟩
          · have hnew : BestAt key valid xs (k + 1) k := .inr ⟨k, hlt, by omega, rfl, by rw [HST.out, hb, ← HX.out]; simp [bestStep, g1, g2]⟩
            have HNEW := Lib.hid hnew
            clear hnew hb g1 g2
            go_wp2_with fail
            go_quiet (fail)
            go_wp2
            go_roundg (gk - 1)
            case measure => omega
            case rel => exact ⟨k + 1, k, by omega, by go_num, rfl, HNEW.out, HNX.out _⟩
          · obtain ⟨b', o', ha, _, hcj⟩ := HL.out.get j hj
            injection ha with ha
            injection ha with ha1 ha2
            subst ha1 ha2
            have f1 := (HBW.out.cell (p := ⟨b, _, none⟩) hlb).trans (hcj 1 _ rfl)
            have hj0 : (0 : Int) ≤ (j : Int) := by omega
            have hj1 : (j : Int) < (xs.length : Int) := by omega
            have hjn : decide ((j : Int) < 0) = false := decide_eq_false (by omega)
            obtain ⟨y, hy⟩ : ∃ y, y = xs[j] := ⟨_, rfl⟩
            rw [← hy] at f1
            by_cases g3 : y.valid < x.valid
            · have d3 : decide (y.valid < x.valid) = true := decide_eq_true g3
              have hnew : BestAt key valid xs (k + 1) k := .inr ⟨k, hlt, by omega, rfl, by rw [HST.out, hb, ← hy, ← HX.out]; simp [bestStep, g1, g2, g3]⟩
              have HNEW := Lib.hid hnew
              clear hnew hb g1 g2 g3 hcj hy
              go_wp2_with fail
              go_quiet (fail)
              go_wp2
              go_roundg (gk - 1)
              case measure => omega
              case rel => exact ⟨k + 1, k, by omega, by go_num, rfl, HNEW.out, HNX.out _⟩
            · have d3 : decide (y.valid < x.valid) = false := decide_eq_false g3
              have hnew : BestAt key valid xs (k + 1) j := .inr ⟨j, hj, by omega, rfl, by rw [HST.out, hb, ← hy]; simp [bestStep, g3]⟩
              have HNEW := Lib.hid hnew
              clear hnew hb g1 g2 g3 hcj hy
              go_wp2_with fail
              go_quiet (fail)
              go_wp2
              go_roundg (gk - 1)
              case measure => omega
              case rel => exact ⟨k + 1, j, by omega, by go_num, rfl, HNEW.out, HNX.out _⟩
        · have d2 : decide (x.valid ≤ valid) = false := decide_eq_false g2
          have hnew : BestAt key valid xs (k + 1) i := hbest.skip (by rw [HST.out]; exact if_neg (fun h => g2 h.2.1))
          have HNEW := Lib.hid hnew
          clear hnew hbest g1 g2
          go_wp2_with fail
          go_quiet (fail)
          go_wp2
          go_roundg (gk - 1)
          case measure => omega
          case rel => exact ⟨k + 1, i, by omega, by go_num, rfl, HNEW.out, HNX.out _⟩
      · have d1 : (x.key.toList == key.toList) = false := beq_eq_false_iff_ne.2 g1
        have hnew : BestAt key valid xs (k + 1) i := hbest.skip (by rw [HST.out]; exact if_neg (fun h => g1 h.1))
        have HNEW := Lib.hid hnew
        clear hnew hbest g1
        go_wp2_with fail
        go_quiet (fail)
        go_wp2
        go_roundg (gk - 1)
        case measure => omega
        case rel => exact ⟨k + 1, i, by omega, by go_num, rfl, HNEW.out, HNX.out _⟩
    · have hke : k = xs.length := by omega
      subst hke
      unfold BestAt at hbest
      rw [List.take_length] at hbest
      rcases hbest with ⟨rfl, hb⟩ | ⟨j, hj, -, rfl, hb⟩
      · have HV := Lib.hid (show valueL key valid xs = (.empty, false) by simp [valueL, hb])
        clear hb
        go_wp2
        go_ret2
        rw [HV.out]
        exact ⟨rfl, hBw⟩
      · obtain ⟨b, o, rfl, hlb, hcj⟩ := HL.out.get j hj
        have f4 := (hBw.cell (p := ⟨b, _, none⟩) hlb).trans (hcj 4 _ rfl)
        have f5 := (hBw.cell (p := ⟨b, _, none⟩) hlb).trans (hcj 5 _ rfl)
        have hj0 : (0 : Int) ≤ (j : Int) := by omega
        have hj1 : (j : Int) < (xs.length : Int) := by omega
        have hjn : decide ((j : Int) < 0) = false := decide_eq_false (by omega)
        have HBW := Lib.hid hBw
        obtain ⟨y, hy⟩ : ∃ y, y = xs[j] := ⟨_, rfl⟩
        rw [← hy] at f4 f5 hb
        by_cases g : y.kind = 0
        · have d : (y.kind != 0) = false := by simp [g]
          have HV := Lib.hid (show valueL key valid xs = (y.val, true) by simp [valueL, hb, g])
          clear hb g hcj hy hBw
          go_wp2
          go_ret2
          rw [HV.out]
          exact ⟨rfl, HBW.out⟩
        · have d : (y.kind != 0) = true := by simp [g]
          have HV := Lib.hid (show valueL key valid xs = (.empty, false) by simp [valueL, hb, g])
          clear hb g hcj hy hBw
          go_wp2
          go_ret2
          rw [HV.out]
          exact ⟨rfl, HBW.out⟩
end Go.Proofs.YtenocakpipppiaaGreatDoor
