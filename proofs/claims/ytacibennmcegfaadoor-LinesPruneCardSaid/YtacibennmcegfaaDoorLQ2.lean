/- herbariumlaw15: sameBranches, sameLines, sameChain, where they are the same. Condition: fewer than 1000000. -/
import Derived.Test.YtacibennmcegfaaDoorLPB
namespace Go.Proofs.YtacibennmcegfaaDoor
open Go.RowKit Go.Shelf Go.Herb

theorem run_neqLk (a b c d : Int) (w : World) : (binOp .neq (38) (.agg #[.int .u64 a, .int .u64 b]) (.agg #[.int .u64 c, .int .u64 d])).run Tryd.prog w = .ok (.bool (!decide (a = c ∧ b = d))) w := by
  rw [run_neq_struct, run_eqLk]; rfl
theorem run_eqBr (a d : ByteArray) (b c e f : Int) (w : World) : (Op.equalIn 10000 (45) (.agg #[.string a, .int .u64 b, .int .u64 c]) (.agg #[.string d, .int .u64 e, .int .u64 f])).run Tryd.prog w = .ok (decide (a = d ∧ b = e ∧ c = f)) w := by
  have hS : Tryd.prog.underlying (45) = some (.struct (Tryd.prog.fieldsOf (45))) := by kernel_rfl
  have hp : Tryd.prog.stoodInHeld (45) = false := by kernel_rfl
  rw [show (10000 : Nat) = 9999 + 1 from rfl, run_equalIn_agg w 9999 (45) _ _ hS hp]
  simp only [Program.fieldsOf, Tryd.underlying45]
  have u9 := Tryd.underlying34
  have u8 := Tryd.underlying9
  go_simp
  by_cases h1 : a = d
  · by_cases h2 : b = e <;> by_cases h3 : c = f <;> simp [h1, h2, h3]
  · have h4 : ¬ a.toList = d.toList := fun e => h1 (bytes_of_list e)
    by_cases h2 : b = e <;> by_cases h3 : c = f <;> simp [h1, h2, h3, h4]
theorem run_neqBr (a d : ByteArray) (b c e f : Int) (w : World) : (binOp .neq (45) (.agg #[.string a, .int .u64 b, .int .u64 c]) (.agg #[.string d, .int .u64 e, .int .u64 f])).run Tryd.prog w = .ok (.bool (!decide (a = d ∧ b = e ∧ c = f))) w := by
  rw [run_neq_struct, run_eqBr]; rfl
theorem guardBr : Tryd.prog.eqGuardType Tryd.prog.depth (45) = false := by kernel_rfl

set_option maxRecDepth 100000 in
theorem sameL_any (a a' : Option Addr) (c c' n : Nat) (xs : List Ln) (w : World) (hE : Lns w a xs) (hE' : Lns w a' xs) (hn : xs.length = n) (hn1 : n < 1000000) :
    Calls Tryd.prog (15) #[.slice a n c, .slice a' n c'] w fun e w' => e = .returned (.bool true) ∧ Below w.heap.size w w' := by
  have HE := Lib.hid hE
  have HE' := Lib.hid hE'
  have HN := Lib.hid hn
  have qn := run_neqLn
  have qg := guardLn
  clear hE hE' hn
  go_enter Tryd.func15, Tryd.ntmps15
  go_wp2_with fail
  go_loopg [5] n (fun gk iv wr => ∃ i : Nat, i + gk = n ∧ iv = .int .i64 i ∧ Hid (Below w.heap.size w wr))
  case atStart => exact ⟨0, by omega, rfl, Lib.hid (Below.refl _ _)⟩
  case round =>
    obtain ⟨i, hi, rfl, HB⟩ := hrel
    by_cases hlt : i < n
    · have hil : i < xs.length := by have := HN.out; omega
      obtain ⟨b, o, rfl, hlb, hcx⟩ := HE.out.get i hil
      obtain ⟨b', o', rfl, hlb', hcx'⟩ := HE'.out.get i hil
      generalize xs[i] = x at hcx hcx'
      have g0 := (HB.out.cell (p := ⟨b, _, none⟩) hlb).trans (hcx 0 _ rfl)
      have f0 := (HB.out.cell (p := ⟨b', _, none⟩) hlb').trans (hcx' 0 _ rfl)
      have g1 := (HB.out.cell (p := ⟨b, _, none⟩) hlb).trans (hcx 1 _ rfl)
      have f1 := (HB.out.cell (p := ⟨b', _, none⟩) hlb').trans (hcx' 1 _ rfl)
      simp only [Nat.add_zero] at g0 f0 g1 f1
      have i0 : (0 : Int) ≤ (i : Int) := by omega
      have i1 : (i : Int) < (n : Int) := by omega
      have iw : IntKind.i64.wrap ((i : Int) + 1) = (i : Int) + 1 := IntWalk.i64_in _ (by omega)
      have dq : decide (x.1 = x.1 ∧ x.2 = x.2) = true := by simp
      clear hcx hcx'
      go_wp2_with fail
      go_quiet (fail)
      have HBU := Lib.hid (show Below w.heap.size w (wr.drewN nq) from ⟨HB.out.os, HB.out.tape, HB.out.output, HB.out.size, HB.out.block⟩)
      go_wp2
      go_roundg (gk - 1)
      case measure => omega
      case rel => exact ⟨i + 1, by omega, by go_num, HBU⟩
    · have h1 : ¬ (i : Int) < (n : Int) := by omega
      go_wp2_with fail
      go_ret
      exact ⟨rfl, HB.out⟩

set_option maxRecDepth 100000 in
theorem sameK_any (a a' : Option Addr) (c c' n : Nat) (xs : List (Int × Int)) (w : World) (hE : Lns w a xs) (hE' : Lns w a' xs) (hn : xs.length = n) (hn1 : n < 1000000) :
    Calls Tryd.prog (19) #[.slice a n c, .slice a' n c'] w fun e w' => e = .returned (.bool true) ∧ Below w.heap.size w w' := by
  have HE := Lib.hid hE
  have HE' := Lib.hid hE'
  have HN := Lib.hid hn
  have qn := run_neqLk
  have qg := guardLk
  clear hE hE' hn
  go_enter Tryd.func19, Tryd.ntmps19
  go_wp2_with fail
  go_loopg [5] n (fun gk iv wr => ∃ i : Nat, i + gk = n ∧ iv = .int .i64 i ∧ Hid (Below w.heap.size w wr))
  case atStart => exact ⟨0, by omega, rfl, Lib.hid (Below.refl _ _)⟩
  case round =>
    obtain ⟨i, hi, rfl, HB⟩ := hrel
    by_cases hlt : i < n
    · have hil : i < xs.length := by have := HN.out; omega
      obtain ⟨b, o, rfl, hlb, hcx⟩ := HE.out.get i hil
      obtain ⟨b', o', rfl, hlb', hcx'⟩ := HE'.out.get i hil
      generalize xs[i] = x at hcx hcx'
      have g0 := (HB.out.cell (p := ⟨b, _, none⟩) hlb).trans (hcx 0 _ rfl)
      have f0 := (HB.out.cell (p := ⟨b', _, none⟩) hlb').trans (hcx' 0 _ rfl)
      have g1 := (HB.out.cell (p := ⟨b, _, none⟩) hlb).trans (hcx 1 _ rfl)
      have f1 := (HB.out.cell (p := ⟨b', _, none⟩) hlb').trans (hcx' 1 _ rfl)
      simp only [Nat.add_zero] at g0 f0 g1 f1
      have i0 : (0 : Int) ≤ (i : Int) := by omega
      have i1 : (i : Int) < (n : Int) := by omega
      have iw : IntKind.i64.wrap ((i : Int) + 1) = (i : Int) + 1 := IntWalk.i64_in _ (by omega)
      have dq : decide (x.1 = x.1 ∧ x.2 = x.2) = true := by simp
      clear hcx hcx'
      go_wp2_with fail
      go_quiet (fail)
      have HBU := Lib.hid (show Below w.heap.size w (wr.drewN nq) from ⟨HB.out.os, HB.out.tape, HB.out.output, HB.out.size, HB.out.block⟩)
      go_wp2
      go_roundg (gk - 1)
      case measure => omega
      case rel => exact ⟨i + 1, by omega, by go_num, HBU⟩
    · have h1 : ¬ (i : Int) < (n : Int) := by omega
      go_wp2_with fail
      go_ret
      exact ⟨rfl, HB.out⟩

set_option maxRecDepth 100000 in
theorem sameB_any (a a' : Option Addr) (c c' n : Nat) (xs : List Br) (w : World) (hE : Brs w a xs) (hE' : Brs w a' xs) (hn : xs.length = n) (hn1 : n < 1000000) :
    Calls Tryd.prog (14) #[.slice a n c, .slice a' n c'] w fun e w' => e = .returned (.bool true) ∧ Below w.heap.size w w' := by
  have HE := Lib.hid hE
  have HE' := Lib.hid hE'
  have HN := Lib.hid hn
  have qn := run_neqBr
  have qg := guardBr
  clear hE hE' hn
  go_enter Tryd.func14, Tryd.ntmps14
  go_wp2_with fail
  go_loopg [5] n (fun gk iv wr => ∃ i : Nat, i + gk = n ∧ iv = .int .i64 i ∧ Hid (Below w.heap.size w wr))
  case atStart => exact ⟨0, by omega, rfl, Lib.hid (Below.refl _ _)⟩
  case round =>
    obtain ⟨i, hi, rfl, HB⟩ := hrel
    by_cases hlt : i < n
    · have hil : i < xs.length := by have := HN.out; omega
      obtain ⟨b, o, rfl, hlb, hcx⟩ := HE.out.get i hil
      obtain ⟨b', o', rfl, hlb', hcx'⟩ := HE'.out.get i hil
      generalize xs[i] = x at hcx hcx'
      have g0 := (HB.out.cell (p := ⟨b, _, none⟩) hlb).trans (hcx 0 _ rfl)
      have f0 := (HB.out.cell (p := ⟨b', _, none⟩) hlb').trans (hcx' 0 _ rfl)
      have g1 := (HB.out.cell (p := ⟨b, _, none⟩) hlb).trans (hcx 1 _ rfl)
      have f1 := (HB.out.cell (p := ⟨b', _, none⟩) hlb').trans (hcx' 1 _ rfl)
      have g2 := (HB.out.cell (p := ⟨b, _, none⟩) hlb).trans (hcx 2 _ rfl)
      have f2 := (HB.out.cell (p := ⟨b', _, none⟩) hlb').trans (hcx' 2 _ rfl)
      simp only [Nat.add_zero] at g0 f0 g1 f1 g2 f2
      have i0 : (0 : Int) ≤ (i : Int) := by omega
      have i1 : (i : Int) < (n : Int) := by omega
      have iw : IntKind.i64.wrap ((i : Int) + 1) = (i : Int) + 1 := IntWalk.i64_in _ (by omega)
      have dq : decide (x.1 = x.1 ∧ x.2.1 = x.2.1 ∧ x.2.2 = x.2.2) = true := by simp
      clear hcx hcx'
      go_wp2_with fail
      go_quiet (fail)
      have HBU := Lib.hid (show Below w.heap.size w (wr.drewN nq) from ⟨HB.out.os, HB.out.tape, HB.out.output, HB.out.size, HB.out.block⟩)
      go_wp2
      go_roundg (gk - 1)
      case measure => omega
      case rel => exact ⟨i + 1, by omega, by go_num, HBU⟩
    · have h1 : ¬ (i : Int) < (n : Int) := by omega
      go_wp2_with fail
      go_ret
      exact ⟨rfl, HB.out⟩
end Go.Proofs.YtacibennmcegfaaDoor
