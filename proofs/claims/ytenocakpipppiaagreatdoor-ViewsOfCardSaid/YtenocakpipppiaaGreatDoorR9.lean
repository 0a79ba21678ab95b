/- Is a copy what it was made of: LeftFacts; TwinFacts. Condition: fewer than 1000 facts. -/
import Derived.Test.YtenocakpipppiaaGreatDoorR8
namespace Go.Proofs.YtenocakpipppiaaGreatDoor
open Go.RowKit Go.Shelf Go.Herb
attribute [local go_sem ↓] Go.wp_at_zero Go.wp_at_succ

set_option maxRecDepth 100000 in
set_option maxHeartbeats 2000000 in
theorem kept_any (m : Fc) (g : Nat) (al : Option Addr) (cl : Nat) (xs : List Fc) (w : World) (hT : Facts w (some ⟨g, 0, none⟩) (xs ++ [m, m])) (hL : Facts w al xs) (hl : xs.length < 1000) :
    Calls Tryz.prog (38) #[.slice (some ⟨g, 0, none⟩) xs.length (xs.length + 2), .slice al xs.length cl, .agg #[.string m.key, .int .u32 m.valid, .int .u64 m.seq, .int .u64 m.line, .int .u8 m.kind, .string m.val]] w fun e w' => e = .returned (.bool true) ∧ Below w.heap.size w w' := by
  have HT := Lib.hid hT
  have HL := Lib.hid hL
  clear hT hL
  have hsl : ∀ W, (Instr.slice (22) (.slice (some ⟨g, 0, none⟩) xs.length (xs.length + 2)) none (some (.int .i64 ((xs.length : Int) + 2))) none).run Tryz.prog W = .ok (.slice (some ⟨g, 0, none⟩) (xs.length + 2) (xs.length + 2)) W := fun W => by
    have h := run_slice_h (P := Tryz.prog) W (22) (some ⟨g, 0, none⟩) xs.length (xs.length + 2) (by kernel_rfl) .i64 (xs.length + 2) (by omega) (by omega)
    rw [h, show Tryz.prog.elem (22) = (50) from by kernel_rfl, Tryz.sizeOf50]
    have e : ((xs.length : Int) + 2).toNat = xs.length + 2 := by omega
    simp [sliced, Result.andThen, Addr.add, e]
  go_enter Tryz.func38, Tryz.ntmps38
  go_wp2_with fail
  go_loopg [8] (xs.length + 2) (fun gk iv wr => ∃ i : Nat, i + gk = xs.length + 2 ∧ iv = .int .i64 i ∧ wr.heap[w.heap.size]? = some (.cells (fc m).toArray (50) (0, 0)) ∧ Below w.heap.size w wr)
  case atStart => exact ⟨0, by omega, rfl, blk_new_at rfl _, (Below.refl _ _).alloc (Nat.le_refl _) _⟩
  case round =>
    obtain ⟨i, hi, rfl, hm, hBi⟩ := hrel
    by_cases hilt : i < xs.length + 2
    · have hLl : (xs ++ [m, m]).length = xs.length + 2 := by simp
      have hi0 : (0 : Int) ≤ (i : Int) := by omega
      have hi1 : (i : Int) < (xs.length : Int) + 2 := by omega
      have HB := Lib.hid hBi
      have HM := Lib.hid hm
      obtain ⟨b2, o2, ha2, hlb2, hcell2⟩ := HT.out.get i (by omega)
      simp only [Option.some.injEq, Addr.mk.injEq, and_true] at ha2
      obtain ⟨rfl, rfl⟩ := ha2
      by_cases hlt : i < xs.length
      · have hxi : (xs ++ [m, m])[i]'(by omega) = xs[i] := List.getElem_append_left hlt
        rw [hxi] at hcell2
        obtain ⟨b, o, rfl, hlb, hcell⟩ := HL.out.get i hlt
        generalize xs[i] = x at *
        have e0 := (hBi.cell (p := ⟨b, _, none⟩) hlb).trans (hcell 0 _ rfl)
        have e1 := (hBi.cell (p := ⟨b, _, none⟩) hlb).trans (hcell 1 _ rfl)
        have e2 := (hBi.cell (p := ⟨b, _, none⟩) hlb).trans (hcell 2 _ rfl)
        have e3 := (hBi.cell (p := ⟨b, _, none⟩) hlb).trans (hcell 3 _ rfl)
        have e4 := (hBi.cell (p := ⟨b, _, none⟩) hlb).trans (hcell 4 _ rfl)
        have e5 := (hBi.cell (p := ⟨b, _, none⟩) hlb).trans (hcell 5 _ rfl)
        have f0 := (hBi.cell (p := ⟨g, _, none⟩) hlb2).trans (hcell2 0 _ rfl)
        have f1 := (hBi.cell (p := ⟨g, _, none⟩) hlb2).trans (hcell2 1 _ rfl)
        have f2 := (hBi.cell (p := ⟨g, _, none⟩) hlb2).trans (hcell2 2 _ rfl)
        have f3 := (hBi.cell (p := ⟨g, _, none⟩) hlb2).trans (hcell2 3 _ rfl)
        have f4 := (hBi.cell (p := ⟨g, _, none⟩) hlb2).trans (hcell2 4 _ rfl)
        have f5 := (hBi.cell (p := ⟨g, _, none⟩) hlb2).trans (hcell2 5 _ rfl)
        simp only [Nat.add_zero, Nat.zero_add] at e0 e1 e2 e3 e4 e5 f0 f1 f2 f3 f4 f5
        have hneq := run_neqF_same x
        have hgt := guardF
        have d1 : decide ((xs.length : Int) ≤ (i : Int)) = false := decide_eq_false (by omega)
        have d2 : decide (xs.length ≤ i) = false := decide_eq_false (by omega)
        clear hcell hcell2 hxi hLl hm hBi
        go_wp2_with fail
        go_quiet (fail)
        clear e0 e1 e2 e3 e4 e5 f0 f1 f2 f3 f4 f5
        go_wp2
        go_roundg (gk - 1)
        case measure => omega
        case rel => exact ⟨i + 1, by omega, by go_num, HM.out, below_drewN HB.out _⟩
      · have hxi : (xs ++ [m, m])[i]'(by omega) = m := by
          rw [List.getElem_append_right (by omega)]
          have : i - xs.length = 0 ∨ i - xs.length = 1 := by omega
          rcases this with h | h <;> simp [h]
        rw [hxi] at hcell2
        have f0 := (hBi.cell (p := ⟨g, _, none⟩) hlb2).trans (hcell2 0 _ rfl)
        have f1 := (hBi.cell (p := ⟨g, _, none⟩) hlb2).trans (hcell2 1 _ rfl)
        have f2 := (hBi.cell (p := ⟨g, _, none⟩) hlb2).trans (hcell2 2 _ rfl)
        have f3 := (hBi.cell (p := ⟨g, _, none⟩) hlb2).trans (hcell2 3 _ rfl)
        have f4 := (hBi.cell (p := ⟨g, _, none⟩) hlb2).trans (hcell2 4 _ rfl)
        have f5 := (hBi.cell (p := ⟨g, _, none⟩) hlb2).trans (hcell2 5 _ rfl)
        simp only [Nat.add_zero, Nat.zero_add] at f0 f1 f2 f3 f4 f5
        have m0 := cell_of_blk hm 0
        have m1 := cell_of_blk hm 1
        have m2 := cell_of_blk hm 2
        have m3 := cell_of_blk hm 3
        have m4 := cell_of_blk hm 4
        have m5 := cell_of_blk hm 5
        simp [fc] at m0 m1 m2 m3 m4 m5
        have hneq := run_neqF_same m
        have hgt := guardF
        have d1 : decide ((xs.length : Int) ≤ (i : Int)) = true := decide_eq_true (by omega)
        have d2 : decide (xs.length ≤ i) = true := decide_eq_true (by omega)
        have d3 : decide (i < xs.length) = false := decide_eq_false (by omega)
        clear hcell2 hxi hLl hm hBi
        go_wp2_with fail
        go_quiet (fail)
        clear m0 m1 m2 m3 m4 m5 f0 f1 f2 f3 f4 f5
        go_wp2
        go_roundg (gk - 1)
        case measure => omega
        case rel => exact ⟨i + 1, by omega, by go_num, HM.out, below_drewN HB.out _⟩
    · have hie : i = xs.length + 2 := by omega
      subst hie
      have HB := Lib.hid hBi
      clear hm hBi
      go_wp2
      go_ret
      exact ⟨rfl, HB.out⟩

/-- The mark of a copy. -/
def twinMk : Fc := ⟨⟨#[63, 33]⟩, 0, 0, 0, 0, .empty, by decide, by decide, by decide, by decide, by decide⟩

set_option maxHeartbeats 1000000 in
theorem twin_any (al : Option Addr) (cl : Nat) (xs : List Fc) (w : World) (hL : Facts w al xs) (hl : xs.length < 1000) :
    Calls Tryz.prog (6) #[.slice al xs.length cl] w (TwinPost xs twinMk w) := by
  have hc := copied_any twinMk al cl xs w hL hl
  have HC := Lib.hid hc
  clear hc hL
  go_enter Tryz.func6, Tryz.ntmps6
  go_wp2_with fail
  refine (HC.out).mono ?_
  rintro e w1 ⟨g, rfl, hg, hR, hB⟩
  have HR := Lib.hid hR
  have HB := Lib.hid hB
  clear hR hB
  go_wp2
  go_ret
  exact ⟨g, rfl, hg, HR.out, HB.out⟩

set_option maxHeartbeats 1000000 in
theorem left_any (g : Nat) (al : Option Addr) (cl : Nat) (xs : List Fc) (w : World) (hT : Facts w (some ⟨g, 0, none⟩) (xs ++ [twinMk, twinMk])) (hL : Facts w al xs) (hl : xs.length < 1000) :
    Calls Tryz.prog (19) #[.slice (some ⟨g, 0, none⟩) xs.length (xs.length + 2), .slice al xs.length cl] w fun e w' => e = .returned (.bool true) ∧ Below w.heap.size w w' := by
  have hc := kept_any twinMk g al cl xs w hT hL hl
  have HC := Lib.hid hc
  clear hc hL hT
  go_enter Tryz.func19, Tryz.ntmps19
  go_wp2_with fail
  refine (HC.out).mono ?_
  rintro e w1 ⟨rfl, hB⟩
  have HB := Lib.hid hB
  clear hB
  go_wp2
  go_ret
  exact ⟨rfl, HB.out⟩
end Go.Proofs.YtenocakpipppiaaGreatDoor
