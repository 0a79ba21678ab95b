import Derived.Test.YthdjokcjajlnnaaWC
namespace Go.Proofs.Ythdjokcjajlnnaa
open Go.RowKit Go.Herb Go.Fl

theorem run_eqT (x y : T) (w : World) : (Op.equalIn 10000 45 (tv x) (tv y)).run Try.prog w = .ok (x.file == y.file && x.bytes == y.bytes && x.low.toList == y.low.toList && x.high.toList == y.high.toList) w := by
  have hS : Try.prog.underlying 45 = some (.struct (Try.prog.fieldsOf 45)) := by kernel_rfl
  have hp : Try.prog.stoodInHeld 45 = false := by kernel_rfl
  rw [show (10000 : Nat) = 9999 + 1 from rfl, run_equalIn_agg w 9999 45 _ _ hS hp]
  simp only [Program.fieldsOf, Try.underlying45]
  have u22 := Try.underlying22
  have u43 := Try.underlying43
  have u9 := Try.underlying9
  go_simp
  by_cases h1 : x.file = y.file <;> by_cases h2 : x.bytes = y.bytes <;> by_cases h3 : x.low.toList = y.low.toList <;> by_cases h4 : x.high.toList = y.high.toList <;> simp [h1, h2, h3, h4]

theorem guardT : Try.prog.eqGuardType Try.prog.depth 45 = false := by kernel_rfl

theorem run_neqT (x y : T) (w : World) : (binOp .neq 45 (tv x) (tv y)).run Try.prog w = .ok (.bool (!(x.file == y.file && x.bytes == y.bytes && x.low.toList == y.low.toList && x.high.toList == y.high.toList))) w := by
  rw [run_neq_struct, run_eqT]; rfl

theorem run_neqT_same (x : T) (w : World) : (binOp .neq 45 (.agg #[.int .u64 x.file, .int .u32 x.bytes, .string x.low, .string x.high]) (.agg #[.int .u64 x.file, .int .u32 x.bytes, .string x.low, .string x.high])).run Try.prog w = .ok (.bool false) w := by
  have := run_neqT x x w
  simpa using this

set_option maxHeartbeats 400000 in
theorem same_any (l m : Lv) (w : World) (hl : LvOk w l) (hm : LvOk w m) (he : l.ts = m.ts) :
    Calls Try.prog 10 #[sv l, sv m] w fun e w' => e = .returned (.bool true) ∧ Below w.heap.size w w' := by
  obtain ⟨a, c, ts⟩ := l
  obtain ⟨a', c', ts'⟩ := m
  simp only at he
  subst he
  simp only [sv]
  have hlen := hl.len
  simp only at hlen
  have HX := Lib.hid hl.tabs
  have HY := Lib.hid hm.tabs
  clear hl hm
  go_enter Try.func10, Try.ntmps10
  have hne : ((ts.length : Int) != ts.length) = false := by simp
  go_wp2
  go_loopg [5] ts.length (fun gk i wr => ∃ k : Nat, k + gk = ts.length ∧ i = .int .i64 k ∧ Below w.heap.size w wr)
  case atStart => exact ⟨0, by omega, rfl, Below.refl _ _⟩
  case round =>
    obtain ⟨k, hk, rfl, hB⟩ := hrel
    by_cases hlt : k < ts.length
    · obtain ⟨b1, o1, rfl, h1, hc1⟩ := HX.out.get k hlt
      obtain ⟨b2, o2, rfl, h2, hc2⟩ := HY.out.get k hlt
      have f0 := (hB.cell (p := ⟨b1, _, none⟩) h1).trans (hc1 0 _ rfl)
      have f1 := (hB.cell (p := ⟨b1, _, none⟩) h1).trans (hc1 1 _ rfl)
      have f2 := (hB.cell (p := ⟨b1, _, none⟩) h1).trans (hc1 2 _ rfl)
      have f3 := (hB.cell (p := ⟨b1, _, none⟩) h1).trans (hc1 3 _ rfl)
      have g0 := (hB.cell (p := ⟨b2, _, none⟩) h2).trans (hc2 0 _ rfl)
      have g1 := (hB.cell (p := ⟨b2, _, none⟩) h2).trans (hc2 1 _ rfl)
      have g2 := (hB.cell (p := ⟨b2, _, none⟩) h2).trans (hc2 2 _ rfl)
      have g3 := (hB.cell (p := ⟨b2, _, none⟩) h2).trans (hc2 3 _ rfl)
      simp only [Nat.add_zero] at f0 g0
      generalize ts[k] = x at *
      have hneq := run_neqT_same x
      have hgt := guardT
      clear hc1 hc2 HX HY
      go_wp2
      go_quiet (fail)
      go_wp2
      go_roundg (gk - 1)
      case measure => omega
      case rel => exact ⟨k + 1, by omega, by go_num, hB.trans ⟨rfl, rfl, rfl, Nat.le_refl _, fun _ _ => rfl⟩⟩
    · go_wp2
      go_ret
      exact ⟨rfl, hB⟩
end Go.Proofs.Ythdjokcjajlnnaa
