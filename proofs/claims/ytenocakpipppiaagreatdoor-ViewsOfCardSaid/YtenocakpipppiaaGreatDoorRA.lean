/- A sheet of facts: paint, spill, clean. Condition: fewer than 1000000 facts. -/
import Derived.Test.YtenocakpipppiaaGreatDoorR8
namespace Go.Proofs.YtenocakpipppiaaGreatDoor
open Go.RowKit Go.Shelf Go.Herb
attribute [local go_sem ↓] Go.wp_at_zero Go.wp_at_succ

/-- From lo on, ahead of hi, all is m. -/
def Filled (lo hi : Nat) (m : Fc) (zs ys : List Fc) : Prop := ys.length = zs.length ∧ ∀ q, ys[q]? = if lo ≤ q ∧ q < hi then some m else zs[q]?
theorem Filled.none (lo : Nat) (m : Fc) (zs : List Fc) : Filled lo lo m zs zs := ⟨rfl, fun q => by rw [if_neg (by omega)]⟩
theorem Filled.step {lo i : Nat} {m : Fc} {zs ys : List Fc} (h : Filled lo i m zs ys) (h1 : lo ≤ i) (h2 : i < zs.length) : Filled lo (i + 1) m zs (ys.set i m) := by
  refine ⟨by rw [List.length_set]; exact h.1, fun q => ?_⟩
  by_cases hq : q = i
  · subst hq
    rw [List.getElem?_set_self (by rw [h.1]; exact h2), if_pos (by omega)]
  · rw [List.getElem?_set_ne (fun e => hq e.symm), h.2 q]
    by_cases h3 : lo ≤ q ∧ q < i
    · rw [if_pos h3, if_pos (by omega)]
    · rw [if_neg h3, if_neg (by omega)]

abbrev sheetV (a : Option Addr) (n c : Nat) (m : Fc) : Value := .agg #[.slice a n c, .string m.key, .int .u32 m.valid, .int .u64 m.seq, .int .u64 m.line, .int .u8 m.kind, .string m.val]
def boxS (a : Option Addr) (n c : Nat) (m : Fc) : Array Value := #[.slice a n c, .string m.key, .int .u32 m.valid, .int .u64 m.seq, .int .u64 m.line, .int .u8 m.kind, .string m.val]
def SheetPost (lo hi : Nat) (m : Fc) (g cap : Nat) (zs : List Fc) (w : World) (e : Ending) (w' : World) : Prop :=
  (∃ v, e = .returned v) ∧ ∃ ys, Filled lo hi m zs ys ∧ Row fc 6 (50) w' g cap ys ∧ w.grownBy w' (some g)

theorem box_cells {w : World} {b : Nat} {a : Option Addr} {n c : Nat} {m : Fc} {t : TypeId} (h : w.heap[b]? = some (.cells (boxS a n c m) t (0, 0))) :
    w.cell? ⟨b, 0, none⟩ = some (.slice a n c) ∧ w.cell? ⟨b, 1, none⟩ = some (.string m.key) ∧ w.cell? ⟨b, 2, none⟩ = some (.int .u32 m.valid) ∧ w.cell? ⟨b, 3, none⟩ = some (.int .u64 m.seq) ∧ w.cell? ⟨b, 4, none⟩ = some (.int .u64 m.line) ∧ w.cell? ⟨b, 5, none⟩ = some (.int .u8 m.kind) ∧ w.cell? ⟨b, 6, none⟩ = some (.string m.val) :=
  ⟨cell_of_blk h 0, cell_of_blk h 1, cell_of_blk h 2, cell_of_blk h 3, cell_of_blk h 4, cell_of_blk h 5, cell_of_blk h 6⟩

set_option maxRecDepth 100000 in
set_option maxHeartbeats 2000000 in
theorem paint_any (m : Fc) (g n c cap : Nat) (zs : List Fc) (w : World) (hR : Row fc 6 (50) w g cap zs) (hn : n ≤ zs.length) (hl : zs.length < 1000000) :
    Calls Tryz.prog (120) #[sheetV (some ⟨g, 0, none⟩) n c m] w (SheetPost 0 n m g cap zs w) := by
  have hgl := hR.lt
  have HR := Lib.hid hR
  clear hR
  go_enter Tryz.func120, Tryz.ntmps120
  go_wp2_with fail
  go_loopg [2] n (fun gk iv wr => ∃ (i : Nat) (ys : List Fc), i + gk = n ∧ iv = .int .i64 i ∧ Filled 0 i m zs ys ∧ Row fc 6 (50) wr g cap ys ∧ (∃ t, wr.heap[w.heap.size]? = some (.cells (boxS (some ⟨g, 0, none⟩) n c m) t (0, 0))) ∧ w.grownBy wr (some g))
  case atStart => exact ⟨0, zs, by omega, rfl, Filled.none _ _ _, HR.out.below ((Below.refl _ _).alloc (Nat.le_refl _) _), ⟨_, blk_new_at rfl _⟩, grown_alloc (grown_refl _ _) _⟩
  case round =>
    obtain ⟨i, ys, hi, rfl, hF, hRi, ⟨t, hb⟩, hg⟩ := hrel
    clear HR
    obtain ⟨c0, c1, c2, c3, c4, c5, c6⟩ := box_cells hb
    by_cases hilt : i < n
    · have hyl := hF.1
      have hcap := hRi.le
      have hF2 := hF.step (Nat.zero_le _) (by omega)
      have hR2 := rowF_put hRi i m
      have hG2 := grown_putF hg i m
      have hB2 : (putF wr g i m).heap[w.heap.size]? = some (.cells (boxS (some ⟨g, 0, none⟩) n c m) t (0, 0)) := ((grown_putF (grown_refl wr (some g)) i m).block _ (lt_of_blk hb) (fun e => by injection e with e; omega)).trans hb
      obtain ⟨v0, g0⟩ := rowF_there hRi (i * 6) (by omega)
      obtain ⟨v1, g1⟩ := rowF_there hRi (i * 6 + 1) (by omega)
      obtain ⟨v2, g2⟩ := rowF_there hRi (i * 6 + 2) (by omega)
      obtain ⟨v3, g3⟩ := rowF_there hRi (i * 6 + 3) (by omega)
      obtain ⟨v4, g4⟩ := rowF_there hRi (i * 6 + 4) (by omega)
      obtain ⟨v5, g5⟩ := rowF_there hRi (i * 6 + 5) (by omega)
      have z0 := hRi.frozen (i * 6)
      have z1 := hRi.frozen (i * 6 + 1)
      have z2 := hRi.frozen (i * 6 + 2)
      have z3 := hRi.frozen (i * 6 + 3)
      have z4 := hRi.frozen (i * 6 + 4)
      have z5 := hRi.frozen (i * 6 + 5)
      have HF2 := Lib.hid hF2
      have HR2 := Lib.hid hR2
      have HG2 := Lib.hid hG2
      have HB2 := Lib.hid hB2
      have hi0 : (0 : Int) ≤ (i : Int) := by omega
      have hi1 : (i : Int) < (n : Int) := by omega
      clear hF hF2 hR2 hG2 hB2 hRi hb hg hyl hcap
      go_wp2
      go_roundg (gk - 1)
      case measure => omega
      case rel => exact ⟨i + 1, _, by omega, by go_num, HF2.out, HR2.out, ⟨_, HB2.out⟩, HG2.out⟩
    · have hie : i = n := by omega
      subst hie
      have HF := Lib.hid hF
      have HR := Lib.hid hRi
      have HG := Lib.hid hg
      clear hF hRi hg hb
      go_wp2
      go_end0
      exact ⟨⟨_, rfl⟩, ys, HF.out, HR.out, HG.out⟩

/-- 's[:cap(s)]' of a row. -/
theorem slice_cap {W : World} (g n c : Nat) : (Instr.slice (22) (.slice (some ⟨g, 0, none⟩) n c) none (some (.int .i64 c)) none).run Tryz.prog W = .ok (.slice (some ⟨g, 0, none⟩) c c) W := by
  rw [run_slice_h (P := Tryz.prog) W (22) (some ⟨g, 0, none⟩) n c (by kernel_rfl) .i64 c (by omega) (by omega)]
  rw [show Tryz.prog.elem (22) = (50) from by kernel_rfl, Tryz.sizeOf50]
  simp [sliced, Result.andThen, Addr.add]

set_option maxRecDepth 100000 in
set_option maxHeartbeats 2000000 in
theorem spill_any (m : Fc) (g n c cap : Nat) (zs : List Fc) (w : World) (hR : Row fc 6 (50) w g cap zs) (hn : n ≤ c) (hc : c ≤ zs.length) (hl : zs.length < 1000000) :
    Calls Tryz.prog (121) #[sheetV (some ⟨g, 0, none⟩) n c m] w (SheetPost n c m g cap zs w) := by
  have hgl := hR.lt
  have HR := Lib.hid hR
  have hsl := fun W => slice_cap (W := W) g n c
  clear hR
  go_enter Tryz.func121, Tryz.ntmps121
  go_wp2_with fail
  clear hsl
  go_loopg [3] (c - n) (fun gk iv wr => ∃ (i : Nat) (ys : List Fc), i + gk = c ∧ n ≤ i ∧ iv = .int .i64 i ∧ Filled n i m zs ys ∧ Row fc 6 (50) wr g cap ys ∧ (∃ t, wr.heap[w.heap.size]? = some (.cells (boxS (some ⟨g, 0, none⟩) n c m) t (0, 0))) ∧ w.grownBy wr (some g))
  case atStart => exact ⟨n, zs, by omega, Nat.le_refl _, rfl, Filled.none _ _ _, HR.out.below ((Below.refl _ _).alloc (Nat.le_refl _) _), ⟨_, blk_new_at rfl _⟩, grown_alloc (grown_refl _ _) _⟩
  case round =>
    obtain ⟨i, ys, hi, hni, rfl, hF, hRi, ⟨t, hb⟩, hg⟩ := hrel
    clear HR
    obtain ⟨c0, c1, c2, c3, c4, c5, c6⟩ := box_cells hb
    by_cases hilt : i < c
    · have hyl := hF.1
      have hcap := hRi.le
      have hF2 := hF.step hni (by omega)
      have hR2 := rowF_put hRi i m
      have hG2 := grown_putF hg i m
      have hB2 : (putF wr g i m).heap[w.heap.size]? = some (.cells (boxS (some ⟨g, 0, none⟩) n c m) t (0, 0)) := ((grown_putF (grown_refl wr (some g)) i m).block _ (lt_of_blk hb) (fun e => by injection e with e; omega)).trans hb
      obtain ⟨v0, g0⟩ := rowF_there hRi (i * 6) (by omega)
      obtain ⟨v1, g1⟩ := rowF_there hRi (i * 6 + 1) (by omega)
      obtain ⟨v2, g2⟩ := rowF_there hRi (i * 6 + 2) (by omega)
      obtain ⟨v3, g3⟩ := rowF_there hRi (i * 6 + 3) (by omega)
      obtain ⟨v4, g4⟩ := rowF_there hRi (i * 6 + 4) (by omega)
      obtain ⟨v5, g5⟩ := rowF_there hRi (i * 6 + 5) (by omega)
      have z0 := hRi.frozen (i * 6)
      have z1 := hRi.frozen (i * 6 + 1)
      have z2 := hRi.frozen (i * 6 + 2)
      have z3 := hRi.frozen (i * 6 + 3)
      have z4 := hRi.frozen (i * 6 + 4)
      have z5 := hRi.frozen (i * 6 + 5)
      have HF2 := Lib.hid hF2
      have HR2 := Lib.hid hR2
      have HG2 := Lib.hid hG2
      have HB2 := Lib.hid hB2
      have hi0 : (0 : Int) ≤ (i : Int) := by omega
      have hi1 : (i : Int) < (c : Int) := by omega
      clear hF hF2 hR2 hG2 hB2 hRi hb hg hyl hcap
      go_wp2
      go_roundg (gk - 1)
      case measure => omega
      case rel => exact ⟨i + 1, _, by omega, by omega, by go_num, HF2.out, HR2.out, ⟨_, HB2.out⟩, HG2.out⟩
    · have hie : i = c := by omega
      subst hie
      have HF := Lib.hid hF
      have HR := Lib.hid hRi
      have HG := Lib.hid hg
      clear hF hRi hg hb
      go_wp2
      go_end0
      exact ⟨⟨_, rfl⟩, ys, HF.out, HR.out, HG.out⟩

set_option maxRecDepth 100000 in
set_option maxHeartbeats 2000000 in
theorem clean_any (m : Fc) (g n c cap : Nat) (zs : List Fc) (w : World) (hR : Row fc 6 (50) w g cap zs) (hn : n ≤ c) (hc : c ≤ zs.length) (hl : zs.length < 1000000) (hall : ∀ q, q < c → zs[q]? = some m) :
    Calls Tryz.prog (119) #[sheetV (some ⟨g, 0, none⟩) n c m] w fun e w' => e = .returned (.bool true) ∧ Below w.heap.size w w' := by
  have hgl := hR.lt
  have HE := Lib.hid (hR.els fc_len)
  have HA := Lib.hid hall
  have hsl := fun W => slice_cap (W := W) g n c
  clear hR hall
  go_enter Tryz.func119, Tryz.ntmps119
  go_wp2_with fail
  clear hsl
  go_loopg [4] c (fun gk iv wr => ∃ (i : Nat), i + gk = c ∧ iv = .int .i64 i ∧ (∃ t, wr.heap[w.heap.size]? = some (.cells (boxS (some ⟨g, 0, none⟩) n c m) t (0, 0))) ∧ Below w.heap.size w wr)
  case atStart => exact ⟨0, by omega, rfl, ⟨_, blk_new_at rfl _⟩, (Below.refl _ _).alloc (Nat.le_refl _) _⟩
  case round =>
    obtain ⟨i, hi, rfl, ⟨t, hb⟩, hBi⟩ := hrel
    obtain ⟨c0, c1, c2, c3, c4, c5, c6⟩ := box_cells hb
    by_cases hilt : i < c
    · obtain ⟨b2, o2, ha2, hlb2, hcell2⟩ := HE.out.get i (by omega)
      simp only [Option.some.injEq, Addr.mk.injEq, and_true] at ha2
      obtain ⟨rfl, rfl⟩ := ha2
      have hzi : zs[i] = m := by
        have := HA.out i hilt
        rw [List.getElem?_eq_getElem (by omega)] at this
        injection this
      rw [hzi] at hcell2
      have f0 := (hBi.cell (p := ⟨g, _, none⟩) hlb2).trans (hcell2 0 _ rfl)
      have f1 := (hBi.cell (p := ⟨g, _, none⟩) hlb2).trans (hcell2 1 _ rfl)
      have f2 := (hBi.cell (p := ⟨g, _, none⟩) hlb2).trans (hcell2 2 _ rfl)
      have f3 := (hBi.cell (p := ⟨g, _, none⟩) hlb2).trans (hcell2 3 _ rfl)
      have f4 := (hBi.cell (p := ⟨g, _, none⟩) hlb2).trans (hcell2 4 _ rfl)
      have f5 := (hBi.cell (p := ⟨g, _, none⟩) hlb2).trans (hcell2 5 _ rfl)
      simp only [Nat.add_zero, Nat.zero_add] at f0 f1 f2 f3 f4 f5
      have hneq := run_neqF_same m
      have hgt := guardF
      have HB := Lib.hid hBi
      have HM := Lib.hid hb
      have hi0 : (0 : Int) ≤ (i : Int) := by omega
      have hi1 : (i : Int) < (c : Int) := by omega
      clear hcell2 hzi hb hBi
      go_wp2_with fail
      go_quiet (fail)
      clear c0 c1 c2 c3 c4 c5 c6 f0 f1 f2 f3 f4 f5
      go_wp2
      go_roundg (gk - 1)
      case measure => omega
      case rel => exact ⟨i + 1, by omega, by go_num, ⟨_, HM.out⟩, below_drewN HB.out _⟩
    · have hie : i = c := by omega
      subst hie
      have HB := Lib.hid hBi
      clear hBi hb
      go_wp2
      go_ret
      exact ⟨rfl, HB.out⟩

/-- A sheet of no list. -/
theorem paint_none (m : Fc) (w : World) : Calls Tryz.prog (120) #[sheetV none 0 0 m] w fun e w' => (∃ v, e = .returned v) ∧ Below w.heap.size w w' := by
  go_enter Tryz.func120, Tryz.ntmps120
  go_wp2_with fail
  go_loopg [2] 0 (fun gk iv wr => iv = .int .i64 0 ∧ (∃ t, wr.heap[w.heap.size]? = some (.cells (boxS none 0 0 m) t (0, 0))) ∧ Below w.heap.size w wr)
  case atStart => exact ⟨rfl, ⟨_, blk_new_at rfl _⟩, (Below.refl _ _).alloc (Nat.le_refl _) _⟩
  case round =>
    obtain ⟨rfl, ⟨t, hb⟩, hBi⟩ := hrel
    obtain ⟨c0, c1, c2, c3, c4, c5, c6⟩ := box_cells hb
    have HB := Lib.hid hBi
    clear hBi hb
    go_wp2
    go_end0
    exact ⟨⟨_, rfl⟩, HB.out⟩
theorem spill_none (m : Fc) (w : World) : Calls Tryz.prog (121) #[sheetV none 0 0 m] w fun e w' => (∃ v, e = .returned v) ∧ Below w.heap.size w w' := by
  go_enter Tryz.func121, Tryz.ntmps121
  go_wp2_with fail
  go_loopg [3] 0 (fun gk iv wr => iv = .int .i64 0 ∧ (∃ t, wr.heap[w.heap.size]? = some (.cells (boxS none 0 0 m) t (0, 0))) ∧ Below w.heap.size w wr)
  case atStart => exact ⟨rfl, ⟨_, blk_new_at rfl _⟩, (Below.refl _ _).alloc (Nat.le_refl _) _⟩
  case round =>
    obtain ⟨rfl, ⟨t, hb⟩, hBi⟩ := hrel
    obtain ⟨c0, c1, c2, c3, c4, c5, c6⟩ := box_cells hb
    have HB := Lib.hid hBi
    clear hBi hb
    go_wp2
    go_end0
    exact ⟨⟨_, rfl⟩, HB.out⟩
theorem clean_none (m : Fc) (w : World) : Calls Tryz.prog (119) #[sheetV none 0 0 m] w fun e w' => e = .returned (.bool true) ∧ Below w.heap.size w w' := by
  go_enter Tryz.func119, Tryz.ntmps119
  go_wp2_with fail
  go_loopg [4] 0 (fun gk iv wr => iv = .int .i64 0 ∧ (∃ t, wr.heap[w.heap.size]? = some (.cells (boxS none 0 0 m) t (0, 0))) ∧ Below w.heap.size w wr)
  case atStart => exact ⟨rfl, ⟨_, blk_new_at rfl _⟩, (Below.refl _ _).alloc (Nat.le_refl _) _⟩
  case round =>
    obtain ⟨rfl, ⟨t, hb⟩, hBi⟩ := hrel
    have HB := Lib.hid hBi
    clear hBi hb
    go_wp2
    go_ret
    exact ⟨rfl, HB.out⟩
end Go.Proofs.YtenocakpipppiaaGreatDoor
