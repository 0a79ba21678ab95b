/- strconv.Itoa of 1 and of 2; the book's sheets. No condition. -/
import Derived.Test.YtenocakpipppiaaGreatDoorRA
namespace Go.Proofs.YtenocakpipppiaaGreatDoor
open Go.RowKit Go.Shelf Go.Herb

theorem infoSheet : (Tryz.prog.info? (85)).map (fun i => (i.zero, i.size, i.bytes)) = some (some (.nilIface), 1, 16) := by kernel_rfl

/-- A book at block b: its sheets lie in rows from block B on. -/
structure BookIs (w : World) (b B : Nat) (ss : List Value) : Prop where
  own : ∃ v, w.heap[b]? = some (.cells #[v] (45) (0, 0)) ∧ w.ownsRow B (85) 1 v ss.length ss
  lt : b < B
  le : B ≤ w.heap.size
theorem BookIs.below {w w' : World} {b B : Nat} {ss : List Value} (h : BookIs w b B ss) (hb : Below w.heap.size w w') : BookIs w' b B ss := by
  obtain ⟨v, h1, h2⟩ := h.own
  exact ⟨⟨v, blk_below h1 hb (lt_of_blk h1), ownsRow_below h2 hb (Nat.le_refl _)⟩, h.lt, Nat.le_trans h.le hb.size⟩

set_option maxHeartbeats 1000000 in
set_option maxRecDepth 100000 in
theorem bookKeep_any (b B : Nat) (ss : List Value) (tt : TypeId) (sv : Value) (w : World) (hB : BookIs w b B ss) (hl : ss.length < 1000) :
    Calls Tryz.prog (37) #[.pointer (some ⟨b, 0, none⟩), .iface tt sv] w fun e w' => (∃ v, e = .returned v) ∧ BookIs w' b B (ss ++ [Value.iface tt sv]) ∧ Below b w w' := by
  obtain ⟨i0, hin, hz0, hz1, hz2⟩ := info_parts infoSheet
  obtain ⟨⟨v, hb, hown⟩, hbB, hle⟩ := hB
  obtain ⟨X, hX⟩ : ∃ X : World, X = w.alloc (.cells #[.iface tt sv] (85)) := ⟨_, rfl⟩
  have hBX : Below w.heap.size w X := by rw [hX]; exact (Below.refl _ _).alloc (Nat.le_refl _) _
  have hX1 : X.heap[w.heap.size]? = some (.cells #[.iface tt sv] (85) (0, 0)) := by rw [hX]; exact blk_new_at rfl _
  obtain ⟨v', w1, hrun, hO, hg, -⟩ := run_append_own (P := Tryz.prog) X B (43) (43) (85) i0 _ 1 16 Tryz.underlying43 hin hz0 hz1 hz2 rfl (by decide) v ss.length ss (ownsRow_below hown hBX (Nat.le_refl _)) ⟨w.heap.size, 0, none⟩ 1 1 [.iface tt sv] rfl (fun j u hj => by
    cases j with
    | zero => rw [addr_add, cell_of_blk hX1]; simpa using hj
    | succ j => simp at hj) (by intro u hu; rw [List.mem_singleton.1 hu]; rfl) (by unfold maxLen; omega) (by omega) (by have := hBX.size; omega)
  obtain ⟨a', n', c', rfl⟩ : ∃ a n c, v' = .slice a n c := by
    obtain ⟨_, ⟨rfl, _⟩ | ⟨g, cap, cur, rfl, _⟩⟩ := hO
    · exact ⟨_, _, _, rfl⟩
    · exact ⟨_, _, _, rfl⟩
  have hnb : ∀ k, v.ownBlock = some k → b < k := fun k hk => by have := (World.ownsRow.lt hown k hk).1; omega
  have hb1 : w1.heap[b]? = some (.cells #[v] (45) (0, 0)) := (hg.block b (by have := hBX.size; have := lt_of_blk hb; omega) (fun e => by have := hnb b e.symm; omega)).trans (blk_below hb hBX (lt_of_blk hb))
  have hb2 := blk_setCell (j := 0) hb1 (.slice a' n' c')
  have hO2 : (w1.setCell ⟨b, 0, none⟩ (.slice a' n' c')).ownsRow B (85) 1 (.slice a' n' c') (ss ++ [Value.iface tt sv]).length (ss ++ [Value.iface tt sv]) := by
    rw [List.length_append]
    exact ownsRow_setCell_below hO (by exact hbB) _
  have hBel : Below b w (w1.setCell ⟨b, 0, none⟩ (.slice a' n' c')) := by
    have h1 : Below b w w1 := (hBX.mono (Nat.le_of_lt (lt_of_blk hb))).grown hg (by have := hBX.size; have := lt_of_blk hb; omega) (fun k e => Nat.le_of_lt (hnb k e))
    exact h1.setCell (Nat.le_refl _) _
  have hsz : B ≤ (w1.setCell ⟨b, 0, none⟩ (.slice a' n' c')).heap.size := by
    have h1 := hg.size
    have h2 := hBX.size
    simp [World.setCell]
    omega
  have c0 := cell_of_blk hb 0
  have d0 := cell_of_blk hb1 0
  have z0 := frozen_of_blk hb1 0
  simp at c0 d0
  rw [hX] at hrun
  have HRUN := Lib.hid hrun
  have HFIN := Lib.hid (⟨⟨_, by simpa using hb2, hO2⟩, hbB, hsz⟩ : BookIs (w1.setCell ⟨b, 0, none⟩ (.slice a' n' c')) b B (ss ++ [Value.iface tt sv]))
  have HBEL := Lib.hid hBel
  clear hin hz0 hz1 hz2 hb hown hX hBX hX1 hrun hO hg hnb hb1 hb2 hO2 hBel hsz
  go_enter Tryz.func37, Tryz.ntmps37
  go_wp2_with (at_builtin; refine Lib.wpList_append_run _ rfl _ _ _ _ rfl _ _ rfl rfl _ _ (HRUN.out) ?_)
  go_end0
  exact ⟨⟨_, rfl⟩, HFIN.out, HBEL.out⟩

theorem small_1 (w : World) : Calls Tryz.prog (93) #[.int .i64 1] w fun e w' => e = .returned (.string ⟨#[49]⟩) ∧ Below w.heap.size w w' := by
  go_enter Tryz.func93, Tryz.ntmps93
  go_wp2
  go_ret
  exact ⟨rfl, Below.refl _ _⟩
set_option maxRecDepth 100000 in
theorem format_1 (w : World) : Calls Tryz.prog (88) #[.int .i64 1, .int .i64 10] w fun e w' => e = .returned (.string ⟨#[49]⟩) ∧ Below w.heap.size w w' := by
  go_enter Tryz.func88, Tryz.ntmps88
  go_wp2_with fail
  refine (small_1 _).mono ?_
  rintro e w1 ⟨rfl, hb⟩
  have HB := Lib.hid hb
  clear hb
  go_wp2
  go_ret
  exact ⟨rfl, HB.out⟩
theorem itoaI_1 (w : World) : Calls Tryz.prog (71) #[.int .i64 1] w fun e w' => e = .returned (.string ⟨#[49]⟩) ∧ Below w.heap.size w w' := by
  go_enter Tryz.func71, Tryz.ntmps71
  go_wp2_with fail
  refine (format_1 _).mono ?_
  rintro e w1 ⟨rfl, hb⟩
  have HB := Lib.hid hb
  clear hb
  go_wp2
  go_ret
  exact ⟨rfl, HB.out⟩
theorem itoa_1 (w : World) : Calls Tryz.prog (53) #[.int .i64 1] w fun e w' => e = .returned (.string ⟨#[49]⟩) ∧ Below w.heap.size w w' := by
  go_enter Tryz.func53, Tryz.ntmps53
  go_wp2_with fail
  refine (itoaI_1 _).mono ?_
  rintro e w1 ⟨rfl, hb⟩
  have HB := Lib.hid hb
  clear hb
  go_wp2
  go_ret
  exact ⟨rfl, HB.out⟩

/-- The mark of sheet 1. -/
def mk1 : Fc := ⟨⟨#[33, 49]⟩, 0, 1, 0, 0, .empty, by decide, by decide, by decide, by decide, by decide⟩
theorem mark_1 (b B : Nat) (ss : List Value) (w : World) (hB : BookIs w b B ss) (hl : ss.length = 0) :
    Calls Tryz.prog (36) #[.pointer (some ⟨b, 0, none⟩)] w fun e w' => e = .returned (.tuple #[.int .u64 1, .string ⟨#[33, 49]⟩]) ∧ Below w.heap.size w w' := by
  obtain ⟨⟨v, hb, hown⟩, hbB, hle⟩ := hB
  obtain ⟨a, c, rfl⟩ : ∃ a c, v = .slice a 0 c := by
    rw [hl] at hown
    obtain ⟨_, ⟨rfl, h0⟩ | ⟨g, cap, cur, rfl, _⟩⟩ := hown
    · exact ⟨_, _, rfl⟩
    · exact ⟨_, _, rfl⟩
  have c0 := cell_of_blk hb 0
  simp at c0
  clear hb hown hle hbB hl
  go_enter Tryz.func36, Tryz.ntmps36
  go_wp2_with fail
  refine (itoa_1 _).mono ?_
  rintro e w1 ⟨rfl, hb⟩
  have HB := Lib.hid hb
  clear hb
  go_wp2
  go_ret2
  exact ⟨rfl, HB.out⟩
set_option maxHeartbeats 1000000 in
theorem bookFacts_1 (b B : Nat) (ss : List Value) (a : Option Addr) (n c : Nat) (w : World) (hB : BookIs w b B ss) (hl : ss.length = 0) :
    Calls Tryz.prog (18) #[.pointer (some ⟨b, 0, none⟩), .slice a n c] w fun e w' => (∃ v, e = .returned v) ∧ BookIs w' b B (ss ++ [.iface (82) (sheetV a n c mk1)]) ∧ Below b w w' := by
  have HB := Lib.hid hB
  have HM := Lib.hid (mark_1 b B ss w hB hl)
  have hbl : b < w.heap.size := Nat.lt_of_lt_of_le hB.lt hB.le
  have hl2 : ss.length < 1000 := by omega
  clear hB hl
  go_enter Tryz.func18, Tryz.ntmps18
  go_wp2_with fail
  refine (HM.out).mono ?_
  rintro e w1 ⟨rfl, hb⟩
  have HB1 := Lib.hid (HB.out.below hb)
  have HBL := Lib.hid (hb.mono (Nat.le_of_lt hbl))
  clear hb HM
  go_wp2_with fail
  refine (bookKeep_any b B ss (82) (sheetV a n c mk1) _ HB1.out hl2).mono ?_
  rintro e w2 ⟨⟨v, rfl⟩, h1, h2⟩
  have H1 := Lib.hid h1
  have H2 := Lib.hid (HBL.out.trans h2)
  clear h1 h2
  go_wp2
  go_end0
  exact ⟨⟨_, rfl⟩, H1.out, H2.out⟩

theorem small_2 (w : World) : Calls Tryz.prog (93) #[.int .i64 2] w fun e w' => e = .returned (.string ⟨#[50]⟩) ∧ Below w.heap.size w w' := by
  go_enter Tryz.func93, Tryz.ntmps93
  go_wp2
  go_ret
  exact ⟨rfl, Below.refl _ _⟩
set_option maxRecDepth 100000 in
theorem format_2 (w : World) : Calls Tryz.prog (88) #[.int .i64 2, .int .i64 10] w fun e w' => e = .returned (.string ⟨#[50]⟩) ∧ Below w.heap.size w w' := by
  go_enter Tryz.func88, Tryz.ntmps88
  go_wp2_with fail
  refine (small_2 _).mono ?_
  rintro e w1 ⟨rfl, hb⟩
  have HB := Lib.hid hb
  clear hb
  go_wp2
  go_ret
  exact ⟨rfl, HB.out⟩
theorem itoaI_2 (w : World) : Calls Tryz.prog (71) #[.int .i64 2] w fun e w' => e = .returned (.string ⟨#[50]⟩) ∧ Below w.heap.size w w' := by
  go_enter Tryz.func71, Tryz.ntmps71
  go_wp2_with fail
  refine (format_2 _).mono ?_
  rintro e w1 ⟨rfl, hb⟩
  have HB := Lib.hid hb
  clear hb
  go_wp2
  go_ret
  exact ⟨rfl, HB.out⟩
theorem itoa_2 (w : World) : Calls Tryz.prog (53) #[.int .i64 2] w fun e w' => e = .returned (.string ⟨#[50]⟩) ∧ Below w.heap.size w w' := by
  go_enter Tryz.func53, Tryz.ntmps53
  go_wp2_with fail
  refine (itoaI_2 _).mono ?_
  rintro e w1 ⟨rfl, hb⟩
  have HB := Lib.hid hb
  clear hb
  go_wp2
  go_ret
  exact ⟨rfl, HB.out⟩

/-- The mark of sheet 2. -/
def mk2 : Fc := ⟨⟨#[33, 50]⟩, 0, 2, 0, 0, .empty, by decide, by decide, by decide, by decide, by decide⟩
theorem mark_2 (b B : Nat) (ss : List Value) (w : World) (hB : BookIs w b B ss) (hl : ss.length = 1) :
    Calls Tryz.prog (36) #[.pointer (some ⟨b, 0, none⟩)] w fun e w' => e = .returned (.tuple #[.int .u64 2, .string ⟨#[33, 50]⟩]) ∧ Below w.heap.size w w' := by
  obtain ⟨⟨v, hb, hown⟩, hbB, hle⟩ := hB
  obtain ⟨a, c, rfl⟩ : ∃ a c, v = .slice a 1 c := by
    rw [hl] at hown
    obtain ⟨_, ⟨rfl, h0⟩ | ⟨g, cap, cur, rfl, _⟩⟩ := hown
    · exact absurd h0 (by decide)
    · exact ⟨_, _, rfl⟩
  have c0 := cell_of_blk hb 0
  simp at c0
  clear hb hown hle hbB hl
  go_enter Tryz.func36, Tryz.ntmps36
  go_wp2_with fail
  refine (itoa_2 _).mono ?_
  rintro e w1 ⟨rfl, hb⟩
  have HB := Lib.hid hb
  clear hb
  go_wp2
  go_ret2
  exact ⟨rfl, HB.out⟩
set_option maxHeartbeats 1000000 in
theorem bookFacts_2 (b B : Nat) (ss : List Value) (a : Option Addr) (n c : Nat) (w : World) (hB : BookIs w b B ss) (hl : ss.length = 1) :
    Calls Tryz.prog (18) #[.pointer (some ⟨b, 0, none⟩), .slice a n c] w fun e w' => (∃ v, e = .returned v) ∧ BookIs w' b B (ss ++ [.iface (82) (sheetV a n c mk2)]) ∧ Below b w w' := by
  have HB := Lib.hid hB
  have HM := Lib.hid (mark_2 b B ss w hB hl)
  have hbl : b < w.heap.size := Nat.lt_of_lt_of_le hB.lt hB.le
  have hl2 : ss.length < 1000 := by omega
  clear hB hl
  go_enter Tryz.func18, Tryz.ntmps18
  go_wp2_with fail
  refine (HM.out).mono ?_
  rintro e w1 ⟨rfl, hb⟩
  have HB1 := Lib.hid (HB.out.below hb)
  have HBL := Lib.hid (hb.mono (Nat.le_of_lt hbl))
  clear hb HM
  go_wp2_with fail
  refine (bookKeep_any b B ss (82) (sheetV a n c mk2) _ HB1.out hl2).mono ?_
  rintro e w2 ⟨⟨v, rfl⟩, h1, h2⟩
  have H1 := Lib.hid h1
  have H2 := Lib.hid (HBL.out.trans h2)
  clear h1 h2
  go_wp2
  go_end0
  exact ⟨⟨_, rfl⟩, H1.out, H2.out⟩
end Go.Proofs.YtenocakpipppiaaGreatDoor
