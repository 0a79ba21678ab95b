/- law16.VectorsNone's walk. No condition. -/
import Derived.Test.YtnnpheklgdbohaaOP
import Derived.Deep.RegionHeld3
namespace Go.Proofs.Ytnnpheklgdbohaa
open Go.RowKit Go.Shelf Go.Herb

/-- A pointer to vectors that no call made. -/
def NoneP (w : World) (po : Option Addr) : Prop := po = none ∨ ∃ p, po = some ⟨p, 0, none⟩ ∧ w.heap[p]? = some (.cells #[.map none, .int .i64 0] (60) (0, 0))
theorem NoneP.below {w w' : World} {po : Option Addr} (h : NoneP w po) (hb : Below w.heap.size w w') : NoneP w' po := by
  rcases h with h | ⟨p, h1, h2⟩
  · exact .inl h
  · exact .inr ⟨p, h1, blk_below h2 hb (lt_of_blk h2)⟩
theorem thereNone_any (po : Option Addr) (w : World) (h : NoneP w po) : Calls Try.prog (30) #[.pointer po] w fun e w' => e = .returned (.bool false) ∧ w = w' := by
  rcases h with rfl | ⟨p, rfl, hp⟩
  · go_enter Try.func30, Try.ntmps30
    go_wp2
    go_ret
    exact ⟨rfl, rfl⟩
  · have c1 := cell_of_blk hp 1
    simp at c1
    clear hp
    go_enter Try.func30, Try.ntmps30
    go_wp2
    go_ret
    exact ⟨rfl, rfl⟩
theorem needsNone_any (po : Option Addr) (v : Value) (w : World) (h : NoneP w po) : Calls Try.prog (36) #[.pointer po, v] w fun e w' => e = .returned (.int .i64 2) ∧ w = w' := by
  have H := Lib.hid h
  clear h
  go_enter Try.func36, Try.ntmps36
  go_wp2_with fail
  refine (thereNone_any po w H.out).mono ?_
  rintro e w' ⟨rfl, rfl⟩
  go_wp2
  go_ret
  exact ⟨rfl, rfl⟩
theorem allNone_any (po : Option Addr) (w : World) (h : NoneP w po) : Calls Try.prog (11) #[.pointer po] w fun e w' => e = .returned (.slice none 0 0) ∧ w = w' := by
  have H := Lib.hid h
  clear h
  go_enter Try.func11, Try.ntmps11
  go_wp2_with fail
  refine (thereNone_any po w H.out).mono ?_
  rintro e w' ⟨rfl, rfl⟩
  go_wp2
  go_ret
  exact ⟨rfl, rfl⟩
theorem pointsNone_any (po : Option Addr) (w : World) (h : NoneP w po) : Calls Try.prog (27) #[.pointer po] w fun e w' => e = .returned (.slice none 0 0) ∧ w = w' := by
  have H := Lib.hid h
  clear h
  go_enter Try.func27, Try.ntmps27
  go_wp2_with fail
  refine (thereNone_any po w H.out).mono ?_
  rintro e w' ⟨rfl, rfl⟩
  go_wp2
  go_ret
  exact ⟨rfl, rfl⟩
theorem stepNone_any (po : Option Addr) (line s : Int) (w : World) (h : NoneP w po) : Calls Try.prog (13) #[.pointer po, .int .u64 line, .int .u64 s] w fun e w' => e = .returned (.tuple #[.pointer none, .int .i64 2]) ∧ Below w.heap.size w w' := by
  have hb : Below w.heap.size w (w.alloc (.cells #[.int .u64 line] (29))) := (Below.refl _ _).alloc (Nat.le_refl _) _
  have HN := Lib.hid (fun v => needsNone_any po v _ (h.below hb))
  have HB := Lib.hid hb
  clear h hb
  go_enter Try.func13, Try.ntmps13
  go_wp2_with fail
  refine (HN.out _).mono ?_
  rintro e w' ⟨rfl, rfl⟩
  go_wp2
  go_ret2
  exact ⟨rfl, HB.out⟩
theorem forkNone_any (po : Option Addr) (line fr : Int) (w : World) (h : NoneP w po) : Calls Try.prog (14) #[.pointer po, .int .u64 line, .int .u64 fr] w fun e w' => e = .returned (.tuple #[.pointer none, .int .i64 2]) ∧ Below w.heap.size w w' := by
  have hb : Below w.heap.size w (w.alloc (.cells #[.int .u64 fr] (29))) := (Below.refl _ _).alloc (Nat.le_refl _) _
  have HN := Lib.hid (fun v => needsNone_any po v _ (h.below hb))
  have HB := Lib.hid hb
  clear h hb
  go_enter Try.func14, Try.ntmps14
  go_wp2_with fail
  refine (HN.out _).mono ?_
  rintro e w' ⟨rfl, rfl⟩
  go_wp2
  go_ret2
  exact ⟨rfl, HB.out⟩
theorem mergeNone_any (po : Option Addr) (line ot s : Int) (w : World) (h : NoneP w po) : Calls Try.prog (15) #[.pointer po, .int .u64 line, .int .u64 ot, .int .u64 s] w fun e w' => e = .returned (.tuple #[.pointer none, .int .i64 2]) ∧ Below w.heap.size w w' := by
  have hb : Below w.heap.size w (w.alloc (.cells #[.int .u64 line, .int .u64 ot] (29))) := (Below.refl _ _).alloc (Nat.le_refl _) _
  have HN := Lib.hid (fun v => needsNone_any po v _ (h.below hb))
  have HB := Lib.hid hb
  clear h hb
  go_enter Try.func15, Try.ntmps15
  go_wp2_with fail
  refine (HN.out _).mono ?_
  rintro e w' ⟨rfl, rfl⟩
  go_wp2
  go_ret2
  exact ⟨rfl, HB.out⟩
theorem dropNone_any (po : Option Addr) (line : Int) (w : World) (h : NoneP w po) : Calls Try.prog (25) #[.pointer po, .int .u64 line] w fun e w' => e = .returned (.tuple #[.pointer none, .int .i64 2]) ∧ Below w.heap.size w w' := by
  have hb : Below w.heap.size w (w.alloc (.cells #[.int .u64 line] (29))) := (Below.refl _ _).alloc (Nat.le_refl _) _
  have HN := Lib.hid (fun v => needsNone_any po v _ (h.below hb))
  have HB := Lib.hid hb
  clear h hb
  go_enter Try.func25, Try.ntmps25
  go_wp2_with fail
  refine (HN.out _).mono ?_
  rintro e w' ⟨rfl, rfl⟩
  go_wp2
  go_ret2
  exact ⟨rfl, HB.out⟩
set_option maxRecDepth 100000 in
theorem baseNone_any (po : Option Addr) (a b : Int) (w : World) (h : NoneP w po) : Calls Try.prog (12) #[.pointer po, .int .u64 a, .int .u64 b] w fun e w' => e = .returned (.tuple #[.agg #[.int .u64 0, .int .u64 0], .int .i64 2]) ∧ Below w.heap.size w w' := by
  obtain ⟨W0, hW0⟩ : ∃ W0 : World, W0 = w.alloc (.cells #[.int .u64 0, .int .u64 0] (34)) := ⟨_, rfl⟩
  have hb0 : Below w.heap.size w W0 := by rw [hW0]; exact (Below.refl _ _).alloc (Nat.le_refl _) _
  have hbx0 : W0.heap[w.heap.size]? = some (.cells #[.int .u64 0, .int .u64 0] (34) (0, 0)) := by rw [hW0]; exact blk_new_at rfl _
  obtain ⟨W1, hW1⟩ : ∃ W1 : World, W1 = W0.alloc (.cells #[.int .u64 a, .int .u64 b] (29)) := ⟨_, rfl⟩
  have hb1' : Below W0.heap.size W0 W1 := by rw [hW1]; exact (Below.refl _ _).alloc (Nat.le_refl _) _
  have hb1 : Below w.heap.size w W1 := hb0.trans (hb1'.mono hb0.size)
  have hbx1 := blk_below hbx0 hb1' (lt_of_blk hbx0)
  have HN := Lib.hid (fun v => needsNone_any po v _ (h.below hb1))
  have x0 := cell_of_blk hbx1 0
  have x1 := cell_of_blk hbx1 1
  have f0 := frozen_of_blk hbx1 0
  have f1 := frozen_of_blk hbx1 1
  simp at x0 x1
  have HE : Hid (Below w.heap.size w ((W1.setCell ⟨w.heap.size, 0, none⟩ (.int .u64 0)).setCell ⟨w.heap.size, 1, none⟩ (.int .u64 0))) := Lib.hid (hb1.grown (grown_set (grown_set (grown_refl _ _) _ _) _ _ : W1.grownBy _ (some w.heap.size)) hb1.size (fun k e => by injection e with e; omega))
  rw [hW0] at hW1
  clear h hb0 hbx0 hb1' hb1 hbx1 hW0
  go_enter Try.func12, Try.ntmps12
  go_wp2
  go_step3
  go_wp2_with fail
  rw [← hW1]
  clear hW1
  refine (HN.out _).mono ?_
  rintro e w' ⟨rfl, rfl⟩
  go_wp2
  try rw [Exit.noGoto_ret]
  refine bodyPost_ret (v := .tuple #[.agg #[.int .u64 0, .int .u64 0], .int .i64 2]) ?_ rfl ⟨rfl, HE.out⟩
  simp [results, Try.results12, go_sem, x0, x1]

/-- A zero point, in a box. -/
def BoxN (w : World) (pv : Value) (wx : World) : Prop := ∃ bx, pv = .pointer (some ⟨bx, 0, none⟩) ∧ wx.heap[bx]? = some (.cells #[.int .u64 0, .int .u64 0] (34) (0, 0)) ∧ Below w.heap.size w wx
theorem boxNA {w w5 : World} (hb : Below w.heap.size w w5) : Hid (BoxN w (.pointer (some ⟨w5.heap.size, 0, none⟩)) (w5.alloc (.cells #[.int .u64 0, .int .u64 0] (34)))) := Lib.hid ⟨_, rfl, blk_new_at rfl _, hb.alloc hb.size _⟩
theorem boxNB {w wk w5 : World} (hk : Below w.heap.size w wk) (hb : Below (boxW wk).heap.size (boxW wk) w5) (hu : Below w.heap.size w w5) : Hid (BoxN w (.pointer (some ⟨wk.heap.size, 0, none⟩)) ((w5.setCell ⟨wk.heap.size, 0, none⟩ (.int .u64 0)).setCell ⟨wk.heap.size, 1, none⟩ (.int .u64 0))) := by
  have h2 := blk_setCell (j := 1) (blk_setCell (j := 0) (boxBlk hb) (.int .u64 0)) (.int .u64 0)
  exact Lib.hid ⟨_, rfl, by simpa using h2, bset (bset hu _ _ _ hk.size) _ _ _ hk.size⟩

set_option maxRecDepth 100000 in
set_option maxHeartbeats 4000000 in
theorem none_any (x : Ac) (w : World) :
    Calls Try.prog (7) #[.agg #[.int .u8 x.kind, .int .u64 x.line, .int .u64 x.other, .int .u64 x.n]] w fun e w' => e = .returned (.bool true) ∧ Below w.heap.size w w' := by
  have hneq := run_neqP
  have hgt := guardP
  obtain ⟨W0, hW0⟩ : ∃ W0 : World, W0 = ((w.alloc (.cells #[.int .u8 x.kind, .int .u64 x.line, .int .u64 x.other, .int .u64 x.n] (40))).alloc (.cells #[.map none, .int .i64 0] (60))).alloc (.cells #[.pointer none, .pointer (some ⟨w.heap.size + 1, 0, none⟩)] (24)) := ⟨_, rfl⟩
  have hb0 : Below w.heap.size w W0 := by rw [hW0]; exact ((((Below.refl _ w).alloc (Nat.le_refl _) _).alloc (by simp) _).alloc (by simp; omega) _)
  have hx0 : W0.heap[w.heap.size]? = some (.cells #[.int .u8 x.kind, .int .u64 x.line, .int .u64 x.other, .int .u64 x.n] (40) (0, 0)) := by rw [hW0]; exact blk_alloc (blk_alloc (blk_new_at rfl _))
  have hv0 : W0.heap[w.heap.size + 1]? = some (.cells #[.map none, .int .i64 0] (60) (0, 0)) := by rw [hW0]; exact blk_alloc (blk_new_at (by simp) _)
  obtain ⟨lb, hlb⟩ : ∃ lb, lb = w.heap.size + 1 + 1 := ⟨_, rfl⟩
  have hl0 : W0.heap[lb]? = some (.cells #[.pointer none, .pointer (some ⟨w.heap.size + 1, 0, none⟩)] (24) (0, 0)) := by rw [hW0, hlb]; exact blk_new_at (by simp) _
  have HB0 := Lib.hid hb0
  have HX0 := Lib.hid hx0
  have HV0 := Lib.hid hv0
  have HL0 := Lib.hid hl0
  clear hb0 hx0 hv0 hl0
  go_enter Try.func7, Try.ntmps7
  go_wp2_with fail
  rw [← hW0, ← hlb]
  clear hW0 hlb
  go_loopg [4] 2 (fun gk iv wr => ∃ i : Nat, i + gk = 2 ∧ iv = .int .i64 i ∧ Below W0.heap.size W0 wr)
  case atStart => exact ⟨0, by omega, rfl, Below.refl _ _⟩
  case round =>
    obtain ⟨i, hi, rfl, hbw⟩ := hrel
    have HBW := Lib.hid hbw
    have hl := blk_below HL0.out hbw (lt_of_blk HL0.out)
    have hx := blk_below HX0.out hbw (lt_of_blk HX0.out)
    have hv := blk_below HV0.out hbw (lt_of_blk HV0.out)
    by_cases hlt : i < 2
    · have hpo : ∃ po, wr.cell? ⟨lb, i, none⟩ = some (.pointer po) ∧ NoneP wr po := by
        have h01 : i = 0 ∨ i = 1 := by omega
        rcases h01 with rfl | rfl
        · exact ⟨none, by have := cell_of_blk hl 0; simpa using this, .inl rfl⟩
        · exact ⟨some ⟨w.heap.size + 1, 0, none⟩, by have := cell_of_blk hl 1; simpa using this, .inr ⟨_, rfl, hv⟩⟩
      obtain ⟨po, hpc, hpn⟩ := hpo
      have hlbl := lt_of_blk hl
      have hxbl := lt_of_blk hx
      have HSA : Hid (∀ u : World, Below wr.heap.size wr u → u.cell? ⟨lb, i, none⟩ = some (.pointer po) ∧ u.cell? ⟨w.heap.size, 1, none⟩ = some (.int .u64 x.line) ∧ u.cell? ⟨w.heap.size, 2, none⟩ = some (.int .u64 x.other) ∧ u.cell? ⟨w.heap.size, 3, none⟩ = some (.int .u64 x.n)) := Lib.hid (fun u hu => ⟨(hu.cell (p := ⟨lb, i, none⟩) hlbl).trans hpc, by have := cell_of_blk (blk_below hx hu hxbl) 1; simpa using this, by have := cell_of_blk (blk_below hx hu hxbl) 2; simpa using this, by have := cell_of_blk (blk_below hx hu hxbl) 3; simpa using this⟩)
      have HC1 : Hid (∀ u : World, Below wr.heap.size wr u → _) := Lib.hid (fun u hu => stepNone_any po x.line x.n u (hpn.below hu))
      have HC2 : Hid (∀ u : World, Below wr.heap.size wr u → _) := Lib.hid (fun u hu => forkNone_any po x.line x.other u (hpn.below hu))
      have HC3 : Hid (∀ u : World, Below wr.heap.size wr u → _) := Lib.hid (fun u hu => mergeNone_any po x.line x.other x.n u (hpn.below hu))
      have HC4 : Hid (∀ u : World, Below wr.heap.size wr u → _) := Lib.hid (fun u hu => dropNone_any po x.line u (hpn.below hu))
      have HC5 : Hid (∀ u : World, Below wr.heap.size wr u → _) := Lib.hid (fun u hu => baseNone_any po x.line x.other u (hpn.below hu))
      have HC6 : Hid (∀ u : World, Below wr.heap.size wr u → _) := Lib.hid (fun u hu => allNone_any po u (hpn.below hu))
      have HC7 : Hid (∀ u : World, Below wr.heap.size wr u → _) := Lib.hid (fun u hu => pointsNone_any po u (hpn.below hu))
      have HBK0 := Lib.hid (Below.refl wr.heap.size wr)
      have hi0 : (0 : Int) ≤ (i : Int) := by omega
      have hi2 : (i : Int) < 2 := by omega
      clear hpc hpn hl hx hv hbw
      have HD0 := Lib.hid (HBK0.out.drew)
      go_upto_region 5 with (fail)
      go_cut [5, 6] (fun pv ev wx => pv = .pointer none ∧ ev = .int .i64 2 ∧ Below wr.heap.size wr wx)
      case first =>
        go_wp2_with fail
        go_region_held3 (fun u => u.cell? ⟨lb, i, none⟩ = some (.pointer po) ∧ u.cell? ⟨w.heap.size, 1, none⟩ = some (.int .u64 x.line) ∧ u.cell? ⟨w.heap.size, 2, none⟩ = some (.int .u64 x.other) ∧ u.cell? ⟨w.heap.size, 3, none⟩ = some (.int .u64 x.n)) (first | exact HSA.out _ HD0.out | exact HSA.out _ hbu | go_keep) (first | (go_at_call 13; (with_reducible refine (HC1.out _ HD0.out).mono ?_); rintro e w5 ⟨rfl, hb5⟩; have hbu := HD0.out.trans (hb5.mono HD0.out.size); have hS5 := HSA.out _ hbu))
        all_goals
          go_wp2
          go_meet
          exact ⟨rfl, rfl, by assumption⟩
      case rest =>
      obtain ⟨rfl, rfl, hbk⟩ := hcut
      obtain ⟨wk0, rfl⟩ : ∃ wk : World, wk = wc := ⟨_, rfl⟩
      have HBK1 := Lib.hid hbk
      clear hbk HD0
      have HD1 := Lib.hid (HBK1.out.drew)
      go_upto_region 6 with (fail)
      go_cut [7, 8] (fun pv ev wx => pv = .pointer none ∧ ev = .int .i64 2 ∧ Below wr.heap.size wr wx)
      case first =>
        go_wp2_with fail
        go_region_held3 (fun u => u.cell? ⟨lb, i, none⟩ = some (.pointer po) ∧ u.cell? ⟨w.heap.size, 1, none⟩ = some (.int .u64 x.line) ∧ u.cell? ⟨w.heap.size, 2, none⟩ = some (.int .u64 x.other) ∧ u.cell? ⟨w.heap.size, 3, none⟩ = some (.int .u64 x.n)) (first | exact HSA.out _ HD1.out | exact HSA.out _ hbu | go_keep) (first | (go_at_call 14; (with_reducible refine (HC2.out _ HD1.out).mono ?_); rintro e w5 ⟨rfl, hb5⟩; have hbu := HD1.out.trans (hb5.mono HD1.out.size); have hS5 := HSA.out _ hbu))
        all_goals
          go_wp2
          go_meet
          exact ⟨rfl, rfl, by assumption⟩
      case rest =>
      obtain ⟨rfl, rfl, hbk⟩ := hcut
      obtain ⟨wk1, rfl⟩ : ∃ wk : World, wk = wc := ⟨_, rfl⟩
      have HBK2 := Lib.hid hbk
      clear hbk HD1
      have HD2 := Lib.hid (HBK2.out.drew)
      go_upto_region 7 with (fail)
      go_cut [9, 10] (fun pv ev wx => pv = .pointer none ∧ ev = .int .i64 2 ∧ Below wr.heap.size wr wx)
      case first =>
        go_wp2_with fail
        go_region_held3 (fun u => u.cell? ⟨lb, i, none⟩ = some (.pointer po) ∧ u.cell? ⟨w.heap.size, 1, none⟩ = some (.int .u64 x.line) ∧ u.cell? ⟨w.heap.size, 2, none⟩ = some (.int .u64 x.other) ∧ u.cell? ⟨w.heap.size, 3, none⟩ = some (.int .u64 x.n)) (first | exact HSA.out _ HD2.out | exact HSA.out _ hbu | go_keep) (first | (go_at_call 15; (with_reducible refine (HC3.out _ HD2.out).mono ?_); rintro e w5 ⟨rfl, hb5⟩; have hbu := HD2.out.trans (hb5.mono HD2.out.size); have hS5 := HSA.out _ hbu))
        all_goals
          go_wp2
          go_meet
          exact ⟨rfl, rfl, by assumption⟩
      case rest =>
      obtain ⟨rfl, rfl, hbk⟩ := hcut
      obtain ⟨wk2, rfl⟩ : ∃ wk : World, wk = wc := ⟨_, rfl⟩
      have HBK3 := Lib.hid hbk
      clear hbk HD2
      have HD3 := Lib.hid (HBK3.out.drew)
      go_upto_region 8 with (fail)
      go_cut [11, 12] (fun pv ev wx => pv = .pointer none ∧ ev = .int .i64 2 ∧ Below wr.heap.size wr wx)
      case first =>
        go_wp2_with fail
        go_region_held3 (fun u => u.cell? ⟨lb, i, none⟩ = some (.pointer po) ∧ u.cell? ⟨w.heap.size, 1, none⟩ = some (.int .u64 x.line) ∧ u.cell? ⟨w.heap.size, 2, none⟩ = some (.int .u64 x.other) ∧ u.cell? ⟨w.heap.size, 3, none⟩ = some (.int .u64 x.n)) (first | exact HSA.out _ HD3.out | exact HSA.out _ hbu | go_keep) (first | (go_at_call 25; (with_reducible refine (HC4.out _ HD3.out).mono ?_); rintro e w5 ⟨rfl, hb5⟩; have hbu := HD3.out.trans (hb5.mono HD3.out.size); have hS5 := HSA.out _ hbu))
        all_goals
          go_wp2
          go_meet
          exact ⟨rfl, rfl, by assumption⟩
      case rest =>
      obtain ⟨rfl, rfl, hbk⟩ := hcut
      obtain ⟨wk3, rfl⟩ : ∃ wk : World, wk = wc := ⟨_, rfl⟩
      have HBK4 := Lib.hid hbk
      clear hbk HD3
      have HD4 := Lib.hid (HBK4.out.drew)
      have HDB := Lib.hid (HBK4.out.trans ((boxW_below wk3).mono HBK4.out.size))
      go_upto_region 9 with (fail)
      go_cut [13, 14] (fun pv ev wx => BoxN wr pv wx ∧ ev = .int .i64 2)
      case first =>
        go_wp2_with fail
        go_region_held3 (fun u => u.cell? ⟨lb, i, none⟩ = some (.pointer po) ∧ u.cell? ⟨w.heap.size, 1, none⟩ = some (.int .u64 x.line) ∧ u.cell? ⟨w.heap.size, 2, none⟩ = some (.int .u64 x.other) ∧ u.cell? ⟨w.heap.size, 3, none⟩ = some (.int .u64 x.n)) (first | exact HSA.out _ HD4.out | exact HSA.out _ HDB.out | exact HSA.out _ hbu | exact HSA.out _ (bset hbu _ _ _ HBK4.out.size) | exact HSA.out _ (bset (bset hbu _ _ _ HBK4.out.size) _ _ _ HBK4.out.size) | exact HSA.out _ (hbu.alloc hbu.size _) | exact HSA.out _ (bset (hbu.alloc hbu.size _) _ _ _ hbu.size) | go_keep) (first | (go_at_call 12; (with_reducible refine (HC5.out _ HD4.out).mono ?_); rintro e w5 ⟨rfl, hb5⟩; have hbu := HD4.out.trans (hb5.mono HD4.out.size); have hS5 := HSA.out _ hbu; have FA := boxNA hbu; clear hb5) | (go_at_call 12; (with_reducible refine (HC5.out _ HDB.out).mono ?_); rintro e w5 ⟨rfl, hb5⟩; have hbu := HDB.out.trans (hb5.mono HDB.out.size); have hS5 := HSA.out _ hbu; have FA := boxNB HBK4.out hb5 hbu; obtain ⟨g0, g1, g2, g3⟩ := boxCells hb5; clear hb5))
        all_goals
          go_wp2
          go_meet
          exact ⟨FA.out, rfl⟩
      case rest =>
      obtain ⟨⟨bx, rfl, hbx, hbk⟩, rfl⟩ := hcut
      obtain ⟨wk4, rfl⟩ : ∃ wk : World, wk = wc := ⟨_, rfl⟩
      have HBK5 := Lib.hid hbk
      have z0 := cell_of_blk hbx 0
      have z1 := cell_of_blk hbx 1
      simp at z0 z1
      obtain ⟨y0, y1, y2, y3⟩ := HSA.out _ HBK5.out
      clear hbk hbx HD4 HDB
      go_wp2_with fail
      refine (HC6.out _ HBK5.out).mono ?_
      rintro e w' ⟨rfl, rfl⟩
      go_wp2_with fail
      refine (HC7.out _ HBK5.out).mono ?_
      rintro e w' ⟨rfl, rfl⟩
      go_wp2_with fail
      go_roundg (gk - 1)
      case measure => omega
      case rel => exact ⟨i + 1, by omega, by go_num, HBW.out.trans (HBK5.out.mono HBW.out.size)⟩
    · go_wp2_with fail
      refine (lives_any wr).mono ?_
      rintro e w5 ⟨rfl, hb5⟩
      have HB5 := Lib.hid (HB0.out.trans ((HBW.out.trans (hb5.mono HBW.out.size)).mono HB0.out.size))
      clear hb5
      go_wp2
      go_ret
      exact ⟨rfl, HB5.out⟩
end Go.Proofs.Ytnnpheklgdbohaa
