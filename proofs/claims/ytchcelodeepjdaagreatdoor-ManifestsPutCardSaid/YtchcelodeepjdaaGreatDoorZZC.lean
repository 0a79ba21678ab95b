/- herbariumlaw01's book of two sheets of bytes. Condition: fewer than 1000000 bytes. · slices.SortFunc at shelves, by their lines. Condition: fewer than 1000000 shelves. · manifests: reading.edited. Condition: fewer than 1000000 bytes, shelves. · manifests.one of an edit. Condition: fewer than 500000 bytes, a root before it that weighs at most 400000. · A good root's record, read back: OneIs; edits' numbers. No condition. -/
import Derived.Test.YtchcelodeepjdaaGreatDoorZZt
import Derived.Test.YtchcelodeepjdaaGreatDoorZU
import Derived.Deep.DrawnRows
import Derived.Test.YtchcelodeepjdaaGreatDoorZZs
import Derived.Test.YtchcelodeepjdaaGreatDoorMp
import Derived.Shelf.SlSortCmp.InsertionK
import Derived.Test.YtchcelodeepjdaaGreatDoorOA
import Derived.Shelf.SlSortCmp.WholeK
import Derived.Sort.Grow
import Derived.Sort.Walk0
import Derived.Test.YtchcelodeepjdaaGreatDoorZZq
import Derived.Test.YtchcelodeepjdaaGreatDoorZZ
import Derived.Test.YtchcelodeepjdaaGreatDoorZZu
namespace Go.Proofs.YtchcelodeepjdaaGreatDoor.Ln
open Go.RowKit Go.Shelf Go.Herb
attribute [local go_sem ↓] Go.wp_at_zero Go.wp_at_succ

abbrev sheetV (a : Option Addr) (n : Nat) (m : Int) : Value := .agg #[.slice a n n, .int .u8 m]
def boxS (a : Option Addr) (n : Nat) (m : Int) : Array Value := #[.slice a n n, .int .u8 m]
theorem box_cells {w : World} {b : Nat} {a : Option Addr} {n : Nat} {m : Int} {t : TypeId} (h : w.heap[b]? = some (.cells (boxS a n m) t (0, 0))) : w.cell? ⟨b, 0, none⟩ = some (.slice a n n) ∧ w.cell? ⟨b, 1, none⟩ = some (.int .u8 m) := ⟨cell_of_blk h 0, cell_of_blk h 1⟩
theorem byt_kept2 {u u' : World} {g o : Nat} {ys : List Int} (h : Byt u (some ⟨g, o, none⟩) ys) (hk : u'.heap[g]? = u.heap[g]?) : Byt u' (some ⟨g, o, none⟩) ys := ⟨fun i hi => by
  obtain ⟨b, o', h1, h2, h3⟩ := h.get i hi
  cases h1
  refine ⟨g, o, rfl, ?_, fun j c hj => ?_⟩
  · rw [Array.getElem?_eq_getElem h2] at hk
    exact lt_of_blk hk
  · rw [← h3 j c hj]
    unfold World.cell?
    simp only [hk]⟩
/-- A sheet's bytes in a block. -/
structure ShR (w : World) (g o n : Nat) (zs : List Int) : Prop where
  byt : Byt w (some ⟨g, o, none⟩) zs
  len : zs.length = n
  blk : ∃ cs, w.heap[g]? = some (.cells cs (5) (0, 0))
theorem ShR.same {w w' : World} {g o n : Nat} {zs : List Int} (h : ShR w g o n zs) (hb : w'.heap[g]? = w.heap[g]?) : ShR w' g o n zs := by
  obtain ⟨cs, h1⟩ := h.blk
  exact ⟨byt_kept2 h.byt hb, h.len, cs, hb.trans h1⟩
theorem ShR.set {w : World} {g o n : Nat} {zs : List Int} (h : ShR w g o n zs) (i : Nat) (hi : i < n) (m : Int) : ShR (w.setCell ⟨g, o + i, none⟩ (.int .u8 m)) g o n (zs.set i m) := by
  obtain ⟨cs, h1⟩ := h.blk
  have hsz : o + i < cs.size := by
    obtain ⟨b, o', e, -, hc⟩ := h.byt.get i (by rw [h.len]; exact hi)
    cases e
    have h2 := hc 0 _ rfl
    simp only [Nat.mul_one, Nat.add_zero] at h2
    have h3 : w.cell? ⟨g, o + i, none⟩ = cs[o + i]? := cell_of_blk h1 (o + i)
    rw [h3] at h2
    rcases Nat.lt_or_ge (o + i) cs.size with h | h
    · exact h
    · rw [Array.getElem?_eq_none h] at h2; cases h2
  exact ⟨byt_set h.byt i (by rw [h.len]; exact hi) m h1 rfl hsz, by rw [List.length_set]; exact h.len, _, blk_setCell h1 _⟩
def Full (n : Nat) (m : Int) (zs : List Int) : Prop := ∀ q, q < n → zs[q]? = some m
set_option maxRecDepth 100000 in
set_option maxHeartbeats 2000000 in
theorem paint_any (m : Int) (g o n : Nat) (zs : List Int) (w : World) (hR : ShR w g o n zs) (hl : n < 1000000) :
    Calls Tryz.prog (196) #[sheetV (some ⟨g, o, none⟩) n m] w (fun e w' => (∃ v, e = .returned v) ∧ ∃ ys, Full n m ys ∧ ShR w' g o n ys ∧ w.grownBy w' (some g)) := by
  have hgl : g < w.heap.size := by obtain ⟨cs, h⟩ := hR.blk; exact lt_of_blk h
  have HR := Lib.hid hR
  clear hR
  go_enter Tryz.func196, Tryz.ntmps196
  go_wp2_with fail
  go_loopg [2] n (fun gk iv wr => ∃ (i : Nat) (ys : List Int), i + gk = n ∧ iv = .int .i64 i ∧ Full i m ys ∧ ShR wr g o n ys ∧ (∃ t, wr.heap[w.heap.size]? = some (.cells (boxS (some ⟨g, o, none⟩) n m) t (0, 0))) ∧ w.grownBy wr (some g))
  case atStart => exact ⟨0, zs, by omega, rfl, (fun q hq => by omega), HR.out.same (((Below.refl _ _).alloc (Nat.le_refl _) _).block _ hgl), ⟨_, blk_new_at rfl _⟩, grown_alloc (grown_refl _ _) _⟩
  case round =>
    obtain ⟨i, ys, hi, rfl, hF, hRi, ⟨t, hb⟩, hg⟩ := hrel
    clear HR
    obtain ⟨c0, c1⟩ := box_cells hb
    by_cases hilt : i < n
    · have hF2 : Full (i + 1) m (ys.set i m) := fun q hq => by
        by_cases e : q = i
        · rw [e, List.getElem?_set_self (by rw [hRi.len]; exact hilt)]
        · rw [List.getElem?_set_ne (fun e2 => e e2.symm)]; exact hF q (by omega)
      have hR2 := hRi.set i hilt m
      have hG2 := grown_set hg (o + i) (.int .u8 m)
      have hB2 : (wr.setCell ⟨g, o + i, none⟩ (.int .u8 m)).heap[w.heap.size]? = some (.cells (boxS (some ⟨g, o, none⟩) n m) t (0, 0)) := blk_setCell_other (a := ⟨g, o + i, none⟩) hb (show w.heap.size ≠ g by omega) _
      have hiy : i < ys.length := by rw [hRi.len]; exact hilt
      obtain ⟨b2, o2, e2, -, hcx⟩ := hRi.byt.get i hiy
      cases e2
      generalize ys[i] = yy at hcx
      clear hiy
      have g0 := hcx 0 _ rfl
      simp only [Nat.mul_one, Nat.add_zero] at g0
      have z0 : wr.frozen? ⟨g, o + i, none⟩ = false := by obtain ⟨cs, h⟩ := hRi.blk; exact frozen_of_blk h (o + i)
      have HF2 := Lib.hid hF2
      have HR2 := Lib.hid hR2
      have HG2 := Lib.hid hG2
      have HB2 := Lib.hid hB2
      have hi0 : (0 : Int) ≤ (i : Int) := by omega
      have hi1 : (i : Int) < (n : Int) := by omega
      have hw1 : IntKind.i64.wrap ((i : Int) + 1) = (i : Int) + 1 := IntWalk.i64_in _ (by omega)
      clear hF hF2 hR2 hG2 hB2 hRi hb hg hcx
      go_wp2
      go_roundg (gk - 1)
      case measure => omega
      case rel => exact ⟨i + 1, _, by omega, by go_num, HF2.out, HR2.out, ⟨_, HB2.out⟩, HG2.out⟩
    · have hie : i = n := by omega
      subst hie
      have HF := Lib.hid hF
      have HR := Lib.hid hRi
      have HG := Lib.hid hg
      clear hF hRi hg hb
      go_wp2
      go_end0
      exact ⟨⟨_, rfl⟩, ys, HF.out, HR.out, HG.out⟩
theorem slice_capB {W : World} (g o n : Nat) : (Instr.slice (24) (.slice (some ⟨g, o, none⟩) n n) none (some (.int .i64 n)) none).run Tryz.prog W = .ok (.slice (some ⟨g, o, none⟩) n n) W := by
  rw [run_slice_h (P := Tryz.prog) W (24) (some ⟨g, o, none⟩) n n (by kernel_rfl) .i64 n (by omega) (by omega)]
  rw [show Tryz.prog.elem (24) = (5) from by kernel_rfl, Tryz.sizeOf5]
  by_cases h : n = 0
  · subst h; simp [sliced, Result.andThen, Addr.add]
  · simp [sliced, Result.andThen, Addr.add]
set_option maxRecDepth 100000 in
set_option maxHeartbeats 2000000 in
theorem spill_any (m : Int) (g o n : Nat) (w : World) (hgl : g < w.heap.size) :
    Calls Tryz.prog (197) #[sheetV (some ⟨g, o, none⟩) n m] w (fun e w' => (∃ v, e = .returned v) ∧ Below w.heap.size w w') := by
  have hsl := fun W => slice_capB (W := W) g o n
  have HB := Lib.hid (Below.refl w.heap.size w)
  go_enter Tryz.func197, Tryz.ntmps197
  go_wp2_with fail
  clear hsl
  go_loopg [3] 0 (fun gk iv wr => iv = .int .i64 n ∧ Below w.heap.size w wr)
  case atStart => exact ⟨rfl, HB.out.alloc (Nat.le_refl _) _⟩
  case round =>
    obtain ⟨rfl, hBi⟩ := hrel
    have HB2 := Lib.hid hBi
    clear hBi
    go_wp2
    go_end0
    exact ⟨⟨_, rfl⟩, HB2.out⟩
set_option maxRecDepth 100000 in
set_option maxHeartbeats 2000000 in
theorem clean_any (m : Int) (g o n : Nat) (zs : List Int) (w : World) (hR : ShR w g o n zs) (hl : n < 1000000) (hall : Full n m zs) :
    Calls Tryz.prog (195) #[sheetV (some ⟨g, o, none⟩) n m] w fun e w' => e = .returned (.bool true) ∧ Below w.heap.size w w' := by
  have HE := Lib.hid hR
  have HA := Lib.hid hall
  have hsl := fun W => slice_capB (W := W) g o n
  clear hR hall
  go_enter Tryz.func195, Tryz.ntmps195
  go_wp2_with fail
  clear hsl
  go_loopg [4] n (fun gk iv wr => ∃ (i : Nat), i + gk = n ∧ iv = .int .i64 i ∧ (∃ t, wr.heap[w.heap.size]? = some (.cells (boxS (some ⟨g, o, none⟩) n m) t (0, 0))) ∧ Below w.heap.size w wr)
  case atStart => exact ⟨0, by omega, rfl, ⟨_, blk_new_at rfl _⟩, (Below.refl _ _).alloc (Nat.le_refl _) _⟩
  case round =>
    obtain ⟨i, hi, rfl, ⟨t, hb⟩, hBi⟩ := hrel
    obtain ⟨c0, c1⟩ := box_cells hb
    by_cases hilt : i < n
    · have hil : i < zs.length := by have := HE.out.len; omega
      obtain ⟨b2, o2, ha2, hlb2, hcell2⟩ := HE.out.byt.get i hil
      cases ha2
      have hzi : zs[i] = m := by
        have := HA.out i hilt
        rw [List.getElem?_eq_getElem hil] at this
        injection this
      rw [hzi] at hcell2
      have f0 := (hBi.cell (p := ⟨g, _, none⟩) hlb2).trans (hcell2 0 _ rfl)
      simp only [Nat.mul_one, Nat.add_zero] at f0
      have HB := Lib.hid hBi
      have HM := Lib.hid hb
      have hi0 : (0 : Int) ≤ (i : Int) := by omega
      have hi1 : (i : Int) < (n : Int) := by omega
      have hw1 : IntKind.i64.wrap ((i : Int) + 1) = (i : Int) + 1 := IntWalk.i64_in _ (by omega)
      clear hcell2 hzi hb hBi
      go_wp2_with fail
      go_quiet (fail)
      clear c0 c1 f0
      go_wp2
      go_roundg (gk - 1)
      case measure => omega
      case rel => exact ⟨i + 1, by omega, by go_num, ⟨_, HM.out⟩, below_drewN HB.out _⟩
    · have hie : i = n := by omega
      subst hie
      have HB := Lib.hid hBi
      clear hBi hb
      go_wp2
      go_ret
      exact ⟨rfl, HB.out⟩
/-- A sheet of no list. -/
theorem paint_none (m : Int) (w : World) : Calls Tryz.prog (196) #[sheetV none 0 m] w fun e w' => (∃ v, e = .returned v) ∧ Below w.heap.size w w' := by
  go_enter Tryz.func196, Tryz.ntmps196
  go_wp2_with fail
  go_loopg [2] 0 (fun gk iv wr => iv = .int .i64 0 ∧ (∃ t, wr.heap[w.heap.size]? = some (.cells (boxS none 0 m) t (0, 0))) ∧ Below w.heap.size w wr)
  case atStart => exact ⟨rfl, ⟨_, blk_new_at rfl _⟩, (Below.refl _ _).alloc (Nat.le_refl _) _⟩
  case round =>
    obtain ⟨rfl, ⟨t, hb⟩, hBi⟩ := hrel
    obtain ⟨c0, c1⟩ := box_cells hb
    have HB := Lib.hid hBi
    clear hBi hb
    go_wp2
    go_end0
    exact ⟨⟨_, rfl⟩, HB.out⟩
theorem spill_none (m : Int) (w : World) : Calls Tryz.prog (197) #[sheetV none 0 m] w fun e w' => (∃ v, e = .returned v) ∧ Below w.heap.size w w' := by
  go_enter Tryz.func197, Tryz.ntmps197
  go_wp2_with fail
  go_loopg [3] 0 (fun gk iv wr => iv = .int .i64 0 ∧ (∃ t, wr.heap[w.heap.size]? = some (.cells (boxS none 0 m) t (0, 0))) ∧ Below w.heap.size w wr)
  case atStart => exact ⟨rfl, ⟨_, blk_new_at rfl _⟩, (Below.refl _ _).alloc (Nat.le_refl _) _⟩
  case round =>
    obtain ⟨rfl, ⟨t, hb⟩, hBi⟩ := hrel
    obtain ⟨c0, c1⟩ := box_cells hb
    have HB := Lib.hid hBi
    clear hBi hb
    go_wp2
    go_end0
    exact ⟨⟨_, rfl⟩, HB.out⟩
theorem clean_none (m : Int) (w : World) : Calls Tryz.prog (195) #[sheetV none 0 m] w fun e w' => e = .returned (.bool true) ∧ Below w.heap.size w w' := by
  go_enter Tryz.func195, Tryz.ntmps195
  go_wp2_with fail
  go_loopg [4] 0 (fun gk iv wr => iv = .int .i64 0 ∧ (∃ t, wr.heap[w.heap.size]? = some (.cells (boxS none 0 m) t (0, 0))) ∧ Below w.heap.size w wr)
  case atStart => exact ⟨rfl, ⟨_, blk_new_at rfl _⟩, (Below.refl _ _).alloc (Nat.le_refl _) _⟩
  case round =>
    obtain ⟨rfl, ⟨t, hb⟩, hBi⟩ := hrel
    have HB := Lib.hid hBi
    clear hBi hb
    go_wp2
    go_ret
    exact ⟨rfl, HB.out⟩
theorem infoSheet : (Tryz.prog.info? (120)).map (fun i => (i.zero, i.size, i.bytes)) = some (some (.nilIface), 1, 16) := by kernel_rfl

/-- A book at block b: its sheets lie in rows from block B on. -/
structure BookIs (w : World) (b B : Nat) (ss : List Value) : Prop where
  own : ∃ v, w.heap[b]? = some (.cells #[v] (61) (0, 0)) ∧ w.ownsRow B (120) 1 v ss.length ss
  lt : b < B
  le : B ≤ w.heap.size
theorem BookIs.below {w w' : World} {b B : Nat} {ss : List Value} (h : BookIs w b B ss) (hb : Below w.heap.size w w') : BookIs w' b B ss := by
  obtain ⟨v, h1, h2⟩ := h.own
  exact ⟨⟨v, blk_below h1 hb (lt_of_blk h1), ownsRow_below h2 hb (Nat.le_refl _)⟩, h.lt, Nat.le_trans h.le hb.size⟩

set_option maxHeartbeats 1000000 in
set_option maxRecDepth 100000 in
theorem bookKeep_any (b B : Nat) (ss : List Value) (tt : TypeId) (sv : Value) (w : World) (hB : BookIs w b B ss) (hl : ss.length < 1000) :
    Calls Tryz.prog (53) #[.pointer (some ⟨b, 0, none⟩), .iface tt sv] w fun e w' => (∃ v, e = .returned v) ∧ BookIs w' b B (ss ++ [Value.iface tt sv]) ∧ Below b w w' := by
  obtain ⟨i0, hin, hz0, hz1, hz2⟩ := info_parts infoSheet
  obtain ⟨⟨v, hb, hown⟩, hbB, hle⟩ := hB
  obtain ⟨X, hX⟩ : ∃ X : World, X = w.alloc (.cells #[.iface tt sv] (120)) := ⟨_, rfl⟩
  have hBX : Below w.heap.size w X := by rw [hX]; exact (Below.refl _ _).alloc (Nat.le_refl _) _
  have hX1 : X.heap[w.heap.size]? = some (.cells #[.iface tt sv] (120) (0, 0)) := by rw [hX]; exact blk_new_at rfl _
  obtain ⟨v', w1, hrun, hO, hg, -⟩ := run_append_own (P := Tryz.prog) X B (59) (59) (120) i0 _ 1 16 Tryz.underlying59 hin hz0 hz1 hz2 rfl (by decide) v ss.length ss (ownsRow_below hown hBX (Nat.le_refl _)) ⟨w.heap.size, 0, none⟩ 1 1 [.iface tt sv] rfl (fun j u hj => by
    cases j with
    | zero => rw [addr_add, cell_of_blk hX1]; simpa using hj
    | succ j => simp at hj) (by intro u hu; rw [List.mem_singleton.1 hu]; rfl) (by unfold maxLen; omega) (by omega) (by have := hBX.size; omega)
  obtain ⟨a', n', c', rfl⟩ : ∃ a n c, v' = .slice a n c := by
    obtain ⟨_, ⟨rfl, _⟩ | ⟨g, cap, cur, rfl, _⟩⟩ := hO
    · exact ⟨_, _, _, rfl⟩
    · exact ⟨_, _, _, rfl⟩
  have hnb : ∀ k, v.ownBlock = some k → b < k := fun k hk => by have := (World.ownsRow.lt hown k hk).1; omega
  have hb1 : w1.heap[b]? = some (.cells #[v] (61) (0, 0)) := (hg.block b (by have := hBX.size; have := lt_of_blk hb; omega) (fun e => by have := hnb b e.symm; omega)).trans (blk_below hb hBX (lt_of_blk hb))
  have hb2 := blk_setCell (j := 0) hb1 (.slice a' n' c')
  have hO2 : (w1.setCell ⟨b, 0, none⟩ (.slice a' n' c')).ownsRow B (120) 1 (.slice a' n' c') (ss ++ [Value.iface tt sv]).length (ss ++ [Value.iface tt sv]) := by
    rw [List.length_append]
    exact ownsRow_setCell_below hO (by exact hbB) _
  have hBel : Below b w (w1.setCell ⟨b, 0, none⟩ (.slice a' n' c')) := by
    have h1 : Below b w w1 := (hBX.mono (Nat.le_of_lt (lt_of_blk hb))).grown hg (by have := hBX.size; have := lt_of_blk hb; omega) (fun k e => Nat.le_of_lt (hnb k e))
    exact h1.setCell (Nat.le_refl _) _
  have hsz : B ≤ (w1.setCell ⟨b, 0, none⟩ (.slice a' n' c')).heap.size := by
    have h1 := hg.size
    have h2 := hBX.size
    simp [World.setCell]
    omega
  have c0 := cell_of_blk hb 0
  have d0 := cell_of_blk hb1 0
  have z0 := frozen_of_blk hb1 0
  simp at c0 d0
  rw [hX] at hrun
  have HRUN := Lib.hid hrun
  have HFIN := Lib.hid (⟨⟨_, by simpa using hb2, hO2⟩, hbB, hsz⟩ : BookIs (w1.setCell ⟨b, 0, none⟩ (.slice a' n' c')) b B (ss ++ [Value.iface tt sv]))
  have HBEL := Lib.hid hBel
  clear hin hz0 hz1 hz2 hb hown hX hBX hX1 hrun hO hg hnb hb1 hb2 hO2 hBel hsz
  go_enter Tryz.func53, Tryz.ntmps53
  go_wp2_with (at_builtin; refine Lib.wpList_append_run _ rfl _ _ _ _ rfl _ _ rfl rfl _ _ (HRUN.out) ?_)
  go_end0
  exact ⟨⟨_, rfl⟩, HFIN.out, HBEL.out⟩

theorem small_1 (w : World) : Calls Tryz.prog (150) #[.int .i64 1] w fun e w' => e = .returned (.string ⟨#[49]⟩) ∧ Below w.heap.size w w' := by
  go_enter Tryz.func150, Tryz.ntmps150
  go_wp2
  go_ret
  exact ⟨rfl, Below.refl _ _⟩
set_option maxRecDepth 100000 in
theorem format_1 (w : World) : Calls Tryz.prog (129) #[.int .i64 1, .int .i64 10] w fun e w' => e = .returned (.string ⟨#[49]⟩) ∧ Below w.heap.size w w' := by
  go_enter Tryz.func129, Tryz.ntmps129
  go_wp2_with fail
  refine (small_1 _).mono ?_
  rintro e w1 ⟨rfl, hb⟩
  have HB := Lib.hid hb
  clear hb
  go_wp2
  go_ret
  exact ⟨rfl, HB.out⟩
theorem itoaI_1 (w : World) : Calls Tryz.prog (108) #[.int .i64 1] w fun e w' => e = .returned (.string ⟨#[49]⟩) ∧ Below w.heap.size w w' := by
  go_enter Tryz.func108, Tryz.ntmps108
  go_wp2_with fail
  refine (format_1 _).mono ?_
  rintro e w1 ⟨rfl, hb⟩
  have HB := Lib.hid hb
  clear hb
  go_wp2
  go_ret
  exact ⟨rfl, HB.out⟩
theorem itoa_1 (w : World) : Calls Tryz.prog (84) #[.int .i64 1] w fun e w' => e = .returned (.string ⟨#[49]⟩) ∧ Below w.heap.size w w' := by
  go_enter Tryz.func84, Tryz.ntmps84
  go_wp2_with fail
  refine (itoaI_1 _).mono ?_
  rintro e w1 ⟨rfl, hb⟩
  have HB := Lib.hid hb
  clear hb
  go_wp2
  go_ret
  exact ⟨rfl, HB.out⟩

theorem mark_1 (b B : Nat) (ss : List Value) (w : World) (hB : BookIs w b B ss) (hl : ss.length = 0) :
    Calls Tryz.prog (52) #[.pointer (some ⟨b, 0, none⟩)] w fun e w' => e = .returned (.tuple #[.int .u64 1, .string ⟨#[33, 49]⟩]) ∧ Below w.heap.size w w' := by
  obtain ⟨⟨v, hb, hown⟩, hbB, hle⟩ := hB
  obtain ⟨a, c, rfl⟩ : ∃ a c, v = .slice a 0 c := by
    rw [hl] at hown
    obtain ⟨_, ⟨rfl, h0⟩ | ⟨g, cap, cur, rfl, _⟩⟩ := hown
    · exact ⟨_, _, rfl⟩
    · exact ⟨_, _, rfl⟩
  have c0 := cell_of_blk hb 0
  simp at c0
  clear hb hown hle hbB hl
  go_enter Tryz.func52, Tryz.ntmps52
  go_wp2_with fail
  refine (itoa_1 _).mono ?_
  rintro e w1 ⟨rfl, hb⟩
  have HB := Lib.hid hb
  clear hb
  go_wp2
  go_ret2
  exact ⟨rfl, HB.out⟩
set_option maxHeartbeats 1000000 in
theorem bookBytes_1 (b B : Nat) (ss : List Value) (a : Option Addr) (n : Nat) (w : World) (hB : BookIs w b B ss) (hl : ss.length = 0) :
    Calls Tryz.prog (20) #[.pointer (some ⟨b, 0, none⟩), .slice a n n] w fun e w' => (∃ v, e = .returned v) ∧ BookIs w' b B (ss ++ [.iface (111) (sheetV a n 1)]) ∧ Below b w w' := by
  have HB := Lib.hid hB
  have HM := Lib.hid (mark_1 b B ss w hB hl)
  have hbl : b < w.heap.size := Nat.lt_of_lt_of_le hB.lt hB.le
  have hl2 : ss.length < 1000 := by omega
  clear hB hl
  go_enter Tryz.func20, Tryz.ntmps20
  go_wp2_with fail
  refine (HM.out).mono ?_
  rintro e w1 ⟨rfl, hb⟩
  have HB1 := Lib.hid (HB.out.below hb)
  have HBL := Lib.hid (hb.mono (Nat.le_of_lt hbl))
  clear hb HM
  go_wp2_with fail
  refine (bookKeep_any b B ss (111) (sheetV a n 1) _ HB1.out hl2).mono ?_
  rintro e w2 ⟨⟨v, rfl⟩, h1, h2⟩
  have H1 := Lib.hid h1
  have H2 := Lib.hid (HBL.out.trans h2)
  clear h1 h2
  go_wp2
  go_end0
  exact ⟨⟨_, rfl⟩, H1.out, H2.out⟩
theorem small_2 (w : World) : Calls Tryz.prog (150) #[.int .i64 2] w fun e w' => e = .returned (.string ⟨#[50]⟩) ∧ Below w.heap.size w w' := by
  go_enter Tryz.func150, Tryz.ntmps150
  go_wp2
  go_ret
  exact ⟨rfl, Below.refl _ _⟩
set_option maxRecDepth 100000 in
theorem format_2 (w : World) : Calls Tryz.prog (129) #[.int .i64 2, .int .i64 10] w fun e w' => e = .returned (.string ⟨#[50]⟩) ∧ Below w.heap.size w w' := by
  go_enter Tryz.func129, Tryz.ntmps129
  go_wp2_with fail
  refine (small_2 _).mono ?_
  rintro e w1 ⟨rfl, hb⟩
  have HB := Lib.hid hb
  clear hb
  go_wp2
  go_ret
  exact ⟨rfl, HB.out⟩
theorem itoaI_2 (w : World) : Calls Tryz.prog (108) #[.int .i64 2] w fun e w' => e = .returned (.string ⟨#[50]⟩) ∧ Below w.heap.size w w' := by
  go_enter Tryz.func108, Tryz.ntmps108
  go_wp2_with fail
  refine (format_2 _).mono ?_
  rintro e w1 ⟨rfl, hb⟩
  have HB := Lib.hid hb
  clear hb
  go_wp2
  go_ret
  exact ⟨rfl, HB.out⟩
theorem itoa_2 (w : World) : Calls Tryz.prog (84) #[.int .i64 2] w fun e w' => e = .returned (.string ⟨#[50]⟩) ∧ Below w.heap.size w w' := by
  go_enter Tryz.func84, Tryz.ntmps84
  go_wp2_with fail
  refine (itoaI_2 _).mono ?_
  rintro e w1 ⟨rfl, hb⟩
  have HB := Lib.hid hb
  clear hb
  go_wp2
  go_ret
  exact ⟨rfl, HB.out⟩
theorem mark_2 (b B : Nat) (ss : List Value) (w : World) (hB : BookIs w b B ss) (hl : ss.length = 1) :
    Calls Tryz.prog (52) #[.pointer (some ⟨b, 0, none⟩)] w fun e w' => e = .returned (.tuple #[.int .u64 2, .string ⟨#[33, 50]⟩]) ∧ Below w.heap.size w w' := by
  obtain ⟨⟨v, hb, hown⟩, hbB, hle⟩ := hB
  obtain ⟨a, c, rfl⟩ : ∃ a c, v = .slice a 1 c := by
    rw [hl] at hown
    obtain ⟨_, ⟨rfl, h0⟩ | ⟨g, cap, cur, rfl, _⟩⟩ := hown
    · exact absurd h0 (by decide)
    · exact ⟨_, _, rfl⟩
  have c0 := cell_of_blk hb 0
  simp at c0
  clear hb hown hle hbB hl
  go_enter Tryz.func52, Tryz.ntmps52
  go_wp2_with fail
  refine (itoa_2 _).mono ?_
  rintro e w1 ⟨rfl, hb⟩
  have HB := Lib.hid hb
  clear hb
  go_wp2
  go_ret2
  exact ⟨rfl, HB.out⟩
set_option maxHeartbeats 1000000 in
theorem bookBytes_2 (b B : Nat) (ss : List Value) (a : Option Addr) (n : Nat) (w : World) (hB : BookIs w b B ss) (hl : ss.length = 1) :
    Calls Tryz.prog (20) #[.pointer (some ⟨b, 0, none⟩), .slice a n n] w fun e w' => (∃ v, e = .returned v) ∧ BookIs w' b B (ss ++ [.iface (111) (sheetV a n 2)]) ∧ Below b w w' := by
  have HB := Lib.hid hB
  have HM := Lib.hid (mark_2 b B ss w hB hl)
  have hbl : b < w.heap.size := Nat.lt_of_lt_of_le hB.lt hB.le
  have hl2 : ss.length < 1000 := by omega
  clear hB hl
  go_enter Tryz.func20, Tryz.ntmps20
  go_wp2_with fail
  refine (HM.out).mono ?_
  rintro e w1 ⟨rfl, hb⟩
  have HB1 := Lib.hid (HB.out.below hb)
  have HBL := Lib.hid (hb.mono (Nat.le_of_lt hbl))
  clear hb HM
  go_wp2_with fail
  refine (bookKeep_any b B ss (111) (sheetV a n 2) _ HB1.out hl2).mono ?_
  rintro e w2 ⟨⟨v, rfl⟩, h1, h2⟩
  have H1 := Lib.hid h1
  have H2 := Lib.hid (HBL.out.trans h2)
  clear h1 h2
  go_wp2
  go_end0
  exact ⟨⟨_, rfl⟩, H1.out, H2.out⟩
def blkOf (a : Option Addr) : Option Nat := a.map (fun x => x.block)
/-- A sheet's list: none, or in a block of its own, from B0 on, ahead of b. -/
def Sh (B0 b : Nat) (w : World) (a : Option Addr) (n : Nat) (zs : List Int) : Prop :=
  (a = none ∧ n = 0 ∧ zs = []) ∨ ∃ g o, a = some ⟨g, o, none⟩ ∧ B0 ≤ g ∧ g < b ∧ ShR w g o n zs ∧ n < 1000000
theorem Sh.kept {B0 b : Nat} {w w' : World} {a : Option Addr} {n : Nat} {zs : List Int} {row : Option Nat} (h : Sh B0 b w a n zs) (hg : w.grownBy w' row) (hne : ∀ g, blkOf a = some g → row ≠ some g) : Sh B0 b w' a n zs := by
  rcases h with h | ⟨g, o, rfl, h1, h2, h3, h4⟩
  · exact .inl h
  · obtain ⟨cs, hc⟩ := h3.blk
    exact .inr ⟨g, o, rfl, h1, h2, h3.same (hg.block g (lt_of_blk hc) (fun e => hne g rfl e.symm)), h4⟩
theorem paintS_any (m : Int) (B0 b : Nat) (a : Option Addr) (n : Nat) (zs : List Int) (w : World) (h : Sh B0 b w a n zs) :
    Calls Tryz.prog (196) #[sheetV a n m] w fun e w' => (∃ v, e = .returned v) ∧ (∃ ys, Full n m ys ∧ Sh B0 b w' a n ys) ∧ w.grownBy w' (blkOf a) := by
  rcases h with ⟨rfl, rfl, rfl⟩ | ⟨g, o, rfl, h1, h2, h3, h4⟩
  · exact (paint_none m w).mono fun e w' ⟨hv, hb⟩ => ⟨hv, ⟨[], (fun q hq => by omega), .inl ⟨rfl, rfl, rfl⟩⟩, grown_of_below hb⟩
  · refine (paint_any m g o n zs w h3 h4).mono ?_
    rintro e w' ⟨hv, ys, hF, hR, hg⟩
    exact ⟨hv, ⟨ys, hF, .inr ⟨g, o, rfl, h1, h2, hR, h4⟩⟩, hg⟩
theorem spillS_any (m : Int) (B0 b : Nat) (a : Option Addr) (n : Nat) (zs : List Int) (w : World) (h : Sh B0 b w a n zs) :
    Calls Tryz.prog (197) #[sheetV a n m] w fun e w' => (∃ v, e = .returned v) ∧ Sh B0 b w' a n zs ∧ w.grownBy w' (blkOf a) := by
  rcases h with ⟨rfl, rfl, rfl⟩ | ⟨g, o, rfl, h1, h2, h3, h4⟩
  · exact (spill_none m w).mono fun e w' ⟨hv, hb⟩ => ⟨hv, .inl ⟨rfl, rfl, rfl⟩, grown_of_below hb⟩
  · obtain ⟨cs, hc⟩ := h3.blk
    refine (spill_any m g o n w (lt_of_blk hc)).mono ?_
    rintro e w' ⟨hv, hb⟩
    exact ⟨hv, .inr ⟨g, o, rfl, h1, h2, h3.same (hb.block g (lt_of_blk hc)), h4⟩, grown_of_below hb⟩
theorem cleanS_any (m : Int) (B0 b : Nat) (a : Option Addr) (n : Nat) (zs : List Int) (w : World) (h : Sh B0 b w a n zs) (hf : Full n m zs) :
    Calls Tryz.prog (195) #[sheetV a n m] w fun e w' => e = .returned (.bool true) ∧ Below w.heap.size w w' := by
  rcases h with ⟨rfl, rfl, rfl⟩ | ⟨g, o, rfl, h1, h2, h3, h4⟩
  · exact clean_none m w
  · exact clean_any m g o n zs w h3 h4 hf
theorem Sh.from {B0 b : Nat} {w : World} {a : Option Addr} {n : Nat} {zs : List Int} (h : Sh B0 b w a n zs) (g : Nat) (hg : blkOf a = some g) : B0 ≤ g ∧ g < b := by
  rcases h with ⟨rfl, _⟩ | ⟨g', o, rfl, h1, h2, _⟩
  · cases hg
  · cases hg; exact ⟨h1, h2⟩
/-- What a step of the book leaves. -/
structure ApState (B0 b gb : Nat) (w wr : World) (a1 : Option Addr) (n1 : Nat) (y1 : List Int) (a2 : Option Addr) (n2 : Nat) (y2 : List Int) : Prop where
  s1 : Sh B0 b wr a1 n1 y1
  s2 : Sh B0 b wr a2 n2 y2
  hb : wr.heap[b]? = w.heap[b]?
  hgb : wr.heap[gb]? = w.heap[gb]?
  bel : Below B0 w wr
  hle : w.heap.size ≤ wr.heap.size
section
variable {B0 b gb : Nat} {w wr w' : World} {a1 : Option Addr} {n1 : Nat} {y1 y1' : List Int} {a2 : Option Addr} {n2 : Nat} {y2 y2' : List Int}
theorem ApState.next1 (h : ApState B0 b gb w wr a1 n1 y1 a2 n2 y2) (hbl : b < w.heap.size) (hgl : gb < w.heap.size) (hlt : b < gb) (hB0 : B0 ≤ w.heap.size) (hne : ∀ g, blkOf a1 = some g → blkOf a2 ≠ some g) (hs : Sh B0 b w' a1 n1 y1') (hg : wr.grownBy w' (blkOf a1)) : ApState B0 b gb w w' a1 n1 y1' a2 n2 y2 :=
  ⟨hs, h.s2.kept hg (fun g e1 e2 => hne g e2 e1), (hg.block b (Nat.lt_of_lt_of_le hbl h.hle) (fun e => by have := (hs.from b e.symm).2; omega)).trans h.hb, (hg.block gb (Nat.lt_of_lt_of_le hgl h.hle) (fun e => by have := (hs.from gb e.symm).2; omega)).trans h.hgb, h.bel.grown hg (Nat.le_trans hB0 h.hle) (fun k e => (hs.from k e).1), Nat.le_trans h.hle hg.size⟩
theorem ApState.next2 (h : ApState B0 b gb w wr a1 n1 y1 a2 n2 y2) (hbl : b < w.heap.size) (hgl : gb < w.heap.size) (hlt : b < gb) (hB0 : B0 ≤ w.heap.size) (hne : ∀ g, blkOf a1 = some g → blkOf a2 ≠ some g) (hs : Sh B0 b w' a2 n2 y2') (hg : wr.grownBy w' (blkOf a2)) : ApState B0 b gb w w' a1 n1 y1 a2 n2 y2' :=
  ⟨h.s1.kept hg (fun g e1 e2 => hne g e1 e2), hs, (hg.block b (Nat.lt_of_lt_of_le hbl h.hle) (fun e => by have := (hs.from b e.symm).2; omega)).trans h.hb, (hg.block gb (Nat.lt_of_lt_of_le hgl h.hle) (fun e => by have := (hs.from gb e.symm).2; omega)).trans h.hgb, h.bel.grown hg (Nat.le_trans hB0 h.hle) (fun k e => (hs.from k e).1), Nat.le_trans h.hle hg.size⟩
theorem ApState.same (h : ApState B0 b gb w wr a1 n1 y1 a2 n2 y2) (hbl : b < w.heap.size) (hgl : gb < w.heap.size) (hB0 : B0 ≤ w.heap.size) (hg : Below wr.heap.size wr w') : ApState B0 b gb w w' a1 n1 y1 a2 n2 y2 :=
  ⟨h.s1.kept (grown_of_below (row := none) hg) (fun _ _ e => by cases e), h.s2.kept (grown_of_below (row := none) hg) (fun _ _ e => by cases e), (hg.block b (Nat.lt_of_lt_of_le hbl h.hle)).trans h.hb, (hg.block gb (Nat.lt_of_lt_of_le hgl h.hle)).trans h.hgb, h.bel.trans (hg.mono (Nat.le_trans hB0 h.hle)), Nat.le_trans h.hle hg.size⟩
end

set_option maxRecDepth 100000 in
set_option maxHeartbeats 4000000 in
theorem apart_any (B0 b B : Nat) (a1 : Option Addr) (n1 : Nat) (m1 : Int) (z1 : List Int) (a2 : Option Addr) (n2 : Nat) (m2 : Int) (z2 : List Int) (w : World)
    (hB : BookIs w b B [.iface (111) (sheetV a1 n1 m1), .iface (111) (sheetV a2 n2 m2)])
    (h1 : Sh B0 b w a1 n1 z1) (h2 : Sh B0 b w a2 n2 z2) (hne : ∀ g, blkOf a1 = some g → blkOf a2 ≠ some g) (hB0 : B0 ≤ w.heap.size) :
    Calls Tryz.prog (22) #[.pointer (some ⟨b, 0, none⟩)] w fun e w' => e = .returned (.bool true) ∧ Below B0 w w' := by
  obtain ⟨⟨v, hb, hown⟩, hbB, hle⟩ := hB
  obtain ⟨_, ⟨_, h0⟩ | ⟨gb, cap, cur, rfl, hgB, hgb, hnc, hcm, hcs, htk⟩⟩ := hown
  · cases h0
  have hbl : b < w.heap.size := lt_of_blk hb
  have hgl : gb < w.heap.size := lt_of_blk hgb
  have hlt : b < gb := by omega
  have k0 : w.cell? ⟨b, 0, none⟩ = some (.slice (some ⟨gb, 0, none⟩) 2 cap) := cell_of_blk hb 0
  have k1 : w.cell? ⟨gb, 0, none⟩ = some (.iface (111) (sheetV a1 n1 m1)) := by
    rw [cell_of_blk hgb]
    have := congrArg (fun l => l[0]?) htk
    simpa using this
  have k2 : w.cell? ⟨gb, 1, none⟩ = some (.iface (111) (sheetV a2 n2 m2)) := by
    rw [cell_of_blk hgb]
    have := congrArg (fun l => l[1]?) htk
    simpa using this
  have hst : ApState B0 b gb w w a1 n1 z1 a2 n2 z2 := ⟨h1, h2, rfl, rfl, Below.refl _ _, Nat.le_refl _⟩
  have HC : Hid (∀ W : World, W.heap[b]? = w.heap[b]? → W.heap[gb]? = w.heap[gb]? → W.cell? ⟨b, 0, none⟩ = some (.slice (some ⟨gb, 0, none⟩) 2 cap) ∧ W.cell? ⟨gb, 0, none⟩ = some (.iface (111) (sheetV a1 n1 m1)) ∧ W.cell? ⟨gb, 1, none⟩ = some (.iface (111) (sheetV a2 n2 m2))) := Lib.hid (fun W e1 e2 => ⟨(World.cell?_of_block (w := w) e1).trans k0, (World.cell?_of_block (w := w) e2).trans k1, (World.cell?_of_block (w := w) e2).trans k2⟩)
  have HST := Lib.hid hst
  have HNE := Lib.hid hne
  clear hb hcs hgb htk h1 h2 hst hne hcm k1 k2
  go_enter Tryz.func22, Tryz.ntmps22
  go_wp2_with fail
  go_loopg [3] 2 (fun gk iv wr => ∃ (i : Nat) (y1 y2 : List Int), i + gk = 2 ∧ iv = .int .i64 i ∧ ApState B0 b gb w wr a1 n1 y1 a2 n2 y2 ∧ Hid (True) ∧ Hid (True) ∧ Hid (0 < i → Full n1 m1 y1) ∧ Hid (1 < i → Full n2 m2 y2))
  case atStart => exact ⟨0, z1, z2, by omega, rfl, HST.out, Lib.hid trivial, Lib.hid trivial, Lib.hid (fun h => by omega), Lib.hid (fun h => by omega)⟩
  case round =>
    clear HST k0
    obtain ⟨i, y1, y2, hi, rfl, hS, HQ1, HQ2, HQ3, HQ4⟩ := hrel
    have HS := Lib.hid hS
    obtain ⟨k0, k1, k2⟩ := HC.out _ hS.hb hS.hgb
    clear hS
    have hi3 : i = 0 ∨ i = 1 ∨ i = 2 := by omega
    rcases hi3 with rfl | rfl | rfl
    · go_wp2_with fail
      refine (paintS_any m1 B0 b a1 n1 y1 _ HS.out.s1).mono ?_
      rintro e w1 ⟨⟨v, rfl⟩, ⟨ys, HF, hs⟩, hg⟩
      have HS2 := Lib.hid (HS.out.next1 hbl hgl hlt hB0 HNE.out hs hg)
      have HFF := Lib.hid HF
      clear HS hs hg HF k0 k1 k2
      go_wp2
      go_roundg (gk - 1)
      case measure => omega
      case rel => exact ⟨1, ys, y2, by omega, by go_num, HS2.out, Lib.hid trivial, Lib.hid trivial, Lib.hid (fun _ => HFF.out), Lib.hid (fun h => absurd h (by omega))⟩
    · go_wp2_with fail
      refine (paintS_any m2 B0 b a2 n2 y2 _ HS.out.s2).mono ?_
      rintro e w1 ⟨⟨v, rfl⟩, ⟨ys, HF, hs⟩, hg⟩
      have HS2 := Lib.hid (HS.out.next2 hbl hgl hlt hB0 HNE.out hs hg)
      have HFF := Lib.hid HF
      clear HS hs hg HF k0 k1 k2
      go_wp2
      go_roundg (gk - 1)
      case measure => omega
      case rel => exact ⟨2, y1, ys, by omega, by go_num, HS2.out, Lib.hid trivial, Lib.hid trivial, Lib.hid (fun _ => HQ3.out (by omega)), Lib.hid (fun _ => HFF.out)⟩
    · have HP1 : Hid (Full n1 m1 y1) := Lib.hid (HQ3.out (by omega))
      have HP2 : Hid (Full n2 m2 y2) := Lib.hid (HQ4.out (by omega))
      clear HQ1 HQ2 HQ3 HQ4
      go_wp2_with fail
      go_loopg [4] 2 (fun gk iv wr => ∃ (i : Nat) (y1 y2 : List Int), i + gk = 2 ∧ iv = .int .i64 i ∧ ApState B0 b gb w wr a1 n1 y1 a2 n2 y2 ∧ Hid (Full n1 m1 y1) ∧ Hid (Full n2 m2 y2) ∧ Hid (0 < i → Full n1 m1 y1) ∧ Hid (1 < i → Full n2 m2 y2))
      case atStart => exact ⟨0, y1, y2, by omega, rfl, HS.out, HP1, HP2, Lib.hid (fun h => by omega), Lib.hid (fun h => by omega)⟩
      case round =>
        clear HS HP1 HP2 k0 k1 k2
        obtain ⟨i, y1, y2, hi, rfl, hS, HQ1, HQ2, HQ3, HQ4⟩ := hrel
        have HS := Lib.hid hS
        obtain ⟨k0, k1, k2⟩ := HC.out _ hS.hb hS.hgb
        clear hS
        have hi3 : i = 0 ∨ i = 1 ∨ i = 2 := by omega
        rcases hi3 with rfl | rfl | rfl
        · go_wp2_with fail
          refine (spillS_any m1 B0 b a1 n1 y1 _ HS.out.s1).mono ?_
          rintro e w1 ⟨⟨v, rfl⟩, hs, hg⟩
          have HS2 := Lib.hid (HS.out.next1 hbl hgl hlt hB0 HNE.out hs hg)
          have HFF := HQ1
          have HKN := HQ1
          clear HS hs hg k0 k1 k2
          go_wp2
          go_roundg (gk - 1)
          case measure => omega
          case rel => exact ⟨1, y1, y2, by omega, by go_num, HS2.out, Lib.hid (HKN.out), HQ2, Lib.hid (fun _ => HFF.out), Lib.hid (fun h => absurd h (by omega))⟩
        · go_wp2_with fail
          refine (spillS_any m2 B0 b a2 n2 y2 _ HS.out.s2).mono ?_
          rintro e w1 ⟨⟨v, rfl⟩, hs, hg⟩
          have HS2 := Lib.hid (HS.out.next2 hbl hgl hlt hB0 HNE.out hs hg)
          have HFF := HQ2
          have HKN := HQ2
          clear HS hs hg k0 k1 k2
          go_wp2
          go_roundg (gk - 1)
          case measure => omega
          case rel => exact ⟨2, y1, y2, by omega, by go_num, HS2.out, HQ1, Lib.hid (HKN.out), Lib.hid (fun _ => HQ3.out (by omega)), Lib.hid (fun _ => HFF.out)⟩
        · have HP1 : Hid (Full n1 m1 y1) := Lib.hid (HQ3.out (by omega))
          have HP2 : Hid (Full n2 m2 y2) := Lib.hid (HQ4.out (by omega))
          clear HQ1 HQ2 HQ3 HQ4
          go_wp2_with fail
          go_loopg [5] 2 (fun gk iv wr => ∃ (i : Nat) (y1 y2 : List Int), i + gk = 2 ∧ iv = .int .i64 i ∧ ApState B0 b gb w wr a1 n1 y1 a2 n2 y2 ∧ Hid (Full n1 m1 y1) ∧ Hid (Full n2 m2 y2) ∧ Hid (True) ∧ Hid (True))
          case atStart => exact ⟨0, y1, y2, by omega, rfl, HS.out, HP1, HP2, Lib.hid trivial, Lib.hid trivial⟩
          case round =>
            clear HS HP1 HP2 k0 k1 k2
            obtain ⟨i, y1, y2, hi, rfl, hS, HQ1, HQ2, HQ3, HQ4⟩ := hrel
            have HS := Lib.hid hS
            obtain ⟨k0, k1, k2⟩ := HC.out _ hS.hb hS.hgb
            clear hS
            have hi3 : i = 0 ∨ i = 1 ∨ i = 2 := by omega
            rcases hi3 with rfl | rfl | rfl
            · go_wp2_with fail
              refine (cleanS_any m1 B0 b a1 n1 y1 _ HS.out.s1 HQ1.out).mono ?_
              rintro e w1 ⟨rfl, hg⟩
              have HS2 := Lib.hid (HS.out.same hbl hgl hB0 hg)
              clear HS hg k0 k1 k2
              go_wp2
              go_roundg (gk - 1)
              case measure => omega
              case rel => exact ⟨1, y1, y2, by omega, by go_num, HS2.out, HQ1, HQ2, Lib.hid trivial, Lib.hid trivial⟩
            · go_wp2_with fail
              refine (cleanS_any m2 B0 b a2 n2 y2 _ HS.out.s2 HQ2.out).mono ?_
              rintro e w1 ⟨rfl, hg⟩
              have HS2 := Lib.hid (HS.out.same hbl hgl hB0 hg)
              clear HS hg k0 k1 k2
              go_wp2
              go_roundg (gk - 1)
              case measure => omega
              case rel => exact ⟨2, y1, y2, by omega, by go_num, HS2.out, HQ1, HQ2, Lib.hid trivial, Lib.hid trivial⟩
            · have HB := Lib.hid HS.out.bel
              go_wp2
              go_ret
              exact ⟨rfl, HB.out⟩
end Go.Proofs.YtchcelodeepjdaaGreatDoor.Ln

namespace Go.Proofs.YtchcelodeepjdaaGreatDoor.Ln
open Go.RowKit Go.Shelf Go.Herb Go.Sort

instance : Inhabited Sv := ⟨⟨0, ⟨none, 0, []⟩, ⟨none, 0, []⟩, ⟨none, 0, []⟩⟩⟩
end Go.Proofs.YtchcelodeepjdaaGreatDoor.Ln

namespace Go.Herb
open Go
end Go.Herb
namespace Go.Proofs.YtchcelodeepjdaaGreatDoor.Ln
open Go.RowKit Go.Shelf Go.Herb

/-- The reader and the map. -/
structure EdS (p B : Nat) (w u : World) (ys : List Int) (b : Nat) (m : List (Int × Sv)) : Prop where
  read : ReadAt u p B ys
  map : MapS u b m
  turn : TurnI p w u
  hp : p < w.heap.size
  hb : w.heap.size ≤ b
theorem EdS.next {p B b : Nat} {w u u' : World} {ys zs : List Int} {m : List (Int × Sv)} (h : EdS p B w u ys b m) (ht : TurnI p u u') (hr : ReadAt u' p B zs) : EdS p B w u' zs b m := by
  refine ⟨hr, ?_, h.turn.trans ht, h.hp, h.hb⟩
  obtain ⟨es, c, h1, r⟩ := h.map.blk
  exact ⟨es, c, ht.kept b _ h1 (by have := h.hp; have := h.hb; omega), r⟩
theorem EdS.turned {p B b : Nat} {w u u' : World} {ys : List Int} {m m' : List (Int × Sv)} (h : EdS p B w u ys b m) (hg : u.grownBy u' (some b)) (hm : MapS u' b m') : EdS p B w u' ys b m' := by
  have h1 := h.hp
  have h2 := h.hb
  have h3 := h.read.low
  refine ⟨h.read.kept (fun k o ho hk => ?_), hm, turn_grown (M := 0) h.turn hg (fun k e => by injection e with e; rw [← e]; exact h.hb), h.hp, h.hb⟩
  exact (hg.block k (lt_of_blk ho) (fun e => by injection e with e; omega)).trans ho
end Go.Proofs.YtchcelodeepjdaaGreatDoor.Ln

namespace Go.Proofs.YtchcelodeepjdaaGreatDoor.Ln
open Go.RowKit Go.Shelf Go.Herb

/-- The root's box and all that the root leads to. -/
structure EdB (w u : World) (cs : Array Value) (M B : Nat) (r0 : Rv) (sa : Option Addr) (sc : Nat) (os ss : List Sv) : Prop where
  box : u.heap[w.heap.size]? = some (.cells cs (32) (0, 0))
  below : Below w.heap.size w u
  own : RtOwn M u r0
  sh : OwnSh B u (.slice sa os.length sc) os
  lev : ∀ s ∈ ss, ∀ l ∈ s.lv, OwnT B u (lvV l) l.ts
theorem EdB.store {w u : World} {cs : Array Value} {M B : Nat} {r0 : Rv} {sa : Option Addr} {sc : Nat} {os ss : List Sv} (h : EdB w u cs M B r0 sa sc os ss) (j : Nat) (v : Value) (cs' : Array Value) (hc : cs.setIfInBounds j v = cs') : EdB w (u.setCell ⟨w.heap.size, j, none⟩ v) cs' M B r0 sa sc os ss :=
  ⟨by rw [← hc]; exact blk_setCell h.box v, Below.setCell h.below (p := ⟨w.heap.size, j, none⟩) (Nat.le_refl w.heap.size) v, h.own.set h.box v, own_set h.sh h.box (by decide) _, fun s hs l hl => own_set (h.lev s hs l hl) h.box (by decide) _⟩
theorem EdB.ext {w u u' : World} {cs : Array Value} {M B : Nat} {r0 : Rv} {sa : Option Addr} {sc : Nat} {os ss : List Sv} (h : EdB w u cs M B r0 sa sc os ss) (hb : Below u.heap.size u u') : EdB w u' cs M B r0 sa sc os ss :=
  ⟨blk_below h.box hb (lt_of_blk h.box), h.below.trans (hb.mono h.below.size), h.own.ext hb, OwnSh.below h.sh hb, fun s hs l hl => ownsRow_below (h.lev s hs l hl) hb (Nat.le_refl _)⟩
theorem EdB.name {w u : World} {cs : Array Value} {M B : Nat} {r0 : Rv} {sa : Option Addr} {sc : Nat} {os ss : List Sv} (_ : EdB w u cs M B r0 sa sc os ss) : ∃ Z, Z = u := ⟨u, rfl⟩
end Go.Proofs.YtchcelodeepjdaaGreatDoor.Ln

namespace Go.Proofs.YtchcelodeepjdaaGreatDoor.Ln
open Go.RowKit Go.Shelf Go.Herb

theorem editL_few {w w' : World} {r q : Rv} (hi : RtIn w r) (hg : GoodR r) (hn : NotGreat r) (hq : RtIn w' q) (nq : NotGreat q) : (editL r.says q.says).length < 450000 := by
  have h1 := wholeL_few hi hg hn
  have es : r.says.sh = r.sh.map Sv.says := rfl
  have hg2 : (goneL r.says.sh q.says.sh).length ≤ 30 := by
    have h2 := nq.sh
    unfold goneL
    rw [List.length_map]
    refine Nat.le_trans (List.length_filter_le _ _) ?_
    show (q.sh.map Sv.says).length ≤ _
    rw [List.length_map]
    exact h2
  have hgu : ∀ x ∈ goneL r.says.sh q.says.sh, U64 x := fun x hx => by
    obtain ⟨s, hs, rfl⟩ := List.mem_map.1 hx
    obtain ⟨y, hy, rfl⟩ := List.mem_map.1 (List.mem_filter.1 hs).1
    exact (hq.shs.ok y hy).wf
  have h3 := numsL_len _ hgu
  have h4 := num_len (u64_len (n := (goneL r.says.sh q.says.sh).length) (by omega))
  have hnl : (newL r.says.sh q.says.sh).length ≤ 30 := by
    have h2 := hn.sh
    refine Nat.le_trans (List.length_filter_le _ _) ?_
    rw [es, List.length_map]
    exact h2
  have h5 := num_len (u64_len (n := (newL r.says.sh q.says.sh).length) (by omega))
  have h6 : ∀ (p : Sd → Bool) (l : List Sd), ((l.filter p).flatMap sdL).length ≤ (l.flatMap sdL).length := fun p l => by
    induction l with
    | nil => simp
    | cons x l ih =>
      rw [List.filter_cons, List.flatMap_cons, List.length_append]
      split
      · rw [List.flatMap_cons, List.length_append]; omega
      · omega
  have h7 := h6 (fun s => !asWas q.says.sh s) r.says.sh
  have h8 : (wholeL r.says).length = 1 + ((headL r.says).length + ((numsL [(r.says.sh.length : Int)]).length + (r.says.sh.flatMap sdL).length)) := by
    unfold wholeL shL
    simp only [List.length_cons, List.length_append]
    omega
  have h9 : (editL r.says q.says).length = 1 + ((headL r.says).length + (numsL [((goneL r.says.sh q.says.sh).length : Int)]).length + (numsL (goneL r.says.sh q.says.sh)).length + ((numsL [((newL r.says.sh q.says.sh).length : Int)]).length + ((newL r.says.sh q.says.sh).flatMap sdL).length)) := by
    unfold editL shL
    simp only [List.length_cons, List.length_append]
    omega
  rw [numsL_one] at h9
  have h10 : ((newL r.says.sh q.says.sh).flatMap sdL).length ≤ (r.says.sh.flatMap sdL).length := h7
  have h11 : (numsL [((newL r.says.sh q.says.sh).length : Int)]).length ≤ 10 := by rw [numsL_one]; exact h5
  omega
end Go.Proofs.YtchcelodeepjdaaGreatDoor.Ln
