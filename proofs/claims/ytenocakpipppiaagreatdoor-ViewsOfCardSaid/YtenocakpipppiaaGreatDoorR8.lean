/- Copies with room behind: TwinFacts, LeftFacts. Condition: fewer than 1000 facts. -/
import Derived.Test.YtenocakpipppiaaGreatDoorR5
namespace Go.Proofs.YtenocakpipppiaaGreatDoor
open Go.RowKit Go.Shelf Go.Herb
attribute [local go_sem ↓] Go.wp_at_zero Go.wp_at_succ

/-- A row with one element more. -/
theorem rowF_push {e : Nat} {w : World} {g cap : Nat} {xs : List Fc} (h : Row fc 6 e w g cap xs) (hc : xs.length < cap) (i : Nat) (hi : i = xs.length) (x : Fc) : Row fc 6 e (putF w g i x) g cap (xs ++ [x]) := by
  subst hi
  obtain ⟨cur, hb, hsz, htk⟩ := h.blk
  refine ⟨⟨_, blk_setCell (blk_setCell (blk_setCell (blk_setCell (blk_setCell (blk_setCell hb _) _) _) _) _) _, by simpa using hsz, ?_⟩, by simp; omega, h.max⟩
  rw [List.length_append, List.length_singleton, List.flatMap_append, ← htk]
  simp only [Array.toList_setIfInBounds, List.flatMap_cons, List.flatMap_nil, List.append_nil]
  have hlen : cur.toList.length = cap * 6 := by simpa using hsz
  apply List.ext_getElem?
  intro j
  rcases Nat.lt_or_ge j (xs.length * 6) with hj | hj
  · rw [List.getElem?_take_of_lt (by omega), List.getElem?_append_left (by rw [List.length_take]; omega), List.getElem?_take_of_lt hj]
    rw [List.getElem?_set_ne (by omega), List.getElem?_set_ne (by omega), List.getElem?_set_ne (by omega), List.getElem?_set_ne (by omega), List.getElem?_set_ne (by omega), List.getElem?_set_ne (by omega)]
  · rw [List.getElem?_append_right (by rw [List.length_take]; omega), List.length_take, Nat.min_eq_left (by omega)]
    rcases Nat.lt_or_ge j (xs.length * 6 + 6) with hj2 | hj2
    · rw [List.getElem?_take_of_lt (by omega)]
      have : j = xs.length * 6 ∨ j = xs.length * 6 + 1 ∨ j = xs.length * 6 + 2 ∨ j = xs.length * 6 + 3 ∨ j = xs.length * 6 + 4 ∨ j = xs.length * 6 + 5 := by omega
      rcases this with e | e | e | e | e | e
      · subst e
        rw [List.getElem?_set_ne (by omega), List.getElem?_set_ne (by omega), List.getElem?_set_ne (by omega), List.getElem?_set_ne (by omega), List.getElem?_set_ne (by omega), List.getElem?_set_self (by omega)]; simp [fc]
      · subst e
        rw [List.getElem?_set_ne (by omega), List.getElem?_set_ne (by omega), List.getElem?_set_ne (by omega), List.getElem?_set_ne (by omega), List.getElem?_set_self (by simp only [List.length_set]; omega), show xs.length * 6 + 1 - xs.length * 6 = 1 from by omega]; rfl
      · subst e
        rw [List.getElem?_set_ne (by omega), List.getElem?_set_ne (by omega), List.getElem?_set_ne (by omega), List.getElem?_set_self (by simp only [List.length_set]; omega), show xs.length * 6 + 2 - xs.length * 6 = 2 from by omega]; rfl
      · subst e
        rw [List.getElem?_set_ne (by omega), List.getElem?_set_ne (by omega), List.getElem?_set_self (by simp only [List.length_set]; omega), show xs.length * 6 + 3 - xs.length * 6 = 3 from by omega]; rfl
      · subst e
        rw [List.getElem?_set_ne (by omega), List.getElem?_set_self (by simp only [List.length_set]; omega), show xs.length * 6 + 4 - xs.length * 6 = 4 from by omega]; rfl
      · subst e
        rw [List.getElem?_set_self (by simp only [List.length_set]; omega), show xs.length * 6 + 5 - xs.length * 6 = 5 from by omega]; rfl
    · rw [List.getElem?_eq_none (by rw [List.length_take]; omega), List.getElem?_eq_none (by rw [show (fc x).length = 6 from rfl]; omega)]

/-- The row of a slice that was made, as yet of nothing. -/
theorem row_made {base e : Nat} {w : World} {g n : Nat} {xs : List Value} (h : w.ownsRow base e 6 (.slice (some ⟨g, 0, none⟩) n n) n xs) : Row fc 6 e w g n [] ∧ base ≤ g := by
  obtain ⟨_, ⟨h1, _⟩ | ⟨g', cap, cur, hv, hg, hh, hle, hm, hsz, htk⟩⟩ := h
  · cases h1
  · simp only [Value.slice.injEq, Option.some.injEq, Addr.mk.injEq] at hv
    obtain ⟨⟨rfl, -, -⟩, -, rfl⟩ := hv
    exact ⟨⟨⟨cur, hh, hsz, by simp⟩, Nat.zero_le _, hm⟩, hg⟩
theorem rowF_there {e : Nat} {w : World} {g cap : Nat} {xs : List Fc} (h : Row fc 6 e w g cap xs) (o : Nat) (ho : o < cap * 6) : ∃ v, w.cell? ⟨g, o, none⟩ = some v := by
  obtain ⟨cur, hb, hsz, htk⟩ := h.blk
  exact ⟨_, by rw [cell_of_blk hb, Array.getElem?_eq_getElem (by omega)]⟩

def TwinPost (xs : List Fc) (m : Fc) (w : World) (e : Ending) (w' : World) : Prop :=
  ∃ g, e = .returned (.slice (some ⟨g, 0, none⟩) xs.length (xs.length + 2)) ∧ w.heap.size ≤ g ∧ Row fc 6 (50) w' g (xs.length + 2) (xs ++ [m, m]) ∧ Below w.heap.size w w'

set_option maxRecDepth 100000 in
set_option maxHeartbeats 2000000 in
theorem copied_any (m : Fc) (al : Option Addr) (cl : Nat) (xs : List Fc) (w : World) (hL : Facts w al xs) (hl : xs.length < 1000) :
    Calls Tryz.prog (21) #[.slice al xs.length cl, .agg #[.string m.key, .int .u32 m.valid, .int .u64 m.seq, .int .u64 m.line, .int .u8 m.kind, .string m.val]] w (TwinPost xs m w) := by
  obtain ⟨i0, hin, hz0, hz1, hz2⟩ := info_parts Tryz.info50
  obtain ⟨W, hW⟩ : ∃ W : World, W = w.alloc (.cells #[.string m.key, .int .u32 m.valid, .int .u64 m.seq, .int .u64 m.line, .int .u8 m.kind, .string m.val] (50)) := ⟨_, rfl⟩
  have hWb : W.heap[w.heap.size]? = some (.cells (fc m).toArray (50) (0, 0)) := by rw [hW]; exact blk_new_at rfl _
  have hBW : Below w.heap.size w W := by rw [hW]; exact (Below.refl _ _).alloc (Nat.le_refl _) _
  have hWs : w.heap.size < W.heap.size := by rw [hW]; simp
  obtain ⟨w1, hrun, hown, hgr⟩ := run_makeSlice_full (P := Tryz.prog) (w := W) W.heap.size (22) (50) i0 _ 6 Tryz.underlying22 hin hz0 hz1 .i64 .i64 (xs.length + 2) (by omega) (by rw [hz2]; omega) (by unfold maxLen; omega) (Nat.le_refl _)
  obtain ⟨hR0, -⟩ := row_made hown
  have hB1 : Below w.heap.size w w1 := hBW.grown hgr hBW.size (fun k e => by cases e)
  have hm1 : w1.heap[w.heap.size]? = some (.cells (fc m).toArray (50) (0, 0)) := (hgr.block _ hWs (fun e => by cases e)).trans hWb
  rw [show (((xs.length + 2 : Nat)) : Int) = (xs.length : Int) + 2 from by omega] at hrun
  obtain ⟨g, hg⟩ : ∃ g, g = W.heap.size := ⟨_, rfl⟩
  rw [← hg] at hrun hR0
  have hgw : w.heap.size < g := by omega
  rw [hW] at hrun
  have HL := Lib.hid hL
  have HR0 := Lib.hid hR0
  have HB1 := Lib.hid hB1
  have HM1 := Lib.hid hm1
  clear hL hR0 hB1 hm1 hown hgr hBW hWb hWs hin hz0 hz1 hz2 hW hg
  go_enter Tryz.func21, Tryz.ntmps21
  go_wp2_with fail
  go_loopg [6] (xs.length + 2) (fun gk iv wr => ∃ i : Nat, i + gk = xs.length + 2 ∧ iv = .int .i64 i ∧ Row fc 6 (50) wr g (xs.length + 2) ((xs ++ [m, m]).take i) ∧ wr.heap[w.heap.size]? = some (.cells (fc m).toArray (50) (0, 0)) ∧ Below w.heap.size w wr)
  case atStart => exact ⟨0, by omega, rfl, HR0.out, HM1.out, HB1.out⟩
  case round =>
    obtain ⟨i, hi, rfl, hR, hm, hBi⟩ := hrel
    clear HR0 HM1 HB1
    by_cases hilt : i < xs.length + 2
    · have hLl : (xs ++ [m, m]).length = xs.length + 2 := by simp
      have htl : ((xs ++ [m, m]).take i).length = i := by rw [List.length_take]; omega
      have hR1 := rowF_push hR (by omega) i htl.symm m
      have ht1 : (xs ++ [m, m]).take (i + 1) = (xs ++ [m, m]).take i ++ [(xs ++ [m, m])[i]'(by omega)] := List.take_succ_eq_append_getElem (by omega)
      obtain ⟨v0, g0⟩ := rowF_there hR (i * 6) (by omega)
      obtain ⟨v1, g1⟩ := rowF_there hR (i * 6 + 1) (by omega)
      obtain ⟨v2, g2⟩ := rowF_there hR (i * 6 + 2) (by omega)
      obtain ⟨v3, g3⟩ := rowF_there hR (i * 6 + 3) (by omega)
      obtain ⟨v4, g4⟩ := rowF_there hR (i * 6 + 4) (by omega)
      obtain ⟨v5, g5⟩ := rowF_there hR (i * 6 + 5) (by omega)
      have z0 := hR.frozen (i * 6)
      have z1 := hR.frozen (i * 6 + 1)
      have z2 := hR.frozen (i * 6 + 2)
      have z3 := hR.frozen (i * 6 + 3)
      have z4 := hR.frozen (i * 6 + 4)
      have z5 := hR.frozen (i * 6 + 5)
      have m0 := cell_of_blk hm 0
      have m1 := cell_of_blk hm 1
      have m2 := cell_of_blk hm 2
      have m3 := cell_of_blk hm 3
      have m4 := cell_of_blk hm 4
      have m5 := cell_of_blk hm 5
      simp [fc] at m0 m1 m2 m3 m4 m5
      have hi0 : (0 : Int) ≤ (i : Int) := by omega
      have hi1 : (i : Int) < (xs.length : Int) + 2 := by omega
      have hm2 : (putF wr g i m).heap[w.heap.size]? = some (.cells (fc m).toArray (50) (0, 0)) := ((grown_putF (grown_refl wr (some g)) i m).block _ (lt_of_blk hm) (fun e => by injection e with e; omega)).trans hm
      have hB2 : Below w.heap.size w (putF wr g i m) := hBi.grown (grown_putF (grown_refl wr (some g)) i m) hBi.size (fun k e => by cases e; omega)
      by_cases hlt : i < xs.length
      · have hxi : (xs ++ [m, m])[i]'(by omega) = xs[i] := List.getElem_append_left hlt
        rw [hxi] at ht1
        obtain ⟨b, o, rfl, hlb, hcell⟩ := HL.out.get i hlt
        generalize xs[i] = x at *
        have hR2 := rowF_put hR1 i x
        have hset : ((xs ++ [m, m]).take i ++ [m]).set i x = (xs ++ [m, m]).take (i + 1) := by
          rw [ht1]
          apply List.ext_getElem (by simp)
          intro q h1 h2
          by_cases hq : q = i
          · subst hq
            rw [List.getElem_set_self, List.getElem_append_right (by omega)]
            simp
          · rw [List.getElem_set_ne (fun e => hq e.symm)]
            have : q < i := by simp at h2; omega
            rw [List.getElem_append_left (by omega), List.getElem_append_left (by omega)]
        rw [hset] at hR2
        have hlg : b ≠ g := by omega
        have e0 := (hBi.cell (p := ⟨b, _, none⟩) hlb).trans (hcell 0 _ rfl)
        have e1 := (hBi.cell (p := ⟨b, _, none⟩) hlb).trans (hcell 1 _ rfl)
        have e2 := (hBi.cell (p := ⟨b, _, none⟩) hlb).trans (hcell 2 _ rfl)
        have e3 := (hBi.cell (p := ⟨b, _, none⟩) hlb).trans (hcell 3 _ rfl)
        have e4 := (hBi.cell (p := ⟨b, _, none⟩) hlb).trans (hcell 4 _ rfl)
        have e5 := (hBi.cell (p := ⟨b, _, none⟩) hlb).trans (hcell 5 _ rfl)
        simp only [Nat.add_zero] at e0 e1 e2 e3 e4 e5
        have hm3 : (putF (putF wr g i m) g i x).heap[w.heap.size]? = some (.cells (fc m).toArray (50) (0, 0)) := ((grown_putF (grown_refl (putF wr g i m) (some g)) i x).block _ (lt_of_blk hm2) (fun e => by injection e with e; omega)).trans hm2
        have hB3 : Below w.heap.size w (putF (putF wr g i m) g i x) := hB2.grown (grown_putF (grown_refl (putF wr g i m) (some g)) i x) hB2.size (fun k e => by cases e; omega)
        have HR2 := Lib.hid hR2
        have HM3 := Lib.hid hm3
        have HB3 := Lib.hid hB3
        clear hR1 hR2 hset hm2 hm3 hB2 hB3 hxi ht1 htl hLl hcell hm hR hBi
        go_wp2
        go_roundg (gk - 1)
        case measure => omega
        case rel => exact ⟨i + 1, by omega, by go_num, HR2.out, HM3.out, HB3.out⟩
      · have hxi : (xs ++ [m, m])[i]'(by omega) = m := by
          rw [List.getElem_append_right (by omega)]
          have : i - xs.length = 0 ∨ i - xs.length = 1 := by omega
          rcases this with h | h <;> simp [h]
        rw [hxi] at ht1
        rw [← ht1] at hR1
        have HR1 := Lib.hid hR1
        have HM2 := Lib.hid hm2
        have HB2 := Lib.hid hB2
        clear hR1 hm2 hB2 hxi ht1 htl hLl hm hR hBi
        go_wp2
        go_roundg (gk - 1)
        case measure => omega
        case rel => exact ⟨i + 1, by omega, by go_num, HR1.out, HM2.out, HB2.out⟩
    · have hie : i = xs.length + 2 := by omega
      subst hie
      rw [List.take_of_length_le (by simp)] at hR
      have HR := Lib.hid hR
      have HB := Lib.hid hBi
      clear hR hBi hm
      go_wp2
      go_ret
      exact ⟨g, rfl, Nat.le_of_lt hgw, HR.out, HB.out⟩
end Go.Proofs.YtenocakpipppiaaGreatDoor
