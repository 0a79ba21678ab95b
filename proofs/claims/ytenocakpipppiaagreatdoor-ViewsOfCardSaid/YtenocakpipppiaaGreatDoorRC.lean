/- Does no sheet share memory with another one: two sheets of facts in rows apart. Condition: fewer than 1000000 facts. -/
import Derived.Test.YtenocakpipppiaaGreatDoorRB
namespace Go.Proofs.YtenocakpipppiaaGreatDoor
open Go.RowKit Go.Shelf Go.Herb
attribute [local go_sem ↓] Go.wp_at_zero Go.wp_at_succ

/-- A sheet's list: none, or in a row of its own, from B0 on, ahead of b. -/
def Sh (B0 b : Nat) (w : World) (a : Option Addr) (n c : Nat) (zs : List Fc) : Prop :=
  (a = none ∧ n = 0 ∧ c = 0 ∧ zs = []) ∨ ∃ g cap, a = some ⟨g, 0, none⟩ ∧ B0 ≤ g ∧ g < b ∧ Row fc 6 (50) w g cap zs ∧ n ≤ c ∧ c ≤ zs.length ∧ zs.length < 1000000
def blkOf (a : Option Addr) : Option Nat := a.map (fun x => x.block)
theorem Sh.kept {B0 b : Nat} {w w' : World} {a : Option Addr} {n c : Nat} {zs : List Fc} {row : Option Nat} (h : Sh B0 b w a n c zs) (hg : w.grownBy w' row) (hne : ∀ g, blkOf a = some g → row ≠ some g) : Sh B0 b w' a n c zs := by
  rcases h with h | ⟨g, cap, rfl, h1, h2, h3, h4⟩
  · exact .inl h
  · exact .inr ⟨g, cap, rfl, h1, h2, h3.same (hg.block g h3.lt (fun e => hne g rfl e.symm)), h4⟩
def Full (n : Nat) (m : Fc) (zs : List Fc) : Prop := ∀ q, q < n → zs[q]? = some m
theorem Filled.full {n : Nat} {m : Fc} {zs ys : List Fc} (h : Filled 0 n m zs ys) : Full n m ys := fun q hq => by rw [h.2 q, if_pos (by omega)]
theorem Filled.full2 {n c : Nat} {m : Fc} {zs ys : List Fc} (h : Filled n c m zs ys) (hf : Full n m zs) : Full c m ys := fun q hq => by
  rw [h.2 q]
  by_cases h1 : n ≤ q ∧ q < c
  · rw [if_pos h1]
  · rw [if_neg h1]; exact hf q (by omega)

theorem paintS_any (m : Fc) (B0 b : Nat) (a : Option Addr) (n c : Nat) (zs : List Fc) (w : World) (h : Sh B0 b w a n c zs) :
    Calls Tryz.prog (120) #[sheetV a n c m] w fun e w' => (∃ v, e = .returned v) ∧ (∃ ys, Filled 0 n m zs ys ∧ Sh B0 b w' a n c ys) ∧ w.grownBy w' (blkOf a) := by
  rcases h with ⟨rfl, rfl, rfl, rfl⟩ | ⟨g, cap, rfl, h1, h2, h3, h4, h5, h6⟩
  · exact (paint_none m w).mono fun e w' ⟨hv, hb⟩ => ⟨hv, ⟨[], Filled.none _ _ _, .inl ⟨rfl, rfl, rfl, rfl⟩⟩, grown_of_below hb⟩
  · refine (paint_any m g n c cap zs w h3 (by omega) h6).mono ?_
    rintro e w' ⟨hv, ys, hF, hR, hg⟩
    exact ⟨hv, ⟨ys, hF, .inr ⟨g, cap, rfl, h1, h2, hR, h4, by rw [hF.1]; exact h5, by rw [hF.1]; exact h6⟩⟩, hg⟩
theorem spillS_any (m : Fc) (B0 b : Nat) (a : Option Addr) (n c : Nat) (zs : List Fc) (w : World) (h : Sh B0 b w a n c zs) :
    Calls Tryz.prog (121) #[sheetV a n c m] w fun e w' => (∃ v, e = .returned v) ∧ (∃ ys, Filled n c m zs ys ∧ Sh B0 b w' a n c ys) ∧ w.grownBy w' (blkOf a) := by
  rcases h with ⟨rfl, rfl, rfl, rfl⟩ | ⟨g, cap, rfl, h1, h2, h3, h4, h5, h6⟩
  · exact (spill_none m w).mono fun e w' ⟨hv, hb⟩ => ⟨hv, ⟨[], Filled.none _ _ _, .inl ⟨rfl, rfl, rfl, rfl⟩⟩, grown_of_below hb⟩
  · refine (spill_any m g n c cap zs w h3 h4 h5 h6).mono ?_
    rintro e w' ⟨hv, ys, hF, hR, hg⟩
    exact ⟨hv, ⟨ys, hF, .inr ⟨g, cap, rfl, h1, h2, hR, h4, by rw [hF.1]; exact h5, by rw [hF.1]; exact h6⟩⟩, hg⟩
theorem cleanS_any (m : Fc) (B0 b : Nat) (a : Option Addr) (n c : Nat) (zs : List Fc) (w : World) (h : Sh B0 b w a n c zs) (hf : Full c m zs) :
    Calls Tryz.prog (119) #[sheetV a n c m] w fun e w' => e = .returned (.bool true) ∧ Below w.heap.size w w' := by
  rcases h with ⟨rfl, rfl, rfl, rfl⟩ | ⟨g, cap, rfl, h1, h2, h3, h4, h5, h6⟩
  · exact clean_none m w
  · exact clean_any m g n c cap zs w h3 h4 h5 h6 hf

theorem Sh.from {B0 b : Nat} {w : World} {a : Option Addr} {n c : Nat} {zs : List Fc} (h : Sh B0 b w a n c zs) (g : Nat) (hg : blkOf a = some g) : B0 ≤ g ∧ g < b := by
  rcases h with ⟨rfl, _⟩ | ⟨g', cap, rfl, h1, h2, _⟩
  · cases hg
  · cases hg; exact ⟨h1, h2⟩

/-- What a step of the book leaves. -/
structure ApState (B0 b gb : Nat) (w wr : World) (a1 : Option Addr) (n1 c1 : Nat) (y1 : List Fc) (a2 : Option Addr) (n2 c2 : Nat) (y2 : List Fc) : Prop where
  s1 : Sh B0 b wr a1 n1 c1 y1
  s2 : Sh B0 b wr a2 n2 c2 y2
  hb : wr.heap[b]? = w.heap[b]?
  hgb : wr.heap[gb]? = w.heap[gb]?
  bel : Below B0 w wr
  hle : w.heap.size ≤ wr.heap.size
section
variable {B0 b gb : Nat} {w wr w' : World} {a1 : Option Addr} {n1 c1 : Nat} {y1 y1' : List Fc} {a2 : Option Addr} {n2 c2 : Nat} {y2 y2' : List Fc}
theorem ApState.next1 (h : ApState B0 b gb w wr a1 n1 c1 y1 a2 n2 c2 y2) (hbl : b < w.heap.size) (hgl : gb < w.heap.size) (hlt : b < gb) (hB0 : B0 ≤ w.heap.size) (hne : ∀ g, blkOf a1 = some g → blkOf a2 ≠ some g) (hs : Sh B0 b w' a1 n1 c1 y1') (hg : wr.grownBy w' (blkOf a1)) : ApState B0 b gb w w' a1 n1 c1 y1' a2 n2 c2 y2 :=
  ⟨hs, h.s2.kept hg (fun g e1 e2 => hne g e2 e1), (hg.block b (Nat.lt_of_lt_of_le hbl h.hle) (fun e => by have := (hs.from b e.symm).2; omega)).trans h.hb, (hg.block gb (Nat.lt_of_lt_of_le hgl h.hle) (fun e => by have := (hs.from gb e.symm).2; omega)).trans h.hgb, h.bel.grown hg (Nat.le_trans hB0 h.hle) (fun k e => (hs.from k e).1), Nat.le_trans h.hle hg.size⟩
theorem ApState.next2 (h : ApState B0 b gb w wr a1 n1 c1 y1 a2 n2 c2 y2) (hbl : b < w.heap.size) (hgl : gb < w.heap.size) (hlt : b < gb) (hB0 : B0 ≤ w.heap.size) (hne : ∀ g, blkOf a1 = some g → blkOf a2 ≠ some g) (hs : Sh B0 b w' a2 n2 c2 y2') (hg : wr.grownBy w' (blkOf a2)) : ApState B0 b gb w w' a1 n1 c1 y1 a2 n2 c2 y2' :=
  ⟨h.s1.kept hg (fun g e1 e2 => hne g e1 e2), hs, (hg.block b (Nat.lt_of_lt_of_le hbl h.hle) (fun e => by have := (hs.from b e.symm).2; omega)).trans h.hb, (hg.block gb (Nat.lt_of_lt_of_le hgl h.hle) (fun e => by have := (hs.from gb e.symm).2; omega)).trans h.hgb, h.bel.grown hg (Nat.le_trans hB0 h.hle) (fun k e => (hs.from k e).1), Nat.le_trans h.hle hg.size⟩
theorem ApState.same (h : ApState B0 b gb w wr a1 n1 c1 y1 a2 n2 c2 y2) (hbl : b < w.heap.size) (hgl : gb < w.heap.size) (hB0 : B0 ≤ w.heap.size) (hg : Below wr.heap.size wr w') : ApState B0 b gb w w' a1 n1 c1 y1 a2 n2 c2 y2 :=
  ⟨h.s1.kept (grown_of_below (row := none) hg) (fun _ _ e => by cases e), h.s2.kept (grown_of_below (row := none) hg) (fun _ _ e => by cases e), (hg.block b (Nat.lt_of_lt_of_le hbl h.hle)).trans h.hb, (hg.block gb (Nat.lt_of_lt_of_le hgl h.hle)).trans h.hgb, h.bel.trans (hg.mono (Nat.le_trans hB0 h.hle)), Nat.le_trans h.hle hg.size⟩
end

set_option maxRecDepth 100000 in
set_option maxHeartbeats 4000000 in
theorem apart_any (B0 b B : Nat) (a1 : Option Addr) (n1 c1 : Nat) (m1 : Fc) (z1 : List Fc) (a2 : Option Addr) (n2 c2 : Nat) (m2 : Fc) (z2 : List Fc) (w : World)
    (hB : BookIs w b B [.iface (82) (sheetV a1 n1 c1 m1), .iface (82) (sheetV a2 n2 c2 m2)])
    (h1 : Sh B0 b w a1 n1 c1 z1) (h2 : Sh B0 b w a2 n2 c2 z2) (hne : ∀ g, blkOf a1 = some g → blkOf a2 ≠ some g) (hB0 : B0 ≤ w.heap.size) :
    Calls Tryz.prog (20) #[.pointer (some ⟨b, 0, none⟩)] w fun e w' => e = .returned (.bool true) ∧ Below B0 w w' := by
  obtain ⟨⟨v, hb, hown⟩, hbB, hle⟩ := hB
  obtain ⟨_, ⟨_, h0⟩ | ⟨gb, cap, cur, rfl, hgB, hgb, hnc, hcm, hcs, htk⟩⟩ := hown
  · cases h0
  have hbl : b < w.heap.size := lt_of_blk hb
  have hgl : gb < w.heap.size := lt_of_blk hgb
  have hlt : b < gb := by omega
  have k0 : w.cell? ⟨b, 0, none⟩ = some (.slice (some ⟨gb, 0, none⟩) 2 cap) := cell_of_blk hb 0
  have k1 : w.cell? ⟨gb, 0, none⟩ = some (.iface (82) (sheetV a1 n1 c1 m1)) := by
    rw [cell_of_blk hgb]
    have := congrArg (fun l => l[0]?) htk
    simpa using this
  have k2 : w.cell? ⟨gb, 1, none⟩ = some (.iface (82) (sheetV a2 n2 c2 m2)) := by
    rw [cell_of_blk hgb]
    have := congrArg (fun l => l[1]?) htk
    simpa using this
  have hst : ApState B0 b gb w w a1 n1 c1 z1 a2 n2 c2 z2 := ⟨h1, h2, rfl, rfl, Below.refl _ _, Nat.le_refl _⟩
  have HC : Hid (∀ W : World, W.heap[b]? = w.heap[b]? → W.heap[gb]? = w.heap[gb]? → W.cell? ⟨b, 0, none⟩ = some (.slice (some ⟨gb, 0, none⟩) 2 cap) ∧ W.cell? ⟨gb, 0, none⟩ = some (.iface (82) (sheetV a1 n1 c1 m1)) ∧ W.cell? ⟨gb, 1, none⟩ = some (.iface (82) (sheetV a2 n2 c2 m2))) := Lib.hid (fun W e1 e2 => ⟨(World.cell?_of_block (w := w) e1).trans k0, (World.cell?_of_block (w := w) e2).trans k1, (World.cell?_of_block (w := w) e2).trans k2⟩)
  have HST := Lib.hid hst
  have HNE := Lib.hid hne
  clear hb hcs hgb htk h1 h2 hst hne hcm k1 k2
  go_enter Tryz.func20, Tryz.ntmps20
  go_wp2_with fail
  go_loopg [3] 2 (fun gk iv wr => ∃ (i : Nat) (y1 y2 : List Fc), i + gk = 2 ∧ iv = .int .i64 i ∧ ApState B0 b gb w wr a1 n1 c1 y1 a2 n2 c2 y2 ∧ Hid (True) ∧ Hid (True) ∧ Hid (0 < i → Full n1 m1 y1) ∧ Hid (1 < i → Full n2 m2 y2))
  case atStart => exact ⟨0, z1, z2, by omega, rfl, HST.out, Lib.hid trivial, Lib.hid trivial, Lib.hid (fun h => by omega), Lib.hid (fun h => by omega)⟩
  case round =>
    clear HST k0
    obtain ⟨i, y1, y2, hi, rfl, hS, HQ1, HQ2, HQ3, HQ4⟩ := hrel
    have HS := Lib.hid hS
    obtain ⟨k0, k1, k2⟩ := HC.out _ hS.hb hS.hgb
    clear hS
    have hi3 : i = 0 ∨ i = 1 ∨ i = 2 := by omega
    rcases hi3 with rfl | rfl | rfl
    · go_wp2_with fail
      refine (paintS_any m1 B0 b a1 n1 c1 y1 _ HS.out.s1).mono ?_
      rintro e w1 ⟨⟨v, rfl⟩, ⟨ys, HF, hs⟩, hg⟩
      have HS2 := Lib.hid (HS.out.next1 hbl hgl hlt hB0 HNE.out hs hg)
      have HFF := Lib.hid (HF.full)
      clear HS hs hg HF k0 k1 k2
      go_wp2
      go_roundg (gk - 1)
      case measure => omega
      case rel => exact ⟨1, ys, y2, by omega, by go_num, HS2.out, Lib.hid trivial, Lib.hid trivial, Lib.hid (fun _ => HFF.out), Lib.hid (fun h => absurd h (by omega))⟩
    · go_wp2_with fail
      refine (paintS_any m2 B0 b a2 n2 c2 y2 _ HS.out.s2).mono ?_
      rintro e w1 ⟨⟨v, rfl⟩, ⟨ys, HF, hs⟩, hg⟩
      have HS2 := Lib.hid (HS.out.next2 hbl hgl hlt hB0 HNE.out hs hg)
      have HFF := Lib.hid (HF.full)
      clear HS hs hg HF k0 k1 k2
      go_wp2
      go_roundg (gk - 1)
      case measure => omega
      case rel => exact ⟨2, y1, ys, by omega, by go_num, HS2.out, Lib.hid trivial, Lib.hid trivial, Lib.hid (fun _ => HQ3.out (by omega)), Lib.hid (fun _ => HFF.out)⟩
    · have HP1 : Hid (Full n1 m1 y1) := Lib.hid (HQ3.out (by omega))
      have HP2 : Hid (Full n2 m2 y2) := Lib.hid (HQ4.out (by omega))
      clear HQ1 HQ2 HQ3 HQ4
      go_wp2_with fail
      go_loopg [4] 2 (fun gk iv wr => ∃ (i : Nat) (y1 y2 : List Fc), i + gk = 2 ∧ iv = .int .i64 i ∧ ApState B0 b gb w wr a1 n1 c1 y1 a2 n2 c2 y2 ∧ Hid (Full n1 m1 y1) ∧ Hid (Full n2 m2 y2) ∧ Hid (0 < i → Full c1 m1 y1) ∧ Hid (1 < i → Full c2 m2 y2))
      case atStart => exact ⟨0, y1, y2, by omega, rfl, HS.out, HP1, HP2, Lib.hid (fun h => by omega), Lib.hid (fun h => by omega)⟩
      case round =>
        clear HS HP1 HP2 k0 k1 k2
        obtain ⟨i, y1, y2, hi, rfl, hS, HQ1, HQ2, HQ3, HQ4⟩ := hrel
        have HS := Lib.hid hS
        obtain ⟨k0, k1, k2⟩ := HC.out _ hS.hb hS.hgb
        clear hS
        have hi3 : i = 0 ∨ i = 1 ∨ i = 2 := by omega
        rcases hi3 with rfl | rfl | rfl
        · go_wp2_with fail
          refine (spillS_any m1 B0 b a1 n1 c1 y1 _ HS.out.s1).mono ?_
          rintro e w1 ⟨⟨v, rfl⟩, ⟨ys, HF, hs⟩, hg⟩
          have HS2 := Lib.hid (HS.out.next1 hbl hgl hlt hB0 HNE.out hs hg)
          have HFF := Lib.hid (HF.full2 HQ1.out)
          have HKN := Lib.hid (show Full n1 m1 ys from fun q hq => by rw [HF.2 q, if_neg (by omega)]; exact HQ1.out q hq)
          clear HS hs hg HF k0 k1 k2
          go_wp2
          go_roundg (gk - 1)
          case measure => omega
          case rel => exact ⟨1, ys, y2, by omega, by go_num, HS2.out, Lib.hid (HKN.out), HQ2, Lib.hid (fun _ => HFF.out), Lib.hid (fun h => absurd h (by omega))⟩
        · go_wp2_with fail
          refine (spillS_any m2 B0 b a2 n2 c2 y2 _ HS.out.s2).mono ?_
          rintro e w1 ⟨⟨v, rfl⟩, ⟨ys, HF, hs⟩, hg⟩
          have HS2 := Lib.hid (HS.out.next2 hbl hgl hlt hB0 HNE.out hs hg)
          have HFF := Lib.hid (HF.full2 HQ2.out)
          have HKN := Lib.hid (show Full n2 m2 ys from fun q hq => by rw [HF.2 q, if_neg (by omega)]; exact HQ2.out q hq)
          clear HS hs hg HF k0 k1 k2
          go_wp2
          go_roundg (gk - 1)
          case measure => omega
          case rel => exact ⟨2, y1, ys, by omega, by go_num, HS2.out, HQ1, Lib.hid (HKN.out), Lib.hid (fun _ => HQ3.out (by omega)), Lib.hid (fun _ => HFF.out)⟩
        · have HP1 : Hid (Full c1 m1 y1) := Lib.hid (HQ3.out (by omega))
          have HP2 : Hid (Full c2 m2 y2) := Lib.hid (HQ4.out (by omega))
          clear HQ1 HQ2 HQ3 HQ4
          go_wp2_with fail
          go_loopg [5] 2 (fun gk iv wr => ∃ (i : Nat) (y1 y2 : List Fc), i + gk = 2 ∧ iv = .int .i64 i ∧ ApState B0 b gb w wr a1 n1 c1 y1 a2 n2 c2 y2 ∧ Hid (Full c1 m1 y1) ∧ Hid (Full c2 m2 y2) ∧ Hid (True) ∧ Hid (True))
          case atStart => exact ⟨0, y1, y2, by omega, rfl, HS.out, HP1, HP2, Lib.hid trivial, Lib.hid trivial⟩
          case round =>
            clear HS HP1 HP2 k0 k1 k2
            obtain ⟨i, y1, y2, hi, rfl, hS, HQ1, HQ2, HQ3, HQ4⟩ := hrel
            have HS := Lib.hid hS
            obtain ⟨k0, k1, k2⟩ := HC.out _ hS.hb hS.hgb
            clear hS
            have hi3 : i = 0 ∨ i = 1 ∨ i = 2 := by omega
            rcases hi3 with rfl | rfl | rfl
            · go_wp2_with fail
              refine (cleanS_any m1 B0 b a1 n1 c1 y1 _ HS.out.s1 HQ1.out).mono ?_
              rintro e w1 ⟨rfl, hg⟩
              have HS2 := Lib.hid (HS.out.same hbl hgl hB0 hg)
              clear HS hg k0 k1 k2
              go_wp2
              go_roundg (gk - 1)
              case measure => omega
              case rel => exact ⟨1, y1, y2, by omega, by go_num, HS2.out, HQ1, HQ2, Lib.hid trivial, Lib.hid trivial⟩
            · go_wp2_with fail
              refine (cleanS_any m2 B0 b a2 n2 c2 y2 _ HS.out.s2 HQ2.out).mono ?_
              rintro e w1 ⟨rfl, hg⟩
              have HS2 := Lib.hid (HS.out.same hbl hgl hB0 hg)
              clear HS hg k0 k1 k2
              go_wp2
              go_roundg (gk - 1)
              case measure => omega
              case rel => exact ⟨2, y1, y2, by omega, by go_num, HS2.out, HQ1, HQ2, Lib.hid trivial, Lib.hid trivial⟩
            · have HB := Lib.hid HS.out.bel
              go_wp2
              go_ret
              exact ⟨rfl, HB.out⟩
end Go.Proofs.YtenocakpipppiaaGreatDoor
