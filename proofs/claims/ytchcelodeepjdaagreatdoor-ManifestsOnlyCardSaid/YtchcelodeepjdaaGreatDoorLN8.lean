/- lines.parts.formed: its walk. Condition: the list's cells lie. · strings.Compare, laid (written by the kit's lay-plain, cut out). No condition. · lines.byName; slices.BinarySearchFunc at branches. Condition: fewer than 1000000 branches, sorted. · strings.Trim, laid (written by the kit's lay-plain). No condition. · lines.isName. Condition: none but a string's length that an int holds. · A tree's branches as a plain list: names rise, each with a line of its own. No condition. -/
import Derived.Test.YtchcelodeepjdaaGreatDoorLN4
import Derived.Shelf.Small.Strs
import Derived.Test.YtchcelodeepjdaaGreatDoorProg
import Derived.Shelf.Strings.SlTrimAscii
import Derived.Test.YtchcelodeepjdaaGreatDoorMp
namespace Go.Proofs.YtchcelodeepjdaaGreatDoor.Ln
open Go.RowKit Go.Herb

set_option maxRecDepth 100000 in
set_option maxHeartbeats 2000000 in
theorem formed_any (ba : Option Addr) (bn bc : Nat) (la : Option Addr) (lc n : Nat) (xs : List Ln) (w : World) (hE : Lns w la xs) (hn : xs.length = n) (hle : n ≤ lc) (hmx : lc ≤ maxLen) :
    Calls Tryz.prog (70) #[partsV ba bn bc la n lc] w (FormedPost xs w) := by
  obtain ⟨W, hW⟩ : ∃ W : World, W = w.alloc (.cells #[.slice ba bn bc, .slice la n lc] (133)) := ⟨_, rfl⟩
  have hB : Below w.heap.size w W := by rw [hW]; exact (Below.refl _ _).alloc (Nat.le_refl _) _
  have hx0 : W.heap[w.heap.size]? = some (.cells #[.slice ba bn bc, .slice la n lc] (133) (0, 0)) := by rw [hW]; exact blk_new_at rfl _
  have HB := Lib.hid hB
  have HE := Lib.hid hE
  have HN := Lib.hid hn
  have HC : Hid (∀ u, Below W.heap.size W u → u.cell? ⟨w.heap.size, 1, none⟩ = some (.slice la n lc)) := Lib.hid (fun u hu => by
    have h1 := cell_of_blk (blk_below hx0 hu (lt_of_blk hx0)) 1
    simp at h1
    exact h1)
  unfold maxLen at hmx
  have HW := Lib.hid hW
  have hneq := run_neqLn
  have hgt := guardLn
  clear hB hx0 hE hn
  have hout : ¬ (FormedL xs ∧ xs.length ≤ 48) → Hid (∀ u, Below w.heap.size w u → FormedPost xs w (.returned (.bool false)) u) := fun h => Lib.hid (fun u hu => ⟨false, rfl, ⟨(fun h => by cases h), fun h2 => absurd h2 h⟩, hu⟩)
  have HOUT := Lib.hid hout
  clear hout
  go_enter Tryz.func70, Tryz.ntmps70
  by_cases h1 : n < 1
  · have HF := HOUT.out (fun h => by
      have h2 := h.1.first
      obtain ⟨h3, _⟩ := List.getElem?_eq_some_iff.1 h2
      have := HN.out
      omega)
    have h1' : (n : Int) < 1 := by omega
    clear hneq hgt
    go_wp2_with fail
    go_ret
    rw [← HW.out]
    exact HF.out _ HB.out
  · by_cases h2 : 48 < n
    · have HF := HOUT.out (fun h => by have := HN.out; omega)
      have h1' : ¬ (n : Int) < 1 := by omega
      have h2' : (48 : Int) < (n : Int) := by omega
      clear hneq hgt
      go_wp2_with fail
      go_ret
      rw [← HW.out]
      exact HF.out _ HB.out
    · have hn0 : 0 < xs.length := by have := HN.out; omega
      have h1' : ¬ (n : Int) < 1 := by omega
      have h2' : ¬ (48 : Int) < (n : Int) := by omega
      have hidx : (0 : Int) < (n : Int) := by omega
      obtain ⟨b, o, rfl, hlb, hcell⟩ := HE.out.get 0 hn0
      have x0 := (HB.out.cell (p := ⟨b, _, none⟩) hlb).trans (hcell 0 _ rfl)
      have x1 := (HB.out.cell (p := ⟨b, _, none⟩) hlb).trans (hcell 1 _ rfl)
      simp only [Nat.zero_mul, Nat.add_zero] at x0 x1
      have HX := Lib.hid (List.getElem?_eq_getElem hn0)
      generalize xs[0] = x at x0 x1 HX
      rw [HW.out] at x0 x1
      obtain ⟨a2, hsl, ha2⟩ := slice_hiL (b := b) (o := o) hle (by omega : 1 ≤ n)
      clear hcell
      by_cases hf : x.1 = 0 ∧ x.2 = 0
      · have hfd : decide (x.1 = 0 ∧ x.2 = 0) = true := decide_eq_true hf
        have hf1 : decide (x.1 = 0) = true := decide_eq_true hf.1
        have hf2 : decide (x.2 = 0) = true := decide_eq_true hf.2
        have HX0 := Lib.hid (show xs[0]? = some (0, 0) by rw [HX.out]; exact congrArg some (Prod.ext hf.1 hf.2))
        have HP0 := Lib.hid (show FormedL (xs.take 1) by
          have ht : xs.take 1 = [(0, 0)] := by
            cases hxs : xs with
            | nil => rw [hxs] at hn0; simp at hn0
            | cons z t =>
              have := HX0.out
              rw [hxs] at this
              simp at this
              simp [this]
          rw [ht]
          exact ⟨rfl, List.pairwise_singleton _ _, fun i y hi hy => by
            rw [List.getElem?_eq_none (by simp; omega)] at hy; cases hy⟩)
        clear hf
        go_wp2_with fail
        rw [← HW.out]
        clear x0 x1 hneq hgt hfd hf1 hf2
        obtain ⟨m, hm⟩ : ∃ m, m = n - 1 := ⟨_, rfl⟩
        rw [← hm] at hsl ⊢
        have hlc : m + 1 = n := by omega
        clear hm hidx
        go_loopg [28] m (fun gk iv wr => ∃ i : Nat, i + gk = m ∧ iv = .int .i64 i ∧ Hid (FormedL (xs.take (i + 1))) ∧ Hid (Below W.heap.size W wr))
        case atStart => exact ⟨0, by omega, rfl, HP0, Lib.hid (Below.refl _ _)⟩
        case round =>
          obtain ⟨i, hi, rfl, HFI, HBW⟩ := hrel
          have HBw := Lib.hid (HB.out.trans (HBW.out.mono HB.out.size))
          by_cases hlt : i < m
          · have hil : i < xs.length := by have := HN.out; omega
            have hil2 : i + 1 < xs.length := by have := HN.out; omega
            have ha2' := ha2 (by omega)
            obtain ⟨b', o', he', _, hcy⟩ := HE.out.get i hil
            injection he' with he'
            cases he'
            obtain ⟨b', o', he', _, hcx⟩ := HE.out.get (i + 1) hil2
            injection he' with he'
            cases he'
            have HY := Lib.hid (List.getElem?_eq_getElem hil)
            have HX2 := Lib.hid (List.getElem?_eq_getElem hil2)
            generalize xs[i] = y at HY hcy
            generalize xs[i + 1] = z at HX2 hcx
            have HCE : Hid (∀ u, Below wr.heap.size wr u → u.cell? ⟨b, o + i * 2, none⟩ = some (.int .u64 y.1) ∧ u.cell? ⟨b, o + 2 + i * 2, none⟩ = some (.int .u64 z.1) ∧ u.cell? ⟨b, o + 2 + i * 2 + 1, none⟩ = some (.int .u64 z.2) ∧ u.cell? ⟨w.heap.size, 1, none⟩ = some (.slice (some ⟨b, o, none⟩) n lc)) := Lib.hid (fun u hu => by
              have hu2 := HBw.out.trans (hu.mono HBw.out.size)
              have f0 := (hu2.cell (p := ⟨b, _, none⟩) hlb).trans (hcy 0 _ rfl)
              have f1 := (hu2.cell (p := ⟨b, _, none⟩) hlb).trans (hcx 0 _ rfl)
              have f2 := (hu2.cell (p := ⟨b, _, none⟩) hlb).trans (hcx 1 _ rfl)
              rw [show o + (i + 1) * 2 = o + 2 + i * 2 by omega] at f1 f2
              exact ⟨f0, f1, f2, HC.out u (HBW.out.trans (hu.mono HBW.out.size))⟩)
            obtain ⟨g0, g1, g2, g3⟩ := HCE.out wr (Below.refl _ _)
            obtain ⟨-, -, -, g4⟩ := HCE.out (wr.alloc (.cells #[.int .u64 z.1, .int .u64 z.2] (53))) ((Below.refl _ _).alloc (Nat.le_refl _) _)
            have hi0 : (0 : Int) ≤ (i : Int) := by omega
            have hi1 : (i : Int) < ((n - 1 : Nat) : Int) := by omega
            have hi2 : (i : Int) < (n : Int) := by omega
            have hi3 : (i : Int) < (m : Int) := by omega
            have hw1 : IntKind.i64.wrap ((i : Int) + 1) = (i : Int) + 1 := IntWalk.i64_in _ (by omega)
            have hlo := slice_loL (b := b) (o := o) (n := n) (lc := lc) (k := i + 1) (z := (i : Int) + 1) (by omega) (by omega) (by omega)
            obtain ⟨X, hX⟩ : ∃ X : World, X = (wr.alloc (.cells #[.int .u64 z.1, .int .u64 z.2] (53))).alloc (.cells #[.slice none 0 0, .slice (some ⟨b, o, none⟩) (i + 1) lc] (133)) := ⟨_, rfl⟩
            have hXb : Below wr.heap.size wr X := by rw [hX]; exact ((Below.refl _ _).alloc (Nat.le_refl _) _).alloc (by simp) _
            have hXl : X.heap[wr.heap.size]? = some (.cells #[.int .u64 z.1, .int .u64 z.2] (53) (0, 0)) := by
              rw [hX]
              exact blk_below (blk_new_at rfl _) ((Below.refl _ _).alloc (Nat.le_refl _) _) (by simp)
            have hXp : X.heap[wr.heap.size + 1]? = some (.cells #[.slice none 0 0, .slice (some ⟨b, o, none⟩) (i + 1) lc] (133) (0, 0)) := by rw [hX]; exact blk_new_at (by simp) _
            have HXB := Lib.hid hXb
            have HS : Hid (∀ u, Below X.heap.size X u → u.cell? ⟨b, o + i * 2, none⟩ = some (.int .u64 y.1) ∧ u.cell? ⟨w.heap.size, 1, none⟩ = some (.slice (some ⟨b, o, none⟩) n lc) ∧ u.cell? ⟨wr.heap.size, 0, none⟩ = some (.int .u64 z.1) ∧ u.cell? ⟨wr.heap.size, 1, none⟩ = some (.int .u64 z.2) ∧ u.cell? ⟨wr.heap.size + 1, 0, none⟩ = some (.slice none 0 0) ∧ u.cell? ⟨wr.heap.size + 1, 1, none⟩ = some (.slice (some ⟨b, o, none⟩) (i + 1) lc)) := Lib.hid (fun u hu => by
              have k1 := cell_of_blk (blk_below hXl hu (lt_of_blk hXl)) 0
              have k2 := cell_of_blk (blk_below hXl hu (lt_of_blk hXl)) 1
              have k3 := cell_of_blk (blk_below hXp hu (lt_of_blk hXp)) 0
              have k4 := cell_of_blk (blk_below hXp hu (lt_of_blk hXp)) 1
              simp at k1 k2 k3 k4
              obtain ⟨e0, -, -, e3⟩ := HCE.out u (hXb.trans (hu.mono hXb.size))
              exact ⟨e0, e3, k1, k2, k3, k4⟩)
            have hEX : Lns X (some ⟨b, o, none⟩) (xs.take (i + 1)) := (HE.out.take (i + 1)).ext (HBw.out.trans (hXb.mono HBw.out.size))
            have HLA : Hid (∀ u, Below X.heap.size X u → Calls Tryz.prog (98) #[partsV none 0 0 (some ⟨b, o, none⟩) (i + 1) lc, .int .u64 z.2] u (LinePost (xs.take (i + 1)) z.2 u)) := Lib.hid (fun u hu => line_any none 0 0 (some ⟨b, o, none⟩) lc (i + 1) (xs.take (i + 1)) z.2 u (hEX.ext hu) (by simp; omega) (by omega) HFI.out.srt)
            subst ha2'
            clear hcy hcx hXb hXl hXp hEX hil hil2
            go_wp2_with fail
            rw [← hX]
            clear hX g0 g1 g2 g3 g4
            have HDA := Lib.hid (show Below X.heap.size X X.drew from (Below.refl X.heap.size X).drew)
            have HWX := Lib.hid (show Below w.heap.size w X from HBw.out.trans (HXB.out.mono HBw.out.size))
            have HWX2 := Lib.hid (show Below W.heap.size W X from HBW.out.trans (HXB.out.mono HBW.out.size))
            by_cases hyz : y.1 < z.1
            · have d1 : decide (z.1 ≤ y.1) = false := decide_eq_false (by omega)
              cases hp : parL (xs.take (i + 1)) z.2 with
              | none =>
                have HLN := Lib.hid (show ∀ u, Below X.heap.size X u → Calls Tryz.prog (98) #[partsV none 0 0 (some ⟨b, o, none⟩) (i + 1) lc, .int .u64 z.2] u (fun e w' => e = .returned (.int .i64 (-1)) ∧ Below u.heap.size u w') from fun u hu => by
                  refine (HLA.out u hu).mono ?_
                  rintro e w' ⟨r, rfl, ⟨j, q, -, -, h3⟩ | ⟨rfl, -⟩, h2⟩
                  · rw [hp] at h3; cases h3
                  · exact ⟨rfl, h2⟩)
                have HF := HOUT.out (fun h => by
                  obtain ⟨-, q, hq⟩ := formed_not h.1 HY.out HX2.out
                  rw [hp] at hq; cases hq)
                clear hyz hp HLA
                go_wp2_with fail
                go_region_held3 (fun u => u.cell? ⟨b, o + i * 2, none⟩ = some (.int .u64 y.1) ∧ u.cell? ⟨w.heap.size, 1, none⟩ = some (.slice (some ⟨b, o, none⟩) n lc) ∧ u.cell? ⟨wr.heap.size, 0, none⟩ = some (.int .u64 z.1) ∧ u.cell? ⟨wr.heap.size, 1, none⟩ = some (.int .u64 z.2) ∧ u.cell? ⟨wr.heap.size + 1, 0, none⟩ = some (.slice none 0 0) ∧ u.cell? ⟨wr.heap.size + 1, 1, none⟩ = some (.slice (some ⟨b, o, none⟩) (i + 1) lc)) (first | exact HS.out _ HDA.out | exact HS.out _ hbu) (first | (go_at_call 98; (with_reducible refine (HLN.out _ HDA.out).mono ?_); rintro e w5 ⟨rfl, hb5⟩; have hbu := HDA.out.trans (hb5.mono HDA.out.size)))
                all_goals
                  have HBU := Lib.hid (HWX.out.trans (hbu.mono HWX.out.size))
                  go_wp2
                  go_ret
                  exact HF.out _ HBU.out
              | some q =>
                have HLN := Lib.hid (show ∀ u, Below X.heap.size X u → Calls Tryz.prog (98) #[partsV none 0 0 (some ⟨b, o, none⟩) (i + 1) lc, .int .u64 z.2] u (fun e w' => ∃ j : Nat, e = .returned (.int .i64 (j : Int)) ∧ Below u.heap.size u w') from fun u hu => by
                  refine (HLA.out u hu).mono ?_
                  rintro e w' ⟨r, rfl, ⟨j, q, rfl, -, h3⟩ | ⟨-, h3⟩, h2⟩
                  · exact ⟨j, rfl, h2⟩
                  · rw [hp] at h3; cases h3)
                have HFN := Lib.hid (formed_next HFI.out HY.out HX2.out hyz hp)
                clear hyz hp HLA
                go_wp2_with fail
                go_region_held3 (fun u => u.cell? ⟨b, o + i * 2, none⟩ = some (.int .u64 y.1) ∧ u.cell? ⟨w.heap.size, 1, none⟩ = some (.slice (some ⟨b, o, none⟩) n lc) ∧ u.cell? ⟨wr.heap.size, 0, none⟩ = some (.int .u64 z.1) ∧ u.cell? ⟨wr.heap.size, 1, none⟩ = some (.int .u64 z.2) ∧ u.cell? ⟨wr.heap.size + 1, 0, none⟩ = some (.slice none 0 0) ∧ u.cell? ⟨wr.heap.size + 1, 1, none⟩ = some (.slice (some ⟨b, o, none⟩) (i + 1) lc)) (first | exact HS.out _ HDA.out | exact HS.out _ hbu) (first | (go_at_call 98; (with_reducible refine (HLN.out _ HDA.out).mono ?_); rintro e w5 ⟨j, rfl, hb5⟩; have hbu := HDA.out.trans (hb5.mono HDA.out.size)))
                all_goals
                  have HBU := Lib.hid (HWX2.out.trans (hbu.mono HWX2.out.size))
                  have hj0 : ¬ (j : Int) < 0 := by omega
                  go_wp2
                  go_roundg (gk - 1)
                  case measure => omega
                  case rel => exact ⟨i + 1, by omega, by go_num, HFN, HBU⟩
            · have d1 : decide (z.1 ≤ y.1) = true := decide_eq_true (by omega)
              have HF := HOUT.out (fun h => hyz (formed_not h.1 HY.out HX2.out).1)
              obtain ⟨k0, k1, k2, k3, k4, k5⟩ := HS.out X (Below.refl _ _)
              clear hyz HLA
              go_wp2_with fail
              go_quiet (fail)
              have HBU := Lib.hid (show Below w.heap.size w (X.drewN nq) from ⟨HWX.out.os, HWX.out.tape, HWX.out.output, HWX.out.size, HWX.out.block⟩)
              go_wp2
              go_ret
              exact HF.out _ HBU.out
          · have hie : xs.take (i + 1) = xs := List.take_of_length_le (by have := HN.out; omega)
            have HT := Lib.hid (show FormedPost xs w (.returned (.bool true)) wr from ⟨true, rfl, ⟨fun _ => ⟨by have := HFI.out; rwa [hie] at this, by have := HN.out; omega⟩, fun _ => rfl⟩, HBw.out⟩)
            clear hie
            go_wp2_with fail
            go_ret
            exact HT.out
      · have HF := HOUT.out (fun h => by
          have h2 := h.1.first
          rw [HX.out] at h2
          injection h2 with h2
          exact hf (by rw [h2]; exact ⟨rfl, rfl⟩))
        have hfd : decide (x.1 = 0 ∧ x.2 = 0) = false := decide_eq_false hf
        clear hf
        go_wp2_with fail
        go_ret
        rw [← HW.out]
        exact HF.out _ HB.out
end Go.Proofs.YtchcelodeepjdaaGreatDoor.Ln

namespace Go.Proofs
open Go Go.Shelf

end Go.Proofs

namespace Go.Herb
/-- A branch: its name, its line, its mark. -/
abbrev Br := ByteArray × Int × Int
def SrtB (l : List Br) : Prop := l.Pairwise (fun p q => p.1.toList < q.1.toList)
end Go.Herb
namespace Go.Proofs.YtchcelodeepjdaaGreatDoor.Ln
open Go.RowKit Go.Herb Go.Lib

def brc (x : Br) : List Value := [.string x.1, .int .u64 x.2.1, .int .u64 x.2.2]
theorem brc_len (x : Br) : (brc x).length = 3 := rfl
abbrev Brs (w : World) (a : Option Addr) (xs : List Br) : Prop := Els brc 3 w a xs
theorem cmpB_lt : ∀ (a b : List UInt8), compareBytes a b < 0 ↔ a < b
  | [], [] => by simp [compareBytes]
  | [], _ :: _ => by simp [compareBytes]
  | _ :: _, [] => by simp [compareBytes]
  | a :: l, b :: bs => by
    unfold compareBytes
    rw [List.cons_lt_cons_iff]
    by_cases h1 : a < b
    · simp [h1]
    · rw [if_neg h1]
      by_cases h2 : b < a
      · rw [if_pos h2]
        have h3 : a ≠ b := fun e => by rw [e] at h2; exact UInt8.lt_irrefl _ h2
        simp [h1, h3]
      · rw [if_neg h2, cmpB_lt l bs]
        have h3 : a = b := UInt8.le_antisymm (UInt8.not_lt.1 h2) (UInt8.not_lt.1 h1)
        simp [h3]

theorem cmpB_eq : ∀ (a b : List UInt8), compareBytes a b = 0 ↔ a = b
  | [], [] => by simp [compareBytes]
  | [], _ :: _ => by simp [compareBytes]
  | _ :: _, [] => by simp [compareBytes]
  | a :: l, b :: bs => by
    unfold compareBytes
    by_cases h1 : a < b
    · have h3 : a ≠ b := fun e => by rw [e] at h1; exact UInt8.lt_irrefl _ h1
      simp [h1, h3]
    · rw [if_neg h1]
      by_cases h2 : b < a
      · have h3 : a ≠ b := fun e => by rw [e] at h2; exact UInt8.lt_irrefl _ h2
        simp [h2, h3]
      · rw [if_neg h2, cmpB_eq l bs]
        have h3 : a = b := UInt8.le_antisymm (UInt8.not_lt.1 h2) (UInt8.not_lt.1 h1)
        simp [h3]
def cmpN (a b : ByteArray) : Int := compareBytes a.data.toList b.data.toList
theorem cmpN_lt (a b : ByteArray) : cmpN a b < 0 ↔ a.toList < b.toList := by unfold cmpN; rw [cmpB_lt, ByteArray.toList_eq, ByteArray.toList_eq]
theorem cmpN_eq (a b : ByteArray) : cmpN a b = 0 ↔ a.toList = b.toList := by unfold cmpN; rw [cmpB_eq, ByteArray.toList_eq, ByteArray.toList_eq]
theorem brc_srt {xs : List Br} (h : SrtB xs) {i j : Nat} (hi : i ≤ j) {y x : Br} (hy : xs[i]? = some y) (hx : xs[j]? = some x) : y.1.toList < x.1.toList ∨ y.1.toList = x.1.toList := by
  obtain ⟨h1, e1⟩ := List.getElem?_eq_some_iff.1 hy
  obtain ⟨h2, e2⟩ := List.getElem?_eq_some_iff.1 hx
  rcases Nat.lt_or_eq_of_le hi with hl | rfl
  · have := List.pairwise_iff_getElem.1 h i j h1 h2 hl
    rw [e1, e2] at this
    exact .inl this
  · rw [e1] at e2; rw [e2]; exact .inr rfl

def BbPost (xs : List Br) (k : ByteArray) (n : Nat) (w : World) (e : Ending) (w' : World) : Prop :=
  ∃ (i : Nat) (b : Bool), e = .returned (.tuple #[.int .i64 i, .bool b]) ∧ i ≤ n ∧ (∀ (j : Nat) (x : Br), j < i → xs[j]? = some x → x.1.toList < k.toList) ∧ (∀ (j : Nat) (x : Br), i ≤ j → xs[j]? = some x → ¬ x.1.toList < k.toList) ∧ (b = true ↔ ∃ p, xs[i]? = some p ∧ p.1.toList = k.toList) ∧ Below w.heap.size w w'

end Go.Proofs.YtchcelodeepjdaaGreatDoor.Ln

namespace Go.Proofs
open Go.Shelf
def Tryz.lays160_ren : Go.Shelf.Ren := ⟨fun | 160 => 116 | 232 => 139 | 231 => 138 | 227 => 140 | 234 => 142 | 233 => 141 | 236 => 144 | 235 => 143 | 228 => 157 | 271 => 160 | 151 => 159 | 197 => 158 | 120 => 169 | 152 => 168 | 260 => 167 | 137 => 172 | 119 => 173 | 224 => 174 | 225 => 175 | 217 => 176 | 266 => 177 | n => n, fun | 9 => 9 | 4 => 4 | 3 => 3 | 5 => 5 | 117 => 202 | 116 => 201 | 0 => 0 | 124 => 205 | 21 => 21 | 105 => 218 | 46 => 171 | 119 => 231 | 139 => 234 | 138 => 233 | n => n, fun | 3 => 1 | 4 => 2 | n => n⟩
theorem Tryz.lays160 : Go.Proofs.Lays.n160 Tryz.prog Tryz.lays160_ren := {
  mixed := by kernel_rfl
  f119 := Tryz.func173.trans (congrArg some (by kernel_rfl))
  f120 := Tryz.func169.trans (congrArg some (by kernel_rfl))
  f137 := Tryz.func172.trans (congrArg some (by kernel_rfl))
  f151 := Tryz.func159.trans (congrArg some (by kernel_rfl))
  f152 := Tryz.func168.trans (congrArg some (by kernel_rfl))
  f160 := Tryz.func116.trans (congrArg some (by kernel_rfl))
  f197 := Tryz.func158.trans (congrArg some (by kernel_rfl))
  f217 := Tryz.func176.trans (congrArg some (by kernel_rfl))
  f224 := Tryz.func174.trans (congrArg some (by kernel_rfl))
  f225 := Tryz.func175.trans (congrArg some (by kernel_rfl))
  f227 := Tryz.func140.trans (congrArg some (by kernel_rfl))
  f228 := Tryz.func157.trans (congrArg some (by kernel_rfl))
  f231 := Tryz.func138.trans (congrArg some (by kernel_rfl))
  f232 := Tryz.func139.trans (congrArg some (by kernel_rfl))
  f233 := Tryz.func141.trans (congrArg some (by kernel_rfl))
  f234 := Tryz.func142.trans (congrArg some (by kernel_rfl))
  f235 := Tryz.func143.trans (congrArg some (by kernel_rfl))
  f236 := Tryz.func144.trans (congrArg some (by kernel_rfl))
  f260 := Tryz.func167.trans (congrArg some (by kernel_rfl))
  f266 := Tryz.func177.trans (congrArg some (by kernel_rfl))
  f271 := Tryz.func160.trans (congrArg some (by kernel_rfl))
  t0 := Tryz.underlying0
  a0 := Tryz.isAgg0
  z0 := Tryz.sizeOf0
  v0 := Tryz.zeroValue0
  t3 := Tryz.underlying3
  a3 := Tryz.isAgg3
  z3 := Tryz.sizeOf3
  v3 := Tryz.zeroValue3
  t4 := Tryz.underlying4
  a4 := Tryz.isAgg4
  z4 := Tryz.sizeOf4
  v4 := Tryz.zeroValue4
  t5 := Tryz.underlying5
  a5 := Tryz.isAgg5
  z5 := Tryz.sizeOf5
  v5 := Tryz.zeroValue5
  t9 := Tryz.underlying9
  a9 := Tryz.isAgg9
  z9 := Tryz.sizeOf9
  v9 := Tryz.zeroValue9
  t21 := Tryz.underlying21
  a21 := Tryz.isAgg21
  z21 := Tryz.sizeOf21
  v21 := Tryz.zeroValue21
  t46 := Tryz.underlying171
  a46 := Tryz.isAgg171
  z46 := Tryz.sizeOf171
  v46 := Tryz.zeroValue171
  t105 := Tryz.underlying218
  a105 := Tryz.isAgg218
  z105 := Tryz.sizeOf218
  v105 := Tryz.zeroValue218
  t116 := Tryz.underlying201
  a116 := Tryz.isAgg201
  z116 := Tryz.sizeOf201
  t117 := Tryz.underlying202
  a117 := Tryz.isAgg202
  z117 := Tryz.sizeOf202
  v117 := Tryz.zeroValue202
  t119 := Tryz.underlying231
  a119 := Tryz.isAgg231
  z119 := Tryz.sizeOf231
  t124 := Tryz.underlying205
  a124 := Tryz.isAgg205
  z124 := Tryz.sizeOf205
  v124 := Tryz.zeroValue205
  t138 := Tryz.underlying233
  a138 := Tryz.isAgg233
  z138 := Tryz.sizeOf233
  v138 := Tryz.zeroValue233
  t139 := Tryz.underlying234
  a139 := Tryz.isAgg234
  z139 := Tryz.sizeOf234
  v139 := Tryz.zeroValue234
  g3 := by kernel_rfl
  g4 := by kernel_rfl }
end Go.Proofs

namespace Go.Herb
open Go
/-- The letters of a name. -/
def lettersL : List UInt8 := [97, 98, 99, 100, 101, 102, 103, 104, 105, 106, 107, 108, 109, 110, 111, 112, 113, 114, 115, 116, 117, 118, 119, 120, 121, 122, 48, 49, 50, 51, 52, 53, 54, 55, 56, 57]
/-- What may be a branch's name. -/
def nameB (s : ByteArray) : Bool := !s.toList.isEmpty && decide (s.size ≤ 12) && (Lib.trimS s.data.toList lettersL).isEmpty
theorem nameB_x : nameB ⟨#[120]⟩ = true := by unfold nameB; rw [ByteArray.toList_eq]; decide
end Go.Herb
namespace Go.Proofs.YtchcelodeepjdaaGreatDoor.Ln
open Go.RowKit Go.Herb Go.Lib

theorem trim_any (s : ByteArray) (w : World) (hs : s.size ≤ 9223372036854775807) :
    Calls Tryz.prog 116 #[.string s, .string { data := #[97, 98, 99, 100, 101, 102, 103, 104, 105, 106, 107, 108, 109, 110, 111, 112, 113, 114, 115, 116, 117, 118, 119, 120, 121, 122, 48, 49, 50, 51, 52, 53, 54, 55, 56, 57] }] w fun e w' => ∃ r : ByteArray, e = .returned (.string r) ∧ r.toList.isEmpty = (Lib.trimS s.data.toList lettersL).isEmpty ∧ Below w.heap.size w w' := by
  have hcon := Any.strings_Trim_laid Tryz.lays160 (by kernel_rfl) s ⟨#[97, 98, 99, 100, 101, 102, 103, 104, 105, 106, 107, 108, 109, 110, 111, 112, 113, 114, 115, 116, 117, 118, 119, 120, 121, 122, 48, 49, 50, 51, 52, 53, 54, 55, 56, 57]⟩ w hs (by decide) (ascii_of_all (by decide))
  refine Calls.mono hcon ?_
  rintro e w' ⟨rfl, hB⟩
  exact ⟨_, rfl, by rw [ByteArray.toList_eq]; rfl, hB⟩
set_option maxRecDepth 100000 in
theorem isName_any (s : ByteArray) (w : World) (hs : s.size ≤ 9223372036854775807) :
    Calls Tryz.prog (99) #[.string s] w fun e w' => e = .returned (.bool (nameB s)) ∧ Below w.heap.size w w' := by
  unfold nameB
  have HT := Lib.hid (trim_any s w hs)
  obtain ⟨em, hem⟩ : ∃ em, em = s.toList.isEmpty := ⟨_, rfl⟩
  obtain ⟨tr, htr⟩ : ∃ tr, tr = (Lib.trimS s.data.toList lettersL).isEmpty := ⟨_, rfl⟩
  rw [← hem, ← htr]
  rw [← htr] at HT
  have hle : ((s.size : Int) ≤ 12) ↔ s.size ≤ 12 := by omega
  by_cases h1 : s.size ≤ 12
  · have h2 : (s.size : Int) ≤ 12 := by omega
    cases em with
    | true =>
      have he := hem.symm
      clear hem htr hle
      go_enter Tryz.func99, Tryz.ntmps99
      go_wp2_with fail
      go_ret
      exact ⟨by simp, Below.refl _ _⟩
    | false =>
      have he := hem.symm
      clear hem htr hle
      go_enter Tryz.func99, Tryz.ntmps99
      go_wp2_with (go_at_call 116; refine HT.out.mono ?_; rintro e w' ⟨r, rfl, hr, hB⟩)
      go_ret
      exact ⟨by simp [h1], hB⟩
  · have h2 : ¬ (s.size : Int) ≤ 12 := by omega
    cases em with
    | true =>
      have he := hem.symm
      clear hem htr hle
      go_enter Tryz.func99, Tryz.ntmps99
      go_wp2_with fail
      go_ret
      exact ⟨by simp, Below.refl _ _⟩
    | false =>
      have he := hem.symm
      clear hem htr hle
      go_enter Tryz.func99, Tryz.ntmps99
      go_wp2_with fail
      go_ret
      exact ⟨by simp, Below.refl _ _⟩
end Go.Proofs.YtchcelodeepjdaaGreatDoor.Ln

namespace Go.Herb

/-- What `named` asks of branches beside lines. -/
structure NamedL (bs : List Br) (ls : List Ln) : Prop where
  names : ∀ x ∈ bs, nameB x.1 = true
  srt : SrtB bs
  lines : ∀ x ∈ bs, ∃ q, parL ls x.2.1 = some q
  apart : (bs.map (·.2.1)).Nodup

theorem NamedL.nil (ls : List Ln) : NamedL [] ls := ⟨by simp, List.Pairwise.nil, by simp, by simp⟩
theorem NamedL.take {bs : List Br} {ls : List Ln} (h : NamedL bs ls) (i : Nat) : NamedL (bs.take i) ls :=
  ⟨fun x hx => h.names x (List.mem_of_mem_take hx), h.srt.sublist (List.take_sublist _ _), fun x hx => h.lines x (List.mem_of_mem_take hx), h.apart.sublist ((List.take_sublist _ _).map _)⟩
theorem take_snoc {α : Type} {bs : List α} {i : Nat} {x : α} (hx : bs[i]? = some x) : bs.take (i + 1) = bs.take i ++ [x] := by
  obtain ⟨h, rfl⟩ := List.getElem?_eq_some_iff.1 hx
  exact List.take_succ_eq_append_getElem h
theorem NamedL.next {bs : List Br} {ls : List Ln} {i : Nat} {x : Br} {q : Int} (h : NamedL (bs.take i) ls) (hx : bs[i]? = some x) (hn : nameB x.1 = true)
    (hl : ∀ y, 0 < i → bs[i - 1]? = some y → y.1.toList < x.1.toList) (hp : parL ls x.2.1 = some q) (hin : x.2.1 ∉ (bs.take i).map (·.2.1)) : NamedL (bs.take (i + 1)) ls := by
  rw [take_snoc hx]
  refine ⟨?_, ?_, ?_, ?_⟩
  · intro y hy
    rcases List.mem_append.1 hy with hy | hy
    · exact h.names y hy
    · rw [List.mem_singleton.1 hy]; exact hn
  · refine List.pairwise_append.2 ⟨h.srt, by simp, ?_⟩
    intro y hy z hz
    rw [List.mem_singleton.1 hz]
    obtain ⟨j, hj, hjy⟩ := List.getElem_of_mem hy
    have hlen : (bs.take i).length = i := by
      obtain ⟨h3, _⟩ := List.getElem?_eq_some_iff.1 hx
      simp
      omega
    have hji : j < i := by omega
    have h1 : i - 1 < (bs.take i).length := by omega
    have h2 : bs[i - 1]? = some ((bs.take i)[i - 1]'h1) := by
      rw [← List.getElem?_eq_getElem h1, List.getElem?_take_of_lt (by omega)]
    have h3 := hl _ (by omega) h2
    rcases Nat.lt_or_ge j (i - 1) with h4 | h4
    · have h5 := List.pairwise_iff_getElem.1 h.srt j (i - 1) hj h1 h4
      rw [hjy] at h5
      exact List.lt_trans h5 h3
    · have h5 : j = i - 1 := by omega
      subst h5
      rw [hjy] at h3
      exact h3
  · intro y hy
    rcases List.mem_append.1 hy with hy | hy
    · exact h.lines y hy
    · rw [List.mem_singleton.1 hy]; exact ⟨q, hp⟩
  · rw [List.map_append, List.nodup_append]
    refine ⟨h.apart, by simp, ?_⟩
    intro a ha b hb e
    simp only [List.map_cons, List.map_nil, List.mem_singleton] at hb
    subst hb
    subst e
    exact hin ha
theorem NamedL.at {bs : List Br} {ls : List Ln} {i : Nat} {x : Br} (h : NamedL bs ls) (hx : bs[i]? = some x) :
    nameB x.1 = true ∧ (∀ y, 0 < i → bs[i - 1]? = some y → y.1.toList < x.1.toList) ∧ (∃ q, parL ls x.2.1 = some q) ∧ x.2.1 ∉ (bs.take i).map (·.2.1) := by
  obtain ⟨hi, he⟩ := List.getElem?_eq_some_iff.1 hx
  have hm : x ∈ bs := List.mem_of_getElem? hx
  refine ⟨h.names x hm, ?_, h.lines x hm, ?_⟩
  · intro y h0 hy
    obtain ⟨hj, hy⟩ := List.getElem?_eq_some_iff.1 hy
    have := List.pairwise_iff_getElem.1 h.srt (i - 1) i hj hi (by omega)
    rw [hy, he] at this
    exact this
  · intro hc
    have h1 := h.apart.sublist ((List.take_sublist (i + 1) bs).map _)
    rw [take_snoc hx, List.map_append, List.nodup_append] at h1
    exact h1.2.2 _ hc _ (by simp) rfl

/-- A map that has counted the numbers of a list, each once. -/
def Counted (m : List (Int × Int)) (ls : List Int) : Prop := ∀ k, getL m k = if k ∈ ls then some 1 else none
theorem Counted.nil : Counted [] [] := fun k => by simp [getL]
theorem Counted.put {m : List (Int × Int)} {ls : List Int} (h : Counted m ls) (x : Int) : Counted (putL m x (0 + 1)) (ls ++ [x]) := by
  intro k
  by_cases hk : k = x
  · subst hk
    rw [getL_put_same]
    simp
  · rw [getL_put_other _ _ _ hk, h k]
    simp [hk]
end Go.Herb
