/- ref17: Scan. Condition: fewer than 1000000 facts. -/
import Derived.Test.YtenocakpipppiaaGreatDoorX2
namespace Go.Proofs.YtenocakpipppiaaGreatDoor
open Go.RowKit Go.Shelf Go.Herb Go.Sort Go.Lib

def RefScanPost (ps : List Pr) (w : World) (e : Ending) (w' : World) : Prop := ∃ a n c, e = .returned (.slice a n c) ∧ ps.length = n ∧ Els pc 2 w' a ps ∧ Below w.heap.size w w'

set_option maxRecDepth 100000 in
set_option maxHeartbeats 2000000 in
theorem refScan_any (a : Option Addr) (cap n : Nat) (view : List Fc) (hn : view.length = n) (low high : ByteArray) (valid : Int) (w : World) (hL : Facts w a view) (hlen : n < 1000000) :
    Calls Tryz.prog 14 #[.slice a n cap, .string low, .string high, .int .u32 valid] w (RefScanPost (scanL view low high valid (namedL (keysOf view))) w) := by
  subst hn
  have HL := Lib.hid hL
  have HX := Lib.hid hlen
  obtain ⟨W, hW⟩ : ∃ W : World, W = w.alloc (.cells #[.slice a view.length cap] 22) := ⟨_, rfl⟩
  have hBW : Below w.heap.size w W := by rw [hW]; exact (Below.refl _ _).alloc (Nat.le_refl _) _
  have hW0 : W.heap[w.heap.size]? = some (.cells #[.slice a view.length cap] 22 (0, 0)) := by rw [hW]; exact blk_new_at rfl _
  have hE : Els slc 1 W (some ⟨w.heap.size, 0, none⟩) [((a, cap, view) : Sl)] := by
    refine ⟨fun i hi => ⟨w.heap.size, 0, rfl, lt_of_blk hW0, fun j c hj => ?_⟩⟩
    have : i = 0 := by simpa using hi
    subst this
    rw [cell_of_blk hW0]
    simpa using hj
  have hcon := refKeys_any (some ⟨w.heap.size, 0, none⟩) 1 [((a, cap, view) : Sl)] W hE (by
    intro l hl
    rw [List.mem_singleton.1 hl]
    exact hL.ext hBW) (by simp) (by simp [keysAll, keysOf]; exact hlen)
  have hk1 : keysAll [((a, cap, view) : Sl)] = keysOf view := by simp [keysAll]
  unfold NamedPost at hcon
  rw [hk1] at hcon
  rw [hW] at hcon
  have HCON := Lib.hid hcon
  have hsW : W.heap.size = w.heap.size + 1 := by rw [hW]; simp
  clear hL hlen hW0 hE hcon hk1
  go_enter Tryz.func14, Tryz.ntmps14
  go_wp2_with fail
  refine (HCON.out).mono ?_
  rintro e w1 ⟨v1, rfl, hO1, hB1⟩
  rw [← hW] at hO1 hB1
  obtain ⟨ka, kc, rfl, hkc, hK1⟩ := hO1.els
  have hkl : (namedL (keysOf view)).length < 1000000 := by
    have h1 := namedL_len (keysOf view)
    have h2 : (keysOf view).length = view.length := by simp [keysOf]
    have := HX.out
    omega
  generalize namedL (keysOf view) = ks at *
  have HK := Lib.hid hK1
  have HKL := Lib.hid hkl
  have hs1 := hB1.size
  have HB1 := Lib.hid (hBW.trans (hB1.mono hBW.size))
  have HL1 := Lib.hid ((HL.out.ext hBW).ext hB1)
  clear hO1 hB1 hK1 hkl hkc HCON hW hBW HL
  go_wp2_with fail
  go_loopg [9, 11] ks.length (fun gk ov iv wr => ∃ i : Nat, i + gk = ks.length ∧ iv = .int .i64 i ∧ OwnP w1.heap.size wr ov (scanL view low high valid (ks.take i)) ∧ Below w1.heap.size w1 wr)
  case atStart => exact ⟨0, by omega, rfl, World.ownsRow_nil _ _ _ _, Below.refl _ _⟩
  case round =>
    obtain ⟨i, hi, rfl, hown, hBi⟩ := hrel
    have HBI := Lib.hid hBi
    have HOWN := Lib.hid hown
    have hsi := hBi.size
    have hkl := HKL.out
    clear hBi hown
    by_cases hilt : i < ks.length
    · obtain ⟨b, o, rfl, hlb, hcell⟩ := HK.out.get i hilt
      have hsn := scanL_succ view low high valid ks i hilt
      have hi0 : (0 : Int) ≤ (i : Int) := by omega
      have hi1 : (i : Int) < (ks.length : Int) := by omega
      obtain ⟨k, hk⟩ : ∃ k : Str, k = ks[i] := ⟨_, rfl⟩
      rw [← hk] at hsn hcell
      obtain ⟨kb, hkb⟩ : ∃ kb : ByteArray, kb = ⟨k.toArray⟩ := ⟨_, rfl⟩
      have hkt : kb.toList = k := by rw [hkb]; exact bytes_mk k
      have hcu : ∀ u, Below w1.heap.size w1 u → u.cell? ⟨b, o + i, none⟩ = some (.string kb) := fun u hu => by
        have c0 := (hu.cell (p := ⟨b, _, none⟩) hlb).trans (hcell 0 _ rfl)
        simp only [Nat.add_zero, Nat.mul_one] at c0
        rwa [show encStr k = .string kb from by rw [hkb]] at c0
      have HCU := Lib.hid hcu
      have c0 := hcu wr HBI.out
      have hpa : pairAt view low high valid k = if betw low high k = true ∧ (valueL kb valid view).2 = true then some (kb, (valueL kb valid view).1) else none := by rw [hkb]; rfl
      rw [hpa] at hsn
      have hval := refValue_any a cap view kb valid
      have HSN := Lib.hid hsn
      have HVAL := Lib.hid hval
      have HKT := Lib.hid hkt
      clear hk hcell hpa hkb hsn hval hcu hkt
      go_wp2_with fail
      refine (HVAL.out _ (HL1.out.ext HBI.out) HX.out).mono ?_
      rintro e u ⟨rfl, hbu⟩
      have HBU := Lib.hid (HBI.out.trans (hbu.mono hsi))
      have HOU := Lib.hid (OwnP.below HOWN.out hbu)
      have hsu : w1.heap.size ≤ u.heap.size := HBU.out.size
      clear hbu c0 HVAL HOWN HBI
      have c0 := HCU.out u HBU.out
      generalize valueL kb valid view = r at *
      obtain ⟨rv, rb⟩ := r
      cases rb with
      | false =>
        have HNO := Lib.hid (show scanL view low high valid (ks.take (i + 1)) = scanL view low high valid (ks.take i) by rw [HSN.out]; simp)
        clear HSN
        go_wp2_with fail
        go_roundg (gk - 1)
        case measure => omega
        case rel => exact ⟨i + 1, by omega, by go_num, by rw [HNO.out]; exact HOU.out, HBU.out⟩
      | true =>
        by_cases g1 : k < low.toList
        · have d1 : Op.bytesLess kb.toList low.toList = true := by rw [bytesLess_eq, HKT.out]; exact decide_eq_true g1
          have HNO := Lib.hid (show scanL view low high valid (ks.take (i + 1)) = scanL view low high valid (ks.take i) by
            rw [HSN.out, if_neg (fun h => by have := h.1; unfold betw at this; rw [Bool.and_eq_true, decide_eq_true_eq] at this; exact this.1 g1)]; simp)
          clear HSN g1
          go_wp2_with fail
          go_roundg (gk - 1)
          case measure => omega
          case rel => exact ⟨i + 1, by omega, by go_num, by rw [HNO.out]; exact HOU.out, HBU.out⟩
        · have d1 : Op.bytesLess kb.toList low.toList = false := by rw [bytesLess_eq, HKT.out]; exact decide_eq_false g1
          cases he : high.toList.isEmpty with
          | true =>
            have HYES := Lib.hid (show scanL view low high valid (ks.take (i + 1)) = scanL view low high valid (ks.take i) ++ [(kb, rv)] by
              rw [HSN.out, if_pos ⟨by unfold betw; rw [Bool.and_eq_true, decide_eq_true_eq, decide_eq_true_eq]; exact ⟨g1, .inl (List.isEmpty_iff.1 he)⟩, rfl⟩]; rfl)
            have he2 : high.toList = [] := List.isEmpty_iff.1 he
            clear HSN g1
            obtain ⟨X, hX⟩ : ∃ X : World, X = u.alloc (.cells #[.string kb, .string rv] 63) := ⟨_, rfl⟩
            have hBX : Below u.heap.size u X := by rw [hX]; exact (Below.refl _ _).alloc (Nat.le_refl _) _
            have hX1 : X.heap[u.heap.size]? = some (.cells #[.string kb, .string rv] 63 (0, 0)) := by rw [hX]; exact blk_new_at rfl _
            have hsl : (scanL view low high valid (ks.take i)).length < 1000000 := by
              have h1 := scanL_len view low high valid (ks.take i)
              have h2 := List.length_take_le i ks
              omega
            obtain ⟨v', w2, hrun, hO2, hg2⟩ := run_append_pair X w1.heap.size u9 _ u.heap.size (kb, rv) (OwnP.below HOU.out hBX) hX1 hsl (by have := hBX.size; omega) (38)
            have hrow : ∀ k', u9.ownBlock = some k' → w1.heap.size ≤ k' := fun k' hk' => (World.ownsRow.lt HOU.out k' hk').1
            have HB2 := Lib.hid ((HBU.out.trans (hBX.mono hsu)).grown hg2 (Nat.le_trans hsu hBX.size) hrow)
            rw [hX] at hrun
            have HRUN := Lib.hid hrun
            have HO2 := Lib.hid hO2
            clear hX hBX hX1 hrun hO2 hg2 hrow hsl
            go_wp2_with (at_builtin; refine Lib.wpList_append_run _ rfl _ _ _ _ rfl _ _ rfl rfl _ _ (HRUN.out) ?_)
            go_roundg (gk - 1)
            case measure => omega
            case rel => exact ⟨i + 1, by omega, by go_num, by rw [HYES.out]; exact HO2.out, HB2.out⟩
          | false =>
            have he2 : high.toList ≠ [] := fun h => by rw [h] at he; cases he
            by_cases g2 : k < high.toList
            · have d3 : Op.bytesLess kb.toList high.toList = true := by rw [bytesLess_eq, HKT.out]; exact decide_eq_true g2
              have HYES := Lib.hid (show scanL view low high valid (ks.take (i + 1)) = scanL view low high valid (ks.take i) ++ [(kb, rv)] by
                rw [HSN.out, if_pos ⟨by unfold betw; rw [Bool.and_eq_true, decide_eq_true_eq, decide_eq_true_eq]; exact ⟨g1, .inr g2⟩, rfl⟩]; rfl)
              clear HSN g1 g2
              obtain ⟨X, hX⟩ : ∃ X : World, X = u.alloc (.cells #[.string kb, .string rv] 63) := ⟨_, rfl⟩
              have hBX : Below u.heap.size u X := by rw [hX]; exact (Below.refl _ _).alloc (Nat.le_refl _) _
              have hX1 : X.heap[u.heap.size]? = some (.cells #[.string kb, .string rv] 63 (0, 0)) := by rw [hX]; exact blk_new_at rfl _
              have hsl : (scanL view low high valid (ks.take i)).length < 1000000 := by
                have h1 := scanL_len view low high valid (ks.take i)
                have h2 := List.length_take_le i ks
                omega
              obtain ⟨v', w2, hrun, hO2, hg2⟩ := run_append_pair X w1.heap.size u9 _ u.heap.size (kb, rv) (OwnP.below HOU.out hBX) hX1 hsl (by have := hBX.size; omega) (38)
              have hrow : ∀ k', u9.ownBlock = some k' → w1.heap.size ≤ k' := fun k' hk' => (World.ownsRow.lt HOU.out k' hk').1
              have HB2 := Lib.hid ((HBU.out.trans (hBX.mono hsu)).grown hg2 (Nat.le_trans hsu hBX.size) hrow)
              rw [hX] at hrun
              have HRUN := Lib.hid hrun
              have HO2 := Lib.hid hO2
              clear hX hBX hX1 hrun hO2 hg2 hrow hsl
              go_wp2_with (at_builtin; refine Lib.wpList_append_run _ rfl _ _ _ _ rfl _ _ rfl rfl _ _ (HRUN.out) ?_)
              go_roundg (gk - 1)
              case measure => omega
              case rel => exact ⟨i + 1, by omega, by go_num, by rw [HYES.out]; exact HO2.out, HB2.out⟩
            · have d3 : Op.bytesLess kb.toList high.toList = false := by rw [bytesLess_eq, HKT.out]; exact decide_eq_false g2
              have HNO := Lib.hid (show scanL view low high valid (ks.take (i + 1)) = scanL view low high valid (ks.take i) by
                rw [HSN.out, if_neg (fun h => by have := h.1; unfold betw at this; rw [Bool.and_eq_true, decide_eq_true_eq, decide_eq_true_eq] at this; exact this.2.elim he2 g2)]; simp)
              clear HSN g1 g2
              go_wp2_with fail
              go_roundg (gk - 1)
              case measure => omega
              case rel => exact ⟨i + 1, by omega, by go_num, by rw [HNO.out]; exact HOU.out, HBU.out⟩
    · have hie : i = ks.length := by omega
      subst hie
      rw [List.take_length] at HOWN
      obtain ⟨oa, oc, rfl, -, hE⟩ := HOWN.out.els
      have HE := Lib.hid (show RefScanPost (scanL view low high valid ks) w (.returned (.slice oa (scanL view low high valid ks).length oc)) wr from ⟨oa, _, oc, rfl, rfl, hE, HB1.out.trans (HBI.out.mono HB1.out.size)⟩)
      clear hE
      go_wp2
      go_ret
      exact HE.out
end Go.Proofs.YtenocakpipppiaaGreatDoor
