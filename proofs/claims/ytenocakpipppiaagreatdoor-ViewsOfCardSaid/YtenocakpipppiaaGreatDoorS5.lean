/- views.Scan: its walk. Condition: fewer than 1000000 facts. -/
import Derived.Test.YtenocakpipppiaaGreatDoorS4
namespace Go.Proofs.YtenocakpipppiaaGreatDoor
open Go.RowKit Go.Shelf Go.Herb Go.Sort Go.Lib

theorem bytes_mk (l : Str) : (⟨l.toArray⟩ : ByteArray).toList = l := by rw [ByteArray.toList_eq]
theorem mk_bytes (b : ByteArray) : (⟨b.toList.toArray⟩ : ByteArray) = b := bytes_ext (bytes_mk _)

set_option maxRecDepth 100000 in
set_option maxHeartbeats 2000000 in
theorem scan_any (a : Option Addr) (cap : Nat) (view : List Fc) (low high : ByteArray) (valid : Int) (w : World) (hL : Facts w a view) (hlen : view.length < 1000000) :
    Calls Tryz.prog 13 #[.slice a view.length cap, .string low, .string high, .int .u32 valid] w (ScanPost (scanL view low high valid (namedL (keysOf view))) w) := by
  have HL := Lib.hid hL
  have HX := Lib.hid hlen
  obtain ⟨W, hW⟩ : ∃ W : World, W = w.alloc (.cells #[.slice a view.length cap] 22) := ⟨_, rfl⟩
  have hBW : Below w.heap.size w W := by rw [hW]; exact (Below.refl _ _).alloc (Nat.le_refl _) _
  have hW0 : W.heap[w.heap.size]? = some (.cells #[.slice a view.length cap] 22 (0, 0)) := by rw [hW]; exact blk_new_at rfl _
  have hE : Els slc 1 W (some ⟨w.heap.size, 0, none⟩) [((a, cap, view) : Sl)] := by
    refine ⟨fun i hi => ⟨w.heap.size, 0, rfl, lt_of_blk hW0, fun j c hj => ?_⟩⟩
    have : i = 0 := by simpa using hi
    subst this
    rw [cell_of_blk hW0]
    simpa using hj
  have hcon := named_any (some ⟨w.heap.size, 0, none⟩) 1 [((a, cap, view) : Sl)] W hE (by
    intro l hl
    rw [List.mem_singleton.1 hl]
    exact hL.ext hBW) (by simp) (by simp [keysAll, keysOf]; exact hlen)
  have hk1 : keysAll [((a, cap, view) : Sl)] = keysOf view := by simp [keysAll]
  unfold NamedPost at hcon
  rw [hk1] at hcon
  rw [hW] at hcon
  have HCON := Lib.hid hcon
  have hsW : W.heap.size = w.heap.size + 1 := by rw [hW]; simp
  clear hL hlen hW0 hE hcon hk1
  go_enter Tryz.func13, Tryz.ntmps13
  go_wp2_with fail
  refine (HCON.out).mono ?_
  rintro e w1 ⟨v1, rfl, hO1, hB1⟩
  rw [← hW] at hO1 hB1
  obtain ⟨ka, kc, rfl, hkc, hK1⟩ := hO1.els
  have hkl : (namedL (keysOf view)).length < 1000000 := by
    have h1 := namedL_len (keysOf view)
    have h2 : (keysOf view).length = view.length := by simp [keysOf]
    have := HX.out
    omega
  generalize namedL (keysOf view) = ks at *
  have HK := Lib.hid hK1
  have HKL := Lib.hid hkl
  have hs1 := hB1.size
  have HB1 := Lib.hid (hBW.trans (hB1.mono hBW.size))
  have HL1 := Lib.hid ((HL.out.ext hBW).ext hB1)
  clear hO1 hB1 hK1 hkl hkc HCON hW hBW HL
  go_wp2_with fail
  go_loopg [8, 17] ks.length (fun gk ov iv wr => ∃ i : Nat, i + gk = ks.length ∧ iv = .int .i64 i ∧ OwnP w1.heap.size wr ov (scanL view low high valid (ks.take i)) ∧ Below w1.heap.size w1 wr)
  case atStart => exact ⟨0, by omega, rfl, World.ownsRow_nil _ _ _ _, Below.refl _ _⟩
  case round =>
    obtain ⟨i, hi, rfl, hown, hBi⟩ := hrel
    have HBI := Lib.hid hBi
    have HOWN := Lib.hid hown
    have hsi := hBi.size
    have hkl := HKL.out
    clear hBi hown
    by_cases hilt : i < ks.length
    · obtain ⟨b, o, rfl, hlb, hcell⟩ := HK.out.get i hilt
      have hsn := scanL_succ view low high valid ks i hilt
      have hi0 : (0 : Int) ≤ (i : Int) := by omega
      have hi1 : (i : Int) < (ks.length : Int) := by omega
      obtain ⟨k, hk⟩ : ∃ k : Str, k = ks[i] := ⟨_, rfl⟩
      rw [← hk] at hsn hcell
      obtain ⟨kb, hkb⟩ : ∃ kb : ByteArray, kb = ⟨k.toArray⟩ := ⟨_, rfl⟩
      have hkt : kb.toList = k := by rw [hkb]; exact bytes_mk k
      have c0 := (HBI.out.cell (p := ⟨b, _, none⟩) hlb).trans (hcell 0 _ rfl)
      simp only [Nat.add_zero, Nat.mul_one] at c0
      rw [show encStr k = .string kb from by rw [hkb]] at c0
      have hpa : pairAt view low high valid k = if betw low high k = true ∧ (valueL kb valid view).2 = true then some (kb, (valueL kb valid view).1) else none := by rw [hkb]; rfl
      rw [hpa] at hsn
      have hcmp := scmp_any kb low
      have hclt : (compareBytes kb.data.toList low.data.toList < 0) ↔ k < low.toList := by rw [cmpB_lt, ← ByteArray.toList_eq, ← ByteArray.toList_eq, hkt]
      have hval := value_any a cap view kb valid
      generalize compareBytes kb.data.toList low.data.toList = c at hcmp hclt
      have HSN := Lib.hid hsn
      have HCMP := Lib.hid hcmp
      have HVAL := Lib.hid hval
      clear hk hcell hpa hcmp hkb hsn hval
      by_cases hb : betw low high k = true
      · have hb' := hb
        unfold betw at hb'
        rw [Bool.and_eq_true, decide_eq_true_eq, decide_eq_true_eq] at hb'
        have d1 : decide (c < 0) = false := decide_eq_false (fun h => hb'.1 (hclt.1 h))
        have HB := Lib.hid hb
        have hall : high.toList.isEmpty = true ∨ (high.toList.isEmpty = false ∧ Op.bytesLess kb.toList high.toList = true) := by
          cases he : high.toList.isEmpty with
          | true => exact .inl rfl
          | false =>
            right
            refine ⟨rfl, ?_⟩
            rcases hb'.2 with h | h
            · rw [h] at he; simp at he
            · rw [bytesLess_eq, hkt]; exact decide_eq_true h
        clear hb hb' hclt hkt
        rcases hall with d2 | ⟨d2, d3⟩
        · go_wp2_with (go_at_call 29; refine (HCMP.out _).mono ?_; rintro e W' ⟨rfl, rfl⟩)
          refine (HVAL.out _ (HL1.out.ext HBI.out) HX.out).mono ?_
          rintro e u ⟨rfl, hbu⟩
          have HBU := Lib.hid (HBI.out.trans (hbu.mono hsi))
          have HOU := Lib.hid (OwnP.below HOWN.out hbu)
          have hsu : w1.heap.size ≤ u.heap.size := HBU.out.size
          clear hbu c0 HVAL HCMP HOWN HBI
          generalize valueL kb valid view = r at *
          obtain ⟨rv, rb⟩ := r
          cases rb with
          | false =>
            go_wp2
            go_roundg (gk - 1)
            case measure => omega
            case rel => exact ⟨i + 1, by omega, by go_num, by rw [HSN.out]; simpa using HOU.out, HBU.out⟩
          | true =>
            obtain ⟨X, hX⟩ : ∃ X : World, X = u.alloc (.cells #[.string kb, .string rv] 63) := ⟨_, rfl⟩
            have hBX : Below u.heap.size u X := by rw [hX]; exact (Below.refl _ _).alloc (Nat.le_refl _) _
            have hX1 : X.heap[u.heap.size]? = some (.cells #[.string kb, .string rv] 63 (0, 0)) := by rw [hX]; exact blk_new_at rfl _
            have hsl : (scanL view low high valid (ks.take i)).length < 1000000 := by
              have h1 := scanL_len view low high valid (ks.take i)
              have h2 := List.length_take_le i ks
              omega
            obtain ⟨v', w2, hrun, hO2, hg2⟩ := run_append_pair X w1.heap.size u8 _ u.heap.size (kb, rv) (OwnP.below HOU.out hBX) hX1 hsl (by have := hBX.size; omega) (38)
            have hrow : ∀ k', u8.ownBlock = some k' → w1.heap.size ≤ k' := fun k' hk' => (World.ownsRow.lt HOU.out k' hk').1
            have HB2 := Lib.hid ((HBU.out.trans (hBX.mono hsu)).grown hg2 (Nat.le_trans hsu hBX.size) hrow)
            rw [hX] at hrun
            have HRUN := Lib.hid hrun
            have HO2 := Lib.hid hO2
            clear hX hBX hX1 hrun hO2 hg2 hrow hsl
            go_wp2_with (at_builtin; refine Lib.wpList_append_run _ rfl _ _ _ _ rfl _ _ rfl rfl _ _ (HRUN.out) ?_)
            go_roundg (gk - 1)
            case measure => omega
            case rel => exact ⟨i + 1, by omega, by go_num, by rw [HSN.out, if_pos (by simp [HB.out])]; exact HO2.out, HB2.out⟩
        · go_wp2_with (go_at_call 29; refine (HCMP.out _).mono ?_; rintro e W' ⟨rfl, rfl⟩)
          refine (HVAL.out _ (HL1.out.ext HBI.out) HX.out).mono ?_
          rintro e u ⟨rfl, hbu⟩
          have HBU := Lib.hid (HBI.out.trans (hbu.mono hsi))
          have HOU := Lib.hid (OwnP.below HOWN.out hbu)
          have hsu : w1.heap.size ≤ u.heap.size := HBU.out.size
          clear hbu c0 HVAL HCMP HOWN HBI
          generalize valueL kb valid view = r at *
          obtain ⟨rv, rb⟩ := r
          cases rb with
          | false =>
            go_wp2
            go_roundg (gk - 1)
            case measure => omega
            case rel => exact ⟨i + 1, by omega, by go_num, by rw [HSN.out]; simpa using HOU.out, HBU.out⟩
          | true =>
            obtain ⟨X, hX⟩ : ∃ X : World, X = u.alloc (.cells #[.string kb, .string rv] 63) := ⟨_, rfl⟩
            have hBX : Below u.heap.size u X := by rw [hX]; exact (Below.refl _ _).alloc (Nat.le_refl _) _
            have hX1 : X.heap[u.heap.size]? = some (.cells #[.string kb, .string rv] 63 (0, 0)) := by rw [hX]; exact blk_new_at rfl _
            have hsl : (scanL view low high valid (ks.take i)).length < 1000000 := by
              have h1 := scanL_len view low high valid (ks.take i)
              have h2 := List.length_take_le i ks
              omega
            obtain ⟨v', w2, hrun, hO2, hg2⟩ := run_append_pair X w1.heap.size u8 _ u.heap.size (kb, rv) (OwnP.below HOU.out hBX) hX1 hsl (by have := hBX.size; omega) (38)
            have hrow : ∀ k', u8.ownBlock = some k' → w1.heap.size ≤ k' := fun k' hk' => (World.ownsRow.lt HOU.out k' hk').1
            have HB2 := Lib.hid ((HBU.out.trans (hBX.mono hsu)).grown hg2 (Nat.le_trans hsu hBX.size) hrow)
            rw [hX] at hrun
            have HRUN := Lib.hid hrun
            have HO2 := Lib.hid hO2
            clear hX hBX hX1 hrun hO2 hg2 hrow hsl
            go_wp2_with (at_builtin; refine Lib.wpList_append_run _ rfl _ _ _ _ rfl _ _ rfl rfl _ _ (HRUN.out) ?_)
            go_roundg (gk - 1)
            case measure => omega
            case rel => exact ⟨i + 1, by omega, by go_num, by rw [HSN.out, if_pos (by simp [HB.out])]; exact HO2.out, HB2.out⟩
      · have hb' : betw low high k = false := by simpa using hb
        have HB := Lib.hid hb'
        have hall : decide (c < 0) = true ∨ (decide (c < 0) = false ∧ high.toList.isEmpty = false ∧ Op.bytesLess kb.toList high.toList = false) := by
          by_cases h1 : k < low.toList
          · exact .inl (decide_eq_true (hclt.2 h1))
          · right
            refine ⟨decide_eq_false (fun h => h1 (hclt.1 h)), ?_⟩
            have h2 : ¬ (high.toList = [] ∨ k < high.toList) := by
              intro h2
              apply hb
              unfold betw
              rw [Bool.and_eq_true, decide_eq_true_eq, decide_eq_true_eq]
              exact ⟨h1, h2⟩
            refine ⟨?_, ?_⟩
            · cases he : high.toList with
              | nil => exact absurd (.inl he) h2
              | cons x l => rfl
            · rw [bytesLess_eq, hkt]
              exact decide_eq_false (fun h => h2 (.inr h))
        clear hb hb' hclt hkt HVAL
        rcases hall with d1 | ⟨d1, d2, d3⟩
        · go_wp2_with (go_at_call 29; refine (HCMP.out _).mono ?_; rintro e W' ⟨rfl, rfl⟩)
          go_roundg (gk - 1)
          case measure => omega
          case rel => exact ⟨i + 1, by omega, by go_num, by rw [HSN.out, if_neg (fun h => by rw [HB.out] at h; exact absurd h.1 (by decide))]; simpa using HOWN.out, HBI.out⟩
        · go_wp2_with (go_at_call 29; refine (HCMP.out _).mono ?_; rintro e W' ⟨rfl, rfl⟩)
          go_roundg (gk - 1)
          case measure => omega
          case rel => exact ⟨i + 1, by omega, by go_num, by rw [HSN.out, if_neg (fun h => by rw [HB.out] at h; exact absurd h.1 (by decide))]; simpa using HOWN.out, HBI.out⟩
    · have hie : i = ks.length := by omega
      subst hie
      have hown := HOWN.out
      rw [List.take_length] at hown
      have hpl := scanL_len view low high valid ks
      have HPL := Lib.hid hpl
      have hmaxv : ∀ a c n, u8 = .slice a n c → c ≤ maxLen ∧ (a = none → n = 0 ∧ c = 0) := by
        intro a c n he
        rcases hown with ⟨_, ⟨h1, _⟩ | ⟨g, cap', cur, hv, _, _, _, hm, _⟩⟩
        · rw [h1] at he; cases he; exact ⟨Nat.zero_le _, fun _ => ⟨rfl, rfl⟩⟩
        · rw [hv] at he; cases he; exact ⟨hm, fun h => by cases h⟩
      obtain ⟨pa, pcap, rfl, hle, hE⟩ := hown.els
      obtain ⟨hm1, hm2⟩ := hmaxv _ _ _ rfl
      have hnone : pa = none → scanL view low high valid ks = [] := fun h => List.length_eq_zero_iff.1 (hm2 h).1
      generalize scanL view low high valid ks = ps at *
      have HE := Lib.hid hE
      have hpn : ps.length < 1000000 := by omega
      have hcl := clipP_any pa pcap ps.length wr hm2 hpn hle hm1
      have HCL := Lib.hid hcl
      have HN := Lib.hid hnone
      clear hown hpl hE hcl hm1 hm2 hle hmaxv hnone HOWN
      go_wp2_with (go_at_call 30; refine (HCL.out).mono ?_; rintro e w4 ⟨rfl, rfl⟩)
      go_ret
      exact ⟨pa, rfl, HE.out, HN.out, HB1.out.trans (HBI.out.mono HB1.out.size)⟩
end Go.Proofs.YtenocakpipppiaaGreatDoor
