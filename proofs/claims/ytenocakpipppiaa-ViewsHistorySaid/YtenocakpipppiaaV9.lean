/- ViewsLast's walk. No condition. -/
import Derived.Test.YtenocakpipppiaaV8
import Derived.Deep.DrawnRows
import Derived.IntWalk
import Derived.Outline
namespace Go.Proofs.Ytenocakpipppiaa
open Go.RowKit Go.Shelf Go.Herb
attribute [local go_sem ↓] Go.wp_at_zero Go.wp_at_succ

set_option maxRecDepth 100000 in
theorem viewsLast_great (a : Option Addr) (cap : Nat) (xs : List Fc) (ac : Option Addr) (cc : Nat) (cs : List Lk) (at_ : Int) (on : Bool) (w : World) (hL : SlIn fc 6 w a cap xs) (hC : SlIn lc 2 w ac cc cs) (hg : 120 < xs.length ∨ 40 < cs.length) :
    Calls Try.prog 4 #[.slice a xs.length cap, .agg #[.slice ac cs.length cc, .int .u64 at_, .bool on]] w fun e w' => e = .returned (.bool true) ∧ Below w.heap.size w w' := by
  have HM := Lib.hid hL.lenle
  have HN := Lib.hid hC.lenle
  have HD := Lib.hid (great_wide hg)
  clear hL hC hg
  go_enter Try.func4, Try.ntmps4
  go_wp2_with fail
  refine (great17_any _ _ _ _ _ _ _ HM.out HN.out).mono ?_
  rintro e w' ⟨rfl, rfl⟩
  rw [HD.out]
  go_wp2_with fail
  refine (livesV_any _).mono ?_
  rintro e w' ⟨rfl, hB⟩
  have HB := Lib.hid hB
  clear hB
  go_wp2
  go_ret
  exact ⟨rfl, ((Below.refl _ _).alloc (Nat.le_refl _) _).trans (HB.out.mono (by simp))⟩

set_option maxRecDepth 100000 in
set_option maxHeartbeats 4000000 in
theorem viewsLast_small (a : Option Addr) (cap : Nat) (xs : List Fc) (ac : Option Addr) (cc : Nat) (cs : List Lk) (at_ : Int) (on : Bool) (w : World) (hL : SlIn fc 6 w a cap xs) (hC : SlIn lc 2 w ac cc cs) (hg : ¬ (120 < xs.length ∨ 40 < cs.length)) :
    Calls Try.prog 4 #[.slice a xs.length cap, .agg #[.slice ac cs.length cc, .int .u64 at_, .bool on]] w fun e w' => e = .returned (.bool true) ∧ Below w.heap.size w w' := by
  have HX := Lib.hid (show xs.length < 1000 by omega)
  have HY := Lib.hid (show cs.length < 1000 by omega)
  have HM := Lib.hid hL.lenle
  have HN := Lib.hid hC.lenle
  have HD := Lib.hid (great_not hg)
  have HL := Lib.hid hL.els
  have HC := Lib.hid hC.els
  clear hL hC hg
  go_enter Try.func4, Try.ntmps4
  go_wp2_with fail
  refine (great17_any _ _ _ _ _ _ _ HM.out HN.out).mono ?_
  rintro e w' ⟨rfl, rfl⟩
  rw [HD.out]
  clear HD
  go_wp2_with fail
  obtain ⟨W, hW⟩ : ∃ W : World, W = w.alloc (.cells #[.slice ac cs.length cc, .int .u64 at_, .bool on] 26) := ⟨_, rfl⟩
  have hBW : Below w.heap.size w W := by rw [hW]; exact (Below.refl _ _).alloc (Nat.le_refl _) _
  have hb0 : W.heap[w.heap.size]? = some (.cells #[.slice ac cs.length cc, .int .u64 at_, .bool on] 26 (0, 0)) := by rw [hW]; exact blk_new_at rfl _
  rw [← hW]
  have hlW := lt_of_blk hb0
  have HBW := Lib.hid hBW
  have HB0 := Lib.hid hb0
  clear hW hBW hb0
  refine (viewsOf_ex a cap xs ac cc cs at_ W (HL.out.ext HBW.out) (HC.out.ext HBW.out) (by have := HX.out; omega) (by have := HY.out; omega)).mono ?_
  rintro e w1 ⟨av, ys, rfl, hV, hF, hn, hB1⟩
  have hs1 := hB1.size
  have HV := Lib.hid hV
  have HF := Lib.hid hF
  have HB1 := Lib.hid (HBW.out.trans (hB1.mono HBW.out.size))
  have hb1 := blk_below HB0.out hB1 hlW
  have HT0 := Lib.hid hb1
  have HL1 := Lib.hid ((HL.out.ext HBW.out).ext hB1)
  have HC1 := Lib.hid ((HC.out.ext HBW.out).ext hB1)
  have hl1 : w.heap.size < w1.heap.size := by omega
  have hys := hV.len
  have HYS := Lib.hid (show ys.length < 1000 by have := HX.out; omega)
  clear hV hF hn hB1 hb1 hys HBW HB0 HL HC
  go_wp2_with fail
  go_loopg [6] ys.length (fun gk iv wr => ∃ k : Nat, k + gk = ys.length ∧ iv = .int .i64 ((k : Int) + 1) ∧ Below w1.heap.size w1 wr)
  case atStart => exact ⟨0, by omega, rfl, Below.refl _ _⟩
  case round =>
    obtain ⟨k, hk, rfl, hBw⟩ := hrel
    have HBR := Lib.hid hBw
    have hsr := hBw.size
    have hyb := HYS.out
    clear hBw
    by_cases hlt : k + 1 < ys.length
    · obtain ⟨hst1, hst2⟩ := HV.out.step k hlt
      obtain ⟨b, o, rfl, hlb, hcell⟩ := HF.out.get k (by omega)
      have hcell' : ∀ j c, (fc ys[k + 1])[j]? = some c → w1.cell? ⟨b, o + (k + 1) * 6 + j, none⟩ = some c := fun j c hj => HF.out.at_ (k + 1) hlt j c hj
      have hk0 : (0 : Int) ≤ (k : Int) := by omega
      have hk1 : (k : Int) + 1 < (ys.length : Int) := by omega
      have hk2 : (k : Int) < (ys.length : Int) := by omega
      have hki : (0 : Int) ≤ (k : Int) + 1 := by omega
      have hkt : ((k : Int) + 1).toNat = k + 1 := by omega
      generalize ys[k] = x at *
      generalize ys[k + 1] = y at *
      have e0 := (HBR.out.cell (p := ⟨b, _, none⟩) hlb).trans (hcell 0 _ rfl)
      have e1 := (HBR.out.cell (p := ⟨b, _, none⟩) hlb).trans (hcell 1 _ rfl)
      have f0 := (HBR.out.cell (p := ⟨b, _, none⟩) hlb).trans (hcell' 0 _ rfl)
      have f1 := (HBR.out.cell (p := ⟨b, _, none⟩) hlb).trans (hcell' 1 _ rfl)
      simp only [Nat.add_zero] at e0 e1 f0 f1
      have d1 : Op.bytesLess y.key.toList x.key.toList = false := by rw [bytesLess_eq]; exact decide_eq_false hst1
      have hw1 : IntKind.i64.wrap ((k : Int) + 1 - 1) = k := by rw [show (k : Int) + 1 - 1 = k from by omega]; exact IntWalk.i64_in _ (by omega)
      have hw2 : IntKind.i64.wrap (k : Int) = k := IntWalk.i64_in _ (by omega)
      by_cases hq : x.key.toList = y.key.toList
      · have d2 : (x.key.toList == y.key.toList) = true := beq_iff_eq.2 hq
        have d3 : decide (x.valid ≤ y.valid) = false := decide_eq_false (by have := hst2 hq; omega)
        clear hst1 hst2 hcell hcell' hq
        go_wp2_with fail
        go_quiet (fail)
        go_wp2
        go_roundg (gk - 1)
        case measure => omega
        case rel => exact ⟨k + 1, by omega, by go_num, below_drewN HBR.out _⟩
      · have d2 : (x.key.toList == y.key.toList) = false := beq_eq_false_iff_ne.2 hq
        have d4 : Op.bytesLess x.key.toList y.key.toList = true := by rw [bytesLess_eq]; exact decide_eq_true (lt_total_key _ _ hst1 (fun e => hq e.symm))
        clear hst1 hst2 hcell hcell' hq
        go_wp2_with fail
        go_quiet (fail)
        go_wp2
        go_roundg (gk - 1)
        case measure => omega
        case rel => exact ⟨k + 1, by omega, by go_num, below_drewN HBR.out _⟩
    · clear hk hyb
      go_wp2_with fail
      obtain ⟨wo, rfl⟩ : ∃ wo : World, wo = wr := ⟨_, rfl⟩
      obtain ⟨gko, rfl⟩ : ∃ g : Nat, g = gk := ⟨_, rfl⟩

      go_loopg [7] xs.length (fun gk iv wr => ∃ i : Nat, i + gk = xs.length ∧ iv = .int .i64 i ∧ Below w1.heap.size w1 wr)
      case atStart => exact ⟨0, by omega, rfl, HBR.out⟩
      case round =>
        clear HBR hsr
        obtain ⟨i, hi, rfl, hBi⟩ := hrel
        have HBI := Lib.hid hBi
        have hsi := hBi.size
        have hxb := HX.out
        clear hBi
        have hlw : w.heap.size < wr.heap.size := by omega
        by_cases hilt : i < xs.length
        · obtain ⟨b, o, rfl, hlb, hcell⟩ := HL1.out.get i hilt
          have hmem : xs[i] ∈ xs := List.getElem_mem hilt
          have hi0 : (0 : Int) ≤ (i : Int) := by omega
          have hi1 : (i : Int) < (xs.length : Int) := by omega
          generalize xs[i] = x at *
          have e0 := (HBI.out.cell (p := ⟨b, _, none⟩) hlb).trans (hcell 0 _ rfl)
          have e1 := (HBI.out.cell (p := ⟨b, _, none⟩) hlb).trans (hcell 1 _ rfl)
          have e2 := (HBI.out.cell (p := ⟨b, _, none⟩) hlb).trans (hcell 2 _ rfl)
          have e3 := (HBI.out.cell (p := ⟨b, _, none⟩) hlb).trans (hcell 3 _ rfl)
          have e4 := (HBI.out.cell (p := ⟨b, _, none⟩) hlb).trans (hcell 4 _ rfl)
          have e5 := (HBI.out.cell (p := ⟨b, _, none⟩) hlb).trans (hcell 5 _ rfl)
          simp only [Nat.add_zero] at e0 e1 e2 e3 e4 e5
          have hT := blk_below HT0.out HBI.out hl1
          have t0 := cell_of_blk hT 0
          have t1 := cell_of_blk hT 1
          simp at t0 t1
          clear hT
          have hlr : b < wr.heap.size := by omega
          have cseen := seenLaw_any x ac cc cs at_ wr.drew (HC1.out.ext HBI.out.drew) (by have := HY.out; omega)
          have HCELL := Lib.hid hcell
          have HMEM := Lib.hid hmem
          clear hcell hmem
          cases hs : seenC cs at_ x with
          | false =>
            rw [hs] at cseen
            have CS := Lib.hid cseen
            clear cseen hs
            go_wp2_with fail
            go_region_held3 (fun w' => w'.cell? ⟨b, o + i * 6, none⟩ = some (.string x.key) ∧ w'.cell? ⟨b, o + i * 6 + 1, none⟩ = some (.int .u32 x.valid) ∧ w'.cell? ⟨b, o + i * 6 + 2, none⟩ = some (.int .u64 x.seq) ∧ w'.cell? ⟨b, o + i * 6 + 3, none⟩ = some (.int .u64 x.line) ∧ w'.cell? ⟨b, o + i * 6 + 4, none⟩ = some (.int .u8 x.kind) ∧ w'.cell? ⟨b, o + i * 6 + 5, none⟩ = some (.string x.val) ∧ w'.cell? ⟨w.heap.size, 0, none⟩ = some (.slice ac cs.length cc) ∧ w'.cell? ⟨w.heap.size, 1, none⟩ = some (.int .u64 at_)) (go_keep)
              (first | (go_at_call 13; refine (CS.out).mono ?_; rintro e u ⟨rfl, hbu0⟩; have hbu : Below wr.heap.size wr u := (Below.refl _ _).drew.trans hbu0; clear hbu0; have q0 := (hbu.cell (p := ⟨b, o + i * 6, none⟩) hlr).trans e0; have q1 := (hbu.cell (p := ⟨b, o + i * 6 + 1, none⟩) hlr).trans e1; have q2 := (hbu.cell (p := ⟨b, o + i * 6 + 2, none⟩) hlr).trans e2; have q3 := (hbu.cell (p := ⟨b, o + i * 6 + 3, none⟩) hlr).trans e3; have q4 := (hbu.cell (p := ⟨b, o + i * 6 + 4, none⟩) hlr).trans e4; have q5 := (hbu.cell (p := ⟨b, o + i * 6 + 5, none⟩) hlr).trans e5; have s0 := (hbu.cell (p := ⟨w.heap.size, 0, none⟩) hlw).trans t0; have s1 := (hbu.cell (p := ⟨w.heap.size, 1, none⟩) hlw).trans t1))
            rename_i hheld
            have HBU := Lib.hid (HBI.out.trans (hbu.mono hsi))
            clear hheld CS hbu e0 e1 e2 e3 e4 e5 q0 q1 q2 q3 q4 q5 s0 s1 t0 t1
            go_wp2
            go_roundg (gk - 1)
            case measure => omega
            case rel => exact ⟨i + 1, by omega, by go_num, HBU.out⟩
          | true =>
            rw [hs] at cseen
            have CS := Lib.hid cseen
            have HS := Lib.hid hs
            clear cseen hs
            go_wp2_with fail
            go_region_held3 (fun w' => w'.cell? ⟨b, o + i * 6, none⟩ = some (.string x.key) ∧ w'.cell? ⟨b, o + i * 6 + 1, none⟩ = some (.int .u32 x.valid) ∧ w'.cell? ⟨b, o + i * 6 + 2, none⟩ = some (.int .u64 x.seq) ∧ w'.cell? ⟨b, o + i * 6 + 3, none⟩ = some (.int .u64 x.line) ∧ w'.cell? ⟨b, o + i * 6 + 4, none⟩ = some (.int .u8 x.kind) ∧ w'.cell? ⟨b, o + i * 6 + 5, none⟩ = some (.string x.val) ∧ w'.cell? ⟨w.heap.size, 0, none⟩ = some (.slice ac cs.length cc) ∧ w'.cell? ⟨w.heap.size, 1, none⟩ = some (.int .u64 at_)) (go_keep)
              (first | (go_at_call 13; refine (CS.out).mono ?_; rintro e u ⟨rfl, hbu0⟩; have hbu : Below wr.heap.size wr u := (Below.refl _ _).drew.trans hbu0; clear hbu0; have q0 := (hbu.cell (p := ⟨b, o + i * 6, none⟩) hlr).trans e0; have q1 := (hbu.cell (p := ⟨b, o + i * 6 + 1, none⟩) hlr).trans e1; have q2 := (hbu.cell (p := ⟨b, o + i * 6 + 2, none⟩) hlr).trans e2; have q3 := (hbu.cell (p := ⟨b, o + i * 6 + 3, none⟩) hlr).trans e3; have q4 := (hbu.cell (p := ⟨b, o + i * 6 + 4, none⟩) hlr).trans e4; have q5 := (hbu.cell (p := ⟨b, o + i * 6 + 5, none⟩) hlr).trans e5; have s0 := (hbu.cell (p := ⟨w.heap.size, 0, none⟩) hlw).trans t0; have s1 := (hbu.cell (p := ⟨w.heap.size, 1, none⟩) hlw).trans t1))
            rename_i hheld
            have HBU := Lib.hid (HBI.out.trans (hbu.mono hsi))
            clear hheld CS hbu e0 e1 e2 e3 e4 e5 q0 q1 q2 q3 q4 q5 s0 s1 t0 t1
            go_wp2_with fail
            obtain ⟨wo2, rfl⟩ : ∃ wo : World, wo = wr := ⟨_, rfl⟩
            obtain ⟨g2, rfl⟩ : ∃ g : Nat, g = gk := ⟨_, rfl⟩
            go_loopg [8, 9] ys.length (fun gk hv jv wr => ∃ j : Nat, j + gk = ys.length ∧ jv = .int .i64 j ∧ hv = .int .i64 ((ys.take j).filter (hitB x)).length ∧ Below w1.heap.size w1 wr)
            case atStart => exact ⟨0, by omega, rfl, rfl, HBU.out⟩
            case round =>
              obtain ⟨j, hj, rfl, rfl, hBj⟩ := hrel
              have HBJ := Lib.hid hBj
              have hsj := hBj.size
              have hyb := HYS.out
              clear hBj
              have hlw2 : w.heap.size < wr.heap.size := by omega
              have hlr2 : b < wr.heap.size := by omega
              have hT := blk_below HT0.out HBJ.out hl1
              have t0 := cell_of_blk hT 0
              have t1 := cell_of_blk hT 1
              simp at t0 t1
              clear hT
              have e0 := (HBJ.out.cell (p := ⟨b, _, none⟩) hlb).trans (HCELL.out 0 _ rfl)
              have e1 := (HBJ.out.cell (p := ⟨b, _, none⟩) hlb).trans (HCELL.out 1 _ rfl)
              have e2 := (HBJ.out.cell (p := ⟨b, _, none⟩) hlb).trans (HCELL.out 2 _ rfl)
              simp only [Nat.add_zero] at e0 e1 e2
              have hcl := List.length_filter_le (hitB x) (ys.take j)
              have hcl2 := List.length_take_le j ys
              have hcb : ((ys.take j).filter (hitB x)).length < 1000 := by omega
              clear hcl hcl2
              by_cases hjlt : j < ys.length
              · obtain ⟨b2, o2, hav, hlb2, hcell2⟩ := HF.out.get j hjlt
                have hmem2 : ys[j] ∈ ys := List.getElem_mem hjlt
                have hj0 : (0 : Int) ≤ (j : Int) := by omega
                have hj1 : (j : Int) < (ys.length : Int) := by omega
                have hsn := filter_succ (hitB x) ys j hjlt
                have HSN := Lib.hid hsn
                clear hsn
                generalize ys[j] = y at *
                subst hav
                have f0 := (HBJ.out.cell (p := ⟨b2, _, none⟩) hlb2).trans (hcell2 0 _ rfl)
                have f1 := (HBJ.out.cell (p := ⟨b2, _, none⟩) hlb2).trans (hcell2 1 _ rfl)
                have f2 := (HBJ.out.cell (p := ⟨b2, _, none⟩) hlb2).trans (hcell2 2 _ rfl)
                have f3 := (HBJ.out.cell (p := ⟨b2, _, none⟩) hlb2).trans (hcell2 3 _ rfl)
                have f4 := (HBJ.out.cell (p := ⟨b2, _, none⟩) hlb2).trans (hcell2 4 _ rfl)
                have f5 := (HBJ.out.cell (p := ⟨b2, _, none⟩) hlb2).trans (hcell2 5 _ rfl)
                simp only [Nat.add_zero] at f0 f1 f2 f3 f4 f5
                have hlr3 : b2 < wr.heap.size := by omega
                have HM2 := Lib.hid hmem2
                clear hcell2 hmem2
                by_cases hk1 : y.key.toList = x.key.toList
                · have d1 : (y.key.toList == x.key.toList) = true := beq_iff_eq.2 hk1
                  by_cases hk2 : y.valid = x.valid
                  · have d2 : (y.valid == x.valid) = true := by simp [hk2]
                    have hhit : hitB x y = true := by simp [hitB, hk1, hk2]
                    have hym := HV.out.mem HM2.out
                    have hge : x.seq ≤ y.seq := hym.2.2 x HMEM.out HS.out (hitB_spot.1 hhit).symm
                    have d3 : decide (y.seq < x.seq) = false := decide_eq_false (by omega)
                    have HH := Lib.hid hhit
                    have hys := hym.2.1
                    clear hhit hym hge hk1 hk2
                    go_wp2_with fail
                    go_quiet (fail)
                    obtain ⟨R, hR⟩ : ∃ R : World, R = wr.drewN nq := ⟨_, rfl⟩
                    have hBR : Below wr.heap.size wr R := by rw [hR]; exact below_drewN (Below.refl _ _) _
                    have hcR : ∀ p, R.cell? p = wr.cell? p := fun p => by rw [hR]; rfl
                    have hsR : R.heap.size = wr.heap.size := by rw [hR]; rfl
                    rw [← hcR] at f0 f1 f2 f3 f4 f5 e0 e1 e2 t0 t1
                    rw [← hR]
                    have cseen2 := seenLaw_any y ac cc cs at_ R.drew (HC1.out.ext (HBJ.out.trans ((hBR.mono hsj).drew))) (by have := HY.out; omega)
                    rw [hys] at cseen2
                    have CS2 := Lib.hid cseen2
                    have HBR2 := Lib.hid hBR
                    have g1 : w.heap.size < R.heap.size := by omega
                    have g2' : b < R.heap.size := by omega
                    have g3 : b2 < R.heap.size := by omega
                    clear hR hBR hcR cseen2 hys
                    go_wp2_with fail
                    go_region_held3 (fun w' => w'.cell? ⟨b2, o2 + j * 6, none⟩ = some (.string y.key) ∧ w'.cell? ⟨b2, o2 + j * 6 + 1, none⟩ = some (.int .u32 y.valid) ∧ w'.cell? ⟨b2, o2 + j * 6 + 2, none⟩ = some (.int .u64 y.seq) ∧ w'.cell? ⟨b2, o2 + j * 6 + 3, none⟩ = some (.int .u64 y.line) ∧ w'.cell? ⟨b2, o2 + j * 6 + 4, none⟩ = some (.int .u8 y.kind) ∧ w'.cell? ⟨b2, o2 + j * 6 + 5, none⟩ = some (.string y.val) ∧ w'.cell? ⟨w.heap.size, 0, none⟩ = some (.slice ac cs.length cc) ∧ w'.cell? ⟨w.heap.size, 1, none⟩ = some (.int .u64 at_) ∧ w'.cell? ⟨b, o + i * 6 + 2, none⟩ = some (.int .u64 x.seq)) (go_keep)
                      (first | (go_at_call 13; refine (CS2.out).mono ?_; rintro e v ⟨rfl, hbu0⟩; have hbu : Below R.heap.size R v := (Below.refl _ _).drew.trans hbu0; clear hbu0; have q0 := (hbu.cell (p := ⟨b2, o2 + j * 6, none⟩) g3).trans f0; have q1 := (hbu.cell (p := ⟨b2, o2 + j * 6 + 1, none⟩) g3).trans f1; have q2 := (hbu.cell (p := ⟨b2, o2 + j * 6 + 2, none⟩) g3).trans f2; have q3 := (hbu.cell (p := ⟨b2, o2 + j * 6 + 3, none⟩) g3).trans f3; have q4 := (hbu.cell (p := ⟨b2, o2 + j * 6 + 4, none⟩) g3).trans f4; have q5 := (hbu.cell (p := ⟨b2, o2 + j * 6 + 5, none⟩) g3).trans f5; have s0 := (hbu.cell (p := ⟨w.heap.size, 0, none⟩) g1).trans t0; have s1 := (hbu.cell (p := ⟨w.heap.size, 1, none⟩) g1).trans t1; have s2 := (hbu.cell (p := ⟨b, o + i * 6 + 2, none⟩) g2').trans e2))
                    rename_i hheld
                    have HBV := Lib.hid (HBJ.out.trans ((HBR2.out.trans (hbu.mono (by omega))).mono hsj))
                    clear hheld CS2 hbu e0 e1 e2 f0 f1 f2 f3 f4 f5 q0 q1 q2 q3 q4 q5 s0 s1 s2 t0 t1
                    go_wp2
                    go_roundg (gk - 1)
                    case measure => omega
                    case rel => exact ⟨j + 1, by omega, by go_num, by rw [HSN.out, HH.out]; simp, HBV.out⟩
                  · have d2 : (y.valid == x.valid) = false := beq_eq_false_iff_ne.2 hk2
                    have hhit : hitB x y = false := by simp [hitB, hk2]
                    have HH := Lib.hid hhit
                    clear hhit hk1 hk2
                    go_wp2_with fail
                    go_quiet (fail)
                    go_wp2
                    go_roundg (gk - 1)
                    case measure => omega
                    case rel => exact ⟨j + 1, by omega, by go_num, by rw [HSN.out, HH.out]; simp, below_drewN HBJ.out _⟩
                · have d1 : (y.key.toList == x.key.toList) = false := beq_eq_false_iff_ne.2 hk1
                  have hhit : hitB x y = false := by simp [hitB, hk1]
                  have HH := Lib.hid hhit
                  clear hhit hk1
                  go_wp2_with fail
                  go_quiet (fail)
                  go_wp2
                  go_roundg (gk - 1)
                  case measure => omega
                  case rel => exact ⟨j + 1, by omega, by go_num, by rw [HSN.out, HH.out]; simp, below_drewN HBJ.out _⟩
              · have hje : j = ys.length := by omega
                subst hje
                have hone : ((ys.take ys.length).filter (hitB x)).length = 1 := by
                  rw [List.take_length]
                  obtain ⟨y, hy, he, -⟩ := HV.out.has HMEM.out HS.out
                  exact hits_one HV.out.spots hy he
                rw [hone]
                clear hone hcb e0 e1 e2 t0 t1
                go_wp2
                go_roundg (g2 - 1)
                case measure => omega
                case rel => exact ⟨i + 1, by omega, by go_num, HBJ.out⟩
        · have hie : i = xs.length := by omega
          subst hie
          have HG := Lib.hid hilt
          go_wp2_with fail
          clear hilt hlt
          obtain ⟨wo2, rfl⟩ : ∃ wo : World, wo = wr := ⟨_, rfl⟩
          obtain ⟨g2, rfl⟩ : ∃ g : Nat, g = gk := ⟨_, rfl⟩
          go_loopg [10] ys.length (fun gk jv wr => ∃ j : Nat, j + gk = ys.length ∧ jv = .int .i64 j ∧ Below w1.heap.size w1 wr)
          case atStart => exact ⟨0, by omega, rfl, HBI.out⟩
          case round =>
            clear HBI hsi hlw
            obtain ⟨j, hj, rfl, hBj⟩ := hrel
            have HBJ := Lib.hid hBj
            have hyb := HYS.out
            clear hBj
            by_cases hjlt : j < ys.length
            · obtain ⟨b2, o2, rfl, hlb2, hcell2⟩ := HF.out.get j hjlt
              have hmem2 : ys[j] ∈ ys := List.getElem_mem hjlt
              have hj0 : (0 : Int) ≤ (j : Int) := by omega
              have hj1 : (j : Int) < (ys.length : Int) := by omega
              generalize ys[j] = y at *
              have hany : xs.any (fun x => sameF x y) = true := List.any_eq_true.2 ⟨y, (HV.out.mem hmem2).1, sameF_iff.2 rfl⟩
              have HANY := Lib.hid hany
              have HCELL2 := Lib.hid hcell2
              clear hcell2 hmem2 hany
              go_wp2_with fail
              obtain ⟨wo3, rfl⟩ : ∃ wo : World, wo = wr := ⟨_, rfl⟩
              obtain ⟨g3, rfl⟩ : ∃ g : Nat, g = gk := ⟨_, rfl⟩
              go_loopg [11, 12] xs.length (fun gk sv iv wr => ∃ i : Nat, i + gk = xs.length ∧ iv = .int .i64 i ∧ sv = .bool ((xs.take i).any (fun x => sameF x y)) ∧ Below w1.heap.size w1 wr)
              case atStart => exact ⟨0, by omega, rfl, rfl, HBJ.out⟩
              case round =>
                obtain ⟨i, hi, rfl, rfl, hBi⟩ := hrel
                have HBI := Lib.hid hBi
                clear hBi
                by_cases hilt : i < xs.length
                · obtain ⟨b, o, rfl, hlb, hcell⟩ := HL1.out.get i hilt
                  have hi0 : (0 : Int) ≤ (i : Int) := by omega
                  have hi1 : (i : Int) < (xs.length : Int) := by omega
                  have hany2 : (xs.take (i + 1)).any (fun x => sameF x y) = ((xs.take i).any (fun x => sameF x y) || sameF xs[i] y) := by
                    rw [List.take_succ_eq_append_getElem hilt, List.any_append]
                    simp
                  generalize xs[i] = x at *
                  have e0 := (HBI.out.cell (p := ⟨b, _, none⟩) hlb).trans (hcell 0 _ rfl)
                  have e1 := (HBI.out.cell (p := ⟨b, _, none⟩) hlb).trans (hcell 1 _ rfl)
                  have e2 := (HBI.out.cell (p := ⟨b, _, none⟩) hlb).trans (hcell 2 _ rfl)
                  have e3 := (HBI.out.cell (p := ⟨b, _, none⟩) hlb).trans (hcell 3 _ rfl)
                  have e4 := (HBI.out.cell (p := ⟨b, _, none⟩) hlb).trans (hcell 4 _ rfl)
                  have e5 := (HBI.out.cell (p := ⟨b, _, none⟩) hlb).trans (hcell 5 _ rfl)
                  have f0 := (HBI.out.cell (p := ⟨b2, _, none⟩) hlb2).trans (HCELL2.out 0 _ rfl)
                  have f1 := (HBI.out.cell (p := ⟨b2, _, none⟩) hlb2).trans (HCELL2.out 1 _ rfl)
                  have f2 := (HBI.out.cell (p := ⟨b2, _, none⟩) hlb2).trans (HCELL2.out 2 _ rfl)
                  have f3 := (HBI.out.cell (p := ⟨b2, _, none⟩) hlb2).trans (HCELL2.out 3 _ rfl)
                  have f4 := (HBI.out.cell (p := ⟨b2, _, none⟩) hlb2).trans (HCELL2.out 4 _ rfl)
                  have f5 := (HBI.out.cell (p := ⟨b2, _, none⟩) hlb2).trans (HCELL2.out 5 _ rfl)
                  simp only [Nat.add_zero] at e0 e1 e2 e3 e4 e5 f0 f1 f2 f3 f4 f5
                  have HA2 := Lib.hid hany2
                  clear hcell hany2
                  cases hb : (xs.take i).any (fun x => sameF x y) with
                  | true =>
                    have HB := Lib.hid hb
                    clear hb
                    go_wp2_with fail
                    go_quiet (fail)
                    go_wp2
                    go_roundg (gk - 1)
                    case measure => omega
                    case rel => exact ⟨i + 1, by omega, by go_num, by rw [HA2.out, HB.out]; rfl, below_drewN HBI.out _⟩
                  | false =>
                    have HB := Lib.hid hb
                    have heq := run_eqlF x y
                    have hgt := guardF
                    clear hb
                    go_wp2_with fail
                    go_quiet (fail)
                    go_wp2
                    go_roundg (gk - 1)
                    case measure => omega
                    case rel => exact ⟨i + 1, by omega, by go_num, by rw [HA2.out, HB.out]; simp, below_drewN HBI.out _⟩
                · have hie : i = xs.length := by omega
                  subst hie
                  rw [List.take_length, HANY.out]
                  go_wp2
                  go_roundg (g3 - 1)
                  case measure => omega
                  case rel => exact ⟨j + 1, by omega, by go_num, HBI.out⟩
            · go_wp2_with fail
              refine (livesV_any _).mono ?_
              rintro e w5 ⟨rfl, hB5⟩
              have HB5 := Lib.hid (HBJ.out.trans (hB5.mono HBJ.out.size))
              clear hB5
              go_wp2
              go_ret
              exact ⟨rfl, HB1.out.trans (HB5.out.mono HB1.out.size)⟩

theorem viewsLast_any (a : Option Addr) (cap : Nat) (xs : List Fc) (ac : Option Addr) (cc : Nat) (cs : List Lk) (at_ : Int) (on : Bool) (w : World) (hL : SlIn fc 6 w a cap xs) (hC : SlIn lc 2 w ac cc cs) (_ : (Lit.int .u64 at_).wf = true) :
    Calls Try.prog 4 #[.slice a xs.length cap, .agg #[.slice ac cs.length cc, .int .u64 at_, .bool on]] w fun e w' => e = .returned (.bool true) ∧ Below w.heap.size w w' := by
  by_cases hg : 120 < xs.length ∨ 40 < cs.length
  · exact viewsLast_great a cap xs ac cc cs at_ on w hL hC hg
  · exact viewsLast_small a cap xs ac cc cs at_ on w hL hC hg
end Go.Proofs.Ytenocakpipppiaa
