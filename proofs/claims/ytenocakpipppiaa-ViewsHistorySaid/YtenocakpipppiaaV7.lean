/- ViewsAgain's walk. No condition. -/
import Derived.Test.YtenocakpipppiaaV6
import Derived.Test.YtenocakpipppiaaV4
import Derived.Deep.DrawnRows
namespace Go.Proofs.Ytenocakpipppiaa
open Go.RowKit Go.Shelf Go.Herb
attribute [local go_sem ↓] Go.wp_at_zero Go.wp_at_succ

/-- There is a view. -/
theorem viewsOf_ex (al : Option Addr) (cl : Nat) (xs : List Fc) (ac : Option Addr) (cc : Nat) (cs : List Lk) (at_ : Int) (w : World) (hL : Facts w al xs) (hC : Links w ac cs) (hx : xs.length < 1000000) (hc : cs.length < 1000000) :
    Calls Try.prog 12 #[.slice al xs.length cl, .slice ac cs.length cc, .int .u64 at_] w fun e w' => ∃ (a : Option Addr) (ys : List Fc), e = .returned (.slice a ys.length ys.length) ∧ IsView xs cs at_ ys ∧ Facts w' a ys ∧ (a = none → ys = []) ∧ Below w.heap.size w w' :=
  (viewsOf_any al cl xs ac cc cs at_ w hL hC hx hc).mono fun _ _ ⟨a, ys, he, hp, hs, hF, hn, hB⟩ => ⟨a, ys, he, ⟨hp, hs⟩, hF, hn, hB⟩

theorem great_wide {n m : Nat} (h : 120 < n ∨ 40 < m) : (decide (120 < n) || decide (40 < m)) = true := by
  rcases h with h | h <;> simp [h]
theorem great_not {n m : Nat} (h : ¬ (120 < n ∨ 40 < m)) : (decide (120 < n) || decide (40 < m)) = false := by
  have h1 : ¬ 120 < n := fun h' => h (.inl h')
  have h2 : ¬ 40 < m := fun h' => h (.inr h')
  simp [h1, h2]

theorem viewsAgain_great (a : Option Addr) (cap : Nat) (xs : List Fc) (ac : Option Addr) (cc : Nat) (cs : List Lk) (at_ : Int) (on : Bool) (w : World) (hL : SlIn fc 6 w a cap xs) (hC : SlIn lc 2 w ac cc cs) (hg : 120 < xs.length ∨ 40 < cs.length) :
    Calls Try.prog 3 #[.slice a xs.length cap, .agg #[.slice ac cs.length cc, .int .u64 at_, .bool on]] w fun e w' => e = .returned (.bool true) ∧ Below w.heap.size w w' := by
  have HM := Lib.hid hL.lenle
  have HN := Lib.hid hC.lenle
  have HD := Lib.hid (great_wide hg)
  clear hL hC hg
  go_enter Try.func3, Try.ntmps3
  go_wp2_with fail
  refine (great17_any _ _ _ _ _ _ _ HM.out HN.out).mono ?_
  rintro e w' ⟨rfl, rfl⟩
  rw [HD.out]
  go_wp2_with fail
  refine (livesV_any _).mono ?_
  rintro e w' ⟨rfl, hB⟩
  have HB := Lib.hid hB
  clear hB
  go_wp2
  go_ret
  exact ⟨rfl, ((Below.refl _ _).alloc (Nat.le_refl _) _).trans (HB.out.mono (by simp))⟩

set_option maxRecDepth 100000 in
set_option maxHeartbeats 2000000 in
theorem viewsAgain_small (a : Option Addr) (cap : Nat) (xs : List Fc) (ac : Option Addr) (cc : Nat) (cs : List Lk) (at_ : Int) (on : Bool) (w : World) (hL : SlIn fc 6 w a cap xs) (hC : SlIn lc 2 w ac cc cs) (hg : ¬ (120 < xs.length ∨ 40 < cs.length)) :
    Calls Try.prog 3 #[.slice a xs.length cap, .agg #[.slice ac cs.length cc, .int .u64 at_, .bool on]] w fun e w' => e = .returned (.bool true) ∧ Below w.heap.size w w' := by
  have HX := Lib.hid (show xs.length < 1000 by omega)
  have HY := Lib.hid (show cs.length < 1000 by omega)
  have HM := Lib.hid hL.lenle
  have HN := Lib.hid hC.lenle
  have HD := Lib.hid (great_not hg)
  have HL := Lib.hid hL.els
  have HC := Lib.hid hC.els
  clear hL hC hg
  go_enter Try.func3, Try.ntmps3
  go_wp2_with fail
  refine (great17_any _ _ _ _ _ _ _ HM.out HN.out).mono ?_
  rintro e w' ⟨rfl, rfl⟩
  rw [HD.out]
  clear HD
  go_wp2_with fail
  obtain ⟨W, hW⟩ : ∃ W : World, W = w.alloc (.cells #[.slice ac cs.length cc, .int .u64 at_, .bool on] 26) := ⟨_, rfl⟩
  have hBW : Below w.heap.size w W := by rw [hW]; exact (Below.refl _ _).alloc (Nat.le_refl _) _
  have hb0 : W.heap[w.heap.size]? = some (.cells #[.slice ac cs.length cc, .int .u64 at_, .bool on] 26 (0, 0)) := by rw [hW]; exact blk_new_at rfl _
  rw [← hW]
  have hlW := lt_of_blk hb0
  have HBW := Lib.hid hBW
  have HB0 := Lib.hid hb0
  clear hW hBW hb0
  refine (viewsOf_ex a cap xs ac cc cs at_ W (HL.out.ext HBW.out) (HC.out.ext HBW.out) (by have := HX.out; omega) (by have := HY.out; omega)).mono ?_
  rintro e w1 ⟨av, ys, rfl, hV, hF, hn, hB1⟩
  have hs1 := hB1.size
  have HV := Lib.hid hV
  have HF := Lib.hid hF
  have HB1 := Lib.hid (HBW.out.trans (hB1.mono HBW.out.size))
  have hb1 := blk_below HB0.out hB1 hlW
  have HT0 := Lib.hid hb1
  have HL1 := Lib.hid ((HL.out.ext HBW.out).ext hB1)
  have HC1 := Lib.hid ((HC.out.ext HBW.out).ext hB1)
  have hl1 : w.heap.size < w1.heap.size := by omega
  have hys := hV.len
  have HYS := Lib.hid (show ys.length < 1000 by have := HX.out; omega)
  clear hV hF hn hB1 hb1 hys HBW HB0 HL HC
  go_wp2_with fail
  go_loopg [6, 7] xs.length (fun gk mv iv wr => ∃ k : Nat, k + gk = xs.length ∧ iv = .int .i64 k ∧ OwnF w1.heap.size wr mv ((xs.take k).filter (seenC cs at_)) ∧ Below w1.heap.size w1 wr)
  case atStart => exact ⟨0, by omega, rfl, World.ownsRow_nil _ _ _ _, Below.refl _ _⟩
  case round =>
    obtain ⟨k, hk, rfl, hown, hBw⟩ := hrel
    have hT := blk_below HT0.out hBw hl1
    have t0 := cell_of_blk hT 0
    have t1 := cell_of_blk hT 1
    simp at t0 t1
    have HOWN := Lib.hid hown
    have HBR := Lib.hid hBw
    have hsr := hBw.size
    clear hown hT hBw
    have hxb := HX.out
    by_cases hlt : k < xs.length
    · obtain ⟨b, o, rfl, hlb, hcell⟩ := HL1.out.get k hlt
      have hk0 : (0 : Int) ≤ (k : Int) := by omega
      have hk1 : (k : Int) < (xs.length : Int) := by omega
      have hsn := filter_succ (seenC cs at_) xs k hlt
      generalize xs[k] = x at *
      have e0 := (HBR.out.cell (p := ⟨b, _, none⟩) hlb).trans (hcell 0 _ rfl)
      have e1 := (HBR.out.cell (p := ⟨b, _, none⟩) hlb).trans (hcell 1 _ rfl)
      have e2 := (HBR.out.cell (p := ⟨b, _, none⟩) hlb).trans (hcell 2 _ rfl)
      have e3 := (HBR.out.cell (p := ⟨b, _, none⟩) hlb).trans (hcell 3 _ rfl)
      have e4 := (HBR.out.cell (p := ⟨b, _, none⟩) hlb).trans (hcell 4 _ rfl)
      have e5 := (HBR.out.cell (p := ⟨b, _, none⟩) hlb).trans (hcell 5 _ rfl)
      simp only [Nat.add_zero] at e0 e1 e2 e3 e4 e5
      have hlr : b < wr.heap.size := by omega
      have hlw : w.heap.size < wr.heap.size := by omega
      have HSN := Lib.hid hsn
      have cseen := seenLaw_any x ac cc cs at_ wr.drew (HC1.out.ext HBR.out.drew) (by have := HY.out; omega)
      clear hsn hcell
      cases hs : seenC cs at_ x with
      | false =>
        rw [hs] at cseen
        have CS := Lib.hid cseen
        have HS := Lib.hid hs
        clear cseen hs
        go_wp2_with fail
        go_region_held3 (fun w' => w'.cell? ⟨b, o + k * 6, none⟩ = some (.string x.key) ∧ w'.cell? ⟨b, o + k * 6 + 1, none⟩ = some (.int .u32 x.valid) ∧ w'.cell? ⟨b, o + k * 6 + 2, none⟩ = some (.int .u64 x.seq) ∧ w'.cell? ⟨b, o + k * 6 + 3, none⟩ = some (.int .u64 x.line) ∧ w'.cell? ⟨b, o + k * 6 + 4, none⟩ = some (.int .u8 x.kind) ∧ w'.cell? ⟨b, o + k * 6 + 5, none⟩ = some (.string x.val) ∧ w'.cell? ⟨w.heap.size, 0, none⟩ = some (.slice ac cs.length cc) ∧ w'.cell? ⟨w.heap.size, 1, none⟩ = some (.int .u64 at_)) (go_keep)
          (first | (go_at_call 13; refine (CS.out).mono ?_; rintro e u ⟨rfl, hbu0⟩; have hbu : Below wr.heap.size wr u := (Below.refl _ _).drew.trans hbu0; clear hbu0; have f0 := (hbu.cell (p := ⟨b, o + k * 6, none⟩) hlr).trans e0; have f1 := (hbu.cell (p := ⟨b, o + k * 6 + 1, none⟩) hlr).trans e1; have f2 := (hbu.cell (p := ⟨b, o + k * 6 + 2, none⟩) hlr).trans e2; have f3 := (hbu.cell (p := ⟨b, o + k * 6 + 3, none⟩) hlr).trans e3; have f4 := (hbu.cell (p := ⟨b, o + k * 6 + 4, none⟩) hlr).trans e4; have f5 := (hbu.cell (p := ⟨b, o + k * 6 + 5, none⟩) hlr).trans e5; have s0 := (hbu.cell (p := ⟨w.heap.size, 0, none⟩) hlw).trans t0; have s1 := (hbu.cell (p := ⟨w.heap.size, 1, none⟩) hlw).trans t1))
        rename_i hheld
        have HBU := Lib.hid (HBR.out.trans (hbu.mono hsr))
        have HOU := Lib.hid (OwnF.below HOWN.out hbu)
        clear hheld CS
        have hb2 := (hbu.mono hsr)
        clear f0 f1 f2 f3 f4 f5 s0 s1 e0 e1 e2 e3 e4 e5 t0 t1 hbu hb2
        go_wp2
        go_roundg (gk - 1)
        case measure => omega
        case rel => exact ⟨k + 1, by omega, by go_num, by rw [HSN.out, HS.out]; simpa using HOU.out, HBU.out⟩
      | true =>
        rw [hs] at cseen
        have CS := Lib.hid cseen
        have HS := Lib.hid hs
        clear cseen hs
        go_wp2_with fail
        go_region_held3 (fun w' => w'.cell? ⟨b, o + k * 6, none⟩ = some (.string x.key) ∧ w'.cell? ⟨b, o + k * 6 + 1, none⟩ = some (.int .u32 x.valid) ∧ w'.cell? ⟨b, o + k * 6 + 2, none⟩ = some (.int .u64 x.seq) ∧ w'.cell? ⟨b, o + k * 6 + 3, none⟩ = some (.int .u64 x.line) ∧ w'.cell? ⟨b, o + k * 6 + 4, none⟩ = some (.int .u8 x.kind) ∧ w'.cell? ⟨b, o + k * 6 + 5, none⟩ = some (.string x.val) ∧ w'.cell? ⟨w.heap.size, 0, none⟩ = some (.slice ac cs.length cc) ∧ w'.cell? ⟨w.heap.size, 1, none⟩ = some (.int .u64 at_)) (go_keep)
          (first | (go_at_call 13; refine (CS.out).mono ?_; rintro e u ⟨rfl, hbu0⟩; have hbu : Below wr.heap.size wr u := (Below.refl _ _).drew.trans hbu0; clear hbu0; have f0 := (hbu.cell (p := ⟨b, o + k * 6, none⟩) hlr).trans e0; have f1 := (hbu.cell (p := ⟨b, o + k * 6 + 1, none⟩) hlr).trans e1; have f2 := (hbu.cell (p := ⟨b, o + k * 6 + 2, none⟩) hlr).trans e2; have f3 := (hbu.cell (p := ⟨b, o + k * 6 + 3, none⟩) hlr).trans e3; have f4 := (hbu.cell (p := ⟨b, o + k * 6 + 4, none⟩) hlr).trans e4; have f5 := (hbu.cell (p := ⟨b, o + k * 6 + 5, none⟩) hlr).trans e5; have s0 := (hbu.cell (p := ⟨w.heap.size, 0, none⟩) hlw).trans t0; have s1 := (hbu.cell (p := ⟨w.heap.size, 1, none⟩) hlw).trans t1))
        rename_i hheld
        have HBU := Lib.hid (HBR.out.trans (hbu.mono hsr))
        have HOU := Lib.hid (OwnF.below HOWN.out hbu)
        clear hheld CS
        have hsu : w1.heap.size ≤ u.heap.size := HBU.out.size
        obtain ⟨X, hX⟩ : ∃ X : World, X = u.alloc (.cells (fc x).toArray 34) := ⟨_, rfl⟩
        have hBX : Below u.heap.size u X := by rw [hX]; exact (Below.refl _ _).alloc (Nat.le_refl _) _
        have hX1 : X.heap[u.heap.size]? = some (.cells (fc x).toArray 34 (0, 0)) := by rw [hX]; exact blk_new_at rfl _
        obtain ⟨v', w2, hrun, hO2, hg2⟩ := run_append_facts X w1.heap.size u6 ((xs.take k).filter (seenC cs at_)) (some ⟨u.heap.size, 0, none⟩) 1 [x] (OwnF.below HOU.out hBX) (els_of_one hX1) (by have h1 := List.length_filter_le (seenC cs at_) (xs.take k); have h2 := List.length_take_le k xs; have := HX.out; omega) (by simp) (fun h => by cases h) (by have := hBX.size; omega) (22)
        have hrow : ∀ k', u6.ownBlock = some k' → w1.heap.size ≤ k' := fun k' hk' => (World.ownsRow.lt HOU.out k' hk').1
        have HB2 := Lib.hid ((HBU.out.trans (hBX.mono hsu)).grown hg2 (Nat.le_trans hsu hBX.size) hrow)
        have hrun' : (Builtin.append_ #[22, 22] 22 #[u6, .slice (some ⟨u.heap.size, 0, none⟩) 1 1]).run Try.prog X = .ok v' w2 := hrun
        rw [hX] at hrun'
        have HRUN := Lib.hid hrun'
        have HO2 := Lib.hid hO2
        clear hX hBX hX1 hrun hrun' hO2 hg2 hrow e0 e1 e2 e3 e4 e5 t0 t1 hbu
        simp only [fc] at HRUN
        go_wp2_with (at_builtin; refine Lib.wpList_append_run _ rfl _ _ _ _ rfl _ _ rfl rfl _ _ (HRUN.out) ?_)
        go_roundg (gk - 1)
        case measure => omega
        case rel => exact ⟨k + 1, by omega, by go_num, by rw [HSN.out, HS.out]; simpa using HO2.out, HB2.out⟩
    · have hke : k = xs.length := by omega
      subst hke
      have hown := HOWN.out
      rw [List.take_length] at hown
      have hml : (xs.filter (seenC cs at_)).length ≤ xs.length := List.length_filter_le _ _
      have hMI := HV.out.mine
      have hA1 := HV.out.again (at' := at_) (fun _ h => h)
      have hA2 := HV.out.again (at' := 18446744073709551615) (fun _ h => seenC_max h)
      generalize xs.filter (seenC cs at_) = ms at *
      obtain ⟨am, cm, rfl, -, hEM⟩ := els_of_owns fc_len (show wr.ownsRow w1.heap.size 34 6 u6 ms.length (ms.flatMap fc) from hown)
      have HMI := Lib.hid hMI
      have HA1 := Lib.hid hA1
      have HA2 := Lib.hid hA2
      have HEM := Lib.hid hEM
      have HML := Lib.hid hml
      clear hown hMI hA1 hA2 hEM hml HOWN
      have HR1 := Lib.hid (Below.refl wr.heap.size wr)
      clear t0 t1
      have HBS1 := Lib.hid (HBR.out.trans (HR1.out.mono hsr))
      have hT1 := blk_below HT0.out HBS1.out hl1
      have t0 := cell_of_blk hT1 0
      have t1 := cell_of_blk hT1 1
      simp at t0 t1
      clear hT1
      go_wp2_with fail
      refine (viewsOf_is av ys.length ys ac cc cs at_ ys HA1.out _ (HF.out.ext HBS1.out) (HC1.out.ext HBS1.out) (by have := HYS.out; omega) (by have := HY.out; omega)).mono ?_
      rintro e w1a ⟨a1, rfl, hF1, -, hB1⟩
      have HF1 := Lib.hid hF1
      have HR1a := Lib.hid (HR1.out.trans (hB1.mono HR1.out.size))
      have HBS1a := Lib.hid (HBR.out.trans (HR1a.out.mono hsr))
      clear hF1 hB1 t0 t1
      go_wp2_with fail
      refine (sameFacts_any a1 av _ _ ys w1a HF1.out (HF.out.ext HBS1a.out) (by have := HYS.out; omega)).mono ?_
      rintro e w1b ⟨rfl, n1, rfl⟩
      have HR2 := Lib.hid (below_drewN HR1a.out n1)
      clear HR1 HBS1 HR1a HBS1a HF1
      have HBS2 := Lib.hid (HBR.out.trans (HR2.out.mono hsr))
      have hT2 := blk_below HT0.out HBS2.out hl1
      have t0 := cell_of_blk hT2 0
      have t1 := cell_of_blk hT2 1
      simp at t0 t1
      clear hT2
      go_wp2_with fail
      refine (viewsOf_is av ys.length ys ac cc cs 18446744073709551615 ys HA2.out _ (HF.out.ext HBS2.out) (HC1.out.ext HBS2.out) (by have := HYS.out; omega) (by have := HY.out; omega)).mono ?_
      rintro e w2a ⟨a2, rfl, hF2, -, hB2⟩
      have HF2 := Lib.hid hF2
      have HR2a := Lib.hid (HR2.out.trans (hB2.mono HR2.out.size))
      have HBS2a := Lib.hid (HBR.out.trans (HR2a.out.mono hsr))
      clear hF2 hB2 t0 t1
      go_wp2_with fail
      refine (sameFacts_any a2 av _ _ ys w2a HF2.out (HF.out.ext HBS2a.out) (by have := HYS.out; omega)).mono ?_
      rintro e w2b ⟨rfl, n2, rfl⟩
      have HR3 := Lib.hid (below_drewN HR2a.out n2)
      clear HR2 HBS2 HR2a HBS2a HF2
      have HBS3 := Lib.hid (HBR.out.trans (HR3.out.mono hsr))
      have hT3 := blk_below HT0.out HBS3.out hl1
      have t0 := cell_of_blk hT3 0
      have t1 := cell_of_blk hT3 1
      simp at t0 t1
      clear hT3
      go_wp2_with fail
      refine (viewsOf_is am cm ms ac cc cs at_ ys HMI.out _ (HEM.out.ext HR3.out) (HC1.out.ext HBS3.out) (by have := HML.out; have := HX.out; omega) (by have := HY.out; omega)).mono ?_
      rintro e w3a ⟨a3, rfl, hF3, -, hB3⟩
      have HF3 := Lib.hid hF3
      have HR3a := Lib.hid (HR3.out.trans (hB3.mono HR3.out.size))
      have HBS3a := Lib.hid (HBR.out.trans (HR3a.out.mono hsr))
      clear hF3 hB3 t0 t1
      go_wp2_with fail
      refine (sameFacts_any a3 av _ _ ys w3a HF3.out (HF.out.ext HBS3a.out) (by have := HYS.out; omega)).mono ?_
      rintro e w3b ⟨rfl, n3, rfl⟩
      have HR4 := Lib.hid (below_drewN HR3a.out n3)
      clear HR3 HBS3 HR3a HBS3a HF3
      have HBS4 := Lib.hid (HBR.out.trans (HR4.out.mono hsr))
      go_wp2_with fail
      refine (livesV_any _).mono ?_
      rintro e w5 ⟨rfl, hB5⟩
      have HB5 := Lib.hid (HBS4.out.trans (hB5.mono HBS4.out.size))
      clear hB5
      go_wp2
      go_ret
      exact ⟨rfl, HB1.out.trans (HB5.out.mono HB1.out.size)⟩

theorem viewsAgain_any (a : Option Addr) (cap : Nat) (xs : List Fc) (ac : Option Addr) (cc : Nat) (cs : List Lk) (at_ : Int) (on : Bool) (w : World) (hL : SlIn fc 6 w a cap xs) (hC : SlIn lc 2 w ac cc cs) (_ : (Lit.int .u64 at_).wf = true) :
    Calls Try.prog 3 #[.slice a xs.length cap, .agg #[.slice ac cs.length cc, .int .u64 at_, .bool on]] w fun e w' => e = .returned (.bool true) ∧ Below w.heap.size w w' := by
  by_cases hg : 120 < xs.length ∨ 40 < cs.length
  · exact viewsAgain_great a cap xs ac cc cs at_ on w hL hC hg
  · exact viewsAgain_small a cap xs ac cc cs at_ on w hL hC hg
end Go.Proofs.Ytenocakpipppiaa
