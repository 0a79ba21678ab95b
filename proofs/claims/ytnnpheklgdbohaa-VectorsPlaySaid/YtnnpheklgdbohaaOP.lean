/- law16.VectorsTurned's walk. No condition. -/
import Derived.Test.YtnnpheklgdbohaaOR
import Derived.Deep.RegionHeld3
namespace Go.Herb
open Go
def mostOf (b : Bh) : Int := b.foldl (fun m q => max m q.2) 0
theorem most_snoc (b : Bh) (q : Int × Int) : mostOf (b ++ [q]) = max (mostOf b) q.2 := by simp [mostOf]
theorem most_ge : ∀ {b : Bh} {q : Int × Int}, q ∈ b → q.2 ≤ mostOf b := by
  have key : ∀ (b : Bh) (z : Int), z ≤ b.foldl (fun m q => max m q.2) z ∧ ∀ q ∈ b, q.2 ≤ b.foldl (fun m q => max m q.2) z := by
    intro b
    induction b with
    | nil => intro z; exact ⟨Int.le_refl _, by simp⟩
    | cons p b ih =>
      intro z
      have := ih (max z p.2)
      refine ⟨by have := this.1; simp only [List.foldl_cons]; omega, fun q hq => ?_⟩
      rcases List.mem_cons.1 hq with rfl | hq
      · have := this.1; simp only [List.foldl_cons]; omega
      · exact this.2 q hq
  intro b q hq
  exact (key b 0).2 q hq
theorem most_nn (b : Bh) : 0 ≤ mostOf b := by
  have key : ∀ (b : Bh) (z : Int), z ≤ b.foldl (fun m q => max m q.2) z := by
    intro b
    induction b with
    | nil => intro z; exact Int.le_refl _
    | cons p b ih => intro z; have := ih (max z p.2); simp only [List.foldl_cons]; omega
  exact key b 0
theorem most_at (b : Bh) : mostOf b = 0 ∨ ∃ q ∈ b, q.2 = mostOf b := by
  have key : ∀ (b : Bh) (z : Int), b.foldl (fun m q => max m q.2) z = z ∨ ∃ q ∈ b, q.2 = b.foldl (fun m q => max m q.2) z := by
    intro b
    induction b with
    | nil => intro z; exact .inl rfl
    | cons p b ih =>
      intro z
      rw [List.foldl_cons]
      rcases ih (max z p.2) with h | ⟨q, hq, h⟩
      · by_cases e : z ≤ p.2
        · exact .inr ⟨p, by simp, by rw [h]; omega⟩
        · left; rw [h]; omega
      · exact .inr ⟨q, by simp [hq], h⟩
  exact key b 0
theorem IsBase.le {b c : Bh} {p : Int × Int} (h : IsBase b c p) (hb : Okm b) : p.2 ≤ mostOf b := by
  rcases Int.lt_or_eq_of_le h.nn with h0 | h0
  · have h1 := h.at_ h0
    have h2 : g0 b p.1 ≠ 0 := by omega
    have := most_ge (hb.mem_of h2)
    simp only at this
    omega
  · have := most_nn b; omega
theorem IsBase.own {b : Bh} {p : Int × Int} (h : IsBase b b p) (hb : Okm b) : p.2 = mostOf b := by
  have h1 := h.le hb
  rcases most_at b with h2 | ⟨q, hq, h2⟩
  · have := h.nn; omega
  · have := h.top q.1
    rw [g0_mem hb.nodup hq] at this
    omega
end Go.Herb
namespace Go.Proofs.Ytnnpheklgdbohaa
open Go.RowKit Go.Shelf Go.Herb

/-- A base, in a box of its own. -/
def BoxAt (y1 y2 : Bh) (w : World) (pv ev : Value) (wx : World) : Prop :=
  ∃ (bx : Nat) (q : Int × Int), pv = .pointer (some ⟨bx, 0, none⟩) ∧ ev = .int .i64 0 ∧ wx.heap[bx]? = some (.cells #[.int .u64 q.1, .int .u64 q.2] (34) (0, 0)) ∧ IsBase y1 y2 q ∧ Below w.heap.size w wx ∧ w.heap.size ≤ bx
abbrev boxW (w : World) : World := (w.alloc (.cells #[.int .u64 0, .int .u64 0] (34))).drew
theorem boxW_below (w : World) : Below w.heap.size w (boxW w) := ((Below.refl _ w).alloc (Nat.le_refl _) _).drew
theorem boxA {y1 y2 : Bh} {w w5 : World} {q : Int × Int} (hb : Below w.heap.size w w5) (hB : IsBase y1 y2 q) : Hid (BoxAt y1 y2 w (.pointer (some ⟨w5.heap.size, 0, none⟩)) (.int .i64 0) (w5.alloc (.cells #[.int .u64 q.1, .int .u64 q.2] (34)))) :=
  Lib.hid ⟨_, q, rfl, rfl, blk_new_at rfl _, hB, hb.alloc hb.size _, hb.size⟩
theorem boxW_size (w : World) : (boxW w).heap.size = w.heap.size + 1 := by show (w.alloc (.cells #[.int .u64 0, .int .u64 0] (34))).heap.size = _; simp
theorem bset {w u : World} (h : Below w.heap.size w u) (n o : Nat) (v : Value) (hn : w.heap.size ≤ n) : Below w.heap.size w (u.setCell ⟨n, o, none⟩ v) := h.grown (grown_set (grown_refl _ _) _ _ : u.grownBy _ (some n)) h.size (fun k e => by injection e with e; omega)
theorem boxBlk {w w5 : World} (hb : Below (boxW w).heap.size (boxW w) w5) : w5.heap[w.heap.size]? = some (.cells #[.int .u64 0, .int .u64 0] (34) (0, 0)) := by
  have h0 : (boxW w).heap[w.heap.size]? = some (.cells #[.int .u64 0, .int .u64 0] (34) (0, 0)) := blk_new_at (w := w) rfl _
  exact blk_below h0 hb (by rw [boxW_size]; omega)
theorem boxB {y1 y2 : Bh} {w w5 : World} {q : Int × Int} (hb : Below (boxW w).heap.size (boxW w) w5) (hB : IsBase y1 y2 q) : Hid (BoxAt y1 y2 w (.pointer (some ⟨w.heap.size, 0, none⟩)) (.int .i64 0) ((w5.setCell ⟨w.heap.size, 0, none⟩ (.int .u64 q.1)).setCell ⟨w.heap.size, 1, none⟩ (.int .u64 q.2))) := by
  have h1 := boxBlk hb
  have h2 := blk_setCell (j := 1) (blk_setCell (j := 0) h1 (.int .u64 q.1)) (.int .u64 q.2)
  have h3 : Below w.heap.size w w5 := (boxW_below w).trans (hb.mono (by rw [boxW_size]; omega))
  exact Lib.hid ⟨_, q, rfl, rfl, by simpa using h2, hB, h3.grown (grown_set (grown_set (grown_refl _ _) _ _) _ _ : w5.grownBy _ (some w.heap.size)) h3.size (fun k e => by injection e with e; omega), Nat.le_refl _⟩
theorem boxCells {w w5 : World} (hb : Below (boxW w).heap.size (boxW w) w5) : w5.cell? ⟨w.heap.size, 0, none⟩ = some (.int .u64 0) ∧ w5.cell? ⟨w.heap.size, 1, none⟩ = some (.int .u64 0) ∧ w5.frozen? ⟨w.heap.size, 0, none⟩ = false ∧ w5.frozen? ⟨w.heap.size, 1, none⟩ = false := by
  have h1 := boxBlk hb
  exact ⟨by have := cell_of_blk h1 0; simpa using this, by have := cell_of_blk h1 1; simpa using this, frozen_of_blk h1 _, frozen_of_blk h1 _⟩
/-- The call, in whatever world. -/
theorem base_call {p mb : Nat} {M : List (Int × Nat)} {L : Vs} {l1 l2 : Int} {y1 y2 : Bh} {w : World} (hv : VecIs w p mb M L) (hG : GoodV L) (hS : Small L) (h1 : getL L l1 = some y1) (h2 : getL L l2 = some y2) :
    Hid (∀ u : World, Below w.heap.size w u → Calls Try.prog (12) #[.pointer (some ⟨p, 0, none⟩), .int .u64 l1, .int .u64 l2] u (fun e w5 => ∃ q : Int × Int, e = .returned (.tuple #[.agg #[.int .u64 q.1, .int .u64 q.2], .int .i64 0]) ∧ IsBase y1 y2 q ∧ Below u.heap.size u w5)) := Lib.hid (fun u hu => by
  refine (base_any p mb M L l1 l2 u (hv.below hu) hG hS (hG.get h1).2 (hG.get h2).2).mono ?_
  rintro e w5 ⟨q, er, rfl, hb5, ⟨rfl, x', y', hx', hy', hB⟩ | ⟨_, _, h⟩⟩
  · rw [h1] at hx'
    rw [h2] at hy'
    cases hx'
    cases hy'
    exact ⟨q, rfl, hB, hb5⟩
  · rcases h with h | h
    · rw [h1] at h; cases h
    · rw [h2] at h; cases h)

set_option maxRecDepth 100000 in
set_option maxHeartbeats 4000000 in
theorem turned_any (a : Option Addr) (cap : Nat) (xs : List Vc) (ab : Option Addr) (cb : Nat) (acts : List Ac) (w : World) (h : VIn w a xs) (ha : AIn w ab acts) :
    Calls Try.prog (3) #[.slice a xs.length cap, .slice ab acts.length cb] w fun e w' => e = .returned (.bool true) ∧ Below w.heap.size w w' := by
  have HM := Lib.hid (made_any a cap xs ab cb acts w h ha.els ha.len)
  clear h ha
  have hneq := run_neqP
  have hgt := guardP
  go_enter Try.func3, Try.ntmps3
  go_wp2_with fail
  refine (HM.out).mono ?_
  rintro e w1 ⟨v, c, rfl, hb1, ht, hf⟩
  have HB1 := Lib.hid hb1
  clear HM
  cases c with
  | false =>
    clear ht hf hb1
    go_wp2_with fail
    refine (lives_any w1).mono ?_
    rintro e w2 ⟨rfl, hb2⟩
    have HB2 := Lib.hid (HB1.out.trans (hb2.mono HB1.out.size))
    clear hb2
    go_wp2
    go_ret
    exact ⟨rfl, HB2.out⟩
  | true =>
    obtain ⟨_, _, hg, hs, _, p, mb, M, rfl, hv⟩ := ht rfl
    obtain ⟨L, hL⟩ : ∃ L, L = madeV (vsOf xs) acts := ⟨_, rfl⟩
    rw [← hL] at hg hs hv
    have HV1 := Lib.hid hv
    have HGD := Lib.hid hg
    have HSM := Lib.hid hs
    clear hv hg hs hL ht hf hb1
    go_wp2_with fail
    refine (all_any p mb M L w1 HV1.out HGD.out HSM.out).mono ?_
    rintro e w2 ⟨va, vcap, ys, rfl, hys, hyo, hya, hb2⟩
    have hvin := vin_of hys hyo (fun x hx => (hya x hx).1) HGD.out HSM.out
    have HIN := Lib.hid hvin
    have HB2 := Lib.hid (HB1.out.trans (hb2.mono HB1.out.size))
    have HV2 := Lib.hid (HV1.out.below hb2)
    have HYS := Lib.hid (show ∀ y ∈ ys, getL L y.line = some y.ps ∧ U64 y.line ∧ Herb.Good y.ps from fun y hy => by
      have h1 : (y.line, y.ps) ∈ L := by rw [← hys]; exact List.mem_map.2 ⟨y, hy, rfl⟩
      exact ⟨(getL_some HGD.out.srt.nodup).2 h1, HGD.out.wf _ h1, HGD.out.inn _ h1⟩)
    have hyl : ys.length < 100000 := by have h1 : ys.length = L.length := by rw [← hys]; simp
                                        have := HSM.out.len; omega
    have HPL := Lib.hid (show ∀ y ∈ ys, y.ps.length < 100000 from fun y hy => by have h1 : (y.line, y.ps) ∈ L := by rw [← hys]; exact List.mem_map.2 ⟨y, hy, rfl⟩
                                                                                 exact HSM.out.inn _ h1)
    clear hys hyo hya hb2 hvin
    go_wp2_with fail
    go_loopg [8] ys.length (fun gk iv wr => ∃ i : Nat, i + gk = ys.length ∧ iv = .int .i64 i ∧ Below w2.heap.size w2 wr)
    case atStart => exact ⟨0, by omega, rfl, Below.refl _ _⟩
    case round =>
      obtain ⟨i, hi, rfl, hbw⟩ := hrel
      have HBW := Lib.hid hbw
      have hsz := hbw.size
      clear hbw
      by_cases hlt : i < ys.length
      · obtain ⟨b, o, rfl, hlb, hcell⟩ := HIN.out.els.get i hlt
        have x0 := (HBW.out.cell (p := ⟨b, _, none⟩) hlb).trans (hcell 0 _ rfl)
        have x1 := (HBW.out.cell (p := ⟨b, _, none⟩) hlb).trans (hcell 1 _ rfl)
        simp only [Nat.add_zero] at x0 x1
        have hi0 : (0 : Int) ≤ (i : Int) := by omega
        have hi1 : (i : Int) < (ys.length : Int) := by omega
        have hlbw : b < wr.heap.size := by omega
        obtain ⟨hy1, hy2, hy3⟩ := HYS.out _ (List.getElem_mem hlt)
        have hpp := HIN.out.inn _ (List.getElem_mem hlt)
        have hpl := HPL.out _ (List.getElem_mem hlt)
        clear hcell
        generalize ys[i] = y at *
        obtain ⟨yl, ya, yc, yp⟩ := y
        simp only at x0 x1 hy1 hy2 hy3 hpp hpl
        have HGyl := Lib.hid hy1
        have HUyl := Lib.hid hy2
        have HYG := Lib.hid hy3
        have HPP := Lib.hid hpp
        have HX0 := Lib.hid x0
        have HX1 := Lib.hid x1
        clear hy1 hy2 hy3 hpp
        go_upto_block 2 with (fail)
        go_cut [9] (fun mv wx => mv = .int .u64 (mostOf yp) ∧ wr = wx)
        case first =>
          go_wp2_with fail
          obtain ⟨g1, rfl⟩ : ∃ g1 : Nat, g1 = gk := ⟨_, rfl⟩
          obtain ⟨wo, rfl⟩ : ∃ wo : World, wo = wr := ⟨_, rfl⟩
          go_loopg [9, 10] yp.length (fun gk mv kv wr => ∃ k : Nat, k + gk = yp.length ∧ mv = .int .u64 (mostOf (yp.take k)) ∧ kv = .int .i64 k ∧ wr = wo)
          case atStart => exact ⟨0, by omega, rfl, rfl, rfl⟩
          case round =>
            obtain ⟨k, hk, rfl, rfl, rfl⟩ := hrel
            by_cases hkl : k < yp.length
            · obtain ⟨b2, o2, rfl, hlb2, hcell2⟩ := HPP.out.get k hkl
              have z1 := (HBW.out.cell (p := ⟨b2, _, none⟩) hlb2).trans (hcell2 1 _ rfl)
              have hk0 : (0 : Int) ≤ (k : Int) := by omega
              have hk1 : (k : Int) < (yp.length : Int) := by omega
              have HSN := Lib.hid (show mostOf (yp.take (k + 1)) = max (mostOf (yp.take k)) yp[k].2 from by rw [List.take_succ_eq_append_getElem hkl, most_snoc])
              clear hcell2
              generalize yp[k] = q at *
              generalize mostOf (yp.take k) = mo at *
              go_wp2_with fail
              go_roundg (gk - 1)
              case measure => omega
              case rel => exact ⟨k + 1, by omega, by rw [HSN.out], by go_num, rfl⟩
            · have hke : k = yp.length := by omega
              have HE := Lib.hid (show mostOf (yp.take k) = mostOf yp from by rw [hke, List.take_length])
              clear hke
              go_wp2_with fail
              go_meet
              exact ⟨by rw [HE.out], rfl⟩
        case rest =>
        obtain ⟨rfl, rfl⟩ := hcut
        have HV := Lib.hid (HV2.out.below HBW.out)
        have HCA := base_call HV.out HGD.out HSM.out HGyl.out HGyl.out
        have hlt_b_A := hlbw
        have hc0A := x0
        go_upto_region 13 with (fail)
        have HSAA : Hid (∀ u : World, Below wr.heap.size wr u → u.cell? ⟨b, o + i * 2, none⟩ = some (.int .u64 yl)) := Lib.hid (fun u hu => (hu.cell (p := ⟨b, o + i * 2, none⟩) hlt_b_A).trans hc0A)
        have HDAA := Lib.hid (Below.drew (Below.refl wr.heap.size wr))
        have HDBA := Lib.hid (boxW_below wr)
        go_cut [11, 12] (fun pv ev wx => BoxAt yp yp wr pv ev wx)
        case first =>
          go_wp2_with fail
          go_region_held3 (fun u => u.cell? ⟨b, o + i * 2, none⟩ = some (.int .u64 yl)) (first | go_keep | exact HSAA.out _ HDAA.out | exact HSAA.out _ HDBA.out | exact HSAA.out _ hbu | exact HSAA.out _ (bset hbu _ _ _ (Nat.le_refl _)) | exact HSAA.out _ (bset (bset hbu _ _ _ (Nat.le_refl _)) _ _ _ (Nat.le_refl _)) | exact HSAA.out _ (hbu.alloc hbu.size _) | exact HSAA.out _ (bset (hbu.alloc hbu.size _) _ _ _ hbu.size)) (first | (go_at_call 12; (with_reducible refine (HCA.out _ HDAA.out).mono ?_); rintro e w5 ⟨q, rfl, hB, hb5⟩; have FA := boxA (HDAA.out.trans (hb5.mono HDAA.out.size)) hB; have hbu := HDAA.out.trans (hb5.mono HDAA.out.size); have hS5 := HSAA.out _ hbu; clear hB hb5) | (go_at_call 12; (with_reducible refine (HCA.out _ HDBA.out).mono ?_); rintro e w5 ⟨q, rfl, hB, hb5⟩; have FA := boxB hb5 hB; obtain ⟨g0, g1, g2, g3⟩ := boxCells hb5; have hbu := HDBA.out.trans (hb5.mono HDBA.out.size); have hS5 := HSAA.out _ hbu; clear hB hb5))
          all_goals
            go_wp2
            go_meet
            exact FA.out
        case rest =>
        obtain ⟨bxA, qA, rfl, rfl, hbxA, hibA, hbA, hleA⟩ := hcut
        have hown := hibA.own HYG.out.ok
        have z0 := cell_of_blk hbxA 0
        have z1 := cell_of_blk hbxA 1
        simp at z0 z1
        rw [hown] at z1
        have HBA := Lib.hid hbA
        have HVA := Lib.hid (HV.out.below hbA)
        clear hown hbxA hbA x0 x1 HV hibA HCA HSAA HDAA HDBA hc0A hlt_b_A hleA
        have hszA := HBA.out.size
        go_wp2_with fail
        clear z0 z1
        obtain ⟨g1, rfl⟩ : ∃ g1 : Nat, g1 = gk := ⟨_, rfl⟩
        obtain ⟨wo, rfl⟩ : ∃ wo : World, wo = wr := ⟨_, rfl⟩
        go_loopg [13] ys.length (fun gk kv wr => ∃ k : Nat, k + gk = ys.length ∧ kv = .int .i64 k ∧ Below wo.heap.size wo wr)
        case atStart => exact ⟨0, by omega, rfl, HBA.out⟩
        case round =>
          obtain ⟨k, hk, rfl, hbk⟩ := hrel
          have HBK := Lib.hid hbk
          have hszk := hbk.size
          have HWK := Lib.hid (HBW.out.trans (hbk.mono hsz))
          clear hbk
          by_cases hkl : k < ys.length
          · obtain ⟨b', o', hab, hlk, hcell⟩ := HIN.out.els.get k hkl
            injection hab with hab
            cases hab
            have x0 := (HBK.out.cell (p := ⟨b, _, none⟩) hlbw).trans HX0.out
            have y0 := (HWK.out.cell (p := ⟨b, _, none⟩) hlk).trans (hcell 0 _ rfl)
            simp only [Nat.add_zero] at y0
            have hk0 : (0 : Int) ≤ (k : Int) := by omega
            have hk1 : (k : Int) < (ys.length : Int) := by omega
            have hlbr : b < wr.heap.size := by omega
            obtain ⟨hy1, hy2, hy3⟩ := HYS.out _ (List.getElem_mem hkl)
            clear hcell
            generalize ys[k] = z at *
            obtain ⟨zl, za, zc, zp⟩ := z
            simp only at y0 hy1 hy2 hy3
            have HV := Lib.hid (HV2.out.below HWK.out)
            have HCB := base_call HV.out HGD.out HSM.out HGyl.out hy1
            have HGz := Lib.hid hy1
            have hlt_b_B := hlbr
            have hc0B := x0
            have hc1B := y0
            have HXk := Lib.hid x0
            have HYk := Lib.hid y0
            clear hy1 hy2 hy3
            go_upto_region 19 with (fail)
            have HSAB : Hid (∀ u : World, Below wr.heap.size wr u → u.cell? ⟨b, o + i * 2, none⟩ = some (.int .u64 yl) ∧ u.cell? ⟨b, o + k * 2, none⟩ = some (.int .u64 zl)) := Lib.hid (fun u hu => ⟨(hu.cell (p := ⟨b, o + i * 2, none⟩) hlt_b_B).trans hc0B, (hu.cell (p := ⟨b, o + k * 2, none⟩) hlt_b_B).trans hc1B⟩)
            have HDAB := Lib.hid (Below.drew (Below.refl wr.heap.size wr))
            have HDBB := Lib.hid (boxW_below wr)
            go_cut [14, 15] (fun pv ev wx => BoxAt yp zp wr pv ev wx)
            case first =>
              go_wp2_with fail
              go_region_held3 (fun u => u.cell? ⟨b, o + i * 2, none⟩ = some (.int .u64 yl) ∧ u.cell? ⟨b, o + k * 2, none⟩ = some (.int .u64 zl)) (first | go_keep | exact HSAB.out _ HDAB.out | exact HSAB.out _ HDBB.out | exact HSAB.out _ hbu | exact HSAB.out _ (bset hbu _ _ _ (Nat.le_refl _)) | exact HSAB.out _ (bset (bset hbu _ _ _ (Nat.le_refl _)) _ _ _ (Nat.le_refl _)) | exact HSAB.out _ (hbu.alloc hbu.size _) | exact HSAB.out _ (bset (hbu.alloc hbu.size _) _ _ _ hbu.size)) (first | (go_at_call 12; (with_reducible refine (HCB.out _ HDAB.out).mono ?_); rintro e w5 ⟨q, rfl, hB, hb5⟩; have FA := boxA (HDAB.out.trans (hb5.mono HDAB.out.size)) hB; have hbu := HDAB.out.trans (hb5.mono HDAB.out.size); have hS5 := HSAB.out _ hbu; clear hB hb5) | (go_at_call 12; (with_reducible refine (HCB.out _ HDBB.out).mono ?_); rintro e w5 ⟨q, rfl, hB, hb5⟩; have FA := boxB hb5 hB; obtain ⟨g0, g1, g2, g3⟩ := boxCells hb5; have hbu := HDBB.out.trans (hb5.mono HDBB.out.size); have hS5 := HSAB.out _ hbu; clear hB hb5))
              all_goals
                go_wp2
                go_meet
                exact FA.out
            case rest =>
            obtain ⟨bxB, qB, rfl, rfl, hbxB, hibB, hbB, hleB⟩ := hcut
            have HBB := Lib.hid hbB
            have HVB := Lib.hid (HV.out.below hbB)
            have HBXB := Lib.hid hbxB
            have HIB := Lib.hid hibB
            have hszB := hbB.size
            have HXB := Lib.hid ((hbB.cell (p := ⟨b, _, none⟩) hlbr).trans HXk.out)
            have HYB := Lib.hid ((hbB.cell (p := ⟨b, _, none⟩) hlbr).trans HYk.out)
            clear hbxB hbB hibB x0 y0 hc0B hc1B hlt_b_B HSAB HDAB HDBB HCB
            obtain ⟨wb, rfl⟩ : ∃ wb : World, wb = wc := ⟨_, rfl⟩
            have hlbb : b < wb.heap.size := by omega
            have HCC := base_call HVB.out HGD.out HSM.out HGz.out HGyl.out
            have x0 := HXB.out
            have y0 := HYB.out
            have hlt_b_C := hlbb
            have hc0C := y0
            have hc1C := x0
            go_upto_region 20 with (fail)
            have HSAC : Hid (∀ u : World, Below wb.heap.size wb u → u.cell? ⟨b, o + k * 2, none⟩ = some (.int .u64 zl) ∧ u.cell? ⟨b, o + i * 2, none⟩ = some (.int .u64 yl)) := Lib.hid (fun u hu => ⟨(hu.cell (p := ⟨b, o + k * 2, none⟩) hlt_b_C).trans hc0C, (hu.cell (p := ⟨b, o + i * 2, none⟩) hlt_b_C).trans hc1C⟩)
            have HDAC := Lib.hid (Below.drew (Below.refl wb.heap.size wb))
            have HDBC := Lib.hid (boxW_below wb)
            go_cut [16, 17] (fun pv ev wx => BoxAt zp yp wb pv ev wx)
            case first =>
              go_wp2_with fail
              go_region_held3 (fun u => u.cell? ⟨b, o + k * 2, none⟩ = some (.int .u64 zl) ∧ u.cell? ⟨b, o + i * 2, none⟩ = some (.int .u64 yl)) (first | go_keep | exact HSAC.out _ HDAC.out | exact HSAC.out _ HDBC.out | exact HSAC.out _ hbu | exact HSAC.out _ (bset hbu _ _ _ (Nat.le_refl _)) | exact HSAC.out _ (bset (bset hbu _ _ _ (Nat.le_refl _)) _ _ _ (Nat.le_refl _)) | exact HSAC.out _ (hbu.alloc hbu.size _) | exact HSAC.out _ (bset (hbu.alloc hbu.size _) _ _ _ hbu.size)) (first | (go_at_call 12; (with_reducible refine (HCC.out _ HDAC.out).mono ?_); rintro e w5 ⟨q, rfl, hB, hb5⟩; have FA := boxA (HDAC.out.trans (hb5.mono HDAC.out.size)) hB; have hbu := HDAC.out.trans (hb5.mono HDAC.out.size); have hS5 := HSAC.out _ hbu; clear hB hb5) | (go_at_call 12; (with_reducible refine (HCC.out _ HDBC.out).mono ?_); rintro e w5 ⟨q, rfl, hB, hb5⟩; have FA := boxB hb5 hB; obtain ⟨g0, g1, g2, g3⟩ := boxCells hb5; have hbu := HDBC.out.trans (hb5.mono HDBC.out.size); have hS5 := HSAC.out _ hbu; clear hB hb5))
              all_goals
                go_wp2
                go_meet
                exact FA.out
            case rest =>
            obtain ⟨bxC, qC, rfl, rfl, hbxC, hibC, hbC, hleC⟩ := hcut
            obtain rfl := hibC.symm.uniq HIB.out
            have hle2 := HIB.out.le HYG.out.ok
            have hd2 : decide (mostOf yp < qC.2) = false := decide_eq_false (by omega)
            have hbxB2 := blk_below HBXB.out hbC (lt_of_blk HBXB.out)
            have b0 := cell_of_blk hbxB2 0
            have b1 := cell_of_blk hbxB2 1
            have d0 := cell_of_blk hbxC 0
            have d1 := cell_of_blk hbxC 1
            simp at b0 b1 d0 d1
            have HFIN := Lib.hid (show Below wo.heap.size wo wc from HBK.out.trans ((HBB.out.trans (hbC.mono hszB)).mono hszk))
            clear hbxB2 hbxC hbC hibC x0 y0 hc0C hc1C hlt_b_C HSAC HDAC HDBC HCC HBXB HXB HYB HXk HYk hleB hleC
            go_wp2_with fail
            go_roundg (gk - 1)
            case measure => omega
            case rel => exact ⟨k + 1, by omega, by go_num, HFIN.out⟩
          · go_wp2_with fail
            go_roundg (g1 - 1)
            case measure => omega
            case rel => exact ⟨i + 1, by omega, by go_num, HWK.out⟩
      · go_wp2_with fail
        refine (lives_any wr).mono ?_
        rintro e w5 ⟨rfl, hb5⟩
        have HB5 := Lib.hid (HB2.out.trans ((HBW.out.trans (hb5.mono hsz)).mono HB2.out.size))
        clear hb5
        go_wp2
        go_ret
        exact ⟨rfl, HB5.out⟩
end Go.Proofs.Ytnnpheklgdbohaa
