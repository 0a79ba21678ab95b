/- law16.VectorsRise's walk. No condition. -/
import Derived.Test.YtnnpheklgdbohaaOQ
namespace Go.Herb
open Go
def actR (L : Vs) (x : Ac) : Int × Vs := if x.kind % 3 = 0 then stepV L x.line x.n else if x.kind % 3 = 1 then forkV L x.line x.other else mergeV L x.line x.other x.n
/-- Each line has at least what it had. -/
def RiseV (L L' : Vs) : Prop := ∀ l b, getL L l = some b → ∃ b', getL L' l = some b' ∧ ∀ k, g0 b k ≤ g0 b' k
theorem rise_put {L : Vs} (h : GoodV L) {line : Int} {b : Bh} {bs : List Bh} (hb : getL L line = some b) (hbs : b ∈ bs) : RiseV L (putS L line (laidB bs)) := fun l c hc => by
  by_cases e : l = line
  · rw [e, hb] at hc
    cases hc
    exact ⟨_, by rw [e]; exact putS_same h.srt _ _, laid_ge hbs (h.get hb).1.ok⟩
  · exact ⟨c, by rw [putS_other h.srt _ e]; exact hc, fun k => Int.le_refl _⟩
theorem actR_rise {L : Vs} (h : GoodV L) {x : Ac} (e : (actR L x).1 = 0) : RiseV L (actR L x).2 := by
  unfold actR at e ⊢
  split
  · rename_i hk; rw [if_pos hk] at e
    unfold stepV at e ⊢
    cases hg : getL L x.line with
    | none => rw [hg] at e; simp at e
    | some b =>
      simp only [hg] at e ⊢
      split
      · exact rise_put h hg (by simp)
      · rename_i ha; rw [if_neg ha] at e; simp at e
  · rename_i hk; rw [if_neg hk] at e
    split
    · rename_i hk2; rw [if_pos hk2] at e
      unfold forkV at e ⊢
      cases hg : getL L x.other with
      | none => rw [hg] at e; simp at e
      | some b =>
        simp only [hg] at e ⊢
        split
        · rename_i ha; rw [if_pos ha] at e; simp at e
        · rename_i ha
          intro l c hc
          have hne : l ≠ x.line := fun e => ha (by rw [← e, hc]; rfl)
          exact ⟨c, by rw [putS_other h.srt _ hne]; exact hc, fun k => Int.le_refl _⟩
    · rename_i hk2; rw [if_neg hk2] at e
      unfold mergeV at e ⊢
      cases hg : getL L x.line with
      | none => rw [hg] at e; simp at e
      | some b =>
        cases hg2 : getL L x.other with
        | none => rw [hg, hg2] at e; simp at e
        | some c =>
          simp only [hg, hg2] at e ⊢
          split
          · exact rise_put h hg (by simp)
          · rename_i ha; rw [if_neg ha] at e; simp at e
theorem base_rise {a b a' b' : Bh} {p q : Int × Int} (h : IsBase a b p) (k : IsBase a' b' q) (ha : ∀ x, g0 a x ≤ g0 a' x) (hb : ∀ x, g0 b x ≤ g0 b' x) : p.2 ≤ q.2 := by
  rcases Int.lt_or_eq_of_le h.nn with h0 | h0
  · have h1 := h.at_ h0
    have h2 := k.top p.1
    have := ha p.1
    have := hb p.1
    omega
  · have := k.nn; omega
/-- Which act of the four it is. -/
def asAc (x : Ac) : Ac := if x.kind % 3 = 0 then ⟨0, x.line, x.other, x.n, rfl, x.wl, x.wo, x.wn⟩ else if x.kind % 3 = 1 then ⟨1, x.line, x.other, x.n, rfl, x.wl, x.wo, x.wn⟩ else ⟨2, x.line, x.other, x.n, rfl, x.wl, x.wo, x.wn⟩
theorem actR_as (L : Vs) (x : Ac) : actV L (asAc x) = actR L x := by
  unfold actR asAc actV
  by_cases h1 : x.kind % 3 = 0
  · simp [h1]
  · by_cases h2 : x.kind % 3 = 1
    · simp [h2]
    · simp [h1, h2]
end Go.Herb
namespace Go.Proofs.Ytnnpheklgdbohaa
open Go.RowKit Go.Shelf Go.Herb

set_option maxRecDepth 100000 in
set_option maxHeartbeats 4000000 in
theorem rise_any (a : Option Addr) (cap : Nat) (xs : List Vc) (ab : Option Addr) (cb : Nat) (acts : List Ac) (x : Ac) (w : World) (h : VIn w a xs) (ha : AIn w ab acts) :
    Calls Try.prog (4) #[.slice a xs.length cap, .slice ab acts.length cb, .agg #[.int .u8 x.kind, .int .u64 x.line, .int .u64 x.other, .int .u64 x.n]] w fun e w' => e = .returned (.bool true) ∧ Below w.heap.size w w' := by
  obtain ⟨W0, hW0⟩ : ∃ W0 : World, W0 = w.alloc (.cells #[.int .u8 x.kind, .int .u64 x.line, .int .u64 x.other, .int .u64 x.n] (40)) := ⟨_, rfl⟩
  have hb0 : Below w.heap.size w W0 := by rw [hW0]; exact (Below.refl _ _).alloc (Nat.le_refl _) _
  have hx0 : W0.heap[w.heap.size]? = some (.cells #[.int .u8 x.kind, .int .u64 x.line, .int .u64 x.other, .int .u64 x.n] (40) (0, 0)) := by rw [hW0]; exact blk_new_at rfl _
  have HM := Lib.hid (made_any a cap xs ab cb acts W0 ⟨h.els.ext hb0, fun x hx => (h.inn x hx).ext hb0, h.wf, h.len, h.lens⟩ (ha.els.ext hb0) ha.len)
  have HB0 := Lib.hid hb0
  have HX0 := Lib.hid hx0
  clear h ha hb0 hx0
  have hneq := run_neqP
  have hgt := guardP
  go_enter Try.func4, Try.ntmps4
  go_wp2_with fail
  rw [← hW0]
  clear hW0
  refine (HM.out).mono ?_
  rintro e w1 ⟨v, c, rfl, hb1, ht, hf⟩
  have HB1 := Lib.hid (HB0.out.trans (hb1.mono HB0.out.size))
  clear HM
  cases c with
  | false =>
    clear ht hf hb1
    go_wp2_with fail
    refine (lives_any w1).mono ?_
    rintro e w2 ⟨rfl, hb2⟩
    have HB2 := Lib.hid (HB1.out.trans (hb2.mono HB1.out.size))
    clear hb2
    go_wp2
    go_ret
    exact ⟨rfl, HB2.out⟩
  | true =>
    obtain ⟨hgr, _, hg, hs, hl40, p, mb, M, rfl, hv⟩ := ht rfl
    have HSA := Lib.hid (fun y => small_act hgr hg hl40 y)
    obtain ⟨L, hL⟩ : ∃ L, L = madeV (vsOf xs) acts := ⟨_, rfl⟩
    rw [← hL] at hg hs hv HSA
    have HV1 := Lib.hid hv
    have HGD := Lib.hid hg
    have HSM := Lib.hid hs
    have hx1 := blk_below HX0.out hb1 (lt_of_blk HX0.out)
    have HX1 := Lib.hid hx1
    have X0 := cell_of_blk hx1 0
    have X1 := cell_of_blk hx1 1
    have X2 := cell_of_blk hx1 2
    have X3 := cell_of_blk hx1 3
    simp at X0 X1 X2 X3
    have hkw := x.wk
    simp [Lit.wf, IntKind.min, IntKind.max, IntKind.signed, IntKind.bits] at hkw
    have h4 : x.kind % 3 = 0 ∨ x.kind % 3 = 1 ∨ x.kind % 3 = 2 := by omega
    obtain ⟨kd, hkd⟩ : ∃ kd, kd = x.kind % 3 := ⟨_, rfl⟩
    have ht3 : x.kind.tmod 3 = kd := by rw [hkd]; exact Int.tmod_eq_emod_of_nonneg hkw.1
    rw [← hkd] at h4
    have HKD := Lib.hid hkd
    have he : x.kind % 3 = kd := hkd.symm
    clear hkd hv hg hs hL ht hf hb1 hl40 hgr hx1
    go_upto_block 0 with (fail)
    go_cut [9, 10] (fun nv ev wx => ∃ (v : Value) (er : Int), nv = v ∧ ev = .int .i64 er ∧ Hid (er = (actR L x).1) ∧ Hid ((actR L x).1 = 0 → ∃ p' mb' M', v = .pointer (some ⟨p', 0, none⟩) ∧ VecIs wx p' mb' M' (actR L x).2) ∧ Hid (er ≠ 0 → v = .pointer none) ∧ Below w1.heap.size w1 wx)
    case first =>
     rcases h4 with rfl | rfl | rfl
     · skip
       go_wp2_with fail
       refine (step_any p mb M L x.line x.n w1 HV1.out HGD.out HSM.out x.wl x.wn).mono ?_
       rintro e w5 ⟨v, rfl, h1, h2, h3⟩
       have HH1 := Lib.hid h1
       have HH2 := Lib.hid h2
       have HH3 := Lib.hid h3
       have HAV := Lib.hid (show actR L x = stepV L x.line x.n from by unfold actR; rw [if_pos HKD.out.symm])
       clear h1 h2 h3 X0 X1 X2 X3
       go_wp2_with fail
       go_meet
       exact ⟨v, (stepV L x.line x.n).1, rfl, rfl, Lib.hid (by rw [HAV.out]), Lib.hid (by rw [HAV.out]; exact HH1.out), Lib.hid HH2.out, HH3.out⟩
     · skip
       go_wp2_with fail
       refine (fork_any p mb M L x.line x.other w1 HV1.out HGD.out HSM.out x.wl x.wo).mono ?_
       rintro e w5 ⟨v, rfl, h1, h2, h3⟩
       have HH1 := Lib.hid h1
       have HH2 := Lib.hid h2
       have HH3 := Lib.hid h3
       have HAV := Lib.hid (show actR L x = forkV L x.line x.other from by unfold actR; rw [if_neg (by rw [← HKD.out]; decide), if_pos HKD.out.symm])
       clear h1 h2 h3 X0 X1 X2 X3
       go_wp2_with fail
       go_meet
       exact ⟨v, (forkV L x.line x.other).1, rfl, rfl, Lib.hid (by rw [HAV.out]), Lib.hid (by rw [HAV.out]; exact HH1.out), Lib.hid HH2.out, HH3.out⟩
     · skip
       go_wp2_with fail
       refine (merge_any p mb M L x.line x.other x.n w1 HV1.out HGD.out HSM.out x.wl x.wo x.wn).mono ?_
       rintro e w5 ⟨v, rfl, h1, h2, h3⟩
       have HH1 := Lib.hid h1
       have HH2 := Lib.hid h2
       have HH3 := Lib.hid h3
       have HAV := Lib.hid (show actR L x = mergeV L x.line x.other x.n from by unfold actR; rw [if_neg (by rw [← HKD.out]; decide), if_neg (by rw [← HKD.out]; decide)])
       clear h1 h2 h3 X0 X1 X2 X3
       go_wp2_with fail
       go_meet
       exact ⟨v, (mergeV L x.line x.other x.n).1, rfl, rfl, Lib.hid (by rw [HAV.out]), Lib.hid (by rw [HAV.out]; exact HH1.out), Lib.hid HH2.out, HH3.out⟩
    case rest =>
    obtain ⟨v, er, rfl, rfl, HER, HP, HNP, hb5⟩ := hcut
    have HB5 := Lib.hid hb5
    have HV5 := Lib.hid (HV1.out.below hb5)
    clear hb5 X0 X1 X2 X3 h4 ht3 he
    by_cases her : er = 0
    · have hr0 : (actR L x).1 = 0 := by rw [← HER.out]; exact her
      obtain ⟨p', mb', M', rfl, hv'⟩ := HP.out hr0
      have hsm := HSA.out (asAc x) (by rw [actR_as]; exact hr0)
      rw [actR_as] at hsm
      have HRI := Lib.hid (actR_rise HGD.out hr0)
      obtain ⟨L', hL'⟩ : ∃ L', L' = (actR L x).2 := ⟨_, rfl⟩
      rw [← hL'] at hv' hsm HRI
      have HVP := Lib.hid hv'
      have HSM2 := Lib.hid hsm
      subst her
      obtain ⟨wq, hwq⟩ : ∃ wq : World, wq = wc := ⟨_, rfl⟩
      rw [← hwq] at HB5 HV5 HVP ⊢
      clear hr0 hv' hsm HP HNP HER hL' hwq
      go_wp2_with fail
      refine (all_any p mb M L wq HV5.out HGD.out HSM.out).mono ?_
      rintro e w2 ⟨va, vcap, ys, rfl, hys, hyo, hya, hb2⟩
      have hvin := vin_of hys hyo (fun x hx => (hya x hx).1) HGD.out HSM.out
      have HIN := Lib.hid hvin
      have HB2 := Lib.hid (HB1.out.trans ((HB5.out.trans (hb2.mono HB5.out.size)).mono HB1.out.size))
      have HV2 := Lib.hid (HV5.out.below hb2)
      have HVP2 := Lib.hid (HVP.out.below hb2)
      have HYS := Lib.hid (show ∀ y ∈ ys, getL L y.line = some y.ps from fun y hy => by
        have h1 : (y.line, y.ps) ∈ L := by rw [← hys]; exact List.mem_map.2 ⟨y, hy, rfl⟩
        exact (getL_some HGD.out.srt.nodup).2 h1)
      have hyl : ys.length < 100000 := by have h1 : ys.length = L.length := by rw [← hys]; simp
                                          have := HSM.out.len; omega
      clear hys hyo hya hb2 hvin HVP HV5
      go_wp2_with fail
      go_loopg [12] ys.length (fun gk iv wr => ∃ i : Nat, i + gk = ys.length ∧ iv = .int .i64 i ∧ Below w2.heap.size w2 wr)
      case atStart => exact ⟨0, by omega, rfl, Below.refl _ _⟩
      case round =>
        obtain ⟨i, hi, rfl, hbw⟩ := hrel
        have HBW := Lib.hid hbw
        have hsz := hbw.size
        clear hbw
        by_cases hlt : i < ys.length
        · obtain ⟨b, o, rfl, hlb, hcell⟩ := HIN.out.els.get i hlt
          have x0 := hcell 0 _ rfl
          simp only [Nat.add_zero] at x0
          have hi0 : (0 : Int) ≤ (i : Int) := by omega
          have hi1 : (i : Int) < (ys.length : Int) := by omega
          have hy1 := HYS.out _ (List.getElem_mem hlt)
          clear hcell
          generalize ys[i] = y at *
          obtain ⟨yl, ya, yc, yp⟩ := y
          simp only at x0 hy1
          obtain ⟨yp', hy1', hyr⟩ := HRI.out yl yp hy1
          have HGyl := Lib.hid hy1
          have HGyl' := Lib.hid hy1'
          have HYR := Lib.hid hyr
          have HX0 := Lib.hid x0
          clear hy1 hy1' hyr x0
          go_wp2_with fail
          obtain ⟨g1, rfl⟩ : ∃ g1 : Nat, g1 = gk := ⟨_, rfl⟩
          obtain ⟨wo, rfl⟩ : ∃ wo : World, wo = wr := ⟨_, rfl⟩
          go_loopg [13] i (fun gk kv wr => ∃ k : Nat, k + gk = i ∧ kv = .int .i64 k ∧ Below wo.heap.size wo wr)
          case atStart => exact ⟨0, by omega, rfl, Below.refl _ _⟩
          case round =>
            obtain ⟨k, hk, rfl, hbk⟩ := hrel
            have HBK := Lib.hid hbk
            have hszk := hbk.size
            have HWK := Lib.hid (HBW.out.trans (hbk.mono hsz))
            clear hbk
            by_cases hkl : k < i
            · obtain ⟨b', o', hab, hlk, hcell⟩ := HIN.out.els.get k (by omega)
              injection hab with hab
              cases hab
              have x0 := (HWK.out.cell (p := ⟨b, _, none⟩) hlb).trans HX0.out
              have y0 := (HWK.out.cell (p := ⟨b, _, none⟩) hlk).trans (hcell 0 _ rfl)
              simp only [Nat.add_zero] at y0
              have hk0 : (0 : Int) ≤ (k : Int) := by omega
              have hk1 : (k : Int) < (ys.length : Int) := by omega
              have hk2 : (k : Int) < (i : Int) := by omega
              have hlbr : b < wr.heap.size := by omega
              have hy1 := HYS.out _ (List.getElem_mem (show k < ys.length by omega))
              clear hcell
              generalize ys[k]'(by omega) = z at *
              obtain ⟨zl, za, zc, zp⟩ := z
              simp only at y0 hy1
              obtain ⟨zp', hy1', hyr⟩ := HRI.out zl zp hy1
              have HGz' := Lib.hid hy1'
              have HZR := Lib.hid hyr
              have HV := Lib.hid (HV2.out.below HWK.out)
              have HVN := Lib.hid (HVP2.out.below HWK.out)
              have HCB := base_call HV.out HGD.out HSM.out HGyl.out hy1
              have hlt_b_B := hlbr
              have hc0B := x0
              have hc1B := y0
              have HXk := Lib.hid x0
              have HYk := Lib.hid y0
              clear hy1 hy1' hyr
              go_upto_region 21 with (fail)
              have HSAB : Hid (∀ u : World, Below wr.heap.size wr u → u.cell? ⟨b, o + i * 2, none⟩ = some (.int .u64 yl) ∧ u.cell? ⟨b, o + k * 2, none⟩ = some (.int .u64 zl)) := Lib.hid (fun u hu => ⟨(hu.cell (p := ⟨b, o + i * 2, none⟩) hlt_b_B).trans hc0B, (hu.cell (p := ⟨b, o + k * 2, none⟩) hlt_b_B).trans hc1B⟩)
              have HDAB := Lib.hid (Below.drew (Below.refl wr.heap.size wr))
              have HDBB := Lib.hid (boxW_below wr)
              go_cut [14, 15] (fun pv ev wx => BoxAt yp zp wr pv ev wx)
              case first =>
                go_wp2_with fail
                go_region_held3 (fun u => u.cell? ⟨b, o + i * 2, none⟩ = some (.int .u64 yl) ∧ u.cell? ⟨b, o + k * 2, none⟩ = some (.int .u64 zl)) (first | go_keep | exact HSAB.out _ HDAB.out | exact HSAB.out _ HDBB.out | exact HSAB.out _ hbu | exact HSAB.out _ (bset hbu _ _ _ (Nat.le_refl _)) | exact HSAB.out _ (bset (bset hbu _ _ _ (Nat.le_refl _)) _ _ _ (Nat.le_refl _)) | exact HSAB.out _ (hbu.alloc hbu.size _) | exact HSAB.out _ (bset (hbu.alloc hbu.size _) _ _ _ hbu.size)) (first | (go_at_call 12; (with_reducible refine (HCB.out _ HDAB.out).mono ?_); rintro e w5 ⟨q, rfl, hB, hb5⟩; have FA := boxA (HDAB.out.trans (hb5.mono HDAB.out.size)) hB; have hbu := HDAB.out.trans (hb5.mono HDAB.out.size); have hS5 := HSAB.out _ hbu; clear hB hb5) | (go_at_call 12; (with_reducible refine (HCB.out _ HDBB.out).mono ?_); rintro e w5 ⟨q, rfl, hB, hb5⟩; have FA := boxB hb5 hB; obtain ⟨g0, g1, g2, g3⟩ := boxCells hb5; have hbu := HDBB.out.trans (hb5.mono HDBB.out.size); have hS5 := HSAB.out _ hbu; clear hB hb5))
                all_goals
                  go_wp2
                  go_meet
                  exact FA.out
              case rest =>
              obtain ⟨bxB, qB, rfl, rfl, hbxB, hibB, hbB, hleB⟩ := hcut
              have HBB := Lib.hid hbB
              have HBXB := Lib.hid hbxB
              have HIB := Lib.hid hibB
              have hszB := hbB.size
              have x0 := (hbB.cell (p := ⟨b, _, none⟩) hlbr).trans HXk.out
              have y0 := (hbB.cell (p := ⟨b, _, none⟩) hlbr).trans HYk.out
              have HCC := base_call (HVN.out.below hbB) HSM2.out.1 HSM2.out.2 HGyl'.out HGz'.out
              clear hbxB hbB hibB hc0B hc1B hlt_b_B HSAB HDAB HDBB HCB HXk HYk
              obtain ⟨wb, rfl⟩ : ∃ wb : World, wb = wc := ⟨_, rfl⟩
              have hlbb : b < wb.heap.size := by omega
              have hlt_b_C := hlbb
              have hc0C := x0
              have hc1C := y0
              go_upto_region 22 with (fail)
              have HSAC : Hid (∀ u : World, Below wb.heap.size wb u → u.cell? ⟨b, o + i * 2, none⟩ = some (.int .u64 yl) ∧ u.cell? ⟨b, o + k * 2, none⟩ = some (.int .u64 zl)) := Lib.hid (fun u hu => ⟨(hu.cell (p := ⟨b, o + i * 2, none⟩) hlt_b_C).trans hc0C, (hu.cell (p := ⟨b, o + k * 2, none⟩) hlt_b_C).trans hc1C⟩)
              have HDAC := Lib.hid (Below.drew (Below.refl wb.heap.size wb))
              have HDBC := Lib.hid (boxW_below wb)
              go_cut [16, 17] (fun pv ev wx => BoxAt yp' zp' wb pv ev wx)
              case first =>
                go_wp2_with fail
                go_region_held3 (fun u => u.cell? ⟨b, o + i * 2, none⟩ = some (.int .u64 yl) ∧ u.cell? ⟨b, o + k * 2, none⟩ = some (.int .u64 zl)) (first | go_keep | exact HSAC.out _ HDAC.out | exact HSAC.out _ HDBC.out | exact HSAC.out _ hbu | exact HSAC.out _ (bset hbu _ _ _ (Nat.le_refl _)) | exact HSAC.out _ (bset (bset hbu _ _ _ (Nat.le_refl _)) _ _ _ (Nat.le_refl _)) | exact HSAC.out _ (hbu.alloc hbu.size _) | exact HSAC.out _ (bset (hbu.alloc hbu.size _) _ _ _ hbu.size)) (first | (go_at_call 12; (with_reducible refine (HCC.out _ HDAC.out).mono ?_); rintro e w5 ⟨q, rfl, hB, hb5⟩; have FA := boxA (HDAC.out.trans (hb5.mono HDAC.out.size)) hB; have hbu := HDAC.out.trans (hb5.mono HDAC.out.size); have hS5 := HSAC.out _ hbu; clear hB hb5) | (go_at_call 12; (with_reducible refine (HCC.out _ HDBC.out).mono ?_); rintro e w5 ⟨q, rfl, hB, hb5⟩; have FA := boxB hb5 hB; obtain ⟨g0, g1, g2, g3⟩ := boxCells hb5; have hbu := HDBC.out.trans (hb5.mono HDBC.out.size); have hS5 := HSAC.out _ hbu; clear hB hb5))
                all_goals
                  go_wp2
                  go_meet
                  exact FA.out
              case rest =>
              obtain ⟨bxC, qC, rfl, rfl, hbxC, hibC, hbC, hleC⟩ := hcut
              have hle2 := base_rise HIB.out hibC HYR.out HZR.out
              have hd2 : decide (qC.2 < qB.2) = false := decide_eq_false (by omega)
              have hbxB2 := blk_below HBXB.out hbC (lt_of_blk HBXB.out)
              have b0 := cell_of_blk hbxB2 0
              have b1 := cell_of_blk hbxB2 1
              have d0 := cell_of_blk hbxC 0
              have d1 := cell_of_blk hbxC 1
              simp at b0 b1 d0 d1
              have HFIN := Lib.hid (show Below wo.heap.size wo wc from HBK.out.trans ((HBB.out.trans (hbC.mono hszB)).mono hszk))
              clear hbxB2 hbxC hbC hibC x0 y0 hc0C hc1C hlt_b_C HSAC HDAC HDBC HCC HBXB hleB hleC
              go_wp2_with fail
              go_roundg (gk - 1)
              case measure => omega
              case rel => exact ⟨k + 1, by omega, by go_num, HFIN.out⟩
            · go_wp2_with fail
              go_roundg (g1 - 1)
              case measure => omega
              case rel => exact ⟨i + 1, by omega, by go_num, HWK.out⟩
        · go_wp2_with fail
          refine (lives_any wr).mono ?_
          rintro e w6 ⟨rfl, hb6⟩
          have HB6 := Lib.hid (HB2.out.trans ((HBW.out.trans (hb6.mono hsz)).mono HB2.out.size))
          clear hb6
          go_wp2
          go_ret
          exact ⟨rfl, HB6.out⟩
    · have her' : (er == 0) = false := by simpa using her
      have hed : decide (er = 0) = false := decide_eq_false her
      obtain rfl := HNP.out her
      obtain ⟨wq, hwq⟩ : ∃ wq : World, wq = wc := ⟨_, rfl⟩
      rw [← hwq] at HB5 ⊢
      clear hwq HV5 HP HNP HER
      go_wp2_with fail
      refine (lives_any wq).mono ?_
      rintro e w6 ⟨rfl, hb6⟩
      have HB6 := Lib.hid (HB1.out.trans ((HB5.out.trans (hb6.mono HB5.out.size)).mono HB1.out.size))
      clear hb6
      go_wp2
      go_ret
      exact ⟨rfl, HB6.out⟩
end Go.Proofs.Ytnnpheklgdbohaa
