/- law16.VectorsPlay's walk. No condition. -/
import Derived.Test.YtnnpheklgdbohaaYH
namespace Go.Proofs.Ytnnpheklgdbohaa
open Go.RowKit Go.Shelf Go.Herb Go.Sort

def noAct : Ac := ac 0 0 0 0 ⟨rfl, rfl, rfl, rfl⟩
/-- Both, as they lie. -/
structure Both (w : World) (p mb : Nat) (M : List (Int × Nat)) (r : Nat) (la : Option Addr) (lc : Nat) (ys : List Vc) (L : Vs) : Prop where
  v : VecIs w p mb M L
  m : RefIs w r la lc ys L
theorem Both.below {w w' : World} {p mb : Nat} {M : List (Int × Nat)} {r : Nat} {la : Option Addr} {lc : Nat} {ys : List Vc} {L : Vs} (h : Both w p mb M r la lc ys L) (hb : Below w.heap.size w w') : Both w' p mb M r la lc ys L := ⟨h.v.below hb, h.m.below hb⟩
set_option maxRecDepth 100000 in
set_option maxHeartbeats 4000000 in
theorem play_any (a : Option Addr) (cap : Nat) (xs : List Vc) (ab : Option Addr) (cb : Nat) (acts : List Ac) (w : World) (h : VIn w a xs) (ha : AIn w ab acts) :
    Calls Try.prog (6) #[.slice a xs.length cap, .slice ab acts.length cb] w fun e w' => e = .returned (.bool true) ∧ Below w.heap.size w w' := by
  have H := Lib.hid h
  have HA := Lib.hid ha
  clear h ha
  go_enter Try.func6, Try.ntmps6
  go_wp2_with fail
  refine (great_any a cap xs ab cb acts w H.out HA.out.len).mono ?_
  rintro e w1 ⟨rfl, rfl⟩
  cases hg : greatB xs acts with
  | true =>
    clear hg
    go_wp2_with fail
    refine (lives_any w).mono ?_
    rintro e w2 ⟨rfl, hb2⟩
    have HB2 := Lib.hid hb2
    clear hb2
    go_wp2
    go_ret
    exact ⟨rfl, HB2.out⟩
  | false =>
    obtain ⟨hg1, hg2, hg3⟩ := greatB_false hg
    have HKL := Lib.hid (keysAllV_len hg)
    have HS0 := Lib.hid (show Small (vsOf xs) from ⟨by rw [vsOf_len]; omega, fun q hq => by obtain ⟨x, hx, rfl⟩ := List.mem_map.1 hq; have := hg3 x hx; simp only; omega⟩)
    have H40 := Lib.hid (show (vsOf xs).length ≤ 40 by rw [vsOf_len]; exact hg1)
    clear hg hg1 hg2 hg3
    go_wp2_with fail
    refine (of_any a cap xs w H.out).mono ?_
    rintro e w2 ⟨v, er, rfl, hb1, hor⟩
    have HB1 := Lib.hid hb1
    have HOR := Lib.hid hor
    have HI2 := Lib.hid (vin_ext H.out hb1)
    clear hb1 hor
    go_wp2_with fail
    refine (refOfL_any a cap xs w2 HI2.out HS0.out).mono ?_
    rintro e w3 ⟨m, er', rfl, hb2, hor⟩
    have HB2 := Lib.hid hb2
    have HOR2 := Lib.hid hor
    have HB3 := Lib.hid (HB1.out.trans (hb2.mono HB1.out.size))
    clear hb2 hor
    have hpr : er' = er ∧ ((er = 0 ∧ GoodV (vsOf xs) ∧ ∃ p mb M r la lc ys, v = .pointer (some ⟨p, 0, none⟩) ∧ m = .pointer (some ⟨r, 0, none⟩) ∧ Both w3 p mb M r la lc ys (vsOf xs)) ∨ (er = 4 ∧ v = .pointer none ∧ m = .pointer none)) := by
      rcases HOR.out with ⟨rfl, hok, p, mb, M, rfl, hv⟩ | ⟨rfl, hnok, rfl⟩
      · rcases HOR2.out with ⟨rfl, -, r, la, lc, ys, rfl, hr⟩ | ⟨-, hn2, -⟩
        · exact ⟨rfl, .inl ⟨rfl, hok.good (fun q hq => by obtain ⟨x, hx, rfl⟩ := List.mem_map.1 hq; exact H.out.wf x hx), p, mb, M, r, la, lc, ys, rfl, rfl, hv.is.below HB2.out, hr⟩⟩
        · exact absurd hok hn2
      · rcases HOR2.out with ⟨-, hn2, -⟩ | ⟨rfl, -, rfl⟩
        · exact absurd hn2 hnok
        · exact ⟨rfl, .inr ⟨rfl, rfl, rfl⟩⟩
    obtain ⟨rfl, hpr⟩ := hpr
    have HPR := Lib.hid hpr
    have HSM0 := Lib.hid (show Calls Try.prog (19) #[v, m, .agg #[.int .u8 0, .int .u64 0, .int .u64 0, .int .u64 0]] w3 (fun e w' => e = .returned (.bool true) ∧ Below w3.heap.size w3 w') from by
      rcases HPR.out with ⟨-, hg, p, mb, M, r, la, lc, ys, rfl, rfl, hb⟩ | ⟨-, rfl, rfl⟩
      · exact same_any p mb M r la lc ys (vsOf xs) noAct w3 hb.v hb.m hg HS0.out (by have := H40.out; omega)
      · exact sameNil_any noAct w3)
    clear hpr HOR HOR2
    go_wp2_with fail
    refine (HSM0.out).mono ?_
    rintro e w4 ⟨rfl, hb4⟩
    have HB4 := Lib.hid hb4
    have HB34 := Lib.hid (HB3.out.trans (hb4.mono HB3.out.size))
    clear hb4 HSM0
    go_upto_if 38 with (fail)
    go_cut [5, 7] (fun v5 v7 wq => ∃ (wx : World) (p mb : Nat) (M : List (Int × Nat)) (r : Nat) (la : Option Addr) (lc : Nat) (ys : List Vc) (L : Vs), wx = wq ∧ v5 = .pointer (some ⟨p, 0, none⟩) ∧ v7 = .pointer (some ⟨r, 0, none⟩) ∧ Hid (Both wx p mb M r la lc ys L) ∧ Hid (GoodV L) ∧ Hid (InK (keysAllV xs acts) L) ∧ Hid (L.length ≤ 40) ∧ Hid (Below w.heap.size w wx))
    case first =>
      rcases HPR.out with ⟨rfl, hg, p, mb, M, r, la, lc, ys, rfl, rfl, hb⟩ | ⟨rfl, rfl, rfl⟩
      · have HGD := Lib.hid hg
        have HBO := Lib.hid hb
        clear hg hb HPR
        go_wp2_with fail
        go_meet
        exact ⟨_, p, mb, M, r, la, lc, ys, vsOf xs, rfl, rfl, rfl, Lib.hid (HBO.out.below HB4.out), HGD, Lib.hid (keysAllV_in xs acts), H40, HB34⟩
      · clear HPR
        go_wp2_with fail
        refine (first_any w4).mono ?_
        rintro e w5 ⟨p, mb, M, rfl, hv5, hb5⟩
        have HV5 := Lib.hid hv5
        have HB5 := Lib.hid (HB34.out.trans (hb5.mono HB34.out.size))
        clear hv5 hb5
        go_wp2_with fail
        refine (refFirst_any w5).mono ?_
        rintro e w6 ⟨v, rfl, r, la, lc, ys, rfl, hr6, hb6⟩
        have HBO := Lib.hid (show Both w6 p mb M r la lc ys [(0, [])] from ⟨HV5.out.below hb6, hr6⟩)
        have HB6 := Lib.hid (HB5.out.trans (hb6.mono HB5.out.size))
        clear hr6 hb6
        go_wp2_with fail
        go_meet
        exact ⟨_, p, mb, M, r, la, lc, ys, [(0, [])], rfl, rfl, rfl, HBO, Lib.hid goodL0, Lib.hid (fun q hq => by rw [List.mem_singleton.1 hq]; simp), Lib.hid (by decide), HB6⟩
    case rest =>
    obtain ⟨wx, p, mb, M, r, la, lc, ys, L0, rfl, rfl, rfl, HBO, HG0, HK0, HL0, HBx⟩ := hcut
    clear HPR HB1 HB2 HB3 HI2 HB4 HB34
    obtain ⟨N, hN⟩ : ∃ N, N = acts.length := ⟨_, rfl⟩
    rw [← hN]
    have HN := Lib.hid hN
    have hNm : N ≤ maxLen := by rw [hN]; exact HA.out.len
    unfold maxLen at hNm
    clear hN
    go_wp2_with fail
    go_loopg [5, 7, 9] N (fun gk v5 v7 iv wr => ∃ (i p mb : Nat) (M : List (Int × Nat)) (r : Nat) (la : Option Addr) (lc : Nat) (ys : List Vc) (L : Vs), i + gk = N ∧ iv = .int .i64 i ∧ v5 = .pointer (some ⟨p, 0, none⟩) ∧ v7 = .pointer (some ⟨r, 0, none⟩) ∧ Hid (Both wr p mb M r la lc ys L) ∧ Hid (GoodV L) ∧ Hid (InK (keysAllV xs acts) L) ∧ Hid (L.length ≤ 40) ∧ Hid (Below w.heap.size w wr))
    case atStart => exact ⟨0, p, mb, M, r, la, lc, ys, L0, by omega, rfl, rfl, rfl, HBO, HG0, HK0, HL0, HBx⟩
    case round =>
      clear HBO HG0 HK0 HL0 HBx
      obtain ⟨i, p, mb, M, r, la, lc, ys, L, hi, rfl, rfl, rfl, HBO, HG, HK, HL40, HBW⟩ := hrel
      have HSM := Lib.hid (small_of HG.out HK.out HKL.out (by have := HL40.out; omega))
      have HT := Lib.hid (show ∀ p ∈ L, p.2.length < 30000 from fun p hp => by have := HK.out.lens HG.out p hp; have := HKL.out; omega)
      by_cases hlt1 : i < N
      · have had : decide ((i : Int) < (N : Int)) = true := decide_eq_true (by omega)
        have had2 : decide (i < N) = true := decide_eq_true hlt1
        by_cases hlt2 : i < 60
        · have hbd : decide ((i : Int) < 60) = true := decide_eq_true (by omega)
          have hbd2 : decide (i < 60) = true := decide_eq_true hlt2
          have hil : i < acts.length := by have := HN.out; omega
          obtain ⟨b, o, rfl, hlb, hcell⟩ := HA.out.els.get i hil
          have x0 := (HBW.out.cell (p := ⟨b, _, none⟩) hlb).trans (hcell 0 _ rfl)
          have x1 := (HBW.out.cell (p := ⟨b, _, none⟩) hlb).trans (hcell 1 _ rfl)
          have x2 := (HBW.out.cell (p := ⟨b, _, none⟩) hlb).trans (hcell 2 _ rfl)
          have x3 := (HBW.out.cell (p := ⟨b, _, none⟩) hlb).trans (hcell 3 _ rfl)
          simp only [Nat.add_zero] at x0 x1 x2 x3
          have hi0 : (0 : Int) ≤ (i : Int) := by omega
          have hi1 : (i : Int) < (N : Int) := by omega
          have hi2 : (i : Int) < 60 := by omega
          have HXM := Lib.hid (List.getElem_mem hil)
          clear hcell
          generalize acts[i] = x at *
          obtain ⟨X, hX⟩ : ∃ X : World, X = wr.alloc (.cells #[.int .u8 x.kind, .int .u64 x.line, .int .u64 x.other, .int .u64 x.n] (40)) := ⟨_, rfl⟩
          have hXb : Below wr.heap.size wr X := by rw [hX]; exact (Below.refl _ _).alloc (Nat.le_refl _) _
          have hXx : X.heap[wr.heap.size]? = some (.cells #[.int .u8 x.kind, .int .u64 x.line, .int .u64 x.other, .int .u64 x.n] (40) (0, 0)) := by rw [hX]; exact blk_new_at rfl _
          have HXB := Lib.hid hXb
          have HXX := Lib.hid hXx
          have HVX := Lib.hid (HBO.out.below hXb)
          have HCX := Lib.hid (show ∀ u, Below X.heap.size X u → u.cell? ⟨wr.heap.size, 0, none⟩ = some (.int .u8 x.kind) ∧ u.cell? ⟨wr.heap.size, 1, none⟩ = some (.int .u64 x.line) ∧ u.cell? ⟨wr.heap.size, 2, none⟩ = some (.int .u64 x.other) ∧ u.cell? ⟨wr.heap.size, 3, none⟩ = some (.int .u64 x.n) from fun u hu => by
            have hbu := blk_below HXX.out hu (lt_of_blk HXX.out)
            have f0 := cell_of_blk hbu 0
            have f1 := cell_of_blk hbu 1
            have f2 := cell_of_blk hbu 2
            have f3 := cell_of_blk hbu 3
            simp at f0 f1 f2 f3
            exact ⟨f0, f1, f2, f3⟩)
          have hkw := x.wk
          simp [Lit.wf, IntKind.min, IntKind.max, IntKind.signed, IntKind.bits] at hkw
          have h4 : x.kind % 4 = 0 ∨ x.kind % 4 = 1 ∨ x.kind % 4 = 2 ∨ x.kind % 4 = 3 := by omega
          obtain ⟨kd, hkd⟩ : ∃ kd, kd = x.kind % 4 := ⟨_, rfl⟩
          have ht : x.kind.tmod 4 = kd := by rw [hkd]; exact Int.tmod_eq_emod_of_nonneg hkw.1
          rw [← hkd] at h4
          have HKD := Lib.hid hkd
          have he : x.kind % 4 = kd := hkd.symm
          clear hkd
          go_upto_block 2 with (fail)
          rw [← hX]
          clear hX x0 x1 x2 x3 hXb hXx hil
          obtain ⟨X0, X1, X2, X3⟩ := HCX.out X (Below.refl _ _)
          have hwX : wr.heap.size < X.heap.size := lt_of_blk HXX.out
          go_cut [6, 8, 11, 12] (fun ev fv nv ov wq => ∃ (wx : World) (v o : Value) (er : Int), wx = wq ∧ ev = .int .i64 er ∧ fv = .int .i64 er ∧ nv = v ∧ ov = o ∧ Hid (er = (actV L x).1) ∧ Hid ((actV L x).1 = 0 → ∃ p' mb' M' r' la' lc' ys', v = .pointer (some ⟨p', 0, none⟩) ∧ o = .pointer (some ⟨r', 0, none⟩) ∧ Both wx p' mb' M' r' la' lc' ys' (actV L x).2) ∧ Hid (er ≠ 0 → v = .pointer none ∧ o = .pointer none) ∧ Hid (Below X.heap.size X wx))
          case first =>
           rcases h4 with rfl | rfl | rfl | rfl
           · skip
             go_wp2_with fail
             refine (step_any p mb M L x.line x.n X HVX.out.v HG.out HSM.out x.wl x.wn).mono ?_
             rintro e w5 ⟨v, rfl, h1, h2, h3⟩
             have HH1 := Lib.hid h1
             have HH2 := Lib.hid h2
             have HH3 := Lib.hid h3
             have HAV := Lib.hid (show actV L x = stepV L x.line x.n from by unfold actV; rw [if_pos HKD.out.symm])
             have HM5 := Lib.hid (HVX.out.m.below h3)
             clear h1 h2 h3 X0 X1 X2 X3
             obtain ⟨X0, X1, X2, X3⟩ := HCX.out w5 HH3.out
             go_wp2_with fail
             refine (refStep_any r la lc ys L x.line x.n w5 HM5.out HG.out HSM.out x.wn).mono ?_
             rintro e w6 ⟨o, rfl, g1, g2, g3⟩
             have HG1 := Lib.hid g1
             have HG2 := Lib.hid g2
             have HG3 := Lib.hid g3
             clear g1 g2 g3 X0 X1 X2 X3
             go_wp2_with fail
             go_meet
             exact ⟨_, v, o, (stepV L x.line x.n).1, rfl, rfl, rfl, rfl, rfl, Lib.hid (by rw [HAV.out]), Lib.hid (by rw [HAV.out]; exact fun e0 => by obtain ⟨p', mb', M', e1, e2⟩ := HH1.out e0; obtain ⟨r', la', lc', ys', e3, e4⟩ := HG1.out e0; exact ⟨p', mb', M', r', la', lc', ys', e1, e3, e2.below HG3.out, e4⟩), Lib.hid (fun e0 => ⟨HH2.out e0, HG2.out e0⟩), Lib.hid (HH3.out.trans (HG3.out.mono HH3.out.size))⟩
           · skip
             go_wp2_with fail
             refine (fork_any p mb M L x.line x.other X HVX.out.v HG.out HSM.out x.wl x.wo).mono ?_
             rintro e w5 ⟨v, rfl, h1, h2, h3⟩
             have HH1 := Lib.hid h1
             have HH2 := Lib.hid h2
             have HH3 := Lib.hid h3
             have HAV := Lib.hid (show actV L x = forkV L x.line x.other from by unfold actV; rw [if_neg (by rw [← HKD.out]; decide), if_pos HKD.out.symm])
             have HM5 := Lib.hid (HVX.out.m.below h3)
             clear h1 h2 h3 X0 X1 X2 X3
             obtain ⟨X0, X1, X2, X3⟩ := HCX.out w5 HH3.out
             go_wp2_with fail
             refine (refFork_any r la lc ys L x.line x.other w5 HM5.out HG.out HSM.out x.wl).mono ?_
             rintro e w6 ⟨o, rfl, g1, g2, g3⟩
             have HG1 := Lib.hid g1
             have HG2 := Lib.hid g2
             have HG3 := Lib.hid g3
             clear g1 g2 g3 X0 X1 X2 X3
             go_wp2_with fail
             go_meet
             exact ⟨_, v, o, (forkV L x.line x.other).1, rfl, rfl, rfl, rfl, rfl, Lib.hid (by rw [HAV.out]), Lib.hid (by rw [HAV.out]; exact fun e0 => by obtain ⟨p', mb', M', e1, e2⟩ := HH1.out e0; obtain ⟨r', la', lc', ys', e3, e4⟩ := HG1.out e0; exact ⟨p', mb', M', r', la', lc', ys', e1, e3, e2.below HG3.out, e4⟩), Lib.hid (fun e0 => ⟨HH2.out e0, HG2.out e0⟩), Lib.hid (HH3.out.trans (HG3.out.mono HH3.out.size))⟩
           · skip
             go_wp2_with fail
             refine (merge_any p mb M L x.line x.other x.n X HVX.out.v HG.out HSM.out x.wl x.wo x.wn).mono ?_
             rintro e w5 ⟨v, rfl, h1, h2, h3⟩
             have HH1 := Lib.hid h1
             have HH2 := Lib.hid h2
             have HH3 := Lib.hid h3
             have HAV := Lib.hid (show actV L x = mergeV L x.line x.other x.n from by unfold actV; rw [if_neg (by rw [← HKD.out]; decide), if_neg (by rw [← HKD.out]; decide), if_pos HKD.out.symm])
             have HM5 := Lib.hid (HVX.out.m.below h3)
             clear h1 h2 h3 X0 X1 X2 X3
             obtain ⟨X0, X1, X2, X3⟩ := HCX.out w5 HH3.out
             go_wp2_with fail
             refine (refMerge_any r la lc ys L x.line x.other x.n w5 HM5.out HG.out HSM.out HT.out x.wn).mono ?_
             rintro e w6 ⟨o, rfl, g1, g2, g3⟩
             have HG1 := Lib.hid g1
             have HG2 := Lib.hid g2
             have HG3 := Lib.hid g3
             clear g1 g2 g3 X0 X1 X2 X3
             go_wp2_with fail
             go_meet
             exact ⟨_, v, o, (mergeV L x.line x.other x.n).1, rfl, rfl, rfl, rfl, rfl, Lib.hid (by rw [HAV.out]), Lib.hid (by rw [HAV.out]; exact fun e0 => by obtain ⟨p', mb', M', e1, e2⟩ := HH1.out e0; obtain ⟨r', la', lc', ys', e3, e4⟩ := HG1.out e0; exact ⟨p', mb', M', r', la', lc', ys', e1, e3, e2.below HG3.out, e4⟩), Lib.hid (fun e0 => ⟨HH2.out e0, HG2.out e0⟩), Lib.hid (HH3.out.trans (HG3.out.mono HH3.out.size))⟩
           · skip
             go_wp2_with fail
             refine (drop_any p mb M L x.line X HVX.out.v HG.out HSM.out x.wl).mono ?_
             rintro e w5 ⟨v, rfl, h1, h2, h3⟩
             have HH1 := Lib.hid h1
             have HH2 := Lib.hid h2
             have HH3 := Lib.hid h3
             have HAV := Lib.hid (show actV L x = dropV L x.line from by unfold actV; rw [if_neg (by rw [← HKD.out]; decide), if_neg (by rw [← HKD.out]; decide), if_neg (by rw [← HKD.out]; decide)])
             have HM5 := Lib.hid (HVX.out.m.below h3)
             clear h1 h2 h3 X0 X1 X2 X3
             obtain ⟨X0, X1, X2, X3⟩ := HCX.out w5 HH3.out
             go_wp2_with fail
             refine (refDrop_any r la lc ys L x.line w5 HM5.out HG.out HSM.out ).mono ?_
             rintro e w6 ⟨o, rfl, g1, g2, g3⟩
             have HG1 := Lib.hid g1
             have HG2 := Lib.hid g2
             have HG3 := Lib.hid g3
             clear g1 g2 g3 X0 X1 X2 X3
             go_wp2_with fail
             go_meet
             exact ⟨_, v, o, (dropV L x.line).1, rfl, rfl, rfl, rfl, rfl, Lib.hid (by rw [HAV.out]), Lib.hid (by rw [HAV.out]; exact fun e0 => by obtain ⟨p', mb', M', e1, e2⟩ := HH1.out e0; obtain ⟨r', la', lc', ys', e3, e4⟩ := HG1.out e0; exact ⟨p', mb', M', r', la', lc', ys', e1, e3, e2.below HG3.out, e4⟩), Lib.hid (fun e0 => ⟨HH2.out e0, HG2.out e0⟩), Lib.hid (HH3.out.trans (HG3.out.mono HH3.out.size))⟩
          case rest =>
          obtain ⟨wx, v, o, er, rfl, rfl, rfl, rfl, rfl, HER, HP, HNP, HB5⟩ := hcut
          clear X0 X1 X2 X3 h4 ht he
          have HB5w := Lib.hid (HXB.out.trans (HB5.out.mono HXB.out.size))
          have HBO5 := Lib.hid (HBO.out.below HB5w.out)
          have HBW5 := Lib.hid (HBW.out.trans (HB5w.out.mono HBW.out.size))
          obtain ⟨X0, X1, X2, X3⟩ := HCX.out wx HB5.out
          have HN2 := Lib.hid (show ∀ u, Below wx.heap.size wx u → Calls Try.prog (19) #[.pointer (some ⟨p, 0, none⟩), .pointer (some ⟨r, 0, none⟩), .agg #[.int .u8 x.kind, .int .u64 x.line, .int .u64 x.other, .int .u64 x.n]] u (fun e w' => e = .returned (.bool true) ∧ Below u.heap.size u w') from fun u hu => same_any p mb M r la lc ys L x u (HBO5.out.below hu).v (HBO5.out.below hu).m HG.out HSM.out (by have := HL40.out; omega))
          by_cases her : er = 0
          · have hr0 : (actV L x).1 = 0 := by rw [← HER.out]; exact her
            obtain ⟨p', mb', M', r', la', lc', ys', rfl, rfl, hv'⟩ := HP.out hr0
            have hg' := actV_good HG.out hr0
            have hk' := actV_key HK.out (List.mem_append_right _ (List.mem_map.2 ⟨x, HXM.out, rfl⟩)) hr0
            have hl' := actV_len L x
            have HV' := Lib.hid hv'
            have HG' := Lib.hid hg'
            have HK' := Lib.hid hk'
            have HS' := Lib.hid (small_of hg' hk' HKL.out (by have := HL40.out; omega))
            subst her
            obtain ⟨L', hL'⟩ : ∃ L', L' = (actV L x).2 := ⟨_, rfl⟩
            rw [← hL'] at HV' HG' HK' HS' hl'
            have hl2 : L'.length ≤ 41 := by have := HL40.out; omega
            clear hr0 hv' hg' hk' hl' HP HNP HER hL'
            go_wp2_with fail
            refine (same_any p' mb' M' r' la' lc' ys' L' x _ HV'.out.v HV'.out.m HG'.out HS'.out hl2).mono ?_
            rintro e w6 ⟨rfl, hb6⟩
            have HB6 := Lib.hid hb6
            have HV6 := Lib.hid (HV'.out.below hb6)
            clear hb6 X0 X1 X2 X3
            obtain ⟨X0, X1, X2, X3⟩ := HCX.out w6 (HB5.out.trans (HB6.out.mono HB5.out.size))
            go_wp2_with fail
            refine (HN2.out w6 HB6.out).mono ?_
            rintro e w7 ⟨rfl, hb7⟩
            have HB7 := Lib.hid (HB6.out.trans (hb7.mono HB6.out.size))
            have HV7 := Lib.hid (HV6.out.below hb7)
            clear hb7 X0 X1 X2 X3
            have HO7 := Lib.hid (HBO5.out.below HB7.out)
            have HW7 := Lib.hid (HBW5.out.trans (HB7.out.mono HBW5.out.size))
            obtain ⟨k, hk⟩ : ∃ k, k = ys'.length := ⟨_, rfl⟩
            have hkl : L'.length = k := by rw [hk, ← HV7.out.m.vs, vsOf_len]
            have r0 := cell_of_blk HV7.out.m.blk 0
            simp at r0
            rw [← hk] at r0
            clear hk
            by_cases h40 : k < 40
            · have h40' : (k : Int) < 40 := by omega
              have HL3 := Lib.hid (show L'.length ≤ 40 by omega)
              go_wp2_with fail
              go_roundg (gk - 1)
              case measure => omega
              case rel => exact ⟨i + 1, p', mb', M', r', la', lc', ys', L', by omega, by go_num, rfl, rfl, HV7, HG', HK', HL3, HW7⟩
            · have h40' : ¬ (k : Int) < 40 := by omega
              go_wp2_with fail
              go_roundg (gk - 1)
              case measure => omega
              case rel => exact ⟨i + 1, p, mb, M, r, la, lc, ys, L, by omega, by go_num, rfl, rfl, HO7, HG, HK, HL40, HW7⟩
          · obtain ⟨rfl, rfl⟩ := HNP.out her
            have her' : (er == 0) = false := by simpa using her
            have hed : decide (er = 0) = false := decide_eq_false her
            clear HP HNP HER
            go_wp2_with fail
            refine (sameNil_any x _).mono ?_
            rintro e w6 ⟨rfl, hb6⟩
            have HB6 := Lib.hid hb6
            clear hb6 X0 X1 X2 X3
            obtain ⟨X0, X1, X2, X3⟩ := HCX.out w6 (HB5.out.trans (HB6.out.mono HB5.out.size))
            go_wp2_with fail
            refine (HN2.out w6 HB6.out).mono ?_
            rintro e w7 ⟨rfl, hb7⟩
            have HB7 := Lib.hid (HB6.out.trans (hb7.mono HB6.out.size))
            clear hb7 X0 X1 X2 X3
            have HO7 := Lib.hid (HBO5.out.below HB7.out)
            have HW7 := Lib.hid (HBW5.out.trans (HB7.out.mono HBW5.out.size))
            go_wp2_with fail
            go_roundg (gk - 1)
            case measure => omega
            case rel => exact ⟨i + 1, p, mb, M, r, la, lc, ys, L, by omega, by go_num, rfl, rfl, HO7, HG, HK, HL40, HW7⟩
        · have hbd : decide ((i : Int) < 60) = false := decide_eq_false (by omega)
          have hbd2 : decide (i < 60) = false := decide_eq_false hlt2
          go_wp2_with fail
          refine (lives_any wr).mono ?_
          rintro e w9 ⟨rfl, hb9⟩
          have HB9 := Lib.hid (HBW.out.trans (hb9.mono HBW.out.size))
          clear hb9
          go_wp2_with fail
          go_ret
          exact ⟨rfl, HB9.out⟩
      · have had : decide ((i : Int) < (N : Int)) = false := decide_eq_false (by omega)
        have had2 : decide (i < N) = false := decide_eq_false hlt1
        go_wp2_with fail
        refine (lives_any wr).mono ?_
        rintro e w9 ⟨rfl, hb9⟩
        have HB9 := Lib.hid (HBW.out.trans (hb9.mono HBW.out.size))
        clear hb9
        go_wp2_with fail
        go_ret
        exact ⟨rfl, HB9.out⟩
end Go.Proofs.Ytnnpheklgdbohaa
