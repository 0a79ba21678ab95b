/- law16.VectorsAgain's walk. No condition. -/
import Derived.Test.YtnnpheklgdbohaaOY
namespace Go.Proofs.Ytnnpheklgdbohaa
open Go.RowKit Go.Shelf Go.Herb

theorem below_drN {B : Nat} {a w : World} (h : Below B a w) (q : Nat) : Below B a (w.drewN q) := ⟨h.os, h.tape, h.output, h.size, h.block⟩
theorem vin_ext {w w' : World} {a : Option Addr} {xs : List Vc} (h : VIn w a xs) (hb : Below w.heap.size w w') : VIn w' a xs := ⟨h.els.ext hb, fun x hx => (h.inn x hx).ext hb, h.wf, h.len, h.lens⟩
theorem good_ok {L : Vs} (h : GoodV L) : okV L := ⟨h.srt, fun p hp => ⟨(h.inn p hp).srt, fun q hq => by have := (h.inn p hp).pos q hq; omega⟩⟩
/-- What All answers, as it lies. -/
structure AllAt (B : Nat) (w : World) (va : Option Addr) (xs : List Vc) (L : Vs) : Prop where
  len : xs.length = L.length
  vs : vsOf xs = L
  own : ∃ vcap, OwnV B w (.slice va xs.length vcap) xs
  at_ : ∀ x ∈ xs, VcAt B w x ∧ ∀ r, va = some ⟨r, 0, none⟩ → x.a ≠ some ⟨r, 0, none⟩
theorem AllAt.vin {B : Nat} {w : World} {va : Option Addr} {xs : List Vc} {L : Vs} (h : AllAt B w va xs L) (hG : GoodV L) (hS : Small L) : VIn w va xs := by
  obtain ⟨vcap, ho⟩ := h.own
  exact vin_of h.vs ho (fun x hx => (h.at_ x hx).1) hG hS
theorem allN_any (p mb : Nat) (M : List (Int × Nat)) (L : Vs) (w : World) (h : VecIs w p mb M L) (hG : GoodV L) (hS : Small L) :
    Calls Try.prog (11) #[.pointer (some ⟨p, 0, none⟩)] w fun e w' => ∃ va xs, e = .returned (.slice va L.length L.length) ∧ AllAt w.heap.size w' va xs L ∧ Below w.heap.size w w' := by
  refine (all_any p mb M L w h hG hS).mono ?_
  rintro e w' ⟨va, vcap, xs, rfl, h1, h2, h3, h4⟩
  have hl : xs.length = L.length := by rw [← h1]; simp
  exact ⟨va, xs, by rw [hl], ⟨hl, h1, ⟨vcap, h2⟩, h3⟩, h4⟩
theorem ofN_any (a : Option Addr) (cap : Nat) (xs : List Vc) (L : Vs) (hL : vsOf xs = L) (hG : GoodV L) (w : World) (h : VIn w a xs) :
    Calls Try.prog (17) #[.slice a L.length cap] w fun e w' => ∃ p mb M, e = .returned (.tuple #[.pointer (some ⟨p, 0, none⟩), .int .i64 0]) ∧ VecNew w.heap.size w' p mb M L ∧ Below w.heap.size w w' := by
  subst hL
  rw [vsOf_len]
  refine (of_any a cap xs w h).mono ?_
  rintro e w' ⟨v, er, rfl, hb, ⟨rfl, _, p, mb, M, rfl, hv⟩ | ⟨_, hn, _⟩⟩
  · exact ⟨p, mb, M, rfl, hv, hb⟩
  · exact absurd (good_ok hG) hn

/-- What the writes into the rows of points leave. -/
structure Fr (xs : List Vc) (W wr : World) : Prop where
  hb : Below 0 W wr
  blk : ∀ b, (∀ x ∈ xs, x.a ≠ some ⟨b, 0, none⟩) → wr.heap[b]? = W.heap[b]?
  rows : ∀ x ∈ xs, ∀ g, x.a = some ⟨g, 0, none⟩ → ∃ cur, wr.heap[g]? = some (.cells cur (34) (0, 0)) ∧ x.ps.length * 2 ≤ cur.size
theorem Fr.set {xs : List Vc} {W wr : World} (h : Fr xs W wr) {x : Vc} (hx : x ∈ xs) {g : Nat} (hg : x.a = some ⟨g, 0, none⟩) (o : Nat) (v : Value) : Fr xs W (wr.setCell ⟨g, o, none⟩ v) := by
  refine ⟨⟨h.hb.os, h.hb.tape, h.hb.output, by simpa [World.setCell] using h.hb.size, fun b hb => absurd hb (Nat.not_lt_zero b)⟩, fun b hb => ?_, fun y hy g2 hg2 => ?_⟩
  · rw [Below.heap_setCell wr ⟨g, o, none⟩ v b (fun e => hb x hx (by rw [hg, e]))]
    exact h.blk b hb
  · obtain ⟨cur, h1, h2⟩ := h.rows y hy g2 hg2
    by_cases e : g2 = g
    · subst e
      exact ⟨_, blk_setCell h1 v, by simpa using h2⟩
    · exact ⟨cur, blk_setCell_other h1 e v, h2⟩
theorem Fr.start {B : Nat} {w W : World} {va : Option Addr} {xs : List Vc} {L : Vs} (h : AllAt B w va xs L) (hb : Below w.heap.size w W) : Fr xs W W := by
  refine ⟨Below.refl _ _, fun _ _ => rfl, fun x hx g hg => ?_⟩
  obtain ⟨cap, ho⟩ := (h.at_ x hx).1.own
  rcases row_of_owns ho with ⟨h1, _⟩ | ⟨g', cp, h1, _, hR⟩
  · rw [hg] at h1; cases h1
  · rw [hg] at h1
    cases h1
    obtain ⟨cur, hc, hsz, _⟩ := hR.blk
    exact ⟨cur, (hb.block _ (lt_of_blk hc)).trans hc, by rw [hsz]; exact Nat.mul_le_mul_right 2 hR.le⟩
theorem VcAt.lie {B : Nat} {w : World} {x : Vc} (h : VcAt B w x) {g : Nat} (hg : x.a = some ⟨g, 0, none⟩) : B ≤ g ∧ g < w.heap.size := by
  obtain ⟨cap, ho⟩ := h.own
  exact World.ownsRow.lt ho g (by rw [hg]; rfl)
theorem VcAt.some {B : Nat} {w : World} {x : Vc} (h : VcAt B w x) (h0 : 0 < x.ps.length) : ∃ g, x.a = some ⟨g, 0, none⟩ := by
  obtain ⟨cap, ho⟩ := h.own
  rcases row_of_owns ho with ⟨_, h1⟩ | ⟨g', cp, h1, _, _⟩
  · rw [h1] at h0; simp at h0
  · exact ⟨g', by injection h1⟩

set_option maxRecDepth 100000 in
set_option maxHeartbeats 4000000 in
theorem again_any (a : Option Addr) (cap : Nat) (xs : List Vc) (ab : Option Addr) (cb : Nat) (acts : List Ac) (w : World) (h : VIn w a xs) (ha : AIn w ab acts) :
    Calls Try.prog (8) #[.slice a xs.length cap, .slice ab acts.length cb] w fun e w' => e = .returned (.bool true) ∧ Below w.heap.size w w' := by
  have HM := Lib.hid (made_any a cap xs ab cb acts w h ha.els ha.len)
  clear h ha
  go_enter Try.func8, Try.ntmps8
  go_wp2_with fail
  refine (HM.out).mono ?_
  rintro e w1 ⟨v, c, rfl, hb1, ht, hf⟩
  have HB1 := Lib.hid hb1
  clear HM
  cases c with
  | false =>
    clear ht hf hb1
    go_wp2_with fail
    refine (lives_any w1).mono ?_
    rintro e w2 ⟨rfl, hb2⟩
    have HB2 := Lib.hid (HB1.out.trans (hb2.mono HB1.out.size))
    clear hb2
    go_wp2
    go_ret
    exact ⟨rfl, HB2.out⟩
  | true =>
    obtain ⟨hgr, hokk, hg, hs, hl40, p, mb, M, rfl, hv⟩ := ht rfl
    obtain ⟨L, hL⟩ : ∃ L, L = madeV (vsOf xs) acts := ⟨_, rfl⟩
    rw [← hL] at hg hs hl40 hv
    have HV := Lib.hid hv
    have HG := Lib.hid hg
    have HS := Lib.hid hs
    have H40 := Lib.hid hl40
    obtain ⟨n0, hn0⟩ : ∃ n, n = xs.length := ⟨_, rfl⟩
    rw [← hn0]
    clear hg hs hl40 hv ht hf hL hb1 hn0 hgr hokk
    clear xs
    go_wp2_with fail
    refine (allN_any p mb M L w1 HV.out HG.out HS.out).mono ?_
    rintro e w2 ⟨va, xs, rfl, hA, hb2⟩
    have HA := Lib.hid hA
    have HB2 := Lib.hid hb2
    have HI2 := Lib.hid (hA.vin HG.out HS.out)
    clear hA hb2
    go_wp2_with fail
    refine (ofN_any va L.length xs L HA.out.vs HG.out w2 HI2.out).mono ?_
    rintro e w3 ⟨p', mb', M', rfl, hN, hb3⟩
    have HN := Lib.hid hN
    have HB3 := Lib.hid hb3
    clear hN hb3
    go_wp2_with fail
    refine (allN_any p' mb' M' L w3 HN.out.is HG.out HS.out).mono ?_
    rintro e w4 ⟨va4, xs4, rfl, hA4, hb4⟩
    have HI4 := Lib.hid (hA4.vin HG.out HS.out)
    have HE4 := Lib.hid (show vsOf xs4 = vsOf xs from hA4.vs.trans HA.out.vs.symm)
    have HL4 := Lib.hid hA4.len
    have HB4 := Lib.hid (show Below w2.heap.size w2 w4 from HB3.out.trans (hb4.mono HB3.out.size))
    have HB34 := Lib.hid hb4
    clear hA4 hb4
    go_wp2_with fail
    refine (sameVec_any va4 va L.length L.length L.length xs4 xs HL4.out HE4.out w4 HI4.out (vin_ext HI2.out HB4.out)).mono ?_
    rintro e w4' ⟨rfl, n4, rfl⟩
    have HB4' := Lib.hid (show Below w3.heap.size w3 (w4.drewN n4) from below_drN HB34.out n4)
    clear HI4 HE4 HL4 HB4 HB34
    generalize w4.drewN n4 = w5 at *
    go_wp2_with fail
    refine (points_any p' mb' M' L w5 (HN.out.is.below HB4'.out) HG.out HS.out (by have := H40.out; omega)).mono ?_
    rintro e w6 ⟨pa, pcap, ps, rfl, hp1, hp2, hb6⟩
    have HP1 := Lib.hid hp1
    have HP2 := Lib.hid (owns_els pc_len hp2)
    have HB6 := Lib.hid (HB4'.out.trans (hb6.mono HB4'.out.size))
    have HB36 := Lib.hid (show Below w1.heap.size w1 w6 from HB2.out.trans ((HB3.out.trans (HB6.out.mono HB3.out.size)).mono HB2.out.size))
    clear hp1 hp2 hb6 HB4'
    go_wp2_with fail
    refine (points_any p mb M L w6 (HV.out.below HB36.out) HG.out HS.out (by have := H40.out; omega)).mono ?_
    rintro e w7 ⟨qa, qcap, qs, rfl, hq1, hq2, hb7⟩
    obtain rfl := HP1.out.uniq hq1
    have HQ2 := Lib.hid (owns_els pc_len hq2)
    have HPL := Lib.hid (show ps.length ≤ maxLen by obtain ⟨_, _, he, _, h1, h2, _⟩ := own_parts hq2; omega)
    have HPE := Lib.hid (show Els pc 2 w7 pa ps from HP2.out.ext hb7)
    have HB7 := Lib.hid (HB6.out.trans (hb7.mono HB6.out.size))
    obtain ⟨pn, hpn⟩ : ∃ pn, pn = ps.length := ⟨_, rfl⟩
    rw [← hpn] at HPL ⊢
    have HPN := Lib.hid hpn.symm
    clear hq1 hq2 hb7 hpn HB6 HB36 HP1 HP2
    go_wp2_with fail
    refine (samePts_any pa qa pn pn pn ps HPN.out w7 HPE.out HQ2.out HPL.out).mono ?_
    rintro e w7' ⟨rfl, n7, rfl⟩
    have HB8 := Lib.hid (show Below w3.heap.size w3 (w7.drewN n7) from below_drN HB7.out n7)
    clear HPE HQ2 HPL HPN HB7
    generalize w7.drewN n7 = W at *
    have HB2W := Lib.hid (show Below w2.heap.size w2 W from HB3.out.trans (HB8.out.mono HB3.out.size))
    have HB1W := Lib.hid (show Below w1.heap.size w1 W from HB2.out.trans (HB2W.out.mono HB2.out.size))
    have HB0W := Lib.hid (show Below w.heap.size w W from HB1.out.trans (HB1W.out.mono HB1.out.size))
    have HF0 := Lib.hid (Fr.start HA.out HB2W.out)
    go_wp2_with fail
    go_loopg [10] L.length (fun gk iv wr => ∃ i : Nat, i + gk = L.length ∧ iv = .int .i64 i ∧ Hid (Fr xs W wr))
    case atStart => exact ⟨0, by omega, rfl, HF0⟩
    case round =>
      obtain ⟨i, hi, rfl, HF⟩ := hrel
      by_cases hlt : i < L.length
      · have h40 := H40.out
        have hil : i < xs.length := by rw [HA.out.len]; exact hlt
        obtain ⟨vcap, ho⟩ := HA.out.own
        rcases row_of_owns ho with ⟨_, hnil⟩ | ⟨g0, cp, hva, _, hR⟩
        · exfalso; rw [hnil] at hil; simp at hil
        have hva' : va = some ⟨g0, 0, none⟩ := by injection hva
        subst hva'
        have HMX := Lib.hid (List.getElem_mem hil)
        have HC : Hid (∀ u, Fr xs W u → u.cell? ⟨g0, i * 2 + 1, none⟩ = some (.slice xs[i].a xs[i].ps.length xs[i].c)) := Lib.hid (fun u hu => by
          have h1 := hR.cell vc_len i hil 1 _ rfl
          have h2 : u.heap[g0]? = w2.heap[g0]? := (hu.blk g0 (fun x hx e => (HA.out.at_ x hx).2 g0 rfl e)).trans (HB2W.out.block g0 hR.lt)
          rw [← h1]
          exact World.cell?_of_block h2)
        have HAT := Lib.hid (HA.out.at_ _ (List.getElem_mem hil)).1
        have HLN := Lib.hid (HI2.out.lens _ (List.getElem_mem hil))
        generalize xs[i] = x at *
        obtain ⟨xl, xa, xc, xp⟩ := x
        have hk0 : (0 : Int) ≤ (i : Int) := by omega
        have hk1 : (i : Int) < (L.length : Int) := by omega
        simp only at HLN HC
        obtain ⟨pn, hpn⟩ : ∃ pn, pn = xp.length := ⟨_, rfl⟩
        rw [← hpn] at HLN HC
        have HPN := Lib.hid hpn
        have hml := HLN.out
        unfold maxLen at hml
        clear ho hva hR hpn
        go_wp2_with fail
        obtain ⟨g1, rfl⟩ : ∃ g1 : Nat, g1 = gk := ⟨_, rfl⟩
        obtain ⟨wo, rfl⟩ : ∃ wo : World, wo = wr := ⟨_, rfl⟩
        go_loopg [11] pn (fun gk kv wr => ∃ k : Nat, k + gk = pn ∧ kv = .int .i64 k ∧ Hid (Fr xs W wr))
        case atStart => exact ⟨0, by omega, rfl, HF⟩
        case round =>
          obtain ⟨k, hk, rfl, HFK⟩ := hrel
          have c1 := HC.out wr HFK.out
          by_cases hkl : k < pn
          · obtain ⟨g, hga⟩ := HAT.out.some (by have := HPN.out; simp only; omega)
            simp only at hga
            subst hga
            obtain ⟨cur, hbk, hsz⟩ := HFK.out.rows _ HMX.out g rfl
            have hkc : k * 2 + 1 < cur.size := by have := HPN.out; simp only at hsz; omega
            obtain ⟨c9, e1⟩ : ∃ c, wr.cell? ⟨g, k * 2 + 1, none⟩ = some c := ⟨_, (cell_of_blk hbk (k * 2 + 1)).trans (Array.getElem?_eq_getElem hkc)⟩
            have f1 := frozen_of_blk hbk (k * 2 + 1)
            have HFN := Lib.hid (HFK.out.set HMX.out rfl (k * 2 + 1) (.int .u64 1099511627776))
            have hj0 : (0 : Int) ≤ (k : Int) := by omega
            have hj1 : (k : Int) < (pn : Int) := by omega
            clear hbk hsz hkc
            go_wp2_with fail
            go_roundg (gk - 1)
            case measure => omega
            case rel => exact ⟨k + 1, by omega, by go_num, HFN⟩
          · go_wp2_with fail
            go_roundg (g1 - 1)
            case measure => omega
            case rel => exact ⟨i + 1, by omega, by go_num, HFK⟩
      · have HVE := Lib.hid (show VecIs wr p mb M L from HV.out.same (fun b hb => (HF.out.blk b (fun x hx e => by have := ((HA.out.at_ x hx).1.lie e).1; omega)).trans (HB1W.out.block b hb)))
        have HUE := Lib.hid (show VecNew w2.heap.size wr p' mb' M' L from HN.out.same (fun b hb hb2 => (HF.out.blk b (fun x hx e => by have := ((HA.out.at_ x hx).1.lie e).2; omega)).trans (HB8.out.block b hb2)))
        have HBE := Lib.hid (show Below w.heap.size w wr from ⟨HF.out.hb.os.trans HB0W.out.os, HF.out.hb.tape.trans HB0W.out.tape, HF.out.hb.output.trans HB0W.out.output, Nat.le_trans HB0W.out.size HF.out.hb.size, fun b hb => (HF.out.blk b (fun x hx e => by have := ((HA.out.at_ x hx).1.lie e).1; have := HB1.out.size; omega)).trans (HB0W.out.block b hb)⟩)
        clear HF0 HF HB8 HB2W HB1W HB0W HA HI2 HN HB3 HB2 HV
        go_wp2_with fail
        refine (allN_any p' mb' M' L wr HUE.out.is HG.out HS.out).mono ?_
        rintro e w4 ⟨va4, xs4, rfl, hA4, hb4⟩
        have HI4 := Lib.hid (hA4.vin HG.out HS.out)
        have HA4 := Lib.hid hA4
        have HB4 := Lib.hid hb4
        clear hA4 hb4
        go_wp2_with fail
        refine (allN_any p mb M L w4 (HVE.out.below HB4.out) HG.out HS.out).mono ?_
        rintro e w5 ⟨va5, xs5, rfl, hA5, hb5⟩
        have HI5 := Lib.hid (hA5.vin HG.out HS.out)
        have HE := Lib.hid (show vsOf xs4 = vsOf xs5 from HA4.out.vs.trans hA5.vs.symm)
        have HI45 := Lib.hid (vin_ext HI4.out hb5)
        have HB5 := Lib.hid (HBE.out.trans ((HB4.out.trans (hb5.mono HB4.out.size)).mono HBE.out.size))
        clear hA5 hb5
        go_wp2_with fail
        refine (sameVec_any va4 va5 L.length L.length L.length xs4 xs5 HA4.out.len HE.out w5 HI45.out HI5.out).mono ?_
        rintro e w6 ⟨rfl, n6, rfl⟩
        have HB6 := Lib.hid (show Below w.heap.size w (w5.drewN n6) from below_drN HB5.out n6)
        generalize w5.drewN n6 = w6 at *
        go_wp2_with fail
        refine (lives_any _).mono ?_
        rintro e w7 ⟨rfl, hb7⟩
        have HB7 := Lib.hid (HB6.out.trans (hb7.mono HB6.out.size))
        clear hb7
        go_wp2
        go_ret
        exact ⟨rfl, HB7.out⟩
end Go.Proofs.Ytnnpheklgdbohaa
