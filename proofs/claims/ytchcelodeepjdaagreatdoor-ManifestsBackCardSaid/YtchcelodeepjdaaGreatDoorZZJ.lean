/- herbariumlaw20.ManifestsBack: the walk. No condition. -/
import Derived.Test.YtchcelodeepjdaaGreatDoorZZI
namespace Go.Proofs.YtchcelodeepjdaaGreatDoor.Ln
open Go.RowKit Go.Shelf Go.Herb

set_option maxRecDepth 100000 in
set_option maxHeartbeats 4000000 in
theorem manifestsBack_any (la : Option Addr) (lc : Nat) (xs : List Rv) (r : Rv) (w : World) (hl : Els rtc 7 w la xs) (hx : ∀ x ∈ xs, RtIn w x) (h : RtIn w r) :
    Calls Tryz.prog (4) #[.slice la xs.length lc, rtV r] w (LivesPost w) := by
  obtain ⟨n, hn⟩ : ∃ n, n = xs.length := ⟨_, rfl⟩
  rw [← hn]
  obtain ⟨lb, lo, hla⟩ : ∃ lb lo, ∀ i, i < n → la = some ⟨lb, lo, none⟩ := by
    by_cases h0 : 0 < n
    · obtain ⟨b, o, e, -⟩ := hl.get 0 (by omega)
      exact ⟨b, o, fun _ _ => e⟩
    · exact ⟨0, 0, fun i hi => by omega⟩
  obtain ⟨nb, hnb⟩ : ∃ n, n = r.bs.length := ⟨_, rfl⟩
  obtain ⟨nl, hnl⟩ : ∃ n, n = r.ls.length := ⟨_, rfl⟩
  obtain ⟨nv, hnv⟩ : ∃ n, n = r.vs.length := ⟨_, rfl⟩
  obtain ⟨ns, hns⟩ : ∃ n, n = r.sh.length := ⟨_, rfl⟩
  have hrt : rtV r = .agg #[.int .u64 r.seq, .int .u64 r.log, .int .u64 r.next, .slice r.ba nb r.bc, .slice r.la nl r.lc, .slice r.va nv r.vc, .slice r.sa ns r.sc] := by rw [hnb, hnl, hnv, hns]
  obtain ⟨W, hW⟩ : ∃ W : World, W = w.alloc (.cells #[.int .u64 r.seq, .int .u64 r.log, .int .u64 r.next, .slice r.ba nb r.bc, .slice r.la nl r.lc, .slice r.va nv r.vc, .slice r.sa ns r.sc] (32)) := ⟨_, rfl⟩
  have hB : Below w.heap.size w W := by rw [hW]; exact (Below.refl _ _).alloc (Nat.le_refl _) _
  have hx1 : W.heap[w.heap.size]? = some (.cells #[.int .u64 r.seq, .int .u64 r.log, .int .u64 r.next, .slice r.ba nb r.bc, .slice r.la nl r.lc, .slice r.va nv r.vc, .slice r.sa ns r.sc] (32) (0, 0)) := by rw [hW]; exact blk_new_at rfl _
  have HX := Lib.hid hx1
  have HB := Lib.hid hB
  have HR := Lib.hid (h.ext hB)
  have HRS := Lib.hid ((roots_in hl hx (fun i hi => hla i (by omega))).ext hB)
  have HLA := Lib.hid hla
  have HN := Lib.hid hn
  have HL := Lib.hid lives_any
  have HG := Lib.hid (fun (u : World) (hu : Below W.heap.size W u) => greatR_any r u (HR.out.ext hu))
  have HCK := Lib.hid (show NotGreat r → ∀ u, Below W.heap.size W u → Calls Tryz.prog (16) #[rtV r] u (CheckPost r u) from fun hn u hu => check_any r u (HR.out.ext hu) hn.few.small)
  have HRT := Lib.hid hrt
  rw [hrt] at HG HCK
  have HW := Lib.hid hW
  rw [hrt]
  clear hl hx h hla hn hrt hB hx1 hW hnb hnl hnv hns
  by_cases h8 : 8 < n
  · have t1 : (n : Int) > 8 := by omega
    have t2 : decide ((8 : Int) < (n : Int)) = true := decide_eq_true (by omega)
    go_enter Tryz.func4, Tryz.ntmps4
    go_upto_region 1 with fail
    rw [← HW.out]
    go_wp2_with (go_at_call 9; refine (HL.out _).mono ?_; rintro e w2 ⟨rfl, hb2⟩; have HB2 := Lib.hid (HB.out.trans (hb2.mono HB.out.size)); clear hb2)
    go_ret
    exact ⟨rfl, HB2.out⟩
  have t1 : ¬ (n : Int) > 8 := by omega
  have t2 : decide ((8 : Int) < (n : Int)) = false := decide_eq_false (by omega)
  have H8 := Lib.hid (show n ≤ 8 from by omega)
  clear h8
  go_enter Tryz.func4, Tryz.ntmps4
  go_upto_region 1 with fail
  rw [← HW.out]
  obtain ⟨c0, c1, c2, c3, c4, c5, c6⟩ := rtC_at HX.out
  go_wp2_with fail
  refine (HG.out W (Below.refl _ _)).mono ?_
  rintro e w1 ⟨g1, rfl, hg1, hb1⟩
  have HB1 := Lib.hid hb1
  clear c0 c1 c2 c3 c4 c5 c6 hb1
  cases g1 with
  | true =>
    clear hg1
    go_wp2_with (go_at_call 9; refine (HL.out _).mono ?_; rintro e w2 ⟨rfl, hb2⟩; have HB2 := Lib.hid (HB1.out.trans (hb2.mono HB1.out.size)); clear hb2)
    go_ret
    exact ⟨rfl, HB.out.trans (HB2.out.mono HB.out.size)⟩
  | false =>
    have HNG := Lib.hid (hg1 rfl)
    clear hg1
    obtain ⟨c0, c1, c2, c3, c4, c5, c6⟩ := rtC_at (blk_below HX.out HB1.out (lt_of_blk HX.out))
    go_wp2_with fail
    refine (HCK.out HNG.out w1 HB1.out).mono ?_
    rintro e w2 ⟨m2, rfl, hm2, hb2⟩
    have HB2 := Lib.hid (HB1.out.trans (hb2.mono HB1.out.size))
    clear c0 c1 c2 c3 c4 c5 c6 hb2
    rcases hm2 with ⟨rfl, hg⟩ | ⟨rfl, hg⟩
    case inr =>
      clear hg
      go_wp2_with (go_at_call 9; refine (HL.out _).mono ?_; rintro e w3 ⟨rfl, hb3⟩; have HB3 := Lib.hid (HB2.out.trans (hb3.mono HB2.out.size)); clear hb3)
      go_ret
      exact ⟨rfl, HB.out.trans (HB3.out.mono HB.out.size)⟩
    have HGR := Lib.hid hg
    clear hg HG HCK t1 t2
    go_upto_region 6 with fail
    go_loopg [7, 5, 6] n (fun gk iv v5 v6 wr => ∃ (k : Nat) (ra : Option Addr) (rc : Nat) (rcs : List Rc), k + gk = n ∧ iv = .int .i64 k ∧ v5 = .slice ra k rc ∧ v6 = .pointer (ptrO lb lo k) ∧ Hid (BackSt W wr xs k (.slice ra k rc) rcs))
    case atStart => exact ⟨0, none, 0, [], by omega, rfl, rfl, rfl, Lib.hid ⟨HB2.out, rfl, World.ownsRow_nil _ _ _ _, by simp, rfl, (fun j x h => by rw [List.map_nil, List.take_nil] at h; cases h), (fun j y hj => by omega)⟩⟩
    case round =>
      obtain ⟨k, ra, rc, rcs, hk, rfl, rfl, rfl, HST⟩ := hrel
      by_cases hkn : k < n
      case neg =>
        have i1 : ¬ (k : Int) < (n : Int) := by omega
        have HKN := Lib.hid (show k = n from by omega)
        have HPU := Lib.hid (put_good r wr (HR.out.ext HST.out.below) HGR.out HNG.out.fewX)
        rw [HRT.out] at HPU
        obtain ⟨ys, hys⟩ : ∃ ys, ys = wholeL r.says := ⟨_, rfl⟩
        rw [← hys] at HPU
        have HYS := Lib.hid (show OneIs ys r.says ∧ ys.length < 500000 ∧ ∀ y ∈ ys, U8 y from by rw [hys]; exact ⟨oneIs_whole (HR.out.ext HST.out.below) HGR.out HNG.out.fewX, Nat.lt_trans (wholeL_few (HR.out.ext HST.out.below) HGR.out HNG.out) (by decide), wholeL_u8 _⟩)
        obtain ⟨c0, c1, c2, c3, c4, c5, c6⟩ := rtC_at (blk_below HX.out HST.out.below (lt_of_blk HX.out))
        clear hys hkn
        go_wp2_with fail
        refine HPU.out.mono ?_
        rintro e w5 ⟨a, m, rfl, hm, hE, hb5, hF⟩
        have HRB := Lib.hid (recB_of hm hE hF HYS.out.2.2 HYS.out.2.1)
        have HS5 := Lib.hid (HST.out.ext hb5)
        clear c0 c1 c2 c3 c4 c5 c6 hb5 hE hF HPU
        obtain ⟨v', w', hr, ho, hb, hrs⟩ := row_push ⟨a, m, ys⟩ hm.symm HS5.out.below.size HS5.out.own HS5.out.recs HRB.out (by rw [HS5.out.len]; have := H8.out; have := HKN.out; omega)
        have HTX := Lib.hid (show Told ((rcs ++ [(⟨a, m, ys⟩ : Rc)]).map Rc.ys) r.says from by rw [List.map_append]; exact told_snoc HS5.out.told (.inl HYS.out.1))
        have HLI := Lib.hid (show ∀ j x, Told (((rcs ++ [(⟨a, m, ys⟩ : Rc)]).map Rc.ys).take j) x → wtR x ≤ 400000 from by rw [List.map_append]; exact light_snoc HS5.out.light HS5.out.told (.inl HYS.out.1) HNG.out.wtR)
        have HLE := Lib.hid (show (rcs ++ [(⟨a, m, ys⟩ : Rc)]).length = k + 1 from by rw [List.length_append, HS5.out.len]; rfl)
        have HGO := Lib.hid (HS5.out.below.trans hb)
        obtain ⟨g, go, cl, hv, hri, hgl⟩ := recs_in ho HLE.out (Nat.succ_pos k) hrs
        subst hv
        have HFO := Lib.hid (fold_any g go cl (k + 1) _ w' hri hgl (by rw [List.length_map]; exact HLE.out) (Nat.succ_pos k) (by have := H8.out; have := HKN.out; omega) HLI.out)
        clear hm ho hb hrs hri hgl
        go_wp2_with (first
          | (at_builtin; refine wpList_append_w _ (by rfl) _ _ _ _ rfl _ _ rfl rfl _ _ hr ?_; clear hr))
        refine HFO.out.mono ?_
        rintro e w6 ⟨hb6, ⟨hno, rfl⟩ | ⟨z, hz, rfl, hzi, hzf⟩⟩
        case inl => exact absurd ⟨_, HTX.out⟩ hno
        have hzx : z.says = r.says := by
          have := told_uniq none_good hz HTX.out
          cases z
          injection this
        obtain ⟨pb, hpb⟩ : ∃ n, n = z.bs.length := ⟨_, rfl⟩
        obtain ⟨pl, hpl⟩ : ∃ n, n = z.ls.length := ⟨_, rfl⟩
        obtain ⟨pv, hpv⟩ : ∃ n, n = z.vs.length := ⟨_, rfl⟩
        obtain ⟨ps, hps⟩ : ∃ n, n = z.sh.length := ⟨_, rfl⟩
        have hzt : rtV z = .agg #[.int .u64 z.seq, .int .u64 z.log, .int .u64 z.next, .slice z.ba pb z.bc, .slice z.la pl z.lc, .slice z.va pv z.vc, .slice z.sa ps z.sc] := by rw [hpb, hpl, hpv, hps]
        obtain ⟨W6, hW6⟩ : ∃ u : World, u = w6.alloc (.cells #[.int .u64 z.seq, .int .u64 z.log, .int .u64 z.next, .slice z.ba pb z.bc, .slice z.la pl z.lc, .slice z.va pv z.vc, .slice z.sa ps z.sc] (32)) := ⟨_, rfl⟩
        have hb7 : Below w6.heap.size w6 W6 := by rw [hW6]; exact (Below.refl _ _).alloc (Nat.le_refl _) _
        have hz7 : W6.heap[w6.heap.size]? = some (.cells #[.int .u64 z.seq, .int .u64 z.log, .int .u64 z.next, .slice z.ba pb z.bc, .slice z.la pl z.lc, .slice z.va pv z.vc, .slice z.sa ps z.sc] (32) (0, 0)) := by rw [hW6]; exact blk_new_at rfl _
        have HZB := Lib.hid hz7
        have HB67 := Lib.hid (hb6.trans (hb7.mono hb6.size))
        have HW67 := Lib.hid (HGO.out.trans (HB67.out.mono HGO.out.size))
        have HSR := Lib.hid (show ∀ u, Below W6.heap.size W6 u → Calls Tryz.prog (14) #[rtV z, rtV r] u (fun e w' => e = .returned (.bool true) ∧ Below u.heap.size u w') from fun u hu => (sameRoot_any z r u ((hzi.ext hb7).ext hu) (HR.out.ext (HW67.out.trans (hu.mono HW67.out.size))) hzf.cmp HNG.out.fewX.cmp).mono (fun e w' ⟨q, h1, h2, h3⟩ => ⟨by rw [h1, show q = true from h2.2 hzx], h3⟩))
        have HZX := Lib.hid hzx
        rw [hzt, HRT.out] at HSR
        rw [hzt]
        have HW6 := Lib.hid hW6
        clear hb6 hz hzi hzf hzx hpb hpl hpv hps hzt hW6 hb7 hz7
        go_upto_region 20 with fail
        rw [← HW6.out]
        obtain ⟨c0, c1, c2, c3, c4, c5, c6⟩ := rtC_at (blk_below HX.out HW67.out (lt_of_blk HX.out))
        obtain ⟨d0, d1, d2, d3, d4, d5, d6⟩ := rtC_at HZB.out
        go_wp2_with (first
          | (go_at_call 14; refine (HSR.out _ (Below.refl _ _)).mono ?_; rintro e w8 ⟨rfl, hb8⟩; have HB8 := Lib.hid (HW67.out.trans (hb8.mono HW67.out.size)); clear hb8 c0 c1 c2 c3 c4 c5 c6 d0 d1 d2 d3 d4 d5 d6)
          | (go_at_call 9; refine (HL.out _).mono ?_; rintro e w9 ⟨rfl, hb9⟩; have HB9 := Lib.hid (HB8.out.trans (hb9.mono HB8.out.size)); clear hb9))
        go_ret
        exact ⟨rfl, HB.out.trans (HB9.out.mono HB.out.size)⟩
      have i0 : (0 : Int) ≤ (k : Int) := by omega
      have i1 : (k : Int) < (n : Int) := by omega
      have hw1 : IntKind.i64.wrap ((k : Int) + 1) = (k : Int) + 1 := IntWalk.i64_in _ (by have := H8.out; omega)
      have HK8 := Lib.hid (show k < 8 from by have := H8.out; omega)
      have hla := HLA.out k hkn
      subst hla
      obtain ⟨x, hx⟩ : ∃ x, xs[k]? = some x := ⟨_, List.getElem?_eq_getElem (by have := HN.out; omega)⟩
      have HXK := Lib.hid hx
      clear hx
      obtain ⟨mb, hmb⟩ : ∃ n, n = x.bs.length := ⟨_, rfl⟩
      obtain ⟨ml, hml⟩ : ∃ n, n = x.ls.length := ⟨_, rfl⟩
      obtain ⟨mv, hmv⟩ : ∃ n, n = x.vs.length := ⟨_, rfl⟩
      obtain ⟨ms, hms⟩ : ∃ n, n = x.sh.length := ⟨_, rfl⟩
      have hxt : rtV x = .agg #[.int .u64 x.seq, .int .u64 x.log, .int .u64 x.next, .slice x.ba mb x.bc, .slice x.la ml x.lc, .slice x.va mv x.vc, .slice x.sa ms x.sc] := by rw [hmb, hml, hmv, hms]
      have HXI := Lib.hid (show ∀ u, Below W.heap.size W u → RtIn u x from fun u hu => ((HRS.out.ext hu) k x HXK.out).1)
      have HXC := Lib.hid (show ∀ u, Below W.heap.size W u → RootAt u lb (lo + k * 7) x mb ml mv ms from fun u hu => by rw [hmb, hml, hmv, hms]; exact ((HRS.out.ext hu) k x HXK.out).2.1)
      have HXG := Lib.hid (fun (u : World) (hu : Below W.heap.size W u) => greatR_any x u (HXI.out u hu))
      have HXCK := Lib.hid (show NotGreat x → ∀ u, Below W.heap.size W u → Calls Tryz.prog (16) #[rtV x] u (CheckPost x u) from fun hn u hu => check_any x u (HXI.out u hu) hn.few.small)
      have HXT := Lib.hid hxt
      rw [hxt] at HXG HXCK
      clear hmb hml hmv hms hxt
      have HBW := Lib.hid HST.out.below
      obtain ⟨c0, c1, c2, c3, c4, c5, c6⟩ := HXC.out wr HBW.out
      go_wp2_with fail
      refine (HXG.out wr HBW.out).mono ?_
      rintro e w3 ⟨g3, rfl, hg3, hb3⟩
      have HB3 := Lib.hid hb3
      have HW3 := Lib.hid (HBW.out.trans (hb3.mono HBW.out.size))
      clear c0 c1 c2 c3 c4 c5 c6 hb3
      cases g3 with
      | true =>
        clear hg3
        go_wp2_with (go_at_call 9; refine (HL.out _).mono ?_; rintro e w4 ⟨rfl, hb4⟩; have HB4 := Lib.hid (HW3.out.trans (hb4.mono HW3.out.size)); clear hb4)
        go_ret
        exact ⟨rfl, HB.out.trans (HB4.out.mono HB.out.size)⟩
      | false =>
        have HNX := Lib.hid (hg3 rfl)
        clear hg3
        obtain ⟨c0, c1, c2, c3, c4, c5, c6⟩ := HXC.out w3 HW3.out
        go_wp2_with fail
        refine (HXCK.out HNX.out w3 HW3.out).mono ?_
        rintro e w4 ⟨m4, rfl, hm4, hb4⟩
        have HB4 := Lib.hid (HB3.out.trans (hb4.mono HB3.out.size))
        have HW4 := Lib.hid (HW3.out.trans (hb4.mono HW3.out.size))
        clear c0 c1 c2 c3 c4 c5 c6 hb4
        rcases hm4 with ⟨rfl, hg⟩ | ⟨rfl, hg⟩
        case inr =>
          clear hg
          go_wp2_with (go_at_call 9; refine (HL.out _).mono ?_; rintro e w5 ⟨rfl, hb5⟩; have HB5 := Lib.hid (HW4.out.trans (hb5.mono HW4.out.size)); clear hb5)
          go_ret
          exact ⟨rfl, HB.out.trans (HB5.out.mono HB.out.size)⟩
        have HGX := Lib.hid hg
        clear hg
        obtain ⟨ys, hput, hst, hyl, hyu⟩ := back_put (HRS.out.ext HW4.out) (fun j y hj hy => by
          rcases Nat.lt_or_ge j k with h1 | h1
          · exact HST.out.good j y h1 hy
          · have : j = k := by omega
            subst this
            have e := HXK.out
            rw [e] at hy
            cases hy
            exact ⟨HGX.out, HNX.out⟩) HXK.out
        rw [HXT.out] at hput
        have HPUT := Lib.hid hput
        have HSTEP := Lib.hid hst
        have HYL := Lib.hid hyl
        have HYU := Lib.hid hyu
        clear hput hst hyl hyu
        obtain ⟨c0, c1, c2, c3, c4, c5, c6⟩ := HXC.out w4 HW4.out
        go_wp2_with fail
        refine HPUT.out.mono ?_
        rintro e w5 ⟨a, m, rfl, hm, hE, hb5, hF⟩
        have HB5 := Lib.hid (HB4.out.trans (hb5.mono HB4.out.size))
        have HRB := Lib.hid (recB_of hm hE hF HYU.out HYL.out)
        clear c0 c1 c2 c3 c4 c5 c6 hb5 hE hF
        obtain ⟨v', w', hr, hnx⟩ := HST.out.next HXK.out HGX.out HNX.out HB5.out HRB.out hm.symm HSTEP.out (by have := HK8.out; omega)
        have HNX2 := Lib.hid hnx
        clear hm hnx
        obtain ⟨g, go, cl, hv, hri, hgl⟩ := recs_in HNX2.out.own HNX2.out.len (Nat.succ_pos k) HNX2.out.recs
        subst hv
        have HFO := Lib.hid (fold_any g go cl (k + 1) _ w' hri hgl (by rw [List.length_map]; exact HNX2.out.len) (Nat.succ_pos k) (by have := HK8.out; omega) HNX2.out.light)
        have HTO := Lib.hid HNX2.out.told
        have HGO := Lib.hid HNX2.out.below
        clear hri hgl
        go_wp2_with (first
          | (at_builtin; refine wpList_append_w _ (by rfl) _ _ _ _ rfl _ _ rfl rfl _ _ hr ?_; clear hr))
        have HTX := Lib.hid (show Told ((rcs ++ [(⟨a, m, ys⟩ : Rc)]).map Rc.ys) x.says from by
          have h1 := HTO.out
          have h2 : lastO xs (k + 1) = xs[k]?.map Rv.says := rfl
          rw [h2, HXK.out] at h1
          exact h1)
        refine HFO.out.mono ?_
        rintro e w6 ⟨hb6, ⟨hno, rfl⟩ | ⟨z, hz, rfl, hzi, hzf⟩⟩
        case inl => exact absurd ⟨_, HTX.out⟩ hno
        have hzx : z.says = x.says := by
          have := told_uniq none_good hz HTX.out
          cases z
          injection this
        obtain ⟨pb, hpb⟩ : ∃ n, n = z.bs.length := ⟨_, rfl⟩
        obtain ⟨pl, hpl⟩ : ∃ n, n = z.ls.length := ⟨_, rfl⟩
        obtain ⟨pv, hpv⟩ : ∃ n, n = z.vs.length := ⟨_, rfl⟩
        obtain ⟨ps, hps⟩ : ∃ n, n = z.sh.length := ⟨_, rfl⟩
        have hzt : rtV z = .agg #[.int .u64 z.seq, .int .u64 z.log, .int .u64 z.next, .slice z.ba pb z.bc, .slice z.la pl z.lc, .slice z.va pv z.vc, .slice z.sa ps z.sc] := by rw [hpb, hpl, hpv, hps]
        obtain ⟨W6, hW6⟩ : ∃ u : World, u = w6.alloc (.cells #[.int .u64 z.seq, .int .u64 z.log, .int .u64 z.next, .slice z.ba pb z.bc, .slice z.la pl z.lc, .slice z.va pv z.vc, .slice z.sa ps z.sc] (32)) := ⟨_, rfl⟩
        have hb7 : Below w6.heap.size w6 W6 := by rw [hW6]; exact (Below.refl _ _).alloc (Nat.le_refl _) _
        have hz7 : W6.heap[w6.heap.size]? = some (.cells #[.int .u64 z.seq, .int .u64 z.log, .int .u64 z.next, .slice z.ba pb z.bc, .slice z.la pl z.lc, .slice z.va pv z.vc, .slice z.sa ps z.sc] (32) (0, 0)) := by rw [hW6]; exact blk_new_at rfl _
        have HZB := Lib.hid hz7
        have HB67 := Lib.hid (hb6.trans (hb7.mono hb6.size))
        have HW67 := Lib.hid (HGO.out.trans (HB67.out.mono HGO.out.size))
        have HSR := Lib.hid (show ∀ u, Below W6.heap.size W6 u → Calls Tryz.prog (14) #[rtV z, rtV x] u (fun e w' => e = .returned (.bool true) ∧ Below u.heap.size u w') from fun u hu => (sameRoot_any z x u ((hzi.ext hb7).ext hu) (HXI.out u (HW67.out.trans (hu.mono HW67.out.size))) hzf.cmp HNX.out.fewX.cmp).mono (fun e w' ⟨q, h1, h2, h3⟩ => ⟨by rw [h1, show q = true from h2.2 hzx], h3⟩))
        have HZX := Lib.hid hzx
        rw [hzt, HXT.out] at HSR
        rw [hzt]
        have HW6 := Lib.hid hW6
        clear hb6 hz hzi hzf hzx hpb hpl hpv hps hzt hW6 hb7 hz7
        go_upto_region 16 with fail
        rw [← HW6.out]
        obtain ⟨c0, c1, c2, c3, c4, c5, c6⟩ := HXC.out W6 HW67.out
        obtain ⟨d0, d1, d2, d3, d4, d5, d6⟩ := rtC_at HZB.out
        have HS := Lib.hid (show ∀ u, Below W6.heap.size W6 u → u.cell? ⟨w6.heap.size, 0, none⟩ = some (.int .u64 z.seq) ∧ u.cell? ⟨w6.heap.size, 1, none⟩ = some (.int .u64 z.log) ∧ u.cell? ⟨w6.heap.size, 2, none⟩ = some (.int .u64 z.next) ∧ u.cell? ⟨w6.heap.size, 3, none⟩ = some (.slice z.ba pb z.bc) ∧ u.cell? ⟨w6.heap.size, 4, none⟩ = some (.slice z.la pl z.lc) ∧ u.cell? ⟨w6.heap.size, 5, none⟩ = some (.slice z.va pv z.vc) ∧ u.cell? ⟨w6.heap.size, 6, none⟩ = some (.slice z.sa ps z.sc) ∧ u.cell? ⟨lb, lo + k * 7, none⟩ = some (.int .u64 x.seq) ∧ u.cell? ⟨lb, lo + k * 7 + 1, none⟩ = some (.int .u64 x.log) ∧ u.cell? ⟨lb, lo + k * 7 + 2, none⟩ = some (.int .u64 x.next) ∧ u.cell? ⟨lb, lo + k * 7 + 3, none⟩ = some (.slice x.ba mb x.bc) ∧ u.cell? ⟨lb, lo + k * 7 + 4, none⟩ = some (.slice x.la ml x.lc) ∧ u.cell? ⟨lb, lo + k * 7 + 5, none⟩ = some (.slice x.va mv x.vc) ∧ u.cell? ⟨lb, lo + k * 7 + 6, none⟩ = some (.slice x.sa ms x.sc) from fun u hu => by
          obtain ⟨c0, c1, c2, c3, c4, c5, c6⟩ := HXC.out u (HW67.out.trans (hu.mono HW67.out.size))
          obtain ⟨d0, d1, d2, d3, d4, d5, d6⟩ := rtC_at (blk_below HZB.out hu (lt_of_blk HZB.out))
          exact ⟨d0, d1, d2, d3, d4, d5, d6, c0, c1, c2, c3, c4, c5, c6⟩)
        go_region_held3 (fun u => u.cell? ⟨w6.heap.size, 0, none⟩ = some (.int .u64 z.seq) ∧ u.cell? ⟨w6.heap.size, 1, none⟩ = some (.int .u64 z.log) ∧ u.cell? ⟨w6.heap.size, 2, none⟩ = some (.int .u64 z.next) ∧ u.cell? ⟨w6.heap.size, 3, none⟩ = some (.slice z.ba pb z.bc) ∧ u.cell? ⟨w6.heap.size, 4, none⟩ = some (.slice z.la pl z.lc) ∧ u.cell? ⟨w6.heap.size, 5, none⟩ = some (.slice z.va pv z.vc) ∧ u.cell? ⟨w6.heap.size, 6, none⟩ = some (.slice z.sa ps z.sc) ∧ u.cell? ⟨lb, lo + k * 7, none⟩ = some (.int .u64 x.seq) ∧ u.cell? ⟨lb, lo + k * 7 + 1, none⟩ = some (.int .u64 x.log) ∧ u.cell? ⟨lb, lo + k * 7 + 2, none⟩ = some (.int .u64 x.next) ∧ u.cell? ⟨lb, lo + k * 7 + 3, none⟩ = some (.slice x.ba mb x.bc) ∧ u.cell? ⟨lb, lo + k * 7 + 4, none⟩ = some (.slice x.la ml x.lc) ∧ u.cell? ⟨lb, lo + k * 7 + 5, none⟩ = some (.slice x.va mv x.vc) ∧ u.cell? ⟨lb, lo + k * 7 + 6, none⟩ = some (.slice x.sa ms x.sc))
          (first | exact HS.out _ (by assumption) | exact HS.out _ (Below.refl _ _) | exact HS.out _ ((Below.refl _ _).drew))
          (first
            | (go_at_call 14; (with_reducible refine (HSR.out _ (by first | exact (Below.refl _ _).drew | exact Below.refl _ _)).mono ?_); rintro e w8 ⟨rfl, hb8⟩; have hA := bel_trans (w := W6) (by first | exact Below.refl _ _ | exact (Below.refl _ _).drew) hb8))
        all_goals
          have HA := Lib.hid hA
          have HNX3 := Lib.hid (HNX2.out.ext (HB67.out.trans (hA.mono HB67.out.size)))
          clear hA
          go_wp2_with fail
          go_roundg (gk - 1)
          case measure => omega
          case rel => exact ⟨k + 1, _, cl, _, by omega, by go_num, rfl, rfl, HNX3⟩
end Go.Proofs.YtchcelodeepjdaaGreatDoor.Ln
