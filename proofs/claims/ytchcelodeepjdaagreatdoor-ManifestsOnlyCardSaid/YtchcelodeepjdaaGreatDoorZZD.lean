/- herbariumlaw20.ManifestsTurned: the walk. No condition. · herbariumlaw20.ManifestsOnly: the walk. No condition. -/
import Derived.Test.YtchcelodeepjdaaGreatDoorZZx
import Derived.Deep.DeepCutAuto
import Derived.Test.YtchcelodeepjdaaGreatDoorZZC
namespace Go.Proofs.YtchcelodeepjdaaGreatDoor.Ln
open Go.RowKit Go.Shelf Go.Herb

theorem u16_wf {x : Int} (h : (Lit.int .u16 x).wf = true) : 0 ≤ x ∧ x < 65536 := by
  simp [Lit.wf, IntKind.min, IntKind.max, IntKind.signed, IntKind.bits] at h
  omega
theorem u8_wf {x : Int} (h : (Lit.int .u8 x).wf = true) : 0 ≤ x ∧ x < 256 := by
  simp [Lit.wf, IntKind.min, IntKind.max, IntKind.signed, IntKind.bits] at h
  omega

set_option maxRecDepth 100000 in
set_option maxHeartbeats 4000000 in
theorem manifestsTurned_any (r : Rv) (at_ by_ : Int) (w : World) (h : RtIn w r) (hat : 0 ≤ at_ ∧ at_ < 65536) (hby : 0 ≤ by_ ∧ by_ < 256) :
    Calls Tryz.prog (6) #[rtV r, .int .u16 at_, .int .u8 by_] w (LivesPost w) := by
  obtain ⟨t, rfl⟩ : ∃ t : Nat, at_ = (t : Int) := ⟨at_.toNat, by omega⟩
  obtain ⟨nb, hnb⟩ : ∃ n, n = r.bs.length := ⟨_, rfl⟩
  obtain ⟨nl, hnl⟩ : ∃ n, n = r.ls.length := ⟨_, rfl⟩
  obtain ⟨nv, hnv⟩ : ∃ n, n = r.vs.length := ⟨_, rfl⟩
  obtain ⟨ns, hns⟩ : ∃ n, n = r.sh.length := ⟨_, rfl⟩
  have hrt : rtV r = .agg #[.int .u64 r.seq, .int .u64 r.log, .int .u64 r.next, .slice r.ba nb r.bc, .slice r.la nl r.lc, .slice r.va nv r.vc, .slice r.sa ns r.sc] := by rw [hnb, hnl, hnv, hns]
  obtain ⟨W, hW⟩ : ∃ W : World, W = w.alloc (.cells #[.int .u64 r.seq, .int .u64 r.log, .int .u64 r.next, .slice r.ba nb r.bc, .slice r.la nl r.lc, .slice r.va nv r.vc, .slice r.sa ns r.sc] (32)) := ⟨_, rfl⟩
  have hB : Below w.heap.size w W := by rw [hW]; exact (Below.refl _ _).alloc (Nat.le_refl _) _
  have hx1 : W.heap[w.heap.size]? = some (.cells #[.int .u64 r.seq, .int .u64 r.log, .int .u64 r.next, .slice r.ba nb r.bc, .slice r.la nl r.lc, .slice r.va nv r.vc, .slice r.sa ns r.sc] (32) (0, 0)) := by rw [hW]; exact blk_new_at rfl _
  have hzW : W.heap.size = w.heap.size + 1 := by rw [hW]; simp
  have HZW := Lib.hid hzW
  have HB := Lib.hid hB
  have HR := Lib.hid (h.ext hB)
  have HAT := Lib.hid hat
  have HBY := Lib.hid hby
  have HG := Lib.hid (greatR_any r W (h.ext hB))
  have HL := Lib.hid lives_any
  have HCK := Lib.hid (show NotGreat r → ∀ u, Below W.heap.size W u → Calls Tryz.prog (16) #[rtV r] u (CheckPost r u) from fun hn u hu => check_any r u ((h.ext hB).ext hu) hn.few.small)
  have HC : Hid (∀ u, Below W.heap.size W u → u.cell? ⟨w.heap.size, 0, none⟩ = some (.int .u64 r.seq) ∧ u.cell? ⟨w.heap.size, 1, none⟩ = some (.int .u64 r.log) ∧ u.cell? ⟨w.heap.size, 2, none⟩ = some (.int .u64 r.next) ∧ u.cell? ⟨w.heap.size, 3, none⟩ = some (.slice r.ba nb r.bc) ∧ u.cell? ⟨w.heap.size, 4, none⟩ = some (.slice r.la nl r.lc) ∧ u.cell? ⟨w.heap.size, 5, none⟩ = some (.slice r.va nv r.vc) ∧ u.cell? ⟨w.heap.size, 6, none⟩ = some (.slice r.sa ns r.sc)) := Lib.hid (fun u hu => by
    have q := cell_of_blk (blk_below hx1 hu (lt_of_blk hx1))
    have q0 := q 0
    have q1 := q 1
    have q2 := q 2
    have q3 := q 3
    have q4 := q 4
    have q5 := q 5
    have q6 := q 6
    simp at q0 q1 q2 q3 q4 q5 q6
    exact ⟨q0, q1, q2, q3, q4, q5, q6⟩)
  have HRT := Lib.hid hrt
  rw [hrt] at HG HCK
  have HW := Lib.hid hW
  rw [hrt]
  obtain ⟨c0, c1, c2, c3, c4, c5, c6⟩ := HC.out W (Below.refl _ _)
  rw [hW] at HG
  clear h hat hby hrt hB hx1 hW hnb hnl hnv hns hzW
  go_enter Tryz.func6, Tryz.ntmps6
  go_wp2_with fail
  refine HG.out.mono ?_
  rw [← HW.out]
  rintro e w1 ⟨q, rfl, hq, hb1⟩
  have HB1 := Lib.hid hb1
  have HNG := Lib.hid hq
  clear c0 c1 c2 c3 c4 c5 c6 hb1 hq HG
  obtain ⟨c0, c1, c2, c3, c4, c5, c6⟩ := HC.out w1 HB1.out
  cases q with
  | true =>
    clear HCK HNG
    go_wp2_with (go_at_call 9; refine (HL.out _).mono ?_; rintro e w2 ⟨rfl, hb2⟩; have HB2 := Lib.hid (HB1.out.trans (hb2.mono HB1.out.size)); clear hb2)
    go_ret
    exact ⟨rfl, HB.out.trans (HB2.out.mono HB.out.size)⟩
  | false =>
    have HNG2 := Lib.hid (HNG.out rfl)
    clear HNG
    go_wp2_with fail
    refine (HCK.out HNG2.out w1 HB1.out).mono ?_
    rintro e w2 ⟨n, rfl, hn, hb2⟩
    have HB2 := Lib.hid (HB1.out.trans (hb2.mono HB1.out.size))
    clear c0 c1 c2 c3 c4 c5 c6 hb2 HCK
    obtain ⟨c0, c1, c2, c3, c4, c5, c6⟩ := HC.out w2 HB2.out
    rcases hn with ⟨rfl, hg⟩ | ⟨rfl, hg⟩
    case inr =>
      clear hg
      go_wp2_with (go_at_call 9; refine (HL.out _).mono ?_; rintro e w3 ⟨rfl, hb3⟩; have HB3 := Lib.hid (HB2.out.trans (hb3.mono HB2.out.size)); clear hb3)
      go_ret
      exact ⟨rfl, HB.out.trans (HB3.out.mono HB.out.size)⟩
    have HGR := Lib.hid hg
    clear hg
    by_cases hby0 : by_ = 0
    case pos =>
      have t1 : (by_ == 0) = true := beq_iff_eq.2 hby0
      clear hby0
      go_wp2_with (go_at_call 9; refine (HL.out _).mono ?_; rintro e w3 ⟨rfl, hb3⟩; have HB3 := Lib.hid (HB2.out.trans (hb3.mono HB2.out.size)); clear hb3)
      go_ret
      exact ⟨rfl, HB.out.trans (HB3.out.mono HB.out.size)⟩
    have t1 : (by_ == 0) = false := beq_eq_false_iff_ne.2 hby0
    have HBY0 := Lib.hid hby0
    clear hby0
    have HPUT := Lib.hid (put_good r w2 (HR.out.ext HB2.out) HGR.out HNG2.out.fewX)
    rw [HRT.out] at HPUT
    obtain ⟨ys, hys⟩ : ∃ ys, ys = wholeL r.says := ⟨_, rfl⟩
    have HYL := Lib.hid (show ys.length < 1000000 ∧ 0 < ys.length from ⟨by rw [hys]; exact wholeL_len (HR.out.ext HB2.out) HGR.out HNG2.out, by rw [hys]; unfold wholeL; rw [List.length_cons]; omega⟩)
    rw [← hys] at HPUT
    have HYS := Lib.hid hys
    clear hys
    go_wp2_with fail
    refine HPUT.out.mono ?_
    rintro e w3 ⟨a, n, rfl, hn, hE, hb3, hfr⟩
    have HB3 := Lib.hid (HB2.out.trans (hb3.mono HB2.out.size))
    have hn1 : n < 1000000 := by rw [hn]; exact HYL.out.1
    have hn0 : 0 < n := by rw [hn]; exact HYL.out.2
    obtain ⟨k, hk⟩ : ∃ k : Nat, k = t % n := ⟨_, rfl⟩
    have hkn : k < n := by rw [hk]; exact Nat.mod_lt _ hn0
    obtain ⟨ab, ao, hab, hal, hac⟩ := hE.get k (by omega)
    subst hab
    obtain ⟨hfb, bcs, hbk⟩ := hfr _ rfl
    have hyk : ys[k]? = some (ys[k]'(by omega)) := List.getElem?_eq_getElem (by omega)
    have hu8 := wholeL_u8 r.says
    rw [← HYS.out] at hu8
    obtain ⟨z, hz, hz0, hz1, hz2⟩ := xor_u8 (ys[k]'(by omega)) by_ (hu8 _ (List.getElem_mem (by omega))) HBY.out
    have g0 := hac 0 _ rfl
    simp only [Nat.mul_one, Nat.add_zero] at g0
    have f0 := frozen_of_blk hbk (ao + k)
    have hsz : ao + k < bcs.size := by
      have h1 := cell_of_blk hbk (ao + k)
      have h1 : w3.cell? ⟨ab, ao + k, none⟩ = bcs[ao + k]? := h1
      rw [g0] at h1
      rcases Nat.lt_or_ge (ao + k) bcs.size with h | h
      · exact h
      · rw [Array.getElem?_eq_none h] at h1; cases h1
    have f0 : w3.frozen? ⟨ab, ao + k, none⟩ = false := f0
    obtain ⟨w4, hw4⟩ : ∃ u : World, u = w3.setCell ⟨ab, ao + k, none⟩ (.int .u8 z) := ⟨_, rfl⟩
    have HE4 := Lib.hid (show Byt w4 (some ⟨ab, ao, none⟩) (ys.set k z) from by rw [hw4]; exact byt_set hE k (by omega) z hbk rfl hsz)
    have hfb : w2.heap.size ≤ ab := hfb
    have HB4 := Lib.hid (show Below W.heap.size W w4 from by rw [hw4]; exact Below.setCell HB3.out (p := ⟨ab, ao + k, none⟩) (Nat.le_trans HB2.out.size hfb) _)
    have HNE := Lib.hid (show ys.set k z ≠ ys from fun e => by
      have h1 : (ys.set k z)[k]? = some z := by rw [List.getElem?_set_self (by omega)]
      rw [e, hyk] at h1
      exact hz2 HBY0.out (Option.some.inj h1).symm)
    have HU4 := Lib.hid (show ∀ y ∈ ys.set k z, U8 y from fun y hy => by
      rcases List.mem_or_eq_of_mem_set hy with h | h
      · exact hu8 y h
      · rw [h]; exact ⟨hz0, hz1⟩)
    have HN4 := Lib.hid (show (ys.set k z).length = n from by rw [List.length_set]; exact hn.symm)
    obtain ⟨ys', hys'⟩ : ∃ x, x = ys.set k z := ⟨_, rfl⟩
    rw [← hys'] at HE4 HNE HU4 HN4
    generalize ys[k]'(by omega) = y at g0 hz
    have i0 : (0 : Int) ≤ (k : Int) := by omega
    have i1 : (k : Int) < (n : Int) := by omega
    have n0 : ((n : Int) == 0) = false := beq_eq_false_iff_ne.2 (by omega)
    have n1 : (n == 0) = false := beq_eq_false_iff_ne.2 (by omega)
    have n2 : ¬ (n : Int) = 0 := by omega
    have a0 : (0 : Int) ≤ (t : Int) := by omega
    have hcv : IntKind.i64.wrap (t : Int) = (t : Int) := IntWalk.i64_in _ (by have := HAT.out; omega)
    have hrem : (t : Int) % (n : Int) = (k : Int) := by rw [hk]; exact (Int.natCast_emod t n).symm
    have hrem2 : (t : Int).tmod (n : Int) = (k : Int) := by rw [Int.tmod_eq_emod_of_nonneg a0]; exact hrem
    have HW4 := Lib.hid hw4
    clear hE hb3 hfr hac hbk hyk hu8 hz0 hz1 hz2 hsz hw4 hfb hys' hk hn c0 c1 c2 c3 c4 c5 c6 hal
    go_upto_region 8 with fail
    rw [← HW4.out]
    obtain ⟨c0, c1, c2, c3, c4, c5, c6⟩ := HC.out w4 HB4.out
    obtain ⟨W5, hW5⟩ : ∃ u : World, u = w4.alloc (.cells #[.slice (some ⟨ab, ao, none⟩) n n] (24)) := ⟨_, rfl⟩
    have hb5 : Below w4.heap.size w4 W5 := by rw [hW5]; exact (Below.refl _ _).alloc (Nat.le_refl _) _
    have HB5 := Lib.hid (HB4.out.trans (hb5.mono HB4.out.size))
    have HFO := Lib.hid (fold1_any w4.heap.size 0 1 (some ⟨ab, ao, none⟩) n n ys' W5 (by rw [hW5, cell_new]; rfl) (by rw [hW5]; simp) (HE4.out.ext hb5) HN4.out HU4.out hn1 (Nat.le_refl _) (fun e => by cases e))
    have HE5 := Lib.hid (HE4.out.ext hb5)
    have HW5 := Lib.hid hW5
    rw [hW5] at HFO
    clear hb5 hW5 g0 f0 hz hrem hrem2 hcv n0 n1 n2
    go_wp2_with fail
    refine HFO.out.mono ?_
    rw [← HW5.out]
    rintro e w6 ⟨hb6, ⟨hno, rfl⟩ | ⟨r2, hoi, rfl, hO⟩⟩
    · have HB6 := Lib.hid (HB5.out.trans (hb6.mono HB5.out.size))
      have HSR := Lib.hid (fun u => sameRoot_any zeroR zeroR u (zero_in u) (zero_in u) ⟨by show 0 < 1000000; decide, by show 0 < 1000000; decide, by show 0 < 1000000; decide, (fun v hv => by cases hv), by show 0 < 1000000; decide, (fun v hv => by cases hv)⟩ ⟨by show 0 < 1000000; decide, by show 0 < 1000000; decide, by show 0 < 1000000; decide, (fun v hv => by cases hv), by show 0 < 1000000; decide, (fun v hv => by cases hv)⟩)
      clear hno hb6 c0 c1 c2 c3 c4 c5 c6
      unfold zeroC
      have HX10 := Lib.hid (show Below W.heap.size W (w6.alloc (.cells #[.int .u64 0, .int .u64 0, .int .u64 0, .slice none 0 0, .slice none 0 0, .slice none 0 0, .slice none 0 0] (32))) from HB6.out.alloc HB6.out.size _)
      go_wp2_with fail
      refine (HSR.out _).mono ?_
      rintro e w7 ⟨q, rfl, hq, hb⟩
      have hq1 : q = true := hq.2 rfl
      subst hq1
      have HB7 := Lib.hid (HX10.out.trans (hb.mono HX10.out.size))
      clear hq hb
      go_wp2_with fail
      refine (HL.out _).mono ?_
      rintro e w8 ⟨rfl, hb⟩
      have HB8 := Lib.hid (HB.out.trans ((HB7.out.trans (hb.mono HB7.out.size)).mono HB.out.size))
      clear hb
      go_wp2_with fail
      go_ret
      exact ⟨rfl, HB8.out⟩
    · have HB6 := Lib.hid (HB5.out.trans (hb6.mono HB5.out.size))
      have HF2 := Lib.hid (hoi.few (by rw [HN4.out]; omega))
      have hs2 := hoi.again
      obtain ⟨nb2, hnb2⟩ : ∃ n, n = r2.bs.length := ⟨_, rfl⟩
      obtain ⟨nl2, hnl2⟩ : ∃ n, n = r2.ls.length := ⟨_, rfl⟩
      obtain ⟨nv2, hnv2⟩ : ∃ n, n = r2.vs.length := ⟨_, rfl⟩
      obtain ⟨ns2, hns2⟩ : ∃ n, n = r2.sh.length := ⟨_, rfl⟩
      have hrt2 : rtV r2 = .agg #[.int .u64 r2.seq, .int .u64 r2.log, .int .u64 r2.next, .slice r2.ba nb2 r2.bc, .slice r2.la nl2 r2.lc, .slice r2.va nv2 r2.vc, .slice r2.sa ns2 r2.sc] := by rw [hnb2, hnl2, hnv2, hns2]
      obtain ⟨W7, hW7⟩ : ∃ u : World, u = w6.alloc (.cells #[.int .u64 r2.seq, .int .u64 r2.log, .int .u64 r2.next, .slice r2.ba nb2 r2.bc, .slice r2.la nl2 r2.lc, .slice r2.va nv2 r2.vc, .slice r2.sa ns2 r2.sc] (32)) := ⟨_, rfl⟩
      have hb7 : Below w6.heap.size w6 W7 := by rw [hW7]; exact (Below.refl _ _).alloc (Nat.le_refl _) _
      have HB7 := Lib.hid (HB6.out.trans (hb7.mono HB6.out.size))
      have hx7 : W7.heap[w6.heap.size]? = some (.cells #[.int .u64 r2.seq, .int .u64 r2.log, .int .u64 r2.next, .slice r2.ba nb2 r2.bc, .slice r2.la nl2 r2.lc, .slice r2.va nv2 r2.vc, .slice r2.sa ns2 r2.sc] (32) (0, 0)) := by rw [hW7]; exact blk_new_at rfl _
      have HO7 := Lib.hid (hO.in_.ext hb7)
      have HC2 : Hid (∀ u, Below W7.heap.size W7 u → u.cell? ⟨w6.heap.size, 0, none⟩ = some (.int .u64 r2.seq) ∧ u.cell? ⟨w6.heap.size, 1, none⟩ = some (.int .u64 r2.log) ∧ u.cell? ⟨w6.heap.size, 2, none⟩ = some (.int .u64 r2.next) ∧ u.cell? ⟨w6.heap.size, 3, none⟩ = some (.slice r2.ba nb2 r2.bc) ∧ u.cell? ⟨w6.heap.size, 4, none⟩ = some (.slice r2.la nl2 r2.lc) ∧ u.cell? ⟨w6.heap.size, 5, none⟩ = some (.slice r2.va nv2 r2.vc) ∧ u.cell? ⟨w6.heap.size, 6, none⟩ = some (.slice r2.sa ns2 r2.sc)) := Lib.hid (fun u hu => by
        have q := cell_of_blk (blk_below hx7 hu (lt_of_blk hx7))
        have q0 := q 0
        have q1 := q 1
        have q2 := q 2
        have q3 := q 3
        have q4 := q 4
        have q5 := q 5
        have q6 := q 6
        simp at q0 q1 q2 q3 q4 q5 q6
        exact ⟨q0, q1, q2, q3, q4, q5, q6⟩)
      have HPUT2 := Lib.hid (put_good r2 W7 HO7.out hoi.good HF2.out)
      have HNR := Lib.hid (show ¬ r2.says = r.says from fun e => HNE.out (by rw [← hs2, e, ← HYS.out]))
      have HSR := Lib.hid (show ∀ u, Below W7.heap.size W7 u → Calls Tryz.prog (14) #[rtV r2, rtV r] u (SRPost r2.says r.says u) from fun u hu => sameRoot_any r2 r u (HO7.out.ext hu) (HR.out.ext (HB7.out.trans (hu.mono HB7.out.size))) HF2.out.cmp HNG2.out.fewX.cmp)
      rw [hs2, hrt2] at HPUT2
      rw [hrt2, HRT.out] at HSR
      rw [hrt2]
      have HW7 := Lib.hid hW7
      rw [hW7] at HPUT2
      have HE7 := Lib.hid ((HE5.out.ext hb6).ext hb7)
      clear hoi hO hb6 hb7 hx7 hrt2 hnb2 hnl2 hnv2 hns2 hs2 hW7 c0 c1 c2 c3 c4 c5 c6
      go_wp2_with fail
      refine HPUT2.out.mono ?_
      rw [← HW7.out]
      rintro e w8 ⟨a8, n8, rfl, hn8, hE8, hb8, hfr8⟩
      have HB8 := Lib.hid hb8
      have HEQ := Lib.hid (sameBytes_any (some ⟨ab, ao, none⟩) a8 n n8 n n8 ys' ys' w8 (HE7.out.ext hb8) hE8 HN4.out hn8.symm (by omega))
      clear hn8 hE8 hb8 hfr8
      go_wp2_with fail
      refine HEQ.out.mono ?_
      rintro e w9 ⟨q, rfl, hq, hb9⟩
      have hq1 : q = true := hq.2 rfl
      subst hq1
      have HB9 := Lib.hid (HB8.out.trans (hb9.mono HB8.out.size))
      have HB9w := Lib.hid (HB7.out.trans (HB9.out.mono HB7.out.size))
      clear hq hb9
      obtain ⟨c0, c1, c2, c3, c4, c5, c6⟩ := HC.out w9 HB9w.out
      obtain ⟨d0, d1, d2, d3, d4, d5, d6⟩ := HC2.out w9 HB9.out
      go_wp2_with fail
      refine (HSR.out _ HB9.out).mono ?_
      rintro e w10 ⟨q, rfl, hq, hb10⟩
      have hq1 : q = false := by
        cases q with
        | false => rfl
        | true => exact absurd (hq.1 rfl) HNR.out
      subst hq1
      have HB10 := Lib.hid (HB9w.out.trans (hb10.mono HB9w.out.size))
      clear hq hb10 c0 c1 c2 c3 c4 c5 c6 d0 d1 d2 d3 d4 d5 d6
      go_wp2_with fail
      refine (HL.out _).mono ?_
      rintro e w11 ⟨rfl, hb⟩
      have HB11 := Lib.hid (HB.out.trans ((HB10.out.trans (hb.mono HB10.out.size)).mono HB.out.size))
      clear hb
      go_wp2_with fail
      go_ret
      exact ⟨rfl, HB11.out⟩
end Go.Proofs.YtchcelodeepjdaaGreatDoor.Ln

namespace Go.Proofs.YtchcelodeepjdaaGreatDoor.Ln
open Go.RowKit Go.Shelf Go.Herb

theorem slice_lo8 {a : Addr} {n k : Nat} (hk : k ≤ n) (h0 : 0 < n) : ∀ W, (Instr.slice (24) (.slice (some a) n n) none (some (.int .i64 (k : Int))) none).run Tryz.prog W = .ok (.slice (some a) k n) W := fun W => by
  have h1 : n ≠ 0 := by omega
  rw [run_slice_h (P := Tryz.prog) W (24) (some a) n n (by kernel_rfl) .i64 k (by omega) (by omega)]
  rw [show Tryz.prog.elem (24) = (5) from by kernel_rfl, Tryz.sizeOf5]
  obtain ⟨b, o, p⟩ := a
  simp [sliced, Result.andThen, Addr.add, h1]
theorem NotGreat.wt {r : Rv} (h : NotGreat r) : (r.says.sh.map (fun s => 1 + (s.lv.map List.length).sum)).sum ≤ 2730 := by
  have s := h.sh
  have h1 := sum_le (f := fun s : Sd => 1 + (s.lv.map List.length).sum) (g := fun _ => 91 * 1) r.says.sh (fun x hx => by
    obtain ⟨y, hy, rfl⟩ := List.mem_map.1 hx
    have h0 := h.lev y hy y.l0 (by simp [Sv.lv])
    have h1 := h.lev y hy y.l1 (by simp [Sv.lv])
    have h2 := h.lev y hy y.l2 (by simp [Sv.lv])
    show 1 + (y.l0.ts.length + (y.l1.ts.length + (y.l2.ts.length + 0))) ≤ 91
    omega)
  rw [sum_mul 91 (fun _ => 1), sum_ones] at h1
  have h2 : r.says.sh.length = r.sh.length := by show (r.sh.map Sv.says).length = _; rw [List.length_map]
  rw [h2] at h1
  omega
theorem edit_begins (x was : Rt) : ∃ l, editL x was = 2 :: l := ⟨_, rfl⟩
set_option maxRecDepth 100000 in
set_option maxHeartbeats 4000000 in
theorem manifestsOnly_any (r q : Rv) (cut : Int) (w : World) (h : RtIn w r) (hq : RtIn w q) (hcut : 0 ≤ cut ∧ cut < 65536) :
    Calls Tryz.prog (5) #[rtV r, rtV q, .int .u16 cut] w (LivesPost w) := by
  obtain ⟨t, rfl⟩ : ∃ t : Nat, cut = (t : Int) := ⟨cut.toNat, by omega⟩
  obtain ⟨nb, hnb⟩ : ∃ n, n = r.bs.length := ⟨_, rfl⟩
  obtain ⟨nl, hnl⟩ : ∃ n, n = r.ls.length := ⟨_, rfl⟩
  obtain ⟨nv, hnv⟩ : ∃ n, n = r.vs.length := ⟨_, rfl⟩
  obtain ⟨ns, hns⟩ : ∃ n, n = r.sh.length := ⟨_, rfl⟩
  obtain ⟨mb, hmb⟩ : ∃ n, n = q.bs.length := ⟨_, rfl⟩
  obtain ⟨ml, hml⟩ : ∃ n, n = q.ls.length := ⟨_, rfl⟩
  obtain ⟨mv, hmv⟩ : ∃ n, n = q.vs.length := ⟨_, rfl⟩
  obtain ⟨ms, hms⟩ : ∃ n, n = q.sh.length := ⟨_, rfl⟩
  have hrt : rtV r = .agg #[.int .u64 r.seq, .int .u64 r.log, .int .u64 r.next, .slice r.ba nb r.bc, .slice r.la nl r.lc, .slice r.va nv r.vc, .slice r.sa ns r.sc] := by rw [hnb, hnl, hnv, hns]
  have hqt : rtV q = .agg #[.int .u64 q.seq, .int .u64 q.log, .int .u64 q.next, .slice q.ba mb q.bc, .slice q.la ml q.lc, .slice q.va mv q.vc, .slice q.sa ms q.sc] := by rw [hmb, hml, hmv, hms]
  obtain ⟨W1, hW1⟩ : ∃ W : World, W = w.alloc (.cells #[.int .u64 r.seq, .int .u64 r.log, .int .u64 r.next, .slice r.ba nb r.bc, .slice r.la nl r.lc, .slice r.va nv r.vc, .slice r.sa ns r.sc] (32)) := ⟨_, rfl⟩
  obtain ⟨W, hW⟩ : ∃ W : World, W = W1.alloc (.cells #[.int .u64 q.seq, .int .u64 q.log, .int .u64 q.next, .slice q.ba mb q.bc, .slice q.la ml q.lc, .slice q.va mv q.vc, .slice q.sa ms q.sc] (32)) := ⟨_, rfl⟩
  have hz1 : W1.heap.size = w.heap.size + 1 := by rw [hW1]; simp
  have hB1 : Below w.heap.size w W1 := by rw [hW1]; exact (Below.refl _ _).alloc (Nat.le_refl _) _
  have hB2 : Below W1.heap.size W1 W := by rw [hW]; exact (Below.refl _ _).alloc (Nat.le_refl _) _
  have hx1 : W1.heap[w.heap.size]? = some (.cells #[.int .u64 r.seq, .int .u64 r.log, .int .u64 r.next, .slice r.ba nb r.bc, .slice r.la nl r.lc, .slice r.va nv r.vc, .slice r.sa ns r.sc] (32) (0, 0)) := by rw [hW1]; exact blk_new_at rfl _
  have hx := blk_below hx1 hB2 (lt_of_blk hx1)
  have hy : W.heap[w.heap.size + 1]? = some (.cells #[.int .u64 q.seq, .int .u64 q.log, .int .u64 q.next, .slice q.ba mb q.bc, .slice q.la ml q.lc, .slice q.va mv q.vc, .slice q.sa ms q.sc] (32) (0, 0)) := by rw [hW]; exact blk_new_at hz1.symm _
  have HX := Lib.hid hx
  have HY := Lib.hid hy
  have HB := Lib.hid (hB1.trans (hB2.mono hB1.size))
  have HR := Lib.hid (h.ext HB.out)
  have HQ := Lib.hid (hq.ext HB.out)
  have HCUT := Lib.hid hcut
  have HL := Lib.hid lives_any
  have HG := Lib.hid (fun (u : World) (hu : Below W.heap.size W u) => greatR_any r u (HR.out.ext hu))
  have HGQ := Lib.hid (fun (u : World) (hu : Below W.heap.size W u) => greatR_any q u (HQ.out.ext hu))
  have HCK := Lib.hid (show NotGreat r → ∀ u, Below W.heap.size W u → Calls Tryz.prog (16) #[rtV r] u (CheckPost r u) from fun hn u hu => check_any r u (HR.out.ext hu) hn.few.small)
  have HCQ := Lib.hid (show NotGreat q → ∀ u, Below W.heap.size W u → Calls Tryz.prog (16) #[rtV q] u (CheckPost q u) from fun hn u hu => check_any q u (HQ.out.ext hu) hn.few.small)
  have HRT := Lib.hid hrt
  have HQT := Lib.hid hqt
  rw [hrt] at HG HCK
  rw [hqt] at HGQ HCQ
  have HW := Lib.hid hW
  have HW1 := Lib.hid hW1
  rw [hrt, hqt]
  clear h hq hcut hrt hqt hnb hnl hnv hns hmb hml hmv hms hz1 hB1 hB2 hx1 hx hy hW hW1
  go_enter Tryz.func5, Tryz.ntmps5
  go_upto_region 1 with fail
  rw [← HW1.out, ← HW.out]
  obtain ⟨c0, c1, c2, c3, c4, c5, c6⟩ := rtC_at HX.out
  go_wp2_with fail
  refine (HG.out W (Below.refl _ _)).mono ?_
  rintro e w1 ⟨g1, rfl, hg1, hb1⟩
  have HB1 := Lib.hid hb1
  clear c0 c1 c2 c3 c4 c5 c6 hb1
  cases g1 with
  | true =>
    clear hg1
    go_wp2_with (go_at_call 9; refine (HL.out _).mono ?_; rintro e w2 ⟨rfl, hb2⟩; have HB2 := Lib.hid (HB1.out.trans (hb2.mono HB1.out.size)); clear hb2)
    go_ret
    exact ⟨rfl, HB.out.trans (HB2.out.mono HB.out.size)⟩
  | false =>
    have HN := Lib.hid (hg1 rfl)
    clear hg1
    obtain ⟨d0, d1, d2, d3, d4, d5, d6⟩ := rtC_at (blk_below HY.out HB1.out (lt_of_blk HY.out))
    go_wp2_with fail
    refine (HGQ.out w1 HB1.out).mono ?_
    rintro e w2 ⟨g2, rfl, hg2, hb2⟩
    have HB2 := Lib.hid (HB1.out.trans (hb2.mono HB1.out.size))
    clear d0 d1 d2 d3 d4 d5 d6 hb2
    cases g2 with
    | true =>
      clear hg2
      go_wp2_with (go_at_call 9; refine (HL.out _).mono ?_; rintro e w9 ⟨rfl, hb9⟩; have HB9 := Lib.hid (HB2.out.trans (hb9.mono HB2.out.size)); clear hb9)
      go_ret
      exact ⟨rfl, HB.out.trans (HB9.out.mono HB.out.size)⟩
    | false =>
      have HNQ := Lib.hid (hg2 rfl)
      clear hg2
      obtain ⟨c0, c1, c2, c3, c4, c5, c6⟩ := rtC_at (blk_below HX.out HB2.out (lt_of_blk HX.out))
      go_wp2_with fail
      refine (HCK.out HN.out w2 HB2.out).mono ?_
      rintro e w3 ⟨n3, rfl, hn3, hb3⟩
      have HB3 := Lib.hid (HB2.out.trans (hb3.mono HB2.out.size))
      clear c0 c1 c2 c3 c4 c5 c6 hb3
      rcases hn3 with ⟨rfl, hg⟩ | ⟨rfl, hg⟩
      case inr =>
        clear hg
        go_wp2_with (go_at_call 9; refine (HL.out _).mono ?_; rintro e w9 ⟨rfl, hb9⟩; have HB9 := Lib.hid (HB3.out.trans (hb9.mono HB3.out.size)); clear hb9)
        go_ret
        exact ⟨rfl, HB.out.trans (HB9.out.mono HB.out.size)⟩
      have HGR := Lib.hid hg
      clear hg
      obtain ⟨d0, d1, d2, d3, d4, d5, d6⟩ := rtC_at (blk_below HY.out HB3.out (lt_of_blk HY.out))
      go_wp2_with fail
      refine (HCQ.out HNQ.out w3 HB3.out).mono ?_
      rintro e w4 ⟨n4, rfl, hn4, hb4⟩
      have HB4 := Lib.hid (HB3.out.trans (hb4.mono HB3.out.size))
      clear d0 d1 d2 d3 d4 d5 d6 hb4
      rcases hn4 with ⟨rfl, hg⟩ | ⟨rfl, hg⟩
      case inr =>
        clear hg
        go_wp2_with (go_at_call 9; refine (HL.out _).mono ?_; rintro e w9 ⟨rfl, hb9⟩; have HB9 := Lib.hid (HB4.out.trans (hb9.mono HB4.out.size)); clear hb9)
        go_ret
        exact ⟨rfl, HB.out.trans (HB9.out.mono HB.out.size)⟩
      have HGQR := Lib.hid hg
      clear hg
      have HPQ := Lib.hid (put_good q w4 (HQ.out.ext HB4.out) HGQR.out HNQ.out.fewX)
      rw [HQT.out] at HPQ
      obtain ⟨ya, hya⟩ : ∃ ys, ys = wholeL q.says := ⟨_, rfl⟩
      rw [← hya] at HPQ
      have HYA := Lib.hid hya
      have HYL := Lib.hid (show ya.length < 1000000 ∧ 0 < ya.length from ⟨by rw [hya]; exact wholeL_len (HQ.out.ext HB4.out) HGQR.out HNQ.out, by rw [hya]; unfold wholeL; rw [List.length_cons]; omega⟩)
      clear hya
      obtain ⟨d0, d1, d2, d3, d4, d5, d6⟩ := rtC_at (blk_below HY.out HB4.out (lt_of_blk HY.out))
      go_wp2_with fail
      refine HPQ.out.mono ?_
      rintro e w5 ⟨aa, na, rfl, hna, hEa, hb5, -⟩
      have HB5 := Lib.hid (HB4.out.trans (hb5.mono HB4.out.size))
      have HEA := Lib.hid hEa
      have HNA := Lib.hid hna
      clear d0 d1 d2 d3 d4 d5 d6 hb5 hEa hna
      have hyb := blk_below HY.out HB5.out (lt_of_blk HY.out)
      have HPR := Lib.hid (putEdit_any r q (w.heap.size + 1) w5 ⟨HR.out.ext HB5.out, HGR.out, HN.out.fewX, HQ.out.ext HB5.out, HGQR.out, HNQ.out.fewX, ⟨(0, 0), by rw [hyb]; have := HQT.out; unfold rtV at this; injection this with this; rw [← this]⟩⟩)
      rw [HRT.out] at HPR
      obtain ⟨yb, hyb2⟩ : ∃ ys, ys = editL r.says q.says := ⟨_, rfl⟩
      rw [← hyb2] at HPR
      have HYB := Lib.hid hyb2
      have HYBL := Lib.hid (show yb.length < 450000 ∧ 0 < yb.length from ⟨by rw [hyb2]; exact editL_few HR.out HGR.out HN.out HQ.out HNQ.out, by rw [hyb2]; exact edit_len_pos _ _⟩)
      clear hyb hyb2
      obtain ⟨c0, c1, c2, c3, c4, c5, c6⟩ := rtC_at (blk_below HX.out HB5.out (lt_of_blk HX.out))
      go_wp2_with fail
      refine HPR.out.mono ?_
      rintro e w6 ⟨ab, n, rfl, hn, hEb, hb6, -⟩
      have HB6 := Lib.hid (HB5.out.trans (hb6.mono HB5.out.size))
      have HEB := Lib.hid hEb
      have HEA6 := Lib.hid (HEA.out.ext hb6)
      have HNB := Lib.hid hn
      clear c0 c1 c2 c3 c4 c5 c6 hb6 hEb hn
      have hna1 : 0 < na ∧ na < 1000000 := by have := HNA.out; have := HYL.out; omega
      have hn1 : 0 < n ∧ n < 450000 := by have := HNB.out; have := HYBL.out; omega
      have z0 : ((na : Int) == 0) = false := beq_eq_false_iff_ne.2 (by omega)
      have z1 : (na == 0) = false := beq_eq_false_iff_ne.2 (by omega)
      have z2 : ((n : Int) == 0) = false := beq_eq_false_iff_ne.2 (by omega)
      have z3 : (n == 0) = false := beq_eq_false_iff_ne.2 (by omega)
      have z4 : ¬ (n : Int) = 0 := by omega
      obtain ⟨k, hk⟩ : ∃ k : Nat, k = t % n := ⟨_, rfl⟩
      have hkn : k < n := by rw [hk]; exact Nat.mod_lt _ hn1.1
      have a0 : (0 : Int) ≤ (t : Int) := by omega
      have hcv : IntKind.i64.wrap (t : Int) = (t : Int) := IntWalk.i64_in _ (by have := HCUT.out; omega)
      have hrem : (t : Int) % (n : Int) = (k : Int) := by rw [hk]; exact (Int.natCast_emod t n).symm
      have hrem2 : (t : Int).tmod (n : Int) = (k : Int) := by rw [Int.tmod_eq_emod_of_nonneg a0]; exact hrem
      clear hk
      go_upto_region 8 with fail
      clear z0 z1 z2 z3 z4 hcv hrem hrem2 a0
      obtain ⟨ba, oa, haa, -, -⟩ := HEA6.out.get 0 (by have := HYL.out; omega)
      obtain ⟨bb, ob, hab, -, -⟩ := HEB.out.get 0 (by have := HYBL.out; omega)
      subst haa hab
      have HUA := Lib.hid (show ∀ y ∈ ya, U8 y from by rw [HYA.out]; exact wholeL_u8 _)
      have HUB := Lib.hid (show ∀ y ∈ yb, U8 y from by rw [HYB.out]; exact editL_u8 _ _)
      have HOI := Lib.hid (show OneIs ya q.says from by rw [HYA.out]; exact oneIs_whole HQ.out HGQR.out HNQ.out.fewX)
      have HEN := Lib.hid (show EdN r.says q.says from edN_rv HR.out HN.out.fewX HQ.out HNQ.out.fewX)
      have HED := Lib.hid (show ∀ (u : World) (x : Rv), RtIn u x → FewX x.says → EdN x.says q.says from fun u x h1 h2 => edN_rv h1 h2 HQ.out HNQ.out.fewX)
      have HY2 := Lib.hid (show ∃ l, yb = 2 :: l from by rw [HYB.out]; exact edit_begins _ _)
      have HWT := Lib.hid (show (q.says.sh.map (fun s => 1 + (s.lv.map List.length).sum)).sum ≤ 400000 from Nat.le_trans HNQ.out.wt (by decide))
      have hsl := slice_lo8 (a := ⟨bb, ob, none⟩) (Nat.le_of_lt hkn) hn1.1
      obtain ⟨W7, hW7⟩ : ∃ u : World, u = w6.alloc (.cells #[.slice (some ⟨ba, oa, none⟩) na na, .slice (some ⟨bb, ob, none⟩) k n] (24)) := ⟨_, rfl⟩
      have hb7 : Below w6.heap.size w6 W7 := by rw [hW7]; exact (Below.refl _ _).alloc (Nat.le_refl _) _
      have hc7 : W7.heap[w6.heap.size]? = some (.cells #[.slice (some ⟨ba, oa, none⟩) na na, .slice (some ⟨bb, ob, none⟩) k n] (24) (0, 0)) := by rw [hW7]; exact blk_new_at rfl _
      have HB7 := Lib.hid (HB6.out.trans (hb7.mono HB6.out.size))
      have HF8 := Lib.hid (fold2_no w6.heap.size 0 2 (some ⟨ba, oa, none⟩) na na ya (some ⟨bb, ob, none⟩) n k (yb.take k) W7 q.says (by rw [cell_of_blk hc7]; rfl) (by rw [cell_of_blk hc7]; rfl) (lt_of_blk hc7) (HEA6.out.ext hb7) HNA.out.symm HUA.out hna1.2 (Nat.le_refl _) (fun e => by cases e) ((HEB.out.ext hb7).take k) (by rw [List.length_take]; have := HNB.out; omega) (fun y hy => HUB.out y (List.mem_of_mem_take hy)) (by omega) (Nat.le_of_lt hkn) (fun e => by cases e) (by
        obtain ⟨l, e⟩ := HY2.out
        rw [e]
        cases k with
        | zero => exact .inl rfl
        | succ k => exact .inr ⟨_, rfl⟩) HOI.out HNQ.out.fewX HWT.out (fun u x h1 h2 h3 => by
        refine edit_cut (n := k) (HED.out u x h1 h2) HEN.out ?_ ?_
        · rw [← HYB.out, ← HNB.out]; exact hkn
        · rw [← HYB.out]; exact h3))
      have HEA7 := Lib.hid (HEA6.out.ext hb7)
      have HEB7 := Lib.hid (HEB.out.ext hb7)
      have HW7 := Lib.hid hW7
      rw [hW7] at HF8
      clear hb7 hc7 hW7 HEA6 HEB
      go_wp2_with fail
      refine HF8.out.mono ?_
      rw [← HW7.out]
      rintro e w8 ⟨hb8, rfl⟩
      have HB8 := Lib.hid (HB7.out.trans (hb8.mono HB7.out.size))
      have HEA8 := Lib.hid (HEA7.out.ext hb8)
      have HEB8 := Lib.hid (HEB7.out.ext hb8)
      clear hb8 hsl HF8 HEA7 HEB7
      unfold zeroC
      go_upto_region 9 with fail
      obtain ⟨W8, hW8⟩ : ∃ u : World, u = w8.alloc (.cells #[.int .u64 0, .int .u64 0, .int .u64 0, .slice none 0 0, .slice none 0 0, .slice none 0 0, .slice none 0 0] (32)) := ⟨_, rfl⟩
      rw [← hW8]
      have hb9 : Below w8.heap.size w8 W8 := by rw [hW8]; exact (Below.refl _ _).alloc (Nat.le_refl _) _
      have HB9 := Lib.hid (HB8.out.trans (hb9.mono HB8.out.size))
      have HEA9 := Lib.hid (HEA8.out.ext hb9)
      have HEB9 := Lib.hid (HEB8.out.ext hb9)
      clear hb9 hW8 HEA8 HEB8
      obtain ⟨v1, w9, hr1, hP1, hg1⟩ := run_append_b W8 W8.heap.size (.slice none 0 0) [] ⟨bb, ob, none⟩ n n yb HNB.out.symm (World.ownsRow_nil _ _ _ _) HEB9.out (by simp; omega) (Nat.le_refl _) (24)
      rw [List.nil_append] at hP1
      have hbx : Below W8.heap.size W8 w9 := (Below.refl _ _).grown hg1 (Nat.le_refl _) (fun k e => by simp [Value.ownBlock] at e)
      obtain ⟨a1, c1, hv1, -, -⟩ := els_of_owns nb_len hP1
      rw [← HNB.out] at hv1
      subst hv1
      obtain ⟨W10, hW10⟩ : ∃ u : World, u = w9.alloc (.cells #[.int .u8 0] (5)) := ⟨_, rfl⟩
      have hb10 : Below w9.heap.size w9 W10 := by rw [hW10]; exact (Below.refl _ _).alloc (Nat.le_refl _) _
      have hc10 : W10.heap[w9.heap.size]? = some (.cells #[.int .u8 0] (5) (0, 0)) := by rw [hW10]; exact blk_new_at rfl _
      have hE10 : Byt W10 (some ⟨w9.heap.size, 0, none⟩) [(0 : Int)] := els_cells hc10 rfl
      have hbx10 : Below W8.heap.size W8 W10 := hbx.trans (hb10.mono hbx.size)
      obtain ⟨v2, w11, hr2, hP2, hg2⟩ := run_append_b W10 W8.heap.size (.slice a1 n c1) yb ⟨w9.heap.size, 0, none⟩ 1 1 [(0 : Int)] rfl (ownsRow_below hP1 hb10 (Nat.le_refl _)) hE10 (by have := HNB.out; omega) hbx10.size (24)
      obtain ⟨a2, c2, hv2, -, hF2⟩ := els_of_owns nb_len hP2
      obtain ⟨m, hm⟩ : ∃ m, m = (yb ++ [(0 : Int)]).length := ⟨_, rfl⟩
      rw [← hm] at hv2
      subst hv2
      have hmn : m = n + 1 := by rw [hm, List.length_append, ← HNB.out]; rfl
      obtain ⟨o1, -, o2⟩ := own_in (show w11.ownsRow W8.heap.size (5) 1 (.slice a2 m c2) m ((yb ++ [(0 : Int)]).flatMap Ln.nb) from by have := hP2; unfold OwnB at this; rw [← hm] at this; exact this)
      have hbx11 : Below W8.heap.size W8 w11 := Below.appended hbx10 (ownsRow_below hP1 hb10 (Nat.le_refl _)) (Nat.le_refl _) hbx10.size hg2
      have HEA11 := Lib.hid (HEA9.out.ext hbx11)
      have HEB11 := Lib.hid (HEB9.out.ext hbx11)
      obtain ⟨W12, hW12⟩ : ∃ u : World, u = w11.alloc (.cells #[.slice (some ⟨ba, oa, none⟩) na na, .slice a2 m c2] (24)) := ⟨_, rfl⟩
      have hb12 : Below w11.heap.size w11 W12 := by rw [hW12]; exact (Below.refl _ _).alloc (Nat.le_refl _) _
      have hc12 : W12.heap[w11.heap.size]? = some (.cells #[.slice (some ⟨ba, oa, none⟩) na na, .slice a2 m c2] (24) (0, 0)) := by rw [hW12]; exact blk_new_at rfl _
      have HF12 := Lib.hid (fold2_no w11.heap.size 0 2 (some ⟨ba, oa, none⟩) na na ya a2 c2 m (yb ++ [(0 : Int)]) W12 q.says (by rw [cell_of_blk hc12]; rfl) (by rw [cell_of_blk hc12]; rfl) (lt_of_blk hc12) (HEA11.out.ext hb12) HNA.out.symm HUA.out hna1.2 (Nat.le_refl _) (fun e => by cases e) (hF2.ext hb12) hm.symm (fun y hy => by
        rcases List.mem_append.1 hy with h | h
        · exact HUB.out y h
        · rw [List.mem_singleton.1 h]; exact ⟨by decide, by decide⟩) (by omega) o1 o2 (by
        obtain ⟨l, e⟩ := HY2.out
        rw [e]
        exact .inr ⟨_, rfl⟩) HOI.out HNQ.out.fewX HWT.out (fun u x h1 h2 h3 => by
        refine edit_more (b := 0) (HED.out u x h1 h2) HEN.out ?_
        rw [← HYB.out]; exact h3))
      have HB12 := Lib.hid (HB9.out.trans ((hbx11.trans (hb12.mono hbx11.size)).mono HB9.out.size))
      have HEB12 := Lib.hid (HEB11.out.ext hb12)
      have HW12 := Lib.hid hW12
      rw [hW12] at HF12
      rw [hW10] at hr2
      clear hmn hP1 hg1 hbx hW10 hb10 hc10 hE10 hbx10 hP2 hg2 hF2 hm o1 o2 hbx11 hW12 hb12 hc12 HEA9 HEB9 HEA11 HEB11
      go_wp2_with (first
        | (at_builtin; refine wpList_append_w _ (by rfl) _ _ _ _ rfl _ _ rfl rfl _ _ hr1 ?_; clear hr1)
        | (at_builtin; refine wpList_append_w _ (by rfl) _ _ _ _ rfl _ _ rfl rfl _ _ hr2 ?_; clear hr2))
      refine HF12.out.mono ?_
      rw [← HW12.out]
      rintro e w13 ⟨hb13, rfl⟩
      have HB13 := Lib.hid (HB12.out.trans (hb13.mono HB12.out.size))
      have HEB13 := Lib.hid (HEB12.out.ext hb13)
      clear hb13 HF12 HEB12
      unfold zeroC
      go_upto_region 10 with fail
      obtain ⟨W14, hW14⟩ : ∃ u : World, u = w13.alloc (.cells #[.int .u64 0, .int .u64 0, .int .u64 0, .slice none 0 0, .slice none 0 0, .slice none 0 0, .slice none 0 0] (32)) := ⟨_, rfl⟩
      rw [← hW14]
      have hb14 : Below w13.heap.size w13 W14 := by rw [hW14]; exact (Below.refl _ _).alloc (Nat.le_refl _) _
      obtain ⟨W15, hW15⟩ : ∃ u : World, u = W14.alloc (.cells #[.slice (some ⟨bb, ob, none⟩) n n] (24)) := ⟨_, rfl⟩
      have hb15 : Below W14.heap.size W14 W15 := by rw [hW15]; exact (Below.refl _ _).alloc (Nat.le_refl _) _
      have hc15 : W15.heap[W14.heap.size]? = some (.cells #[.slice (some ⟨bb, ob, none⟩) n n] (24) (0, 0)) := by rw [hW15]; exact blk_new_at rfl _
      have HF15 := Lib.hid (fold1_any W14.heap.size 0 1 (some ⟨bb, ob, none⟩) n n yb W15 (by rw [cell_of_blk hc15]; rfl) (lt_of_blk hc15) ((HEB13.out.ext hb14).ext hb15) HNB.out.symm HUB.out (by omega) (Nat.le_refl _) (fun e => by cases e))
      have HB15 := Lib.hid (HB13.out.trans ((hb14.trans (hb15.mono hb14.size)).mono HB13.out.size))
      have HW15 := Lib.hid hW15
      rw [hW15] at HF15
      clear hb14 hW14 hb15 hc15 hW15 HEB13
      go_wp2_with fail
      refine HF15.out.mono ?_
      rw [← HW15.out]
      rintro e w16 ⟨hb16, ⟨-, rfl⟩ | ⟨x, hx, -, -⟩⟩
      case inr =>
        exfalso
        obtain ⟨l, r0, l1, l2, sh, e, -⟩ := hx.read
        obtain ⟨l', e'⟩ := HY2.out
        rw [e'] at e
        cases e
      have HB16 := Lib.hid (HB15.out.trans (hb16.mono HB15.out.size))
      clear hb16 HF15
      unfold zeroC
      have HX17 := Lib.hid (show Below W.heap.size W (w16.alloc (.cells #[.int .u64 0, .int .u64 0, .int .u64 0, .slice none 0 0, .slice none 0 0, .slice none 0 0, .slice none 0 0] (32))) from HB16.out.alloc HB16.out.size _)
      go_wp2_with (go_at_call 9; refine (HL.out _).mono ?_; rintro e w18 ⟨rfl, hb⟩; have HB18 := Lib.hid (HX17.out.trans (hb.mono HX17.out.size)); clear hb)
      go_ret
      exact ⟨rfl, HB.out.trans (HB18.out.mono HB.out.size)⟩
end Go.Proofs.YtchcelodeepjdaaGreatDoor.Ln
