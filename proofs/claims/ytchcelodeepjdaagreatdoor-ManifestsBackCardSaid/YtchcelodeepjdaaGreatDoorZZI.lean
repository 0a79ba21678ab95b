/- manifests.Put as an edit of a root that lies in a row. Condition: what EdAt says. · herbariumlaw20.ManifestsOnly: the walk. No condition. · herbariumlaw20.ManifestsBack: rows of records and of roots. No condition. -/
import Derived.Test.YtchcelodeepjdaaGreatDoorZZG
import Derived.Test.YtchcelodeepjdaaGreatDoorZZC
import Derived.Test.YtchcelodeepjdaaGreatDoorZZx
import Derived.Deep.DeepCutAuto
namespace Go.Proofs.YtchcelodeepjdaaGreatDoor.Ln
open Go.RowKit Go.Shelf Go.Herb

def RootAt (A : World) (b o : Nat) (r : Rv) (nb nl nv ns : Nat) : Prop :=
  A.cell? ⟨b, o, none⟩ = some (.int .u64 r.seq) ∧ A.cell? ⟨b, o + 1, none⟩ = some (.int .u64 r.log) ∧ A.cell? ⟨b, o + 2, none⟩ = some (.int .u64 r.next) ∧ A.cell? ⟨b, o + 3, none⟩ = some (.slice r.ba nb r.bc) ∧ A.cell? ⟨b, o + 4, none⟩ = some (.slice r.la nl r.lc) ∧ A.cell? ⟨b, o + 5, none⟩ = some (.slice r.va nv r.vc) ∧ A.cell? ⟨b, o + 6, none⟩ = some (.slice r.sa ns r.sc)
theorem RootAt.ext {A u : World} {b o : Nat} {r : Rv} {nb nl nv ns : Nat} (h : RootAt A b o r nb nl nv ns) (hl : b < A.heap.size) (hu : Below A.heap.size A u) : RootAt u b o r nb nl nv ns := by
  obtain ⟨h0, h1, h2, h3, h4, h5, h6⟩ := h
  exact ⟨(hu.cell (p := ⟨b, o, none⟩) hl).trans h0, (hu.cell (p := ⟨b, o + 1, none⟩) hl).trans h1, (hu.cell (p := ⟨b, o + 2, none⟩) hl).trans h2, (hu.cell (p := ⟨b, o + 3, none⟩) hl).trans h3, (hu.cell (p := ⟨b, o + 4, none⟩) hl).trans h4, (hu.cell (p := ⟨b, o + 5, none⟩) hl).trans h5, (hu.cell (p := ⟨b, o + 6, none⟩) hl).trans h6⟩
structure EdAt (w : World) (r q : Rv) (rb ro : Nat) : Prop where
  ir : RtIn w r
  gr : GoodR r
  fr : FewX r.says
  iq : RtIn w q
  gq : GoodR q
  fq : FewX q.says
  box : RootAt w rb ro q q.bs.length q.ls.length q.vs.length q.sh.length
  lt : rb < w.heap.size
set_option maxRecDepth 100000 in
set_option maxHeartbeats 4000000 in
theorem putEditAt_any (r q : Rv) (rb ro : Nat) (w : World) (h : EdAt w r q rb ro) :
    Calls Tryz.prog (17) #[rtV r, .pointer (some ⟨rb, ro, none⟩)] w (WholePost (editL r.says q.says) w) := by
  obtain ⟨nb, hnb⟩ : ∃ n, n = r.bs.length := ⟨_, rfl⟩
  obtain ⟨nl, hnl⟩ : ∃ n, n = r.ls.length := ⟨_, rfl⟩
  obtain ⟨nv, hnv⟩ : ∃ n, n = r.vs.length := ⟨_, rfl⟩
  obtain ⟨ns, hns⟩ : ∃ n, n = r.sh.length := ⟨_, rfl⟩
  obtain ⟨mb, hmb⟩ : ∃ n, n = q.bs.length := ⟨_, rfl⟩
  obtain ⟨ml, hml⟩ : ∃ n, n = q.ls.length := ⟨_, rfl⟩
  obtain ⟨mv, hmv⟩ : ∃ n, n = q.vs.length := ⟨_, rfl⟩
  obtain ⟨ms, hms⟩ : ∃ n, n = q.sh.length := ⟨_, rfl⟩
  have hxb := h.box
  have hrb := h.lt
  have hrt : rtV r = .agg #[.int .u64 r.seq, .int .u64 r.log, .int .u64 r.next, .slice r.ba nb r.bc, .slice r.la nl r.lc, .slice r.va nv r.vc, .slice r.sa ns r.sc] := by rw [hnb, hnl, hnv, hns]
  have hqt : rtV q = .agg #[.int .u64 q.seq, .int .u64 q.log, .int .u64 q.next, .slice q.ba mb q.bc, .slice q.la ml q.lc, .slice q.va mv q.vc, .slice q.sa ms q.sc] := by rw [hmb, hml, hmv, hms]
  rw [← hmb, ← hml, ← hmv, ← hms] at hxb
  obtain ⟨W, hW⟩ : ∃ W : World, W = w.alloc (.cells #[.int .u64 r.seq, .int .u64 r.log, .int .u64 r.next, .slice r.ba nb r.bc, .slice r.la nl r.lc, .slice r.va nv r.vc, .slice r.sa ns r.sc] (32)) := ⟨_, rfl⟩
  have hB : Below w.heap.size w W := by rw [hW]; exact (Below.refl _ _).alloc (Nat.le_refl _) _
  have hx0 : W.heap[w.heap.size]? = some (.cells #[.int .u64 r.seq, .int .u64 r.log, .int .u64 r.next, .slice r.ba nb r.bc, .slice r.la nl r.lc, .slice r.va nv r.vc, .slice r.sa ns r.sc] (32) (0, 0)) := by rw [hW]; exact blk_new_at rfl _
  have HX0 := Lib.hid hx0
  have HXB := Lib.hid (show ∀ u, Below w.heap.size w u → RootAt u rb ro q mb ml mv ms from fun u hu => hxb.ext hrb hu)
  have HB := Lib.hid hB
  have HW := Lib.hid hW
  have H := Lib.hid h
  have HCK := Lib.hid (check_good r W (h.ir.ext hB) h.fr.small h.gr)
  have HCQ := Lib.hid (fun (u : World) (hu : Below w.heap.size w u) => check_good q u (h.iq.ext hu) h.fq.small h.gq)
  have HNS := Lib.hid (show r.sh.length = ns ∧ ns < 1000000 from ⟨hns.symm, by rw [hns]; exact sh_few h.fr⟩)
  have HMS := Lib.hid (show q.sh.length = ms ∧ ms < 1000000 from ⟨hms.symm, by rw [hms]; exact sh_few h.fq⟩)
  rw [hrt] at HCK
  rw [hqt] at HCQ
  rw [hW] at HCK
  obtain ⟨c0, c1, c2, c3, c4, c5, c6⟩ := rtC_at hx0
  rw [hrt]
  clear h hB hx0 hW hxb hrb
  have HRT := Lib.hid hrt
  clear hrt hqt hnb hnl hnv hns hmb hml hmv hms
  go_enter Tryz.func17, Tryz.ntmps17
  go_upto_region 9 with (go_at_call 16; refine HCK.out.mono ?_; rw [← HW.out]; rintro e w1 ⟨rfl, hb1⟩; have HB1 := Lib.hid hb1; have hx1 := blk_below HX0.out hb1 (lt_of_blk HX0.out); have HX1 := Lib.hid hx1; clear hb1; clear c0 c1 c2 c3 c4 c5 c6; obtain ⟨c0, c1, c2, c3, c4, c5, c6⟩ := rtC_at hx1; clear hx1)
  clear HCK
  obtain ⟨V1, hV1⟩ : ∃ V : World, V = w1.alloc (.cells #[.int .u8 1] (5)) := ⟨_, rfl⟩
  obtain ⟨V, hV⟩ : ∃ V : World, V = V1.alloc (.cells #[.slice (some ⟨w1.heap.size, 0, none⟩) 1 1] (90)) := ⟨_, rfl⟩
  have hz1 : V1.heap.size = w1.heap.size + 1 := by rw [hV1]; simp
  have hBV1 : Below w1.heap.size w1 V1 := by rw [hV1]; exact (Below.refl _ _).alloc (Nat.le_refl _) _
  have hBV : Below V1.heap.size V1 V := by rw [hV]; exact (Below.refl _ _).alloc (Nat.le_refl _) _
  have hBw1 : Below w1.heap.size w1 V := hBV1.trans (hBV.mono hBV1.size)
  have hBwV : Below w.heap.size w V := (HB.out.trans (HB1.out.mono HB.out.size)).trans (hBw1.mono (Nat.le_trans HB.out.size HB1.out.size))
  have hp0 : V.heap[w1.heap.size]? = some (.cells #[.int .u8 1] (5) (0, 0)) := blk_below (by rw [hV1]; exact blk_new_at rfl _) hBV (show w1.heap.size < V1.heap.size by omega)
  have hp1 : V.heap[w1.heap.size + 1]? = some (.cells #[.slice (some ⟨w1.heap.size, 0, none⟩) 1 1] (90) (0, 0)) := by rw [hV]; exact blk_new_at hz1.symm _
  have hwl : w.heap.size < w1.heap.size := Nat.lt_of_lt_of_le (lt_of_blk HX0.out) HB1.out.size
  have HXV := Lib.hid (blk_below HX1.out hBw1 (lt_of_blk HX1.out))
  have HP0 := Lib.hid hp0
  have HP1 := Lib.hid hp1
  have HBV := Lib.hid hBwV
  have HWL := Lib.hid hwl
  have HVS := Lib.hid (show w1.heap.size + 1 < V.heap.size from lt_of_blk hp1)
  obtain ⟨d0, d1, d2, d3, d4, d5, d6⟩ := HXB.out _ hBwV
  rw [← hV1, ← hV]
  clear hV1 hV hz1 hBV1 hBV hBw1 hBwV hp0 hp1 hwl c0 c1 c2 c3 c4 c5 c6 HX1 HW HX0
  go_upto_region 12 with (go_at_call 16; refine (HCQ.out _ HBV.out).mono ?_; rintro e w2 ⟨rfl, hb2⟩; have HB2 := Lib.hid hb2; clear hb2)
  clear d0 d1 d2 d3 d4 d5 d6
  have hq0 := blk_below HP0.out HB2.out (lt_of_blk HP0.out)
  have hq1 := blk_below HP1.out HB2.out (lt_of_blk HP1.out)
  have e0 := cell_of_blk hq0 0
  have e1 := cell_of_blk hq1 0
  simp at e0 e1
  have f0 : w2.frozen? ⟨w1.heap.size, 0, none⟩ = false := frozen_of_blk hq0 0
  obtain ⟨U0, hU0⟩ : ∃ u : World, u = w2.setCell ⟨w1.heap.size, 0, none⟩ (.int .u8 2) := ⟨_, rfl⟩
  have HBU := Lib.hid (show Below w.heap.size w U0 from by
    rw [hU0]
    exact Below.setCell (HBV.out.trans (HB2.out.mono HBV.out.size)) (p := ⟨w1.heap.size, 0, none⟩) (Nat.le_of_lt HWL.out) _)
  have hxu := blk_setCell_other (a := ⟨w1.heap.size, 0, none⟩) (blk_below HXV.out HB2.out (lt_of_blk HXV.out)) (show w.heap.size ≠ w1.heap.size by have := HWL.out; omega) (.int .u8 2)
  rw [← hU0] at hxu
  have HXU := Lib.hid hxu
  clear hxu
  have hLU : LayAt U0 (w1.heap.size + 1) [2] := by rw [hU0]; exact lay_two hq0 hq1
  have HRO := Lib.hid (root_any (w1.heap.size + 1) [2] r w U0 hLU (laid_of H.out.ir H.out.gr H.out.fr) HBU.out (by have := HWL.out; omega) (by decide))
  obtain ⟨acc, hacc⟩ : ∃ acc, acc = [2] ++ headL r.says := ⟨_, rfl⟩
  have HACC := Lib.hid hacc
  rw [HRT.out, ← hacc] at HRO
  have HU0 := Lib.hid hU0
  clear hacc hq0 hq1 hLU HP0 HP1 HXV
  obtain ⟨c0, c1, c2, c3, c4, c5, c6⟩ := rtC_at HXU.out
  rw [hU0] at HRO c0 c1 c2 c3 c4 c5 c6
  clear hU0
  go_upto_region 14 with (go_at_call 37; refine HRO.out.mono ?_; rw [← HU0.out]; rintro e w3 ⟨rfl, hL3, hT3⟩; have HL3 := Lib.hid hL3; have HT3 := Lib.hid hT3; clear hL3 hT3)
  clear c0 c1 c2 c3 c4 c5 c6
  have HB3 := Lib.hid (HT3.out.below HBU.out (show w.heap.size ≤ w1.heap.size + 1 by have := HWL.out; omega) (Nat.le_refl _))
  have HX3 := Lib.hid (blk_turn HXU.out HT3.out (show w.heap.size ≠ w1.heap.size + 1 by have := HWL.out; omega))
  have HK := Lib.hid (show ∀ u, Below w3.heap.size w3 u → u.cell? ⟨w.heap.size, 6, none⟩ = some (.slice r.sa ns r.sc) ∧ u.cell? ⟨rb, ro + 6, none⟩ = some (.slice q.sa ms q.sc) from fun u hu =>
    ⟨(rtC_at (blk_below HX3.out hu (lt_of_blk HX3.out))).2.2.2.2.2.2, (HXB.out _ (HB3.out.trans (hu.mono HB3.out.size))).2.2.2.2.2.2⟩)
  have HBR := Lib.hid (fun (u : World) (hu : Below w3.heap.size w3 u) => byLine_any r.sa r.sc ns r.sh u (H.out.ir.shs.ext (HB3.out.trans (hu.mono HB3.out.size))) HNS.out.1 HNS.out.2)
  have HBQ := Lib.hid (fun (u : World) (hu : Below w3.heap.size w3 u) => byLine_any q.sa q.sc ms q.sh u (H.out.iq.shs.ext (HB3.out.trans (hu.mono HB3.out.size))) HMS.out.1 HMS.out.2)
  obtain ⟨c6, d6⟩ := HK.out w3 (Below.refl _ _)
  go_cut [9, 10] (fun v9 v10 wx => ∃ (X : World) (b1 b2 kb : Nat), X = wx ∧ v9 = .map (some b1) ∧ v10 = .pointer (some ⟨kb, 0, none⟩) ∧ Hid (TwoMaps w3 X kb b1 b2 (putS [] r.sh) (putS [] q.sh)))
  case first =>
    go_region_held3 (fun u => u.cell? ⟨w.heap.size, 6, none⟩ = some (.slice r.sa ns r.sc) ∧ u.cell? ⟨rb, ro + 6, none⟩ = some (.slice q.sa ms q.sc))
      (first | exact HK.out _ (by assumption) | exact HK.out _ (Below.refl _ _) | exact HK.out _ ((Below.refl _ _).drew) | exact HK.out _ ((Below.refl _ _).alloc (Nat.le_refl _) _) | exact HK.out _ (((Below.refl _ _).alloc (Nat.le_refl _) _).drew) | exact HK.out _ (((Below.refl _ _).drew).alloc (Nat.le_refl _) _) | exact HK.out _ (hA.alloc hA.size _) | exact HK.out _ ((hA.alloc hA.size _).drew) | exact HK.out _ ((hA.drew).alloc hA.size _) | exact HK.out _ (hA.drew) | exact HK.out _ (Below.setCell hC (p := ⟨wa.heap.size, 0, none⟩) hA.size _) | exact HK.out _ (Below.setCell hC (p := ⟨w3.heap.size, 0, none⟩) (Nat.le_refl _) _) | exact HK.out _ (hC.alloc hC.size _))
      (first
        | (go_at_call_of 40 (Value.slice r.sa ns r.sc); refine (HBR.out _ (by first | exact Below.refl _ _ | exact (Below.refl _ _).drew | exact (Below.refl _ _).alloc (Nat.le_refl _) _ | exact ((Below.refl _ _).alloc (Nat.le_refl _) _).drew | exact ((Below.refl _ _).drew).alloc (Nat.le_refl _) _)).mono ?_; rintro e wa ⟨b1, rfl, hma, hba, hga⟩; have hA := bel_trans (w := w3) (by first | exact Below.refl _ _ | exact (Below.refl _ _).drew | exact (Below.refl _ _).alloc (Nat.le_refl _) _ | exact ((Below.refl _ _).alloc (Nat.le_refl _) _).drew | exact ((Below.refl _ _).drew).alloc (Nat.le_refl _) _) hba; (first | (have hk : wa.heap[w3.heap.size]? = some (.cells #[.map none] (94) (0, 0)) := box_at2 hba) | skip))
        | (go_at_call_of 40 (Value.slice q.sa ms q.sc); refine (HBQ.out _ (by first | exact hA | exact hA.drew | exact hA.alloc hA.size _ | exact (hA.alloc hA.size _).drew | exact (hA.drew).alloc hA.size _)).mono ?_; rintro e wc ⟨b2, rfl, hmc, hbc, hgc⟩; have hC := bel_trans (w := w3) (by first | exact hA | exact hA.drew | exact hA.alloc hA.size _ | exact (hA.alloc hA.size _).drew | exact (hA.drew).alloc hA.size _) hbc; have hm1 := mapS_ext hma (w' := wc) (bel_trans (by first | exact Below.refl _ _ | exact (Below.refl _ _).drew | exact (Below.refl _ _).alloc (Nat.le_refl _) _ | exact ((Below.refl _ _).alloc (Nat.le_refl _) _).drew | exact ((Below.refl _ _).drew).alloc (Nat.le_refl _) _) hbc); (first | (have hk2 := blk_below hk hbc (lt_of_blk hk); obtain ⟨kc, kf⟩ := box_facts hk2) | (have hk2 := box_at hbc; obtain ⟨kc, kf⟩ := box_facts hk2) | skip)))
    all_goals
      go_wp2_with fail
      go_meet
      first
        | exact ⟨_, b1, b2, _, rfl, rfl, rfl, Lib.hid (twoMaps_mk hm1 hmc hk2 hC (Nat.le_refl _))⟩
        | exact ⟨_, b1, b2, _, rfl, rfl, rfl, Lib.hid (twoMaps_mk hm1 hmc hk2 hC hA.size)⟩
        | exact ⟨_, b1, b2, _, rfl, rfl, rfl, Lib.hid (twoMaps_new hm1 hmc hC)⟩
  case rest =>
    obtain ⟨X, b1, b2, kb, rfl, rfl, rfl, HT2⟩ := hcut
    have HLX := Lib.hid (HL3.out.ext HT2.out.below)
    have HX4 := Lib.hid (blk_below HX3.out HT2.out.below (lt_of_blk HX3.out))
    have HBX := Lib.hid (HB3.out.trans (HT2.out.below.mono HB3.out.size))
    have HPX := Lib.hid (show w1.heap.size + 1 < X.heap.size from HLX.out.lt)
    have HL3s := Lib.hid HL3.out.lt
    clear c6 d6 HK HBR HBQ HL3 HT3 HX3 HBU HXU HRO HU0 HCQ
    obtain ⟨-, -, -, -, -, -, d6⟩ := HXB.out _ HBX.out
    go_upto_region 17 with fail
    clear d6
    go_loopg [55, 11] ms (fun gk iv gv wr => ∃ (k : Nat) (a : Option Addr) (n c : Nat), k + gk = ms ∧ iv = .int .i64 k ∧ gv = .slice a n c ∧ Hid (Vx.OwnU X.heap.size wr (.slice a n c) (goneV (putS [] r.sh) (q.sh.take k))) ∧ Hid (Below X.heap.size X wr))
    case atStart => exact ⟨0, none, 0, 0, by omega, rfl, rfl, Lib.hid (World.ownsRow_nil _ _ _ _), Lib.hid (Below.refl _ _)⟩
    case round =>
      obtain ⟨k, a, n, c, hk, rfl, rfl, HOk, HBk⟩ := hrel
      by_cases hlt : k < ms
      · have hkl : k < q.sh.length := by have := HMS.out.1; omega
        have hbw := bel_trans HBX.out (HBk.out.mono (Nat.le_refl _))
        obtain ⟨b, o, hsa, hlb, hcx⟩ := (H.out.iq.shs.els.ext hbw).get k hkl
        have hgk : q.sh[k]? = some q.sh[k] := List.getElem?_eq_getElem hkl
        have hok := H.out.iq.shs.ok _ (List.getElem_mem hkl)
        generalize q.sh[k] = s at hcx hgk hok
        have g0 := hcx 0 _ rfl
        have g1 := hcx 1 _ rfl
        have g2 := hcx 2 _ rfl
        have g3 := hcx 3 _ rfl
        simp only [Nat.add_zero] at g0
        obtain ⟨A, hA⟩ : ∃ A : World, A = wr.alloc (.cells #[.int .u64 s.line, lvV s.l0, lvV s.l1, lvV s.l2] (57)) := ⟨_, rfl⟩
        have hBA : Below wr.heap.size wr A := by rw [hA]; exact (Below.refl _ _).alloc (Nat.le_refl _) _
        have hAs : A.heap.size = wr.heap.size + 1 := by rw [hA]; simp
        have hmA : MapS A b1 (putS [] r.sh) := mapS_ext (mapS_ext HT2.out.one HBk.out) hBA
        have hlk := MapIs.lookS hmA s.line hok.wf
        have hBA2 : Below X.heap.size X A := bel_trans HBk.out hBA
        have hgl : (goneV (putS [] r.sh) (q.sh.take k)).length < 1000000 := by
          have h1 : (goneV (putS [] r.sh) (q.sh.take k)).length ≤ (q.sh.take k).length := by unfold goneV; rw [List.length_map]; exact List.length_filter_le _ _
          rw [List.length_take] at h1
          have := HMS.out.2
          omega
        have hoA : Vx.OwnU X.heap.size A (.slice a n c) (goneV (putS [] r.sh) (q.sh.take k)) := ownsRow_below HOk.out hBA (Nat.le_refl _)
        have i0 : (0 : Int) ≤ (k : Int) := by omega
        have i1 : (k : Int) < (ms : Int) := by omega
        have hw1 : IntKind.i64.wrap ((k : Int) + 1) = (k : Int) + 1 := IntWalk.i64_in _ (by have := HMS.out.2; omega)
        have HSA := Lib.hid hsa
        rw [hsa]
        cases hg : getL (putS [] r.sh) s.line with
        | none =>
          obtain ⟨v', w', hr, ho', hb'⟩ := push_u s.line (.cells #[.int .u64 0, .slice none 0 0, .slice none 0 0, .slice none 0 0] (57)) hBA2.size hoA hgl
          have HON := Lib.hid (show Vx.OwnU X.heap.size w' v' (goneV (putS [] r.sh) (q.sh.take (k + 1))) from by rw [goneV_snoc _ hgk, hg]; exact ho')
          have HBN := Lib.hid (show Below X.heap.size X w' from hBA2.trans hb')
          obtain ⟨a', c', hv', -, -⟩ := els_of_owns Vx.nu_len HON.out
          subst hv'
          rw [hg] at hlk
          rw [hAs] at hr
          rw [hA] at hr hlk
          clear hcx hgk hok hBA hAs hmA hBA2 hgl hoA hA hg ho' hb' hlb hsa hbw
          go_wp2_with (at_builtin; refine Lib.wpList_append_run _ rfl _ _ _ _ rfl _ _ rfl rfl _ _ hr ?_)
          rw [← HSA.out]
          go_roundg (gk - 1)
          case measure => omega
          case rel => exact ⟨k + 1, a', _, c', by omega, by go_num, rfl, HON, HBN⟩
        | some x =>
          have HON := Lib.hid (show ∀ o, Vx.OwnU X.heap.size (A.alloc o) (.slice a n c) (goneV (putS [] r.sh) (q.sh.take (k + 1))) from fun o => by
            rw [goneV_snoc _ hgk, hg]
            simp only [Option.isNone_some, Bool.false_eq_true, if_false, List.append_nil]
            exact ownsRow_below hoA ((Below.refl _ _).alloc (Nat.le_refl _) _) (Nat.le_refl _))
          have HBN := Lib.hid (show ∀ o, Below X.heap.size X (A.alloc o) from fun o => hBA2.alloc hBA2.size o)
          have HA := Lib.hid hA
          rw [hg] at hlk
          rw [hA] at hlk
          clear hcx hgk hok hBA hAs hmA hBA2 hgl hoA hA hg hlb hsa hbw
          go_wp2_with fail
          rw [← HA.out, ← HSA.out]
          go_roundg (gk - 1)
          case measure => omega
          case rel => exact ⟨k + 1, a, n, c, by omega, by go_num, rfl, Lib.hid (HON.out _), Lib.hid (HBN.out _)⟩
      · have i1 : ¬ (k : Int) < (ms : Int) := by omega
        have HOF := Lib.hid (show Vx.OwnU X.heap.size wr (.slice a n c) (goneV (putS [] r.sh) q.sh) from by
          have h1 := HOk.out
          rwa [List.take_of_length_le (by have := HMS.out.1; omega)] at h1)
        clear hk hlt HOk
        have HWR := Lib.hid (bel_trans HBX.out (HBk.out.mono (Nat.le_refl _)))
        have hLW := HLX.out.ext HBk.out
        have HXW := Lib.hid (blk_below HX4.out HBk.out (lt_of_blk HX4.out))
        have HM2 := Lib.hid (mapS_ext HT2.out.two HBk.out)
        have HKB := Lib.hid ((HBk.out.cell (p := ⟨kb, 0, none⟩) (lt_of_cell HT2.out.box)).trans HT2.out.box)
        have HKP := Lib.hid (show kb ≠ w1.heap.size + 1 ∧ w.heap.size ≤ w1.heap.size + 1 ∧ w.heap.size ≠ w1.heap.size + 1 from ⟨by have := HT2.out.ge; have := HLX.out.lt; have := HL3s.out; omega, by have := HWL.out; omega, by have := HWL.out; omega⟩)
        have hgq : (goneV (putS [] r.sh) q.sh).length < 1000000 := by
          have h1 : (goneV (putS [] r.sh) q.sh).length ≤ q.sh.length := by unfold goneV; rw [List.length_map]; exact List.length_filter_le _ _
          have h2 := HMS.out.1
          have h3 := HMS.out.2
          omega
        have hgu : ∀ x ∈ goneV (putS [] r.sh) q.sh, U64 x := fun x hx => by
          obtain ⟨s, hs, rfl⟩ := List.mem_map.1 hx
          exact (H.out.iq.shs.ok s (List.mem_filter.1 hs).1).wf
        obtain ⟨gs, hgs⟩ : ∃ l, l = goneV (putS [] r.sh) q.sh := ⟨_, rfl⟩
        have HGS := Lib.hid hgs
        rw [← hgs] at HOF hgq hgu
        have hnn : gs.length = n := by
          obtain ⟨a', c', h1, -, -⟩ := els_of_owns Vx.nu_len HOF.out
          injection h1 with h1 h2 h3
          exact h2.symm
        have hEl : Els Vx.nu 1 wr a gs := by
          obtain ⟨a', c', h1, -, h4⟩ := els_of_owns Vx.nu_len HOF.out
          injection h1 with h1 h2 h3
          rw [h1]
          exact h4
        have hna : ∀ ad, a = some ad → ad.block ≠ w1.heap.size + 1 := fun ad had => by
          obtain ⟨_, ⟨h1, _⟩ | ⟨g, cap, cur, h1, hg, _⟩⟩ := HOF.out
          · injection h1 with h1; rw [h1] at had; cases had
          · injection h1 with h1
            rw [h1] at had
            cases had
            have := HPX.out
            show g ≠ _
            omega
        have hal : acc.length ≤ 250000001 := by
          have := headL_len (laid_of H.out.ir H.out.gr H.out.fr)
          rw [HACC.out, List.length_append]
          show 1 + _ ≤ _
          omega
        have HN1 := Lib.hid (nums1 (w1.heap.size + 1) wr.heap.size acc (n : Int) wr rfl hLW (u64_len (n := n) (by omega)) (by omega))
        obtain ⟨acc1, hacc1⟩ : ∃ l, l = acc ++ numsL [(n : Int)] := ⟨_, rfl⟩
        have hal1 : acc1.length ≤ 250000011 := by
          have := num_len (u64_len (n := n) (by omega))
          rw [hacc1, List.length_append, numsL_one]
          omega
        have HN2 := Lib.hid (fun (u : World) (hL : LayAt u (w1.heap.size + 1) acc1) (hT : TurnI (w1.heap.size + 1) wr u) => nums_any (w1.heap.size + 1) acc1 a c n gs u hL (els_turn hEl hT hna) hnn hna hgu (by omega))
        obtain ⟨acc2, hacc2⟩ : ∃ l, l = acc1 ++ numsL gs := ⟨_, rfl⟩
        have HAL2 := Lib.hid (show acc2.length ≤ 260000011 from by
          have := numsL_len gs hgu
          rw [hacc2, List.length_append]
          omega)
        rw [← hacc1] at HN1
        rw [← hacc2] at HN2
        have HLW := Lib.hid hLW
        have HNN := Lib.hid hnn
        have HA1 := Lib.hid hacc1
        have HA2 := Lib.hid hacc2
        have wn := wrap_len (n := n) (by omega)
        clear hLW hgq hgu hgs hEl hna hal hacc1 hal1 hacc2 hnn
        go_upto_region 25 with (first
          | (go_at_call_of 41 (Value.slice a n c); refine (HN2.out _ HL5.out HT5.out).mono ?_; rintro e w6 ⟨rfl, hL6, hT6⟩; have HL6 := Lib.hid hL6; have HT6 := Lib.hid (HT5.out.trans hT6); clear hL6 hT6)
          | (go_at_call 41; refine HN1.out.mono ?_; rintro e w5 ⟨rfl, hL5, hT5⟩; have HL5 := Lib.hid hL5; have HT5 := Lib.hid hT5; clear hL5 hT5))
        have HB6 := Lib.hid (HT6.out.below HWR.out HKP.out.2.1 (Nat.le_refl _))
        have hx6 := blk_turn HXW.out HT6.out HKP.out.2.2
        obtain ⟨-, -, -, -, -, -, c6⟩ := rtC_at hx6
        have HM6 := Lib.hid (mapS_turn HM2.out HLW.out HT6.out)
        have HK6 := Lib.hid (cell_turn HKB.out HT6.out HKP.out.1)
        have HCL := Lib.hid (cloneSh_any r.sa r.sc ns r.sh w6 (H.out.ir.shs.els.ext HB6.out) HNS.out.1 H.out.ir.sn HNS.out.2)
        have hmo : MapOk w6 (putS [] q.sh) := ⟨fun x hx => by
            rcases putS_mem hx with h | ⟨h, -⟩
            · cases h
            · exact (H.out.iq.shs.ok _ h).ext HB6.out, fun x hx => by
            rcases putS_mem hx with h | ⟨h, -⟩
            · cases h
            · exact H.out.fq.cmp.lev _ h⟩
        have HMO := Lib.hid hmo
        clear hmo
        have HDE := Lib.hid (fun (v : Value) (w7 : World) (ho : OwnSh w6.heap.size w7 v r.sh) (hb : Below w6.heap.size w6 w7) => deleteO_any w6.heap.size kb ns v (keptP (putS [] q.sh)) r.sh w7 ho hb.size HNS.out.1 HNS.out.2 (fun h hh u x hx hT => by
          have hbu : Below w6.heap.size w6 u := hT.below hb hh (Nat.le_refl _)
          exact put1_any kb b2 (putS [] q.sh) x u ((hbu.cell (p := ⟨kb, 0, none⟩) (lt_of_cell HK6.out)).trans HK6.out) (mapS_ext HM6.out hbu) (HMO.out.ext hbu) ((H.out.ir.shs.ok x hx).ext (HB6.out.trans (hbu.mono HB6.out.size))) (H.out.fr.cmp.lev x hx)))
        obtain ⟨fl, hfl⟩ : ∃ l, l = r.sh.filter (fun x => !keptP (putS [] q.sh) x) := ⟨_, rfl⟩
        have HFL := Lib.hid hfl
        have HFN := Lib.hid (show fl.length ≤ r.sh.length from by rw [hfl]; exact List.length_filter_le _ _)
        have HFM := Lib.hid (show ∀ s ∈ fl, s ∈ r.sh from fun s hs => by rw [hfl] at hs; exact (List.mem_filter.1 hs).1)
        have HFE := Lib.hid (show (fl.flatMap sdE).length < 104000000 from by
          have h1 := shE_len H.out.ir.shs (keys_of H.out.gr H.out.fr) H.out.fr
          have h2 : ∀ (p : Sv → Bool) (l : List Sv), ((l.filter p).flatMap sdE).length ≤ (l.flatMap sdE).length := fun p l => by
            induction l with
            | nil => simp
            | cons x l ih =>
              rw [List.filter_cons, List.flatMap_cons, List.length_append]
              split
              · rw [List.flatMap_cons, List.length_append]; omega
              · omega
          rw [hfl]
          exact Nat.lt_of_le_of_lt (h2 _ _) h1)
        unfold DelOPost at HDE
        rw [← hfl] at HDE
        have HSL := Lib.hid (fun (a8 : Option Addr) (c8 m8 : Nat) (w8 : World) (hm : fl.length = m8) (ho : OwnSh w6.heap.size w8 (.slice a8 m8 c8) fl) (hb : Below w6.heap.size w6 w8) => shelvesT_any (w1.heap.size + 1) acc2 a8 c8 m8 fl w8 (HL6.out.ext hb) (fun u hT => by
          have hbw : Below w.heap.size w u := hT.below (HB6.out.trans (hb.mono HB6.out.size)) HKP.out.2.1 (Nat.le_refl _)
          refine ⟨?_, fun s hs => (H.out.ir.shs.ok s (HFM.out s hs)).ext hbw⟩
          obtain ⟨a', c', h1, -, h4⟩ := els_of_owns shc_len ho
          injection h1 with h1 h2 h3
          rw [← h1] at h4
          refine els_turn h4 hT (fun ad had => ?_)
          obtain ⟨_, ⟨h5, _⟩ | ⟨g, cap, cur, h5, hg, _⟩⟩ := ho
          · injection h5 with h5; rw [h5] at had; cases had
          · injection h5 with h5
            rw [h5] at had
            cases had
            have := HL6.out.lt
            show g ≠ _
            omega) hm (fun s hs => keys_of H.out.gr H.out.fr s (HFM.out s hs)) (by have := HFN.out; have h1 := HNS.out.1; have h2 := HNS.out.2; omega) (by have := HAL2.out; have := HFE.out; omega))
        obtain ⟨ys, hys⟩ : ∃ l, l = acc2 ++ shL (fl.map Sv.says) := ⟨_, rfl⟩
        rw [← hys] at HSL
        have HYL := Lib.hid (show ys.length < 500000000 from by
          have h1 := num_len (u64_len (n := fl.length) (by have := HFN.out; have h1 := HNS.out.1; have h2 := HNS.out.2; omega))
          have h2 := HAL2.out
          have h3 := HFE.out
          rw [hys, shL_eq, List.length_append, List.length_append, numsL_one]
          omega)
        have hln : (r.sh.map Sv.line).Nodup ∧ (q.sh.map Sv.line).Nodup := ⟨good_lines H.out.gr, good_lines H.out.gq⟩
        have HYE := Lib.hid (show ys = editL r.says q.says from by
          have e1 : gs = goneL r.says.sh q.says.sh := by rw [HGS.out, goneV_eq hln.1]; rfl
          have e2 : fl.map Sv.says = newL r.says.sh q.says.sh := by rw [hfl, newL_eq hln.2]; rfl
          rw [hys, HA2.out, HA1.out, HACC.out, e2, ← HNN.out, e1]
          unfold editL
          simp only [List.append_assoc, List.cons_append, List.nil_append])
        have hmf : ∀ (fn : Fn) (first cap : Array Value) (w : World), (Instr.makeFunc fn first cap).run Tryz.prog w = .ok (.func fn first cap) w := fun _ _ _ _ => rfl
        clear hx6 hfl hys hln wn HN1 HN2
        go_upto_region 26 with (first
          | (go_at_call 43; refine HCL.out.mono ?_; rintro e w7 ⟨v, rfl, hO7, hB7⟩)
          | (go_at_call 42; refine (HDE.out v w7 hO7 hB7).mono ?_; rintro e w8 ⟨v8, rfl, hO8, hB8⟩; obtain ⟨a8, c8, e8, -, -⟩ := els_of_owns shc_len hO8; subst e8; have HB8 := Lib.hid (hB7.trans hB8); have HS8 := Lib.hid (HSL.out a8 c8 fl.length w8 rfl hO8 HB8.out); clear hO7 hB7 hO8 hB8)
          | (go_at_call 38; refine HS8.out.mono ?_; rintro e w9 ⟨rfl, hL9, hT9⟩; have HL9 := Lib.hid hL9; have HT9 := Lib.hid hT9; clear hL9 hT9))
        have HB9 := Lib.hid (HT9.out.below (HB6.out.trans (HB8.out.mono HB6.out.size)) HKP.out.2.1 (Nat.le_refl _))
        obtain ⟨a9, cap9, h1, hE9, h0, rfl, hfr⟩ := HL9.out.blk
        have HFR := Lib.hid hfr
        obtain ⟨q9, hq9⟩ : ∃ q, q = ys.length := ⟨_, rfl⟩
        rw [← hq9] at h1 h0
        have HQ := Lib.hid hq9
        have HE := Lib.hid hE9
        have HCLP := Lib.hid (clipL_any a9 q9 q9 w9 (fun h => ⟨h0 h, h0 h⟩) (by have := HYL.out; omega) (Nat.le_refl _) (by have := HYL.out; unfold maxLen; omega))
        have HWW := Lib.hid (show w.heap.size ≤ w1.heap.size + 1 - 1 from by have := HWL.out; omega)
        clear hE9 h0 hq9 hfr c6
        have c9 := cell_of_blk h1 0
        simp at c9
        go_wp2_with (go_at_call 39; refine HCLP.out.mono ?_; rintro e w4 ⟨rfl, rfl⟩)
        go_ret2
        exact ⟨a9, q9, rfl, by rw [← HYE.out]; exact HQ.out, by rw [← HYE.out]; exact HE.out, HB9.out, fun ad had => ⟨Nat.le_trans HWW.out (HFR.out ad had).1, (HFR.out ad had).2⟩⟩
end Go.Proofs.YtchcelodeepjdaaGreatDoor.Ln

namespace Go.Proofs.YtchcelodeepjdaaGreatDoor.Ln
open Go.RowKit Go.Shelf Go.Herb

theorem NotGreat.wt {r : Rv} (h : NotGreat r) : (r.says.sh.map (fun s => 1 + (s.lv.map List.length).sum)).sum ≤ 2730 := by
  have s := h.sh
  have h1 := sum_le (f := fun s : Sd => 1 + (s.lv.map List.length).sum) (g := fun _ => 91 * 1) r.says.sh (fun x hx => by
    obtain ⟨y, hy, rfl⟩ := List.mem_map.1 hx
    have h0 := h.lev y hy y.l0 (by simp [Sv.lv])
    have h1 := h.lev y hy y.l1 (by simp [Sv.lv])
    have h2 := h.lev y hy y.l2 (by simp [Sv.lv])
    show 1 + (y.l0.ts.length + (y.l1.ts.length + (y.l2.ts.length + 0))) ≤ 91
    omega)
  rw [sum_mul 91 (fun _ => 1), sum_ones] at h1
  have h2 : r.says.sh.length = r.sh.length := by show (r.sh.map Sv.says).length = _; rw [List.length_map]
  rw [h2] at h1
  omega
end Go.Proofs.YtchcelodeepjdaaGreatDoor.Ln

namespace Go.Proofs.YtchcelodeepjdaaGreatDoor.Ln
open Go.ChangeShapes Go.WideShapes Go.ChangeAt Go.RowKit Go.Shelf Go.Herb Go.Deep

section
variable {H : Type} {enc : TypeId × Value → H} {w : World}
theorem rtc_len (r : Rv) : (rtc r).length = 7 := rfl
set_option maxRecDepth 100000 in
theorem rd_roots {fuel : Nat} {cs : List Value} {x : DataW H × List MemPlace} (h : DataW.trod enc Tryz.prog w 0 (fun _ => true) true fuel (39) cs = some x) :
    ∃ (a : Option Addr) (cap : Nat) (xs : List Rv), cs = [.slice a xs.length cap] ∧ Els rtc 7 w a xs ∧ (∀ r ∈ xs, RtIn w r) := by
  have k0 : Tryz.prog.cellsOf (32) = 7 := by kernel_rfl
  rcases open_slice Tryz.underlying39 h with h0 | ⟨a, len, cap, m, n, D, Pl, hcs, hb, hl, hm, hmm, hx, hD⟩
  · exact ⟨none, 0, [], h0.1, Els.nil _ _ _ _, by simp⟩
  · obtain ⟨xs, hlen, hq, hE⟩ := els_of_cells (enc := rtc) (s := 7) (w := w) (a := a) (Q := fun s : Rv => RtIn w s) len (fun _ => by simp [rtc]) (fun i hil => by
      obtain ⟨cs', hc, ht'⟩ := hD i (by rw [hmm]; split <;> omega)
      rw [k0] at hc
      obtain ⟨s, rfl, hs⟩ := rd_root ht'
      obtain ⟨-, hcl, hat⟩ := World.cells?_some hc
      refine ⟨s, hs, fun j c hj => ?_⟩
      have hj4 : j < 7 := by
        rcases Nat.lt_or_ge j 7 with h' | h'
        · exact h'
        · rw [List.getElem?_eq_none (by rw [rtc_len]; exact h')] at hj; cases hj
      have := (hat j hj4).trans hj
      rw [← this]
      congr 1
      simp only [Addr.add_add])
    subst hlen
    exact ⟨some a, cap, xs, hcs, hE, hq⟩
end
/-- Roots that lie in a row. -/
def RootsIn (u : World) (xs : List Rv) (lb lo : Nat) : Prop := ∀ (k : Nat) (x : Rv), xs[k]? = some x → RtIn u x ∧ RootAt u lb (lo + k * 7) x x.bs.length x.ls.length x.vs.length x.sh.length ∧ lb < u.heap.size
theorem RootsIn.ext {w u : World} {xs : List Rv} {lb lo : Nat} (h : RootsIn w xs lb lo) (hu : Below w.heap.size w u) : RootsIn u xs lb lo := fun k x hk => by
  obtain ⟨h1, h2, h3⟩ := h k x hk
  exact ⟨h1.ext hu, h2.ext h3 hu, Nat.lt_of_lt_of_le h3 hu.size⟩
theorem roots_in {w : World} {la : Option Addr} {xs : List Rv} {lb lo : Nat} (hl : Els rtc 7 w la xs) (hx : ∀ r ∈ xs, RtIn w r) (ha : ∀ i, i < xs.length → la = some ⟨lb, lo, none⟩) : RootsIn w xs lb lo := fun k x hk => by
  obtain ⟨hlt, hget⟩ := List.getElem?_eq_some_iff.1 hk
  obtain ⟨b, o, h1, h2, h3⟩ := hl.get k hlt
  rw [ha k hlt] at h1
  cases h1
  rw [hget] at h3
  refine ⟨hx x (by rw [← hget]; exact List.getElem_mem hlt), ⟨?_, ?_, ?_, ?_, ?_, ?_, ?_⟩, h2⟩
  · exact h3 0 _ rfl
  · exact h3 1 _ rfl
  · exact h3 2 _ rfl
  · exact h3 3 _ rfl
  · exact h3 4 _ rfl
  · exact h3 5 _ rfl
  · exact h3 6 _ rfl
/-- A record, where it lies. -/
structure Rc where
  a : Option Addr
  cap : Nat
  ys : List Int
def rcc (c : Rc) : List Value := [.slice c.a c.ys.length c.cap]
theorem rcc_len (c : Rc) : (rcc c).length = 1 := rfl
theorem rcc_one : ∀ (x : Rc), ∀ u ∈ rcc x, u.oneCell' = true := by
  intro x u hu
  simp [rcc] at hu
  subst hu
  rfl
theorem infoRc : (Tryz.prog.info? (24)).map (fun i => (i.zero, i.size, i.bytes)) = some (some (.slice none 0 0), 1, 24) := by kernel_rfl
abbrev OwnR (B : Nat) (w : World) (v : Value) (rs : List Rc) : Prop := w.ownsRow B (24) 1 v rs.length (rs.flatMap rcc)
/-- A record that lies in a block of bytes. -/
structure RecB (w : World) (c : Rc) : Prop where
  ok : RecOk w (.slice c.a c.ys.length c.cap) c.ys
  blk : ∀ ad, c.a = some ad → ∃ cs, w.heap[ad.block]? = some (.cells cs (5) (0, 0))
theorem RecB.ext {w u : World} {c : Rc} (h : RecB w c) (hb : Below w.heap.size w u) : RecB u c :=
  ⟨h.ok.ext hb, fun ad ha => by obtain ⟨cs, h1⟩ := h.blk ad ha; exact ⟨cs, blk_below h1 hb (lt_of_blk h1)⟩⟩
theorem byt_kept {u u' : World} {a : Option Addr} {ys : List Int} (h : Byt u a ys) (hk : ∀ ad o, a = some ad → u.heap[ad.block]? = some o → u'.heap[ad.block]? = some o) : Byt u' a ys := ⟨fun i hi => by
  obtain ⟨b, o, h1, h2, h3⟩ := h.get i hi
  have h4 := hk _ _ h1 (Array.getElem?_eq_getElem h2)
  have h5 : u'.heap[b]? = u.heap[b]? := by rw [Array.getElem?_eq_getElem h2]; exact h4
  refine ⟨b, o, h1, lt_of_blk h4, fun j c hj => ?_⟩
  rw [← h3 j c hj]
  unfold World.cell?
  simp only [h5]⟩
theorem RecB.kept {u u' : World} {c : Rc} (h : RecB u c) (hk : ∀ (g : Nat) (cs : Array Value), u.heap[g]? = some (.cells cs (5) (0, 0)) → u'.heap[g]? = some (.cells cs (5) (0, 0))) : RecB u' c := by
  obtain ⟨a, n, cap, h1, h2, h3⟩ := h.ok.ok
  refine ⟨⟨⟨a, n, cap, h1, byt_kept h2 (fun ad o ha ho => ?_), h3⟩, h.ok.u8, h.ok.few⟩, fun ad ha => ?_⟩
  · obtain ⟨cs, h4⟩ := h.blk ad (by
      have := h1
      rw [ha] at this
      injection this)
    rw [h4] at ho
    cases ho
    exact hk _ _ h4
  · obtain ⟨cs, h4⟩ := h.blk ad ha
    exact ⟨cs, hk _ _ h4⟩
theorem row_push {u : World} {B m : Nat} {v : Value} {ss : List Rc} (c : Rc) (hm : c.ys.length = m) (hB : B ≤ u.heap.size) (ho : OwnR B u v ss) (hr : ∀ d ∈ ss, RecB u d) (hc : RecB u c) (hl : ss.length < 1000000) :
    ∃ v' w', (Builtin.append_ #[(22), (22)] (22) #[v, .slice (some ⟨u.heap.size, 0, none⟩) 1 1]).run Tryz.prog (u.alloc (.cells #[.slice c.a m c.cap] (24))) = .ok v' w' ∧ OwnR B w' v' (ss ++ [c]) ∧ Below B u w' ∧ ∀ d ∈ ss ++ [c], RecB w' d := by
  subst hm
  have hb1 : Below u.heap.size u (u.alloc (.cells #[.slice c.a c.ys.length c.cap] (24))) := (Below.refl _ _).alloc (Nat.le_refl _) _
  have ho2 : OwnR B (u.alloc (.cells #[.slice c.a c.ys.length c.cap] (24))) v ss := ownsRow_below ho hb1 (Nat.le_refl _)
  obtain ⟨v', w', hrun, h2, h3⟩ := run_append_one (enc := rcc) (22) (24) (.slice none 0 0) rcc_len rcc_one Tryz.underlying22 infoRc rfl (by decide) (u.alloc (.cells #[.slice c.a c.ys.length c.cap] (24))) B v ss u.heap.size c _ ho2 (blk_new_at rfl _) rfl (by decide) hl (Nat.le_trans hB hb1.size) (22)
  refine ⟨v', w', hrun, h2, Below.appended (hb1.mono hB) ho2 (Nat.le_refl _) (Nat.le_trans hB hb1.size) h3, fun d hd => ?_⟩
  have hd1 : RecB u d := by
    rcases List.mem_append.1 hd with h | h
    · exact hr d h
    · rw [List.mem_singleton.1 h]; exact hc
  refine (hd1.ext hb1).kept (fun g cs hg => ?_)
  refine (h3.block g (lt_of_blk hg) (fun e => ?_)).trans hg
  obtain ⟨_, h4 | ⟨g', cap, cur, hv, _, hh, _⟩⟩ := ho2
  · rw [h4.1] at e
    cases e
  · rw [hv] at e
    have e2 : some g' = some g := e.symm
    cases e2
    rw [hh] at hg
    cases hg
theorem recB_of {a : Option Addr} {n B : Nat} {w : World} {ys : List Int} (hn : n = ys.length) (hE : Byt w a ys) (hF : FreshB a B w) (hu : ∀ y ∈ ys, U8 y) (hl : ys.length < 500000) : RecB w ⟨a, n, ys⟩ := by
  subst hn
  refine ⟨⟨⟨a, _, _, rfl, hE, rfl, Nat.le_refl _, fun e => ?_⟩, hu, hl⟩, fun ad ha => (hF ad ha).2⟩
  rcases Nat.eq_zero_or_pos ys.length with h | h
  · exact h
  · obtain ⟨b, o, h1, -⟩ := hE.get 0 h
    rw [e] at h1
    cases h1
theorem recs_in {B N : Nat} {w : World} {v : Value} {rs : List Rc} (ho : OwnR B w v rs) (hN : rs.length = N) (h0 : 0 < N) (hr : ∀ c ∈ rs, RecB w c) : ∃ g go cl, v = .slice (some ⟨g, go, none⟩) N cl ∧ RecsIn w g go (rs.map Rc.ys) ∧ g < w.heap.size := by
  obtain ⟨a, cap, hv, -, hE⟩ := els_of_owns rcc_len ho
  obtain ⟨g, go, ha, hg, -⟩ := hE.get 0 (by omega)
  subst ha
  refine ⟨g, go, cap, by rw [hv, hN], fun k ys hk => ?_, hg⟩
  rw [List.getElem?_map] at hk
  cases hc : rs[k]? with
  | none => rw [hc] at hk; cases hk
  | some c =>
    rw [hc] at hk
    cases hk
    obtain ⟨hlt, hget⟩ := List.getElem?_eq_some_iff.1 hc
    obtain ⟨b, o, h1, h2, h3⟩ := hE.get k hlt
    cases h1
    rw [hget] at h3
    have h4 := h3 0 _ rfl
    simp only [Nat.mul_one, Nat.add_zero] at h4
    exact ⟨_, h4, (hr c (by rw [← hget]; exact List.getElem_mem hlt)).ok⟩
def lastO (xs : List Rv) : Nat → Option Rt
  | 0 => none
  | k + 1 => xs[k]?.map Rv.says
def ptrO (lb lo : Nat) : Nat → Option Addr
  | 0 => none
  | k + 1 => some ⟨lb, lo + k * 7, none⟩
theorem back_put {u : World} {xs : List Rv} {lb lo k : Nat} {x : Rv} (hR : RootsIn u xs lb lo) (hg : ∀ j y, j ≤ k → xs[j]? = some y → GoodR y ∧ NotGreat y) (hk : xs[k]? = some x) :
    ∃ ys, Calls Tryz.prog (17) #[rtV x, .pointer (ptrO lb lo k)] u (WholePost ys u) ∧ StepIs (lastO xs k) ys x.says ∧ ys.length < 500000 ∧ ∀ y ∈ ys, U8 y := by
  obtain ⟨hx, -, -⟩ := hR k x hk
  obtain ⟨gx, nx⟩ := hg k x (Nat.le_refl _) hk
  cases k with
  | zero => exact ⟨_, put_good x u hx gx nx.fewX, .inl (oneIs_whole hx gx nx.fewX), Nat.lt_trans (wholeL_few hx gx nx) (by decide), wholeL_u8 _⟩
  | succ k =>
    obtain ⟨q, hq⟩ : ∃ q, xs[k]? = some q := ⟨_, List.getElem?_eq_getElem (by have := (List.getElem?_eq_some_iff.1 hk).1; omega)⟩
    obtain ⟨iq, bq, lq⟩ := hR k q hq
    obtain ⟨gq, nq⟩ := hg k q (Nat.le_succ _) hq
    refine ⟨_, putEditAt_any x q lb (lo + k * 7) u ⟨hx, gx, nx.fewX, iq, gq, nq.fewX, bq, lq⟩, .inr ⟨q.says, ?_, edN_rv hx nx.fewX iq nq.fewX, (goodR_iff _).1 gx, rfl⟩, Nat.lt_trans (editL_few hx gx nx iq nq) (by decide), editL_u8 _ _⟩
    show xs[k]?.map Rv.says = _
    rw [hq]
    rfl
/-- Behind k of the rounds. -/
structure BackSt (W wr : World) (xs : List Rv) (k : Nat) (v : Value) (rcs : List Rc) : Prop where
  below : Below W.heap.size W wr
  len : rcs.length = k
  own : OwnR W.heap.size wr v rcs
  recs : ∀ c ∈ rcs, RecB wr c
  told : ToldFrom none (rcs.map Rc.ys) (lastO xs k)
  light : ∀ j x, Told ((rcs.map Rc.ys).take j) x → wtR x ≤ 400000
  good : ∀ j y, j < k → xs[j]? = some y → GoodR y ∧ NotGreat y
theorem BackSt.ext {W wr u : World} {xs : List Rv} {k : Nat} {v : Value} {rcs : List Rc} (h : BackSt W wr xs k v rcs) (hb : Below wr.heap.size wr u) : BackSt W u xs k v rcs :=
  ⟨h.below.trans (hb.mono h.below.size), h.len, ownsRow_below h.own hb (Nat.le_refl _), fun c hc => (h.recs c hc).ext hb, h.told, h.light, h.good⟩
theorem light_snoc {l : List (List Int)} {ys : List Int} {M : Option Rt} {x : Rt} (hl : ∀ j z, Told (l.take j) z → wtR z ≤ 400000) (ht : ToldFrom none l M) (hs : StepIs M ys x) (hw : wtR x ≤ 400000) : ∀ j z, Told ((l ++ [ys]).take j) z → wtR z ≤ 400000 := fun j z hz => by
  by_cases hj : j ≤ l.length
  · rw [List.take_append_of_le_length hj] at hz
    exact hl j z hz
  · rw [List.take_of_length_le (by rw [List.length_append, List.length_singleton]; omega)] at hz
    have := told_uniq none_good hz (told_snoc ht hs)
    cases this
    exact hw
theorem NotGreat.wtR {r : Rv} (h : NotGreat r) : wtR r.says ≤ 400000 := Nat.le_trans h.wt (by decide)
theorem BackSt.next {W wr u : World} {xs : List Rv} {k m : Nat} {v : Value} {rcs : List Rc} {ys : List Int} {x : Rv} {a : Option Addr} (h : BackSt W wr xs k v rcs) (hk : xs[k]? = some x) (hg : GoodR x) (hn : NotGreat x) (hu : Below wr.heap.size wr u) (hr : RecB u ⟨a, m, ys⟩) (hm : ys.length = m) (hs : StepIs (lastO xs k) ys x.says) (hl : k < 1000000) :
    ∃ v' w', (Builtin.append_ #[(22), (22)] (22) #[v, .slice (some ⟨u.heap.size, 0, none⟩) 1 1]).run Tryz.prog (u.alloc (.cells #[.slice a m m] (24))) = .ok v' w' ∧ BackSt W w' xs (k + 1) v' (rcs ++ [⟨a, m, ys⟩]) := by
  have h2 := h.ext hu
  obtain ⟨v', w', hrun, ho, hb, hrs⟩ := row_push ⟨a, m, ys⟩ hm h2.below.size h2.own h2.recs hr (by rw [h.len]; exact hl)
  refine ⟨v', w', hrun, h2.below.trans hb, by rw [List.length_append, h.len]; rfl, ho, hrs, ?_, ?_, fun j y hj hy => ?_⟩
  · rw [List.map_append]
    show ToldFrom none (rcs.map Rc.ys ++ [ys]) (xs[k]?.map Rv.says)
    rw [hk]
    exact told_snoc h.told hs
  · rw [List.map_append]
    exact light_snoc h.light h.told hs hn.wtR
  · rcases Nat.lt_or_ge j k with h1 | h1
    · exact h.good j y h1 hy
    · have : j = k := by omega
      subst this
      rw [hk] at hy
      cases hy
      exact ⟨hg, hn⟩
end Go.Proofs.YtchcelodeepjdaaGreatDoor.Ln
