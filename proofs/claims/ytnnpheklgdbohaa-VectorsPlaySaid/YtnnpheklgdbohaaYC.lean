/- ref16: Merge. Condition: fewer than 30000 lines and points. -/
import Derived.Test.YtnnpheklgdbohaaYE
namespace Go.Herb
theorem mixB_len (l : Bh) : ∀ b : Bh, (mixB b l).length ≤ b.length + l.length := by
  unfold mixB
  induction l with
  | nil => intro b; simp
  | cons p l ih =>
    intro b
    rw [List.foldl_cons]
    have h1 := ih (mxB b p.1 p.2)
    have h2 : (mxB b p.1 p.2).length ≤ b.length + 1 := putS_len
    simp only [List.length_cons]
    omega
theorem Good.take {b : Bh} (h : Good b) (k : Nat) : Good (b.take k) := ⟨h.srt.take k, fun p hp => h.pos p (List.mem_of_mem_take hp), fun p hp => h.wf p (List.mem_of_mem_take hp)⟩
end Go.Herb
namespace Go.Proofs.Ytnnpheklgdbohaa
open Go.RowKit Go.Shelf Go.Herb

theorem NAt.get {B q g n cap i : Nat} {u : World} {ys : List Vc} {L : Vs} {p : Int × Bh} (h : NAt B q g n cap u ys L) (hp : L[i]? = some p) : ∃ y, ys[i]? = some y ∧ y.line = p.1 ∧ y.ps = p.2 := by
  have h1 := hp
  rw [← h.cp.vs] at h1
  unfold vsOf at h1
  rw [List.getElem?_map] at h1
  obtain ⟨y, h2, h3⟩ := Option.map_eq_some_iff.1 h1
  exact ⟨y, h2, by rw [← h3], by rw [← h3]⟩
set_option maxRecDepth 100000 in
set_option maxHeartbeats 4000000 in
theorem refMerge_any (p : Nat) (la : Option Addr) (lc : Nat) (xs : List Vc) (L : Vs) (line ot s : Int) (w : World) (h : RefIs w p la lc xs L) (hG : GoodV L) (hS : Small L) (hT : ∀ p ∈ L, p.2.length < 30000) (hs : U64 s) :
    Calls Try.prog (24) #[.pointer (some ⟨p, 0, none⟩), .int .u64 line, .int .u64 ot, .int .u64 s] w (RefPost (mergeV L line ot s) w) := by
  have H := Lib.hid h
  have HG := Lib.hid hG
  have HS := Lib.hid hS
  have HT := Lib.hid hT
  have c0 := cell_of_blk h.blk 0
  simp at c0
  obtain ⟨n, hn⟩ : ∃ n, n = xs.length := ⟨_, rfl⟩
  rw [← hn] at c0
  have HN := Lib.hid hn
  have hLn : L.length = n := by rw [hn, ← h.vs, vsOf_len]
  have hnl : n < 100000 := by have := hS.len; omega
  clear h hG hS hn hT
  go_enter Try.func24, Try.ntmps24
  go_wp2_with fail
  refine (at_any p la lc xs L line w H.out).mono ?_
  rintro e w1 ⟨rfl, hcase⟩
  rcases hcase with ⟨i, x, rfl, hx, hxl, hg⟩ | ⟨rfl, hg⟩
  rotate_left
  · have HE := Lib.hid (show RefPost (mergeV L line ot s) w1 (.returned (.tuple #[.pointer none, .int .i64 7])) w1 from by
      have hr : mergeV L line ot s = (7, []) := by unfold mergeV; rw [hg]
      rw [hr]
      exact refErr (by decide) (Below.refl _ _))
    clear hg
    go_wp2_with fail
    refine (at_any p la lc xs L ot w1 H.out).mono ?_
    rintro e w2 ⟨rfl, hcase⟩
    rcases hcase with ⟨j, z, rfl, -, -, -⟩ | ⟨rfl, -⟩
    · have hj0 : ¬ (j : Int) < 0 := by omega
      go_wp2_with fail
      go_ret2
      exact HE.out
    · go_wp2_with fail
      go_ret2
      exact HE.out
  · have hi0 : (0 : Int) ≤ (i : Int) := by omega
    have hi2 : ¬ (i : Int) < 0 := by omega
    have HX := Lib.hid hx
    have HGL := Lib.hid hg
    have HXL := Lib.hid hxl
    clear hx hg hxl
    go_wp2_with fail
    refine (at_any p la lc xs L ot w1 H.out).mono ?_
    rintro e w2 ⟨rfl, hcase⟩
    rcases hcase with ⟨j, z, rfl, hz, hzl, hg⟩ | ⟨rfl, hg⟩
    rotate_left
    · have HE := Lib.hid (show RefPost (mergeV L line ot s) w2 (.returned (.tuple #[.pointer none, .int .i64 7])) w2 from by
        have hr : mergeV L line ot s = (7, []) := by unfold mergeV; rw [HGL.out, hg]
        rw [hr]
        exact refErr (by decide) (Below.refl _ _))
      clear hg
      go_wp2_with fail
      go_ret2
      exact HE.out
    · have hj0 : (0 : Int) ≤ (j : Int) := by omega
      have hj2 : ¬ (j : Int) < 0 := by omega
      obtain ⟨hil, hxe⟩ := List.getElem?_eq_some_iff.1 HX.out
      obtain ⟨hjl, hze⟩ := List.getElem?_eq_some_iff.1 hz
      obtain ⟨lb, lo, rfl, hlb, hc⟩ := H.out.inn.els.get i hil
      obtain ⟨lb2, lo2, he, _, hd⟩ := H.out.inn.els.get j hjl
      injection he with he
      cases he
      have HPX := Lib.hid (H.out.inn.inn _ (List.getElem_mem hil))
      have HPZ := Lib.hid (H.out.inn.inn _ (List.getElem_mem hjl))
      have x1 := hc 1 _ rfl
      have z1 := hd 1 _ rfl
      rw [hxe] at HPX x1
      rw [hze] at HPZ z1
      have HGX := Lib.hid (HG.out.get HGL.out)
      have HGZ := Lib.hid (HG.out.get hg)
      have hxs := HT.out _ (getL_mem HGL.out)
      have hzs := HT.out _ (getL_mem hg)
      have HGM := Lib.hid hg
      have HLX := Lib.hid (show L[i]? = some (line, x.ps) by rw [← H.out.vs]; unfold vsOf; rw [List.getElem?_map, HX.out]; rw [← HXL.out]; rfl)
      have hin : i < n := by have := HN.out; omega
      have hjn : j < n := by have := HN.out; omega
      clear hc hd hxe hze hil hjl hz hzl hg
      obtain ⟨xl, xa, xc, xp⟩ := x
      obtain ⟨zl, za, zc, zp⟩ := z
      simp only at HPX HPZ x1 z1 HGX HGZ hxs hzs HGL HGM HLX HXL
      obtain ⟨pn, hpn⟩ : ∃ pn, pn = xp.length := ⟨_, rfl⟩
      obtain ⟨qn, hqn⟩ : ∃ qn, qn = zp.length := ⟨_, rfl⟩
      rw [← hpn] at x1 hxs
      rw [← hqn] at z1 hzs
      have HPN := Lib.hid hpn
      have HQN := Lib.hid hqn
      clear hpn hqn
      have hi1 : (i : Int) < (n : Int) := by omega
      have hj1 : (j : Int) < (n : Int) := by omega
      have hmx : pn ≤ maxLen := by unfold maxLen; omega
      have hmz : qn ≤ maxLen := by unfold maxLen; omega
      have HR1 := Lib.hid (show ¬ (line ≠ ot ∧ aboveB xp s = true ∧ aboveB zp s = true) → RefPost (mergeV L line ot s) w2 (.returned (.tuple #[.pointer none, .int .i64 1])) w2 from fun e => by
        have hr : mergeV L line ot s = (1, []) := by unfold mergeV; rw [HGL.out, HGM.out]; simp only [if_neg e]
        rw [hr]
        exact refErr (by decide) (Below.refl _ _))
      have HR2 := Lib.hid (show line ≠ ot ∧ aboveB xp s = true ∧ aboveB zp s = true → mergeV L line ot s = (0, putS L line (putS (mixB xp zp) line s)) from fun e => by
        unfold mergeV; rw [HGL.out, HGM.out]; simp only [if_pos e]
        rw [laid_merge HGX.out.1 HGZ.out.1 e.2.1 e.2.2])
      by_cases hlo : line = ot
      · have HE := Lib.hid (HR1.out (fun e => e.1 hlo))
        clear HR1 HR2
        go_wp2_with fail
        go_ret2
        exact HE.out
      · go_wp2_with fail
        refine (refAbove_any xa xc pn xp s w2 HPX.out HPN.out.symm hmx).mono ?_
        rintro e w3 ⟨rfl, rfl⟩
        cases hab : aboveB xp s with
        | false =>
          have HE := Lib.hid (HR1.out (fun e => by rw [hab] at e; cases e.2.1))
          clear hab HR1 HR2
          go_wp2_with fail
          go_ret2
          exact HE.out
        | true =>
          go_wp2_with fail
          refine (refAbove_any za zc qn zp s w3 HPZ.out HQN.out.symm hmz).mono ?_
          rintro e w4 ⟨rfl, rfl⟩
          cases hab2 : aboveB zp s with
          | false =>
            have HE := Lib.hid (HR1.out (fun e => by rw [hab2] at e; cases e.2.2))
            clear hab hab2 HR1 HR2
            go_wp2_with fail
            go_ret2
            exact HE.out
          | true =>
            have HR3 := Lib.hid (HR2.out ⟨hlo, hab, hab2⟩)
            have HAX := Lib.hid (And.intro hab hab2)
            clear HR1 HR2 hab hab2
            go_wp2_with fail
            refine (refCopied_any (some ⟨lb, lo, none⟩) lc n xs w4 H.out.inn HN.out.symm (by rw [H.out.vs]; exact HS.out)).mono ?_
            rintro e w5 ⟨v, ys0, rfl, hC, hb3⟩
            rw [H.out.vs] at hC
            obtain ⟨g, cap, rfl, hgB, hgr⟩ : ∃ g cap, v = .slice (some ⟨g, 0, none⟩) n cap ∧ w4.heap.size ≤ g ∧ Row vc 2 (32) w5 g cap ys0 := by
              have hl := hC.len
              rcases row_of_owns hC.own with ⟨_, h0⟩ | ⟨g, cap, hv, hg, hr⟩
              · rw [h0] at hl; simp at hl; omega
              · exact ⟨g, cap, by rw [hv, hl, hLn], hg, hr⟩
            have hgl : g < w5.heap.size := by obtain ⟨cur, hcur, _⟩ := hgr.blk; exact lt_of_blk hcur
            obtain ⟨W, hW⟩ : ∃ W : World, W = w5.alloc (.cells #[.slice (some ⟨g, 0, none⟩) n cap] (57)) := ⟨_, rfl⟩
            have hWb : Below w5.heap.size w5 W := by rw [hW]; exact (Below.refl _ _).alloc (Nat.le_refl _) _
            have hN0 : NAt w4.heap.size w5.heap.size g n cap W ys0 L := ⟨hC.below hWb, by rw [hW]; exact blk_new_at rfl _, hgl, hgB⟩
            have hset : ∀ v, L.set i (line, v) = putS L line v := fun v => set_putS HG.out.srt HLX.out v
            have hself : putS L line xp = L := by
              obtain ⟨hi, he⟩ := List.getElem?_eq_some_iff.1 HLX.out
              rw [← hset, ← he, List.set_getElem_self]
            have HSET := Lib.hid hset
            have HN0 := Lib.hid (show NAt w4.heap.size w5.heap.size g n cap W ys0 (putS L line (mixB xp (zp.take 0))) from by rw [List.take_zero]; show NAt _ _ _ _ _ _ _ (putS L line xp); rw [hself]; exact hN0)
            have HBW := Lib.hid (show Below w4.heap.size w4 W from hb3.trans (hWb.mono hb3.size))
            obtain ⟨q, hq⟩ : ∃ q, q = w5.heap.size := ⟨_, rfl⟩
            rw [← hq] at HN0
            have HF : Hid (∀ u, Below w4.heap.size w4 u → u.cell? ⟨p, 0, none⟩ = some (.slice (some ⟨lb, lo, none⟩) n lc) ∧ u.cell? ⟨lb, lo + j * 2 + 1, none⟩ = some (.slice za qn zc) ∧ Pts u za zp) := Lib.hid (fun u hu =>
              ⟨(hu.cell (p := ⟨p, _, none⟩) (lt_of_blk H.out.blk)).trans c0, (hu.cell (p := ⟨lb, _, none⟩) hlb).trans z1, HPZ.out.ext hu⟩)
            have HLN := Lib.hid (show i < L.length from (List.getElem?_eq_some_iff.1 HLX.out).1)
            clear hC hb3 hgB hgr hWb hN0 hset hself hgl c0 z1 x1
            go_wp2_with fail
            rw [← hW]
            try rw [← hq]
            clear hW hq
            go_loopg [13] qn (fun gk iv wr => ∃ (m : Nat) (ys : List Vc), m + gk = qn ∧ iv = .int .i64 m ∧ Hid (NAt w4.heap.size q g n cap wr ys (putS L line (mixB xp (zp.take m)))) ∧ Hid (Below w4.heap.size w4 wr))
            case atStart => exact ⟨0, ys0, by omega, rfl, HN0, HBW⟩
            case round =>
              obtain ⟨m, ys, hm, rfl, HA, HB⟩ := hrel
              obtain ⟨cp, cz, hPz⟩ := HF.out wr HB.out
              obtain ⟨y, hy, hyl, hyp⟩ := HA.out.get (i := i) (p := (line, mixB xp (zp.take m))) (by rw [← HSET.out, List.getElem?_set_self HLN.out])
              simp only at hyl hyp
              have hmlen := mixB_len (zp.take m) xp
              simp only [List.length_take] at hmlen
              by_cases hlt : m < qn
              · have hmz : m < zp.length := by have := HQN.out; omega
                obtain ⟨b3, o3, rfl, hlb3, hcell⟩ := hPz.get m hmz
                have p0 : wr.cell? ⟨b3, o3 + m * 2, none⟩ = some (.int .u64 (zp[m]'hmz).1) := hcell 0 _ rfl
                have p1 : wr.cell? ⟨b3, o3 + m * 2 + 1, none⟩ = some (.int .u64 (zp[m]'hmz).2) := hcell 1 _ rfl
                have HTK := Lib.hid (show zp.take (m + 1) = zp.take m ++ [zp[m]'hmz] from List.take_succ_eq_append_getElem hmz)
                have HZM := Lib.hid (List.getElem_mem hmz)
                obtain ⟨r, hr⟩ : ∃ r, r = zp[m]'hmz := ⟨_, rfl⟩
                rw [← hr] at p0 p1 HTK HZM
                clear hr hcell hPz
                obtain ⟨kl, ks⟩ := r
                simp only at p0 p1
                have hks : 0 < ks := HGZ.out.1.pos _ HZM.out
                have hkw := HGZ.out.1.wf _ HZM.out
                have hgb : Herb.Good (mixB xp (zp.take m)) := mixB_good (HGZ.out.1.take m).ok HGX.out.1
                obtain ⟨B', hB'⟩ : ∃ B', B' = mixB xp (zp.take m) := ⟨_, rfl⟩
                have HMX := Lib.hid (show mixB xp (zp.take (m + 1)) = mxB B' kl ks by rw [HTK.out, mixB_snoc, ← hB'])
                rw [← hB'] at hyp hgb hmlen
                have HAB := Lib.hid (show NAt w4.heap.size q g n cap wr ys (putS L line B') by rw [hB']; exact HA.out)
                obtain ⟨bn, hbn⟩ : ∃ bn, bn = B'.length := ⟨_, rfl⟩
                have hbl : bn < 100000 := by have := HPN.out; have := HQN.out; omega
                obtain ⟨X, hX⟩ : ∃ X : World, X = wr.alloc (.cells #[.int .u64 kl, .int .u64 ks] (34)) := ⟨_, rfl⟩
                have hXb : Below wr.heap.size wr X := by rw [hX]; exact (Below.refl _ _).alloc (Nat.le_refl _) _
                have hXx : X.heap[wr.heap.size]? = some (.cells #[.int .u64 kl, .int .u64 ks] (34) (0, 0)) := by rw [hX]; exact blk_new_at rfl _
                have HAX := Lib.hid (HAB.out.below hXb)
                have HBX := Lib.hid (HB.out.trans (hXb.mono HB.out.size))
                have HCells : Hid (∀ u, Below X.heap.size X u → u.cell? ⟨q, 0, none⟩ = some (.slice (some ⟨g, 0, none⟩) n cap) ∧ u.cell? ⟨g, i * 2 + 1, none⟩ = some (.slice y.a bn y.c) ∧ u.frozen? ⟨g, i * 2 + 1, none⟩ = false ∧ Pts u y.a B' ∧ u.cell? ⟨wr.heap.size, 0, none⟩ = some (.int .u64 kl) ∧ u.cell? ⟨wr.heap.size, 1, none⟩ = some (.int .u64 ks)) := Lib.hid (fun u hu => by
                  obtain ⟨e0, e1, e2, e3⟩ := (HAX.out.below hu).cells hy
                  rw [hyp] at e1 e3
                  rw [← hbn] at e1
                  have hux := blk_below hXx hu (lt_of_blk hXx)
                  have f0 := cell_of_blk hux 0
                  have f1 := cell_of_blk hux 1
                  simp at f0 f1
                  exact ⟨e0, e1, e2, e3, f0, f1⟩)
                have HC := Lib.hid (fun t => refOf_any y.a y.c bn B' kl (X.drewN t) (HCells.out _ (below_drewN (Below.refl _ _) t)).2.2.2.1 hbn.symm (by unfold maxLen; omega))
                obtain ⟨G, hG⟩ : ∃ G, G = g0 B' kl := ⟨_, rfl⟩
                rw [← hG] at HC
                obtain ⟨k0, k1, -, -, k4, k5⟩ := HCells.out X (Below.refl _ _)
                have hm0 : (0 : Int) ≤ (m : Int) := by omega
                have hm1 : (m : Int) < (qn : Int) := by omega
                have HBN := Lib.hid hbn
                have HGB := Lib.hid hgb
                have HG0 := Lib.hid hG
                have HY := Lib.hid hy
                have HYL := Lib.hid hyl
                clear hXb hXx hB' hbn hgb hmlen hy hyl hyp hG hmz
                go_wp2_with fail
                rw [← hX]
                clear hX cp cz p0 p1
                go_quiet ((go_at_call 45; exact Calls.quiet_of_same (HC.out _)))
                obtain ⟨Y, hY⟩ : ∃ Y, Y = X.drewN nq := ⟨_, rfl⟩
                have HYX := Lib.hid (show Below X.heap.size X Y by rw [hY]; exact below_drewN (Below.refl _ _) nq)
                rw [← hY]
                clear hY k0 k1 k4 k5 HC
                by_cases hgk : G < ks
                · obtain ⟨k0, k1, -, hPd, k4, k5⟩ := HCells.out Y.drew (HYX.out.drew)
                  obtain ⟨K, hK⟩ : ∃ K, K = (putS B' kl ks).length := ⟨_, rfl⟩
                  have hw := with_any y.a y.c bn B' kl ks Y.drew hPd HBN.out.symm hbl HGB.out.srt
                  rw [← hK] at hw
                  have HW := Lib.hid hw
                  have HFN : Hid (∀ (u : World) (va : Option Addr) (vcap : Nat), OwnP Y.drew.heap.size u (.slice va K vcap) (putS B' kl ks) → Below Y.drew.heap.size Y.drew u → u.cell? ⟨q, 0, none⟩ = some (.slice (some ⟨g, 0, none⟩) n cap) ∧ (∃ z, u.cell? ⟨g, i * 2 + 1, none⟩ = some z) ∧ u.frozen? ⟨g, i * 2 + 1, none⟩ = false ∧ Hid (∃ ys', NAt w4.heap.size q g n cap (u.setCell ⟨g, i * 2 + 1, none⟩ (.slice va K vcap)) ys' (putS L line (mixB xp (zp.take (m + 1))))) ∧ Hid (Below w4.heap.size w4 (u.setCell ⟨g, i * 2 + 1, none⟩ (.slice va K vcap)))) := Lib.hid (fun u va vcap ho hb => by
                    have hND : NAt w4.heap.size q g n cap Y.drew ys (putS L line B') := HAX.out.below (HYX.out.drew)
                    have hbY : Below w4.heap.size w4 Y := HBX.out.trans (HYX.out.mono HBX.out.size)
                    obtain ⟨e0, e1, e2, _⟩ := (hND.below hb).cells HY.out
                    obtain ⟨f1, f2⟩ := hND.put HY.out hb ho hK hbY.size
                    rw [HYL.out] at f1
                    rw [← HSET.out B', List.set_set, HSET.out] at f1
                    have f5 : NAt w4.heap.size q g n cap (u.setCell ⟨g, i * 2 + 1, none⟩ (.slice va K vcap)) (ys.set i ⟨line, va, vcap, putS B' kl ks⟩) (putS L line (mixB xp (zp.take (m + 1)))) := by
                      rw [HMX.out, mxB_take (by rw [← HG0.out]; exact hgk)]
                      exact f1
                    exact ⟨e0, ⟨_, e1⟩, e2, Lib.hid ⟨_, f5⟩, Lib.hid (f2 w4 (Nat.le_refl _) hbY.drew)⟩)
                  clear hw hK hPd
                  go_wp2_with fail
                  go_region_law (first | (go_simp; go_at_call 44; refine (HW.out).mono ?_; rintro e u ⟨va, vcap, rfl, ho, hb⟩; obtain ⟨d0, ⟨z, d1⟩, d2, d3, d4⟩ := HFN.out u va vcap ho hb; clear ho hb))
                  all_goals
                    clear k0 k1 k4 k5 d0 d1 d2
                    go_wp2
                    obtain ⟨ys', HNN⟩ := d3.out
                    go_roundg (gk - 1)
                    case measure => omega
                    case rel => exact ⟨m + 1, ys', by omega, by go_num, Lib.hid HNN, d4⟩
                · have HA2 := Lib.hid (show NAt w4.heap.size q g n cap Y ys (putS L line (mixB xp (zp.take (m + 1)))) by
                    rw [HMX.out, mxB_keep HGB.out hks hkw.1 hkw.2 (by rw [← HG0.out]; exact hgk)]
                    exact HAX.out.below HYX.out)
                  have HB2 := Lib.hid (HBX.out.trans (HYX.out.mono HBX.out.size))
                  clear hks hkw
                  go_wp2_with fail
                  go_roundg (gk - 1)
                  case measure => omega
                  case rel => exact ⟨m + 1, ys, by omega, by go_num, HA2, HB2⟩
              · have hme : m = qn := by omega
                obtain ⟨B', hB'⟩ : ∃ B', B' = mixB xp zp := ⟨_, rfl⟩
                have htk : zp.take m = zp := List.take_of_length_le (by have := HQN.out; omega)
                rw [htk, ← hB'] at hyp hmlen
                have HAB := Lib.hid (show NAt w4.heap.size q g n cap wr ys (putS L line B') by rw [hB']; have := HA.out; rwa [htk] at this)
                have hgb : Herb.Good B' := by rw [hB']; exact mixB_good HGZ.out.1.ok HGX.out.1
                obtain ⟨bn, hbn⟩ : ∃ bn, bn = B'.length := ⟨_, rfl⟩
                have hbl : bn < 100000 := by have := HPN.out; have := HQN.out; omega
                obtain ⟨k0, k1, k2, hPd⟩ := (HAB.out.below (Below.refl wr.heap.size wr).drew).cells hy
                rw [hyp] at k1 hPd
                rw [← hbn] at k1
                obtain ⟨K, hK⟩ : ∃ K, K = (putS B' line s).length := ⟨_, rfl⟩
                have hw := with_any y.a y.c bn B' line s wr.drew hPd hbn.symm hbl hgb.srt
                rw [← hK] at hw
                have HW := Lib.hid hw
                have HFN : Hid (∀ (u : World) (va : Option Addr) (vcap : Nat), OwnP wr.drew.heap.size u (.slice va K vcap) (putS B' line s) → Below wr.drew.heap.size wr.drew u → u.cell? ⟨q, 0, none⟩ = some (.slice (some ⟨g, 0, none⟩) n cap) ∧ (∃ z, u.cell? ⟨g, i * 2 + 1, none⟩ = some z) ∧ u.frozen? ⟨g, i * 2 + 1, none⟩ = false ∧ RefPost (mergeV L line ot s) w4 (.returned (.tuple #[.pointer (some ⟨q, 0, none⟩), .int .i64 0])) (u.setCell ⟨g, i * 2 + 1, none⟩ (.slice va K vcap))) := Lib.hid (fun u va vcap ho hb => by
                  have hND : NAt w4.heap.size q g n cap wr.drew ys (putS L line B') := HAB.out.below (Below.refl wr.heap.size wr).drew
                  obtain ⟨e0, e1, e2, _⟩ := (hND.below hb).cells hy
                  obtain ⟨f1, f2⟩ := hND.put hy hb ho hK HB.out.size
                  rw [hyl] at f1
                  rw [← HSET.out B', List.set_set, HSET.out] at f1
                  refine ⟨e0, ⟨_, e1⟩, e2, ?_⟩
                  have hgood : GoodV (putS L line (putS (mixB xp zp) line s)) := by
                    have := mergeV_good HG.out (line := line) (other := ot) hs (by rw [HR3.out])
                    rw [HR3.out] at this
                    exact this
                  rw [hB'] at f1
                  have := refOk (r := mergeV L line ot s) (w := w4) (by rw [HR3.out]) (by rw [HR3.out]; exact f1.ref hgood) (f2 w4 (Nat.le_refl _) HB.out.drew)
                  rw [HR3.out] at this ⊢
                  exact this)
                clear hw hK hPd hbn hgb hme hy hyl hyp hmlen htk hB' hPz
                go_wp2_with fail
                go_region_law (first | (go_simp; go_at_call 44; refine (HW.out).mono ?_; rintro e u ⟨va, vcap, rfl, ho, hb⟩; obtain ⟨d0, ⟨z, d1⟩, d2, d3⟩ := HFN.out u va vcap ho hb; clear ho hb))
                all_goals
                  go_wp2_with fail
                  go_ret2
                  exact d3
end Go.Proofs.Ytnnpheklgdbohaa
