/- herbariumlaw20.ManifestsForm. No condition. -/
import Derived.Test.YtchcelodeepjdaaGreatDoorZUb
import Derived.Deep.DeepCutAuto
namespace Go.Proofs.YtchcelodeepjdaaGreatDoor.Ln
open Go.RowKit Go.Shelf Go.Herb

theorem u64_lt {x : Int} (h : U64 x) : 0 ≤ x ∧ x < 18446744073709551616 := by
  unfold U64 at h
  simp [Lit.wf, IntKind.min, IntKind.max, IntKind.signed, IntKind.bits] at h
  omega
set_option maxRecDepth 100000 in
set_option maxHeartbeats 4000000 in
theorem manifestsForm_any (r : Rv) (t : Tb) (w : World) (h : RtIn w r) (ht : TbW t) :
    Calls Tryz.prog (7) #[rtV r, .agg #[.int .u64 t.file, .int .u32 t.bytes, .string t.low, .string t.high]] w (LivesPost w) := by
  obtain ⟨nb, hnb⟩ : ∃ n, n = r.bs.length := ⟨_, rfl⟩
  obtain ⟨nl, hnl⟩ : ∃ n, n = r.ls.length := ⟨_, rfl⟩
  obtain ⟨nv, hnv⟩ : ∃ n, n = r.vs.length := ⟨_, rfl⟩
  obtain ⟨ns, hns⟩ : ∃ n, n = r.sh.length := ⟨_, rfl⟩
  have hrt : rtV r = .agg #[.int .u64 r.seq, .int .u64 r.log, .int .u64 r.next, .slice r.ba nb r.bc, .slice r.la nl r.lc, .slice r.va nv r.vc, .slice r.sa ns r.sc] := by rw [hnb, hnl, hnv, hns]
  obtain ⟨W1, hW1⟩ : ∃ W : World, W = w.alloc (.cells #[.int .u64 r.seq, .int .u64 r.log, .int .u64 r.next, .slice r.ba nb r.bc, .slice r.la nl r.lc, .slice r.va nv r.vc, .slice r.sa ns r.sc] (32)) := ⟨_, rfl⟩
  obtain ⟨W, hW⟩ : ∃ W : World, W = W1.alloc (.cells #[.int .u64 t.file, .int .u32 t.bytes, .string t.low, .string t.high] (51)) := ⟨_, rfl⟩
  have hB1 : Below w.heap.size w W1 := by rw [hW1]; exact (Below.refl _ _).alloc (Nat.le_refl _) _
  have hB2 : Below W1.heap.size W1 W := by rw [hW]; exact (Below.refl _ _).alloc (Nat.le_refl _) _
  have hB : Below w.heap.size w W := hB1.trans (hB2.mono hB1.size)
  have hz1 : W1.heap.size = w.heap.size + 1 := by rw [hW1]; simp
  have hx0 : W1.heap[w.heap.size]? = some (.cells #[.int .u64 r.seq, .int .u64 r.log, .int .u64 r.next, .slice r.ba nb r.bc, .slice r.la nl r.lc, .slice r.va nv r.vc, .slice r.sa ns r.sc] (32) (0, 0)) := by rw [hW1]; exact blk_new_at rfl _
  have hx1 := blk_below hx0 hB2 (lt_of_blk hx0)
  have hy1 : W.heap[w.heap.size + 1]? = some (.cells #[.int .u64 t.file, .int .u32 t.bytes, .string t.low, .string t.high] (51) (0, 0)) := by rw [hW]; exact blk_new_at hz1.symm _
  have HX := Lib.hid hx1
  have HY := Lib.hid hy1
  have HB := Lib.hid hB
  have HR0 := Lib.hid h
  have HR := Lib.hid (h.ext hB)
  have HT := Lib.hid ht
  have HN := Lib.hid (show nb = r.bs.length ∧ nl = r.ls.length ∧ nv = r.vs.length ∧ ns = r.sh.length from ⟨hnb, hnl, hnv, hns⟩)
  have HG := Lib.hid (greatR_any r W (h.ext hB))
  have HL := Lib.hid lives_any
  have HCK := Lib.hid (show NotGreat r → ∀ u, Below W.heap.size W u → Calls Tryz.prog (16) #[rtV r] u (CheckPost r u) from fun hn u hu => check_any r u ((h.ext hB).ext hu) hn.few.small)
  have HC : Hid (∀ u, Below W.heap.size W u → u.cell? ⟨w.heap.size, 0, none⟩ = some (.int .u64 r.seq) ∧ u.cell? ⟨w.heap.size, 1, none⟩ = some (.int .u64 r.log) ∧ u.cell? ⟨w.heap.size, 2, none⟩ = some (.int .u64 r.next) ∧ u.cell? ⟨w.heap.size, 3, none⟩ = some (.slice r.ba nb r.bc) ∧ u.cell? ⟨w.heap.size, 4, none⟩ = some (.slice r.la nl r.lc) ∧ u.cell? ⟨w.heap.size, 5, none⟩ = some (.slice r.va nv r.vc) ∧ u.cell? ⟨w.heap.size, 6, none⟩ = some (.slice r.sa ns r.sc)) := Lib.hid (fun u hu => by
    have hq := blk_below hx1 hu (lt_of_blk hx1)
    have q0 := cell_of_blk hq 0
    have q1 := cell_of_blk hq 1
    have q2 := cell_of_blk hq 2
    have q3 := cell_of_blk hq 3
    have q4 := cell_of_blk hq 4
    have q5 := cell_of_blk hq 5
    have q6 := cell_of_blk hq 6
    simp at q0 q1 q2 q3 q4 q5 q6
    exact ⟨q0, q1, q2, q3, q4, q5, q6⟩)
  have HRT := Lib.hid hrt
  rw [hrt] at HG HCK
  have HW := Lib.hid hW
  have HW1 := Lib.hid hW1
  rw [hrt]
  obtain ⟨c0, c1, c2, c3, c4, c5, c6⟩ := HC.out W (Below.refl _ _)
  rw [hW, hW1] at HG
  clear h ht hrt hB hB1 hB2 hz1 hx0 hx1 hy1 hW hW1 hnb hnl hnv hns
  go_enter Tryz.func7, Tryz.ntmps7
  go_wp2_with fail
  refine HG.out.mono ?_
  rw [← HW1.out, ← HW.out]
  rintro e w1 ⟨q, rfl, hq, hb1⟩
  have HB1 := Lib.hid hb1
  have HNG := Lib.hid hq
  clear c0 c1 c2 c3 c4 c5 c6 hb1 hq HG
  obtain ⟨c0, c1, c2, c3, c4, c5, c6⟩ := HC.out w1 HB1.out
  cases q with
  | true =>
    clear HCK HNG
    go_wp2_with (go_at_call 9; refine (HL.out _).mono ?_; rintro e w2 ⟨rfl, hb2⟩; have HB2 := Lib.hid (HB1.out.trans (hb2.mono HB1.out.size)); clear hb2)
    go_ret
    exact ⟨rfl, HB.out.trans (HB2.out.mono HB.out.size)⟩
  | false =>
    have HNG2 := Lib.hid (HNG.out rfl)
    clear HNG
    go_wp2_with fail
    refine (HCK.out HNG2.out w1 HB1.out).mono ?_
    rintro e w2 ⟨n, rfl, hn, hb2⟩
    have HB2 := Lib.hid (HB1.out.trans (hb2.mono HB1.out.size))
    clear c0 c1 c2 c3 c4 c5 c6 hb2 HCK
    obtain ⟨c0, c1, c2, c3, c4, c5, c6⟩ := HC.out w2 HB2.out
    rcases hn with ⟨rfl, hg⟩ | ⟨rfl, hg⟩
    case inr =>
      clear hg
      go_wp2_with (go_at_call 9; refine (HL.out _).mono ?_; rintro e w3 ⟨rfl, hb3⟩; have HB3 := Lib.hid (HB2.out.trans (hb3.mono HB2.out.size)); clear hb3)
      go_ret
      exact ⟨rfl, HB.out.trans (HB3.out.mono HB.out.size)⟩
    have HGR := Lib.hid hg
    have hv1 : 1 ≤ nv := by
      have h1 := hg.2.pair.length_eq
      have h2 := hg.1.b1
      have e1 : r.says.bs = r.bs := rfl
      have e2 : r.says.vs.length = r.vs.length := Vx.vsOf_len r.vs
      have h3 := HN.out.2.2.1
      simp only [List.length_map] at h1
      rw [e1] at h1
      omega
    have hl1 : 1 ≤ nl := by have h1 := hg.1.l1; have h3 := HN.out.2.1; omega
    have hvn : nv ≤ 30 := by have h1 := HNG2.out.vs; have h3 := HN.out.2.2.1; omega
    have hln : nl ≤ 80 := by have h1 := HNG2.out.ls; have h3 := HN.out.2.1; omega
    have hsn : ns ≤ 30 := by have h1 := HNG2.out.sh; have h3 := HN.out.2.2.2; omega
    clear hg
    obtain ⟨vb, vo, hva, -, -⟩ := HR.out.vcs.els.get 0 (by have h3 := HN.out.2.2.1; omega)
    obtain ⟨kl, hkl⟩ : ∃ k, k = nl - 1 := ⟨_, rfl⟩
    have hkll : kl < r.ls.length := by have h3 := HN.out.2.1; omega
    obtain ⟨lb, lo, hla, hlb, hlc⟩ := HR.out.lns.els.get kl hkll
    have hwv : IntKind.i64.wrap ((nv : Int) - 1) = ((nv - 1 : Nat) : Int) := by rw [IntWalk.i64_in _ (by omega)]; omega
    have hwl : IntKind.i64.wrap ((nl : Int) - 1) = (kl : Int) := by rw [IntWalk.i64_in _ (by omega)]; omega
    have hlt1 : w.heap.size + 1 < w2.heap.size := Nat.lt_of_lt_of_le (lt_of_blk HY.out) HB2.out.size
    have hlt0 : w.heap.size < w2.heap.size := by omega
    have hla' := hla
    have HVA := Lib.hid hva
    have HLA := Lib.hid hla
    rw [hva] at c5
    rw [hla] at c4
    clear hva hla hla'
    have HKL := Lib.hid hkl
    clear hkl
    have i0 : (0 : Int) ≤ ((nv - 1 : Nat) : Int) := by omega
    have hvc : nv ≤ r.vc ∧ r.vc ≤ maxLen := by have h3 := HN.out.2.2.1; rw [h3]; exact HR.out.vl
    have i1 : ((nv - 1 : Nat) : Int) ≤ (r.vc : Int) := by omega
    have i2 : nv - 1 ≤ r.vc := by omega
    clear hvc
    go_upto_region 8 with fail
    obtain ⟨u1, hu1⟩ : ∃ u : World, u = w2.alloc (.cells #[.int .u64 r.seq, .int .u64 r.log, .int .u64 r.next, .slice r.ba nb r.bc, .slice (some ⟨lb, lo, none⟩) nl r.lc, .slice (some ⟨vb, vo, none⟩) (nv - 1) r.vc, .slice r.sa ns r.sc] (32)) := ⟨_, rfl⟩
    rw [← hu1]
    obtain ⟨u2, hu2⟩ : ∃ u : World, u = u1.alloc (.cells #[.int .u64 r.seq, .int .u64 r.next, .int .u64 r.next, .slice r.ba nb r.bc, .slice (some ⟨lb, lo, none⟩) nl r.lc, .slice (some ⟨vb, vo, none⟩) nv r.vc, .slice r.sa ns r.sc] (32)) := ⟨_, rfl⟩
    rw [← hu2]
    obtain ⟨w3, hw3⟩ : ∃ u : World, u = u2.alloc (.cells #[.int .u64 r.seq, .int .u64 r.log, .int .u64 r.next, .slice r.ba nb r.bc, .slice (some ⟨lb, lo, none⟩) nl r.lc, .slice (some ⟨vb, vo, none⟩) nv r.vc, .slice r.sa ns r.sc] (32)) := ⟨_, rfl⟩
    rw [← hw3]
    have hz1 : u1.heap.size = w2.heap.size + 1 := by rw [hu1]; simp
    have hz2 : u2.heap.size = w2.heap.size + 2 := by rw [hu2]; simp [hz1]
    have hz3 : w3.heap.size = w2.heap.size + 3 := by rw [hw3]; simp [hz2]
    have ka : u1.heap[w2.heap.size]? = some (.cells #[.int .u64 r.seq, .int .u64 r.log, .int .u64 r.next, .slice r.ba nb r.bc, .slice (some ⟨lb, lo, none⟩) nl r.lc, .slice (some ⟨vb, vo, none⟩) (nv - 1) r.vc, .slice r.sa ns r.sc] (32) (0, 0)) := by rw [hu1]; exact blk_new_at rfl _
    have kb : u2.heap[w2.heap.size + 1]? = some (.cells #[.int .u64 r.seq, .int .u64 r.next, .int .u64 r.next, .slice r.ba nb r.bc, .slice (some ⟨lb, lo, none⟩) nl r.lc, .slice (some ⟨vb, vo, none⟩) nv r.vc, .slice r.sa ns r.sc] (32) (0, 0)) := by rw [hu2]; exact blk_new_at hz1.symm _
    have kc : w3.heap[w2.heap.size + 1 + 1]? = some (.cells #[.int .u64 r.seq, .int .u64 r.log, .int .u64 r.next, .slice r.ba nb r.bc, .slice (some ⟨lb, lo, none⟩) nl r.lc, .slice (some ⟨vb, vo, none⟩) nv r.vc, .slice r.sa ns r.sc] (32) (0, 0)) := by rw [hw3]; exact blk_new_at hz2.symm _
    have hbu2 : Below u2.heap.size u2 w3 := by rw [hw3]; exact (Below.refl _ _).alloc (Nat.le_refl _) _
    have hbu1 : Below u1.heap.size u1 u2 := by rw [hu2]; exact (Below.refl _ _).alloc (Nat.le_refl _) _
    have ka := Lib.hid (blk_below (blk_below ka hbu1 (lt_of_blk ka)) hbu2 (by omega))
    have kb := Lib.hid (blk_below kb hbu2 (lt_of_blk kb))
    have kc := Lib.hid kc
    have hb3 : Below w2.heap.size w2 w3 := by
      rw [hw3, hu2, hu1]
      exact (((Below.refl _ _).alloc (Nat.le_refl _) _).alloc (by simp) _).alloc (by simp; omega) _
    have HB3 := Lib.hid (HB2.out.trans (hb3.mono HB2.out.size))
    have HY3 := Lib.hid (blk_below HY.out HB3.out (lt_of_blk HY.out))
    clear c0 c1 c2 c3 c4 c5 c6 hb3 hbu1 hbu2 hu1 hu2 hw3
    obtain ⟨c0, c1, c2, c3, c4, c5, c6⟩ := HC.out w3 HB3.out
    rw [HVA.out] at c5
    rw [HLA.out] at c4
    have hy3 := HY3.out
    have y0 := cell_of_blk hy3 0
    have y1 := cell_of_blk hy3 1
    have y2 := cell_of_blk hy3 2
    have y3 := cell_of_blk hy3 3
    simp at y0 y1 y2 y3
    have hlt3 : w.heap.size + 1 < w3.heap.size := by omega
    have hlt2 : w.heap.size < w3.heap.size := by omega
    have hlb0 : lb < w.heap.size := by
      obtain ⟨lb', lo', e, hb, -⟩ := HR0.out.lns.els.get kl hkll
      rw [HLA.out] at e
      cases e
      exact hb
    obtain ⟨far, hfar⟩ : ∃ x, x = (r.ls[kl]).1 := ⟨_, rfl⟩
    have hf3 : w3.cell? ⟨lb, lo + kl * 2, none⟩ = some (.int .u64 far) := by
      rw [hfar]
      exact (HB3.out.cell hlb).trans (hlc 0 _ rfl)
    have HFAR := Lib.hid hfar
    have k0 : (0 : Int) ≤ (kl : Int) := by omega
    have k1 : (kl : Int) < (nl : Int) := by have h3 := HN.out.2.1; omega
    clear hfar
    have fz0 := frozen_of_blk HY3.out 0
    have fz2 := frozen_of_blk HY3.out 2
    have fz3 := frozen_of_blk HY3.out 3
    clear hz1 hz2 hy3
    go_upto_region 11 with fail
    obtain ⟨u1, hu1⟩ : ∃ u : World, u = w3.setCell ⟨w.heap.size + 1, 0, none⟩ (.int .u64 r.next) := ⟨_, rfl⟩
    rw [← hu1]
    obtain ⟨u2, hu2⟩ : ∃ u : World, u = u1.setCell ⟨w.heap.size + 1, 2, none⟩ (.string ⟨#[97]⟩) := ⟨_, rfl⟩
    rw [← hu2]
    obtain ⟨w4, hw4⟩ : ∃ u : World, u = u2.setCell ⟨w.heap.size + 1, 3, none⟩ (.string ⟨#[98]⟩) := ⟨_, rfl⟩
    rw [← hw4]
    have hb4 : Below (w.heap.size + 1) w3 w4 := by
      have q1 : Below (w.heap.size + 1) w3 u1 := by rw [hu1]; exact Below.setCell (Below.refl _ _) (p := ⟨w.heap.size + 1, 0, none⟩) (Nat.le_refl (w.heap.size + 1)) _
      have q2 : Below (w.heap.size + 1) w3 u2 := by rw [hu2]; exact Below.setCell q1 (p := ⟨w.heap.size + 1, 2, none⟩) (Nat.le_refl (w.heap.size + 1)) _
      rw [hw4]
      exact Below.setCell q2 (p := ⟨w.heap.size + 1, 3, none⟩) (Nat.le_refl (w.heap.size + 1)) _
    have e1 := blk_setCell (j := 0) HY3.out (.int .u64 r.next)
    rw [← hu1] at e1
    have e2 := blk_setCell (j := 2) e1 (.string ⟨#[97]⟩)
    rw [← hu2] at e2
    have e3 := blk_setCell (j := 3) e2 (.string ⟨#[98]⟩)
    rw [← hw4] at e3
    simp only [List.setIfInBounds_toArray, List.set_cons_zero, List.set_cons_succ] at e3
    have HY4 := Lib.hid e3
    clear e1 e2 e3
    have hk : ∀ {o : Obj} (b : Nat), b ≠ w.heap.size + 1 → w3.heap[b]? = some o → w4.heap[b]? = some o := fun b hne h => by
      rw [hw4, hu2, hu1]
      exact blk_setCell_other (blk_setCell_other (blk_setCell_other h hne _) hne _) hne _
    have HX4 := Lib.hid (hk _ (by omega) (blk_below HX.out HB3.out (lt_of_blk HX.out)))
    have KA4 := Lib.hid (hk _ (by omega) ka.out)
    have KB4 := Lib.hid (hk _ (by omega) kb.out)
    have KC4 := Lib.hid (hk _ (by omega) kc.out)
    have hz4 : w4.heap.size = w3.heap.size := by rw [hw4, hu2, hu1]; simp [World.setCell]
    have HB4 := Lib.hid ((HB.out.trans (HB3.out.mono HB.out.size)).trans (hb4.mono (by omega)))
    have hf4 : w4.cell? ⟨lb, lo + kl * 2, none⟩ = some (.int .u64 far) := (hb4.cell (show lb < w.heap.size + 1 by omega)).trans hf3
    clear hk hb4 hw4 hu1 hu2 ka kb kc HY3 fz0 fz2 fz3 hf3 c0 c1 c2 c3 c4 c5 c6 y0 y1 y2 y3
    have hx4 := HX4.out
    have c0 := cell_of_blk hx4 0
    have c1 := cell_of_blk hx4 1
    have c2 := cell_of_blk hx4 2
    have c3 := cell_of_blk hx4 3
    have c4 := cell_of_blk hx4 4
    have c5 := cell_of_blk hx4 5
    have c6 := cell_of_blk hx4 6
    simp at c0 c1 c2 c3 c4 c5 c6
    rw [HVA.out] at c5
    rw [HLA.out] at c4
    have hlt5 : w.heap.size + 1 < w4.heap.size := by omega
    have hlt4 : w.heap.size < w4.heap.size := by omega
    have HZ4 := Lib.hid (show w4.heap.size = w2.heap.size + 3 from by omega)
    clear hx4 hz3 hz4 hlt3 hlt2
    go_upto_region 13 with fail
    go_cut [65] (fun v wx => ∃ c : Bool, v = .bool c ∧ Hid (c = false → ∀ s ∈ r.sh, s.line < 18446744073709551615) ∧ w4 = wx)
    case first =>
      by_cases h0 : ns = 0
      · have g0 : ¬ (ns : Int) > 0 := by omega
        have gd : decide ((0 : Int) < (ns : Int)) = false := decide_eq_false (by omega)
        have HE := Lib.hid (show ∀ s ∈ r.sh, s.line < 18446744073709551615 from fun s hs => by
          have e : r.sh = [] := List.length_eq_zero_iff.1 (by rw [← HN.out.2.2.2]; exact h0)
          rw [e] at hs
          cases hs)
        clear h0
        go_wp2_with fail
        go_meet
        exact ⟨false, rfl, Lib.hid (fun _ => HE.out), rfl⟩
      · have g0 : (ns : Int) > 0 := by omega
        have gd : decide ((0 : Int) < (ns : Int)) = true := decide_eq_true (by omega)
        obtain ⟨ks, hks⟩ : ∃ k, k = ns - 1 := ⟨_, rfl⟩
        have hksl : ks < r.sh.length := by have h3 := HN.out.2.2.2; omega
        obtain ⟨sb, so, hsa, hsb, hsc⟩ := HR0.out.shs.els.get ks hksl
        have hls : w4.cell? ⟨sb, so + ks * 4, none⟩ = some (.int .u64 (r.sh[ks]).line) := (HB4.out.cell hsb).trans (hsc 0 _ rfl)
        have hwk : IntKind.i64.wrap ((ns : Int) - 1) = (ks : Int) := by rw [IntWalk.i64_in _ (by omega)]; omega
        have j0 : (0 : Int) ≤ (ks : Int) := by omega
        have j1 : (ks : Int) < (ns : Int) := by omega
        have HRI : ShelvedL r.next (r.sh.map Sv.says) := HGR.out.2.shelved
        have HE := Lib.hid (show (r.sh[ks]).line ≠ 18446744073709551615 → ∀ s ∈ r.sh, s.line < 18446744073709551615 from fun hne s hs => by
          have hu := (HR0.out.shs.ok _ (List.getElem_mem hksl)).wf
          have hlt : (r.sh[ks]).line < 18446744073709551615 := by
            have hu2 := u64_lt hu
            omega
          obtain ⟨i, hi, rfl⟩ := List.getElem_of_mem hs
          rcases Nat.lt_or_ge i ks with h | h
          · have h2 := List.pairwise_iff_getElem.1 HRI.rise i ks (by simpa using hi) (by simpa using hksl) h
            simp only [List.getElem_map] at h2
            have h3 : (r.sh[i]).line < (r.sh[ks]).line := h2
            omega
          · have : i = ks := by have h3 := HN.out.2.2.2; omega
            subst this
            exact hlt)
        have HSA := Lib.hid hsa
        rw [hsa] at c6
        generalize (r.sh[ks]).line = z at hls HE
        clear h0 hks hsc hsa HRI
        by_cases hz : z = 18446744073709551615
        · have d1 : (z == 18446744073709551615) = true := by simpa using hz
          have HF := Lib.hid hz
          clear hz
          go_wp2_with fail
          go_meet
          exact ⟨true, rfl, Lib.hid (fun h => by cases h), rfl⟩
        · have d1 : (z == 18446744073709551615) = false := by simpa using hz
          have HF := Lib.hid (HE.out hz)
          clear hz
          go_wp2_with fail
          go_meet
          exact ⟨false, rfl, Lib.hid (fun _ => HF.out), rfl⟩
    case rest =>
      obtain ⟨c, rfl, HSL, rfl⟩ := hcut
      cases c with
      | true =>
        go_wp2_with (go_at_call 9; refine (HL.out _).mono ?_; rintro e w5 ⟨rfl, hb5⟩; have HB5 := Lib.hid (HB4.out.trans (hb5.mono HB4.out.size)); clear hb5)
        go_ret
        exact ⟨rfl, HB5.out⟩
      | false =>
        have HLT := Lib.hid (HSL.out rfl)
        clear HSL
        have hy4 := HY4.out
        have y0 := cell_of_blk hy4 0
        have y1 := cell_of_blk hy4 1
        have y2 := cell_of_blk hy4 2
        have y3 := cell_of_blk hy4 3
        simp at y0 y1 y2 y3
        clear hy4
        go_upto_region 17 with fail
        obtain ⟨w5, hw5⟩ : ∃ u : World, u = (w4.alloc (.cells #[.int .u64 18446744073709551615, .slice (some ⟨w4.heap.size + 1, 0, none⟩) 1 1, .slice none 0 0, .slice none 0 0] (57))).alloc (.cells #[.int .u64 r.next, .int .u32 t.bytes, .string ⟨#[97]⟩, .string ⟨#[98]⟩] (51)) := ⟨_, rfl⟩
        rw [← hw5]
        have hz5 : w5.heap.size = w4.heap.size + 2 := by rw [hw5]; simp
        have hb5 : Below w4.heap.size w4 w5 := by rw [hw5]; exact ((Below.refl _ _).alloc (Nat.le_refl _) _).alloc (by simp) _
        have hx5 : w5.heap[w4.heap.size]? = some (.cells #[.int .u64 18446744073709551615, .slice (some ⟨w4.heap.size + 1, 0, none⟩) 1 1, .slice none 0 0, .slice none 0 0] (57) (0, 0)) := by
          rw [hw5]
          exact blk_below (blk_new_at rfl _) ((Below.refl _ _).alloc (Nat.le_refl _) _) (by simp)
        have ht5 : w5.heap[w4.heap.size + 1]? = some (.cells #[.int .u64 r.next, .int .u32 t.bytes, .string ⟨#[97]⟩, .string ⟨#[98]⟩] (51) (0, 0)) := by
          rw [hw5]
          exact blk_new_at (by simp) _
        have hz4' := HZ4.out
        have HX5 := Lib.hid hx5
        have HT5 := Lib.hid ht5
        have KC5 := Lib.hid (blk_below KC4.out hb5 (lt_of_blk KC4.out))
        have HXR5 := Lib.hid (blk_below HX4.out hb5 (lt_of_blk HX4.out))
        have HB5 := Lib.hid hb5
        have HSR := Lib.hid (show ∀ u, Below w5.heap.size w5 u → u.cell? ⟨w.heap.size, 6, none⟩ = some (.slice r.sa ns r.sc) ∧ u.cell? ⟨w4.heap.size, 0, none⟩ = some (.int .u64 18446744073709551615) ∧ u.cell? ⟨w4.heap.size, 1, none⟩ = some (.slice (some ⟨w4.heap.size + 1, 0, none⟩) 1 1) ∧ u.cell? ⟨w4.heap.size, 2, none⟩ = some (.slice none 0 0) ∧ u.cell? ⟨w4.heap.size, 3, none⟩ = some (.slice none 0 0) from fun u hu => by
          have q := cell_of_blk (blk_below HX5.out hu (lt_of_blk HX5.out))
          have q6 := cell_of_blk (blk_below HXR5.out hu (lt_of_blk HXR5.out)) 6
          have q0 := q 0
          have q1 := q 1
          have q2 := q 2
          have q3 := q 3
          simp at q0 q1 q2 q3 q6
          exact ⟨q6, q0, q1, q2, q3⟩)
        have HSW := Lib.hid (show ∀ u v, Below w5.heap.size w5 u → (u.setCell ⟨w2.heap.size + 1 + 1, 6, none⟩ v).cell? ⟨w.heap.size, 6, none⟩ = some (.slice r.sa ns r.sc) ∧ (u.setCell ⟨w2.heap.size + 1 + 1, 6, none⟩ v).cell? ⟨w4.heap.size, 0, none⟩ = some (.int .u64 18446744073709551615) ∧ (u.setCell ⟨w2.heap.size + 1 + 1, 6, none⟩ v).cell? ⟨w4.heap.size, 1, none⟩ = some (.slice (some ⟨w4.heap.size + 1, 0, none⟩) 1 1) ∧ (u.setCell ⟨w2.heap.size + 1 + 1, 6, none⟩ v).cell? ⟨w4.heap.size, 2, none⟩ = some (.slice none 0 0) ∧ (u.setCell ⟨w2.heap.size + 1 + 1, 6, none⟩ v).cell? ⟨w4.heap.size, 3, none⟩ = some (.slice none 0 0) from fun u v hu => by
          have q := cell_of_blk (blk_setCell_other (blk_below HX5.out hu (lt_of_blk HX5.out)) (a := ⟨w2.heap.size + 1 + 1, 6, none⟩) (by show w4.heap.size ≠ w2.heap.size + 1 + 1; omega) v)
          have q6 := cell_of_blk (blk_setCell_other (blk_below HXR5.out hu (lt_of_blk HXR5.out)) (a := ⟨w2.heap.size + 1 + 1, 6, none⟩) (by show w.heap.size ≠ w2.heap.size + 1 + 1; omega) v) 6
          have q0 := q 0
          have q1 := q 1
          have q2 := q 2
          have q3 := q 3
          simp at q0 q1 q2 q3 q6
          exact ⟨q6, q0, q1, q2, q3⟩)
        have HKC := Lib.hid (show ∀ u, Below w5.heap.size w5 u → u.cell? ⟨w2.heap.size + 1 + 1, 6, none⟩ = some (.slice r.sa ns r.sc) ∧ u.frozen? ⟨w2.heap.size + 1 + 1, 6, none⟩ = false from fun u hu => by
          have q6 := cell_of_blk (blk_below KC5.out hu (lt_of_blk KC5.out)) 6
          have f6 := frozen_of_blk (blk_below KC5.out hu (lt_of_blk KC5.out)) 6
          simp at q6
          exact ⟨q6, f6⟩)
        have HSHE := Lib.hid (show ShIn w5 r.sa r.sh from HR0.out.shs.ext (HB4.out.trans (HB5.out.mono HB4.out.size)))
        have HSN := Lib.hid HR0.out.sn
        have HNS := Lib.hid (show r.sh.length = ns from HN.out.2.2.2.symm)
        have HLN := Lib.hid (show (r.sh ++ [newS r.next t.bytes (some ⟨w4.heap.size + 1, 0, none⟩)]).length = ns + 1 by rw [List.length_append, HNS.out]; rfl)
        clear c0 c1 c2 c3 c4 c5 c6 y0 y1 y2 y3 hf4 hz5 hb5 hx5 ht5 hz4' hw5 hlt5 hlt4
        go_cut [] (fun wx => ∃ (X : World) (sa : Option Addr) (sc : Nat), X = wx ∧ Hid (MoreAt w4 X (w2.heap.size + 1 + 1) r (fun v => #[.int .u64 r.seq, .int .u64 r.log, .int .u64 r.next, .slice r.ba nb r.bc, .slice (some ⟨lb, lo, none⟩) nl r.lc, .slice (some ⟨vb, vo, none⟩) nv r.vc, v]) t.bytes sa sc (some ⟨w4.heap.size + 1, 0, none⟩) (ns + 1)))
        case first =>
          go_region_held3 (fun u => u.cell? ⟨w.heap.size, 6, none⟩ = some (.slice r.sa ns r.sc) ∧ u.cell? ⟨w4.heap.size, 0, none⟩ = some (.int .u64 18446744073709551615) ∧ u.cell? ⟨w4.heap.size, 1, none⟩ = some (.slice (some ⟨w4.heap.size + 1, 0, none⟩) 1 1) ∧ u.cell? ⟨w4.heap.size, 2, none⟩ = some (.slice none 0 0) ∧ u.cell? ⟨w4.heap.size, 3, none⟩ = some (.slice none 0 0)) (first | exact HSR.out _ (by assumption) | exact HSR.out _ ((Below.refl _ _).drew) | exact HSR.out _ (((Below.refl _ _).alloc (Nat.le_refl _) _).drew) | exact HSR.out _ ((Below.refl _ _).alloc (Nat.le_refl _) _) | exact HSR.out _ (hb1.alloc hb1.size _) | exact HSR.out _ ((hb1.alloc hb1.size _).drew) | exact HSR.out _ ((hb1.drew).alloc hb1.size _) | exact HSW.out _ _ (by assumption))
            (first | (refine wp_append_shs (.const (.slice none 0 0)) (.tmp 74) (by rfl) w5.heap.size (.slice none 0 0) [] r.sa r.sc ns r.sh HNS.out (by rfl) (by rfl) (World.ownsRow_nil _ _ _ _) (HSHE.out.els.ext (by first | exact (Below.refl _ _).drew | go_grown)) (by simp) (by omega) HSN.out (by simp) ?_; intro v1 w6 hO1 hg1; have hb1 : Below w5.heap.size w5 w6 := Below.grown (by first | exact (Below.refl _ _).drew | go_grown) hg1 (by simp) (fun k e => by cases e))
                   | (refine wp_append_shs (.tmp 75) (.tmp 77) (by rfl) w5.heap.size v1 r.sh (some ⟨w6.heap.size, 0, none⟩) 1 1 [newS r.next t.bytes (some ⟨w4.heap.size + 1, 0, none⟩)] (by rfl) (by rfl) (by rfl) (OwnSh.below hO1 (by first | exact (Below.refl _ _).alloc (Nat.le_refl _) _ | exact ((Below.refl _ _).alloc (Nat.le_refl _) _).drew | exact (Below.refl _ _).drew)) (shs_of_one (blk_new_at (by rfl) _)) (by rw [HNS.out]; omega) (by omega) (fun h => by cases h) (by have := hb1.size; first | omega | (simp only [World.size_alloc]; omega) | (show w5.heap.size ≤ (w6.heap.push _).size; rw [Array.size_push]; omega)) ?_; intro v2 w7 hO2 hg2; have hb2 : Below w5.heap.size w5 w7 := Below.grown (by first | exact hb1.alloc hb1.size _ | exact (hb1.alloc hb1.size _).drew | exact (hb1.drew).alloc hb1.size _) hg2 (by have := hb1.size; first | omega | (simp only [World.size_alloc]; omega) | (show w5.heap.size ≤ (w6.heap.push _).size; rw [Array.size_push]; omega)) (fun k e => (World.ownsRow.lt hO1 k e).1); obtain ⟨cc6, cf6⟩ := HKC.out _ hb2; obtain ⟨sa, sc, hv2, hE2, hle2, hmx2, hnn2⟩ := hO2.parts; subst hv2; rw [HLN.out] at hle2 ⊢)
                   | (refine wp_append_shs (.tmp 75) (.tmp 77) (by rfl) w5.heap.size v1 r.sh (some ⟨w5.heap.size, 0, none⟩) 1 1 [newS r.next t.bytes (some ⟨w4.heap.size + 1, 0, none⟩)] (by rfl) (by rfl) (by rfl) hO1 (shs_of_one ((hg1.block _ (by simp) (fun e => by cases e)).trans (blk_new_at (by rfl) _))) (by rw [HNS.out]; omega) (by omega) (fun h => by cases h) hb1.size ?_; intro v2 w7 hO2 hg2; have hb2 : Below w5.heap.size w5 w7 := Below.grown hb1 hg2 hb1.size (fun k e => (World.ownsRow.lt hO1 k e).1); obtain ⟨cc6, cf6⟩ := HKC.out _ hb2; obtain ⟨sa, sc, hv2, hE2, hle2, hmx2, hnn2⟩ := hO2.parts; subst hv2; rw [HLN.out] at hle2 ⊢))
          all_goals
            have HM := Lib.hid (more_mk (cs := fun v => #[.int .u64 r.seq, .int .u64 r.log, .int .u64 r.next, .slice r.ba nb r.bc, .slice (some ⟨lb, lo, none⟩) nl r.lc, .slice (some ⟨vb, vo, none⟩) nv r.vc, v]) HR0.out HB4.out HB5.out hb2 (show w.heap.size ≤ w2.heap.size + 1 + 1 by omega) (show w2.heap.size + 1 + 1 < w4.heap.size by have := HZ4.out; omega) KC5.out (fun x => rfl) HT5.out hO2 HT.out.2.1)
            rw [HLN.out] at HM
            clear hO1 hO2 hg1 hg2 hb1 hb2 cc6 cf6 hE2 hle2 hmx2 hnn2
            go_wp2_with fail
            go_meet
            exact ⟨_, sa, sc, rfl, HM⟩
        case rest =>
          obtain ⟨X, sa, sc, rfl, HM⟩ := hcut
          have HBX := Lib.hid (show Below w.heap.size w X from HB4.out.trans (HM.out.below.mono (by omega)))
          have hz4' := HZ4.out
          have hgX : w2.heap.size + 1 + 1 < X.heap.size := Nat.lt_of_lt_of_le (by omega) HM.out.below.size
          have HRX := Lib.hid (HR0.out.ext HBX.out)
          have HXX := Lib.hid (blk_below HX4.out HM.out.below (show w.heap.size < w2.heap.size + 1 + 1 by omega))
          have KAX := Lib.hid (blk_below KA4.out HM.out.below (show w2.heap.size < w2.heap.size + 1 + 1 by omega))
          have KBX := Lib.hid (blk_below KB4.out HM.out.below (show w2.heap.size + 1 < w2.heap.size + 1 + 1 by omega))
          have KCX := Lib.hid HM.out.blk
          have hXlt : w.heap.size < X.heap.size := by omega
          clear hz4' HX4 KA4 KB4 KC4 HX5 HT5 KC5 HXR5 HB5 HSR HSW HKC HSHE HLN
          have HC2 : Hid (∀ u, Below X.heap.size X u → u.cell? ⟨w.heap.size, 0, none⟩ = some (.int .u64 r.seq) ∧ u.cell? ⟨w.heap.size, 1, none⟩ = some (.int .u64 r.log) ∧ u.cell? ⟨w.heap.size, 2, none⟩ = some (.int .u64 r.next) ∧ u.cell? ⟨w.heap.size, 3, none⟩ = some (.slice r.ba nb r.bc) ∧ u.cell? ⟨w.heap.size, 4, none⟩ = some (.slice r.la nl r.lc) ∧ u.cell? ⟨w.heap.size, 5, none⟩ = some (.slice r.va nv r.vc) ∧ u.cell? ⟨w.heap.size, 6, none⟩ = some (.slice r.sa ns r.sc)) := Lib.hid (fun u hu => by
            have q := cell_of_blk (blk_below HXX.out hu (lt_of_blk HXX.out))
            have q0 := q 0
            have q1 := q 1
            have q2 := q 2
            have q3 := q 3
            have q4 := q 4
            have q5 := q 5
            have q6 := q 6
            simp at q0 q1 q2 q3 q4 q5 q6
            exact ⟨q0, q1, q2, q3, q4, q5, q6⟩)
          have kc := cell_of_blk KCX.out
          have g0 := kc 0
          have g1 := kc 1
          have g2 := kc 2
          have g3 := kc 3
          have g4 := kc 4
          have g5 := kc 5
          have g6 := kc 6
          simp at g0 g1 g2 g3 g4 g5 g6
          clear kc
          obtain ⟨c0, c1, c2, c3, c4, c5, c6⟩ := HC2.out X (Below.refl _ _)
          rw [HVA.out] at c5
          rw [HLA.out] at c4
          go_upto_if 83 with fail
          obtain ⟨w8, hw8⟩ : ∃ u : World, u = X.alloc (.cells #[.int .u64 r.seq, .int .u64 r.log, .int .u64 r.next, .slice r.ba nb r.bc, .slice (some ⟨lb, lo, none⟩) nl r.lc, .slice (some ⟨vb, vo, none⟩) nv r.vc, .slice sa (ns + 1) sc] (32)) := ⟨_, rfl⟩
          rw [← hw8]
          have hb8 : Below X.heap.size X w8 := by rw [hw8]; exact (Below.refl _ _).alloc (Nat.le_refl _) _
          have hd8 : w8.heap[X.heap.size]? = some (.cells #[.int .u64 r.seq, .int .u64 r.log, .int .u64 r.next, .slice r.ba nb r.bc, .slice (some ⟨lb, lo, none⟩) nl r.lc, .slice (some ⟨vb, vo, none⟩) nv r.vc, .slice sa (ns + 1) sc] (32) (0, 0)) := by rw [hw8]; exact blk_new_at rfl _
          have HB8 := Lib.hid hb8
          have HD8 := Lib.hid hd8
          have hz8 : X.heap.size < w8.heap.size := lt_of_blk hd8
          have HRN := Lib.hid (u64_lt HR0.out.next)
          clear c0 c1 c2 c3 c4 c5 c6 g0 g1 g2 g3 g4 g5 g6 hb8 hd8 hw8
          obtain ⟨c0, c1, c2, c3, c4, c5, c6⟩ := HC2.out w8 HB8.out
          rw [HVA.out] at c5
          rw [HLA.out] at c4
          go_cut [] (fun wx => Hid (Below X.heap.size X wx))
          case first =>
            by_cases hrn : r.next < 18446744073709551615
            · have d1 : decide (r.next < 18446744073709551615) = true := decide_eq_true hrn
              have hwn : IntKind.u64.wrap (r.next + 1) = r.next + 1 := by rw [IntKind.wrap_u64]; have := HRN.out; omega
              have kd := cell_of_blk HD8.out
              have g0 := kd 0
              have g1 := kd 1
              have g2 := kd 2
              have g3 := kd 3
              have g4 := kd 4
              have g5 := kd 5
              have g6 := kd 6
              simp at g0 g1 g2 g3 g4 g5 g6
              clear kd
              have f2 := frozen_of_blk HD8.out 2
              have HUN := Lib.hid (show U64 (r.next + 1) from by
                unfold U64
                simp [Lit.wf, IntKind.min, IntKind.max, IntKind.signed, IntKind.bits]
                have := HRN.out
                omega)
              go_upto_region 21 with fail
              obtain ⟨w9, hw9⟩ : ∃ u : World, u = w8.setCell ⟨X.heap.size, 2, none⟩ (.int .u64 (r.next + 1)) := ⟨_, rfl⟩
              rw [← hw9]
              have hb9 : Below X.heap.size w8 w9 := by rw [hw9]; exact Below.setCell (Below.refl _ _) (p := ⟨X.heap.size, 2, none⟩) (Nat.le_refl X.heap.size) _
              have HB9 := Lib.hid (HB8.out.trans hb9)
              have hd9 := blk_setCell (j := 2) HD8.out (.int .u64 (r.next + 1))
              rw [← hw9] at hd9
              simp only [List.setIfInBounds_toArray, List.set_cons_zero, List.set_cons_succ] at hd9
              clear hb9 hw9 g0 g1 g2 g3 g4 g5 g6 c0 c1 c2 c3 c4 c5 c6 f2
              have hz9 : X.heap.size < w9.heap.size := lt_of_blk hd9
              have kd := cell_of_blk hd9
              have g0 := kd 0
              have g1 := kd 1
              have g2 := kd 2
              have g3 := kd 3
              have g4 := kd 4
              have g5 := kd 5
              have g6 := kd 6
              simp at g0 g1 g2 g3 g4 g5 g6
              clear kd hd9
              have HCD := Lib.hid (check_yes (moreR r (r.next + 1) t.bytes (some ⟨w4.heap.size + 1, 0, none⟩) sa sc) (.agg #[.int .u64 r.seq, .int .u64 r.log, .int .u64 (r.next + 1), .slice r.ba nb r.bc, .slice (some ⟨lb, lo, none⟩) nl r.lc, .slice (some ⟨vb, vo, none⟩) nv r.vc, .slice sa (ns + 1) sc]) w9 (by
                show _ = Value.agg #[.int .u64 r.seq, .int .u64 r.log, .int .u64 (r.next + 1), .slice r.ba r.bs.length r.bc, .slice r.la r.ls.length r.lc, .slice r.va r.vs.length r.vc, .slice sa (r.sh ++ [_]).length sc]
                rw [HVA.out, HLA.out, List.length_append, List.length_singleton, ← HN.out.1, ← HN.out.2.1, ← HN.out.2.2.1, ← HN.out.2.2.2])
                ((moreR_in HRX.out HM.out (by rw [← HN.out.2.2.2]) _ HUN.out).ext HB9.out) (moreR_few HNG2.out _ _ _ _ _) (moreR_good _ _ _ _ HGR.out HLT.out))
              go_wp2_with fail
              (with_reducible refine HCD.out.mono ?_)
              rintro e w10 ⟨rfl, hb10⟩
              have HB10 := Lib.hid (HB9.out.trans (hb10.mono (Nat.le_of_lt hz9)))
              clear hb10 HCD g0 g1 g2 g3 g4 g5 g6
              go_wp2_with fail
              go_meet
              exact HB10
            · have d1 : decide (r.next < 18446744073709551615) = false := decide_eq_false hrn
              go_wp2_with fail
              go_meet
              exact HB8
          case rest =>
            obtain ⟨Y, hY⟩ : ∃ Y : World, Y = wc := ⟨_, rfl⟩
            have HBY : Hid (Below X.heap.size X Y) := by rw [hY]; exact hcut
            rw [← hY]
            clear hcut hY HB8 HD8 c0 c1 c2 c3 c4 c5 c6 hz8
            obtain ⟨c0, c1, c2, c3, c4, c5, c6⟩ := HC2.out Y HBY.out
            rw [HVA.out] at c5
            rw [HLA.out] at c4
            have hYlt : w.heap.size < Y.heap.size := Nat.lt_of_lt_of_le hXlt HBY.out.size
            go_upto_if 93 with fail
            obtain ⟨w8, hw8⟩ : ∃ u : World, u = Y.alloc (.cells #[.int .u64 r.seq, .int .u64 r.log, .int .u64 r.next, .slice r.ba nb r.bc, .slice (some ⟨lb, lo, none⟩) nl r.lc, .slice (some ⟨vb, vo, none⟩) nv r.vc, .slice r.sa ns r.sc] (32)) := ⟨_, rfl⟩
            rw [← hw8]
            have hb8 : Below Y.heap.size Y w8 := by rw [hw8]; exact (Below.refl _ _).alloc (Nat.le_refl _) _
            have hd8 : w8.heap[Y.heap.size]? = some (.cells #[.int .u64 r.seq, .int .u64 r.log, .int .u64 r.next, .slice r.ba nb r.bc, .slice (some ⟨lb, lo, none⟩) nl r.lc, .slice (some ⟨vb, vo, none⟩) nv r.vc, .slice r.sa ns r.sc] (32) (0, 0)) := by rw [hw8]; exact blk_new_at rfl _
            have HB8 := Lib.hid (HBY.out.trans (hb8.mono HBY.out.size))
            have HD8 := Lib.hid hd8
            have hz8 : Y.heap.size < w8.heap.size := lt_of_blk hd8
            have HXY := Lib.hid HBY.out.size
            clear c0 c1 c2 c3 c4 c5 c6 hb8 hd8 hw8 HBY
            go_cut [] (fun wx => Hid (Below X.heap.size X wx))
            case first =>
              by_cases hfar : far > 0
              · have HFU := Lib.hid (u64_lt (HR0.out.lns.all (r.ls[kl]'hkll) (List.getElem_mem hkll)).1)
                have d1 : decide (0 < far) = true := decide_eq_true hfar
                have hff : far < 18446744073709551616 := by have := HFU.out; rw [← HFAR.out] at this; exact this.2
                have hwn : IntKind.u64.wrap (far - 1) = far - 1 := by rw [IntKind.wrap_u64]; omega
                have HUN := Lib.hid (show U64 (far - 1) from by
                  unfold U64
                  simp [Lit.wf, IntKind.min, IntKind.max, IntKind.signed, IntKind.bits]
                  omega)
                have kd := cell_of_blk HD8.out
                have g0 := kd 0
                have g1 := kd 1
                have g2 := kd 2
                have g3 := kd 3
                have g4 := kd 4
                have g5 := kd 5
                have g6 := kd 6
                simp at g0 g1 g2 g3 g4 g5 g6
                clear kd hff
                have f2 := frozen_of_blk HD8.out 0
                go_upto_region 26 with fail
                obtain ⟨w9, hw9⟩ : ∃ u : World, u = w8.setCell ⟨Y.heap.size, 0, none⟩ (.int .u64 (far - 1)) := ⟨_, rfl⟩
                rw [← hw9]
                have hb9 : Below Y.heap.size w8 w9 := by rw [hw9]; exact Below.setCell (Below.refl _ _) (p := ⟨Y.heap.size, 0, none⟩) (Nat.le_refl Y.heap.size) _
                have HB9 := Lib.hid (HB8.out.trans (hb9.mono HXY.out))
                have hd9 := blk_setCell (j := 0) HD8.out (.int .u64 (far - 1))
                rw [← hw9] at hd9
                simp only [List.setIfInBounds_toArray, List.set_cons_zero, List.set_cons_succ] at hd9
                clear hb9 hw9 g0 g1 g2 g3 g4 g5 g6 f2
                have hz9 : Y.heap.size < w9.heap.size := lt_of_blk hd9
                have kd := cell_of_blk hd9
                have g0 := kd 0
                have g1 := kd 1
                have g2 := kd 2
                have g3 := kd 3
                have g4 := kd 4
                have g5 := kd 5
                have g6 := kd 6
                simp at g0 g1 g2 g3 g4 g5 g6
                clear kd hd9
                have HCD := Lib.hid (check_no (seqR r (far - 1)) (.agg #[.int .u64 (far - 1), .int .u64 r.log, .int .u64 r.next, .slice r.ba nb r.bc, .slice (some ⟨lb, lo, none⟩) nl r.lc, .slice (some ⟨vb, vo, none⟩) nv r.vc, .slice r.sa ns r.sc]) w9 (by
                  show _ = Value.agg #[.int .u64 (far - 1), .int .u64 r.log, .int .u64 r.next, .slice r.ba r.bs.length r.bc, .slice r.la r.ls.length r.lc, .slice r.va r.vs.length r.vc, .slice r.sa r.sh.length r.sc]
                  rw [HVA.out, HLA.out, ← HN.out.1, ← HN.out.2.1, ← HN.out.2.2.1, ← HN.out.2.2.2])
                  ((seqR_in HRX.out _ HUN.out).ext HB9.out) (seqR_few HNG2.out.few _) (by rw [HFAR.out]; exact seqR_bad _ (List.getElem_mem hkll)))
                go_wp2_with fail
                (with_reducible refine HCD.out.mono ?_)
                rintro e w10 ⟨rfl, hb10⟩
                have HB10 := Lib.hid (HB9.out.trans (hb10.mono (Nat.le_trans HXY.out (Nat.le_of_lt hz9))))
                clear hb10 HCD g0 g1 g2 g3 g4 g5 g6
                go_wp2_with fail
                go_meet
                exact HB10
              · have d1 : decide (0 < far) = false := decide_eq_false hfar
                go_wp2_with fail
                go_meet
                exact HB8
            case rest =>
              obtain ⟨Z, hZ⟩ : ∃ Z : World, Z = wc := ⟨_, rfl⟩
              have HBZ : Hid (Below X.heap.size X Z) := by rw [hZ]; exact hcut
              rw [← hZ]
              clear hcut hZ HB8 HD8 hz8
              have HKA := Lib.hid (show ∀ u, Below X.heap.size X u → u.cell? ⟨w2.heap.size, 0, none⟩ = some (.int .u64 r.seq) ∧ u.cell? ⟨w2.heap.size, 1, none⟩ = some (.int .u64 r.log) ∧ u.cell? ⟨w2.heap.size, 2, none⟩ = some (.int .u64 r.next) ∧ u.cell? ⟨w2.heap.size, 3, none⟩ = some (.slice r.ba nb r.bc) ∧ u.cell? ⟨w2.heap.size, 4, none⟩ = some (.slice (some ⟨lb, lo, none⟩) nl r.lc) ∧ u.cell? ⟨w2.heap.size, 5, none⟩ = some (.slice (some ⟨vb, vo, none⟩) (nv - 1) r.vc) ∧ u.cell? ⟨w2.heap.size, 6, none⟩ = some (.slice r.sa ns r.sc) from fun u hu => by
                have q := cell_of_blk (blk_below KAX.out hu (lt_of_blk KAX.out))
                have q0 := q 0
                have q1 := q 1
                have q2 := q 2
                have q3 := q 3
                have q4 := q 4
                have q5 := q 5
                have q6 := q 6
                simp at q0 q1 q2 q3 q4 q5 q6
                exact ⟨q0, q1, q2, q3, q4, q5, q6⟩)
              have HKB := Lib.hid (show ∀ u, Below X.heap.size X u → u.cell? ⟨w2.heap.size + 1, 0, none⟩ = some (.int .u64 r.seq) ∧ u.cell? ⟨w2.heap.size + 1, 1, none⟩ = some (.int .u64 r.next) ∧ u.cell? ⟨w2.heap.size + 1, 2, none⟩ = some (.int .u64 r.next) ∧ u.cell? ⟨w2.heap.size + 1, 3, none⟩ = some (.slice r.ba nb r.bc) ∧ u.cell? ⟨w2.heap.size + 1, 4, none⟩ = some (.slice (some ⟨lb, lo, none⟩) nl r.lc) ∧ u.cell? ⟨w2.heap.size + 1, 5, none⟩ = some (.slice (some ⟨vb, vo, none⟩) nv r.vc) ∧ u.cell? ⟨w2.heap.size + 1, 6, none⟩ = some (.slice r.sa ns r.sc) from fun u hu => by
                have q := cell_of_blk (blk_below KBX.out hu (lt_of_blk KBX.out))
                have q0 := q 0
                have q1 := q 1
                have q2 := q 2
                have q3 := q 3
                have q4 := q 4
                have q5 := q 5
                have q6 := q 6
                simp at q0 q1 q2 q3 q4 q5 q6
                exact ⟨q0, q1, q2, q3, q4, q5, q6⟩)
              have HKC := Lib.hid (show ∀ u, Below X.heap.size X u → u.cell? ⟨w2.heap.size + 1 + 1, 0, none⟩ = some (.int .u64 r.seq) ∧ u.cell? ⟨w2.heap.size + 1 + 1, 1, none⟩ = some (.int .u64 r.log) ∧ u.cell? ⟨w2.heap.size + 1 + 1, 2, none⟩ = some (.int .u64 r.next) ∧ u.cell? ⟨w2.heap.size + 1 + 1, 3, none⟩ = some (.slice r.ba nb r.bc) ∧ u.cell? ⟨w2.heap.size + 1 + 1, 4, none⟩ = some (.slice (some ⟨lb, lo, none⟩) nl r.lc) ∧ u.cell? ⟨w2.heap.size + 1 + 1, 5, none⟩ = some (.slice (some ⟨vb, vo, none⟩) nv r.vc) ∧ u.cell? ⟨w2.heap.size + 1 + 1, 6, none⟩ = some (.slice sa (ns + 1) sc) from fun u hu => by
                have q := cell_of_blk (blk_below KCX.out hu (lt_of_blk KCX.out))
                have q0 := q 0
                have q1 := q 1
                have q2 := q 2
                have q3 := q 3
                have q4 := q 4
                have q5 := q 5
                have q6 := q 6
                simp at q0 q1 q2 q3 q4 q5 q6
                exact ⟨q0, q1, q2, q3, q4, q5, q6⟩)
              have hvmin : min (r.vs.length - 1) r.vs.length = nv - 1 := by have := HN.out.2.2.1; omega
              have HCA := Lib.hid (show ∀ u, Below X.heap.size X u → Calls Tryz.prog (16) #[.agg #[.int .u64 r.seq, .int .u64 r.log, .int .u64 r.next, .slice r.ba nb r.bc, .slice (some ⟨lb, lo, none⟩) nl r.lc, .slice (some ⟨vb, vo, none⟩) (nv - 1) r.vc, .slice r.sa ns r.sc]] u (fun e w' => e = .returned (.int .i64 4) ∧ Below u.heap.size u w') from fun u hu => check_no (lessR r) _ u (by
                show _ = Value.agg #[.int .u64 r.seq, .int .u64 r.log, .int .u64 r.next, .slice r.ba r.bs.length r.bc, .slice r.la r.ls.length r.lc, .slice r.va (r.vs.take (r.vs.length - 1)).length r.vc, .slice r.sa r.sh.length r.sc]
                rw [HVA.out, HLA.out, List.length_take, ← HN.out.1, ← HN.out.2.1, hvmin, ← HN.out.2.2.2]) ((lessR_in HRX.out).ext hu) (lessR_few HNG2.out.few) (lessR_bad HGR.out))
              have HCB := Lib.hid (show ∀ u, Below X.heap.size X u → Calls Tryz.prog (16) #[.agg #[.int .u64 r.seq, .int .u64 r.next, .int .u64 r.next, .slice r.ba nb r.bc, .slice (some ⟨lb, lo, none⟩) nl r.lc, .slice (some ⟨vb, vo, none⟩) nv r.vc, .slice r.sa ns r.sc]] u (fun e w' => e = .returned (.int .i64 4) ∧ Below u.heap.size u w') from fun u hu => check_no (logR r) _ u (by
                show _ = Value.agg #[.int .u64 r.seq, .int .u64 r.next, .int .u64 r.next, .slice r.ba r.bs.length r.bc, .slice r.la r.ls.length r.lc, .slice r.va r.vs.length r.vc, .slice r.sa r.sh.length r.sc]
                rw [HVA.out, HLA.out, ← HN.out.1, ← HN.out.2.1, ← HN.out.2.2.1, ← HN.out.2.2.2]) ((logR_in HRX.out).ext hu) (logR_few HNG2.out.few) (logR_bad))
              have HCC := Lib.hid (show ∀ u, Below X.heap.size X u → Calls Tryz.prog (16) #[.agg #[.int .u64 r.seq, .int .u64 r.log, .int .u64 r.next, .slice r.ba nb r.bc, .slice (some ⟨lb, lo, none⟩) nl r.lc, .slice (some ⟨vb, vo, none⟩) nv r.vc, .slice sa (ns + 1) sc]] u (fun e w' => e = .returned (.int .i64 4) ∧ Below u.heap.size u w') from fun u hu => check_no (moreR r r.next t.bytes (some ⟨w4.heap.size + 1, 0, none⟩) sa sc) _ u (by
                show _ = Value.agg #[.int .u64 r.seq, .int .u64 r.log, .int .u64 r.next, .slice r.ba r.bs.length r.bc, .slice r.la r.ls.length r.lc, .slice r.va r.vs.length r.vc, .slice sa (r.sh ++ [_]).length sc]
                rw [HVA.out, HLA.out, List.length_append, List.length_singleton, ← HN.out.1, ← HN.out.2.1, ← HN.out.2.2.1, ← HN.out.2.2.2]) ((moreR_in HRX.out HM.out (by rw [← HN.out.2.2.2]) _ HR0.out.next).ext hu) (moreR_few HNG2.out _ _ _ _ _) (moreR_bad _ _ _ _))
              clear hvmin
              obtain ⟨a0, a1, a2, a3, a4, a5, a6⟩ := HKA.out Z HBZ.out
              go_wp2_with fail
              (with_reducible refine (HCA.out _ HBZ.out).mono ?_)
              rintro e x1 ⟨rfl, hb⟩
              have HBZ1 := Lib.hid (HBZ.out.trans (hb.mono HBZ.out.size))
              clear hb a0 a1 a2 a3 a4 a5 a6
              obtain ⟨a0, a1, a2, a3, a4, a5, a6⟩ := HKB.out x1 HBZ1.out
              go_wp2_with fail
              (with_reducible refine (HCB.out _ HBZ1.out).mono ?_)
              rintro e x2 ⟨rfl, hb⟩
              have HBZ2 := Lib.hid (HBZ1.out.trans (hb.mono HBZ1.out.size))
              clear hb a0 a1 a2 a3 a4 a5 a6
              obtain ⟨a0, a1, a2, a3, a4, a5, a6⟩ := HKC.out x2 HBZ2.out
              go_wp2_with fail
              (with_reducible refine (HCC.out _ HBZ2.out).mono ?_)
              rintro e x3 ⟨rfl, hb⟩
              have HBZ3 := Lib.hid (HBZ2.out.trans (hb.mono HBZ2.out.size))
              clear hb a0 a1 a2 a3 a4 a5 a6
              go_wp2_with fail
              refine (HL.out _).mono ?_
              rintro e x4 ⟨rfl, hb⟩
              have HBZ4 := Lib.hid (HBX.out.trans ((HBZ3.out.trans (hb.mono HBZ3.out.size)).mono HBX.out.size))
              clear hb
              go_wp2_with fail
              go_ret
              exact ⟨rfl, HBZ4.out⟩
end Go.Proofs.YtchcelodeepjdaaGreatDoor.Ln
