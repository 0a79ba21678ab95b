/- ref16: Base. No condition. · Plain: the reference's steps are laidB's. No condition. · ref16: First. No condition. · ref16: what copied lays (its walk is to come). Condition: fewer than 1000000 lines. · ref16: copied. Condition: fewer than 100000 lines, and points of each. · ref16: a store into copies; copies as vectors. No condition. -/
import Derived.Test.YticcccciefaemaaGreatDoorY2
namespace Go.Herb
theorem BaseSt.next {a b : Bh} {i : Nat} {p x : Int × Int} (h : BaseSt b (a.take i) p) (ha : SrtK a) (hx : a[i]? = some x) :
    (p.2 < min x.2 (g0 b x.1) → BaseSt b (a.take (i + 1)) (x.1, min x.2 (g0 b x.1))) ∧ (¬ p.2 < min x.2 (g0 b x.1) → BaseSt b (a.take (i + 1)) p) := by
  obtain ⟨hi, rfl⟩ := List.getElem?_eq_some_iff.1 hx
  rw [List.take_succ_eq_append_getElem hi]
  have hnn := h.nn
  refine ⟨fun hlt => h.take (by omega) (.inl hlt), fun hge => h.keep ?_⟩
  rcases Int.lt_or_le 0 p.2 with h0 | h0
  · obtain ⟨q, hq, hq1, _⟩ := h.at_ h0
    obtain ⟨j, hj, he⟩ := List.getElem_of_mem hq
    rw [List.getElem_take] at he
    have hj' : j < i := by simp at hj; omega
    have := List.pairwise_iff_getElem.1 ha j i (by omega) hi hj'
    rw [he] at this
    omega
  · omega
end Go.Herb
namespace Go.Proofs.YticcccciefaemaaGreatDoor.Vx
open Go.RowKit Go.Shelf Go.Herb

def RefBasePost (L : Vs) (a b : Int) (w : World) (e : Ending) (w' : World) : Prop :=
  ∃ (q : Int × Int) (er : Int), e = .returned (.tuple #[.agg #[.int .u64 q.1, .int .u64 q.2], .int .i64 er]) ∧ Below w.heap.size w w' ∧
    ((er = 0 ∧ ∃ x y, getL L a = some x ∧ getL L b = some y ∧ IsBase x y q) ∨ (er = 7 ∧ q = (0, 0) ∧ (getL L a = none ∨ getL L b = none)))

set_option maxRecDepth 100000 in
set_option maxHeartbeats 2000000 in
theorem refBase_any (p : Nat) (la : Option Addr) (lc : Nat) (xs : List Vc) (L : Vs) (a b : Int) (w : World) (h : RefIs w p la lc xs L) (hG : GoodV L) :
    Calls Tryz.prog (51) #[.pointer (some ⟨p, 0, none⟩), .int .u64 a, .int .u64 b] w (RefBasePost L a b w) := by
  have H := Lib.hid h
  have HG := Lib.hid hG
  obtain ⟨W0, hW0⟩ : ∃ W0 : World, W0 = w.alloc (.cells #[.int .u64 0, .int .u64 0] (72)) := ⟨_, rfl⟩
  have hb0 : Below w.heap.size w W0 := by rw [hW0]; exact (Below.refl _ _).alloc (Nat.le_refl _) _
  have hs0 : W0.heap.size = w.heap.size + 1 := by rw [hW0]; simp
  have hx0 : W0.heap[w.heap.size]? = some (.cells #[.int .u64 0, .int .u64 0] (72) (0, 0)) := by rw [hW0]; exact blk_new_at rfl _
  have HB0 := Lib.hid hb0
  have HX0 := Lib.hid hx0
  have H0 := Lib.hid (h.below hb0)
  clear h hG hb0 hx0
  go_enter Tryz.func51, Tryz.ntmps51
  go_wp2_with fail
  rw [← hW0]
  clear hW0
  refine (at_any p la lc xs L a W0 H0.out).mono ?_
  rintro e w1 ⟨rfl, h1⟩
  have HA1 := Lib.hid h1
  clear h1
  rcases HA1.out with ⟨i, x, rfl, hix, hxl, hgx⟩ | ⟨rfl, hno⟩
  · go_wp2_with fail
    refine (at_any p la lc xs L b w1 H0.out).mono ?_
    rintro e w2 ⟨rfl, h2⟩
    have HA2 := Lib.hid h2
    clear h2
    rcases HA2.out with ⟨j, y, rfl, hjy, hyl, hgy⟩ | ⟨rfl, hno⟩
    · obtain ⟨hil, hxe⟩ := List.getElem?_eq_some_iff.1 hix
      obtain ⟨hjl, hye⟩ := List.getElem?_eq_some_iff.1 hjy
      obtain ⟨lb, lo, rfl, hlb, hc⟩ := H0.out.inn.els.get i hil
      obtain ⟨lb2, lo2, he, _, hd⟩ := H0.out.inn.els.get j hjl
      injection he with he
      cases he
      have HPX := Lib.hid (H0.out.inn.inn _ (List.getElem_mem hil))
      have HPY := Lib.hid (H0.out.inn.inn _ (List.getElem_mem hjl))
      have HLX := Lib.hid (H0.out.inn.lens _ (List.getElem_mem hil))
      have HLY := Lib.hid (H0.out.inn.lens _ (List.getElem_mem hjl))
      have c1 := hc 1 _ rfl
      have d1 := hd 1 _ rfl
      rw [hxe] at HPX HLX c1
      rw [hye] at HPY HLY d1
      obtain ⟨xl, xa, xc, xp⟩ := x
      obtain ⟨yl, ya, yc, yp⟩ := y
      simp only at HPX HPY HLX HLY c1 d1 hgx hgy hxl hyl
      obtain ⟨n, hn⟩ : ∃ n, n = xp.length := ⟨_, rfl⟩
      obtain ⟨n2, hn2⟩ : ∃ n, n = yp.length := ⟨_, rfl⟩
      obtain ⟨n3, hn3⟩ : ∃ n, n = xs.length := ⟨_, rfl⟩
      rw [← hn] at c1 HLX
      rw [← hn2] at d1 HLY
      have HN := Lib.hid hn
      have HN2 := Lib.hid hn2
      have HGX := Lib.hid (HG.out.get hgx).1
      have HGY := Lib.hid (HG.out.get hgy).1
      have HF : Hid (∀ u, Below w2.heap.size w2 u → u.cell? ⟨p, 0, none⟩ = some (.slice (some ⟨lb, lo, none⟩) n3 lc) ∧ u.cell? ⟨lb, lo + i * 2 + 1, none⟩ = some (.slice xa n xc) ∧ u.cell? ⟨lb, lo + j * 2 + 1, none⟩ = some (.slice ya n2 yc) ∧ Pts u xa xp ∧ Pts u ya yp ∧ u.heap[w.heap.size]? = some (.cells #[.int .u64 0, .int .u64 0] (72) (0, 0))) := Lib.hid (fun u hu => by
        have hp0 := cell_of_blk ((hu.block p (lt_of_blk H0.out.blk)).trans H0.out.blk) 0
        simp at hp0
        rw [← hn3] at hp0
        exact ⟨hp0, (hu.cell (p := ⟨lb, _, none⟩) hlb).trans c1, (hu.cell (p := ⟨lb, _, none⟩) hlb).trans d1, HPX.out.ext hu, HPY.out.ext hu, (hu.block _ (by omega)).trans HX0.out⟩)
      have hi0 : (0 : Int) ≤ (i : Int) := by omega
      have hi1 : (i : Int) < (n3 : Int) := by omega
      have hj0 : (0 : Int) ≤ (j : Int) := by omega
      have hj1 : (j : Int) < (n3 : Int) := by omega
      have hi2 : ¬ (i : Int) < 0 := by omega
      have hj2 : ¬ (j : Int) < 0 := by omega
      have hnm := HLX.out
      unfold maxLen at hnm
      have HGXY := Lib.hid (And.intro hgx hgy)
      obtain ⟨W2, hW2⟩ : ∃ W2 : World, W2 = w2.alloc (.cells #[.int .u64 0, .int .u64 0] (72)) := ⟨_, rfl⟩
      have HB2 := Lib.hid (show Below w2.heap.size w2 W2 by rw [hW2]; exact (Below.refl _ _).alloc (Nat.le_refl _) _)
      have HX2 := Lib.hid (show W2.heap[w.heap.size + 1]? = some (.cells #[.int .u64 0, .int .u64 0] (72) (0, 0)) by rw [hW2, ← hs0]; exact blk_new_at rfl _)
      clear hc hd c1 d1 hxe hye hix hjy hil hjl hgx hgy hn hn2 hn3 HA1 HA2
      go_wp2_with fail
      rw [← hW2]
      clear hW2
      go_loopg [11] n (fun gk iv wr => ∃ (m : Nat) (q : Int × Int), m + gk = n ∧ iv = .int .i64 m ∧ Hid (BaseSt yp (xp.take m) q) ∧ Hid (wr.heap[w.heap.size + 1]? = some (.cells #[.int .u64 q.1, .int .u64 q.2] (72) (0, 0))) ∧ Hid (Below w2.heap.size w2 wr))
      case atStart => exact ⟨0, (0, 0), by omega, rfl, Lib.hid (BaseSt.start _), HX2, HB2⟩
      case round =>
        obtain ⟨m, q, hm, rfl, HS, HQ, HB⟩ := hrel
        obtain ⟨cp, cx, cy, hpx, hpy, _⟩ := HF.out wr HB.out
        by_cases hlt : m < n
        · obtain ⟨b3, o3, rfl, hlb3, hc⟩ := hpx.get m (by have := HN.out; omega)
          have HXM := Lib.hid (List.getElem?_eq_getElem (show m < xp.length by have := HN.out; omega))
          have x0 := hc 0 _ rfl
          have x1 := hc 1 _ rfl
          simp only [Nat.add_zero] at x0 x1
          clear hc hpx hpy
          generalize xp[m]'(by have := HN.out; omega) = z at *
          obtain ⟨kl, ks⟩ := z
          simp only at x0 x1
          obtain ⟨X, hX⟩ : ∃ X : World, X = wr.alloc (.cells #[.int .u64 kl, .int .u64 ks] (72)) := ⟨_, rfl⟩
          have hXb : Below wr.heap.size wr X := by rw [hX]; exact (Below.refl _ _).alloc (Nat.le_refl _) _
          have HBX := Lib.hid (HB.out.trans (hXb.mono HB.out.size))
          have HXB := Lib.hid (show X.heap[wr.heap.size]? = some (.cells #[.int .u64 kl, .int .u64 ks] (72) (0, 0)) by rw [hX]; exact blk_new_at rfl _)
          have HQX := Lib.hid (blk_below HQ.out hXb (lt_of_blk HQ.out))
          have hm0 : (0 : Int) ≤ (m : Int) := by omega
          have hm1 : (m : Int) < (n : Int) := by omega
          clear hXb
          go_wp2_with fail
          rw [← hX]
          clear hX cp cx cy x0 x1
          obtain ⟨cp, cx, cy, _, _, _⟩ := HF.out X HBX.out
          have z0 := cell_of_blk HXB.out 0
          have z1 := cell_of_blk HXB.out 1
          simp at z0 z1
          have HC := Lib.hid (fun t => (refOf_any ya yc n2 yp kl (X.drewN t) (els_drewN (HF.out X HBX.out).2.2.2.2.1 t) HN2.out.symm HLY.out).mono (fun e w' (h : e = .returned (.int .u64 (g0 yp kl)) ∧ w' = X.drewN t) => (show e = .returned (.int .u64 (g0 yp kl)) ∧ ∃ n, w' = (X.drewN t).drewN n from ⟨h.1, 0, by rw [h.2]; rfl⟩)))
          obtain ⟨G, hG⟩ : ∃ G, G = g0 yp kl := ⟨_, rfl⟩
          rw [← hG] at HC
          have HGG := Lib.hid hG
          clear hG
          go_quiet ((go_at_call 74; exact Calls.quiet_of (HC.out _)))
          have HBX2 := Lib.hid (below_drN HBX.out nq)
          have HQX2 := Lib.hid (show (X.drewN nq).heap[w.heap.size + 1]? = _ from HQX.out)
          have HXB2 := Lib.hid (show (X.drewN nq).heap[wr.heap.size]? = _ from HXB.out)
          have HNX := Lib.hid (HS.out.next HGX.out.srt HXM.out)
          simp only at HNX
          rw [← HGG.out] at HNX
          clear cp cx cy z0 z1 HC
          generalize X.drewN nq = X2 at *
          have z0 := cell_of_blk HXB2.out 0
          have z1 := cell_of_blk HXB2.out 1
          have q0 := cell_of_blk HQX2.out 0
          have q1 := cell_of_blk HQX2.out 1
          have f0 := frozen_of_blk HQX2.out 0
          have f1 := frozen_of_blk HQX2.out 1
          simp at z0 z1 q0 q1
          generalize min ks G = mn at *
          by_cases hl : q.2 < mn
          · have HSN := Lib.hid (HNX.out.1 hl)
            have HQN := Lib.hid (show ((X2.setCell ⟨w.heap.size + 1, 0, none⟩ (.int .u64 kl)).setCell ⟨w.heap.size + 1, 1, none⟩ (.int .u64 mn)).heap[w.heap.size + 1]? = some (.cells #[.int .u64 kl, .int .u64 mn] (72) (0, 0)) by have := blk_setCell (j := 1) (blk_setCell (j := 0) HQX2.out (.int .u64 kl)) (.int .u64 mn); simpa using this)
            have HBN := Lib.hid (bset (bset HBX2.out (w.heap.size + 1) 0 (.int .u64 kl) (by omega)) (w.heap.size + 1) 1 (.int .u64 mn) (by omega))
            go_wp2_with fail
            go_roundg (gk - 1)
            case measure => omega
            case rel => exact ⟨m + 1, (kl, mn), by omega, by go_num, HSN, HQN, HBN⟩
          · have HSN := Lib.hid (HNX.out.2 hl)
            go_wp2_with fail
            go_roundg (gk - 1)
            case measure => omega
            case rel => exact ⟨m + 1, q, by omega, by go_num, HSN, HQX2, HBX2⟩
        · have HBA := Lib.hid (show IsBase xp yp q from by
            have h1 := HS.out
            rw [List.take_of_length_le (by have := HN.out; omega)] at h1
            exact h1.done HGX.out.ok HGY.out.ok (List.Perm.refl _))
          obtain ⟨_, _, _, _, _, hr⟩ := HF.out wr HB.out
          have q0 := cell_of_blk HQ.out 0
          have q1 := cell_of_blk HQ.out 1
          have r0 := cell_of_blk hr 0
          have r1 := cell_of_blk hr 1
          have f0 := frozen_of_blk hr 0
          have f1 := frozen_of_blk hr 1
          simp at q0 q1 r0 r1
          obtain ⟨Z, hZ⟩ : ∃ Z : World, Z = (wr.setCell ⟨w.heap.size, 0, none⟩ (.int .u64 q.1)).setCell ⟨w.heap.size, 1, none⟩ (.int .u64 q.2) := ⟨_, rfl⟩
          have HZX := Lib.hid (show Z.heap[w.heap.size]? = some (.cells #[.int .u64 q.1, .int .u64 q.2] (72) (0, 0)) by rw [hZ]; have := blk_setCell (j := 1) (blk_setCell (j := 0) hr (.int .u64 q.1)) (.int .u64 q.2); simpa using this)
          have HE := Lib.hid (show RefBasePost L a b w (.returned (.tuple #[.agg #[.int .u64 q.1, .int .u64 q.2], .int .i64 0])) Z from ⟨q, 0, rfl, by rw [hZ]; exact bset (bset (HB0.out.trans (HB.out.mono HB0.out.size)) _ _ _ (Nat.le_refl _)) _ _ _ (Nat.le_refl _), .inl ⟨rfl, xp, yp, HGXY.out.1, HGXY.out.2, HBA.out⟩⟩)
          clear hr hpx hpy
          go_wp2_with fail
          rw [← hZ]
          clear hZ q0 q1 r0 r1 f0 f1
          have z0 := cell_of_blk HZX.out 0
          have z1 := cell_of_blk HZX.out 1
          simp at z0 z1
          refine bodyPost_ret (v := .tuple #[.agg #[.int .u64 q.1, .int .u64 q.2], .int .i64 0]) ?_ rfl HE.out
          simp [results, Tryz.results51, go_sem, z0, z1]
    · have hi2 : ¬ (i : Int) < 0 := by omega
      have z0 := cell_of_blk HX0.out 0
      have z1 := cell_of_blk HX0.out 1
      have f0 := frozen_of_blk HX0.out 0
      have f1 := frozen_of_blk HX0.out 1
      simp at z0 z1
      obtain ⟨Z, hZ⟩ : ∃ Z : World, Z = (w2.setCell ⟨w.heap.size, 0, none⟩ (.int .u64 0)).setCell ⟨w.heap.size, 1, none⟩ (.int .u64 0) := ⟨_, rfl⟩
      have HZX := Lib.hid (show Z.heap[w.heap.size]? = some (.cells #[.int .u64 0, .int .u64 0] (72) (0, 0)) by rw [hZ]; have := blk_setCell (j := 1) (blk_setCell (j := 0) HX0.out (.int .u64 0)) (.int .u64 0); simpa using this)
      have HE := Lib.hid (show RefBasePost L a b w (.returned (.tuple #[.agg #[.int .u64 0, .int .u64 0], .int .i64 7])) Z from ⟨(0, 0), 7, rfl, by rw [hZ]; exact bset (bset HB0.out _ _ _ (Nat.le_refl _)) _ _ _ (Nat.le_refl _), .inr ⟨rfl, rfl, .inr hno⟩⟩)
      clear HA1 HA2
      go_wp2_with fail
      rw [← hZ]
      clear hZ z0 z1 f0 f1
      have z0 := cell_of_blk HZX.out 0
      have z1 := cell_of_blk HZX.out 1
      simp at z0 z1
      refine bodyPost_ret (v := .tuple #[.agg #[.int .u64 0, .int .u64 0], .int .i64 7]) ?_ rfl HE.out
      simp [results, Tryz.results51, go_sem, z0, z1]
  · go_wp2_with fail
    refine (at_any p la lc xs L b w1 H0.out).mono ?_
    rintro e w2 ⟨rfl, h2⟩
    have HA2 := Lib.hid h2
    clear h2
    rcases HA2.out with ⟨j, y, rfl, hjy, hyl, hgy⟩ | ⟨rfl, _⟩
    · have z0 := cell_of_blk HX0.out 0
      have z1 := cell_of_blk HX0.out 1
      have f0 := frozen_of_blk HX0.out 0
      have f1 := frozen_of_blk HX0.out 1
      simp at z0 z1
      obtain ⟨Z, hZ⟩ : ∃ Z : World, Z = (w2.setCell ⟨w.heap.size, 0, none⟩ (.int .u64 0)).setCell ⟨w.heap.size, 1, none⟩ (.int .u64 0) := ⟨_, rfl⟩
      have HZX := Lib.hid (show Z.heap[w.heap.size]? = some (.cells #[.int .u64 0, .int .u64 0] (72) (0, 0)) by rw [hZ]; have := blk_setCell (j := 1) (blk_setCell (j := 0) HX0.out (.int .u64 0)) (.int .u64 0); simpa using this)
      have HE := Lib.hid (show RefBasePost L a b w (.returned (.tuple #[.agg #[.int .u64 0, .int .u64 0], .int .i64 7])) Z from ⟨(0, 0), 7, rfl, by rw [hZ]; exact bset (bset HB0.out _ _ _ (Nat.le_refl _)) _ _ _ (Nat.le_refl _), .inr ⟨rfl, rfl, .inl hno⟩⟩)
      clear HA1 HA2
      go_wp2_with fail
      rw [← hZ]
      clear hZ z0 z1 f0 f1
      have z0 := cell_of_blk HZX.out 0
      have z1 := cell_of_blk HZX.out 1
      simp at z0 z1
      refine bodyPost_ret (v := .tuple #[.agg #[.int .u64 0, .int .u64 0], .int .i64 7]) ?_ rfl HE.out
      simp [results, Tryz.results51, go_sem, z0, z1]
    · have z0 := cell_of_blk HX0.out 0
      have z1 := cell_of_blk HX0.out 1
      have f0 := frozen_of_blk HX0.out 0
      have f1 := frozen_of_blk HX0.out 1
      simp at z0 z1
      obtain ⟨Z, hZ⟩ : ∃ Z : World, Z = (w2.setCell ⟨w.heap.size, 0, none⟩ (.int .u64 0)).setCell ⟨w.heap.size, 1, none⟩ (.int .u64 0) := ⟨_, rfl⟩
      have HZX := Lib.hid (show Z.heap[w.heap.size]? = some (.cells #[.int .u64 0, .int .u64 0] (72) (0, 0)) by rw [hZ]; have := blk_setCell (j := 1) (blk_setCell (j := 0) HX0.out (.int .u64 0)) (.int .u64 0); simpa using this)
      have HE := Lib.hid (show RefBasePost L a b w (.returned (.tuple #[.agg #[.int .u64 0, .int .u64 0], .int .i64 7])) Z from ⟨(0, 0), 7, rfl, by rw [hZ]; exact bset (bset HB0.out _ _ _ (Nat.le_refl _)) _ _ _ (Nat.le_refl _), .inr ⟨rfl, rfl, .inl hno⟩⟩)
      clear HA1 HA2
      go_wp2_with fail
      rw [← hZ]
      clear hZ z0 z1 f0 f1
      have z0 := cell_of_blk HZX.out 0
      have z1 := cell_of_blk HZX.out 1
      simp at z0 z1
      refine bodyPost_ret (v := .tuple #[.agg #[.int .u64 0, .int .u64 0], .int .i64 7]) ?_ rfl HE.out
      simp [results, Tryz.results51, go_sem, z0, z1]
end Go.Proofs.YticcccciefaemaaGreatDoor.Vx

namespace Go.Herb
theorem mxB_keep {b : Bh} (h : Good b) {k s : Int} (hs : 0 < s) (hk : U64 k) (hu : U64 s) (hle : ¬ g0 b k < s) : mxB b k s = b :=
  good_ext (mxB_good h hs hk hu) h (fun k' => by
    rw [g0_mxB h.srt]
    by_cases e : k' = k
    · rw [if_pos e, e]; omega
    · rw [if_neg e])
theorem mxB_take {b : Bh} {k s : Int} (hlt : g0 b k < s) : mxB b k s = putS b k s := by
  unfold mxB
  rw [Int.max_eq_right (by omega)]
theorem mixB_one (b : Bh) (k s : Int) : mixB b [(k, s)] = mxB b k s := rfl
theorem mixB_nil {b : Bh} (h : Good b) : mixB [] b = b := laid_one h
theorem above_g0 {b : Bh} (h : Good b) {s : Int} (ha : aboveB b s = true) (k : Int) : g0 b k < s := by
  obtain ⟨h0, h1⟩ := aboveB_iff.1 ha
  by_cases e : g0 b k = 0
  · omega
  · exact h1 _ (h.ok.mem_of e)
theorem laid_step {b : Bh} (h : Good b) {k s : Int} (ha : aboveB b s = true) : laidB [b, [(k, s)]] = putS b k s := by
  show mixB (mixB [] b) [(k, s)] = _
  rw [mixB_nil h, mixB_one, mxB_take (above_g0 h ha k)]
theorem mixB_snoc (b c : Bh) (p : Int × Int) : mixB b (c ++ [p]) = mxB (mixB b c) p.1 p.2 := by
  unfold mixB
  rw [List.foldl_append]
  rfl
theorem laid_merge {b c : Bh} (hb : Good b) (hc : Good c) {k s : Int} (ha : aboveB b s = true) (hd : aboveB c s = true) : laidB [b, c, [(k, s)]] = putS (mixB b c) k s := by
  show mixB (mixB (mixB [] b) c) [(k, s)] = _
  rw [mixB_nil hb, mixB_one, mxB_take]
  rw [g0_mixB hb.srt, supF_one hc.ok _ _ (hb.ok.nn k)]
  have := above_g0 hb ha k
  have := above_g0 hc hd k
  omega
theorem srt_parts {β : Type} {L : List (Int × β)} (h : SrtK L) {i : Nat} {x : Int × β} (hx : L[i]? = some x) :
    L = L.take i ++ x :: L.drop (i + 1) ∧ (∀ q ∈ L.take i, q.1 < x.1) ∧ (∀ q ∈ L.drop (i + 1), x.1 < q.1) := by
  obtain ⟨hi, rfl⟩ := List.getElem?_eq_some_iff.1 hx
  have hp := List.pairwise_iff_getElem.1 h
  refine ⟨by rw [← List.drop_eq_getElem_cons hi, List.take_append_drop], fun q hq => ?_, fun q hq => ?_⟩
  · obtain ⟨j, hj, rfl⟩ := List.getElem_of_mem hq
    rw [List.getElem_take]
    exact hp j i (by simp at hj; omega) hi (by simp at hj; omega)
  · obtain ⟨j, hj, rfl⟩ := List.getElem_of_mem hq
    rw [List.getElem_drop]
    exact hp i (i + 1 + j) hi (by simp at hj; omega) (by omega)
theorem set_putS {β : Type} {L : List (Int × β)} (h : SrtK L) {i : Nat} {x : Int × β} (hx : L[i]? = some x) (v : β) : L.set i (x.1, v) = putS L x.1 v := by
  obtain ⟨h1, h2, h3⟩ := srt_parts h hx
  have hi := (List.getElem?_eq_some_iff.1 hx).1
  have e1 : L.filter (fun p => decide (p.1 < x.1)) = L.take i := by
    refine (congrArg (List.filter _) h1).trans ?_
    rw [List.filter_append, List.filter_cons, List.filter_eq_self.2 (fun q hq => decide_eq_true (h2 q hq)), List.filter_eq_nil_iff.2 (fun q hq => by have := h3 q hq; simp; omega)]
    simp
  have e2 : L.filter (fun p => decide (x.1 < p.1)) = L.drop (i + 1) := by
    refine (congrArg (List.filter _) h1).trans ?_
    rw [List.filter_append, List.filter_cons, List.filter_eq_nil_iff.2 (fun q hq => by have := h2 q hq; simp; omega), List.filter_eq_self.2 (fun q hq => decide_eq_true (h3 q hq))]
    simp
  unfold putS
  rw [e1, e2, List.set_eq_take_append_cons_drop, if_pos hi]
theorem drop_filter {β : Type} {L : List (Int × β)} (h : SrtK L) {i : Nat} {x : Int × β} (hx : L[i]? = some x) : L.filter (fun p => decide (p.1 ≠ x.1)) = L.take i ++ L.drop (i + 1) := by
  obtain ⟨h1, h2, h3⟩ := srt_parts h hx
  refine (congrArg (List.filter _) h1).trans ?_
  rw [List.filter_append, List.filter_cons, List.filter_eq_self.2 (fun q hq => by have := h2 q hq; exact decide_eq_true (by omega)), List.filter_eq_self.2 (fun q hq => by have := h3 q hq; exact decide_eq_true (by omega))]
  simp
end Go.Herb

namespace Go.Proofs.YticcccciefaemaaGreatDoor.Vx
open Go.RowKit Go.Shelf Go.Herb

/-- The reference's answer: vectors, made by the call. -/
def RefNew (L : Vs) (w : World) (v : Value) (w' : World) : Prop := ∃ p la lc xs, v = .pointer (some ⟨p, 0, none⟩) ∧ RefIs w' p la lc xs L ∧ Below w.heap.size w w'
end Go.Proofs.YticcccciefaemaaGreatDoor.Vx

namespace Go.Proofs.YticcccciefaemaaGreatDoor.Vx
open Go.RowKit Go.Shelf Go.Herb

/-- 'append(nil, s..)': a copy of one's own. -/
theorem run_copy (w : World) (B : Nat) (a : Option Addr) (c n : Nat) (ps : Bh) (hP : Pts w a ps) (hn : ps.length = n) (hl : n < 8796093022208) (hB : B ≤ w.heap.size) (ty : TypeId) :
    ∃ v' w', (Builtin.append_ #[(66), (66)] ty #[.slice none 0 0, .slice a n c]).run Tryz.prog w = .ok v' w' ∧ OwnP B w' v' ps ∧ Below w.heap.size w w' := by
  subst hn
  obtain ⟨i0, hin, hz0, hz1, hz2⟩ := info_parts infoP
  have ho : OwnP B w (.slice none 0 0) [] := World.ownsRow_nil _ _ _ _
  cases a with
  | none =>
    have h0 : ps = [] := by
      cases ps with
      | nil => rfl
      | cons x xs => obtain ⟨b, o, h, _⟩ := hP.get 0 (by simp); cases h
    subst h0
    refine ⟨.slice none 0 0, w, ?_, ho, Below.refl _ _⟩
    have hu := Tryz.underlying66
    simp [Builtin.append_, run_underlying hu, sizeOf, typeInfo, hin, Builtin.lenOf, Builtin.firstCells]
  | some ad =>
    obtain ⟨v', w', hr, h2, h3, h4⟩ := run_append_own (P := Tryz.prog) w B (66) ty (72) i0 _ 2 16 Tryz.underlying66 hin hz0 hz1 hz2 rfl (by decide) (.slice none 0 0) 0 [] ho ad ps.length c (ps.flatMap pc) (flatMap_len pc_len _) (hP.flat pc_len (by decide)) (fun u hu => by
      obtain ⟨q, _, hq⟩ := List.mem_flatMap.1 hu
      exact pc_one q u hq) (by unfold maxLen; omega) (by omega) hB
    refine ⟨v', w', hr, ?_, h3.os, h3.tape, h3.output, h3.size, fun k hk => h3.block k hk (by simp [Value.ownBlock])⟩
    unfold OwnP
    simpa using h2
/-- The points lie in a block of the call's own, or there are none. -/
def VcO (B : Nat) (w : World) (x : Vc) : Prop := ∃ c, OwnP B w (.slice x.a x.ps.length c) x.ps
theorem VcO.kept {B : Nat} {w w' : World} {x : Vc} {row : Option Nat} (h : VcO B w x) (hg : w.grownBy w' row) (hr : ∀ r, row = some r → x.a ≠ some ⟨r, 0, none⟩) : VcO B w' x := by
  obtain ⟨cap, ho⟩ := h
  refine ⟨cap, World.ownsRow.kept ho hg ?_⟩
  rcases row_of_owns ho with ⟨h1, _⟩ | ⟨g, cap, h1, _, _⟩
  · rw [h1]; exact .inl rfl
  · refine .inr (fun e => ?_)
    rw [h1] at e
    have h2 : x.a = some ⟨g, 0, none⟩ := by injection h1
    exact hr g e.symm h2
theorem VcO.below {B : Nat} {w w' : World} {x : Vc} (h : VcO B w x) (hb : Below w.heap.size w w') : VcO B w' x := by
  obtain ⟨cap, ho⟩ := h
  exact ⟨cap, ownsRow_below ho hb (Nat.le_refl _)⟩
/-- Copies, laid by the call. -/
structure CpAt (B : Nat) (w : World) (v : Value) (ys : List Vc) (L : Vs) : Prop where
  vs : vsOf ys = L
  own : OwnV B w v ys
  at_ : ∀ y ∈ ys, VcO B w y ∧ ∀ r, v.ownBlock = some r → y.a ≠ some ⟨r, 0, none⟩
theorem CpAt.add {B : Nat} {wr w1 : World} {v : Value} {ys : List Vc} {L : Vs} {line : Int} {ps : Bh} {a1 : Option Addr} {c1 : Nat} (h : CpAt B wr v ys L) (hB : B ≤ wr.heap.size) (hb : Below wr.heap.size wr w1)
    (ho : OwnP wr.heap.size w1 (.slice a1 ps.length c1) ps) (hl : ys.length < 1000000) :
    ∃ v' w9, (∀ ty, (Builtin.append_ #[(24), (24)] ty #[v, .slice (some ⟨w1.heap.size, 0, none⟩) 1 1]).run Tryz.prog (w1.alloc (.cells #[.int .u64 line, .slice a1 ps.length c1] (68))) = .ok v' w9) ∧ CpAt B w9 v' (ys ++ [⟨line, a1, c1, ps⟩]) (L ++ [(line, ps)]) ∧ (∀ w0 : World, w0.heap.size = B → Below B w0 wr → Below B w0 w9) := by
  obtain ⟨Z, hZ⟩ : ∃ Z : World, Z = w1.alloc (.cells #[.int .u64 line, .slice a1 ps.length c1] (68)) := ⟨_, rfl⟩
  have hZb : Below w1.heap.size w1 Z := by rw [hZ]; exact (Below.refl _ _).alloc (Nat.le_refl _) _
  have hZx : Z.heap[w1.heap.size]? = some (.cells #[.int .u64 line, .slice a1 ps.length c1] (68) (0, 0)) := by rw [hZ]; exact blk_new_at rfl _
  have hZ2 : Below wr.heap.size wr Z := hb.trans (hZb.mono hb.size)
  have hs1 := hb.size
  have hs2 := hZb.size
  obtain ⟨v', w9, hr, h2, hg, h5⟩ := run_append_v Z B v ys w1.heap.size ⟨line, a1, c1, ps⟩ (ownsRow_below h.own hZ2 (Nat.le_refl _)) hZx hl (by omega) (24)
  have hvb : ∀ k, v.ownBlock = some k → B ≤ k ∧ k < wr.heap.size := fun k e => World.ownsRow.lt h.own k e
  have hab : ∀ r, a1 = some ⟨r, 0, none⟩ → wr.heap.size ≤ r ∧ r < w1.heap.size := fun r e => World.ownsRow.lt ho r (by rw [e]; rfl)
  rw [← hZ]
  refine ⟨v', w9, fun _ => hr, ⟨by rw [← h.vs]; simp [vsOf], h2, fun y hy => ?_⟩, fun w0 e0 hw => ?_⟩
  · rcases List.mem_append.1 hy with hy | hy
    · obtain ⟨g1, g2⟩ := h.at_ y hy
      refine ⟨(g1.below hZ2).kept hg g2, fun r e => ?_⟩
      rcases h5 with h5 | h5
      · exact g2 r (by rw [← h5]; exact e)
      · rw [h5] at e
        injection e with e
        obtain ⟨cp, hc⟩ := g1
        intro ha
        have := (World.ownsRow.lt hc r (by rw [ha]; rfl)).2
        omega
    · rw [List.mem_singleton.1 hy]
      refine ⟨VcO.kept (x := ⟨line, a1, c1, ps⟩) ⟨c1, ownsRow_mono (ownsRow_below ho hZb (Nat.le_refl _)) hB⟩ hg (fun r e ha => by have := (hvb r e).2; have := (hab r ha).1; omega), fun r e ha => ?_⟩
      have h3 := hab r ha
      rcases h5 with h5 | h5
      · have := (hvb r (by rw [← h5]; exact e)).2; omega
      · rw [h5] at e; injection e with e; omega
  · exact (hw.trans (hZ2.mono hB)).grown hg (by have := hw.size; omega) (fun k e => (hvb k e).1)
end Go.Proofs.YticcccciefaemaaGreatDoor.Vx

namespace Go.Proofs.YticcccciefaemaaGreatDoor.Vx
open Go.RowKit Go.Shelf Go.Herb

set_option maxRecDepth 100000 in
set_option maxHeartbeats 2000000 in
theorem refCopied_any (a : Option Addr) (cap n : Nat) (xs : List Vc) (w : World) (h : VIn w a xs) (hn : xs.length = n) (hS : Small (vsOf xs)) :
    Calls Tryz.prog (20) #[.slice a n cap] w fun e w' => ∃ v ys, e = .returned v ∧ CpAt w.heap.size w' v ys (vsOf xs) ∧ Below w.heap.size w w' := by
  have H := Lib.hid h
  have HN := Lib.hid hn
  have HS := Lib.hid hS
  have hnl : n < 100000 := by have := hS.len; rw [vsOf_len] at this; omega
  clear h hn hS
  go_enter Tryz.func20, Tryz.ntmps20
  go_wp2_with fail
  go_loopg [3, 4] n (fun gk ov iv wr => ∃ (i : Nat) (ys : List Vc), i + gk = n ∧ iv = .int .i64 i ∧ Hid (CpAt w.heap.size wr ov ys ((vsOf xs).take i)) ∧ Hid (Below w.heap.size w wr))
  case atStart => exact ⟨0, [], by omega, rfl, Lib.hid ⟨rfl, World.ownsRow_nil _ _ _ _, by simp⟩, Lib.hid (Below.refl _ _)⟩
  case round =>
    obtain ⟨i, ys, hi, rfl, HC, HB⟩ := hrel
    by_cases hlt : i < n
    · have hil : i < xs.length := by have := HN.out; omega
      obtain ⟨b, o, rfl, hlb, hc⟩ := H.out.els.get i hil
      have x0 := (HB.out.cell (p := ⟨b, _, none⟩) hlb).trans (hc 0 _ rfl)
      have x1 := (HB.out.cell (p := ⟨b, _, none⟩) hlb).trans (hc 1 _ rfl)
      simp only [Nat.add_zero] at x0 x1
      have HP := Lib.hid ((H.out.inn _ (List.getElem_mem hil)).ext HB.out)
      have HT := Lib.hid (show (vsOf xs).take (i + 1) = (vsOf xs).take i ++ [(xs[i].line, xs[i].ps)] by rw [List.take_succ_eq_append_getElem (by rw [vsOf_len]; exact hil), vsOf_get xs i hil])
      have HL := Lib.hid (show xs[i].ps.length < 8796093022208 from HS.out.inn (xs[i].line, xs[i].ps) (by unfold vsOf; exact List.mem_map.2 ⟨xs[i], List.getElem_mem hil, rfl⟩))
      clear hc
      generalize xs[i] = x at *
      obtain ⟨xl, xa, xc, xp⟩ := x
      simp only at x0 x1 HP HT HL
      have hyl : ys.length < 1000000 := by
        have := congrArg List.length HC.out.vs
        rw [vsOf_len, List.length_take] at this
        omega
      obtain ⟨v1, w1, hr1, ho1, hb1⟩ := run_copy wr.drew wr.heap.size xa xc xp.length xp (els_drewN HP.out 1) rfl (by have := HL.out; omega) (Nat.le_refl _) (66)
      obtain ⟨a1, c1, rfl, -, -, -, -⟩ := own_parts ho1
      have hb1' : Below wr.heap.size wr w1 := (Below.drew (Below.refl wr.heap.size wr)).trans hb1
      have y0 := (hb1'.cell (p := ⟨b, _, none⟩) (Nat.lt_of_lt_of_le hlb HB.out.size)).trans x0
      obtain ⟨v2, w9, hr2, hC2, hB2⟩ := HC.out.add (line := xl) HB.out.size hb1' ho1 hyl
      rw [← HT.out] at hC2
      have HC2 := Lib.hid hC2
      have HB2 := Lib.hid (hB2 w rfl HB.out)
      have HR1 := Lib.hid hr1
      have HR2 := Lib.hid hr2
      obtain ⟨pn, hpn⟩ : ∃ pn, pn = xp.length := ⟨_, rfl⟩
      rw [← hpn] at x1 HR1 HR2
      have hk0 : (0 : Int) ≤ (i : Int) := by omega
      have hk1 : (i : Int) < (n : Int) := by omega
      clear hr1 hr2 ho1 hb1 hb1' hC2 hB2 hyl hpn
      go_wp2_with fail
      go_region_law (first | (refine step_append_run rfl (.const (.slice none 0 0)) (.tmp 21) (66) (66) rfl (.slice none 0 0) (.slice xa pn xc) (by simp [Act.eval]) (by simp [Act.eval]) _ _ (HR1.out) ?_) | (refine step_append_run rfl (.tmp 11) (.tmp 24) (24) (24) rfl u3 (.slice (some ⟨w1.heap.size, 0, none⟩) 1 1) (by simp [Act.eval]) (by simp [Act.eval]) _ _ (HR2.out _) ?_))
      all_goals
        clear x0 x1 y0
        go_wp2
        go_roundg (gk - 1)
        case measure => omega
        case rel => exact ⟨i + 1, _, by omega, by go_num, HC2, HB2⟩
    · have HE := Lib.hid (show CpAt w.heap.size wr u3 ys (vsOf xs) from by
        have h1 := HC.out
        rwa [List.take_of_length_le (by rw [vsOf_len]; have := HN.out; omega)] at h1)
      go_wp2_with fail
      go_ret
      exact ⟨u3, ys, rfl, HE.out, HB.out⟩
end Go.Proofs.YticcccciefaemaaGreatDoor.Vx

namespace Go.Proofs.YticcccciefaemaaGreatDoor.Vx
open Go.RowKit Go.Shelf Go.Herb

theorem flat_set : ∀ (ys : List Vc) (i : Nat) (y : Vc) (a : Option Addr) (c : Nat) (ps : Bh), ys[i]? = some y → (ys.flatMap vc).set (i * 2 + 1) (.slice a ps.length c) = (ys.set i ⟨y.line, a, c, ps⟩).flatMap vc
  | [], _, _, _, _, _, h => by simp at h
  | z :: zs, 0, y, a, c, ps, h => by
    simp at h
    subst h
    rfl
  | z :: zs, i + 1, y, a, c, ps, h => by
    have ih := flat_set zs i y a c ps (by simpa using h)
    rw [List.set_cons_succ, List.flatMap_cons, List.flatMap_cons, ← ih, show (i + 1) * 2 + 1 = (i * 2 + 1) + 1 + 1 by omega]
    rfl
theorem rowV_set {w : World} {g cap : Nat} {ys : List Vc} (h : Row vc 2 (68) w g cap ys) {i : Nat} {y : Vc} (hy : ys[i]? = some y) (a : Option Addr) (c : Nat) (ps : Bh) :
    Row vc 2 (68) (w.setCell ⟨g, i * 2 + 1, none⟩ (.slice a ps.length c)) g cap (ys.set i ⟨y.line, a, c, ps⟩) := by
  obtain ⟨cur, hc, hsz, htk⟩ := h.blk
  refine ⟨⟨_, blk_setCell hc _, by simpa using hsz, ?_⟩, by simpa using h.le, h.max⟩
  rw [Array.toList_setIfInBounds, List.length_set, List.take_set, htk, flat_set ys i y a c ps hy]
theorem vsOf_set (ys : List Vc) (i : Nat) (l : Int) (a : Option Addr) (c : Nat) (ps : Bh) : vsOf (ys.set i ⟨l, a, c, ps⟩) = (vsOf ys).set i (l, ps) := by unfold vsOf; rw [List.map_set]
theorem owns_of_rowV {B g cap : Nat} {w : World} {ys : List Vc} (h : Row vc 2 (68) w g cap ys) (hB : B ≤ g) : OwnV B w (.slice (some ⟨g, 0, none⟩) ys.length cap) ys := by
  obtain ⟨cur, hc, hsz, htk⟩ := h.blk
  exact ⟨flatMap_len vc_len _, .inr ⟨g, cap, cur, rfl, hB, hc, h.le, h.max, hsz, htk⟩⟩
theorem CpAt.len {B : Nat} {w : World} {v : Value} {ys : List Vc} {L : Vs} (h : CpAt B w v ys L) : ys.length = L.length := by rw [← h.vs, vsOf_len]
/-- Copies, of which one is stored anew. -/
theorem CpAt.set {B B' : Nat} {w : World} {g n cap : Nat} {ys : List Vc} {L : Vs} {i : Nat} {y : Vc} {a : Option Addr} {c : Nat} {ps : Bh}
    (h : CpAt B w (.slice (some ⟨g, 0, none⟩) n cap) ys L) (hy : ys[i]? = some y) (ho : OwnP B' w (.slice a ps.length c) ps) (hB : B ≤ B') (hg : g < B') :
    CpAt B (w.setCell ⟨g, i * 2 + 1, none⟩ (.slice a ps.length c)) (.slice (some ⟨g, 0, none⟩) n cap) (ys.set i ⟨y.line, a, c, ps⟩) (L.set i (y.line, ps)) := by
  have hgr : w.grownBy (w.setCell ⟨g, i * 2 + 1, none⟩ (.slice a ps.length c)) (some g) := grown_set (grown_refl _ _) _ _
  refine ⟨by rw [vsOf_set, h.vs], ?_, fun z hz => ?_⟩
  · rcases row_of_owns h.own with ⟨h1, h2⟩ | ⟨g', cap', h1, h2, h3⟩
    · injection h1 with h1; cases h1
    · injection h1 with h1 h4 h5
      injection h1 with h1
      injection h1 with h1
      subst h1 h4 h5
      have := owns_of_rowV (rowV_set h3 hy a c ps) h2
      rwa [List.length_set] at this
  · rcases List.mem_or_eq_of_mem_set hz with hz | rfl
    · obtain ⟨g1, g2⟩ := h.at_ z hz
      exact ⟨g1.kept hgr (fun r e => g2 r (by rw [← e]; rfl)), g2⟩
    · have hlt : ∀ r, a = some ⟨r, 0, none⟩ → B' ≤ r := fun r e => (World.ownsRow.lt ho r (by rw [e]; rfl)).1
      refine ⟨VcO.kept (x := ⟨y.line, a, c, ps⟩) ⟨c, ownsRow_mono ho hB⟩ hgr (fun r e ha => ?_), fun r e ha => ?_⟩
      · injection e with e
        have := hlt r ha
        omega
      · have h1 := hlt r ha
        have e2 : g = r := by injection e
        omega
  
theorem VcO.pts {B : Nat} {w : World} {x : Vc} (h : VcO B w x) : Pts w x.a x.ps := by
  obtain ⟨cap, ho⟩ := h
  exact owns_els pc_len ho
theorem CpAt.vin {B : Nat} {w : World} {va : Option Addr} {n cap : Nat} {ys : List Vc} {L : Vs} (h : CpAt B w (.slice va n cap) ys L) (hG : GoodV L) : n = ys.length ∧ VIn w va ys := by
  have hm : ∀ x ∈ ys, (x.line, x.ps) ∈ L := fun x hx => by rw [← h.vs]; exact List.mem_map.2 ⟨x, hx, rfl⟩
  obtain ⟨a', c', e, -, hl1, hl2, -⟩ := own_parts h.own
  injection e with e1 e2 e3
  subst e1 e2 e3
  refine ⟨rfl, owns_els vc_len h.own, fun x hx => (h.at_ x hx).1.pts, fun x h => ⟨hG.wf _ (hm x h), fun q hq => (hG.inn _ (hm x h)).wf q hq⟩, Nat.le_trans hl1 hl2, fun x hx => ?_⟩
  obtain ⟨c, hc⟩ := (h.at_ x hx).1
  obtain ⟨_, _, _, -, h1, h2, -⟩ := own_parts hc
  exact Nat.le_trans h1 h2
theorem CpAt.get {B : Nat} {w : World} {v : Value} {ys xs : List Vc} {i : Nat} {x : Vc} (h : CpAt B w v ys (vsOf xs)) (hx : xs[i]? = some x) : ∃ y, ys[i]? = some y ∧ y.line = x.line ∧ y.ps = x.ps := by
  have h1 : (vsOf ys)[i]? = some (x.line, x.ps) := by rw [h.vs]; unfold vsOf; rw [List.getElem?_map, hx]; rfl
  unfold vsOf at h1
  rw [List.getElem?_map] at h1
  obtain ⟨y, h2, h3⟩ := Option.map_eq_some_iff.1 h1
  injection h3 with h3 h4
  exact ⟨y, h2, h3, h4⟩
theorem CpAt.below {B : Nat} {w w' : World} {v : Value} {ys : List Vc} {L : Vs} (h : CpAt B w v ys L) (hb : Below w.heap.size w w') : CpAt B w' v ys L :=
  ⟨h.vs, ownsRow_below h.own hb (Nat.le_refl _), fun y hy => ⟨(h.at_ y hy).1.below hb, (h.at_ y hy).2⟩⟩
/-- Copies behind a pointer: the reference's vectors. -/
theorem CpAt.ref {B p : Nat} {w : World} {va : Option Addr} {n cap : Nat} {ys : List Vc} {L : Vs} (h : CpAt B w (.slice va n cap) ys L) (hG : GoodV L) (hp : w.heap[p]? = some (.cells #[.slice va n cap] (83) (0, 0))) : RefIs w p va cap ys L := by
  obtain ⟨rfl, hv⟩ := h.vin hG
  exact ⟨hp, hv, h.vs⟩
/-- The reference's new vectors, of which a line's points may be stored anew. -/
structure NAt (B q g n cap : Nat) (u : World) (ys : List Vc) (L : Vs) : Prop where
  cp : CpAt B u (.slice (some ⟨g, 0, none⟩) n cap) ys L
  blk : u.heap[q]? = some (.cells #[.slice (some ⟨g, 0, none⟩) n cap] (83) (0, 0))
  lt : g < q
  lb : B ≤ g
theorem NAt.below {B q g n cap : Nat} {u u' : World} {ys : List Vc} {L : Vs} (h : NAt B q g n cap u ys L) (hb : Below u.heap.size u u') : NAt B q g n cap u' ys L := ⟨h.cp.below hb, blk_below h.blk hb (lt_of_blk h.blk), h.lt, h.lb⟩
theorem NAt.row {B q g n cap : Nat} {u : World} {ys : List Vc} {L : Vs} (h : NAt B q g n cap u ys L) : n = ys.length ∧ Row vc 2 (68) u g cap ys := by
  rcases row_of_owns h.cp.own with ⟨h1, _⟩ | ⟨g', cap', h1, _, h3⟩
  · injection h1 with h1; cases h1
  · injection h1 with h1 h4 h5
    injection h1 with h1
    injection h1 with h1
    subst h1 h4 h5
    exact ⟨rfl, h3⟩
theorem NAt.cells {B q g n cap : Nat} {u : World} {ys : List Vc} {L : Vs} (h : NAt B q g n cap u ys L) {i : Nat} {y : Vc} (hy : ys[i]? = some y) :
    u.cell? ⟨q, 0, none⟩ = some (.slice (some ⟨g, 0, none⟩) n cap) ∧ u.cell? ⟨g, i * 2 + 1, none⟩ = some (.slice y.a y.ps.length y.c) ∧ u.frozen? ⟨g, i * 2 + 1, none⟩ = false ∧ Pts u y.a y.ps := by
  obtain ⟨hi, rfl⟩ := List.getElem?_eq_some_iff.1 hy
  have h0 := cell_of_blk h.blk 0
  simp at h0
  exact ⟨h0, h.row.2.cell vc_len i hi 1 _ rfl, h.row.2.frozen _, (h.cp.at_ _ (List.getElem_mem hi)).1.pts⟩
/-- A call that laid points, then the store. -/
theorem NAt.put {B q g n cap : Nat} {W u : World} {ys : List Vc} {L : Vs} (h : NAt B q g n cap W ys L) {i : Nat} {y : Vc} (hy : ys[i]? = some y) {a : Option Addr} {c k : Nat} {ps : Bh} (hb : Below W.heap.size W u) (ho : OwnP W.heap.size u (.slice a k c) ps) (hk : k = ps.length) (hB : B ≤ W.heap.size) :
    NAt B q g n cap (u.setCell ⟨g, i * 2 + 1, none⟩ (.slice a k c)) (ys.set i ⟨y.line, a, c, ps⟩) (L.set i (y.line, ps)) ∧ ∀ w0 : World, w0.heap.size ≤ B → Below w0.heap.size w0 W → Below w0.heap.size w0 (u.setCell ⟨g, i * 2 + 1, none⟩ (.slice a k c)) := by
  subst hk
  have h' := h.below hb
  have hq := lt_of_blk h.blk
  have hl := h.lt
  refine ⟨⟨h'.cp.set hy ho hB (by omega), blk_setCell_other h'.blk (by show q ≠ g; omega) _, h.lt, h.lb⟩, fun w0 h0 hw => ?_⟩
  have h1 : Below w0.heap.size w0 u := hw.trans (hb.mono hw.size)
  exact h1.grown (grown_set (grown_refl _ _) _ _ : u.grownBy _ (some g)) h1.size (fun k e => by injection e with e; have := h.lb; omega)
theorem NAt.ref {B q g n cap : Nat} {u : World} {ys : List Vc} {L : Vs} (h : NAt B q g n cap u ys L) (hG : GoodV L) : RefIs u q (some ⟨g, 0, none⟩) cap ys L := h.cp.ref hG h.blk
def RefPost (r : Int × Vs) (w : World) (e : Ending) (w' : World) : Prop :=
  ∃ v, e = .returned (.tuple #[v, .int .i64 r.1]) ∧ (r.1 = 0 → ∃ p la lc xs, v = .pointer (some ⟨p, 0, none⟩) ∧ RefIs w' p la lc xs r.2) ∧ (r.1 ≠ 0 → v = .pointer none) ∧ Below w.heap.size w w'
theorem refErr {r : Int × Vs} {w w' : World} (h : r.1 ≠ 0) (hb : Below w.heap.size w w') : RefPost r w (.returned (.tuple #[.pointer none, .int .i64 r.1])) w' := ⟨_, rfl, fun h0 => absurd h0 h, fun _ => rfl, hb⟩
theorem refOk {r : Int × Vs} {w w' : World} {p : Nat} {la : Option Addr} {lc : Nat} {xs : List Vc} (h0 : r.1 = 0) (h : RefIs w' p la lc xs r.2) (hb : Below w.heap.size w w') : RefPost r w (.returned (.tuple #[.pointer (some ⟨p, 0, none⟩), .int .i64 r.1])) w' :=
  ⟨_, rfl, fun _ => ⟨p, la, lc, xs, rfl, h⟩, fun h1 => absurd h0 h1, hb⟩
end Go.Proofs.YticcccciefaemaaGreatDoor.Vx
