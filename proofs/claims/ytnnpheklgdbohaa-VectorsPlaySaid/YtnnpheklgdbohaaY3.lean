/- ref16: Base. No condition. -/
import Derived.Test.YtnnpheklgdbohaaY2
namespace Go.Herb
theorem BaseSt.next {a b : Bh} {i : Nat} {p x : Int × Int} (h : BaseSt b (a.take i) p) (ha : SrtK a) (hx : a[i]? = some x) :
    (p.2 < min x.2 (g0 b x.1) → BaseSt b (a.take (i + 1)) (x.1, min x.2 (g0 b x.1))) ∧ (¬ p.2 < min x.2 (g0 b x.1) → BaseSt b (a.take (i + 1)) p) := by
  obtain ⟨hi, rfl⟩ := List.getElem?_eq_some_iff.1 hx
  rw [List.take_succ_eq_append_getElem hi]
  have hnn := h.nn
  refine ⟨fun hlt => h.take (by omega) (.inl hlt), fun hge => h.keep ?_⟩
  rcases Int.lt_or_le 0 p.2 with h0 | h0
  · obtain ⟨q, hq, hq1, _⟩ := h.at_ h0
    obtain ⟨j, hj, he⟩ := List.getElem_of_mem hq
    rw [List.getElem_take] at he
    have hj' : j < i := by simp at hj; omega
    have := List.pairwise_iff_getElem.1 ha j i (by omega) hi hj'
    rw [he] at this
    omega
  · omega
end Go.Herb
namespace Go.Proofs.Ytnnpheklgdbohaa
open Go.RowKit Go.Shelf Go.Herb

def RefBasePost (L : Vs) (a b : Int) (w : World) (e : Ending) (w' : World) : Prop :=
  ∃ (q : Int × Int) (er : Int), e = .returned (.tuple #[.agg #[.int .u64 q.1, .int .u64 q.2], .int .i64 er]) ∧ Below w.heap.size w w' ∧
    ((er = 0 ∧ ∃ x y, getL L a = some x ∧ getL L b = some y ∧ IsBase x y q) ∨ (er = 7 ∧ q = (0, 0) ∧ (getL L a = none ∨ getL L b = none)))

set_option maxRecDepth 100000 in
set_option maxHeartbeats 2000000 in
theorem refBase_any (p : Nat) (la : Option Addr) (lc : Nat) (xs : List Vc) (L : Vs) (a b : Int) (w : World) (h : RefIs w p la lc xs L) (hG : GoodV L) :
    Calls Try.prog (40) #[.pointer (some ⟨p, 0, none⟩), .int .u64 a, .int .u64 b] w (RefBasePost L a b w) := by
  have H := Lib.hid h
  have HG := Lib.hid hG
  obtain ⟨W0, hW0⟩ : ∃ W0 : World, W0 = w.alloc (.cells #[.int .u64 0, .int .u64 0] (34)) := ⟨_, rfl⟩
  have hb0 : Below w.heap.size w W0 := by rw [hW0]; exact (Below.refl _ _).alloc (Nat.le_refl _) _
  have hs0 : W0.heap.size = w.heap.size + 1 := by rw [hW0]; simp
  have hx0 : W0.heap[w.heap.size]? = some (.cells #[.int .u64 0, .int .u64 0] (34) (0, 0)) := by rw [hW0]; exact blk_new_at rfl _
  have HB0 := Lib.hid hb0
  have HX0 := Lib.hid hx0
  have H0 := Lib.hid (h.below hb0)
  clear h hG hb0 hx0
  go_enter Try.func40, Try.ntmps40
  go_wp2_with fail
  rw [← hW0]
  clear hW0
  refine (at_any p la lc xs L a W0 H0.out).mono ?_
  rintro e w1 ⟨rfl, h1⟩
  have HA1 := Lib.hid h1
  clear h1
  rcases HA1.out with ⟨i, x, rfl, hix, hxl, hgx⟩ | ⟨rfl, hno⟩
  · go_wp2_with fail
    refine (at_any p la lc xs L b w1 H0.out).mono ?_
    rintro e w2 ⟨rfl, h2⟩
    have HA2 := Lib.hid h2
    clear h2
    rcases HA2.out with ⟨j, y, rfl, hjy, hyl, hgy⟩ | ⟨rfl, hno⟩
    · obtain ⟨hil, hxe⟩ := List.getElem?_eq_some_iff.1 hix
      obtain ⟨hjl, hye⟩ := List.getElem?_eq_some_iff.1 hjy
      obtain ⟨lb, lo, rfl, hlb, hc⟩ := H0.out.inn.els.get i hil
      obtain ⟨lb2, lo2, he, _, hd⟩ := H0.out.inn.els.get j hjl
      injection he with he
      cases he
      have HPX := Lib.hid (H0.out.inn.inn _ (List.getElem_mem hil))
      have HPY := Lib.hid (H0.out.inn.inn _ (List.getElem_mem hjl))
      have HLX := Lib.hid (H0.out.inn.lens _ (List.getElem_mem hil))
      have HLY := Lib.hid (H0.out.inn.lens _ (List.getElem_mem hjl))
      have c1 := hc 1 _ rfl
      have d1 := hd 1 _ rfl
      rw [hxe] at HPX HLX c1
      rw [hye] at HPY HLY d1
      obtain ⟨xl, xa, xc, xp⟩ := x
      obtain ⟨yl, ya, yc, yp⟩ := y
      simp only at HPX HPY HLX HLY c1 d1 hgx hgy hxl hyl
      obtain ⟨n, hn⟩ : ∃ n, n = xp.length := ⟨_, rfl⟩
      obtain ⟨n2, hn2⟩ : ∃ n, n = yp.length := ⟨_, rfl⟩
      obtain ⟨n3, hn3⟩ : ∃ n, n = xs.length := ⟨_, rfl⟩
      rw [← hn] at c1 HLX
      rw [← hn2] at d1 HLY
      have HN := Lib.hid hn
      have HN2 := Lib.hid hn2
      have HGX := Lib.hid (HG.out.get hgx).1
      have HGY := Lib.hid (HG.out.get hgy).1
      have HF : Hid (∀ u, Below w2.heap.size w2 u → u.cell? ⟨p, 0, none⟩ = some (.slice (some ⟨lb, lo, none⟩) n3 lc) ∧ u.cell? ⟨lb, lo + i * 2 + 1, none⟩ = some (.slice xa n xc) ∧ u.cell? ⟨lb, lo + j * 2 + 1, none⟩ = some (.slice ya n2 yc) ∧ Pts u xa xp ∧ Pts u ya yp ∧ u.heap[w.heap.size]? = some (.cells #[.int .u64 0, .int .u64 0] (34) (0, 0))) := Lib.hid (fun u hu => by
        have hp0 := cell_of_blk ((hu.block p (lt_of_blk H0.out.blk)).trans H0.out.blk) 0
        simp at hp0
        rw [← hn3] at hp0
        exact ⟨hp0, (hu.cell (p := ⟨lb, _, none⟩) hlb).trans c1, (hu.cell (p := ⟨lb, _, none⟩) hlb).trans d1, HPX.out.ext hu, HPY.out.ext hu, (hu.block _ (by omega)).trans HX0.out⟩)
      have hi0 : (0 : Int) ≤ (i : Int) := by omega
      have hi1 : (i : Int) < (n3 : Int) := by omega
      have hj0 : (0 : Int) ≤ (j : Int) := by omega
      have hj1 : (j : Int) < (n3 : Int) := by omega
      have hi2 : ¬ (i : Int) < 0 := by omega
      have hj2 : ¬ (j : Int) < 0 := by omega
      have hnm := HLX.out
      unfold maxLen at hnm
      have HGXY := Lib.hid (And.intro hgx hgy)
      obtain ⟨W2, hW2⟩ : ∃ W2 : World, W2 = w2.alloc (.cells #[.int .u64 0, .int .u64 0] (34)) := ⟨_, rfl⟩
      have HB2 := Lib.hid (show Below w2.heap.size w2 W2 by rw [hW2]; exact (Below.refl _ _).alloc (Nat.le_refl _) _)
      have HX2 := Lib.hid (show W2.heap[w.heap.size + 1]? = some (.cells #[.int .u64 0, .int .u64 0] (34) (0, 0)) by rw [hW2, ← hs0]; exact blk_new_at rfl _)
      clear hc hd c1 d1 hxe hye hix hjy hil hjl hgx hgy hn hn2 hn3 HA1 HA2
      go_wp2_with fail
      rw [← hW2]
      clear hW2
      go_loopg [11] n (fun gk iv wr => ∃ (m : Nat) (q : Int × Int), m + gk = n ∧ iv = .int .i64 m ∧ Hid (BaseSt yp (xp.take m) q) ∧ Hid (wr.heap[w.heap.size + 1]? = some (.cells #[.int .u64 q.1, .int .u64 q.2] (34) (0, 0))) ∧ Hid (Below w2.heap.size w2 wr))
      case atStart => exact ⟨0, (0, 0), by omega, rfl, Lib.hid (BaseSt.start _), HX2, HB2⟩
      case round =>
        obtain ⟨m, q, hm, rfl, HS, HQ, HB⟩ := hrel
        obtain ⟨cp, cx, cy, hpx, hpy, _⟩ := HF.out wr HB.out
        by_cases hlt : m < n
        · obtain ⟨b3, o3, rfl, hlb3, hc⟩ := hpx.get m (by have := HN.out; omega)
          have HXM := Lib.hid (List.getElem?_eq_getElem (show m < xp.length by have := HN.out; omega))
          have x0 := hc 0 _ rfl
          have x1 := hc 1 _ rfl
          simp only [Nat.add_zero] at x0 x1
          clear hc hpx hpy
          generalize xp[m]'(by have := HN.out; omega) = z at *
          obtain ⟨kl, ks⟩ := z
          simp only at x0 x1
          obtain ⟨X, hX⟩ : ∃ X : World, X = wr.alloc (.cells #[.int .u64 kl, .int .u64 ks] (34)) := ⟨_, rfl⟩
          have hXb : Below wr.heap.size wr X := by rw [hX]; exact (Below.refl _ _).alloc (Nat.le_refl _) _
          have HBX := Lib.hid (HB.out.trans (hXb.mono HB.out.size))
          have HXB := Lib.hid (show X.heap[wr.heap.size]? = some (.cells #[.int .u64 kl, .int .u64 ks] (34) (0, 0)) by rw [hX]; exact blk_new_at rfl _)
          have HQX := Lib.hid (blk_below HQ.out hXb (lt_of_blk HQ.out))
          have hm0 : (0 : Int) ≤ (m : Int) := by omega
          have hm1 : (m : Int) < (n : Int) := by omega
          clear hXb
          go_wp2_with fail
          rw [← hX]
          clear hX cp cx cy x0 x1
          obtain ⟨cp, cx, cy, _, _, _⟩ := HF.out X HBX.out
          have z0 := cell_of_blk HXB.out 0
          have z1 := cell_of_blk HXB.out 1
          simp at z0 z1
          have HC := Lib.hid (fun t => (refOf_any ya yc n2 yp kl (X.drewN t) (els_drewN (HF.out X HBX.out).2.2.2.2.1 t) HN2.out.symm HLY.out).mono (fun e w' (h : e = .returned (.int .u64 (g0 yp kl)) ∧ w' = X.drewN t) => (show e = .returned (.int .u64 (g0 yp kl)) ∧ ∃ n, w' = (X.drewN t).drewN n from ⟨h.1, 0, by rw [h.2]; rfl⟩)))
          obtain ⟨G, hG⟩ : ∃ G, G = g0 yp kl := ⟨_, rfl⟩
          rw [← hG] at HC
          have HGG := Lib.hid hG
          clear hG
          go_quiet ((go_at_call 45; exact Calls.quiet_of (HC.out _)))
          have HBX2 := Lib.hid (below_drN HBX.out nq)
          have HQX2 := Lib.hid (show (X.drewN nq).heap[w.heap.size + 1]? = _ from HQX.out)
          have HXB2 := Lib.hid (show (X.drewN nq).heap[wr.heap.size]? = _ from HXB.out)
          have HNX := Lib.hid (HS.out.next HGX.out.srt HXM.out)
          simp only at HNX
          rw [← HGG.out] at HNX
          clear cp cx cy z0 z1 HC
          generalize X.drewN nq = X2 at *
          have z0 := cell_of_blk HXB2.out 0
          have z1 := cell_of_blk HXB2.out 1
          have q0 := cell_of_blk HQX2.out 0
          have q1 := cell_of_blk HQX2.out 1
          have f0 := frozen_of_blk HQX2.out 0
          have f1 := frozen_of_blk HQX2.out 1
          simp at z0 z1 q0 q1
          generalize min ks G = mn at *
          by_cases hl : q.2 < mn
          · have HSN := Lib.hid (HNX.out.1 hl)
            have HQN := Lib.hid (show ((X2.setCell ⟨w.heap.size + 1, 0, none⟩ (.int .u64 kl)).setCell ⟨w.heap.size + 1, 1, none⟩ (.int .u64 mn)).heap[w.heap.size + 1]? = some (.cells #[.int .u64 kl, .int .u64 mn] (34) (0, 0)) by have := blk_setCell (j := 1) (blk_setCell (j := 0) HQX2.out (.int .u64 kl)) (.int .u64 mn); simpa using this)
            have HBN := Lib.hid (bset (bset HBX2.out (w.heap.size + 1) 0 (.int .u64 kl) (by omega)) (w.heap.size + 1) 1 (.int .u64 mn) (by omega))
            go_wp2_with fail
            go_roundg (gk - 1)
            case measure => omega
            case rel => exact ⟨m + 1, (kl, mn), by omega, by go_num, HSN, HQN, HBN⟩
          · have HSN := Lib.hid (HNX.out.2 hl)
            go_wp2_with fail
            go_roundg (gk - 1)
            case measure => omega
            case rel => exact ⟨m + 1, q, by omega, by go_num, HSN, HQX2, HBX2⟩
        · have HBA := Lib.hid (show IsBase xp yp q from by
            have h1 := HS.out
            rw [List.take_of_length_le (by have := HN.out; omega)] at h1
            exact h1.done HGX.out.ok HGY.out.ok (List.Perm.refl _))
          obtain ⟨_, _, _, _, _, hr⟩ := HF.out wr HB.out
          have q0 := cell_of_blk HQ.out 0
          have q1 := cell_of_blk HQ.out 1
          have r0 := cell_of_blk hr 0
          have r1 := cell_of_blk hr 1
          have f0 := frozen_of_blk hr 0
          have f1 := frozen_of_blk hr 1
          simp at q0 q1 r0 r1
          obtain ⟨Z, hZ⟩ : ∃ Z : World, Z = (wr.setCell ⟨w.heap.size, 0, none⟩ (.int .u64 q.1)).setCell ⟨w.heap.size, 1, none⟩ (.int .u64 q.2) := ⟨_, rfl⟩
          have HZX := Lib.hid (show Z.heap[w.heap.size]? = some (.cells #[.int .u64 q.1, .int .u64 q.2] (34) (0, 0)) by rw [hZ]; have := blk_setCell (j := 1) (blk_setCell (j := 0) hr (.int .u64 q.1)) (.int .u64 q.2); simpa using this)
          have HE := Lib.hid (show RefBasePost L a b w (.returned (.tuple #[.agg #[.int .u64 q.1, .int .u64 q.2], .int .i64 0])) Z from ⟨q, 0, rfl, by rw [hZ]; exact bset (bset (HB0.out.trans (HB.out.mono HB0.out.size)) _ _ _ (Nat.le_refl _)) _ _ _ (Nat.le_refl _), .inl ⟨rfl, xp, yp, HGXY.out.1, HGXY.out.2, HBA.out⟩⟩)
          clear hr hpx hpy
          go_wp2_with fail
          rw [← hZ]
          clear hZ q0 q1 r0 r1 f0 f1
          have z0 := cell_of_blk HZX.out 0
          have z1 := cell_of_blk HZX.out 1
          simp at z0 z1
          refine bodyPost_ret (v := .tuple #[.agg #[.int .u64 q.1, .int .u64 q.2], .int .i64 0]) ?_ rfl HE.out
          simp [results, Try.results40, go_sem, z0, z1]
    · have hi2 : ¬ (i : Int) < 0 := by omega
      have z0 := cell_of_blk HX0.out 0
      have z1 := cell_of_blk HX0.out 1
      have f0 := frozen_of_blk HX0.out 0
      have f1 := frozen_of_blk HX0.out 1
      simp at z0 z1
      obtain ⟨Z, hZ⟩ : ∃ Z : World, Z = (w2.setCell ⟨w.heap.size, 0, none⟩ (.int .u64 0)).setCell ⟨w.heap.size, 1, none⟩ (.int .u64 0) := ⟨_, rfl⟩
      have HZX := Lib.hid (show Z.heap[w.heap.size]? = some (.cells #[.int .u64 0, .int .u64 0] (34) (0, 0)) by rw [hZ]; have := blk_setCell (j := 1) (blk_setCell (j := 0) HX0.out (.int .u64 0)) (.int .u64 0); simpa using this)
      have HE := Lib.hid (show RefBasePost L a b w (.returned (.tuple #[.agg #[.int .u64 0, .int .u64 0], .int .i64 7])) Z from ⟨(0, 0), 7, rfl, by rw [hZ]; exact bset (bset HB0.out _ _ _ (Nat.le_refl _)) _ _ _ (Nat.le_refl _), .inr ⟨rfl, rfl, .inr hno⟩⟩)
      clear HA1 HA2
      go_wp2_with fail
      rw [← hZ]
      clear hZ z0 z1 f0 f1
      have z0 := cell_of_blk HZX.out 0
      have z1 := cell_of_blk HZX.out 1
      simp at z0 z1
      refine bodyPost_ret (v := .tuple #[.agg #[.int .u64 0, .int .u64 0], .int .i64 7]) ?_ rfl HE.out
      simp [results, Try.results40, go_sem, z0, z1]
  · go_wp2_with fail
    refine (at_any p la lc xs L b w1 H0.out).mono ?_
    rintro e w2 ⟨rfl, h2⟩
    have HA2 := Lib.hid h2
    clear h2
    rcases HA2.out with ⟨j, y, rfl, hjy, hyl, hgy⟩ | ⟨rfl, _⟩
    · have z0 := cell_of_blk HX0.out 0
      have z1 := cell_of_blk HX0.out 1
      have f0 := frozen_of_blk HX0.out 0
      have f1 := frozen_of_blk HX0.out 1
      simp at z0 z1
      obtain ⟨Z, hZ⟩ : ∃ Z : World, Z = (w2.setCell ⟨w.heap.size, 0, none⟩ (.int .u64 0)).setCell ⟨w.heap.size, 1, none⟩ (.int .u64 0) := ⟨_, rfl⟩
      have HZX := Lib.hid (show Z.heap[w.heap.size]? = some (.cells #[.int .u64 0, .int .u64 0] (34) (0, 0)) by rw [hZ]; have := blk_setCell (j := 1) (blk_setCell (j := 0) HX0.out (.int .u64 0)) (.int .u64 0); simpa using this)
      have HE := Lib.hid (show RefBasePost L a b w (.returned (.tuple #[.agg #[.int .u64 0, .int .u64 0], .int .i64 7])) Z from ⟨(0, 0), 7, rfl, by rw [hZ]; exact bset (bset HB0.out _ _ _ (Nat.le_refl _)) _ _ _ (Nat.le_refl _), .inr ⟨rfl, rfl, .inl hno⟩⟩)
      clear HA1 HA2
      go_wp2_with fail
      rw [← hZ]
      clear hZ z0 z1 f0 f1
      have z0 := cell_of_blk HZX.out 0
      have z1 := cell_of_blk HZX.out 1
      simp at z0 z1
      refine bodyPost_ret (v := .tuple #[.agg #[.int .u64 0, .int .u64 0], .int .i64 7]) ?_ rfl HE.out
      simp [results, Try.results40, go_sem, z0, z1]
    · have z0 := cell_of_blk HX0.out 0
      have z1 := cell_of_blk HX0.out 1
      have f0 := frozen_of_blk HX0.out 0
      have f1 := frozen_of_blk HX0.out 1
      simp at z0 z1
      obtain ⟨Z, hZ⟩ : ∃ Z : World, Z = (w2.setCell ⟨w.heap.size, 0, none⟩ (.int .u64 0)).setCell ⟨w.heap.size, 1, none⟩ (.int .u64 0) := ⟨_, rfl⟩
      have HZX := Lib.hid (show Z.heap[w.heap.size]? = some (.cells #[.int .u64 0, .int .u64 0] (34) (0, 0)) by rw [hZ]; have := blk_setCell (j := 1) (blk_setCell (j := 0) HX0.out (.int .u64 0)) (.int .u64 0); simpa using this)
      have HE := Lib.hid (show RefBasePost L a b w (.returned (.tuple #[.agg #[.int .u64 0, .int .u64 0], .int .i64 7])) Z from ⟨(0, 0), 7, rfl, by rw [hZ]; exact bset (bset HB0.out _ _ _ (Nat.le_refl _)) _ _ _ (Nat.le_refl _), .inr ⟨rfl, rfl, .inl hno⟩⟩)
      clear HA1 HA2
      go_wp2_with fail
      rw [← hZ]
      clear hZ z0 z1 f0 f1
      have z0 := cell_of_blk HZX.out 0
      have z1 := cell_of_blk HZX.out 1
      simp at z0 z1
      refine bodyPost_ret (v := .tuple #[.agg #[.int .u64 0, .int .u64 0], .int .i64 7]) ?_ rfl HE.out
      simp [results, Try.results40, go_sem, z0, z1]
end Go.Proofs.Ytnnpheklgdbohaa
