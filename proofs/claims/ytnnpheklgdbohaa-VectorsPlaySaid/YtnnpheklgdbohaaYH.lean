/- law16: same, of vectors that are the same. Condition: at most 41 lines. -/
import Derived.Test.YtnnpheklgdbohaaYG
namespace Go.Proofs.Ytnnpheklgdbohaa
open Go.RowKit Go.Shelf Go.Herb Go.Sort

theorem base_same {L : Vs} {a b er er' : Int} {q q' : Int × Int} (h : (er = 0 ∧ ∃ x y, getL L a = some x ∧ getL L b = some y ∧ IsBase x y q) ∨ (er = 7 ∧ q = (0, 0) ∧ (getL L a = none ∨ getL L b = none)))
    (k : (er' = 0 ∧ ∃ x y, getL L a = some x ∧ getL L b = some y ∧ IsBase x y q') ∨ (er' = 7 ∧ q' = (0, 0) ∧ (getL L a = none ∨ getL L b = none))) : q' = q ∧ er' = er := by
  rcases h with ⟨rfl, x, y, h1, h2, h3⟩ | ⟨rfl, rfl, h1⟩
  · rcases k with ⟨rfl, x', y', k1, k2, k3⟩ | ⟨rfl, rfl, k1⟩
    · rw [h1] at k1
      rw [h2] at k2
      injection k1 with k1
      injection k2 with k2
      subst k1 k2
      exact ⟨k3.uniq h3, rfl⟩
    · rcases k1 with k1 | k1
      · rw [h1] at k1; cases k1
      · rw [h2] at k1; cases k1
  · rcases k with ⟨rfl, x', y', k1, k2, k3⟩ | ⟨rfl, rfl, k1⟩
    · rcases h1 with h1 | h1
      · rw [h1] at k1; cases k1
      · rw [h1] at k2; cases k2
    · exact ⟨rfl, rfl⟩
set_option maxRecDepth 100000 in
theorem sameNil_any (x : Ac) (w : World) :
    Calls Try.prog (19) #[.pointer none, .pointer none, .agg #[.int .u8 x.kind, .int .u64 x.line, .int .u64 x.other, .int .u64 x.n]] w fun e w' => e = .returned (.bool true) ∧ Below w.heap.size w w' := by
  have HB := Lib.hid (show Below w.heap.size w (w.alloc (.cells #[.int .u8 x.kind, .int .u64 x.line, .int .u64 x.other, .int .u64 x.n] (40))) from (Below.refl _ _).alloc (Nat.le_refl _) _)
  go_enter Try.func19, Try.ntmps19
  go_wp2_with fail
  go_ret
  exact ⟨rfl, HB.out⟩
set_option maxRecDepth 100000 in
set_option maxHeartbeats 2000000 in
theorem same_any (p mb : Nat) (M : List (Int × Nat)) (r : Nat) (la : Option Addr) (lc : Nat) (xs : List Vc) (L : Vs) (x : Ac) (w : World) (hv : VecIs w p mb M L) (hr : RefIs w r la lc xs L) (hG : GoodV L) (hS : Small L) (h41 : L.length ≤ 41) :
    Calls Try.prog (19) #[.pointer (some ⟨p, 0, none⟩), .pointer (some ⟨r, 0, none⟩), .agg #[.int .u8 x.kind, .int .u64 x.line, .int .u64 x.other, .int .u64 x.n]] w fun e w' => e = .returned (.bool true) ∧ Below w.heap.size w w' := by
  obtain ⟨W0, hW0⟩ : ∃ W0 : World, W0 = w.alloc (.cells #[.int .u8 x.kind, .int .u64 x.line, .int .u64 x.other, .int .u64 x.n] (40)) := ⟨_, rfl⟩
  have hb0 : Below w.heap.size w W0 := by rw [hW0]; exact (Below.refl _ _).alloc (Nat.le_refl _) _
  have hx0 : W0.heap[w.heap.size]? = some (.cells #[.int .u8 x.kind, .int .u64 x.line, .int .u64 x.other, .int .u64 x.n] (40) (0, 0)) := by rw [hW0]; exact blk_new_at rfl _
  have HV := Lib.hid (hv.below hb0)
  have HR := Lib.hid (hr.below hb0)
  have HG := Lib.hid hG
  have HS := Lib.hid hS
  have H41 := Lib.hid h41
  have HB0 := Lib.hid hb0
  have HX0 := Lib.hid hx0
  have c0 := cell_of_blk hx0 1
  have c1 := cell_of_blk hx0 2
  simp at c0 c1
  obtain ⟨xk, xl, xo, xn, x1, x2, x3, x4⟩ := x
  simp only at c0 c1 HX0 hW0
  clear hv hr hG hS h41 hb0 hx0
  have heq := run_eqlP
  have hgt := guardP
  go_enter Try.func19, Try.ntmps19
  go_wp2_with fail
  rw [← hW0]
  clear hW0
  refine (base_any p mb M L xl xo W0 HV.out HG.out HS.out x2 x3).mono ?_
  rintro e w1 ⟨q, er, rfl, hb1, hcase1⟩
  obtain ⟨X1, hX1⟩ : ∃ X1 : World, X1 = w1.alloc (.cells #[.int .u64 q.1, .int .u64 q.2] (34)) := ⟨_, rfl⟩
  have hXb1 : Below w1.heap.size w1 X1 := by rw [hX1]; exact (Below.refl _ _).alloc (Nat.le_refl _) _
  have hXx1 : X1.heap[w1.heap.size]? = some (.cells #[.int .u64 q.1, .int .u64 q.2] (34) (0, 0)) := by rw [hX1]; exact blk_new_at rfl _
  have HB1 := Lib.hid (show Below W0.heap.size W0 X1 from hb1.trans (hXb1.mono hb1.size))
  have HXX1 := Lib.hid hXx1
  have HC1 := Lib.hid hcase1
  have d0 := (HB1.out.cell (p := ⟨w.heap.size, 1, none⟩) (lt_of_blk HX0.out)).trans c0
  have d1 := (HB1.out.cell (p := ⟨w.heap.size, 2, none⟩) (lt_of_blk HX0.out)).trans c1
  clear hb1 hXb1 hXx1 hcase1
  rw [hX1] at d0 d1
  go_wp2_with fail
  rw [← hX1]
  clear hX1 c0 c1 d0 d1
  refine (refBase_any r la lc xs L xl xo X1 (HR.out.below HB1.out) HG.out).mono ?_
  rintro e w2 ⟨q', er', rfl, hb2, hcase2⟩
  obtain ⟨rfl, rfl⟩ := base_same HC1.out hcase2
  obtain ⟨W, hW⟩ : ∃ W : World, W = w2.alloc (.cells #[.int .u64 q'.1, .int .u64 q'.2] (34)) := ⟨_, rfl⟩
  have hXb2 : Below w2.heap.size w2 W := by rw [hW]; exact (Below.refl _ _).alloc (Nat.le_refl _) _
  have hXx2 : W.heap[w2.heap.size]? = some (.cells #[.int .u64 q'.1, .int .u64 q'.2] (34) (0, 0)) := by rw [hW]; exact blk_new_at rfl _
  have hbX : Below X1.heap.size X1 W := hb2.trans (hXb2.mono hb2.size)
  have hx1W := blk_below HXX1.out hbX (lt_of_blk HXX1.out)
  have hbW : Below W0.heap.size W0 W := HB1.out.trans (hbX.mono HB1.out.size)
  have HVW := Lib.hid (HV.out.below hbW)
  have HRW := Lib.hid (HR.out.below hbW)
  have HBW := Lib.hid (HB0.out.trans (hbW.mono HB0.out.size))
  obtain ⟨N, hN⟩ : ∃ N, N = L.length := ⟨_, rfl⟩
  have hxsN : xs.length = N := by rw [hN, ← HR.out.vs, vsOf_len]
  have HF := Lib.hid (show ∀ u, Below W.heap.size W u → u.cell? ⟨r, 0, none⟩ = some (.slice la N lc) ∧ u.cell? ⟨w1.heap.size, 0, none⟩ = some (.int .u64 q'.1) ∧ u.cell? ⟨w1.heap.size, 1, none⟩ = some (.int .u64 q'.2) ∧ u.cell? ⟨w2.heap.size, 0, none⟩ = some (.int .u64 q'.1) ∧ u.cell? ⟨w2.heap.size, 1, none⟩ = some (.int .u64 q'.2) from fun u hu => by
    have e0 := cell_of_blk (blk_below HRW.out.blk hu (lt_of_blk HRW.out.blk)) 0
    have e1 := cell_of_blk (blk_below hx1W hu (lt_of_blk hx1W)) 0
    have e2 := cell_of_blk (blk_below hx1W hu (lt_of_blk hx1W)) 1
    have e3 := cell_of_blk (blk_below hXx2 hu (lt_of_blk hXx2)) 0
    have e4 := cell_of_blk (blk_below hXx2 hu (lt_of_blk hXx2)) 1
    simp at e0 e1 e2 e3 e4
    rw [hxsN] at e0
    exact ⟨e0, e1, e2, e3, e4⟩)
  have HALL := Lib.hid (show ∀ u, Below W.heap.size W u → Calls Try.prog (11) #[.pointer (some ⟨p, 0, none⟩)] u (fun e w' => ∃ va ys, e = .returned (.slice va N N) ∧ ys.length = N ∧ vsOf ys = L ∧ VIn w' va ys ∧ Below W.heap.size W w') from fun u hu => by
    refine (allN_any p mb M L u (HVW.out.below hu) HG.out HS.out).mono ?_
    rintro e w' ⟨va, ys, rfl, h1, h2⟩
    rw [← hN]
    exact ⟨va, ys, rfl, by rw [h1.len, hN], h1.vs, h1.vin HG.out HS.out, hu.trans (h2.mono hu.size)⟩)
  have HSV := Lib.hid (show ∀ u va ys, ys.length = N → vsOf ys = L → VIn u va ys → Below W.heap.size W u → Calls Try.prog (28) #[.slice va N N, .slice la N lc] u (fun e w' => e = .returned (.bool true) ∧ Below W.heap.size W w') from fun u va ys h1 h2 h3 hu => by
    refine (sameVec_any va la N lc N ys xs h1 (h2.trans HRW.out.vs.symm) u h3 (vin_ext HRW.out.inn hu)).mono ?_
    rintro e w' ⟨rfl, k, rfl⟩
    exact ⟨rfl, below_drN hu k⟩)
  have HPT := Lib.hid (show ∀ u, Below W.heap.size W u → Calls Try.prog (27) #[.pointer (some ⟨p, 0, none⟩)] u (fun e w' => ∃ pa k ps, e = .returned (.slice pa k k) ∧ ps.length = k ∧ k ≤ maxLen ∧ PtsOf L ps ∧ Pts w' pa ps ∧ Below W.heap.size W w') from fun u hu => by
    refine (points_any p mb M L u (HVW.out.below hu) HG.out HS.out H41.out).mono ?_
    rintro e w' ⟨pa, pcap, ps, rfl, h1, h2, h3⟩
    obtain ⟨_, _, -, -, h4, h5, -⟩ := own_parts h2
    exact ⟨pa, _, ps, rfl, rfl, Nat.le_trans h4 h5, h1, owns_els pc_len h2, hu.trans (h3.mono hu.size)⟩)
  have HRP := Lib.hid (show ∀ u k ps, ps.length = k → PtsOf L ps → Below W.heap.size W u → Calls Try.prog (41) #[.pointer (some ⟨r, 0, none⟩)] u (fun e w' => ∃ qa qc, e = .returned (.slice qa k qc) ∧ Pts w' qa ps ∧ Below u.heap.size u w' ∧ Below W.heap.size W w') from fun u k ps hk h1 hu => by
    refine (refPoints_any r la lc xs L u (HRW.out.below hu) HG.out H41.out).mono ?_
    rintro e w' ⟨qa, k', qc, ps', rfl, h2, h3, h4, h5⟩
    have h6 := PtsOf_rp h1 h3
    subst h6
    subst hk
    subst h2
    exact ⟨qa, qc, rfl, owns_els pc_len h4, h5, hu.trans (h5.mono hu.size)⟩)
  have HSP := Lib.hid (show ∀ u pa qa qc k ps, ps.length = k → k ≤ maxLen → Pts u pa ps → Pts u qa ps → Below W.heap.size W u → Calls Try.prog (29) #[.slice pa k k, .slice qa k qc] u (fun e w' => e = .returned (.bool true) ∧ Below W.heap.size W w') from fun u pa qa qc k ps h1 h2 h3 h4 hu => by
    refine (samePts_any pa qa k qc k ps h1 u h3 h4 h2).mono ?_
    rintro e w' ⟨rfl, t, rfl⟩
    exact ⟨rfl, below_drN hu t⟩)
  clear hb2 hcase2 hXb2 hXx2 hbX hx1W hbW hN hxsN
  go_wp2_with fail
  rw [← hW]
  clear hW
  go_region_held3 (fun u => u.cell? ⟨r, 0, none⟩ = some (.slice la N lc) ∧ u.cell? ⟨w1.heap.size, 0, none⟩ = some (.int .u64 q'.1) ∧ u.cell? ⟨w1.heap.size, 1, none⟩ = some (.int .u64 q'.2) ∧ u.cell? ⟨w2.heap.size, 0, none⟩ = some (.int .u64 q'.1) ∧ u.cell? ⟨w2.heap.size, 1, none⟩ = some (.int .u64 q'.2)) (first | exact HF.out _ ((Below.refl _ _).drew) | exact HF.out _ (by assumption))
    (first
    | (go_at_call 11; (with_reducible refine (HALL.out _ ((Below.refl _ _).drew)).mono ?_); rintro e u1 ⟨va, ys, rfl, g1, g2, g3, hb1⟩)
    | (go_at_call 28; (with_reducible refine (HSV.out _ _ _ g1 g2 g3 hb1).mono ?_); rintro e u2 ⟨rfl, hb2⟩)
    | (go_at_call 27; (with_reducible refine (HPT.out _ hb2).mono ?_); rintro e u3 ⟨pa, pk, ps, rfl, s1, s2, s3, s4, hb3⟩)
    | (go_at_call 41; (with_reducible refine (HRP.out _ _ _ s1 s3 hb3).mono ?_); rintro e u4 ⟨qa, qc, rfl, s5, s6, hb4⟩)
    | (go_at_call 29; (with_reducible refine (HSP.out _ _ _ _ _ _ s1 s2 (s4.ext s6) s5 hb4).mono ?_); rintro e u5 ⟨rfl, hb5⟩))
  all_goals
    go_wp2_with fail
    go_ret
    exact ⟨rfl, HBW.out.trans (hb5.mono HBW.out.size)⟩
end Go.Proofs.Ytnnpheklgdbohaa
