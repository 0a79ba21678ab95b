/- herbariumlaw20.ManifestsPut: the walk. No condition. -/
import Derived.Test.YtchcelodeepjdaaGreatDoorZZV
import Derived.Test.YtchcelodeepjdaaGreatDoorZZC
namespace Go.Proofs.YtchcelodeepjdaaGreatDoor.Ln
open Go.RowKit Go.Shelf Go.Herb

structure EdBad (w : World) (r q : Rv) (rb : Nat) : Prop where
  ir : RtIn w r
  gr : GoodR r
  fr : FewX r.says
  iq : RtIn w q
  fq : SmallR q
  gq : ¬ GoodR q
  box : ∃ f, w.heap[rb]? = some (.cells #[.int .u64 q.seq, .int .u64 q.log, .int .u64 q.next, .slice q.ba q.bs.length q.bc, .slice q.la q.ls.length q.lc, .slice q.va q.vs.length q.vc, .slice q.sa q.sh.length q.sc] (32) f)
set_option maxRecDepth 100000 in
set_option maxHeartbeats 4000000 in
theorem put_bad2 (r q : Rv) (rb : Nat) (w : World) (h : EdBad w r q rb) :
    Calls Tryz.prog (17) #[rtV r, .pointer (some ⟨rb, 0, none⟩)] w (fun e w' => e = .returned (.tuple #[.slice none 0 0, .int .i64 4]) ∧ Below w.heap.size w w') := by
  obtain ⟨nb, hnb⟩ : ∃ n, n = r.bs.length := ⟨_, rfl⟩
  obtain ⟨nl, hnl⟩ : ∃ n, n = r.ls.length := ⟨_, rfl⟩
  obtain ⟨nv, hnv⟩ : ∃ n, n = r.vs.length := ⟨_, rfl⟩
  obtain ⟨ns, hns⟩ : ∃ n, n = r.sh.length := ⟨_, rfl⟩
  obtain ⟨mb, hmb⟩ : ∃ n, n = q.bs.length := ⟨_, rfl⟩
  obtain ⟨ml, hml⟩ : ∃ n, n = q.ls.length := ⟨_, rfl⟩
  obtain ⟨mv, hmv⟩ : ∃ n, n = q.vs.length := ⟨_, rfl⟩
  obtain ⟨ms, hms⟩ : ∃ n, n = q.sh.length := ⟨_, rfl⟩
  obtain ⟨fb, hxb⟩ := h.box
  have hrt : rtV r = .agg #[.int .u64 r.seq, .int .u64 r.log, .int .u64 r.next, .slice r.ba nb r.bc, .slice r.la nl r.lc, .slice r.va nv r.vc, .slice r.sa ns r.sc] := by rw [hnb, hnl, hnv, hns]
  have hqt : rtV q = .agg #[.int .u64 q.seq, .int .u64 q.log, .int .u64 q.next, .slice q.ba mb q.bc, .slice q.la ml q.lc, .slice q.va mv q.vc, .slice q.sa ms q.sc] := by rw [hmb, hml, hmv, hms]
  rw [← hmb, ← hml, ← hmv, ← hms] at hxb
  obtain ⟨W, hW⟩ : ∃ W : World, W = w.alloc (.cells #[.int .u64 r.seq, .int .u64 r.log, .int .u64 r.next, .slice r.ba nb r.bc, .slice r.la nl r.lc, .slice r.va nv r.vc, .slice r.sa ns r.sc] (32)) := ⟨_, rfl⟩
  have hB : Below w.heap.size w W := by rw [hW]; exact (Below.refl _ _).alloc (Nat.le_refl _) _
  have hx0 : W.heap[w.heap.size]? = some (.cells #[.int .u64 r.seq, .int .u64 r.log, .int .u64 r.next, .slice r.ba nb r.bc, .slice r.la nl r.lc, .slice r.va nv r.vc, .slice r.sa ns r.sc] (32) (0, 0)) := by rw [hW]; exact blk_new_at rfl _
  have HX0 := Lib.hid hx0
  have HXB := Lib.hid hxb
  have HRB := Lib.hid (lt_of_blk hxb)
  have HB := Lib.hid hB
  have HW := Lib.hid hW
  have H := Lib.hid h
  have HCK := Lib.hid (check_good r W (h.ir.ext hB) h.fr.small h.gr)
  have HCQ := Lib.hid (fun (u : World) (hu : Below w.heap.size w u) => (check_any q u (h.iq.ext hu) h.fq).mono (show ∀ e w', CheckPost q u e w' → e = .returned (.int .i64 4) ∧ Below u.heap.size u w' from by
    rintro e w' ⟨n, rfl, ⟨-, h4⟩ | ⟨rfl, -⟩, hb⟩
    · exact absurd h4 h.gq
    · exact ⟨rfl, hb⟩))
  have HNS := Lib.hid (show r.sh.length = ns ∧ ns < 1000000 from ⟨hns.symm, by rw [hns]; exact sh_few h.fr⟩)
  rw [hrt] at HCK
  rw [hqt] at HCQ
  rw [hW] at HCK
  obtain ⟨c0, c1, c2, c3, c4, c5, c6⟩ := rtC_at hx0
  rw [hrt]
  clear h hB hx0 hW hxb
  have HRT := Lib.hid hrt
  clear hrt hqt hnb hnl hnv hns hmb hml hmv hms
  go_enter Tryz.func17, Tryz.ntmps17
  go_upto_region 9 with (go_at_call 16; refine HCK.out.mono ?_; rw [← HW.out]; rintro e w1 ⟨rfl, hb1⟩; have HB1 := Lib.hid hb1; have hx1 := blk_below HX0.out hb1 (lt_of_blk HX0.out); have HX1 := Lib.hid hx1; clear hb1; clear c0 c1 c2 c3 c4 c5 c6; obtain ⟨c0, c1, c2, c3, c4, c5, c6⟩ := rtC_at hx1; clear hx1)
  clear HCK
  obtain ⟨V1, hV1⟩ : ∃ V : World, V = w1.alloc (.cells #[.int .u8 1] (5)) := ⟨_, rfl⟩
  obtain ⟨V, hV⟩ : ∃ V : World, V = V1.alloc (.cells #[.slice (some ⟨w1.heap.size, 0, none⟩) 1 1] (90)) := ⟨_, rfl⟩
  have hz1 : V1.heap.size = w1.heap.size + 1 := by rw [hV1]; simp
  have hBV1 : Below w1.heap.size w1 V1 := by rw [hV1]; exact (Below.refl _ _).alloc (Nat.le_refl _) _
  have hBV : Below V1.heap.size V1 V := by rw [hV]; exact (Below.refl _ _).alloc (Nat.le_refl _) _
  have hBw1 : Below w1.heap.size w1 V := hBV1.trans (hBV.mono hBV1.size)
  have hBwV : Below w.heap.size w V := (HB.out.trans (HB1.out.mono HB.out.size)).trans (hBw1.mono (Nat.le_trans HB.out.size HB1.out.size))
  have hp0 : V.heap[w1.heap.size]? = some (.cells #[.int .u8 1] (5) (0, 0)) := blk_below (by rw [hV1]; exact blk_new_at rfl _) hBV (show w1.heap.size < V1.heap.size by omega)
  have hp1 : V.heap[w1.heap.size + 1]? = some (.cells #[.slice (some ⟨w1.heap.size, 0, none⟩) 1 1] (90) (0, 0)) := by rw [hV]; exact blk_new_at hz1.symm _
  have hwl : w.heap.size < w1.heap.size := Nat.lt_of_lt_of_le (lt_of_blk HX0.out) HB1.out.size
  have HXV := Lib.hid (blk_below HX1.out hBw1 (lt_of_blk HX1.out))
  have HP0 := Lib.hid hp0
  have HP1 := Lib.hid hp1
  have HBV := Lib.hid hBwV
  have HWL := Lib.hid hwl
  have HVS := Lib.hid (show w1.heap.size + 1 < V.heap.size from lt_of_blk hp1)
  obtain ⟨d0, d1, d2, d3, d4, d5, d6⟩ := rtC_at (blk_below HXB.out hBwV HRB.out)
  rw [← hV1, ← hV]
  clear hV1 hV hz1 hBV1 hBV hBw1 hBwV hp0 hp1 hwl c0 c1 c2 c3 c4 c5 c6 HX1 HW HX0
  go_wp2_with fail
  refine (HCQ.out _ HBV.out).mono ?_
  rintro e w2 ⟨rfl, hb2⟩
  have HB2 := Lib.hid (HBV.out.trans (hb2.mono HBV.out.size))
  clear hb2 d0 d1 d2 d3 d4 d5 d6
  go_wp2_with fail
  go_ret2
  exact ⟨rfl, HB2.out⟩
/-- What Put answers: a record, and whether it may be. -/
def PAns (er : Int) (zs : List Int) (w : World) (e : Ending) (w' : World) : Prop := ∃ (a : Option Addr) (n : Nat), e = .returned (.tuple #[.slice a n n, .int .i64 er]) ∧ zs.length = n ∧ Byt w' a zs ∧ FreshB a w.heap.size w' ∧ (zs = [] → a = none) ∧ Below w.heap.size w w'
def RAns (er : Int) (zs : List Int) (w : World) (e : Ending) (w' : World) : Prop := ∃ (a : Option Addr) (n c : Nat), e = .returned (.tuple #[.slice a n c, .int .i64 er]) ∧ zs.length = n ∧ Byt w' a zs ∧ Below w.heap.size w w'
theorem pans_yes {ys : List Int} {w w' : World} {e : Ending} (h : WholePost ys w e w') (h0 : ys ≠ []) : PAns 0 ys w e w' := by
  obtain ⟨a, n, h1, h2, h3, h4, h5⟩ := h
  exact ⟨a, n, h1, h2.symm, h3, h5, fun h => absurd h h0, h4⟩
theorem pans_no {w w' : World} {e : Ending} (h : e = .returned (.tuple #[.slice none 0 0, .int .i64 4]) ∧ Below w.heap.size w w') : PAns 4 [] w e w' := ⟨none, 0, h.1, rfl, Els.nil _ _ _ _, (fun ad h => by cases h), fun _ => rfl, h.2⟩
theorem rans_of {ok : Prop} {er : Int} {ys zs : List Int} {w w' : World} {e : Ending} (h : PutRPost ok ys w e w') (h1 : ok → er = 0 ∧ zs = ys) (h2 : ¬ ok → er = 4 ∧ zs = []) : RAns er zs w e w' := by
  obtain ⟨hb, ⟨hk, a, n, c, e1, e2, e3⟩ | ⟨hk, e1⟩⟩ := h
  · obtain ⟨rfl, rfl⟩ := h1 hk
    exact ⟨a, n, c, e1, e2.symm, e3, hb⟩
  · obtain ⟨rfl, rfl⟩ := h2 hk
    exact ⟨none, 0, 0, e1, rfl, Els.nil _ _ _ _, hb⟩
theorem NotGreat.refIn {w : World} {r : Rv} (hi : RtIn w r) (h : NotGreat r) : RefIn w r := ⟨hi, h.fewX, by have := h.bs; omega, by have := h.ls; omega, ⟨by rw [show r.says.vs.length = r.vs.length from Vx.vsOf_len r.vs]; have := h.vs; omega, fun p hp => by
  obtain ⟨x, hx, rfl⟩ := List.mem_map.1 (show p ∈ r.vs.map (fun x : Vx.Vc => (x.line, x.ps)) from hp)
  have := h.pts x hx
  show x.ps.length < 100000
  omega⟩⟩
theorem sh_of {B0 B b n : Nat} {w u : World} {a : Option Addr} {zs : List Int} (hn : zs.length = n) (hE : Byt w a zs) (hF : FreshB a B w) (hB : B0 ≤ B) (h0 : zs = [] → a = none) (hb : w.heap.size ≤ b) (hu : Below w.heap.size w u) (hl : n < 1000000) : Sh B0 b u a n zs := by
  cases a with
  | none =>
    have e : zs = [] := by
      rcases Nat.eq_zero_or_pos zs.length with h | h
      · exact List.length_eq_zero_iff.1 h
      · obtain ⟨b', o', h1, -⟩ := hE.get 0 h
        cases h1
    subst e
    exact .inl ⟨rfl, hn.symm, rfl⟩
  | some ad =>
    have hp : 0 < zs.length := by
      rcases Nat.eq_zero_or_pos zs.length with h | h
      · have := h0 (List.length_eq_zero_iff.1 h); cases this
      · exact h
    obtain ⟨g, o, e, -⟩ := hE.get 0 hp
    cases e
    obtain ⟨h1, cs, h2⟩ := hF _ rfl
    exact .inr ⟨g, o, rfl, Nat.le_trans hB h1, Nat.lt_of_lt_of_le (lt_of_blk h2) hb, ⟨hE.ext hu, hn, cs, blk_below h2 hu (lt_of_blk h2)⟩, hl⟩
set_option maxRecDepth 100000 in
set_option maxHeartbeats 4000000 in
theorem manifestsPut_any (r q : Rv) (w : World) (h : RtIn w r) (hq : RtIn w q) :
    Calls Tryz.prog (8) #[rtV r, rtV q] w (LivesPost w) := by
  obtain ⟨nb, hnb⟩ : ∃ n, n = r.bs.length := ⟨_, rfl⟩
  obtain ⟨nl, hnl⟩ : ∃ n, n = r.ls.length := ⟨_, rfl⟩
  obtain ⟨nv, hnv⟩ : ∃ n, n = r.vs.length := ⟨_, rfl⟩
  obtain ⟨ns, hns⟩ : ∃ n, n = r.sh.length := ⟨_, rfl⟩
  obtain ⟨mb, hmb⟩ : ∃ n, n = q.bs.length := ⟨_, rfl⟩
  obtain ⟨ml, hml⟩ : ∃ n, n = q.ls.length := ⟨_, rfl⟩
  obtain ⟨mv, hmv⟩ : ∃ n, n = q.vs.length := ⟨_, rfl⟩
  obtain ⟨ms, hms⟩ : ∃ n, n = q.sh.length := ⟨_, rfl⟩
  have hrt : rtV r = .agg #[.int .u64 r.seq, .int .u64 r.log, .int .u64 r.next, .slice r.ba nb r.bc, .slice r.la nl r.lc, .slice r.va nv r.vc, .slice r.sa ns r.sc] := by rw [hnb, hnl, hnv, hns]
  have hqt : rtV q = .agg #[.int .u64 q.seq, .int .u64 q.log, .int .u64 q.next, .slice q.ba mb q.bc, .slice q.la ml q.lc, .slice q.va mv q.vc, .slice q.sa ms q.sc] := by rw [hmb, hml, hmv, hms]
  obtain ⟨W1, hW1⟩ : ∃ W : World, W = w.alloc (.cells #[.int .u64 r.seq, .int .u64 r.log, .int .u64 r.next, .slice r.ba nb r.bc, .slice r.la nl r.lc, .slice r.va nv r.vc, .slice r.sa ns r.sc] (32)) := ⟨_, rfl⟩
  obtain ⟨W, hW⟩ : ∃ W : World, W = W1.alloc (.cells #[.int .u64 q.seq, .int .u64 q.log, .int .u64 q.next, .slice q.ba mb q.bc, .slice q.la ml q.lc, .slice q.va mv q.vc, .slice q.sa ms q.sc] (32)) := ⟨_, rfl⟩
  have hz1 : W1.heap.size = w.heap.size + 1 := by rw [hW1]; simp
  have hB1 : Below w.heap.size w W1 := by rw [hW1]; exact (Below.refl _ _).alloc (Nat.le_refl _) _
  have hB2 : Below W1.heap.size W1 W := by rw [hW]; exact (Below.refl _ _).alloc (Nat.le_refl _) _
  have hx1 : W1.heap[w.heap.size]? = some (.cells #[.int .u64 r.seq, .int .u64 r.log, .int .u64 r.next, .slice r.ba nb r.bc, .slice r.la nl r.lc, .slice r.va nv r.vc, .slice r.sa ns r.sc] (32) (0, 0)) := by rw [hW1]; exact blk_new_at rfl _
  have HX := Lib.hid (blk_below hx1 hB2 (lt_of_blk hx1))
  have hy : W.heap[w.heap.size + 1]? = some (.cells #[.int .u64 q.seq, .int .u64 q.log, .int .u64 q.next, .slice q.ba mb q.bc, .slice q.la ml q.lc, .slice q.va mv q.vc, .slice q.sa ms q.sc] (32) (0, 0)) := by rw [hW]; exact blk_new_at hz1.symm _
  have HY := Lib.hid hy
  have HB := Lib.hid (hB1.trans (hB2.mono hB1.size))
  have HR := Lib.hid (h.ext HB.out)
  have HQ := Lib.hid (hq.ext HB.out)
  have HL := Lib.hid lives_any
  have HG := Lib.hid (fun (u : World) (hu : Below W.heap.size W u) => greatR_any r u (HR.out.ext hu))
  have HGQ := Lib.hid (fun (u : World) (hu : Below W.heap.size W u) => greatR_any q u (HQ.out.ext hu))
  have HRT := Lib.hid hrt
  have HQT := Lib.hid hqt
  have HQB := Lib.hid (show ∀ u, Below W.heap.size W u → u.heap[w.heap.size + 1]? = some (.cells #[.int .u64 q.seq, .int .u64 q.log, .int .u64 q.next, .slice q.ba q.bs.length q.bc, .slice q.la q.ls.length q.lc, .slice q.va q.vs.length q.vc, .slice q.sa q.sh.length q.sc] (32) (0, 0)) from fun u hu => by rw [← hmb, ← hml, ← hmv, ← hms]; exact blk_below hy hu (lt_of_blk hy))
  rw [hrt] at HG
  rw [hqt] at HGQ
  have HW := Lib.hid hW
  have HW1 := Lib.hid hW1
  rw [hrt, hqt]
  clear h hq hrt hqt hnb hnl hnv hns hmb hml hmv hms hz1 hB1 hB2 hx1 hy hW hW1
  go_enter Tryz.func8, Tryz.ntmps8
  go_upto_region 1 with fail
  rw [← HW1.out, ← HW.out]
  obtain ⟨c0, c1, c2, c3, c4, c5, c6⟩ := rtC_at HX.out
  go_wp2_with fail
  refine (HG.out W (Below.refl _ _)).mono ?_
  rintro e w1 ⟨g1, rfl, hg1, hb1⟩
  have HB1 := Lib.hid hb1
  clear c0 c1 c2 c3 c4 c5 c6 hb1
  cases g1 with
  | true =>
    clear hg1
    go_wp2_with (go_at_call 9; refine (HL.out _).mono ?_; rintro e w2 ⟨rfl, hb2⟩; have HB2 := Lib.hid (HB1.out.trans (hb2.mono HB1.out.size)); clear hb2)
    go_ret
    exact ⟨rfl, HB.out.trans (HB2.out.mono HB.out.size)⟩
  | false =>
    have HN := Lib.hid (hg1 rfl)
    clear hg1
    obtain ⟨d0, d1, d2, d3, d4, d5, d6⟩ := rtC_at (blk_below HY.out HB1.out (lt_of_blk HY.out))
    go_wp2_with fail
    refine (HGQ.out w1 HB1.out).mono ?_
    rintro e w2 ⟨g2, rfl, hg2, hb2⟩
    have HB2 := Lib.hid (HB1.out.trans (hb2.mono HB1.out.size))
    clear d0 d1 d2 d3 d4 d5 d6 hb2
    cases g2 with
    | true =>
      clear hg2
      go_wp2_with (go_at_call 9; refine (HL.out _).mono ?_; rintro e w9 ⟨rfl, hb9⟩; have HB9 := Lib.hid (HB2.out.trans (hb9.mono HB2.out.size)); clear hb9)
      go_ret
      exact ⟨rfl, HB.out.trans (HB9.out.mono HB.out.size)⟩
    | false =>
      have HNQ := Lib.hid (hg2 rfl)
      clear hg2
      obtain ⟨er1, zs1, hy1, hn1⟩ : ∃ (er : Int) (zs : List Int), (GoodR r → er = 0 ∧ zs = wholeL r.says) ∧ (¬ GoodR r → er = 4 ∧ zs = []) := by
        by_cases hg : GoodR r
        · exact ⟨0, _, fun _ => ⟨rfl, rfl⟩, fun h => absurd hg h⟩
        · exact ⟨4, [], fun h => absurd h hg, fun _ => ⟨rfl, rfl⟩⟩
      obtain ⟨er2, zs2, hy2, hn2⟩ : ∃ (er : Int) (zs : List Int), (GoodR r ∧ GoodR q → er = 0 ∧ zs = editL r.says q.says) ∧ (¬ (GoodR r ∧ GoodR q) → er = 4 ∧ zs = []) := by
        by_cases hg : GoodR r ∧ GoodR q
        · exact ⟨0, _, fun _ => ⟨rfl, rfl⟩, fun h => absurd hg h⟩
        · exact ⟨4, [], fun h => absurd h hg, fun _ => ⟨rfl, rfl⟩⟩
      have HZ := Lib.hid (show zs1.length < 1000000 ∧ zs2.length < 1000000 from by
        constructor
        · by_cases hg : GoodR r
          · rw [(hy1 hg).2]; exact wholeL_len HR.out hg HN.out
          · rw [(hn1 hg).2]; decide
        · by_cases hg : GoodR r ∧ GoodR q
          · rw [(hy2 hg).2]; exact Nat.lt_trans (editL_few HR.out hg.1 HN.out HQ.out HNQ.out) (by decide)
          · rw [(hn2 hg).2]; decide)
      have HP1 := Lib.hid (show ∀ u, Below W.heap.size W u → Calls Tryz.prog (17) #[rtV r, .pointer none] u (PAns er1 zs1 u) from fun u hu => by
        by_cases hg : GoodR r
        · obtain ⟨rfl, rfl⟩ := hy1 hg
          exact (put_good r u (HR.out.ext hu) hg HN.out.fewX).mono (fun e w' h => pans_yes h (fun h => by cases h))
        · obtain ⟨rfl, rfl⟩ := hn1 hg
          exact (put_bad r none u (HR.out.ext hu) HN.out.few.small hg).mono (fun e w' h => pans_no h))
      have HP2 := Lib.hid (show ∀ u, Below W.heap.size W u → Calls Tryz.prog (19) #[rtV r, .pointer none] u (RAns er1 zs1 u) from fun u hu =>
        (refPutWhole_any r u (NotGreat.refIn (HR.out.ext hu) HN.out) (fun hg => Nat.lt_trans (wholeL_few HR.out hg HN.out) (by decide))).mono (fun e w' h => rans_of h hy1 hn1))
      have HP3 := Lib.hid (show ∀ u, Below W.heap.size W u → Calls Tryz.prog (17) #[rtV r, .pointer (some ⟨w.heap.size + 1, 0, none⟩)] u (PAns er2 zs2 u) from fun u hu => by
        by_cases hg : GoodR r
        · by_cases hgq : GoodR q
          · obtain ⟨rfl, rfl⟩ := hy2 ⟨hg, hgq⟩
            exact (putEdit_any r q (w.heap.size + 1) u ⟨HR.out.ext hu, hg, HN.out.fewX, HQ.out.ext hu, hgq, HNQ.out.fewX, _, HQB.out u hu⟩).mono (fun e w' h => pans_yes h (fun h => by cases h))
          · obtain ⟨rfl, rfl⟩ := hn2 (fun h => hgq h.2)
            exact (put_bad2 r q (w.heap.size + 1) u ⟨HR.out.ext hu, hg, HN.out.fewX, HQ.out.ext hu, HNQ.out.few.small, hgq, _, HQB.out u hu⟩).mono (fun e w' h => pans_no h)
        · obtain ⟨rfl, rfl⟩ := hn2 (fun h => hg h.1)
          exact (put_bad r _ u (HR.out.ext hu) HN.out.few.small hg).mono (fun e w' h => pans_no h))
      have HP4 := Lib.hid (show ∀ u, Below W.heap.size W u → Calls Tryz.prog (19) #[rtV r, .pointer (some ⟨w.heap.size + 1, 0, none⟩)] u (RAns er2 zs2 u) from fun u hu =>
        (refPutEdit_any r q (w.heap.size + 1) u (NotGreat.refIn (HR.out.ext hu) HN.out) (NotGreat.refIn (HQ.out.ext hu) HNQ.out) ⟨_, HQB.out u hu⟩ (fun hg hgq => Nat.lt_trans (editL_few HR.out hg HN.out HQ.out HNQ.out) (by decide))).mono (fun e w' h => rans_of h hy2 hn2))
      have HC1 := Lib.hid (show ∀ u, Below W.heap.size W u → Calls Tryz.prog (16) #[rtV r] u (fun e w' => e = .returned (.int .i64 er1) ∧ Below u.heap.size u w') from fun u hu => (check_any r u (HR.out.ext hu) HN.out.few.small).mono (fun e w' ⟨m, h1, h2, h3⟩ => ⟨by
        rcases h2 with ⟨rfl, hg⟩ | ⟨rfl, hg⟩
        · rw [h1, (hy1 hg).1]
        · rw [h1, (hn1 hg).1], h3⟩))
      have HC2 := Lib.hid (show ∀ u, Below W.heap.size W u → Calls Tryz.prog (21) #[rtV r] u (fun e w' => e = .returned (.int .i64 er1) ∧ Below u.heap.size u w') from fun u hu => by
        have hri := NotGreat.refIn (HR.out.ext hu) HN.out
        exact (refCheck_any r u hri.inn hri.few.small hri.bs hri.ls hri.vs).mono (fun e w' ⟨m, h1, h2, h3⟩ => ⟨by
        rcases h2 with ⟨rfl, hg⟩ | ⟨rfl, hg⟩
        · rw [h1, (hy1 hg).1]
        · rw [h1, (hn1 hg).1], h3⟩))
      rw [HRT.out] at HP1 HP2 HP3 HP4 HC1 HC2
      clear hy1 hn1 hy2 hn2
      obtain ⟨c0, c1, c2, c3, c4, c5, c6⟩ := rtC_at (blk_below HX.out HB2.out (lt_of_blk HX.out))
      go_wp2_with fail
      refine (HP1.out w2 HB2.out).mono ?_
      rintro e w3 ⟨a1, n1, rfl, hn1, hE1, hF1, h01, hb3⟩
      have HB3 := Lib.hid (HB2.out.trans (hb3.mono HB2.out.size))
      have HA1 := Lib.hid (show zs1.length = n1 ∧ Byt w3 a1 zs1 ∧ FreshB a1 w2.heap.size w3 ∧ (zs1 = [] → a1 = none) from ⟨hn1, hE1, hF1, h01⟩)
      clear c0 c1 c2 c3 c4 c5 c6 hn1 hE1 hF1 h01 hb3
      obtain ⟨c0, c1, c2, c3, c4, c5, c6⟩ := rtC_at (blk_below HX.out HB3.out (lt_of_blk HX.out))
      go_wp2_with fail
      refine (HP2.out w3 HB3.out).mono ?_
      rintro e w4 ⟨a2, n2, k2, rfl, hn2, hE2, hb4⟩
      have HB34 := Lib.hid hb4
      have HB4 := Lib.hid (HB3.out.trans (hb4.mono HB3.out.size))
      have HA2 := Lib.hid (show zs1.length = n2 ∧ Byt w4 a2 zs1 from ⟨hn2, hE2⟩)
      clear c0 c1 c2 c3 c4 c5 c6 hn2 hE2 hb4
      obtain ⟨c0, c1, c2, c3, c4, c5, c6⟩ := rtC_at (blk_below HX.out HB4.out (lt_of_blk HX.out))
      go_wp2_with fail
      refine (HP3.out w4 HB4.out).mono ?_
      rintro e w5 ⟨a3, n3, rfl, hn3, hE3, hF3, h03, hb5⟩
      have HB45 := Lib.hid hb5
      have HB5 := Lib.hid (HB4.out.trans (hb5.mono HB4.out.size))
      have HA3 := Lib.hid (show zs2.length = n3 ∧ Byt w5 a3 zs2 ∧ FreshB a3 w4.heap.size w5 ∧ (zs2 = [] → a3 = none) from ⟨hn3, hE3, hF3, h03⟩)
      clear c0 c1 c2 c3 c4 c5 c6 hn3 hE3 hF3 h03 hb5
      obtain ⟨c0, c1, c2, c3, c4, c5, c6⟩ := rtC_at (blk_below HX.out HB5.out (lt_of_blk HX.out))
      go_wp2_with fail
      refine (HP4.out w5 HB5.out).mono ?_
      rintro e w6 ⟨a4, n4, k4, rfl, hn4, hE4, hb6⟩
      have HB56 := Lib.hid hb6
      have HB6 := Lib.hid (HB5.out.trans (hb6.mono HB5.out.size))
      have HA4 := Lib.hid (show zs2.length = n4 ∧ Byt w6 a4 zs2 from ⟨hn4, hE4⟩)
      clear c0 c1 c2 c3 c4 c5 c6 hn4 hE4 hb6
      obtain ⟨X, hX⟩ : ∃ X : World, X = w6.alloc (.cells #[.slice none 0 0] (61)) := ⟨_, rfl⟩
      have hB6X : Below w6.heap.size w6 X := by rw [hX]; exact (Below.refl _ _).alloc (Nat.le_refl _) _
      have HBX := Lib.hid (HB6.out.trans (hB6X.mono HB6.out.size))
      have HB6X := Lib.hid hB6X
      have HBK := Lib.hid (show BookIs X w6.heap.size (w6.heap.size + 1) [] from ⟨⟨_, by rw [hX]; exact blk_new_at rfl _, World.ownsRow_nil _ _ _ _⟩, Nat.lt_succ_self _, by rw [hX]; simp⟩)
      have HBB1 := Lib.hid (bookBytes_1 w6.heap.size (w6.heap.size + 1) [] a1 n1 X HBK.out rfl)
      have HX2 := Lib.hid hX
      rw [hX] at HBB1
      clear hX hB6X
      go_wp2_with fail
      refine HBB1.out.mono ?_
      rw [← HX2.out]
      rintro e w7 ⟨⟨v7, rfl⟩, hbk, hb7⟩
      have HBK7 := Lib.hid hbk
      have HB67 := Lib.hid (show Below w6.heap.size w6 w7 from HB6X.out.trans hb7)
      clear hbk hb7
      go_wp2_with fail
      refine (bookBytes_2 w6.heap.size (w6.heap.size + 1) _ a3 n3 w7 HBK7.out rfl).mono ?_
      rintro e w8 ⟨⟨v8, rfl⟩, hbk, hb8⟩
      have HBK8 := Lib.hid hbk
      have HB68 := Lib.hid (show Below w6.heap.size w6 w8 from HB67.out.trans hb8)
      have HB8 := Lib.hid (HB6.out.trans (HB68.out.mono HB6.out.size))
      clear hbk hb8
      have HD8 := Lib.hid (show Below w8.heap.size w8 w8.drew from (Below.refl _ _).drew)
      have HW8 := Lib.hid (show ∀ u, Below w8.heap.size w8 u → Below W.heap.size W u from fun u hu => HB8.out.trans (hu.mono HB8.out.size))
      have HCa := Lib.hid (HC1.out w8.drew (HW8.out _ HD8.out))
      have HCb := Lib.hid (show ∀ u, Below w8.heap.size w8 u → _ from fun u hu => HC2.out u (HW8.out u hu))
      have HS1 := Lib.hid (show ∀ u, Below w8.heap.size w8 u → Calls Tryz.prog (18) #[.slice a1 n1 n1, .slice a2 n2 k2] u (fun e w' => e = .returned (.bool true) ∧ Below u.heap.size u w') from fun u hu => by
        have h1 : Below w4.heap.size w4 u := HB45.out.trans ((HB56.out.trans ((HB68.out.trans (hu.mono HB68.out.size)).mono HB56.out.size)).mono HB45.out.size)
        exact (sameBytes_any a1 a2 n1 k2 n1 n2 zs1 zs1 u ((HA1.out.2.1.ext HB34.out).ext h1) (HA2.out.2.ext h1) HA1.out.1 HA2.out.1 (by have := HZ.out.1; have := HA1.out.1; omega)).mono (fun e w' ⟨b, h1, h2, h3⟩ => ⟨by rw [h1, show b = true from h2.2 rfl], h3⟩))
      have HS2 := Lib.hid (show ∀ u, Below w8.heap.size w8 u → Calls Tryz.prog (18) #[.slice a3 n3 n3, .slice a4 n4 k4] u (fun e w' => e = .returned (.bool true) ∧ Below u.heap.size u w') from fun u hu => by
        have h1 : Below w6.heap.size w6 u := HB68.out.trans (hu.mono HB68.out.size)
        exact (sameBytes_any a3 a4 n3 k4 n3 n4 zs2 zs2 u ((HA3.out.2.1.ext HB56.out).ext h1) (HA4.out.2.ext h1) HA3.out.1 HA4.out.1 (by have := HZ.out.2; have := HA3.out.1; omega)).mono (fun e w' ⟨b, h1, h2, h3⟩ => ⟨by rw [h1, show b = true from h2.2 rfl], h3⟩))
      have HAP := Lib.hid (show ∀ u, Below w8.heap.size w8 u → Calls Tryz.prog (22) #[.pointer (some ⟨w6.heap.size, 0, none⟩)] u (fun e w' => e = .returned (.bool true) ∧ Below W.heap.size u w') from fun u hu => by
        have h6 : Below w6.heap.size w6 u := HB68.out.trans (hu.mono HB68.out.size)
        have h5 : Below w5.heap.size w5 u := HB56.out.trans (h6.mono HB56.out.size)
        have h3 : Below w3.heap.size w3 u := HB34.out.trans ((HB45.out.trans (h5.mono HB45.out.size)).mono HB34.out.size)
        have s1 : w3.heap.size ≤ w4.heap.size := HB34.out.size
        have s2 : w4.heap.size ≤ w5.heap.size := HB45.out.size
        have s3 : w5.heap.size ≤ w6.heap.size := HB56.out.size
        refine apart_any W.heap.size w6.heap.size (w6.heap.size + 1) a1 n1 1 zs1 a3 n3 2 zs2 u (HBK8.out.below hu) (sh_of HA1.out.1 HA1.out.2.1 HA1.out.2.2.1 HB2.out.size HA1.out.2.2.2 (by omega) h3 (by have := HZ.out.1; have := HA1.out.1; omega)) (sh_of HA3.out.1 HA3.out.2.1 HA3.out.2.2.1 HB4.out.size HA3.out.2.2.2 (by omega) h5 (by have := HZ.out.2; have := HA3.out.1; omega)) (fun g e1 e2 => ?_) (HW8.out u hu).size
        cases a1 with
        | none => cases e1
        | some x =>
          cases a3 with
          | none => cases e2
          | some y =>
            obtain ⟨-, cs, hx⟩ := HA1.out.2.2.1 _ rfl
            obtain ⟨hy, -⟩ := HA3.out.2.2.1 _ rfl
            have := lt_of_blk hx
            have e3 : x.block = g := Option.some.inj e1
            have e4 : y.block = g := Option.some.inj e2
            omega)
      have HST := Lib.hid (show ∀ u, Below W.heap.size W u → u.cell? ⟨w.heap.size, 0, none⟩ = some (.int .u64 r.seq) ∧ u.cell? ⟨w.heap.size, 1, none⟩ = some (.int .u64 r.log) ∧ u.cell? ⟨w.heap.size, 2, none⟩ = some (.int .u64 r.next) ∧ u.cell? ⟨w.heap.size, 3, none⟩ = some (.slice r.ba nb r.bc) ∧ u.cell? ⟨w.heap.size, 4, none⟩ = some (.slice r.la nl r.lc) ∧ u.cell? ⟨w.heap.size, 5, none⟩ = some (.slice r.va nv r.vc) ∧ u.cell? ⟨w.heap.size, 6, none⟩ = some (.slice r.sa ns r.sc) from fun u hu => rtC_at (blk_below HX.out hu (lt_of_blk HX.out)))
      have ee1 : (er1 == er1) = true := beq_self_eq_true _
      have ee2 : (er2 == er2) = true := beq_self_eq_true _
      go_upto_region 10 with fail
      go_region_held3 (fun u => u.cell? ⟨w.heap.size, 0, none⟩ = some (.int .u64 r.seq) ∧ u.cell? ⟨w.heap.size, 1, none⟩ = some (.int .u64 r.log) ∧ u.cell? ⟨w.heap.size, 2, none⟩ = some (.int .u64 r.next) ∧ u.cell? ⟨w.heap.size, 3, none⟩ = some (.slice r.ba nb r.bc) ∧ u.cell? ⟨w.heap.size, 4, none⟩ = some (.slice r.la nl r.lc) ∧ u.cell? ⟨w.heap.size, 5, none⟩ = some (.slice r.va nv r.vc) ∧ u.cell? ⟨w.heap.size, 6, none⟩ = some (.slice r.sa ns r.sc))
        (first | exact HST.out _ (by assumption) | exact HST.out _ (HW8.out _ (Below.refl _ _)) | exact HST.out _ (HW8.out _ HD8.out) | exact HST.out _ hW6 | exact HST.out _ hW5 | exact HST.out _ (HW8.out _ hA4) | exact HST.out _ (HW8.out _ hA3) | exact HST.out _ (HW8.out _ hA2) | exact HST.out _ (HW8.out _ hA1))
        (first
          | (go_at_call 16; (with_reducible refine HCa.out.mono ?_); rintro e u1 ⟨rfl, hu1⟩; have hA1 : Below w8.heap.size w8 u1 := belT HD8.out hu1; clear hu1)
          | (go_at_call 21; (with_reducible refine (HCb.out _ hA1).mono ?_); rintro e u2 ⟨rfl, hu2⟩; have hA2 : Below w8.heap.size w8 u2 := belT hA1 hu2; clear hu2)
          | (go_at_call 18; (with_reducible refine (HS1.out _ hA2).mono ?_); rintro e u3 ⟨rfl, hu3⟩; have hA3 : Below w8.heap.size w8 u3 := belT hA2 hu3; clear hu3)
          | (go_at_call 18; (with_reducible refine (HS2.out _ hA3).mono ?_); rintro e u4 ⟨rfl, hu4⟩; have hA4 : Below w8.heap.size w8 u4 := belT hA3 hu4; clear hu4)
          | (go_at_call 22; (with_reducible refine (HAP.out _ hA4).mono ?_); rintro e u5 ⟨rfl, hu5⟩; have hW5 : Below W.heap.size W u5 := (HW8.out _ hA4).trans hu5; clear hu5)
          | (go_at_call 9; (with_reducible refine (HL.out _).mono ?_); rintro e u6 ⟨rfl, hu6⟩; have hW6 : Below W.heap.size W u6 := hW5.trans (hu6.mono hW5.size); clear hu6))
      all_goals
        have HFIN := Lib.hid (show LivesPost w (.returned (.bool true)) u6 from ⟨rfl, HB.out.trans (hW6.mono HB.out.size)⟩)
        clear hW6
        go_wp2_with fail
        go_ret
        exact HFIN.out
end Go.Proofs.YtchcelodeepjdaaGreatDoor.Ln
