import Derived.Test.YthdjokcjajlnnaaW7
import Derived.StillTailTactics
import Derived.Deep.RegionHeld3
namespace Go.Proofs.Ythdjokcjajlnnaa
open Go.RowKit Go.Herb

attribute [local go_sem] run_min_str run_max_str

set_option maxHeartbeats 400000 in
theorem rmeet_any (x y : T) (w : World) :
    Calls Try.prog 30 #[tv x, tv y] w fun e w' => e = .returned (.bool (meetB x y)) ∧ Below w.heap.size w w' := by
  go_enter Try.func30, Try.ntmps30
  go_wp2
  all_goals
    go_ret
    refine ⟨?_, ((Below.refl _ _).alloc (Nat.le_refl _) _).alloc (by simp) _⟩
    simp_all [meetB]

set_option maxHeartbeats 400000 in
theorem rbytes_any (l : Lv) (w : World) (h : LvOk w l) :
    Calls Try.prog 18 #[sv l] w fun e w' => e = .returned (.int .u64 (bytesL l.ts)) ∧ w = w' := by
  obtain ⟨a, c, ts⟩ := l
  simp only [sv]
  have hlen := h.len
  simp only at hlen
  have H := Lib.hid h
  clear h
  go_enter Try.func18, Try.ntmps18
  go_wp2
  go_loopg [3, 4] ts.length (fun gk n i wr => ∃ k : Nat, k + gk = ts.length ∧ i = .int .i64 k ∧ n = .int .u64 (bytesL (ts.take k)) ∧ w = wr)
  case atStart => exact ⟨0, by omega, rfl, rfl, rfl⟩
  case round =>
    obtain ⟨k, hk, rfl, rfl, rfl⟩ := hrel
    have hbl : bytesL (ts.take k) ≤ 1000 * 4294967296 := Nat.le_trans (bytesL_le (ts.take k) (fun t ht => H.out.wf t (List.mem_of_mem_take ht))) (Nat.mul_le_mul_right _ (by simp; omega))
    by_cases hlt : k < ts.length
    · obtain ⟨b, o, rfl, hb, hc⟩ := H.out.tabs.get k hlt
      have e1 := hc 1 _ rfl
      have hwf := H.out.wf _ (List.getElem_mem hlt)
      have hsn : bytesL (ts.take (k + 1)) = bytesL (ts.take k) + ts[k].bytes.toNat := by rw [List.take_succ_eq_append_getElem hlt, bytesL_snoc]
      have HS := Lib.hid hsn
      clear hsn hc
      simp only at *
      generalize ts[k] = x at *
      obtain ⟨y, hy⟩ := Int.eq_ofNat_of_zero_le hwf.1
      have HY := Lib.hid hy
      rw [hy] at e1 hwf
      clear hy
      generalize bytesL (ts.take k) = n at *
      go_wp2
      go_roundg (gk - 1)
      case measure => omega
      case rel => exact ⟨k + 1, by omega, by go_num, by rw [HS.out, HY.out]; go_num, rfl⟩
    · go_wp2
      go_ret
      exact ⟨by rw [List.take_of_length_le (by omega)]; rfl, rfl⟩

set_option maxHeartbeats 1000000 in
theorem met_any (l by_ : Lv) (w : World) (h : LvOk w l) (hb : LvOk w by_) (hne : 0 < by_.ts.length) :
    Calls Try.prog 17 #[sv l, sv by_] w fun e w' => ∃ v, e = .returned v ∧ w'.ownsRow w.heap.size 45 4 v (l.ts.filter (meetB · (spanL by_.ts))).length ((l.ts.filter (meetB · (spanL by_.ts))).flatMap tc) ∧ Below w.heap.size w w' := by
  obtain ⟨a, c, ts⟩ := l
  obtain ⟨a2, c2, bs⟩ := by_
  simp only [sv] at *
  have hlen := h.len
  have hlen2 := hb.len
  simp only at hlen hlen2 hne
  have H := Lib.hid h
  have HB := Lib.hid hb
  obtain ⟨b, o, rfl, hbl, hc⟩ := hb.tabs.get 0 hne
  have e0 := hc 0 _ rfl
  have e1 := hc 1 _ rfl
  have e2 := hc 2 _ rfl
  have e3 := hc 3 _ rfl
  simp only [Nat.zero_mul, Nat.add_zero] at e0 e1 e2 e3
  obtain ⟨x0, hx0⟩ : ∃ x0, x0 = bs[0] := ⟨_, rfl⟩
  rw [← hx0] at e0 e1 e2 e3
  have HX0 := Lib.hid hx0
  obtain ⟨i0, hi, hz0, hz1, hz2⟩ := info_parts Try.info45
  clear h hb hc hx0
  go_enter Try.func17, Try.ntmps17
  go_wp2
  go_loopg [6] bs.length (fun gk i wr => ∃ k : Nat, k + gk = bs.length ∧ i = .int .i64 k ∧ Below w.heap.size w wr ∧ wr.heap[w.heap.size]? = some (.cells (tc (if k = 0 then x0 else spanL (bs.take k))).toArray 45 (0, 0)))
  case atStart => exact ⟨0, by omega, rfl, by go_grown, blk_new _ _⟩
  case round =>
    obtain ⟨k, hk, rfl, hB, hO⟩ := hrel
    clear e0 e1 e2 e3
    obtain ⟨t, ht⟩ : ∃ t, t = (if k = 0 then x0 else spanL (bs.take k)) := ⟨_, rfl⟩
    rw [← ht] at hO
    have hO0 := Lib.hid hO
    have HT := Lib.hid ht
    have hsz : w.heap.size < wr.heap.size := lt_of_blk hO
    obtain ⟨t0, t1, t2, t3, f0, f1, f2, f3⟩ := blk_cells4 hO
    clear ht hO
    by_cases hlt : k < bs.length
    · obtain ⟨b', o', ha, hb', hc⟩ := HB.out.tabs.get k hlt
      injection ha with ha
      injection ha with ha1 ha2
      subst ha1 ha2
      have g2 := (hB.cell (p := ⟨b, _, none⟩) hbl).trans (hc 2 _ rfl)
      have g3 := (hB.cell (p := ⟨b, _, none⟩) hbl).trans (hc 3 _ rfl)
      simp only at g2 g3
      generalize hx : bs[k] = x at *
      have HX := Lib.hid hx
      clear hc hx
      have hbne : ¬ w.heap.size = b := by omega
      go_wp2
      go_region
      go_wp2
      go_region
      go_wp2
      go_roundg (gk - 1)
      case measure => omega
      case rel =>
        refine ⟨k + 1, by omega, by go_num, by go_grown, ?_⟩
        refine (blk_setCell (j := 3) (blk_setCell (j := 2) hO0.out (.string (minB t.low x.low))) (.string (maxB t.high x.high))).trans ?_
        have h1 := HT.out
        have h2 := HX.out
        have h3 := HX0.out
        rw [if_neg (by omega)]
        have h4 : spanL (bs.take (k + 1)) = spanStep t x := by
          by_cases hk0 : k = 0
          · subst hk0
            rw [if_pos rfl] at h1
            rw [spanL_take_one bs (by omega), h2, h1, h3, h2]
          · obtain ⟨j, rfl⟩ : ∃ j, k = j + 1 := ⟨k - 1, by omega⟩
            rw [if_neg hk0] at h1
            rw [spanL_take_succ bs j (by omega), h2, h1]
        rw [h4]
        simp [tc, spanStep]
    · have hke : k = bs.length := by omega
      subst hke
      have HT2 : Hid (t = spanL bs) := by
        have := HT.out
        rw [if_neg (by omega), List.take_length] at this
        exact this
      obtain ⟨wo, rfl⟩ : ∃ wo : World, wo = wr := ⟨_, rfl⟩
      clear HT HX0
      go_wp2
      go_loopg [7, 8] ts.length (fun gk v i wq => ∃ k : Nat, k + gk = ts.length ∧ i = .int .i64 k ∧ Below wo.heap.size wo wq ∧ wq.ownsRow wo.heap.size 45 4 v ((ts.take k).filter (meetB · t)).length (((ts.take k).filter (meetB · t)).flatMap tc))
      case atStart => exact ⟨0, by omega, rfl, Below.refl _ _, World.ownsRow_nil _ _ _ _⟩
      case round =>
        obtain ⟨k, hk2, rfl, hQ, hR⟩ := hrel
        have s0 := (hQ.cell (p := ⟨w.heap.size, 0, none⟩) hsz).trans t0
        have s1 := (hQ.cell (p := ⟨w.heap.size, 1, none⟩) hsz).trans t1
        have s2 := (hQ.cell (p := ⟨w.heap.size, 2, none⟩) hsz).trans t2
        have s3 := (hQ.cell (p := ⟨w.heap.size, 3, none⟩) hsz).trans t3
        have hsz2 : w.heap.size < wr.heap.size := Nat.lt_of_lt_of_le hsz hQ.size
        have hwr : Below w.heap.size w wr := hB.trans (hQ.mono (by omega))
        clear t0 t1 t2 t3 f0 f1 f2 f3
        by_cases hlt2 : k < ts.length
        · obtain ⟨b2, o2, rfl, hb2, hc⟩ := H.out.tabs.get k hlt2
          have e0 := (hwr.cell (p := ⟨b2, _, none⟩) hb2).trans (hc 0 _ rfl)
          have e1 := (hwr.cell (p := ⟨b2, _, none⟩) hb2).trans (hc 1 _ rfl)
          have e2 := (hwr.cell (p := ⟨b2, _, none⟩) hb2).trans (hc 2 _ rfl)
          have e3 := (hwr.cell (p := ⟨b2, _, none⟩) hb2).trans (hc 3 _ rfl)
          simp only [Nat.add_zero] at e0 e1 e2 e3
          have hsnoc : ts.take (k + 1) = ts.take k ++ [ts[k]] := by rw [List.take_succ_eq_append_getElem hlt2]
          have HS := Lib.hid hsnoc
          clear hsnoc hc
          generalize ts[k] = x at *
          have hlenk : ((ts.take k).filter (meetB · t)).length ≤ k := Nat.le_trans (List.length_filter_le _ _) (List.length_take_le _ _)
          have hqs := hQ.size
          have HR := Lib.hid hR
          clear hR
          go_wp2
          go_region_held3 (fun w' => w'.cell? ⟨w.heap.size, 0, none⟩ = some (.int .u64 t.file) ∧ w'.cell? ⟨w.heap.size, 1, none⟩ = some (.int .u32 t.bytes) ∧ w'.cell? ⟨w.heap.size, 2, none⟩ = some (.string t.low) ∧ w'.cell? ⟨w.heap.size, 3, none⟩ = some (.string t.high) ∧
              w'.cell? ⟨b2, o2 + k * 4, none⟩ = some (.int .u64 x.file) ∧ w'.cell? ⟨b2, o2 + k * 4 + 1, none⟩ = some (.int .u32 x.bytes) ∧ w'.cell? ⟨b2, o2 + k * 4 + 2, none⟩ = some (.string x.low) ∧ w'.cell? ⟨b2, o2 + k * 4 + 3, none⟩ = some (.string x.high)) (go_keep)
            (first | (go_at_call 30; refine (rmeet_any x t _).mono ?_; rintro e w1 ⟨rfl, hb1⟩; have hb1' : Below wr.heap.size wr w1 := (Below.refl _ _).drew.trans hb1; have q0 := (hb1'.cell (p := ⟨w.heap.size, 0, none⟩) hsz2).trans s0; have q1 := (hb1'.cell (p := ⟨w.heap.size, 1, none⟩) hsz2).trans s1; have q2 := (hb1'.cell (p := ⟨w.heap.size, 2, none⟩) hsz2).trans s2; have q3 := (hb1'.cell (p := ⟨w.heap.size, 3, none⟩) hsz2).trans s3; have r0 := (hb1'.cell (p := ⟨b2, o2 + k * 4, none⟩) (by show b2 < _; omega)).trans e0; have r1 := (hb1'.cell (p := ⟨b2, o2 + k * 4 + 1, none⟩) (by show b2 < _; omega)).trans e1; have r2 := (hb1'.cell (p := ⟨b2, o2 + k * 4 + 2, none⟩) (by show b2 < _; omega)).trans e2; have r3 := (hb1'.cell (p := ⟨b2, o2 + k * 4 + 3, none⟩) (by show b2 < _; omega)).trans e3))
          rename_i hheld
          clear hheld e0 e1 e2 e3 s0 s1 s2 s3 hb1 q0 q1 q2 q3
          have hO1 := ownsRow_below HR.out hb1' (Nat.le_refl _)
          have hsz1 := hb1'.size
          have hQ1 : Below wo.heap.size wo w1 := hQ.trans (hb1'.mono hqs)
          have hO1h := Lib.hid hO1
          clear hb1' hO1 HR
          cases hm : meetB x t
          · have HM := Lib.hid hm
            clear hm
            go_wp2
            go_roundg (gk - 1)
            case measure => omega
            case rel => exact ⟨k + 1, by omega, by go_num, hQ1, by rw [HS.out]; simpa [HM.out] using hO1h.out⟩
          · have HM := Lib.hid hm
            clear hm
            go_wp2_with ((at_builtin; refine wpList_append_own _ rfl _ _ 23 rfl wo.heap.size 45 i0 _ 4 48 Try.underlying23 hi hz0 hz1 hz2 rfl (by decide) _ _ _ rfl (hO1h.out.alloc _) ⟨w1.heap.size, 0, none⟩ 1 1 (tc x) rfl rfl ?c1 ?c2 ?c3 ?c4 ?c5 ?_))
            case c1 => exact news_cells w1 (tc x) 45
            case c2 => exact tc_one x
            case c3 => unfold maxLen; omega
            case c4 => omega
            case c5 => simp; omega
            intro v' w2 hO2 hg _
            have hQ2 : Below wo.heap.size wo w2 := Below.appended (hQ1.alloc (by omega) _) (hO1h.out.alloc _) (Nat.le_refl _) (by simp; omega) hg
            have HO2 := Lib.hid hO2
            clear hg hO1h hQ1 hO2
            go_wp2
            go_roundg (gk - 1)
            case measure => omega
            case rel => exact ⟨k + 1, by omega, by go_num, hQ2, by rw [HS.out]; simpa [HM.out] using HO2.out⟩
        · have hke2 : k = ts.length := by omega
          subst hke2
          have HR := Lib.hid hR
          have hle := hB.size
          clear hR
          go_wp2
          go_ret
          refine ⟨_, rfl, ?_, hwr⟩
          have := HR.out
          rw [List.take_length, HT2.out] at this
          exact ownsRow_mono this hle
end Go.Proofs.Ythdjokcjajlnnaa
