/- PicksEnd: whatever is asked, it answers true. -/
import Derived.Test.YthdjokcjajlnnaaA7b
import Derived.Deep.CutRange
namespace Go.Proofs.Ythdjokcjajlnnaa
open Go.RowKit Go.Herb Go.Fl

attribute [local go_sem] run_min_str run_max_str

theorem upd_own {B : Nat} {w : World} {vs : Nat → Value} {ts : Nat → List T} {k : Nat} {v : Value} {us : List T} (h : ∀ j, j < 3 → j < k → Own B w (vs j) (ts j)) (h2 : Own B w v us) : ∀ j, j < 3 → j < k + 1 → Own B w (upd vs k v j) (if j = k then us else ts j) := by
  intro j h3 h4
  unfold upd
  by_cases hj : j = k
  · rw [if_pos hj, if_pos hj]; exact h2
  · rw [if_neg hj, if_neg hj]; exact h j h3 (by omega)

theorem below_drewN' {B : Nat} {a w : World} (h : Below B a w) (n : Nat) : Below B a (w.drewN n) := h.trans ⟨rfl, rfl, rfl, Nat.le_refl _, fun _ _ => rfl⟩

theorem upd_upd (vs : Nat → Value) (k : Nat) (u v : Value) : upd (upd vs k u) k v = upd vs k v := by
  funext i
  unfold upd
  by_cases h : i = k
  · rw [if_pos h, if_pos h]
  · rw [if_neg h, if_neg h, if_neg h]

theorem upd_wf {ts : Nat → List T} {k : Nat} {us : List T} (h : ∀ j, j < k → (ts j).length ≤ 8 ∧ ∀ t ∈ ts j, 0 ≤ t.bytes ∧ t.bytes < 4294967296) (h2 : us.length ≤ 8) (h3 : ∀ t ∈ us, 0 ≤ t.bytes ∧ t.bytes < 4294967296) :
    ∀ j, j < k + 1 → (if j = k then us else ts j).length ≤ 8 ∧ ∀ t ∈ (if j = k then us else ts j), 0 ≤ t.bytes ∧ t.bytes < 4294967296 := by
  intro j hj
  by_cases e : j = k
  · rw [if_pos e]; exact ⟨h2, h3⟩
  · rw [if_neg e]; exact h j (by omega)

set_option maxRecDepth 100000 in
set_option maxHeartbeats 4000000 in
theorem picksEnd_any (line fr tt : Int) (l0 l1 l2 li lb ll : Lv) (ad : Option Addr) (cd : Nat) (ds : List Int) (nn : Bool) (w : World) (h0 : LvIn w l0) (h1 : LvIn w l1) (h2 : LvIn w l2) (hd : U64s w ad ds) :
    Calls Try.prog 5 #[.agg #[.int .u64 line, sv l0, sv l1, sv l2, .slice ad ds.length cd, .int .i64 fr, .int .i64 tt, sv li, sv lb, sv ll], .bool nn] w
      fun e w' => e = .returned (.bool true) ∧ Below w.heap.size w w' := by
  have H0 := Lib.hid h0
  have H1 := Lib.hid h1
  have H2 := Lib.hid h2
  have HD := Lib.hid hd
  clear h0 h1 h2 hd
  go_enter Try.func5, Try.ntmps5
  go_wp2_with fail
  obtain ⟨W, hW⟩ : ∃ W : World, W = w.alloc (Obj.cells #[.int .u64 line, sv l0, sv l1, sv l2, .slice ad ds.length cd, .int .i64 fr, .int .i64 tt, sv li, sv lb, sv ll] 31) := ⟨_, rfl⟩
  have hB : Below w.heap.size w W := by rw [hW]; go_grown
  have s : W.heap[w.heap.size]? = some (.cells #[.int .u64 line, sv l0, sv l1, sv l2, .slice ad ds.length cd, .int .i64 fr, .int .i64 tt, sv li, sv lb, sv ll] 31 (0, 0)) := by rw [hW]; exact blk_new_at rfl _
  rw [← hW]
  clear hW
  refine (great_any line fr tt _ _ _ _ _ _ _ _ _ _ _ _ _ _ _ _ _ _ _ _ _ W).mono ?_
  rintro e w1 ⟨rfl, hb1⟩
  have hB1 : Below w.heap.size w w1 := hB.trans (hb1.mono (by have := lt_of_blk s; omega))
  have s1 := blk_below s hb1 (lt_of_blk s)
  have hz1 := lt_of_blk s1
  clear hb1 s hB
  cases hg : greatB l0.ts.length l1.ts.length l2.ts.length ds.length li.ts.length lb.ts.length ll.ts.length
  · have hgn : l0.ts.length ≤ 40 ∧ l1.ts.length ≤ 40 ∧ l2.ts.length ≤ 40 ∧ ds.length ≤ 60 := by
      simp [greatB] at hg; omega
    obtain ⟨g0, g1, g2, gd⟩ := hgn
    clear hg
    have c0 := cell_of_blk s1 0
    have c1 := cell_of_blk s1 1
    have c2 := cell_of_blk s1 2
    have c3 := cell_of_blk s1 3
    have c4 := cell_of_blk s1 4
    simp at c0 c1 c2 c3 c4
    have S1 := Lib.hid s1
    clear s1
    go_wp2_with fail
    go_loopg [5] ds.length (fun gk iv wr => ∃ k : Nat, k + gk = ds.length ∧ iv = .int .i64 k ∧ (∀ y ∈ ds.take k, y < 1125899906842624) ∧ w1 = wr)
    case atStart => exact ⟨0, by omega, rfl, by simp, rfl⟩
    case round =>
      obtain ⟨k, hk, rfl, hcl, rfl⟩ := hrel
      have HCL := Lib.hid hcl
      clear hcl
      by_cases hlt : k < ds.length
      · obtain ⟨b, o, rfl, hb, hc⟩ := HD.out.get k hlt
        have e0 := (hB1.cell (p := ⟨b, _, none⟩) hb).trans (hc 0 _ rfl)
        simp only [Nat.add_zero, Nat.mul_one] at e0
        have hsn : ds.take (k + 1) = ds.take k ++ [ds[k]] := by rw [List.take_succ_eq_append_getElem hlt]
        have HSN := Lib.hid hsn
        clear hsn hc
        generalize ds[k] = y at *
        by_cases hy : y < 1125899906842624
        · go_wp2_with fail
          go_roundg (gk - 1)
          case measure => omega
          case rel =>
            refine ⟨k + 1, by omega, by go_num, ?_, rfl⟩
            rw [HSN.out]
            intro z hz
            rcases List.mem_append.1 hz with hz | hz
            · exact HCL.out z hz
            · rw [List.mem_singleton.1 hz]; exact hy
        · go_wp2_with fail
          refine (lives_any w1).mono ?_
          rintro e w2 ⟨rfl, hb2⟩
          have hB2 := hB1.trans (hb2.mono (by omega))
          clear hb2
          go_wp2
          go_ret
          exact ⟨rfl, hB2⟩
      · have hke : k = ds.length := by omega
        subst hke
        have hcd : ∀ y ∈ ds, y < 1125899906842624 := by
          have := HCL.out
          rwa [List.take_length] at this
        have HCD := Lib.hid hcd
        have HB1 := Lib.hid hB1
        clear hcd HCL hB1
        obtain ⟨gh1, rfl⟩ : ∃ gh1 : Nat, gh1 = gk := ⟨_, rfl⟩
        go_wp2_with fail
        clear c0 c1 c2 c3 c4
        go_loopg [8] 3 (fun gk iv wr => ∃ (k : Nat) (vs : Nat → Value) (ts : Nat → List T), k + gk = 3 ∧ iv = .int .i64 k ∧ Below w1.heap.size w1 wr ∧ wr.heap[w1.heap.size]? = some (.cells #[.int .u64 line, vs 0, vs 1, vs 2] 26 (0, 0)) ∧
          (∀ j, j < 3 → j < k → Own (w1.heap.size + 1) wr (vs j) (ts j)) ∧ ∀ j, j < k → (ts j).length ≤ 8 ∧ ∀ t ∈ ts j, 0 ≤ t.bytes ∧ t.bytes < 4294967296)
        case atStart => exact ⟨0, fun i => sv (lvAt l0 l1 l2 i), fun _ => [], rfl, rfl, by go_grown, blk_new _ _, fun j _ h => absurd h (Nat.not_lt_zero _), fun j h => absurd h (Nat.not_lt_zero _)⟩
        case round =>
          obtain ⟨k, vs, ts, hk, rfl, hBr, ho, hOw, hwf⟩ := hrel
          have hsz := lt_of_blk ho
          have HBR := Lib.hid hBr
          have HO := Lib.hid ho
          have HOW := Lib.hid hOw
          have HWF := Lib.hid hwf
          clear hBr ho hOw hwf
          by_cases hlt : k < 3
          · skip
            as_aux_lemma =>
              have f1 := frozen_of_blk HO.out (1 + k)
              have c1 := three_cell (f := vs) HO.out k hlt
              have hi0 : (0 : Int) ≤ (k : Int) := by omega
              have hi1 : (k : Int) < 3 := by omega
              obtain ⟨W2, rfl⟩ : ∃ W2 : World, W2 = wr := ⟨_, rfl⟩
              obtain ⟨gh2, rfl⟩ : ∃ gh2 : Nat, gh2 = gk := ⟨_, rfl⟩
              go_wp2_with fail
              clear f1 c1
              go_loopg [9] 8 (fun gk iv wr => ∃ (j : Nat) (v : Value) (us : List T), j + gk = 8 ∧ iv = .int .i64 j ∧ us.length = j ∧ Below w1.heap.size w1 wr ∧ (∀ b, w1.heap.size + 1 ≤ b → b < W2.heap.size → wr.heap[b]? = W2.heap[b]?) ∧ W2.heap.size ≤ wr.heap.size ∧
                wr.heap[w1.heap.size]? = some (.cells #[.int .u64 line, upd vs k v 0, upd vs k v 1, upd vs k v 2] 26 (0, 0)) ∧ Own W2.heap.size wr v us ∧ ∀ t ∈ us, 0 ≤ t.bytes ∧ t.bytes < 4294967296)
              case atStart =>
                refine ⟨0, .slice none 0 0, [], rfl, rfl, rfl, ?_, ?_, by simp [World.setCell], three_set HO.out k hlt _, Own.nil _ _, by simp⟩
                · have := HBR.out
                  go_grown
                · intro b h1 h2
                  exact Below.heap_setCell W2 ⟨w1.heap.size, 1 + k, none⟩ _ b (by show b ≠ w1.heap.size; omega)
              case round =>
                obtain ⟨j, v, us, hj, rfl, hus, hBi, hmid, hszi, hoi, hOi, hwi⟩ := hrel
                obtain ⟨av, cv, rfl, hcv, hTv, -⟩ := Own.open hOi
                have HTV0 := Lib.hid hTv
                have hzw := lt_of_blk hoi
                have HBI := Lib.hid hBi
                have HMID := Lib.hid hmid
                have HOI := Lib.hid hoi
                have HOWI := Lib.hid hOi
                have HWI := Lib.hid hwi
                have HUS := Lib.hid hus
                have sB := blk_below S1.out hBi hz1
                have c2 : wr.cell? ⟨w.heap.size, 1 + k, none⟩ = some (.slice (lvAt l0 l1 l2 k).a (lvAt l0 l1 l2 k).ts.length (lvAt l0 l1 l2 k).cap) := ask_cell sB k hlt
                clear hBi hmid hoi hOi hwi sB hTv hus
                have hLV := (lvAt_all H0.out H1.out H2.out : ∀ i, i < 3 → LvIn w (lvAt l0 l1 l2 i)) k hlt
                have hgl : (lvAt l0 l1 l2 k).ts.length ≤ 40 := (lvAt_all (P := fun l => l.ts.length ≤ 40) g0 g1 g2) k hlt
                have HLV := Lib.hid hLV
                clear hLV
                generalize lvAt l0 l1 l2 k = L at *
                by_cases hin : j < L.ts.length ∧ j < 8
                · obtain ⟨hin1, hin2⟩ := hin
                  obtain ⟨b, o, ha, hb, hc⟩ := HLV.out.tabs.get j hin1
                  have hBw := HB1.out.trans (HBI.out.mono HB1.out.size)
                  have e0 := (hBw.cell (p := ⟨b, _, none⟩) hb).trans (hc 0 _ rfl)
                  have e1 := (hBw.cell (p := ⟨b, _, none⟩) hb).trans (hc 1 _ rfl)
                  have e2 := (hBw.cell (p := ⟨b, _, none⟩) hb).trans (hc 2 _ rfl)
                  have e3 := (hBw.cell (p := ⟨b, _, none⟩) hb).trans (hc 3 _ rfl)
                  simp only [Nat.add_zero] at e0 e1 e2 e3
                  have hxw := HLV.out.wf _ (List.getElem_mem hin1)
                  rw [ha] at c2
                  generalize L.ts[j] = x at *
                  clear hc hBw
                  obtain ⟨y, hy⟩ := Int.eq_ofNat_of_zero_le hxw.1
                  rw [hy] at e1
                  have hmod : Int.tmod (y : Int) 5000 = ((y % 5000 : Nat) : Int) := by simp [Int.tmod]
                  go_upto_if 76 with (fail)
                  go_cut [] (fun wx => ∃ z : T, (0 ≤ z.bytes ∧ z.bytes < 4294967296) ∧ wx = wr.alloc (.cells #[.int .u64 z.file, .int .u32 z.bytes, .string z.low, .string z.high] 45))
                  case first =>
                    go_wp2_with fail
                    all_goals
                      go_meet
                      first
                      | exact ⟨⟨x.file, (y : Int) % 5000, x.low, x.high⟩, ⟨by simp only; omega, by simp only; omega⟩, rfl⟩
                      | exact ⟨⟨x.file, (y : Int) % 5000, x.high, x.low⟩, ⟨by simp only; omega, by simp only; omega⟩, rfl⟩
                  case rest =>
                  obtain ⟨z, hzw2, rfl⟩ := hcut
                  clear e0 e1 e2 e3 c2 hmod hy hxw
                  go_upto_region 21 with (fail)
                  obtain ⟨V, hV⟩ : ∃ V : World, V = wr.alloc (.cells #[.int .u64 z.file, .int .u32 z.bytes, .string z.low, .string z.high] 45) := ⟨_, rfl⟩
                  have hBV : Below wr.heap.size wr V := by rw [hV]; exact (Below.refl _ _).alloc (Nat.le_refl _) _
                  have hVs : V.heap.size = wr.heap.size + 1 := by rw [hV]; simp
                  have tV : V.heap[wr.heap.size]? = some (.cells (tc z).toArray 45 (0, 0)) := by rw [hV]; exact blk_new_at rfl _
                  rw [← hV]
                  have oV := blk_below HOI.out hBV hzw
                  have HBV := Lib.hid hBV
                  have HTV := Lib.hid tV
                  have HOV := Lib.hid oV
                  clear hV hBV tV oV
                  go_cut [102] (fun bv wx => (∃ bb : Bool, bv = .bool bb) ∧ Below V.heap.size V wx ∧ wx.heap.size = V.heap.size)
                  case first =>
                    obtain ⟨t0, t1, t2, t3, -⟩ := blk_cells4 HTV.out
                    have c9 := three_cell (f := upd vs k (.slice av us.length cv)) HOV.out k hlt
                    have hupd : upd vs k (.slice av us.length cv) k = .slice av us.length cv := by simp [upd]
                    rw [hupd] at c9
                    by_cases hk0 : 0 < k
                    · by_cases hj0 : 0 < j
                      · obtain ⟨i, rfl⟩ : ∃ i, j = i + 1 := ⟨j - 1, by omega⟩
                        have hul : i < us.length := by have := HUS.out; omega
                        obtain ⟨b4, o4, rfl, hb4, hc4⟩ := HTV0.out.get i hul
                        have e3 := (HBV.out.cell (p := ⟨b4, _, none⟩) hb4).trans (hc4 3 _ rfl)
                        generalize us[i] = y4 at *
                        have hkd : decide ((0 : Int) < (k : Int)) = true := by simp; omega
                        have hjd : decide ((0 : Int) < ((i + 1 : Nat) : Int)) = true := by simp
                        have hwj : IntKind.i64.wrap (((i + 1 : Nat) : Int) - 1) = (i : Int) := by rw [IntWalk.i64_in _ (by omega)]; omega
                        have hil : (i : Int) < (us.length : Int) := by omega
                        have hi00 : (0 : Int) ≤ (i : Int) := by omega
                        clear HBI HMID HOI HOWI HWI HUS HLV HBV HTV HOV hc4 HTV0
                        go_quiet (fail)
                        go_wp2_with fail
                        go_meet
                        exact ⟨⟨_, rfl⟩, below_drewN' (Below.refl _ _) _, rfl⟩
                      · have hj00 : j = 0 := by omega
                        subst hj00
                        have hkd : decide ((0 : Int) < (k : Int)) = true := by simp; omega
                        clear HBI HMID HOI HOWI HWI HUS HLV HBV HTV HOV
                        go_quiet (fail)
                        go_wp2_with fail
                        go_meet
                        exact ⟨⟨_, rfl⟩, below_drewN' (Below.refl _ _) _, rfl⟩
                    · have hk00 : k = 0 := by omega
                      subst hk00
                      clear HBI HMID HOI HOWI HWI HUS HLV HBV HTV HOV
                      go_quiet (fail)
                      go_wp2_with fail
                      go_meet
                      exact ⟨⟨_, rfl⟩, below_drewN' (Below.refl _ _) _, rfl⟩
                  case rest =>
                  obtain ⟨⟨bb, rfl⟩, hBx, hxs⟩ := hcut
                  have hVlt : wr.heap.size < V.heap.size := by omega
                  have hBc : Below wr.heap.size wr wc := HBV.out.trans (hBx.mono (by omega))
                  have oc := blk_below HOI.out hBc hzw
                  have tcw := blk_below HTV.out hBx hVlt
                  have Oc := HOWI.out.below hBc
                  have hB1c : Below w1.heap.size w1 wc := HBI.out.trans (hBc.mono (by omega))
                  have hmc : ∀ b, w1.heap.size + 1 ≤ b → b < W2.heap.size → wc.heap[b]? = W2.heap[b]? := fun b h1 h2 => (hBc.block b (by omega)).trans (HMID.out b h1 h2)
                  have hwt : wr.heap.size < wc.heap.size := by omega
                  have hw1c : w1.heap.size < wc.heap.size := by omega
                  have HMC := Lib.hid hmc
                  have HOC := Lib.hid oc
                  have HTC := Lib.hid tcw
                  have HOO := Lib.hid Oc
                  have HB1C := Lib.hid hB1c
                  clear hBc hB1c oc tcw Oc hmc hBx hxs HOI HOWI HTV HOV HBV HBI HMID HTV0
                  cases bb
                  · obtain ⟨i0, hin, hz0, hz1i, hz2⟩ := info_parts Try.info45
                    obtain ⟨X, hX⟩ : ∃ X : World, X = (wc.alloc (.cells #[.int .u64 z.file, .int .u32 z.bytes, .string z.low, .string z.high] 45)).drew := ⟨_, rfl⟩
                    have hBX : Below wc.heap.size wc X := by rw [hX]; exact ((Below.refl _ _).alloc (Nat.le_refl _) _).drew
                    have hXs : X.heap.size = wc.heap.size + 1 := by rw [hX]; simp [World.drew]
                    have hzX : X.heap[wc.heap.size]? = some (.cells (tc z).toArray 45 (0, 0)) := by rw [hX]; exact blk_new wc _
                    obtain ⟨v', w', hrun, hO', hg', -⟩ := run_append_one X W2.heap.size (.slice av us.length cv) us (some ⟨wc.heap.size, 0, none⟩) 1 [z] (HOO.out.below hBX) (.inr ⟨z, _, rfl, rfl, hzX⟩) (by have := HUS.out; omega) (by omega) 23
                    obtain ⟨a2, c2', rfl, -, -⟩ := els_of_owns tc_len hO'
                    have hrw : ∀ g, (Value.slice av us.length cv).ownBlock = some g → W2.heap.size ≤ g := fun g hg => (World.ownsRow.lt HOO.out g hg).1
                    have hBw' : Below w1.heap.size w1 w' := (HB1C.out.trans (hBX.mono (by omega))).grown hg' (by omega) (fun g hg => by have := hrw g hg; omega)
                    have hoX := blk_below HOC.out hBX (by omega)
                    have ho' : w'.heap[w1.heap.size]? = some (.cells #[.int .u64 line, upd vs k (.slice av us.length cv) 0, upd vs k (.slice av us.length cv) 1, upd vs k (.slice av us.length cv) 2] 26 (0, 0)) := (hg'.block w1.heap.size (by omega) (fun h => by have := hrw _ h.symm; omega)).trans hoX
                    have hm' : ∀ b, w1.heap.size + 1 ≤ b → b < W2.heap.size → w'.heap[b]? = W2.heap[b]? := fun b h1 h2 => ((hg'.block b (by omega) (fun h => by have := hrw _ h.symm; omega)).trans (hBX.block b (by omega))).trans (HMC.out b h1 h2)
                    have hs' : X.heap.size ≤ w'.heap.size := hg'.size
                    have hun : (us ++ [z]).length = us.length + 1 := by simp
                    rw [hun] at hO' hrun
                    have hrun' : (Builtin.append_ #[23, 23] 23 #[.slice av us.length cv, .slice (some ⟨wc.heap.size, 0, none⟩) 1 1]).run Try.prog X = .ok (.slice a2 (us.length + 1) c2') w' := hrun
                    rw [hX] at hrun'
                    obtain ⟨t0, t1, t2, t3, -⟩ := blk_cells4 HTC.out
                    have c9 := three_cell (f := upd vs k (.slice av us.length cv)) HOC.out k hlt
                    have hupd : upd vs k (.slice av us.length cv) k = .slice av us.length cv := by simp [upd]
                    rw [hupd] at c9
                    have c9' := three_cell (f := upd vs k (.slice av us.length cv)) ho' k hlt
                    have f9' := frozen_of_blk ho' (1 + k)
                    have HRUN := Lib.hid hrun'
                    have HO' := Lib.hid hO'
                    have HBW' := Lib.hid hBw'
                    have HOB' := Lib.hid ho'
                    have HM' := Lib.hid hm'
                    clear hrun' hrun hO' hBw' ho' hm' hoX hrw hg' hupd hun hBX hzX hz0 hz1i hz2 hin
                    go_upto_region 22 with (fail)
                    clear hX
                    go_region_law (refine step_append_runI rfl _ _ 23 23 rfl _ _ (by simp [Act.eval]) (by simp [Act.eval]) HRUN.out ?_)
                    all_goals
                      go_wp2_with fail
                      go_roundg (gk - 1)
                      case measure => omega
                      case rel =>
                        have hBw' := HBW'.out
                        refine ⟨j + 1, .slice a2 (us.length + 1) c2', us ++ [z], by omega, by go_num, by have := HUS.out; simp; omega, by go_grown, ?_, by simp [World.setCell]; omega, ?_, ?_, ?_⟩
                        · intro b h1 h2
                          exact (Below.heap_setCell w' ⟨w1.heap.size, 1 + k, none⟩ _ b (by show b ≠ w1.heap.size; omega)).trans (HM'.out b h1 h2)
                        · have h := three_set HOB'.out k hlt (.slice a2 (us.length + 1) c2')
                          rw [upd_upd] at h
                          exact h
                        · have h := HO'.out.set (b := w1.heap.size) (o := 1 + k) (by omega) (.slice a2 (us.length + 1) c2')
                          exact h
                        · intro t ht
                          rcases List.mem_append.1 ht with ht | ht
                          · exact HWI.out t ht
                          · rw [List.mem_singleton.1 ht]; exact hzw2
                  · go_wp2_with fail
                    go_roundg (gh2 - 1)
                    case measure => omega
                    case rel =>
                      exact ⟨k + 1, upd vs k (.slice av us.length cv), fun i => if i = k then us else ts i, by omega, by go_num, HB1C.out, HOC.out, upd_own (fun i h3 h4 => (HOW.out i h3 h4).mid HMC.out) (HOO.out.mono (by omega)), upd_wf HWF.out (by have := HUS.out; omega) HWI.out⟩
                · go_wp2_with fail
                  all_goals
                    go_roundg (gh2 - 1)
                    case measure => omega
                    case rel =>
                      exact ⟨k + 1, upd vs k (.slice av us.length cv), fun i => if i = k then us else ts i, by omega, by go_num, HBI.out, HOI.out, upd_own (fun i h3 h4 => (HOW.out i h3 h4).mid HMID.out) (HOWI.out.mono (by omega)), upd_wf HWF.out (by have := HUS.out; omega) HWI.out⟩
          · have hk3 : k = 3 := by omega
            subst hk3
            clear hlt hk
            obtain ⟨W3, rfl⟩ : ∃ W3 : World, W3 = wr := ⟨_, rfl⟩
            obtain ⟨gh3, rfl⟩ : ∃ gh3 : Nat, gh3 = gk := ⟨_, rfl⟩
            have hfirst : ∃ m0 m1 m2 : Lv, W3.heap[w1.heap.size]? = some (.cells #[.int .u64 line, sv m0, sv m1, sv m2] 26 (0, 0)) ∧ LvOk W3 m0 ∧ LvOk W3 m1 ∧ LvOk W3 m2 ∧ phi ds (lvAt m0 m1 m2) + 0 ≤ 48 ∧ tot (lvAt m0 m1 m2) ≤ 24 := by
              obtain ⟨m0, e0, z0, L0⟩ := lv_of_own (HOW.out 0 (by omega) (by omega)) (HWF.out 0 (by omega)).1 (HWF.out 0 (by omega)).2
              obtain ⟨m1, e1, z1, L1⟩ := lv_of_own (HOW.out 1 (by omega) (by omega)) (HWF.out 1 (by omega)).1 (HWF.out 1 (by omega)).2
              obtain ⟨m2, e2, z2, L2⟩ := lv_of_own (HOW.out 2 (by omega) (by omega)) (HWF.out 2 (by omega)).1 (HWF.out 2 (by omega)).2
              have h := HO.out
              rw [e0, e1, e2] at h
              exact ⟨m0, m1, m2, h, L0, L1, L2, phi_start ds m0 m1 m2 z0 z1 z2⟩
            have HFIRST := Lib.hid hfirst
            clear hfirst HO HOW HWF
            go_wp2_with fail
            go_loopg [7, 11] 200 (fun gk nv iv wr => ∃ (k : Nat) (m0 m1 m2 : Lv), k + gk = 200 ∧ nv = .int .u64 (1125899906842624 + k) ∧ iv = .int .i64 k ∧ Below w1.heap.size w1 wr ∧ wr.heap[w1.heap.size]? = some (.cells #[.int .u64 line, sv m0, sv m1, sv m2] 26 (0, 0)) ∧ LvOk wr m0 ∧ LvOk wr m1 ∧ LvOk wr m2 ∧ phi ds (lvAt m0 m1 m2) + k ≤ 48 ∧ tot (lvAt m0 m1 m2) ≤ 24)
            case atStart =>
              obtain ⟨m0, m1, m2, h, L0, L1, L2, h1, h2⟩ := HFIRST.out
              exact ⟨0, m0, m1, m2, rfl, rfl, rfl, HBR.out, h, L0, L1, L2, h1, h2⟩
            case round =>
              obtain ⟨k, m0, m1, m2, hk, rfl, rfl, hBr, ho, hL0, hL1, hL2, hphi, htot⟩ := hrel
              have hk48 : k ≤ 48 := by omega
              have hklt : k < 200 := by omega
              have hzr := lt_of_blk ho
              have sB := blk_below S1.out hBr hz1
              have hBw : Below w.heap.size w wr := HB1.out.trans (hBr.mono HB1.out.size)
              have c4 := cell_of_blk sB 4
              simp at c4
              obtain ⟨o0, o1, o2, o3, -⟩ := blk_cells4 ho
              have hzq : w.heap.size < wr.heap.size := by have := hBr.size; omega
              have HBR4 := Lib.hid hBr
              have HBW := Lib.hid hBw
              have HO4 := Lib.hid ho
              have HL0 := Lib.hid hL0
              have HL1 := Lib.hid hL1
              have HL2 := Lib.hid hL2
              have HPHI := Lib.hid hphi
              have HTOT := Lib.hid htot
              clear hBr hBw ho hL0 hL1 hL2 hphi htot sB HFIRST HBR
              go_wp2_with fail
              refine (of_any line m0 m1 m2 ad cd ds wr HL0.out HL1.out HL2.out (HD.out.ext HBW.out) (by omega)).mono ?_
              rintro e w2 ⟨⟨pa, pc, ins⟩, ⟨qa, qc, bs⟩, rfl, hpi, hpb, hLi, hLb, hb2⟩
              simp only at hpi hpb
              obtain ⟨p, hp⟩ : ∃ p, p = ofP ds m0.ts m1.ts m2.ts := ⟨_, rfl⟩
              rw [← hp] at hpi hpb ⊢
              have HP := Lib.hid hp
              have HLi := Lib.hid hLi
              have HLb := Lib.hid hLb
              have HPI := Lib.hid hpi
              have HPB := Lib.hid hpb
              have hB2 : Below w1.heap.size w1 w2 := HBR4.out.trans (hb2.mono (by omega))
              have hBw2 : Below w.heap.size w w2 := HBW.out.trans (hb2.mono (by omega))
              have s2 := blk_below HO4.out hb2 hzr
              have hz2 := lt_of_blk s2
              have HS2 := Lib.hid s2
              have HL0' := Lib.hid (HL0.out.ext hb2)
              have HL1' := Lib.hid (HL1.out.ext hb2)
              have HL2' := Lib.hid (HL2.out.ext hb2)
              clear hp hLi hLb hb2 o0 o1 o2 o3 c4 s2 hpi hpb HL0 HL1 HL2 HO4 HBR4 HBW
              cases his : p.is
              · go_wp2_with fail
                refine (lives_any _).mono ?_
                rintro e w8 ⟨rfl, hb8⟩
                have hB8 : Below w.heap.size w w8 := Below.trans (by go_grown) (hb8.mono (by simp; omega))
                clear hb8
                go_wp2
                go_ret
                exact ⟨rfl, hB8⟩
              · have hok := ofP_ok ds m0 m1 m2 (HP.out ▸ his)
                rw [← HP.out] at hok
                obtain ⟨hf3, ht3, hft, hft1, hin, -, hrem, -⟩ := hok
                rw [← HPI.out] at hin hrem
                rw [← HPB.out] at hrem
                obtain ⟨f, hf⟩ : ∃ f, f = p.frm := ⟨_, rfl⟩
                obtain ⟨t, ht⟩ : ∃ t, t = p.to := ⟨_, rfl⟩
                rw [← hf, ← ht] at hft hft1 hrem ⊢
                rw [← hf] at hf3
                rw [← ht] at ht3
                have HIS := Lib.hid his
                have HF := Lib.hid hf
                have HT := Lib.hid ht
                have HREM := Lib.hid hrem
                have HIN := Lib.hid hin
                clear hf ht hrem hin his
                have hil : ins.length ≤ 1000 := HLi.out.len
                have hbl : bs.length ≤ 1000 := HLb.out.len
                have hipos : 0 < ins.length := List.length_pos_iff.2 HIN.out
                go_upto_region 29 with (fail)
                obtain ⟨V, hV⟩ : ∃ V : World, V = w2.alloc (Obj.cells #[.int .i64 f, .int .i64 t, .slice pa ins.length pc, .slice qa bs.length qc] 29) := ⟨_, rfl⟩
                have hBV : Below w2.heap.size w2 V := by rw [hV]; exact (Below.refl _ _).alloc (Nat.le_refl _) _
                have q : V.heap[w2.heap.size]? = some (.cells #[.int .i64 f, .int .i64 t, .slice pa ins.length pc, .slice qa bs.length qc] 29 (0, 0)) := by rw [hV]; exact blk_new_at rfl _
                rw [← hV]
                clear hV
                have hqV := lt_of_blk q
                have hLiV := HLi.out.ext hBV
                have hLbV := HLb.out.ext hBV
                obtain ⟨v1, X1, hrun1, hO1, hg1⟩ := run_append_tabs V.drew V.heap.size (.slice none 0 0) [] pa pc ins (Own.nil _ _) (hLiV.tabs.ext (Below.refl _ _).drew) (by decide) (by omega) hLiV.nil0 (Nat.le_refl _) 23
                rw [List.nil_append] at hO1
                obtain ⟨a1, c1, rfl, -, -⟩ := els_of_owns tc_len hO1
                have hBX1 : Below V.heap.size V X1 := (Below.refl _ _).drew.grown hg1 (Nat.le_refl _) (fun k hk => by cases hk)
                obtain ⟨v2, X2, hrun2, hO2, hg2⟩ := run_append_tabs X1 V.heap.size (.slice a1 ins.length c1) ins qa qc bs hO1 (hLbV.tabs.ext hBX1) (by omega) (by omega) hLbV.nil0 hBX1.size 23
                have hBX2 : Below V.heap.size V X2 := hBX1.grown hg2 hBX1.size (fun k hk => (World.ownsRow.lt hO1 k hk).1)
                obtain ⟨a2, c2, rfl, hc2, hT2, -⟩ := Own.open hO2
                have q1 := blk_below q hBX1 hqV
                have q2 := blk_below q hBX2 hqV
                obtain ⟨-, -, p2, p3, -⟩ := blk_cells4 q
                obtain ⟨-, -, p2', p3', -⟩ := blk_cells4 q1
                obtain ⟨al, hal⟩ : ∃ al : List T, al = ins ++ bs := ⟨_, rfl⟩
                rw [← hal] at hrun2 hO2 hT2 hc2
                have hapos : 0 < al.length := by rw [hal]; simp; omega
                have halen : al.length ≤ 2000 := by rw [hal]; simp; omega
                have hawf : ∀ x ∈ al, 0 ≤ x.bytes ∧ x.bytes < 4294967296 := by
                  rw [hal]
                  intro x hx
                  rcases List.mem_append.1 hx with hx | hx
                  · exact HLi.out.wf x hx
                  · exact HLb.out.wf x hx
                have hBV2 : Below w2.heap.size w2 X2 := hBV.trans (hBX2.mono (by omega))
                have hXV : V.heap.size ≤ X2.heap.size := hBX2.size
                have HRUN1 := Lib.hid hrun1
                have HRUN2 := Lib.hid hrun2
                have HT2 := Lib.hid hT2
                have HAWF := Lib.hid hawf
                have HBV2 := Lib.hid hBV2
                have HQ2 := Lib.hid q2
                clear hrun1 hrun2 hT2 hawf hBV2 q2 q q1 hBX1 hBX2 hO1 hO2 hg1 hg2 hal hLiV hLbV hBV
                go_cut [14] (fun v wx => v = .slice a2 al.length c2 ∧ X2 = wx)
                case first =>
                  as_aux_lemma =>
                    go_region_law (first | (refine step_append_runI rfl (.const (.slice none 0 0)) (.tmp 128) 23 23 rfl _ _ (by simp [Act.eval]) (by simp [Act.eval]) HRUN1.out ?_) | (refine step_append_runI rfl (.tmp 129) (.tmp 131) 23 23 rfl _ _ (by simp [Act.eval]) (by simp [Act.eval]) HRUN2.out ?_))
                    all_goals
                      go_wp2_with fail
                      go_meet
                      exact ⟨rfl, rfl⟩
                case rest =>
                obtain ⟨rfl, rfl⟩ := hcut
                clear HRUN1 HRUN2 p2 p3 p2' p3'
                obtain ⟨ba, oa, rfl, hba, hca⟩ := HT2.out.get 0 hapos
                have e0 := hca 0 _ rfl
                have e1 := hca 1 _ rfl
                have e2 := hca 2 _ rfl
                have e3 := hca 3 _ rfl
                simp only [Nat.zero_mul, Nat.add_zero] at e0 e1 e2 e3
                have hip : (0 : Int) < (al.length : Int) := by omega
                generalize al[0] = x0 at *
                clear hca
                go_wp2_with fail
                obtain ⟨Y, hY⟩ : ∃ Y : World, Y = X2.alloc (Obj.cells #[.int .u64 (1125899906842624 + k), .int .u32 x0.bytes, .string x0.low, .string x0.high] 45) := ⟨_, rfl⟩
                have hBY : Below X2.heap.size X2 Y := by rw [hY]; exact (Below.refl _ _).alloc (Nat.le_refl _) _
                have tY : Y.heap[X2.heap.size]? = some (.cells #[.int .u64 (1125899906842624 + k), .int .u32 x0.bytes, .string x0.low, .string x0.high] 45 (0, 0)) := by rw [hY]; exact blk_new_at rfl _
                rw [← hY]
                clear hY
                refine (lbytes_any (some ⟨ba, oa, none⟩) c2 al Y (HT2.out.ext hBY) (by omega) HAWF.out).mono ?_
                rintro e w5 ⟨n, rfl, hn, rfl⟩
                have hn32 : n < 4294967296 := by omega
                obtain ⟨y0, y1, y2, y3, yf0, yf1, yf2, yf3⟩ := blk_cells4 tY
                have hYlt := lt_of_blk tY
                have HTY := Lib.hid tY
                have HBY := Lib.hid hBY
                clear tY hBY e0 e1 e2 e3 hn
                go_wp2_with fail
                clear y0 y1 y2 y3 yf0 yf1 yf2 yf3
                obtain ⟨gh4, rfl⟩ : ∃ gh4 : Nat, gh4 = gk := ⟨_, rfl⟩
                obtain ⟨Wr, rfl⟩ : ∃ Wr : World, Wr = wr := ⟨_, rfl⟩
                go_loopg [16] al.length (fun gk iv wr => ∃ (i : Nat) (z : T), i + gk = al.length ∧ iv = .int .i64 i ∧ Below X2.heap.size X2 wr ∧ (z.file = 1125899906842624 + k ∧ 0 ≤ z.bytes ∧ z.bytes < 4294967296) ∧ wr.heap[X2.heap.size]? = some (.cells (tc z).toArray 45 (0, 0)))
                case atStart =>
                  have hBY := HBY.out
                  refine ⟨0, ⟨1125899906842624 + k, n, x0.low, x0.high⟩, by omega, rfl, by go_grown, ⟨rfl, by simp only; omega, by simp only; omega⟩, ?_⟩
                  exact (blk_setCell (j := 1) HTY.out (.int .u32 n)).trans (by simp [tc])
                case round =>
                  obtain ⟨i, z, hi, rfl, hB9, hz, hO9⟩ := hrel
                  have HO9 := Lib.hid hO9
                  have HZ := Lib.hid hz
                  have hsz9 : X2.heap.size < wr.heap.size := lt_of_blk hO9
                  obtain ⟨t0, t1, t2, t3, f0, f1, f2, f3⟩ := blk_cells4 hO9
                  have HB9 := Lib.hid hB9
                  clear hO9 hz
                  by_cases hlt : i < al.length
                  · obtain ⟨b', o', ha, hb', hc⟩ := HT2.out.get i hlt
                    injection ha with ha
                    injection ha with ha1 ha2
                    subst ha1 ha2
                    have g2 := (hB9.cell (p := ⟨ba, _, none⟩) hba).trans (hc 2 _ rfl)
                    have g3 := (hB9.cell (p := ⟨ba, _, none⟩) hba).trans (hc 3 _ rfl)
                    generalize al[i] = x at *
                    have hbne : ¬ X2.heap.size = ba := by omega
                    clear hc hB9 hb'
                    go_wp2_with fail
                    go_region
                    go_wp2_with fail
                    go_region
                    go_wp2_with fail
                    go_roundg (gk - 1)
                    case measure => omega
                    case rel =>
                      have hB9 := HB9.out
                      refine ⟨i + 1, ⟨z.file, z.bytes, minB z.low x.low, maxB z.high x.high⟩, by omega, by go_num, by go_grown, HZ.out, ?_⟩
                      refine (blk_setCell (j := 3) (blk_setCell (j := 2) HO9.out (.string (minB z.low x.low))) (.string (maxB z.high x.high))).trans ?_
                      simp [tc]
                  · obtain ⟨U, rfl⟩ : ∃ U : World, U = wr := ⟨_, rfl⟩
                    obtain ⟨gh5, rfl⟩ : ∃ gh5 : Nat, gh5 = gk := ⟨_, rfl⟩
                    clear HTY HBY hn32
                    go_upto_if 170 with (fail)
                    clear hlt hi t0 t1 t2 t3 f0 f1 f2 f3
                    obtain ⟨U2, hU2⟩ : ∃ U2 : World, U2 = U.alloc (Obj.cells #[.int .u64 z.file, .int .u32 z.bytes, .string z.low, .string z.high] 45) := ⟨_, rfl⟩
                    have hBU : Below U.heap.size U U2 := by rw [hU2]; exact (Below.refl _ _).alloc (Nat.le_refl _) _
                    have zU : U2.heap[U.heap.size]? = some (.cells (tc z).toArray 45 (0, 0)) := by rw [hU2]; exact blk_new_at rfl _
                    rw [← hU2]
                    have hBXU : Below X2.heap.size X2 U2 := hB9.trans (hBU.mono (by omega))
                    have hBwU : Below w2.heap.size w2 U2 := HBV2.out.trans (hBXU.mono (by omega))
                    have HZU := Lib.hid zU
                    have HBWU := Lib.hid hBwU
                    have HQU := Lib.hid (blk_below HQ2.out hBXU (by omega))
                    have HSU := Lib.hid (blk_below HS2.out hBwU hz2)
                    clear hBU zU hBXU hBwU hB9 HB9 HO9 hU2 HQ2 HS2
                    go_cut [17] (fun v wx => ∃ (av : Option Addr) (cl : Nat) (l : List T), v = .slice av l.length cl ∧ OneOrNone wx av cl l ∧ (∀ x ∈ l, x.file = 1125899906842624 + k ∧ 0 ≤ x.bytes ∧ x.bytes < 4294967296) ∧ l.length ≤ 1 ∧ U2 = wx)
                    case first =>
                      as_aux_lemma =>
                        cases nn
                        · go_wp2_with fail
                          go_meet
                          exact ⟨_, 1, [z], rfl, .inr ⟨z, _, rfl, rfl, HZU.out⟩, fun x hx => by rw [List.mem_singleton.1 hx]; exact HZ.out, Nat.le_refl _, rfl⟩
                        · go_wp2_with fail
                          go_meet
                          exact ⟨none, 0, [], rfl, .inl ⟨rfl, rfl, rfl⟩, (by intro x hx; cases hx), Nat.zero_le _, rfl⟩
                    case rest =>
                    obtain ⟨lad, lcl, l, rfl, hone, hlw, hl1, rfl⟩ := hcut
                    have HONE := Lib.hid hone
                    have HLW := Lib.hid hlw
                    clear hone hlw HZU HZ
                    have hzU1 := lt_of_blk HSU.out
                    have hzU2 := lt_of_blk HQU.out
                    obtain ⟨o0, o1, o2, o3, -⟩ := blk_cells4 HSU.out
                    obtain ⟨p0, p1, p2, p3, -⟩ := blk_cells4 HQU.out
                    go_wp2_with fail
                    refine (after_any line (lvAt m0 m1 m2) f t hf3 ht3 hft hft1 pa pc ins qa qc bs lad lcl l U2 (lvAt_all (HL0'.out.ext HBWU.out) (HL1'.out.ext HBWU.out) (HL2'.out.ext HBWU.out)) (HLi.out.tabs.ext HBWU.out) (by omega) HLi.out.nil0 (HLb.out.tabs.ext HBWU.out) (by omega) HLb.out.nil0 HIN.out HONE.out HREM.out).mono ?_
                    rintro e w4 ⟨m, rfl, hm, hpm, hb4⟩
                    have hfall := phi_falls ds m0 m1 m2 m l f t ins bs p HP.out HIS.out HF.out HT.out HPI.out HPB.out hl1 (clean_of_new ds k l HCD.out HLW.out) hpm
                    have hmok := step_ok (lvAt_all (P := fun x => ∀ y ∈ x.ts, 0 ≤ y.bytes ∧ y.bytes < 4294967296) HL0'.out.wf HL1'.out.wf HL2'.out.wf) hm hpm (fun x hx => (HLW.out x hx).2) (by have := HTOT.out; omega)
                    have hS4 := blk_below HSU.out hb4 hzU1
                    have hz4 := lt_of_blk hS4
                    have hB4 : Below w1.heap.size w1 w4 := hB2.trans ((HBWU.out.trans (hb4.mono HBWU.out.size)).mono (by omega))
                    have HFALL := Lib.hid hfall
                    have HMOK := Lib.hid hmok
                    have HS4 := Lib.hid hS4
                    have HB4 := Lib.hid hB4
                    clear o0 o1 o2 o3 p0 p1 p2 p3 hfall hmok hS4 hB4 hb4 hm hpm HSU HQU HONE HLW HREM HBWU hB2 hBw2
                    obtain ⟨o0, o1, o2, o3, of0, of1, of2, of3⟩ := blk_cells4 HS4.out
                    go_wp2_with fail
                    go_roundg (gh4 - 1)
                    case measure => omega
                    case rel =>
                      have hB4 := HB4.out
                      have hphi := HPHI.out
                      have htot := HTOT.out
                      obtain ⟨hf1, hf2⟩ := HFALL.out
                      have hSA := blk_set4 HS4.out (.int .u64 line) (sv (m 0)) (sv (m 1)) (sv (m 2))
                      have key : ∀ i, i < 3 → LvOk ((((w4.setCell ⟨w1.heap.size, 0, none⟩ (.int .u64 line)).setCell ⟨w1.heap.size, 1, none⟩ (sv (m 0))).setCell ⟨w1.heap.size, 2, none⟩ (sv (m 1))).setCell ⟨w1.heap.size, 3, none⟩ (sv (m 2))) (m i) := fun i hi => (HMOK.out i hi).shelf HS4.out (other_set4 _ _ _ _ _ _) (by simp [World.setCell])
                      refine ⟨k + 1, m 0, m 1, m 2, by omega, ?_, by go_num, by go_grown, blk_alloc hSA, (key 0 (by omega)).ext ((Below.refl _ _).alloc (Nat.le_refl _) _), (key 1 (by omega)).ext ((Below.refl _ _).alloc (Nat.le_refl _) _), (key 2 (by omega)).ext ((Below.refl _ _).alloc (Nat.le_refl _) _), ?_, ?_⟩
                      · exact congrArg (Value.int .u64) (by omega)
                      · rw [(phi_three ds m).1]; omega
                      · rw [(phi_three ds m).2]; omega
  · clear hg s1
    go_wp2_with fail
    refine (lives_any w1).mono ?_
    rintro e w2 ⟨rfl, hb2⟩
    have hB2 := hB1.trans (hb2.mono (by omega))
    clear hb2
    go_wp2
    go_ret
    exact ⟨rfl, hB2⟩
end Go.Proofs.Ythdjokcjajlnnaa
