/- keeps.Watches, where a tree and vectors are. Condition: formed, at most 48 lines, 100 branches, 41 vectors. · law18.sameWatches, where they are the same. Condition: fewer than 1000000 watches, links. · law18.KeepsWatches' walk. Condition: what is behind a line takes fewer than 2^47 bytes. -/
import Derived.Test.YticcccciefaemaaGreatDoorU6
import Derived.Test.YticcccciefaemaaGreatDoorY2
import Derived.Test.YticcccciefaemaaGreatDoorOH
import Derived.Test.YticcccciefaemaaGreatDoorYF
import Derived.Test.YticcccciefaemaaGreatDoorYG
import Derived.Test.YticcccciefaemaaGreatDoorLR
import Derived.Test.YticcccciefaemaaGreatDoorQI
namespace Go.Proofs.YticcccciefaemaaGreatDoor.Ln
open Go.RowKit Go.Shelf Go.Herb

theorem clipWt_any (ad : Addr) (cap n : Nat) (w : World) (hl : n < 1000000) (hle : n ≤ cap) (hm : cap ≤ maxLen) :
    Calls Tryz.prog (26) #[.slice (some ad) n cap] w fun e w' => e = .returned (.slice (some ad) n n) ∧ w = w' := by
  have _hl := hl
  unfold maxLen at hm
  have _hm := hm
  go_enter Tryz.func26, Tryz.ntmps26
  go_wp2
  go_ret
  exact ⟨rfl, rfl⟩
theorem ptsOf_len {L : Vs} {ps : Bh} (h : Vx.PtsOf L ps) (h41 : L.length ≤ 41) : ps.length ≤ 2000 := by
  obtain ⟨ys, h1, -, rfl⟩ := h
  have h2 := ddP_len ys ys.length
  have h3 := pairsB_len h41 L.length h41
  have h4 := h1.length_eq
  omega
set_option maxRecDepth 100000 in
set_option maxHeartbeats 2000000 in
theorem watchesK_any {bs : List Br} {ls : List Ln} (p q mb : Nat) (M : List (Int × Nat)) (L : Vs) (w : World) (h : TreeIs w p bs ls) (hf : FormedL ls) (hl48 : ls.length ≤ 48) (hl0 : 0 < ls.length) (hb0 : 0 < bs.length) (hb : bs.length ≤ 100)
    (hV : Vx.VecIs w q mb M L) (hG : GoodV L) (hS : Vx.Small L) (h41 : L.length ≤ 41) :
    Calls Tryz.prog (9) #[.pointer (some ⟨p, 0, none⟩), .pointer (some ⟨q, 0, none⟩)] w (fun e w' => ∃ ps, Vx.PtsOf L ps ∧ WsPost (watchL bs ls ps) w e w') := by
  have HCH : Hid (∀ (line : Int) (cs : List (Int × Int)), cs = chainF ls ls.length line 18446744073709551615 → ∀ u, Below w.heap.size w u → Calls Tryz.prog (24) #[.pointer (some ⟨p, 0, none⟩), .int .u64 line] u (fun e w' => ∃ a n cap, e = .returned (.slice a n n) ∧ n = cs.length ∧ OwnK 0 w' (.slice a cs.length cap) cs ∧ n ≤ 48 ∧ Below u.heap.size u w')) := Lib.hid (by
    rintro line cs rfl u hu
    refine (chain_own p line u (h.ext hu) hf (by omega)).mono ?_
    rintro e w' ⟨a, cap, rfl, h1, h2⟩
    exact ⟨a, _, cap, rfl, rfl, ownK_le h1 (Nat.zero_le _), Nat.le_trans (chain_len _ _ _) hl48, h2⟩)
  obtain ⟨n, hn⟩ : ∃ n, n = ls.length := ⟨_, rfl⟩
  obtain ⟨nb, hnb⟩ : ∃ nb, nb = bs.length := ⟨_, rfl⟩
  have HL := Lib.hid (show Calls Tryz.prog (21) #[.pointer (some ⟨p, 0, none⟩)] w (fun e w' => ∃ a, e = .returned (.slice a n n) ∧ Below w.heap.size w w') from (allL_any p w h hl0 (by omega)).mono (by
    rintro e w' ⟨g, R, rfl, -, -, hb⟩
    exact ⟨_, by rw [hn], hb⟩))
  have HBR := Lib.hid (show ∀ u, Below w.heap.size w u → Calls Tryz.prog (23) #[.pointer (some ⟨p, 0, none⟩)] u (fun e w' => ∃ (g : Nat) (R : List Value), e = .returned (.slice (some ⟨g, 0, none⟩) nb nb) ∧ w'.heap[g]? = some (.cells (bs.flatMap brc ++ R).toArray (78) (0, 0)) ∧ Below u.heap.size u w') from fun u hu => (allB_any p u (h.ext hu) hb0 (by omega)).mono (by
    rintro e w' ⟨g, R, rfl, -, hh, hb⟩
    exact ⟨g, R, by rw [hnb], hh, hb⟩))
  have HTH := Lib.hid (show ∀ u, Below w.heap.size w u → Calls Tryz.prog (22) #[.pointer (some ⟨q, 0, none⟩)] u (fun e w' => e = .returned (.bool true) ∧ Below u.heap.size u w') from fun u hu => thereV_any q mb M L u (hV.below hu) hG hS)
  have HPT := Lib.hid (show ∀ u, Below w.heap.size w u → Calls Tryz.prog (25) #[.pointer (some ⟨q, 0, none⟩)] u (fun e w' => ∃ va np ps, e = .returned (.slice va np np) ∧ np = ps.length ∧ Vx.PtsOf L ps ∧ OwnPt w' va ps ∧ Below u.heap.size u w') from fun u hu => (Vx.points_any q mb M L u (hV.below hu) hG hS h41).mono (by
    rintro e w' ⟨va, vcap, ps, rfl, h1, h2, h3⟩
    exact ⟨va, _, ps, rfl, rfl, h1, ⟨vcap, ownsRow_mono h2 (Nat.zero_le _)⟩, h3⟩))
  have hnd : ((n : Int) == 0) = false := beq_eq_false_iff_ne.2 (by omega)
  have HNB := Lib.hid hnb
  have HB0 := Lib.hid (show 0 < nb ∧ nb ≤ 100 from ⟨by omega, by omega⟩)
  have H41 := Lib.hid h41
  have hnb2 : nb ≤ 100 := by omega
  clear h hf hl48 hl0 hb0 hb hV hG hS h41 hn hnb
  go_enter Tryz.func9, Tryz.ntmps9
  go_wp2_with (first
    | (go_at_call 21; (with_reducible refine HL.out.mono ?_); rintro e w1 ⟨la, rfl, hb1⟩; have HB1 := Lib.hid hb1; clear hb1)
    | (go_at_call 22; (with_reducible refine (HTH.out _ HB1.out).mono ?_); rintro e w2 ⟨rfl, hb2⟩; have HB2 := Lib.hid (HB1.out.trans (hb2.mono HB1.out.size)); clear hb2)
    | (go_at_call 23; (with_reducible refine (HBR.out _ HB2.out).mono ?_); rintro e w3 ⟨g, R, rfl, hg, hb3⟩; have HB3 := Lib.hid (HB2.out.trans (hb3.mono HB2.out.size)); have HG3 := Lib.hid hg; clear hb3 hg))
  go_loopg [4, 22] nb (fun gk ov iv wr => ∃ i : Nat, i + gk = nb ∧ iv = .int .i64 i ∧ Hid (WR w wr ov ((bs.take i).map (wB ls))) ∧ Hid (wr.heap[g]? = some (.cells (bs.flatMap brc ++ R).toArray (78) (0, 0))))
  case atStart => exact ⟨0, by omega, rfl, Lib.hid ((WR.nil w).ext HB3.out), HG3⟩
  case round =>
    obtain ⟨i, hi, rfl, HW, HGR⟩ := hrel
    by_cases hlt : i < nb
    · have hil : i < bs.length := by have := HNB.out; omega
      obtain ⟨b, o, hbo, hlb, hcx⟩ := (els_of_pre (R := R) brc_len HGR.out (by simp)).get i hil
      injection hbo with hbo
      injection hbo with hbo1 hbo2
      subst hbo1 hbo2
      have HST := Lib.hid (wB_step (ls := ls) hil)
      generalize bs[i] = y at hcx HST
      have x0 := hcx 0 _ rfl
      have x1 := hcx 1 _ rfl
      have x2 := hcx 2 _ rfl
      simp only [Nat.zero_add, Nat.add_zero] at x0 x1 x2
      obtain ⟨nm, line, mk⟩ := y
      obtain ⟨cs, hcs⟩ : ∃ cs, cs = chainF ls ls.length line 18446744073709551615 := ⟨_, rfl⟩
      have HST2 := Lib.hid (show (bs.take (i + 1)).map (wB ls) = (bs.take i).map (wB ls) ++ [(cs, mk, true)] by rw [HST.out, hcs]; rfl)
      have HSL := Lib.hid (show ((bs.take i).map (wB ls)).length < 1000000 by have := HB0.out; simp; omega)
      have HCC := Lib.hid (HCH.out line cs hcs)
      have hk0 : (0 : Int) ≤ (i : Int) := by omega
      have hk1 : (i : Int) < (nb : Int) := by omega
      have kw : IntKind.i64.wrap ((i : Int) + 1) = (i : Int) + 1 := IntWalk.i64_in _ (by omega)
      simp only at x0 x1 x2
      clear hcx hcs HST hlb
      obtain ⟨X, hX⟩ : ∃ X : World, X = wr.alloc (.cells #[.string nm, .int .u64 line, .int .u64 mk] (78)) := ⟨_, rfl⟩
      have hXb : Below wr.heap.size wr X := by rw [hX]; exact (Below.refl _ _).alloc (Nat.le_refl _) _
      have hXx : X.heap[wr.heap.size]? = some (.cells #[.string nm, .int .u64 line, .int .u64 mk] (78) (0, 0)) := by rw [hX]; exact blk_new_at rfl _
      have HS0 : Hid (∀ u, Same X u → u.cell? ⟨wr.heap.size, 1, none⟩ = some (.int .u64 line) ∧ u.cell? ⟨wr.heap.size, 2, none⟩ = some (.int .u64 mk)) := Lib.hid (fun u hu => by
        have hx := hu _ _ _ (by decide) hXx
        exact ⟨by rw [cell_of_blk hx]; rfl, by rw [cell_of_blk hx]; rfl⟩)
      have HWX := Lib.hid (show WR w X.drew u4 ((bs.take i).map (wB ls)) from (HW.out.ext hXb).ext (bdrw (Below.refl _ _)))
      have HSX := Lib.hid (show Same X X.drew from Same.of_below (bdrw (Below.refl _ _)))
      have HGX := Lib.hid (show X.drew.heap[g]? = some (.cells (bs.flatMap brc ++ R).toArray (78) (0, 0)) from blk_drew (blk_below HGR.out hXb (lt_of_blk HGR.out)))
      have HX := Lib.hid hX
      clear hXb hXx hX
      go_wp2_with fail
      rw [← HX.out]
      go_region_held3 (fun u => u.cell? ⟨wr.heap.size, 1, none⟩ = some (.int .u64 line) ∧ u.cell? ⟨wr.heap.size, 2, none⟩ = some (.int .u64 mk)) (first | exact HS0.out _ HSX.out | exact HS0.out _ hsu | exact HS0.out _ (hsu.trans (Same.of_below ((Below.refl _ _).alloc (Nat.le_refl _) _))))
        (first | (go_at_call 24; (with_reducible refine (HCC.out _ HWX.out.below).mono ?_); rintro e wc ⟨a, n, cap, rfl, hn, hO, -, hbc⟩; have HWC := Lib.hid (HWX.out.ext hbc); have hsu := HSX.out.trans (Same.of_below hbc); have HGC := Lib.hid (blk_below HGX.out hbc (lt_of_blk HGX.out)); have HN := Lib.hid hn; have HOC := Lib.hid hO; clear hO hbc hn)
               | (refine wp_append_w (.tmp 26) (.tmp 34) (by rfl) (HWC.out.ext ((Below.refl _ _).alloc (Nat.le_refl _) _)) (by rfl) (by rfl) (blk_new_at rfl _) HN.out (ownK_below HOC.out ((Below.refl _ _).alloc (Nat.le_refl _) _)) HSL.out ?_; intro v9 w9 hW9 hs9; have HW9 := Lib.hid hW9; have HG9 := Lib.hid (hs9 _ _ _ (by decide) (blk_alloc HGC.out)); have hsu := hsu.trans ((Same.of_below ((Below.refl _ _).alloc (Nat.le_refl _) _)).trans hs9); clear hW9 hs9))
      all_goals
        rw [← HST2.out] at HW9
        go_wp2_with fail
        go_roundg (gk - 1)
        case measure => omega
        case rel => exact ⟨i + 1, by omega, by go_num, HW9, HG9⟩
    · have hin : i = nb := by omega
      have HW2 := Lib.hid (show WR w wr u4 (bs.map (wB ls)) from by
        have h1 := HW.out
        rwa [hin, HNB.out, List.take_length] at h1)
      have h1 : ¬ (i : Int) < (nb : Int) := by omega
      clear HW HGR
      go_wp2_with (go_at_call 25; (with_reducible refine (HPT.out _ HW2.out.below).mono ?_); rintro e w4 ⟨va, np, ps, rfl, hnp, hpo, hVP, hb4⟩; have HW3 := Lib.hid (show WR w w4 u4 (watchL bs ls (ps.take 0)) by simpa [watchL] using HW2.out.ext hb4); have HNP := Lib.hid hnp; have HPO := Lib.hid hpo; have HVP := Lib.hid hVP; clear hnp hpo hVP hb4)
      have hnp2 : np ≤ 2000 := by have := HNP.out; have := ptsOf_len HPO.out H41.out; omega
      clear HW2 h1 hin hi hlt
      go_loopg [4, 40] np (fun gk ov iv wr => ∃ i : Nat, i + gk = np ∧ iv = .int .i64 i ∧ Hid (WR w wr ov (watchL bs ls (ps.take i))) ∧ Hid (OwnPt wr va ps))
      case atStart => exact ⟨0, by omega, rfl, HW3, HVP⟩
      case round =>
        obtain ⟨i, hi, rfl, HW, HV⟩ := hrel
        by_cases hlt : i < np
        · have hil : i < ps.length := by have := HNP.out; omega
          obtain ⟨b, o, hva, hlb, hcx⟩ := HV.out.els.get i hil
          have HST := Lib.hid (watchL_step (bs := bs) (ls := ls) hil)
          generalize ps[i] = y at hcx HST
          have x0 := hcx 0 _ rfl
          have x1 := hcx 1 _ rfl
          simp only [Nat.add_zero] at x0 x1
          obtain ⟨line, sq⟩ := y
          obtain ⟨cs, hcs⟩ : ∃ cs, cs = chainF ls ls.length line 18446744073709551615 := ⟨_, rfl⟩
          have HST2 := Lib.hid (show watchL bs ls (ps.take (i + 1)) = watchL bs ls (ps.take i) ++ if decide (0 < cs.length) then [(cs, sq, false)] else [] by rw [HST.out, hcs]; rfl)
          have HSL := Lib.hid (show (watchL bs ls (ps.take i)).length < 1000000 by
            have h1 := watchL_len bs ls (ps.take i)
            have h2 := HB0.out
            have h3 := HNB.out
            simp only [List.length_take] at h1
            omega)
          have HCC := Lib.hid (HCH.out line cs hcs)
          have hk0 : (0 : Int) ≤ (i : Int) := by omega
          have hk1 : (i : Int) < (np : Int) := by omega
          have kw : IntKind.i64.wrap ((i : Int) + 1) = (i : Int) + 1 := IntWalk.i64_in _ (by omega)
          simp only at x0 x1
          obtain ⟨X, hX⟩ : ∃ X : World, X = wr.alloc (.cells #[.int .u64 line, .int .u64 sq] (72)) := ⟨_, rfl⟩
          have hXb : Below wr.heap.size wr X := by rw [hX]; exact (Below.refl _ _).alloc (Nat.le_refl _) _
          have hXx : X.heap[wr.heap.size]? = some (.cells #[.int .u64 line, .int .u64 sq] (72) (0, 0)) := by rw [hX]; exact blk_new_at rfl _
          have HWX := Lib.hid (HW.out.ext hXb)
          have HVX := Lib.hid (HV.out.same (Same.of_below hXb))
          have HXX := Lib.hid hXx
          have z0 := cell_of_blk hXx 0
          simp at z0
          have HX := Lib.hid hX
          subst hva
          clear hcx hcs HST hlb hXb hXx
          rw [hX] at z0
          clear hX
          go_wp2_with fail
          rw [← HX.out]
          (with_reducible refine (HCC.out _ HWX.out.below).mono ?_)
          rintro e wc ⟨a, n, cap, rfl, hn, hO, hn48, hbc⟩
          have HWC := Lib.hid (HWX.out.ext hbc)
          have HVC := Lib.hid (HVX.out.same (Same.of_below hbc))
          have y1 := cell_of_blk (blk_below HXX.out hbc (lt_of_blk HXX.out)) 1
          simp at y1
          by_cases h0 : 0 < n
          · obtain ⟨v9, w9, hr, hW9, hs9⟩ := (HWC.out.ext (w' := wc.alloc (.cells #[.slice a n n, .int .u64 sq, .bool false] (63))) ((Below.refl _ _).alloc (Nat.le_refl _) _)).app (blk_new_at rfl _) hn (ownK_below hO ((Below.refl _ _).alloc (Nat.le_refl _) _)) HSL.out (39)
            have HR := Lib.hid hr
            have HW9 := Lib.hid (show WR w w9 v9 (watchL bs ls (ps.take (i + 1))) by
              rw [HST2.out, if_pos (decide_eq_true (by omega))]
              exact hW9)
            have HV9 := Lib.hid ((HVC.out.same (Same.of_below ((Below.refl _ _).alloc (Nat.le_refl _) _))).same hs9)
            have h0' : (0 : Int) < (n : Int) := by omega
            clear hr hW9 hs9 hO hbc hn h0
            go_wp2_with (at_builtin; refine Lib.wpList_append_run _ rfl _ _ _ _ rfl _ _ rfl rfl _ _ HR.out ?_)
            go_roundg (gk - 1)
            case measure => omega
            case rel => exact ⟨i + 1, by omega, by go_num, HW9, HV9⟩
          · have HW9 := Lib.hid (show WR w wc u4 (watchL bs ls (ps.take (i + 1))) by
              rw [HST2.out, if_neg (by rw [decide_eq_true_eq]; omega), List.append_nil]
              exact HWC.out)
            have h0' : ¬ (0 : Int) < (n : Int) := by omega
            clear hO hbc hn h0 y1
            go_wp2_with fail
            go_roundg (gk - 1)
            case measure => omega
            case rel => exact ⟨i + 1, by omega, by go_num, HW9, HVC⟩
        · have hW := HW.out
          rw [List.take_of_length_le (by have := HNP.out; omega)] at hW
          obtain ⟨ws, g1, g2, g3⟩ := hW.row
          have hwl : ws.length = (watchL bs ls ps).length := by rw [← g3, List.length_map]
          have hwm := watchL_len bs ls ps
          have hw1 : bs.length ≤ (watchL bs ls ps).length := by unfold watchL; simp
          have hbn := HB0.out
          have hbe := HNB.out
          have hpe := HNP.out
          rcases row_of_owns g1 with ⟨-, hz⟩ | ⟨gg, gc, rfl, -, hrow⟩
          · rw [hz] at hwl
            simp at hwl
            omega
          · have HCL := Lib.hid (clipWt_any ⟨gg, 0, none⟩ gc ws.length wr (by omega) hrow.le hrow.max)
            have HE := Lib.hid (show WsPost (watchL bs ls ps) w (.returned (.slice (some ⟨gg, 0, none⟩) ws.length ws.length)) wr from ⟨_, _, ws, rfl, hrow.els wvc_len, fun x hx => by obtain ⟨_, hk⟩ := g2 x hx; exact ownK_els hk, g3, hW.below⟩)
            have h1 : ¬ (i : Int) < (np : Int) := by omega
            clear hW g1 g2 g3 hwl hwm hw1 hbn hbe hpe hrow
            go_wp2_with (go_at_call 26; refine HCL.out.mono ?_; rintro e w' ⟨rfl, rfl⟩)
            go_ret
            exact ⟨ps, HPO.out, HE.out⟩
end Go.Proofs.YticcccciefaemaaGreatDoor.Ln

namespace Go.Proofs.YticcccciefaemaaGreatDoor.Ln
open Go.RowKit Go.Shelf Go.Herb
theorem drewN_two' (w : World) (n m : Nat) : ∃ k, (w.drewN n).drewN m = w.drewN k := ⟨n + m, by simp [World.drewN, Nat.add_assoc]⟩
theorem run_eqK (a b c d : Int) (w : World) : (Op.equalIn 10000 (58) (.agg #[.int .u64 a, .int .u64 b]) (.agg #[.int .u64 c, .int .u64 d])).run Tryz.prog w = .ok (decide (a = c ∧ b = d)) w := by
  have hS : Tryz.prog.underlying (58) = some (.struct (Tryz.prog.fieldsOf (58))) := by kernel_rfl
  have hp : Tryz.prog.stoodInHeld (58) = false := by kernel_rfl
  rw [show (10000 : Nat) = 9999 + 1 from rfl, run_equalIn_agg w 9999 (58) _ _ hS hp]
  simp only [Program.fieldsOf, Tryz.underlying58]
  have u9 := Tryz.underlying52
  go_simp
  by_cases h1 : a = c <;> by_cases h2 : b = d <;> simp [h1, h2]
theorem run_neqK (a b c d : Int) (w : World) : (binOp .neq (58) (.agg #[.int .u64 a, .int .u64 b]) (.agg #[.int .u64 c, .int .u64 d])).run Tryz.prog w = .ok (.bool (!decide (a = c ∧ b = d))) w := by
  rw [run_neq_struct, run_eqK]; rfl
theorem guardK : Tryz.prog.eqGuardType Tryz.prog.depth (58) = false := by kernel_rfl
set_option maxRecDepth 100000 in
set_option maxHeartbeats 1000000 in
theorem sameWatches_any (a b : Option Addr) (ca cb N : Nat) (xs ys : List Wv) (hN : xs.length = N) (he : xs.map Wv.says = ys.map Wv.says) (w : World) (ha : Els wvc 3 w a xs) (hb : Els wvc 3 w b ys) (hal : ∀ x ∈ xs, Lns w x.a x.cs) (hbl : ∀ x ∈ ys, Lns w x.a x.cs) (hl : N < 1000000) (hcl : ∀ x ∈ xs, x.cs.length < 1000000) :
    Calls Tryz.prog (10) #[.slice a N ca, .slice b N cb] w fun e w' => e = .returned (.bool true) ∧ ∃ n, w' = w.drewN n := by
  have HA := Lib.hid ha
  have HB := Lib.hid hb
  have HAL := Lib.hid hal
  have HBL := Lib.hid hbl
  have HCL := Lib.hid hcl
  have HE := Lib.hid he
  have HN := Lib.hid hN
  have HN2 := Lib.hid (show ys.length = N by have := congrArg List.length he; rw [List.length_map, List.length_map] at this; omega)
  clear ha hb hal hbl hcl he hN
  go_enter Tryz.func10, Tryz.ntmps10
  go_wp2_with fail
  go_loopg [5] N (fun gk iv wr => ∃ i : Nat, i + gk = N ∧ iv = .int .i64 i ∧ Hid (∃ n, wr = w.drewN n))
  case atStart => exact ⟨0, by omega, rfl, Lib.hid ⟨0, rfl⟩⟩
  case round =>
    obtain ⟨i, hi, rfl, HW⟩ := hrel
    by_cases hlt : i < N
    · have h1 : i < xs.length := by have := HN.out; omega
      have h2 : i < ys.length := by have := HN2.out; omega
      obtain ⟨b1, o1, rfl, hl1, hc1⟩ := HA.out.get i h1
      obtain ⟨b2, o2, rfl, hl2, hc2⟩ := HB.out.get i h2
      have hxy : xs[i].says = ys[i].says := by
        have := congrArg (fun l => l[i]?) HE.out
        simpa [List.getElem?_eq_getElem h1, List.getElem?_eq_getElem h2] using this
      have HLX := Lib.hid (HAL.out _ (List.getElem_mem h1))
      have HLY := Lib.hid (HBL.out _ (List.getElem_mem h2))
      have hcn := HCL.out _ (List.getElem_mem h1)
      have HCW : ∀ p, wr.cell? p = w.cell? p := fun p => by obtain ⟨n, h⟩ := HW.out; rw [h]; rfl
      have x0 := (HCW _).trans (hc1 0 _ rfl)
      have x1 := (HCW _).trans (hc1 1 _ rfl)
      have x2 := (HCW _).trans (hc1 2 _ rfl)
      have y0 := (HCW _).trans (hc2 0 _ rfl)
      have y1 := (HCW _).trans (hc2 1 _ rfl)
      have y2 := (HCW _).trans (hc2 2 _ rfl)
      simp only [Nat.add_zero] at x0 x1 x2 y0 y1 y2
      generalize xs[i] = x at *
      generalize ys[i] = y at *
      obtain ⟨xa, xc, xcs, xat, xon⟩ := x
      obtain ⟨ya, yc, ycs, yat, yon⟩ := y
      simp only [Wv.says, Prod.mk.injEq] at hxy
      obtain ⟨rfl, rfl, rfl⟩ := hxy
      obtain ⟨k, hk⟩ : ∃ k, k = xcs.length := ⟨_, rfl⟩
      simp only at x0 x1 x2 y0 y1 y2 HLX HLY hcn
      rw [← hk] at x0 y0 hcn
      have HK := Lib.hid hk
      have HC0 := Lib.hid (show ∀ n, (wr.drewN n).cell? ⟨b1, o1 + i * 3, none⟩ = some (.slice xa k xc) ∧ (wr.drewN n).cell? ⟨b2, o2 + i * 3, none⟩ = some (.slice ya k yc) from fun n => ⟨x0, y0⟩)
      have hk0 : (0 : Int) ≤ (i : Int) := by omega
      have hk1 : (i : Int) < (N : Int) := by omega
      have kw : IntKind.i64.wrap ((i : Int) + 1) = (i : Int) + 1 := IntWalk.i64_in _ (by omega)
      clear hc1 hc2 HCW hk h1 h2 hl1 hl2
      go_wp2_with fail
      go_quiet (fail)
      have HD := Lib.hid (show ∃ k, wr.drewN nq = w.drewN k by obtain ⟨n, h⟩ := HW.out; rw [h]; exact drewN_two' w n nq)
      have HLX2 := Lib.hid (show Lns (wr.drewN nq) xa xcs by obtain ⟨m, h⟩ := HD.out; rw [h]; exact ⟨HLX.out.get⟩)
      have HLY2 := Lib.hid (show Lns (wr.drewN nq) ya xcs by obtain ⟨m, h⟩ := HD.out; rw [h]; exact ⟨HLY.out.get⟩)
      have HC1 := Lib.hid (show ∀ n, ((wr.drewN nq).drewN n).cell? ⟨b1, o1 + i * 3, none⟩ = some (.slice xa k xc) ∧ ((wr.drewN nq).drewN n).cell? ⟨b2, o2 + i * 3, none⟩ = some (.slice ya k yc) from fun n => HC0.out n)
      clear x0 x1 x2 y0 y1 y2 HW HLX HLY HC0
      generalize wr.drewN nq = wx at *
      obtain ⟨gi, hgi⟩ : ∃ gi : Nat, gi = gk := ⟨_, rfl⟩
      have HGI := Lib.hid hgi
      go_wp2_with fail
      clear hgi
      go_loopg [6] k (fun gk iv wz => ∃ j : Nat, j + gk = k ∧ iv = .int .i64 j ∧ Hid (∃ n, wz = wx.drewN n))
      case atStart => exact ⟨0, by omega, rfl, Lib.hid ⟨0, rfl⟩⟩
      case round =>
        obtain ⟨j, hj, rfl, HZ⟩ := hrel
        have c1 : wr.cell? ⟨b1, o1 + i * 3, none⟩ = some (.slice xa k xc) ∧ wr.cell? ⟨b2, o2 + i * 3, none⟩ = some (.slice ya k yc) := by
          obtain ⟨n, hn⟩ := HZ.out
          rw [hn]
          exact HC1.out n
        obtain ⟨x0, y0⟩ := c1
        by_cases hjt : j < k
        · have h1 : j < xcs.length := by have := HK.out; omega
          obtain ⟨d1, p1, rfl, hl1, hc1⟩ := HLX2.out.get j h1
          obtain ⟨d2, p2, rfl, hl2, hc2⟩ := HLY2.out.get j h1
          have HCW : ∀ p, wr.cell? p = wx.cell? p := fun p => by obtain ⟨n, h⟩ := HZ.out; rw [h]; rfl
          have u0 := (HCW _).trans (hc1 0 _ rfl)
          have u1 := (HCW _).trans (hc1 1 _ rfl)
          have v0 := (HCW _).trans (hc2 0 _ rfl)
          have v1 := (HCW _).trans (hc2 1 _ rfl)
          simp only [Nat.add_zero] at u0 u1 v0 v1
          generalize xcs[j] = q at *
          have hj0 : (0 : Int) ≤ (j : Int) := by omega
          have hj1 : (j : Int) < (k : Int) := by omega
          have jw : IntKind.i64.wrap ((j : Int) + 1) = (j : Int) + 1 := IntWalk.i64_in _ (by omega)
          have hE : ∀ W, (binOp .neq (58) (.agg #[.int .u64 q.1, .int .u64 q.2]) (.agg #[.int .u64 q.1, .int .u64 q.2])).run Tryz.prog W = .ok (.bool false) W := fun W => by rw [run_neqK]; simp
          clear hc1 hc2 HCW h1 hl1 hl2
          go_wp2_with fail
          go_quiet (fail)
          have HD2 := Lib.hid (show ∃ m, wr.drewN nq = wx.drewN m by obtain ⟨n, h⟩ := HZ.out; rw [h]; exact drewN_two' wx n nq)
          clear x0 y0 u0 u1 v0 v1 hj0 hj1 hE
          go_wp2
          go_roundg (gk - 1)
          case measure => omega
          case rel => exact ⟨j + 1, by omega, by go_num, HD2⟩
        · have HD3 := Lib.hid (show ∃ m, wr = w.drewN m by
            obtain ⟨n, h⟩ := HZ.out
            obtain ⟨n2, h2⟩ := HD.out
            rw [h, h2]
            exact drewN_two' w n2 n)
          have hjn : ¬ (j : Int) < (k : Int) := by omega
          go_wp2_with fail
          go_roundg (gi - 1)
          case measure => have := HGI.out; omega
          case rel => exact ⟨i + 1, by have := HGI.out; omega, by go_num, HD3⟩
    · go_wp2
      go_ret
      exact ⟨rfl, HW.out⟩
end Go.Proofs.YticcccciefaemaaGreatDoor.Ln

namespace Go.Proofs.YticcccciefaemaaGreatDoor.Ln
open Go.RowKit Go.Shelf Go.Herb

/-- What lines.Of has laid. -/
def TV (bs : List Br) (ls : List Ln) (w : World) (tv : Value) (ev : Int) : Prop := (ev = 4 ∧ tv = .pointer none ∧ ¬ GoodT bs ls) ∨ (ev = 0 ∧ GoodT bs ls ∧ ∃ p : Nat, tv = .pointer (some ⟨p, 0, none⟩) ∧ TreeIs w p bs ls)
theorem TV.ext {bs : List Br} {ls : List Ln} {w w' : World} {tv : Value} {ev : Int} (h : TV bs ls w tv ev) (hb : Below w.heap.size w w') : TV bs ls w' tv ev :=
  h.imp id (fun ⟨h1, h2, p, h3, h4⟩ => ⟨h1, h2, p, h3, h4.ext hb⟩)
def XV (L : Vs) (w : World) (xv : Value) (fv : Int) : Prop := (fv = 4 ∧ xv = .pointer none ∧ ¬ okV L) ∨ (fv = 0 ∧ okV L ∧ ∃ p mb M, xv = .pointer (some ⟨p, 0, none⟩) ∧ Vx.VecIs w p mb M L)
theorem XV.ext {L : Vs} {w w' : World} {tv : Value} {ev : Int} (h : XV L w tv ev) (hb : Below w.heap.size w w') : XV L w' tv ev :=
  h.imp id (fun ⟨h1, h2, p, mb, M, h3, h4⟩ => ⟨h1, h2, p, mb, M, h3, h4.below hb⟩)
theorem watches_tv {bs : List Br} {ls : List Ln} {w : World} {tv : Value} {ev : Int} (h : TV bs ls w tv ev) (po : Option Addr) (hp : NoneP w po) : Calls Tryz.prog (9) #[tv, .pointer po] w fun e w' => e = .returned (.slice none 0 0) ∧ Below w.heap.size w w' := by
  rcases h with ⟨-, rfl, -⟩ | ⟨-, hG, p, rfl, hT⟩
  · exact watches_noT none _ w (.inl rfl)
  · exact watches_noV p po w hT hG.l1 (by have := hG.nl; omega) hp
theorem watches_tvA {bs : List Br} {ls : List Ln} {w : World} {tv : Value} {ev : Int} (h : TV bs ls w tv ev) : ∀ u, Below w.heap.size w u → Calls Tryz.prog (9) #[tv, .pointer none] u fun e w' => e = .returned (.slice none 0 0) ∧ Below u.heap.size u w' := fun _u hu => watches_tv (h.ext hu) none (.inl rfl)
theorem watches_tvB {bs : List Br} {ls : List Ln} {w : World} {tv : Value} {ev : Int} (h : TV bs ls w tv ev) : ∀ u, Below w.heap.size w u → Calls Tryz.prog (9) #[tv, .pointer (some ⟨u.heap.size, 0, none⟩)] (u.alloc (.cells #[.map none, .int .i64 0] (47))) fun e w' => e = .returned (.slice none 0 0) ∧ Below (u.alloc (.cells #[.map none, .int .i64 0] (47))).heap.size (u.alloc (.cells #[.map none, .int .i64 0] (47))) w' := fun u hu => watches_tv ((h.ext hu).ext ((Below.refl _ _).alloc (Nat.le_refl _) _)) (some ⟨u.heap.size, 0, none⟩) (.inr ⟨_, rfl, blk_new_at rfl _⟩)
theorem below_step {a b c : World} {o : Obj} (h : Below a.heap.size a b) (k : Below (b.alloc o).heap.size (b.alloc o) c) : Below a.heap.size a c := by
  have hq : Below a.heap.size a (b.alloc o) := h.alloc h.size _
  exact hq.trans (k.mono hq.size)
theorem watchL_few {bs : List Br} {ls : List Ln} {ps : List (Int × Int)} : ∀ s ∈ watchL bs ls ps, s.1.length ≤ ls.length := by
  intro s hs
  unfold watchL at hs
  rcases List.mem_append.1 hs with h | h
  · obtain ⟨b, -, rfl⟩ := List.mem_map.1 h
    exact chain_len _ _ _
  · obtain ⟨q, -, rfl⟩ := List.mem_map.1 (List.mem_filter.1 h).1
    exact chain_len _ _ _
set_option maxRecDepth 100000 in
set_option maxHeartbeats 4000000 in
theorem keepsWatches_any (ba : Option Addr) (bc : Nat) (bs : List Br) (la : Option Addr) (lc : Nat) (ls : List Ln) (va : Option Addr) (vc : Nat) (vs : List Vx.Vc) (w : World) (hB : SIn brc 3 (fun q : Br => q.1.size ≤ maxLen ∧ U64 q.2.1 ∧ U64 q.2.2) w ba bc bs) (hL : SIn lnc 2 (fun q : Ln => U64 q.1 ∧ U64 q.2) w la lc ls) (hV : Vx.VIn w va vs) (hP : ∀ x ∈ vs, x.ps.length < 8796093022208) :
    Calls Tryz.prog (3) #[.slice ba bs.length bc, .slice la ls.length lc, .slice va vs.length vc] w fun e w' => e = .returned (.bool true) ∧ Below w.heap.size w w' := by
  obtain ⟨nb, hnb⟩ : ∃ n, n = bs.length := ⟨_, rfl⟩
  obtain ⟨nl, hnl⟩ : ∃ n, n = ls.length := ⟨_, rfl⟩
  obtain ⟨nv, hnv⟩ : ∃ n, n = vs.length := ⟨_, rfl⟩
  have HLO := Lib.hid (show nb ≤ 100 → nl ≤ 100 → Calls Tryz.prog (5) #[.slice ba nb bc, .slice la nl lc] w (fun e w' => ∃ tv ev, e = .returned (.tuple #[tv, .int .i64 ev]) ∧ TV bs ls w' tv ev ∧ Below w.heap.size w w') from fun h1 h2 => (of_any ba bc nb la lc nl bs ls w hB.els hnb.symm hL.els hnl.symm (by rw [hnl]; exact hL.le) hL.max h1 h2 (fun x hx => (hB.all x hx).2.1) (fun x hx => (hB.all x hx).1)).mono (by
    rintro e w' ⟨⟨h, rfl⟩ | ⟨h, p, rfl, ht⟩, hb⟩
    · exact ⟨_, _, rfl, .inl ⟨rfl, rfl, h⟩, hb⟩
    · exact ⟨_, _, rfl, .inr ⟨rfl, h, p, rfl, ht⟩, hb⟩))
  have HVO := Lib.hid (show ∀ u, Below w.heap.size w u → Calls Tryz.prog (6) #[.slice va nv vc] u (fun e w' => ∃ xv fv, e = .returned (.tuple #[xv, .int .i64 fv]) ∧ XV (Vx.vsOf vs) w' xv fv ∧ Below u.heap.size u w') from fun u hu => by
    rw [hnv]
    refine (Vx.of_any va vc vs u (Vx.vin_ext hV hu)).mono ?_
    rintro e w' ⟨v, er, rfl, hb, ⟨rfl, h1, p, mb, M, rfl, h2⟩ | ⟨rfl, h1, rfl⟩⟩
    · exact ⟨_, _, rfl, .inr ⟨rfl, h1, p, mb, M, rfl, h2.is⟩, hb⟩
    · exact ⟨_, _, rfl, .inl ⟨rfl, rfl, h1⟩, hb⟩)
  have HRO := Lib.hid (show nb ≤ 100 → nl ≤ 100 → ∀ u, Below w.heap.size w u → Calls Tryz.prog (7) #[.slice ba nb bc, .slice la nl lc] u (fun e w' => ∃ mv gv, e = .returned (.tuple #[mv, .int .i64 gv]) ∧ (GoodT bs ls → ∃ p : Nat, mv = .pointer (some ⟨p, 0, none⟩) ∧ RTreeIs w' p bs ls) ∧ Below u.heap.size u w') from fun h1 h2 u hu => (ofR_any ba bc nb la lc nl bs ls u (hB.els.ext hu) hnb.symm (hL.els.ext hu) hnl.symm (by rw [hnl]; exact hL.le) hL.max h1 h2 (fun x hx => (hB.all x hx).1)).mono (by
    rintro e w' ⟨⟨h, rfl⟩ | ⟨h, p, rfl, ht⟩, hb⟩
    · exact ⟨_, _, rfl, fun g => absurd g h, hb⟩
    · exact ⟨_, _, rfl, fun _ => ⟨p, rfl, ht⟩, hb⟩))
  have HSM := Lib.hid (show nv ≤ 30 → Vx.Small (Vx.vsOf vs) from fun h => ⟨by rw [Vx.vsOf_len]; omega, fun p hp => by
    obtain ⟨x, hx, rfl⟩ := List.mem_map.1 hp
    exact hP x hx⟩)
  have HVR := Lib.hid (show nv ≤ 30 → ∀ u, Below w.heap.size w u → Calls Tryz.prog (8) #[.slice va nv vc] u (fun e w' => ∃ ov gv, e = .returned (.tuple #[ov, .int .i64 gv]) ∧ (okV (Vx.vsOf vs) → ∃ p la lc xs, ov = .pointer (some ⟨p, 0, none⟩) ∧ Vx.RefIs w' p la lc xs (Vx.vsOf vs)) ∧ Below u.heap.size u w') from fun h u hu => by
    have hs := HSM.out h
    rw [hnv]
    refine (Vx.refOfL_any va vc vs u (Vx.vin_ext hV hu) hs).mono ?_
    rintro e w' ⟨v, er, rfl, hb, ⟨rfl, h1, p, la, lc, xs, rfl, h2⟩ | ⟨rfl, h1, rfl⟩⟩
    · exact ⟨_, _, rfl, fun _ => ⟨p, la, lc, xs, rfl, h2⟩, hb⟩
    · exact ⟨_, _, rfl, fun g => absurd g h1, hb⟩)
  have HGV := Lib.hid (show okV (Vx.vsOf vs) → GoodV (Vx.vsOf vs) from fun h => okV.good h (fun p hp => by
    obtain ⟨x, hx, rfl⟩ := List.mem_map.1 hp
    exact hV.wf x hx))
  have HVL := Lib.hid (show (Vx.vsOf vs).length = nv by rw [Vx.vsOf_len, hnv])
  have HW1 := Lib.hid (fun (v : Value) (u : World) => watches_noT none v u (.inl rfl))
  have HW3 := Lib.hid (fun (v : Value) (u : World) => watches_noT (some ⟨u.heap.size, 0, none⟩) v (u.alloc (.cells #[.slice none 0 0, .slice none 0 0, .int .i64 0] (44))) (.inr ⟨_, _, _, rfl, blk_new_at rfl _⟩))
  have HB0 := Lib.hid (Below.refl w.heap.size w)
  rw [← hnb, ← hnl, ← hnv]
  clear hB hL hV hP hnb hnl hnv
  go_enter Tryz.func3, Tryz.ntmps3
  by_cases h1 : 40 < nb
  · have h1' : (40 : Int) < (nb : Int) := by omega
    go_wp2_with (go_at_call 4; refine (livesK_any _).mono ?_; rintro e w' ⟨rfl, hb⟩; have HB := Lib.hid hb; clear hb)
    go_ret
    exact ⟨rfl, HB.out⟩
  have h1' : ¬ (40 : Int) < (nb : Int) := by omega
  by_cases h2 : 80 < nl
  · have h2' : (80 : Int) < (nl : Int) := by omega
    go_wp2_with (go_at_call 4; refine (livesK_any _).mono ?_; rintro e w' ⟨rfl, hb⟩; have HB := Lib.hid hb; clear hb)
    go_ret
    exact ⟨rfl, HB.out⟩
  have h2' : ¬ (80 : Int) < (nl : Int) := by omega
  by_cases h3 : 30 < nv
  · have h3' : (30 : Int) < (nv : Int) := by omega
    go_wp2_with (go_at_call 4; refine (livesK_any _).mono ?_; rintro e w' ⟨rfl, hb⟩; have HB := Lib.hid hb; clear hb)
    go_ret
    exact ⟨rfl, HB.out⟩
  have h3' : ¬ (30 : Int) < (nv : Int) := by omega
  have HLO2 := Lib.hid (HLO.out (by omega) (by omega))
  have HRO2 := Lib.hid (HRO.out (by omega) (by omega))
  have HVR2 := Lib.hid (HVR.out (by omega))
  have HSM2 := Lib.hid (HSM.out (by omega))
  have H41 := Lib.hid (show (Vx.vsOf vs).length ≤ 41 by have := HVL.out; omega)
  have HNB := Lib.hid (show nb ≤ 100 by omega)
  clear HLO HRO HVR HSM h1 h2 h3
  go_upto_region 9 with (first
    | (go_at_call 5; (with_reducible refine HLO2.out.mono ?_); rintro e w1 ⟨tv, ev, rfl, hT, hb⟩; have HT1 := Lib.hid hT; have HB1 := Lib.hid hb; clear hb hT)
    | (go_at_call 6; (with_reducible refine (HVO.out _ HB1.out).mono ?_); rintro e w2 ⟨xv, fv, rfl, hX, hb⟩; have HX2 := Lib.hid hX; have HT2 := Lib.hid (HT1.out.ext hb); have HB2 := Lib.hid (HB1.out.trans (hb.mono HB1.out.size)); clear hb hX)
    | (go_at_call 7; (with_reducible refine (HRO2.out _ HB2.out).mono ?_); rintro e w3 ⟨mv, gv, rfl, hM, hb⟩; have HM3 := Lib.hid hM; have HX3 := Lib.hid (HX2.out.ext hb); have HT3 := Lib.hid (HT2.out.ext hb); have HB3 := Lib.hid (HB2.out.trans (hb.mono HB2.out.size)); clear hb hM)
    | (go_at_call 8; (with_reducible refine (HVR2.out _ HB3.out).mono ?_); rintro e w4 ⟨ov, kv, rfl, hO, hb⟩; have HO4 := Lib.hid hO; have HM4 := Lib.hid (fun g => by obtain ⟨p, e, h⟩ := HM3.out g; exact (⟨p, e, h.ext hb⟩ : ∃ p : Nat, mv = .pointer (some ⟨p, 0, none⟩) ∧ RTreeIs w4 p bs ls)); have HX4 := Lib.hid (HX3.out.ext hb); have HT4 := Lib.hid (HT3.out.ext hb); have HB4 := Lib.hid (HB3.out.trans (hb.mono HB3.out.size)); have HWA := Lib.hid (watches_tvA HT4.out); have HWB := Lib.hid (watches_tvB HT4.out); clear hb hO)
    | (go_at_call 9; (with_reducible refine (HW1.out _ _).mono ?_); rintro e w5 ⟨rfl, hb⟩; have HB5 := Lib.hid hb; clear hb)
    | (go_at_call 9; (with_reducible refine (HWA.out _ HB5.out).mono ?_); rintro e w6 ⟨rfl, hb⟩; have HB6 := Lib.hid (HB5.out.trans (hb.mono HB5.out.size)); clear hb)
    | (go_at_call 9; (with_reducible refine (HW3.out _ _).mono ?_); rintro e w7 ⟨rfl, hb⟩; have HB7 := Lib.hid (below_step HB6.out hb); clear hb)
    | (go_at_call 9; (with_reducible refine (HWB.out _ HB7.out).mono ?_); rintro e w8 ⟨rfl, hb⟩; have HB8 := Lib.hid (below_step HB7.out hb); clear hb))
  have HBW := Lib.hid (HB4.out.trans (HB8.out.mono HB4.out.size))
  rcases HT4.out.ext HB8.out with ⟨rfl, rfl, -⟩ | ⟨rfl, hG, p, rfl, hT⟩
  · clear HT4 HX4 HM4 HO4 HT3 HX3 HM3 HT2 HX2 HT1
    go_wp2_with (go_at_call 4; refine (livesK_any _).mono ?_; rintro e w' ⟨rfl, hb⟩; have HB := Lib.hid (HBW.out.trans (hb.mono HBW.out.size)); clear hb)
    go_ret
    exact ⟨rfl, HB.out⟩
  rcases HX4.out.ext HB8.out with ⟨rfl, rfl, -⟩ | ⟨rfl, hok, q, mb, M, rfl, hV⟩
  · clear HT4 HX4 HM4 HO4 HT3 HX3 HM3 HT2 HX2 HT1
    go_wp2_with (go_at_call 4; refine (livesK_any _).mono ?_; rintro e w' ⟨rfl, hb⟩; have HB := Lib.hid (HBW.out.trans (hb.mono HBW.out.size)); clear hb)
    go_ret
    exact ⟨rfl, HB.out⟩
  obtain ⟨r, rfl, hR⟩ := HM4.out hG
  obtain ⟨q2, la2, lc2, xs2, rfl, hRI⟩ := HO4.out hok
  have HGG := Lib.hid hG
  have HGV2 := Lib.hid (HGV.out hok)
  have HK := Lib.hid (watchesK_any p q mb M (Vx.vsOf vs) w8 hT hG.formed hG.nl hG.l1 (by have := hG.b1; omega) (by have := hG.b12; omega) hV HGV2.out HSM2.out H41.out)
  have HR8 := Lib.hid (hR.ext HB8.out)
  have HRI8 := Lib.hid (hRI.below HB8.out)
  have HRW := Lib.hid (show ∀ ps, Vx.PtsOf (Vx.vsOf vs) ps → ∀ u, Below w8.heap.size w8 u → Calls Tryz.prog (11) #[.pointer (some ⟨r, 0, none⟩), .pointer (some ⟨q2, 0, none⟩)] u (WsPost (watchL bs ls ps) u) from fun ps hps u hu => watchesR_any r q2 ps u (HR8.out.ext hu) HGG.out.formed HGG.out.nl (by have := HGG.out.b12; omega) (ptsOf_len hps H41.out) (fun u' hu' => by
    refine (Vx.refPoints_any q2 la2 lc2 xs2 (Vx.vsOf vs) u' ((HRI8.out.below hu).below hu') HGV2.out H41.out).mono ?_
    rintro e w' ⟨va, k, vcap, ps', rfl, hk, hrp, hown, hb⟩
    obtain rfl := Vx.PtsOf_rp hps hrp
    subst hk
    exact ⟨va, _, vcap, rfl, rfl, ⟨vcap, ownsRow_mono hown (Nat.zero_le _)⟩, hb⟩))
  have HSW := Lib.hid (show ∀ (a9 a10 : Option Addr) (c9 c10 : Nat) (ws9 ws10 : List Wv) (ps : List (Int × Int)), Vx.PtsOf (Vx.vsOf vs) ps → ws9.map Wv.says = watchL bs ls ps → ws10.map Wv.says = watchL bs ls ps → ∀ u, Els wvc 3 u a9 ws9 → Els wvc 3 u a10 ws10 → (∀ x ∈ ws9, Lns u x.a x.cs) → (∀ x ∈ ws10, Lns u x.a x.cs) → Calls Tryz.prog (10) #[.slice a9 ws9.length c9, .slice a10 ws10.length c10] u (fun e w' => e = .returned (.bool true) ∧ Below u.heap.size u w') from fun a9 a10 c9 c10 ws9 ws10 ps hps h9 h10 u e9 e10 l9 l10 => by
    have hl9 : ws9.length = (watchL bs ls ps).length := by rw [← h9, List.length_map]
    have hl10 : ws10.length = ws9.length := by rw [hl9, ← h10, List.length_map]
    have hlen := watchL_len bs ls ps
    have hpl := ptsOf_len hps H41.out
    have hbl := HGG.out.b12
    have hll := HGG.out.nl
    rw [hl10]
    refine (sameWatches_any a9 a10 c9 c10 ws9.length ws9 ws10 rfl (h9.trans h10.symm) u e9 e10 l9 l10 (by omega) (fun x hx => ?_)).mono ?_
    · have := watchL_few (bs := bs) (ls := ls) (ps := ps) x.says (by rw [← h9]; exact List.mem_map.2 ⟨x, hx, rfl⟩)
      have hx2 : x.says.1 = x.cs := rfl
      rw [hx2] at this
      omega
    · rintro e w' ⟨rfl, n, rfl⟩
      exact ⟨rfl, ⟨rfl, rfl, rfl, Nat.le_refl _, fun _ _ => rfl⟩⟩)
  clear HT4 HX4 HM4 HO4 HT3 HX3 HM3 HT2 HX2 HT1 hG hok hV hR hRI hT
  go_wp2_with (first
    | (go_at_call 9; (with_reducible refine HK.out.mono ?_); rintro e w9 ⟨ps, hps, a9, c9, ws9, rfl, hE9, hL9, hM9, hb9⟩; have HPS := Lib.hid hps; have HE9 := Lib.hid hE9; have HL9 := Lib.hid hL9; have HM9 := Lib.hid hM9; have HB9 := Lib.hid hb9; clear hps hE9 hL9 hM9 hb9)
    | (go_at_call 11; (with_reducible refine (HRW.out _ HPS.out _ HB9.out).mono ?_); rintro e w10 ⟨a10, c10, ws10, rfl, hE10, hL10, hM10, hb10⟩; have HC := Lib.hid (HSW.out a9 a10 c9 c10 ws9 ws10 _ HPS.out HM9.out hM10 w10 (HE9.out.ext hb10) hE10 (fun x hx => (HL9.out x hx).ext hb10) hL10); have HB10 := Lib.hid (HB9.out.trans (hb10.mono HB9.out.size)); clear hE10 hL10 hM10 hb10)
    | (go_at_call 10; (with_reducible refine HC.out.mono ?_); rintro e w11 ⟨rfl, hb⟩; have HB11 := Lib.hid (HB10.out.trans (hb.mono HB10.out.size)); clear hb)
    | (go_at_call 4; (with_reducible refine (livesK_any _).mono ?_); rintro e w12 ⟨rfl, hb⟩; have HB12 := Lib.hid (HB11.out.trans (hb.mono HB11.out.size)); clear hb))
  go_ret
  exact ⟨rfl, HBW.out.trans (HB12.out.mono HBW.out.size)⟩
end Go.Proofs.YticcccciefaemaaGreatDoor.Ln
