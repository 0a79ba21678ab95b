/- KeepsSame's walk. No condition. -/
import Derived.Test.YticcccciefaemaaQO
import Derived.Test.YticcccciefaemaaQP
namespace Go.Proofs.Yticcccciefaemaa
open Go.RowKit Go.Shelf Go.Herb

set_option maxRecDepth 100000 in
set_option maxHeartbeats 4000000 in
theorem keepsSame_any (al : Option Addr) (cl : Nat) (xs : List Fc) (aw : Option Addr) (cw : Nat) (ws : List Wt) (w : World) (hL : SlIn fc 6 w al cl xs) (hW : SlIn wc 3 w aw cw ws) (hWs : ∀ y ∈ ws, SlIn lc 2 w y.a y.c y.cs) :
    Calls Try.prog (4) #[.slice al xs.length cl, .slice aw ws.length cw] w fun e w' => e = .returned (.bool true) ∧ Below w.heap.size w w' := by
  have HXL := Lib.hid hL.lenle
  have HWL := Lib.hid hW.lenle
  have HCS := Lib.hid (show ∀ y ∈ ws, y.cs.length ≤ maxLen from fun y hy => (hWs y hy).lenle)
  have HWE := Lib.hid hW.els
  have HL := Lib.hid hL.els
  cases hg : greatB xs.length ws with
  | true =>
    have HG := Lib.hid hg
    clear hg hL hW hWs
    go_enter Try.func4, Try.ntmps4
    go_wp2_with fail
    refine (greatK_any al xs.length cl aw cw ws _ HXL.out HWL.out HWE.out HCS.out).mono ?_
    rintro e w1 ⟨rfl, rfl⟩
    rw [HG.out]
    go_wp2_with fail
    refine (livesK_any _).mono ?_
    rintro e w2 ⟨rfl, hb⟩
    have HB := Lib.hid hb
    clear hb
    go_wp2
    go_ret
    exact ⟨rfl, HB.out⟩
  | false =>
    have hxl : xs.length ≤ 80 := by
      unfold greatB at hg
      simp at hg
      omega
    have hwl : ws.length ≤ 30 := by
      unfold greatB at hg
      simp at hg
      omega
    have hwc : ∀ y ∈ ws, y.cs.length < 1000000 := by
      intro y hy
      unfold greatB at hg
      simp at hg
      have := hg.2.1 y hy
      omega
    have HW := Lib.hid (⟨hW.els, fun y hy => (hWs y hy).els, hwc⟩ : Watches w aw ws)
    have HG := Lib.hid hg
    clear hg hL hW hWs hwc
    go_enter Try.func4, Try.ntmps4
    go_wp2_with fail
    refine (greatK_any al xs.length cl aw cw ws _ HXL.out HWL.out HWE.out HCS.out).mono ?_
    rintro e w1 ⟨rfl, rfl⟩
    rw [HG.out]
    go_wp2_with fail
    refine (alike_post al cl xs _ HL.out (by omega)).mono ?_
    rintro e w1 ⟨b, n, rfl, hna, rfl⟩
    cases b with
    | true =>
      clear hna
      go_wp2_with fail
      refine (livesK_any _).mono ?_
      rintro e w2 ⟨rfl, hb⟩
      have HB := Lib.hid ((below_drewN (Below.refl _ _) n).trans hb)
      clear hb
      go_wp2
      go_ret
      exact ⟨rfl, HB.out⟩
    | false =>
      have HNA := Lib.hid (hna rfl)
      clear hna
      have hb1 : Below w.heap.size w (w.drewN n) := below_drewN (Below.refl _ _) n
      have HL1 := Lib.hid (HL.out.ext hb1)
      have HW1 := Lib.hid (HW.out.ext hb1)
      have HB1 := Lib.hid hb1
      clear hb1
      go_wp2_with fail
      refine (keep_any al cl xs aw cw ws _ HL1.out HW1.out (by omega) (by omega)).mono ?_
      rintro e wk ⟨ay, ys, rfl, hki, hF, -, hyl, hbk⟩
      have HLk := Lib.hid (HL1.out.ext hbk)
      have HWk := Lib.hid (HW1.out.ext hbk)
      have HBk := Lib.hid (HB1.out.trans (hbk.mono HB1.out.size))
      have HFk := Lib.hid hF
      have HK := Lib.hid hki
      clear HL HW HL1 HW1 HB1 hbk hF hki HWE HCS HXL HWL HG
      go_wp2_with fail
      go_loopg [6] ws.length (fun gk iv wr => ∃ i : Nat, i + gk = ws.length ∧ iv = .int .i64 i ∧ Below wk.heap.size wk wr)
      case atStart => exact ⟨0, by omega, rfl, Below.refl _ _⟩
      case round =>
        obtain ⟨i, hi, rfl, hbr⟩ := hrel
        have HBR := Lib.hid hbr
        clear hbr
        by_cases hlt : i < ws.length
        · obtain ⟨g1, rfl⟩ : ∃ g : Nat, g = gk := ⟨_, rfl⟩
          obtain ⟨x, hx⟩ : ∃ x, x = ws[i] := ⟨_, rfl⟩
          have hxm : x ∈ ws := by rw [hx]; exact List.getElem_mem _
          have hxb := bounds_u64 x.wt
          obtain ⟨yb, yo, rfl, -, -⟩ := HWk.out.els.get i hlt
          have HX := Lib.hid hx
          have hcon : ∀ t : Int, Asks x t → (∀ u : World, Below wk.heap.size wk u → Calls Try.prog 12 #[.slice ay ys.length ys.length, .slice x.a x.cs.length x.c, .int .u64 t] u (SortedPost (lastL (seenL ys x.cs t)) u)) ∧ (∀ u : World, Below wk.heap.size wk u → Calls Try.prog 12 #[.slice al xs.length cl, .slice x.a x.cs.length x.c, .int .u64 t] u (SortedPost (lastL (seenL xs x.cs t)) u)) ∧ (∀ vs zs : List Fc, vs.Perm (lastL (seenL ys x.cs t)) → vs.Pairwise (fun x y => ¬ LtF y x) → zs.Perm (lastL (seenL xs x.cs t)) → zs.Pairwise (fun x y => ¬ LtF y x) → vs = zs) ∧ (∀ zs : List Fc, zs.Perm (lastL (seenL xs x.cs t)) → zs.length < 1000000) := by
            intro t ht
            refine ⟨fun u hu => viewsOf_any ay ys.length ys x.a x.c x.cs t u (HFk.out.ext hu) ((HWk.out.links x hxm).ext hu) (by omega) (HWk.out.few x hxm), fun u hu => viewsOf_any al cl xs x.a x.c x.cs t u (HLk.out.ext hu) ((HWk.out.links x hxm).ext hu) (by omega) (HWk.out.few x hxm), fun vs zs h1 s1 h2 s2 => same_view HNA.out ws HK.out x hxm t ht h1 s1 h2 s2, fun zs h => ?_⟩
            rw [h.length_eq]
            have h1 := lastM_len (seenL xs x.cs t)
            have h2 : (seenL xs x.cs t).length ≤ xs.length := List.length_filter_le _ _
            have h3 : (lastL (seenL xs x.cs t)).length = (lastM (seenL xs x.cs t)).length := List.length_map _
            omega
          have HCON := Lib.hid hcon
          have hi0 : (0 : Int) ≤ (i : Int) := by omega
          have hi1 : (i : Int) < (ws.length : Int) := by omega
          have hxb1 := hxb.1
          have hxb2 := hxb.2
          clear hcon hx hxb
          obtain ⟨yb', yo', hya, hyb, hcy⟩ := (HWk.out.ext HBR.out).els.get i hlt
          injection hya with hya
          injection hya with hya1 hya2
          subst hya1 hya2
          rw [← HX.out] at hcy
          have f0 := hcy 0 _ rfl
          have f1 := hcy 1 _ rfl
          have f2 := hcy 2 _ rfl
          simp only [Nat.add_zero] at f0 f1 f2
          clear hcy
          have hcn := HCON.out x.at_ (.inl rfl)
          have hc1 : ∀ u : World, Below wr.heap.size wr u → Calls Try.prog 12 #[.slice ay ys.length ys.length, .slice x.a x.cs.length x.c, .int .u64 (x.at_)] u (SortedPost (lastL (seenL ys x.cs (x.at_))) u) := fun u hu => hcn.1 u (HBR.out.trans (hu.mono HBR.out.size))
          have hc2 : ∀ u : World, Below wr.heap.size wr u → Calls Try.prog 12 #[.slice al xs.length cl, .slice x.a x.cs.length x.c, .int .u64 (x.at_)] u (SortedPost (lastL (seenL xs x.cs (x.at_))) u) := fun u hu => hcn.2.1 u (HBR.out.trans (hu.mono HBR.out.size))
          have C1 := Lib.hid hc1
          have C2 := Lib.hid hc2
          have HSV := Lib.hid hcn.2.2.1
          have HLN := Lib.hid hcn.2.2.2
          clear hcn hc1 hc2
          go_wp2_with fail
          go_region_held3 (fun w' => w'.cell? ⟨yb, yo + i * 3, none⟩ = some (.slice x.a x.cs.length x.c) ∧ w'.cell? ⟨yb, yo + i * 3 + 1, none⟩ = some (.int .u64 x.at_)) (go_keep)
            (first | (go_at_call 12; (with_reducible refine (C1.out _ (by first | exact (Below.refl _ _).drew | exact Below.refl _ _)).mono ?_); rintro e u1 ⟨a1, zs1, rfl, hp1, hw1, hF1, hn1, hB1⟩; have hb1 : Below wr.heap.size wr u1 := ((by first | exact (Below.refl _ _).drew | exact Below.refl _ _) : Below wr.heap.size wr _).trans hB1; have HP1 := Lib.hid hp1; have HW1 := Lib.hid hw1; have HF1 := Lib.hid hF1; clear hp1 hw1 hF1 hn1 hB1; have m0 := (hb1.cell (p := ⟨yb, yo + i * 3, none⟩) hyb).trans f0; have m1 := (hb1.cell (p := ⟨yb, yo + i * 3 + 1, none⟩) hyb).trans f1)
                   | (go_at_call 12; (with_reducible refine (C2.out u1 hb1).mono ?_); rintro e u2 ⟨a2, zs2, rfl, hp2, hw2, hF2, hn2, hB2⟩; obtain rfl := HSV.out zs1 zs2 HP1.out HW1.out hp2 hw2; have hb2 : Below wr.heap.size wr u2 := hb1.trans (hB2.mono hb1.size); have hln := HLN.out zs1 hp2; have HF12 := Lib.hid (HF1.out.ext hB2); have HF2 := Lib.hid hF2; clear hp2 hw2 hF2 hn2 hB2 HF1; have n0 := (hb2.cell (p := ⟨yb, yo + i * 3, none⟩) hyb).trans f0; have n1 := (hb2.cell (p := ⟨yb, yo + i * 3 + 1, none⟩) hyb).trans f1)
                   | (go_at_call 11; (with_reducible refine (sameFacts_any a1 a2 _ _ zs1 u2 HF12.out HF2.out hln).mono ?_); rintro e u3 ⟨rfl, n3, rfl⟩; have hb3 : Below wr.heap.size wr (u2.drewN n3) := below_drewN hb2 n3; have q0 := (hb3.cell (p := ⟨yb, yo + i * 3, none⟩) hyb).trans f0; have q1 := (hb3.cell (p := ⟨yb, yo + i * 3 + 1, none⟩) hyb).trans f1))
          rename_i hheld
          have HBN := Lib.hid (HBR.out.trans (hb3.mono HBR.out.size))
          clear hheld hb1 hb2 hb3 hln HF12 HF2 HP1 HW1 C1 C2 HSV HLN m0 m1 n0 n1 q0 q1 HBR f0 f1
          clear f2
          go_wp2_with fail
          by_cases hon : x.on = true
          · have HON := Lib.hid hon
            clear hon
            go_loopg [7] xs.length (fun gk mv wr => ∃ m : Nat, m + gk = xs.length ∧ mv = .int .i64 m ∧ Below wk.heap.size wk wr)
            case atStart => exact ⟨0, by omega, rfl, HBN.out⟩
            case round =>
              obtain ⟨m, hm, rfl, hbm⟩ := hrel
              have HBR := Lib.hid hbm
              clear hbm HBN
              obtain ⟨yb', yo', hya, hyb, hcy⟩ := (HWk.out.ext HBR.out).els.get i hlt
              injection hya with hya
              injection hya with hya1 hya2
              subst hya1 hya2
              rw [← HX.out] at hcy
              have f0 := hcy 0 _ rfl
              have f1 := hcy 1 _ rfl
              have f2 := hcy 2 _ rfl
              simp only [Nat.add_zero] at f0 f1 f2
              clear hcy
              rw [HON.out] at f2
              by_cases hml : m < xs.length
              · obtain ⟨xb, xo, rfl, hxb, hcx⟩ := (HLk.out.ext HBR.out).get m hml
                have e2 := hcx 2 _ rfl
                have hm0 : (0 : Int) ≤ (m : Int) := by omega
                have hm1 : (m : Int) < (xs.length : Int) := by omega
                generalize xs[m] = z at *
                clear hcx
                go_wp2_with fail
                go_region_held3 (fun w' => w'.cell? ⟨xb, xo + m * 6 + 2, none⟩ = some (.int .u64 z.seq) ∧ w'.cell? ⟨yb, yo + i * 3, none⟩ = some (.slice x.a x.cs.length x.c) ∧ w'.cell? ⟨yb, yo + i * 3 + 1, none⟩ = some (.int .u64 x.at_)) (go_keep) (fail)
                rename_i hheld
                clear hheld e2
                obtain ⟨t, ht⟩ : ∃ t, t = max z.seq x.at_ := ⟨_, rfl⟩
                obtain ⟨wq, hwq⟩ : ∃ wq : World, wq = wr.drew := ⟨_, rfl⟩
                rw [← ht, ← hwq]
                have hask : Asks x t := .inr ⟨HON.out, by rw [ht]; exact Int.le_max_right _ _⟩
                have HASK := Lib.hid hask
                have f0' : wq.cell? ⟨yb, yo + i * 3, none⟩ = some (.slice x.a x.cs.length x.c) := by rw [hwq]; exact f0
                have hyb : yb < wq.heap.size := by rw [hwq]; exact hyb
                have hbq : Below wk.heap.size wk wq := by rw [hwq]; exact HBR.out.drew
                have f0 := f0'
                have HBR := Lib.hid hbq
                clear f0' hbq hask ht hwq f1 f2
                have hcn := HCON.out t (HASK.out)
                have hc1 : ∀ u : World, Below wq.heap.size wq u → Calls Try.prog 12 #[.slice ay ys.length ys.length, .slice x.a x.cs.length x.c, .int .u64 (t)] u (SortedPost (lastL (seenL ys x.cs (t))) u) := fun u hu => hcn.1 u (HBR.out.trans (hu.mono HBR.out.size))
                have hc2 : ∀ u : World, Below wq.heap.size wq u → Calls Try.prog 12 #[.slice (some ⟨xb, xo, none⟩) xs.length cl, .slice x.a x.cs.length x.c, .int .u64 (t)] u (SortedPost (lastL (seenL xs x.cs (t))) u) := fun u hu => hcn.2.1 u (HBR.out.trans (hu.mono HBR.out.size))
                have C1 := Lib.hid hc1
                have C2 := Lib.hid hc2
                have HSV := Lib.hid hcn.2.2.1
                have HLN := Lib.hid hcn.2.2.2
                clear hcn hc1 hc2
                go_wp2_with fail
                go_region_held3 (fun w' => w'.cell? ⟨yb, yo + i * 3, none⟩ = some (.slice x.a x.cs.length x.c)) (go_keep)
                  (first | (go_at_call 12; (with_reducible refine (C1.out _ (by first | exact (Below.refl _ _).drew | exact Below.refl _ _)).mono ?_); rintro e u1 ⟨a1, zs1, rfl, hp1, hw1, hF1, hn1, hB1⟩; have hb1 : Below wq.heap.size wq u1 := ((by first | exact (Below.refl _ _).drew | exact Below.refl _ _) : Below wq.heap.size wq _).trans hB1; have HP1 := Lib.hid hp1; have HW1 := Lib.hid hw1; have HF1 := Lib.hid hF1; clear hp1 hw1 hF1 hn1 hB1; have m0 := (hb1.cell (p := ⟨yb, yo + i * 3, none⟩) hyb).trans f0)
                         | (go_at_call 12; (with_reducible refine (C2.out u1 hb1).mono ?_); rintro e u2 ⟨a2, zs2, rfl, hp2, hw2, hF2, hn2, hB2⟩; obtain rfl := HSV.out zs1 zs2 HP1.out HW1.out hp2 hw2; have hb2 : Below wq.heap.size wq u2 := hb1.trans (hB2.mono hb1.size); have hln := HLN.out zs1 hp2; have HF12 := Lib.hid (HF1.out.ext hB2); have HF2 := Lib.hid hF2; clear hp2 hw2 hF2 hn2 hB2 HF1; have n0 := (hb2.cell (p := ⟨yb, yo + i * 3, none⟩) hyb).trans f0)
                         | (go_at_call 11; (with_reducible refine (sameFacts_any a1 a2 _ _ zs1 u2 HF12.out HF2.out hln).mono ?_); rintro e u3 ⟨rfl, n3, rfl⟩; have hb3 : Below wq.heap.size wq (u2.drewN n3) := below_drewN hb2 n3; have q0 := (hb3.cell (p := ⟨yb, yo + i * 3, none⟩) hyb).trans f0))
                rename_i hheld
                have HBN := Lib.hid (HBR.out.trans (hb3.mono HBR.out.size))
                clear hheld hb1 hb2 hb3 hln HF12 HF2 HP1 HW1 C1 C2 HSV HLN m0 n0 q0 HBR f0
                go_wp2_with fail
                go_roundg (gk - 1)
                case measure => omega
                case rel => exact ⟨m + 1, by omega, by go_num, HBN.out⟩
              · have hme : m = xs.length := by omega
                subst hme
                clear f1
                have hcn := HCON.out 18446744073709551615 (.inr ⟨HON.out, by omega⟩)
                have hc1 : ∀ u : World, Below wr.heap.size wr u → Calls Try.prog 12 #[.slice ay ys.length ys.length, .slice x.a x.cs.length x.c, .int .u64 (18446744073709551615)] u (SortedPost (lastL (seenL ys x.cs (18446744073709551615))) u) := fun u hu => hcn.1 u (HBR.out.trans (hu.mono HBR.out.size))
                have hc2 : ∀ u : World, Below wr.heap.size wr u → Calls Try.prog 12 #[.slice al xs.length cl, .slice x.a x.cs.length x.c, .int .u64 (18446744073709551615)] u (SortedPost (lastL (seenL xs x.cs (18446744073709551615))) u) := fun u hu => hcn.2.1 u (HBR.out.trans (hu.mono HBR.out.size))
                have C1 := Lib.hid hc1
                have C2 := Lib.hid hc2
                have HSV := Lib.hid hcn.2.2.1
                have HLN := Lib.hid hcn.2.2.2
                clear hcn hc1 hc2
                go_wp2_with fail
                go_region_held3 (fun w' => w'.cell? ⟨yb, yo + i * 3, none⟩ = some (.slice x.a x.cs.length x.c) ∧ w'.cell? ⟨yb, yo + i * 3 + 2, none⟩ = some (.bool true)) (go_keep)
                  (first | (go_at_call 12; (with_reducible refine (C1.out _ (by first | exact (Below.refl _ _).drew | exact Below.refl _ _)).mono ?_); rintro e u1 ⟨a1, zs1, rfl, hp1, hw1, hF1, hn1, hB1⟩; have hb1 : Below wr.heap.size wr u1 := ((by first | exact (Below.refl _ _).drew | exact Below.refl _ _) : Below wr.heap.size wr _).trans hB1; have HP1 := Lib.hid hp1; have HW1 := Lib.hid hw1; have HF1 := Lib.hid hF1; clear hp1 hw1 hF1 hn1 hB1; have m0 := (hb1.cell (p := ⟨yb, yo + i * 3, none⟩) hyb).trans f0; have m2 := (hb1.cell (p := ⟨yb, yo + i * 3 + 2, none⟩) hyb).trans f2)
                         | (go_at_call 12; (with_reducible refine (C2.out u1 hb1).mono ?_); rintro e u2 ⟨a2, zs2, rfl, hp2, hw2, hF2, hn2, hB2⟩; obtain rfl := HSV.out zs1 zs2 HP1.out HW1.out hp2 hw2; have hb2 : Below wr.heap.size wr u2 := hb1.trans (hB2.mono hb1.size); have hln := HLN.out zs1 hp2; have HF12 := Lib.hid (HF1.out.ext hB2); have HF2 := Lib.hid hF2; clear hp2 hw2 hF2 hn2 hB2 HF1; have n0 := (hb2.cell (p := ⟨yb, yo + i * 3, none⟩) hyb).trans f0; have n2 := (hb2.cell (p := ⟨yb, yo + i * 3 + 2, none⟩) hyb).trans f2)
                         | (go_at_call 11; (with_reducible refine (sameFacts_any a1 a2 _ _ zs1 u2 HF12.out HF2.out hln).mono ?_); rintro e u3 ⟨rfl, n3, rfl⟩; have hb3 : Below wr.heap.size wr (u2.drewN n3) := below_drewN hb2 n3; have q0 := (hb3.cell (p := ⟨yb, yo + i * 3, none⟩) hyb).trans f0; have q2 := (hb3.cell (p := ⟨yb, yo + i * 3 + 2, none⟩) hyb).trans f2))
                rename_i hheld
                have HBN := Lib.hid (HBR.out.trans (hb3.mono HBR.out.size))
                clear hheld hb1 hb2 hb3 hln HF12 HF2 HP1 HW1 C1 C2 HSV HLN m0 m2 n0 n2 q0 q2 HBR f0 f2
                go_wp2_with fail
                go_roundg (g1 - 1)
                case measure => omega
                case rel => exact ⟨i + 1, by omega, by go_num, HBN.out⟩
          · have hon : x.on = false := by simpa using hon
            have HON := Lib.hid hon
            clear hon
            go_loopg [7] xs.length (fun gk mv wr => ∃ m : Nat, m + gk = xs.length ∧ mv = .int .i64 m ∧ Below wk.heap.size wk wr)
            case atStart => exact ⟨0, by omega, rfl, HBN.out⟩
            case round =>
              obtain ⟨m, hm, rfl, hbm⟩ := hrel
              have HBR := Lib.hid hbm
              clear hbm HBN
              obtain ⟨yb', yo', hya, hyb, hcy⟩ := (HWk.out.ext HBR.out).els.get i hlt
              injection hya with hya
              injection hya with hya1 hya2
              subst hya1 hya2
              rw [← HX.out] at hcy
              have f0 := hcy 0 _ rfl
              have f1 := hcy 1 _ rfl
              have f2 := hcy 2 _ rfl
              simp only [Nat.add_zero] at f0 f1 f2
              clear hcy
              rw [HON.out] at f2
              clear f0 f1
              by_cases hml : m < xs.length
              · go_wp2_with fail
                go_quiet (fail)
                go_wp2
                go_roundg (g1 - 1)
                case measure => omega
                case rel => exact ⟨i + 1, by omega, by go_num, below_drewN HBR.out _⟩
              · have hme : m = xs.length := by omega
                subst hme
                go_wp2_with fail
                go_quiet (fail)
                go_wp2
                go_roundg (g1 - 1)
                case measure => omega
                case rel => exact ⟨i + 1, by omega, by go_num, below_drewN HBR.out _⟩
        · have hie : i = ws.length := by omega
          subst hie
          go_wp2_with fail
          refine (keep_any ay ys.length ys aw cw ws wr (HFk.out.ext HBR.out) (HWk.out.ext HBR.out) (by omega) (by omega)).mono ?_
          rintro e w2 ⟨a2, js, rfl, hk2, hF2, -, -, hB2⟩
          obtain rfl := keep_again HNA.out ws HK.out hk2
          have HF2 := Lib.hid hF2
          have HB2 := Lib.hid (HBR.out.trans (hB2.mono HBR.out.size))
          have HFk2 := Lib.hid (HFk.out.ext HB2.out)
          clear hk2 hF2 hB2
          go_wp2_with fail
          refine (sameFacts_any a2 ay _ _ _ _ HF2.out HFk2.out (by omega)).mono ?_
          rintro e w3 ⟨rfl, n3, rfl⟩
          go_wp2_with fail
          refine (livesK_any _).mono ?_
          rintro e w4 ⟨rfl, hb⟩
          have hb3 := below_drewN HB2.out n3
          have HB := Lib.hid (HBk.out.trans ((hb3.trans (hb.mono hb3.size)).mono HBk.out.size))
          clear hb hb3
          go_wp2
          go_ret
          exact ⟨rfl, HB.out⟩
end Go.Proofs.Yticcccciefaemaa
