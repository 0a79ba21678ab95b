/- ref16: Points. Condition: at most 41 lines. -/
import Derived.Test.YticcccciefaemaaGreatDoorYF
namespace Go.Proofs.YticcccciefaemaaGreatDoor.Vx
open Go.RowKit Go.Shelf Go.Herb Go.Sort

theorem RP.len {out S : List (Int × Int)} (h : RP out S) : out.length ≤ S.length := nodup_len out S (h.srt.imp (fun h e => by subst e; exact h.irr)) (fun x hx => (h.mem x).1 hx)
theorem below_drN2 {B : Nat} {a w : World} (h : Below B a w) (q : Nat) : Below B a (w.drewN q) := ⟨h.os, h.tape, h.output, h.size, h.block⟩
theorem OwnP.below2 {B : Nat} {w w' : World} {v : Value} {ps : Bh} (h : OwnP B w v ps) (hb : Below w.heap.size w w') : OwnP B w' v ps := ownsRow_below h hb (Nat.le_refl _)
def RefPointsPost (L : Vs) (w : World) (e : Ending) (w' : World) : Prop :=
  ∃ (va : Option Addr) (k vcap : Nat) (ps : Bh), e = .returned (.slice va k vcap) ∧ k = ps.length ∧ RP ps (pairsB L L.length) ∧ OwnP w.heap.size w' (.slice va k vcap) ps ∧ Below w.heap.size w w'

set_option maxRecDepth 100000 in
set_option maxHeartbeats 4000000 in
theorem refPoints_any (p : Nat) (la : Option Addr) (lc : Nat) (xs : List Vc) (L : Vs) (w : World) (h : RefIs w p la lc xs L) (hG : GoodV L) (h41 : L.length ≤ 41) :
    Calls Tryz.prog (28) #[.pointer (some ⟨p, 0, none⟩)] w (RefPointsPost L w) := by
  have H := Lib.hid h
  have HG := Lib.hid hG
  have H41 := Lib.hid h41
  have hneq := run_neqP
  have hgt := guardP
  obtain ⟨n, hn⟩ : ∃ n, n = xs.length := ⟨_, rfl⟩
  have c0 := cell_of_blk h.blk 0
  simp at c0
  rw [← hn] at c0
  have HN := Lib.hid hn
  have hLn : L.length = n := by rw [hn, ← h.vs, vsOf_len]
  have hn41 : n ≤ 41 := by omega
  have HC0 : Hid (∀ u, Below w.heap.size w u → u.cell? ⟨p, 0, none⟩ = some (.slice la n lc)) := Lib.hid (fun u hu => (hu.cell (p := ⟨p, _, none⟩) (lt_of_blk H.out.blk)).trans c0)
  have HLN := Lib.hid hLn
  clear h hG h41 hn c0 hLn
  go_enter Tryz.func28, Tryz.ntmps28
  go_wp2_with fail
  go_loopg [3, 4] n (fun gk ov iv wr => ∃ (i : Nat) (out : Bh), i + gk = n ∧ iv = .int .i64 i ∧ Hid (OwnP w.heap.size wr ov out) ∧ Hid (RP out (pairsB L i)) ∧ Hid (Below w.heap.size w wr))
  case atStart => exact ⟨0, [], by omega, rfl, Lib.hid (World.ownsRow_nil _ _ _ _), Lib.hid RP.nil, Lib.hid (Below.refl _ _)⟩
  case round =>
    obtain ⟨i, out, hi, rfl, HO, HP, HB⟩ := hrel
    by_cases hlt : i < n
    · have c0 := HC0.out wr HB.out
      have hi0 : (0 : Int) ≤ (i : Int) := by omega
      have hi1 : (i : Int) < (n : Int) := by omega
      have hw1 : IntKind.i64.wrap ((i : Int) + 1) = (i : Int) + 1 := IntWalk.i64_in _ (by omega)
      have HP0 := Lib.hid (show RP out (pairsB L i ++ (rowB L i).take (i + 1 - (i + 1))) by rw [Nat.sub_self, List.take_zero, List.append_nil]; exact HP.out)
      go_wp2_with fail
      clear c0
      obtain ⟨g1, rfl⟩ : ∃ g1 : Nat, g1 = gk := ⟨_, rfl⟩
      obtain ⟨wo, rfl⟩ : ∃ wo : World, wo = wr := ⟨_, rfl⟩
      go_loopg [3, 5] (n - (i + 1)) (fun gk ov kv wr => ∃ (k : Nat) (out : Bh), k + gk = n ∧ i + 1 ≤ k ∧ kv = .int .i64 k ∧ Hid (OwnP w.heap.size wr ov out) ∧ Hid (RP out (pairsB L i ++ (rowB L i).take (k - (i + 1)))) ∧ Hid (Below w.heap.size w wr))
      case atStart => exact ⟨i + 1, _, by omega, Nat.le_refl _, by go_num, HO, HP0, HB⟩
      case round =>
        clear HO HP HB HP0
        obtain ⟨k, out, hk, hik, rfl, HO, HP, HB⟩ := hrel
        have c0 := HC0.out wr HB.out
        by_cases hkn : k < n
        · have hxi : i < xs.length := by have := HN.out; omega
          have hxk : k < xs.length := by have := HN.out; omega
          obtain ⟨lb, lo, hla, hlb, hc⟩ := H.out.inn.els.get i hxi
          obtain ⟨lb2, lo2, he, _, hd⟩ := H.out.inn.els.get k hxk
          rw [hla] at he
          injection he with he
          cases he
          have hxl := vsOf_get xs i hxi
          have hyl := vsOf_get xs k hxk
          have hLi : L[i]? = some (xs[i].line, xs[i].ps) := by rw [← H.out.vs, ← hxl]; exact List.getElem?_eq_getElem _
          have hLk : L[k]? = some (xs[k].line, xs[k].ps) := by rw [← H.out.vs, ← hyl]; exact List.getElem?_eq_getElem _
          obtain ⟨xl, hxe⟩ : ∃ l, l = xs[i].line := ⟨_, rfl⟩
          obtain ⟨yl, hye⟩ : ∃ l, l = xs[k].line := ⟨_, rfl⟩
          have HX : Hid (∀ u, Below w.heap.size w u → u.cell? ⟨lb, lo + i * 2, none⟩ = some (.int .u64 xl) ∧ u.cell? ⟨lb, lo + k * 2, none⟩ = some (.int .u64 yl)) := Lib.hid (fun u hu => by
            have e0 := (hu.cell (p := ⟨lb, _, none⟩) hlb).trans (hc 0 _ rfl)
            have e1 := (hu.cell (p := ⟨lb, _, none⟩) hlb).trans (hd 0 _ rfl)
            simp only [Nat.add_zero] at e0 e1
            rw [hxe, hye]
            exact ⟨e0, e1⟩)
          rw [← hxe] at hLi
          rw [← hye] at hLk
          obtain ⟨xp, hxp⟩ : ∃ b, b = xs[i].ps := ⟨_, rfl⟩
          obtain ⟨yp, hyp⟩ : ∃ b, b = xs[k].ps := ⟨_, rfl⟩
          rw [← hxp] at hLi
          rw [← hyp] at hLk
          have HGX := Lib.hid ((getL_some HG.out.srt.nodup).2 (List.mem_of_getElem? hLi))
          have HGY := Lib.hid ((getL_some HG.out.srt.nodup).2 (List.mem_of_getElem? hLk))
          have HLI := Lib.hid hLi
          have HLK := Lib.hid hLk
          have hi2 : (i : Int) < (n : Int) := by omega
          have hk0 : (0 : Int) ≤ (k : Int) := by omega
          have hk1 : (k : Int) < (n : Int) := by omega
          have HLA := Lib.hid hla
          have HBC := Lib.hid (show ∀ u, Below w.heap.size w u → Calls Tryz.prog (51) #[.pointer (some ⟨p, 0, none⟩), .int .u64 xl, .int .u64 yl] u (fun e w' => ∃ q : Int × Int, e = .returned (.tuple #[.agg #[.int .u64 q.1, .int .u64 q.2], .int .i64 0]) ∧ IsBase xp yp q ∧ Below u.heap.size u w') from fun u hu => by
            refine (refBase_any p la lc xs L xl yl u (H.out.below hu) HG.out).mono ?_
            rintro e w' ⟨q, er, rfl, hb, ⟨rfl, x, y, h1, h2, h3⟩ | ⟨rfl, _, h1 | h1⟩⟩
            · rw [HGX.out] at h1
              rw [HGY.out] at h2
              injection h1 with h1
              injection h2 with h2
              subst h1 h2
              exact ⟨q, rfl, h3, hb⟩
            · rw [HGX.out] at h1; cases h1
            · rw [HGY.out] at h1; cases h1)
          clear hc hd hxl hyl hLi hLk hxe hye hxp hyp hxi hxk hla
          have HLA2 := HLA.out
          subst HLA2
          go_upto_region 9 with (fail)
          clear c0
          have HSA : Hid (∀ u : World, Below wr.heap.size wr u → u.cell? ⟨p, 0, none⟩ = some (.slice (some ⟨lb, lo, none⟩) n lc) ∧ u.cell? ⟨lb, lo + i * 2, none⟩ = some (.int .u64 xl) ∧ u.cell? ⟨lb, lo + k * 2, none⟩ = some (.int .u64 yl)) := Lib.hid (fun u hu => ⟨HC0.out u (HB.out.trans (hu.mono HB.out.size)), HX.out u (HB.out.trans (hu.mono HB.out.size))⟩)
          have HCB : Hid (∀ u : World, Below wr.heap.size wr u → Calls Tryz.prog (51) #[.pointer (some ⟨p, 0, none⟩), .int .u64 xl, .int .u64 yl] u (fun e w' => ∃ q : Int × Int, e = .returned (.tuple #[.agg #[.int .u64 q.1, .int .u64 q.2], .int .i64 0]) ∧ IsBase xp yp q ∧ Below u.heap.size u w')) := Lib.hid (fun u hu => HBC.out u (HB.out.trans (hu.mono HB.out.size)))
          have HDA := Lib.hid (Below.drew (Below.refl wr.heap.size wr))
          have HDB := Lib.hid (boxW_below wr)
          go_cut [6, 7] (fun pv ev wq => ∃ wx, wx = wq ∧ BoxAt xp yp wr pv ev wx)
          case first =>
            clear HBC
            go_wp2_with fail
            go_region_held3 (fun u => u.cell? ⟨p, 0, none⟩ = some (.slice (some ⟨lb, lo, none⟩) n lc) ∧ u.cell? ⟨lb, lo + i * 2, none⟩ = some (.int .u64 xl) ∧ u.cell? ⟨lb, lo + k * 2, none⟩ = some (.int .u64 yl)) (first | exact HSA.out _ HDA.out | exact HSA.out _ HDB.out | exact HSA.out _ hbu | exact HSA.out _ (bset hbu _ _ _ (Nat.le_refl _)) | exact HSA.out _ (bset (bset hbu _ _ _ (Nat.le_refl _)) _ _ _ (Nat.le_refl _)) | exact HSA.out _ (hbu.alloc hbu.size _) | exact HSA.out _ (bset (hbu.alloc hbu.size _) _ _ _ hbu.size) | go_keep) (first | (go_at_call 51; (with_reducible refine (HCB.out _ HDA.out).mono ?_); rintro e w5 ⟨q, rfl, hB, hb5⟩; have FA := boxA (HDA.out.trans (hb5.mono HDA.out.size)) hB; have hbu := HDA.out.trans (hb5.mono HDA.out.size); have hS5 := HSA.out _ hbu; clear hB hb5) | (go_at_call 51; (with_reducible refine (HCB.out _ HDB.out).mono ?_); rintro e w5 ⟨q, rfl, hB, hb5⟩; have FA := boxB hb5 hB; obtain ⟨g0, g1, g2, g3⟩ := boxCells hb5; have hbu := HDB.out.trans (hb5.mono HDB.out.size); have hS5 := HSA.out _ hbu; clear hB hb5))
            all_goals
              go_wp2
              go_meet
              exact ⟨_, rfl, FA.out⟩
          case rest =>
          obtain ⟨X, rfl, pb, q, rfl, rfl, hpbx, hqb, hwx, -⟩ := hcut
          clear HSA HCB HDA HDB HBC
          have HQ := Lib.hid hqb
          have HPB := Lib.hid hpbx
          have HWX := Lib.hid hwx
          have hpb := lt_of_blk hpbx
          clear hqb hpbx hwx
          obtain ⟨oa, oc, rfl, -, hoc, -, -⟩ := own_parts HO.out
          have HOX := Lib.hid (show OwnP w.heap.size X (.slice oa out.length oc) out from ownsRow_below HO.out HWX.out (Nat.le_refl _))
          have HBX := Lib.hid (show Below w.heap.size w X from HB.out.trans (HWX.out.mono HB.out.size))
          have HPX := Lib.hid (show Pts X oa out from owns_els pc_len HOX.out)
          have hol := HP.out.len
          have hlp : (pairsB L i).length ≤ 1681 := Nat.le_trans (pairsB_len H41.out i (by omega)) (by omega)
          have hlr : ((rowB L i).take (k - (i + 1))).length ≤ 41 := by simp; omega
          rw [List.length_append] at hol
          have HRW := Lib.hid (show pairsB L i ++ (rowB L i).take (k + 1 - (i + 1)) = pairsB L i ++ (rowB L i).take (k - (i + 1)) ++ [q] from by
            have := rowB_take (L := L) (i := i) (j := k - (i + 1)) (x := (xl, xp)) (y := (yl, yp)) (q := q) HLI.out (by rw [show i + 1 + (k - (i + 1)) = k by omega]; exact HLK.out) HQ.out
            rw [show k + 1 - (i + 1) = k - (i + 1) + 1 by omega, this, List.append_assoc])
          obtain ⟨N, hN⟩ : ∃ N, N = out.length := ⟨_, rfl⟩
          rw [← hN] at hoc hol
          have HNO := Lib.hid hN
          have hNl : N < 10000 := by omega
          have HOX2 := Lib.hid (show OwnP w.heap.size X (.slice oa N oc) out by rw [hN]; exact HOX.out)
          have HOC := Lib.hid hoc
          obtain ⟨q1, q2⟩ := q
          simp only at HPB
          rw [← hN]
          clear hN hol hlp hlr hoc HO hneq hgt
          go_wp2_with fail
          obtain ⟨g2, rfl⟩ : ∃ g2 : Nat, g2 = gk := ⟨_, rfl⟩
          obtain ⟨wo2, rfl⟩ : ∃ wo2 : World, wo2 = wr := ⟨_, rfl⟩
          go_loopg [8] N (fun gk av wr => ∃ a : Nat, a + gk = N ∧ av = .int .i64 a ∧ Hid (∀ z ∈ out.take a, LtP z (q1, q2)) ∧ Hid (Below X.heap.size X wr))
          case atStart => exact ⟨0, by omega, rfl, Lib.hid (by simp), Lib.hid (Below.refl _ _)⟩
          case round =>
            obtain ⟨a, ha, rfl, HLT, HBa⟩ := hrel
            obtain ⟨Y, hY⟩ : ∃ Y : World, Y = wr := ⟨_, rfl⟩
            rw [← hY] at HBa ⊢
            clear hY
            have HPY := Lib.hid (show ∀ u, Below Y.heap.size Y u → u.cell? ⟨pb, 0, none⟩ = some (.int .u64 q1) ∧ u.cell? ⟨pb, 1, none⟩ = some (.int .u64 q2) from fun u hu => by
              have hbu := blk_below (blk_below HPB.out HBa.out hpb) hu (Nat.lt_of_lt_of_le hpb HBa.out.size)
              have f0 := cell_of_blk hbu 0
              have f1 := cell_of_blk hbu 1
              simp at f0 f1
              exact ⟨f0, f1⟩)
            obtain ⟨p0, p1⟩ := HPY.out Y (Below.refl _ _)
            have ha0 : (0 : Int) ≤ (a : Int) := by omega
            have HPTS := Lib.hid (HPX.out.ext HBa.out)
            have HOY := Lib.hid (show OwnP w.heap.size Y (.slice oa N oc) out from ownsRow_below HOX2.out HBa.out (Nat.le_refl _))
            have HBY := Lib.hid (show Below w.heap.size w Y from HBX.out.trans (HBa.out.mono HBX.out.size))
            by_cases han : a < N
            · have haz : a < out.length := by have := HNO.out; omega
              obtain ⟨ob, oo, rfl, hob, hcell⟩ := HPTS.out.get a haz
              have z0 : Y.cell? ⟨ob, oo + a * 2, none⟩ = some (.int .u64 (out[a]'haz).1) := hcell 0 _ rfl
              have z1 : Y.cell? ⟨ob, oo + a * 2 + 1, none⟩ = some (.int .u64 (out[a]'haz).2) := hcell 1 _ rfl
              have HTK := Lib.hid (show out.take (a + 1) = out.take a ++ [out[a]'haz] from List.take_succ_eq_append_getElem haz)
              have HZ := Lib.hid (List.getElem?_eq_getElem haz)
              generalize out[a]'haz = z at z0 z1 HTK HZ
              obtain ⟨y1, y2⟩ := z
              simp only at z0 z1
              clear hcell haz
              have ha1 : (a : Int) < (N : Int) := by omega
              have had : decide ((a : Int) < (N : Int)) = true := decide_eq_true ha1
              have hae : ((a : Int) == (N : Int)) = false := by simp; omega
              have haf : decide ((a : Int) = (N : Int)) = false := decide_eq_false (by omega)
              have haf2 : decide (a = N) = false := decide_eq_false (by omega)
              have had2 : decide (a < N) = true := decide_eq_true han
              by_cases h1 : y1 < q1
              · have d1 : decide (y1 < q1) = true := decide_eq_true h1
                have HS := Lib.hid (show ∀ z ∈ out.take (a + 1), LtP z (q1, q2) from fun z hz => by
                  rw [HTK.out] at hz
                  rcases List.mem_append.1 hz with hz | hz
                  · exact HLT.out z hz
                  · rw [List.mem_singleton.1 hz]; exact .inl h1)
                clear h1
                go_wp2_with fail
                go_quiet (fail)
                have HB2 := Lib.hid (below_drN2 HBa.out nq)
                go_wp2_with fail
                go_roundg (gk - 1)
                case measure => omega
                case rel => exact ⟨a + 1, by omega, by go_num, HS, HB2⟩
              · have d1 : decide (y1 < q1) = false := decide_eq_false h1
                by_cases h2 : y1 = q1
                · have d2 : decide (y1 = q1) = true := decide_eq_true h2
                  have d2b : (y1 == q1) = true := by simpa using h2
                  by_cases h3 : y2 < q2
                  · have d3 : decide (y2 < q2) = true := decide_eq_true h3
                    have HS := Lib.hid (show ∀ z ∈ out.take (a + 1), LtP z (q1, q2) from fun z hz => by
                      rw [HTK.out] at hz
                      rcases List.mem_append.1 hz with hz | hz
                      · exact HLT.out z hz
                      · rw [List.mem_singleton.1 hz]; exact .inr ⟨h2, h3⟩)
                    clear h1 h2 h3
                    go_wp2_with fail
                    go_quiet (fail)
                    have HB2 := Lib.hid (below_drN2 HBa.out nq)
                    go_wp2_with fail
                    go_roundg (gk - 1)
                    case measure => omega
                    case rel => exact ⟨a + 1, by omega, by go_num, HS, HB2⟩
                  · have d3 : decide (y2 < q2) = false := decide_eq_false h3
                    by_cases h4 : y2 = q2
                    · have HS := Lib.hid (show RP out (pairsB L i ++ (rowB L i).take (k + 1 - (i + 1))) by
                        rw [HRW.out]
                        refine HP.out.has ?_
                        rw [← h2, ← h4]
                        exact List.mem_of_getElem? HZ.out)
                      have d4 : (!decide (y1 = q1 ∧ y2 = q2)) = false := by simp [h2, h4]
                      clear h1 h2 h3
                      subst h4
                      have hneq := run_neqP
                      have hgt := guardP
                      go_wp2_with fail
                      go_quiet (fail)
                      have HB2 := Lib.hid (below_drN2 HBa.out nq)
                      obtain ⟨Z, hZ⟩ : ∃ Z : World, Z = Y.drewN nq := ⟨_, rfl⟩
                      have HYZ := Lib.hid (show Below Y.heap.size Y Z by rw [hZ]; exact below_drN2 (Below.refl _ _) nq)
                      have HZC := Lib.hid (show Z.cell? ⟨ob, oo + a * 2, none⟩ = some (.int .u64 y1) ∧ Z.cell? ⟨ob, oo + a * 2 + 1, none⟩ = some (.int .u64 y2) by rw [hZ]; exact ⟨z0, z1⟩)
                      rw [← hZ]
                      clear hZ z0 z1 p0 p1
                      obtain ⟨p0, p1⟩ := HPY.out Z HYZ.out
                      have z0 : Z.cell? ⟨ob, oo + a * 2, none⟩ = some (.int .u64 y1) := HZC.out.1
                      have z1 : Z.cell? ⟨ob, oo + a * 2 + 1, none⟩ = some (.int .u64 y2) := HZC.out.2
                      go_wp2_with fail
                      go_quiet (fail)
                      obtain ⟨Z2, hZ2⟩ : ∃ Z2 : World, Z2 = Z.drewN nq := ⟨_, rfl⟩
                      have HYZ2 := Lib.hid (show Below Y.heap.size Y Z2 by rw [hZ2]; exact below_drN2 HYZ.out nq)
                      rw [← hZ2]
                      clear hZ2 p0 p1 hneq hgt z0 z1

                      have HOZ := Lib.hid (show OwnP w.heap.size Z2 (.slice (some ⟨ob, oo, none⟩) N oc) out from ownsRow_below HOY.out HYZ2.out (Nat.le_refl _))
                      have HBZ := Lib.hid (show Below w.heap.size w Z2 from HBY.out.trans (HYZ2.out.mono HBY.out.size))
                      go_wp2_with fail
                      go_roundg (g2 - 1)
                      case measure => omega
                      case rel => exact ⟨k + 1, out, by omega, by omega, by go_num, HOZ, HS, HBZ⟩
                    · have HNE := Lib.hid (show ∀ x, out[a]? = some x → ¬ LtP x (q1, q2) ∧ x ≠ (q1, q2) from fun x hx => by
                        rw [HZ.out] at hx
                        injection hx with hx
                        rw [← hx]
                        exact ⟨fun h => by unfold LtP at h; simp only at h; omega, fun h => by injection h; omega⟩)
                      have d4 : (!decide (y1 = q1 ∧ y2 = q2)) = true := by simp [h4]
                      have d5 : decide (y2 = q2) = false := decide_eq_false h4
                      have d5b : (y2 == q2) = false := by simpa using h4
                      clear h1 h2 h3 h4
                      have hneq := run_neqP
                      have hgt := guardP
                      go_wp2_with fail
                      go_quiet (fail)
                      have HB2 := Lib.hid (below_drN2 HBa.out nq)
                      obtain ⟨Z, hZ⟩ : ∃ Z : World, Z = Y.drewN nq := ⟨_, rfl⟩
                      have HYZ := Lib.hid (show Below Y.heap.size Y Z by rw [hZ]; exact below_drN2 (Below.refl _ _) nq)
                      have HZC := Lib.hid (show Z.cell? ⟨ob, oo + a * 2, none⟩ = some (.int .u64 y1) ∧ Z.cell? ⟨ob, oo + a * 2 + 1, none⟩ = some (.int .u64 y2) by rw [hZ]; exact ⟨z0, z1⟩)
                      rw [← hZ]
                      clear hZ z0 z1 p0 p1
                      obtain ⟨p0, p1⟩ := HPY.out Z HYZ.out
                      have z0 : Z.cell? ⟨ob, oo + a * 2, none⟩ = some (.int .u64 y1) := HZC.out.1
                      have z1 : Z.cell? ⟨ob, oo + a * 2 + 1, none⟩ = some (.int .u64 y2) := HZC.out.2
                      go_wp2_with fail
                      go_quiet (fail)
                      obtain ⟨Z2, hZ2⟩ : ∃ Z2 : World, Z2 = Z.drewN nq := ⟨_, rfl⟩
                      have HYZ2 := Lib.hid (show Below Y.heap.size Y Z2 by rw [hZ2]; exact below_drN2 HYZ.out nq)
                      rw [← hZ2]
                      clear hZ2 p0 p1 hneq hgt z0 z1

                      have HN2 := Lib.hid (HP.out.put HLT.out (by have := HNO.out; omega) HNE.out)
                      obtain ⟨s1, hs1, hT1, hn1⟩ := slice_loP (k := a) (HPTS.out.ext HYZ2.out) HNO.out.symm HOC.out (by omega) HOY.out.none0
                      obtain ⟨s2, hs2, hT2, hn2⟩ := slice_hiP (k := a) (HPTS.out.ext HYZ2.out) HNO.out.symm HOC.out (by omega) HOY.out.none0
                      have hl1 : (out.take a).length = a := by have := HNO.out; simp; omega
                      have hl2 : (out.drop a).length = N - a := by have := HNO.out; simp; omega
                      obtain ⟨tk, htk⟩ : ∃ tk, tk = out.take a := ⟨_, rfl⟩
                      obtain ⟨dk, hdk⟩ : ∃ dk, dk = out.drop a := ⟨_, rfl⟩
                      rw [← htk] at hl1 hT1
                      rw [← hdk] at hl2 hT2
                      have HS := Lib.hid (show RP (tk ++ [(q1, q2)] ++ dk) (pairsB L i ++ (rowB L i).take (k + 1 - (i + 1))) by
                        rw [HRW.out, htk, hdk, List.append_assoc]
                        exact HN2.out)
                      have HT1 := Lib.hid hT1
                      have HT2 := Lib.hid hT2
                      have HN1 := Lib.hid hn1
                      have HN3 := Lib.hid hn2
                      have hl3 : (tk ++ [(q1, q2)]).length < 1000000 := by rw [List.length_append, List.length_singleton]; omega
                      have hl4 : tk.length < 1000000 := by omega
                      have hl5 : N - a < 1000000 := by omega
                      have hl6 : a < 1000000 := by omega
                      have HBZ := Lib.hid (show Below w.heap.size w Z2 from HBY.out.trans (HYZ2.out.mono HBY.out.size))
                      have HPZ := Lib.hid (show ∀ u, Below Z2.heap.size Z2 u → u.cell? ⟨pb, 0, none⟩ = some (.int .u64 q1) ∧ u.cell? ⟨pb, 1, none⟩ = some (.int .u64 q2) from fun u hu => HPY.out u (HYZ2.out.trans (hu.mono HYZ2.out.size)))
                      clear hT1 hT2 hn1 hn2 htk hdk
                      go_wp2_with fail
                      go_region_held3 (fun u => u.cell? ⟨pb, 0, none⟩ = some (.int .u64 q1) ∧ u.cell? ⟨pb, 1, none⟩ = some (.int .u64 q2)) (first | exact HPZ.out _ (by assumption) | exact HPZ.out _ ((Below.refl _ _).drew) | exact HPZ.out _ (((Below.refl _ _).alloc (Nat.le_refl _) _).drew) | exact HPZ.out _ ((Below.refl _ _).alloc (Nat.le_refl _) _) | exact HPZ.out _ (hb1.alloc hb1.size _) | exact HPZ.out _ ((hb1.alloc hb1.size _).drew) | exact HPZ.out _ ((hb1.drew).alloc hb1.size _))
                        (first | (refine wp_append_pts (.const (.slice none 0 0)) (.tmp 100) (by rfl) Z2.heap.size (.slice none 0 0) [] s1 oc a tk hl1 (by rfl) (by rfl) (World.ownsRow_nil _ _ _ _) (HT1.out.ext (by first | exact (Below.refl _ _).drew | go_grown)) (by simp) hl6 HN1.out (by simp) ?_; intro v1 w1 hO1 hg1; have hb1 : Below Z2.heap.size Z2 w1 := Below.grown (by first | exact (Below.refl _ _).drew | go_grown) hg1 (by simp) (fun k e => by cases e))
                               | (refine wp_append_pts (.tmp 101) (.tmp 103) (by rfl) Z2.heap.size v1 tk (some ⟨w1.heap.size, 0, none⟩) 1 1 [(q1, q2)] (by rfl) (by rfl) (by rfl) (OwnP.below2 hO1 (by first | exact (Below.refl _ _).alloc (Nat.le_refl _) _ | exact ((Below.refl _ _).alloc (Nat.le_refl _) _).drew | exact (Below.refl _ _).drew)) (pts_of_one (blk_new_at (by rfl) _)) hl4 (by omega) (fun h => by cases h) (by have := hb1.size; first | omega | (simp only [World.size_alloc]; omega) | (show Z2.heap.size ≤ (w1.heap.push _).size; rw [Array.size_push]; omega)) ?_; intro v2 w2 hO2 hg2; have hb2 : Below Z2.heap.size Z2 w2 := Below.grown (by first | exact hb1.alloc hb1.size _ | exact (hb1.alloc hb1.size _).drew | exact (hb1.drew).alloc hb1.size _) hg2 (by have := hb1.size; first | omega | (simp only [World.size_alloc]; omega) | (show Z2.heap.size ≤ (w1.heap.push _).size; rw [Array.size_push]; omega)) (fun k e => (World.ownsRow.lt hO1 k e).1))
                               | (refine wp_append_pts (.tmp 101) (.tmp 103) (by rfl) Z2.heap.size v1 tk (some ⟨Z2.heap.size, 0, none⟩) 1 1 [(q1, q2)] (by rfl) (by rfl) (by rfl) hO1 (pts_of_one ((hg1.block _ (by simp) (fun e => by cases e)).trans (blk_new_at (by rfl) _))) hl4 (by omega) (fun h => by cases h) hb1.size ?_; intro v2 w2 hO2 hg2; have hb2 : Below Z2.heap.size Z2 w2 := Below.grown hb1 hg2 hb1.size (fun k e => (World.ownsRow.lt hO1 k e).1))
                               | (refine wp_append_pts (.tmp 104) (.tmp 107) (by rfl) Z2.heap.size v2 (tk ++ [(q1, q2)]) s2 (oc - a) (N - a) dk hl2 (by rfl) (by rfl) hO2 (HT2.out.ext hb2) hl3 hl5 HN3.out hb2.size ?_; intro v3 w3 hO3 hg3; have hb3 : Below Z2.heap.size Z2 w3 := Below.grown hb2 hg3 hb2.size (fun k e => (World.ownsRow.lt hO2 k e).1)))
                      all_goals
                        have hfin : OwnP w.heap.size w3 v3 (tk ++ [(q1, q2)] ++ dk) := ownsRow_mono hO3 HBZ.out.size
                        have HFO := Lib.hid hfin
                        have HFB := Lib.hid (HBZ.out.trans (hb3.mono HBZ.out.size))
                        clear hfin hO1 hO2 hO3 hg1 hg2 hg3 hb1 hb2 hb3 hs1 hs2
                        go_wp2
                        go_roundg (g2 - 1)
                        case measure => omega
                        case rel => exact ⟨k + 1, _, by omega, by omega, by go_num, HFO, HS, HFB⟩
                · have d2 : decide (y1 = q1) = false := decide_eq_false h2
                  have d2b : (y1 == q1) = false := by simpa using h2
                  have HNE := Lib.hid (show ∀ x, out[a]? = some x → ¬ LtP x (q1, q2) ∧ x ≠ (q1, q2) from fun x hx => by
                    rw [HZ.out] at hx
                    injection hx with hx
                    rw [← hx]
                    exact ⟨fun h => by unfold LtP at h; simp only at h; omega, fun h => by injection h; omega⟩)
                  have d4 : (!decide (y1 = q1 ∧ y2 = q2)) = true := by simp [h2]
                  clear h1 h2
                  have hneq := run_neqP
                  have hgt := guardP
                  go_wp2_with fail
                  go_quiet (fail)
                  have HB2 := Lib.hid (below_drN2 HBa.out nq)
                  obtain ⟨Z, hZ⟩ : ∃ Z : World, Z = Y.drewN nq := ⟨_, rfl⟩
                  have HYZ := Lib.hid (show Below Y.heap.size Y Z by rw [hZ]; exact below_drN2 (Below.refl _ _) nq)
                  have HZC := Lib.hid (show Z.cell? ⟨ob, oo + a * 2, none⟩ = some (.int .u64 y1) ∧ Z.cell? ⟨ob, oo + a * 2 + 1, none⟩ = some (.int .u64 y2) by rw [hZ]; exact ⟨z0, z1⟩)
                  rw [← hZ]
                  clear hZ z0 z1 p0 p1
                  obtain ⟨p0, p1⟩ := HPY.out Z HYZ.out
                  have z0 : Z.cell? ⟨ob, oo + a * 2, none⟩ = some (.int .u64 y1) := HZC.out.1
                  have z1 : Z.cell? ⟨ob, oo + a * 2 + 1, none⟩ = some (.int .u64 y2) := HZC.out.2
                  go_wp2_with fail
                  go_quiet (fail)
                  obtain ⟨Z2, hZ2⟩ : ∃ Z2 : World, Z2 = Z.drewN nq := ⟨_, rfl⟩
                  have HYZ2 := Lib.hid (show Below Y.heap.size Y Z2 by rw [hZ2]; exact below_drN2 HYZ.out nq)
                  rw [← hZ2]
                  clear hZ2 p0 p1 hneq hgt z0 z1

                  have HN2 := Lib.hid (HP.out.put HLT.out (by have := HNO.out; omega) HNE.out)
                  obtain ⟨s1, hs1, hT1, hn1⟩ := slice_loP (k := a) (HPTS.out.ext HYZ2.out) HNO.out.symm HOC.out (by omega) HOY.out.none0
                  obtain ⟨s2, hs2, hT2, hn2⟩ := slice_hiP (k := a) (HPTS.out.ext HYZ2.out) HNO.out.symm HOC.out (by omega) HOY.out.none0
                  have hl1 : (out.take a).length = a := by have := HNO.out; simp; omega
                  have hl2 : (out.drop a).length = N - a := by have := HNO.out; simp; omega
                  obtain ⟨tk, htk⟩ : ∃ tk, tk = out.take a := ⟨_, rfl⟩
                  obtain ⟨dk, hdk⟩ : ∃ dk, dk = out.drop a := ⟨_, rfl⟩
                  rw [← htk] at hl1 hT1
                  rw [← hdk] at hl2 hT2
                  have HS := Lib.hid (show RP (tk ++ [(q1, q2)] ++ dk) (pairsB L i ++ (rowB L i).take (k + 1 - (i + 1))) by
                    rw [HRW.out, htk, hdk, List.append_assoc]
                    exact HN2.out)
                  have HT1 := Lib.hid hT1
                  have HT2 := Lib.hid hT2
                  have HN1 := Lib.hid hn1
                  have HN3 := Lib.hid hn2
                  have hl3 : (tk ++ [(q1, q2)]).length < 1000000 := by rw [List.length_append, List.length_singleton]; omega
                  have hl4 : tk.length < 1000000 := by omega
                  have hl5 : N - a < 1000000 := by omega
                  have hl6 : a < 1000000 := by omega
                  have HBZ := Lib.hid (show Below w.heap.size w Z2 from HBY.out.trans (HYZ2.out.mono HBY.out.size))
                  have HPZ := Lib.hid (show ∀ u, Below Z2.heap.size Z2 u → u.cell? ⟨pb, 0, none⟩ = some (.int .u64 q1) ∧ u.cell? ⟨pb, 1, none⟩ = some (.int .u64 q2) from fun u hu => HPY.out u (HYZ2.out.trans (hu.mono HYZ2.out.size)))
                  clear hT1 hT2 hn1 hn2 htk hdk
                  go_wp2_with fail
                  go_region_held3 (fun u => u.cell? ⟨pb, 0, none⟩ = some (.int .u64 q1) ∧ u.cell? ⟨pb, 1, none⟩ = some (.int .u64 q2)) (first | exact HPZ.out _ (by assumption) | exact HPZ.out _ ((Below.refl _ _).drew) | exact HPZ.out _ (((Below.refl _ _).alloc (Nat.le_refl _) _).drew) | exact HPZ.out _ ((Below.refl _ _).alloc (Nat.le_refl _) _) | exact HPZ.out _ (hb1.alloc hb1.size _) | exact HPZ.out _ ((hb1.alloc hb1.size _).drew) | exact HPZ.out _ ((hb1.drew).alloc hb1.size _))
                    (first | (refine wp_append_pts (.const (.slice none 0 0)) (.tmp 100) (by rfl) Z2.heap.size (.slice none 0 0) [] s1 oc a tk hl1 (by rfl) (by rfl) (World.ownsRow_nil _ _ _ _) (HT1.out.ext (by first | exact (Below.refl _ _).drew | go_grown)) (by simp) hl6 HN1.out (by simp) ?_; intro v1 w1 hO1 hg1; have hb1 : Below Z2.heap.size Z2 w1 := Below.grown (by first | exact (Below.refl _ _).drew | go_grown) hg1 (by simp) (fun k e => by cases e))
                           | (refine wp_append_pts (.tmp 101) (.tmp 103) (by rfl) Z2.heap.size v1 tk (some ⟨w1.heap.size, 0, none⟩) 1 1 [(q1, q2)] (by rfl) (by rfl) (by rfl) (OwnP.below2 hO1 (by first | exact (Below.refl _ _).alloc (Nat.le_refl _) _ | exact ((Below.refl _ _).alloc (Nat.le_refl _) _).drew | exact (Below.refl _ _).drew)) (pts_of_one (blk_new_at (by rfl) _)) hl4 (by omega) (fun h => by cases h) (by have := hb1.size; first | omega | (simp only [World.size_alloc]; omega) | (show Z2.heap.size ≤ (w1.heap.push _).size; rw [Array.size_push]; omega)) ?_; intro v2 w2 hO2 hg2; have hb2 : Below Z2.heap.size Z2 w2 := Below.grown (by first | exact hb1.alloc hb1.size _ | exact (hb1.alloc hb1.size _).drew | exact (hb1.drew).alloc hb1.size _) hg2 (by have := hb1.size; first | omega | (simp only [World.size_alloc]; omega) | (show Z2.heap.size ≤ (w1.heap.push _).size; rw [Array.size_push]; omega)) (fun k e => (World.ownsRow.lt hO1 k e).1))
                           | (refine wp_append_pts (.tmp 101) (.tmp 103) (by rfl) Z2.heap.size v1 tk (some ⟨Z2.heap.size, 0, none⟩) 1 1 [(q1, q2)] (by rfl) (by rfl) (by rfl) hO1 (pts_of_one ((hg1.block _ (by simp) (fun e => by cases e)).trans (blk_new_at (by rfl) _))) hl4 (by omega) (fun h => by cases h) hb1.size ?_; intro v2 w2 hO2 hg2; have hb2 : Below Z2.heap.size Z2 w2 := Below.grown hb1 hg2 hb1.size (fun k e => (World.ownsRow.lt hO1 k e).1))
                           | (refine wp_append_pts (.tmp 104) (.tmp 107) (by rfl) Z2.heap.size v2 (tk ++ [(q1, q2)]) s2 (oc - a) (N - a) dk hl2 (by rfl) (by rfl) hO2 (HT2.out.ext hb2) hl3 hl5 HN3.out hb2.size ?_; intro v3 w3 hO3 hg3; have hb3 : Below Z2.heap.size Z2 w3 := Below.grown hb2 hg3 hb2.size (fun k e => (World.ownsRow.lt hO2 k e).1)))
                  all_goals
                    have hfin : OwnP w.heap.size w3 v3 (tk ++ [(q1, q2)] ++ dk) := ownsRow_mono hO3 HBZ.out.size
                    have HFO := Lib.hid hfin
                    have HFB := Lib.hid (HBZ.out.trans (hb3.mono HBZ.out.size))
                    clear hfin hO1 hO2 hO3 hg1 hg2 hg3 hb1 hb2 hb3 hs1 hs2
                    go_wp2
                    go_roundg (g2 - 1)
                    case measure => omega
                    case rel => exact ⟨k + 1, _, by omega, by omega, by go_num, HFO, HS, HFB⟩
            · have hae : a = N := by omega
              have HNE := Lib.hid (show ∀ x, out[a]? = some x → ¬ LtP x (q1, q2) ∧ x ≠ (q1, q2) from fun x hx => by
                have := (List.getElem?_eq_some_iff.1 hx).1
                have := HNO.out
                omega)
              have had : decide ((a : Int) < (N : Int)) = false := decide_eq_false (by omega)
              have had2 : decide (a < N) = false := decide_eq_false han
              have haf : decide ((a : Int) = (N : Int)) = true := decide_eq_true (by omega)
              have haf2 : decide (a = N) = true := decide_eq_true hae
              have hab : ((a : Int) == (N : Int)) = true := by simp; omega
              clear hae
              have hneq := run_neqP
              have hgt := guardP
              go_wp2_with fail
              go_quiet (fail)
              have HB2 := Lib.hid (below_drN2 HBa.out nq)
              obtain ⟨Z, hZ⟩ : ∃ Z : World, Z = Y.drewN nq := ⟨_, rfl⟩
              have HYZ := Lib.hid (show Below Y.heap.size Y Z by rw [hZ]; exact below_drN2 (Below.refl _ _) nq)
              rw [← hZ]
              clear hZ  p0 p1
              obtain ⟨p0, p1⟩ := HPY.out Z HYZ.out

              go_wp2_with fail
              go_quiet (fail)
              obtain ⟨Z2, hZ2⟩ : ∃ Z2 : World, Z2 = Z.drewN nq := ⟨_, rfl⟩
              have HYZ2 := Lib.hid (show Below Y.heap.size Y Z2 by rw [hZ2]; exact below_drN2 HYZ.out nq)
              rw [← hZ2]
              clear hZ2 p0 p1 hneq hgt 

              have HN2 := Lib.hid (HP.out.put HLT.out (by have := HNO.out; omega) HNE.out)
              obtain ⟨s1, hs1, hT1, hn1⟩ := slice_loP (k := a) (HPTS.out.ext HYZ2.out) HNO.out.symm HOC.out (by omega) HOY.out.none0
              obtain ⟨s2, hs2, hT2, hn2⟩ := slice_hiP (k := a) (HPTS.out.ext HYZ2.out) HNO.out.symm HOC.out (by omega) HOY.out.none0
              have hl1 : (out.take a).length = a := by have := HNO.out; simp; omega
              have hl2 : (out.drop a).length = N - a := by have := HNO.out; simp; omega
              obtain ⟨tk, htk⟩ : ∃ tk, tk = out.take a := ⟨_, rfl⟩
              obtain ⟨dk, hdk⟩ : ∃ dk, dk = out.drop a := ⟨_, rfl⟩
              rw [← htk] at hl1 hT1
              rw [← hdk] at hl2 hT2
              have HS := Lib.hid (show RP (tk ++ [(q1, q2)] ++ dk) (pairsB L i ++ (rowB L i).take (k + 1 - (i + 1))) by
                rw [HRW.out, htk, hdk, List.append_assoc]
                exact HN2.out)
              have HT1 := Lib.hid hT1
              have HT2 := Lib.hid hT2
              have HN1 := Lib.hid hn1
              have HN3 := Lib.hid hn2
              have hl3 : (tk ++ [(q1, q2)]).length < 1000000 := by rw [List.length_append, List.length_singleton]; omega
              have hl4 : tk.length < 1000000 := by omega
              have hl5 : N - a < 1000000 := by omega
              have hl6 : a < 1000000 := by omega
              have HBZ := Lib.hid (show Below w.heap.size w Z2 from HBY.out.trans (HYZ2.out.mono HBY.out.size))
              have HPZ := Lib.hid (show ∀ u, Below Z2.heap.size Z2 u → u.cell? ⟨pb, 0, none⟩ = some (.int .u64 q1) ∧ u.cell? ⟨pb, 1, none⟩ = some (.int .u64 q2) from fun u hu => HPY.out u (HYZ2.out.trans (hu.mono HYZ2.out.size)))
              clear hT1 hT2 hn1 hn2 htk hdk
              go_wp2_with fail
              go_region_held3 (fun u => u.cell? ⟨pb, 0, none⟩ = some (.int .u64 q1) ∧ u.cell? ⟨pb, 1, none⟩ = some (.int .u64 q2)) (first | exact HPZ.out _ (by assumption) | exact HPZ.out _ ((Below.refl _ _).drew) | exact HPZ.out _ (((Below.refl _ _).alloc (Nat.le_refl _) _).drew) | exact HPZ.out _ ((Below.refl _ _).alloc (Nat.le_refl _) _) | exact HPZ.out _ (hb1.alloc hb1.size _) | exact HPZ.out _ ((hb1.alloc hb1.size _).drew) | exact HPZ.out _ ((hb1.drew).alloc hb1.size _))
                (first | (refine wp_append_pts (.const (.slice none 0 0)) (.tmp 100) (by rfl) Z2.heap.size (.slice none 0 0) [] s1 oc a tk hl1 (by rfl) (by rfl) (World.ownsRow_nil _ _ _ _) (HT1.out.ext (by first | exact (Below.refl _ _).drew | go_grown)) (by simp) hl6 HN1.out (by simp) ?_; intro v1 w1 hO1 hg1; have hb1 : Below Z2.heap.size Z2 w1 := Below.grown (by first | exact (Below.refl _ _).drew | go_grown) hg1 (by simp) (fun k e => by cases e))
                       | (refine wp_append_pts (.tmp 101) (.tmp 103) (by rfl) Z2.heap.size v1 tk (some ⟨w1.heap.size, 0, none⟩) 1 1 [(q1, q2)] (by rfl) (by rfl) (by rfl) (OwnP.below2 hO1 (by first | exact (Below.refl _ _).alloc (Nat.le_refl _) _ | exact ((Below.refl _ _).alloc (Nat.le_refl _) _).drew | exact (Below.refl _ _).drew)) (pts_of_one (blk_new_at (by rfl) _)) hl4 (by omega) (fun h => by cases h) (by have := hb1.size; first | omega | (simp only [World.size_alloc]; omega) | (show Z2.heap.size ≤ (w1.heap.push _).size; rw [Array.size_push]; omega)) ?_; intro v2 w2 hO2 hg2; have hb2 : Below Z2.heap.size Z2 w2 := Below.grown (by first | exact hb1.alloc hb1.size _ | exact (hb1.alloc hb1.size _).drew | exact (hb1.drew).alloc hb1.size _) hg2 (by have := hb1.size; first | omega | (simp only [World.size_alloc]; omega) | (show Z2.heap.size ≤ (w1.heap.push _).size; rw [Array.size_push]; omega)) (fun k e => (World.ownsRow.lt hO1 k e).1))
                       | (refine wp_append_pts (.tmp 101) (.tmp 103) (by rfl) Z2.heap.size v1 tk (some ⟨Z2.heap.size, 0, none⟩) 1 1 [(q1, q2)] (by rfl) (by rfl) (by rfl) hO1 (pts_of_one ((hg1.block _ (by simp) (fun e => by cases e)).trans (blk_new_at (by rfl) _))) hl4 (by omega) (fun h => by cases h) hb1.size ?_; intro v2 w2 hO2 hg2; have hb2 : Below Z2.heap.size Z2 w2 := Below.grown hb1 hg2 hb1.size (fun k e => (World.ownsRow.lt hO1 k e).1))
                       | (refine wp_append_pts (.tmp 104) (.tmp 107) (by rfl) Z2.heap.size v2 (tk ++ [(q1, q2)]) s2 (oc - a) (N - a) dk hl2 (by rfl) (by rfl) hO2 (HT2.out.ext hb2) hl3 hl5 HN3.out hb2.size ?_; intro v3 w3 hO3 hg3; have hb3 : Below Z2.heap.size Z2 w3 := Below.grown hb2 hg3 hb2.size (fun k e => (World.ownsRow.lt hO2 k e).1)))
              all_goals
                have hfin : OwnP w.heap.size w3 v3 (tk ++ [(q1, q2)] ++ dk) := ownsRow_mono hO3 HBZ.out.size
                have HFO := Lib.hid hfin
                have HFB := Lib.hid (HBZ.out.trans (hb3.mono HBZ.out.size))
                clear hfin hO1 hO2 hO3 hg1 hg2 hg3 hb1 hb2 hb3 hs1 hs2
                go_wp2
                go_roundg (g2 - 1)
                case measure => omega
                case rel => exact ⟨k + 1, _, by omega, by omega, by go_num, HFO, HS, HFB⟩
        · have hkn2 : k = n := by omega
          have HP2 := Lib.hid (show RP out (pairsB L (i + 1)) by
            have h1 := HP.out
            rw [List.take_of_length_le (by rw [rowB_len, HLN.out]; omega), ← pairsB_succ] at h1
            exact h1)
          clear hkn2
          go_wp2_with fail
          go_roundg (g1 - 1)
          case measure => omega
          case rel => exact ⟨i + 1, out, by omega, by go_num, HO, HP2, HB⟩
    · have hin : i = L.length := by rw [HLN.out]; omega
      obtain ⟨oa, oc, rfl, -, -, -, -⟩ := own_parts HO.out
      have c0 := HC0.out wr HB.out
      have HE := Lib.hid (show RefPointsPost L w (.returned (.slice oa out.length oc)) wr from ⟨oa, out.length, oc, out, rfl, rfl, by rw [← hin]; exact HP.out, HO.out, HB.out⟩)
      clear hin
      obtain ⟨N, hN⟩ : ∃ N, N = out.length := ⟨_, rfl⟩
      rw [← hN] at HE ⊢
      clear hN
      go_wp2_with fail
      go_ret
      exact HE.out
end Go.Proofs.YticcccciefaemaaGreatDoor.Vx
