/- vectors: First, Base. Condition: fewer than 1000000 lines. -/
import Derived.Test.YtnnpheklgdbohaaOG
import Derived.WalkMore
namespace Go.Proofs.Ytnnpheklgdbohaa
open Go.RowKit Go.Shelf Go.Herb

set_option maxRecDepth 100000 in
theorem first_any (w : World) : Calls Try.prog (20) #[] w fun e w' => ∃ p mb M, e = .returned (.pointer (some ⟨p, 0, none⟩)) ∧ VecIs w' p mb M [(0, [])] ∧ Below w.heap.size w w' := by
  have hmm := @run_makeMap Try.prog
  have hN : MapM ((w.alloc (.map #[] 0)).alloc (.map #[] 0)) w.heap.size [] := (MapIs.made (P := Try.prog) (k := (29)) (encK := eU) (encV := eM) (α := Int) (β := Nat) w).same (Below.heap_alloc _ _ _ (by simp))
  obtain ⟨kl, hkl⟩ := keyU (x := 0) (show (Lit.int .u64 0).wf = true from rfl)
  obtain ⟨w4, hst, hM4, hg4, hs4⟩ := hN.store lawU eU_inj Try.underlying58 (by simp [maxLen]) (w.heap.size + 1) hkl
  have hput : putL ([] : List (Int × Nat)) 0 (w.heap.size + 1) = [(0, w.heap.size + 1)] := by simp [putL]
  rw [hput] at hM4
  have hB : Below w.heap.size w w4 := (((Below.refl _ w).alloc (Nat.le_refl _) _).alloc (by simp) _).grown hg4 (by simp; omega) (fun k e => by injection e with e; omega)
  have hI : MapU w4 (w.heap.size + 1) [] := by
    have h1 := MapIs.made (P := Try.prog) (k := (29)) (encK := eU) (encV := eU) (α := Int) (β := Int) (w.alloc (.map #[] 0))
    have h2 : (w.alloc (.map #[] 0)).heap.size = w.heap.size + 1 := by simp
    rw [h2] at h1
    exact h1.same (hg4.block _ (by simp) (fun e => by injection e with e; omega))
  have HM := Lib.hid hM4
  have HB := Lib.hid hB
  have HI := Lib.hid hI
  have hsz : w4.heap.size = w.heap.size + 1 + 1 := by rw [hs4]; simp
  have HSZ := Lib.hid hsz
  clear hN hM4 hg4 hs4 hB hI hput hsz
  go_enter Try.func20, Try.ntmps20
  go_wp2
  go_ret
  refine ⟨_, w.heap.size, [(0, w.heap.size + 1)], rfl, ⟨blk_new_at rfl _, HM.out.same (Below.heap_alloc _ _ _ HM.out.lt), List.Perm.refl _, fun q hq => ?_⟩, HB.out.alloc HB.out.size _⟩
  rw [List.mem_singleton.1 hq]
  exact ⟨[], [], HI.out.same (Below.heap_alloc _ _ _ HI.out.lt), rfl, List.Perm.refl _⟩

/-- What Base answers. -/
def BasePost (L : Vs) (a b : Int) (w : World) (e : Ending) (w' : World) : Prop :=
  ∃ (q : Int × Int) (er : Int), e = .returned (.tuple #[.agg #[.int .u64 q.1, .int .u64 q.2], .int .i64 er]) ∧ Below w.heap.size w w' ∧
    ((er = 0 ∧ ∃ x y, getL L a = some x ∧ getL L b = some y ∧ IsBase x y q) ∨ (er = 7 ∧ q = (0, 0) ∧ (getL L a = none ∨ getL L b = none)))

set_option maxRecDepth 100000 in
set_option maxHeartbeats 1000000 in
theorem base_any (p mb : Nat) (M : List (Int × Nat)) (L : Vs) (a b : Int) (w : World) (h : VecIs w p mb M L) (hG : GoodV L) (hS : Small L) (ha : U64 a) (hb : U64 b) :
    Calls Try.prog (12) #[.pointer (some ⟨p, 0, none⟩), .int .u64 a, .int .u64 b] w (BasePost L a b w) := by
  have HG := Lib.hid hG
  have HS := Lib.hid hS
  obtain ⟨W0, hW0⟩ : ∃ W0 : World, W0 = w.alloc (.cells #[.int .u64 0, .int .u64 0] (34)) := ⟨_, rfl⟩
  have hb0 : Below w.heap.size w W0 := by rw [hW0]; exact (Below.refl _ _).alloc (Nat.le_refl _) _
  have hsz0 : W0.heap.size = w.heap.size + 1 := by rw [hW0]; simp
  have hbx0 : W0.heap[w.heap.size]? = some (.cells #[.int .u64 0, .int .u64 0] (34) (0, 0)) := by rw [hW0]; exact blk_new_at rfl _
  obtain ⟨W1, hW1⟩ : ∃ W1 : World, W1 = W0.alloc (.cells #[.int .u64 a, .int .u64 b] (29)) := ⟨_, rfl⟩
  have hb1' : Below W0.heap.size W0 W1 := by rw [hW1]; exact (Below.refl _ _).alloc (Nat.le_refl _) _
  have hb1 : Below w.heap.size w W1 := hb0.trans (hb1'.mono hb0.size)
  have hbx1 := blk_below hbx0 hb1' (by omega)
  have hn := needs_any p mb M L (some ⟨W0.heap.size, 0, none⟩) 2 [a, b] W1 (h.below hb1) (elsU_lit [a, b] (t := (29)) (by rw [hW1]; exact blk_new_at rfl _)) (by simp; exact ⟨ha, hb⟩) (by simp)
  rw [hsz0] at hn
  have HN := Lib.hid hn
  have H := Lib.hid h
  have HB1 := Lib.hid hb1
  have HV1 := Lib.hid (h.below hb1)
  have HX1 := Lib.hid hbx1
  have hs1 : w.heap.size + 1 < W1.heap.size := by rw [hW1]; simp; omega
  clear hn hb1 hb1' hbx0 h hG hS hb0
  rw [hW0] at hW1
  clear hW0
  by_cases hnn : ¬ ((getL L a).isSome = true ∧ (getL L b).isSome = true)
  · have hne : needsE L [a, b] = 7 := by
      cases hg : getL L a with
      | none => exact needsE_not (ls := [a, b]) (by simp) hg
      | some x =>
        cases hg2 : getL L b with
        | none => exact needsE_not (ls := [a, b]) (by simp) hg2
        | some c => exact absurd (by simp [hg, hg2]) hnn
    have hor : getL L a = none ∨ getL L b = none := by
      cases hg : getL L a with
      | none => exact .inl rfl
      | some x =>
        cases hg2 : getL L b with
        | none => exact .inr rfl
        | some c => exact absurd (by simp [hg, hg2]) hnn
    have HOR := Lib.hid hor
    have x0 := cell_of_blk HX1.out 0
    have x1 := cell_of_blk HX1.out 1
    have f0 := frozen_of_blk HX1.out 0
    have f1 := frozen_of_blk HX1.out 1
    simp at x0 x1
    have HE : Hid (Below w.heap.size w ((W1.setCell ⟨w.heap.size, 0, none⟩ (.int .u64 0)).setCell ⟨w.heap.size, 1, none⟩ (.int .u64 0))) := Lib.hid (by
      have h1 : W1.grownBy ((W1.setCell ⟨w.heap.size, 0, none⟩ (.int .u64 0)).setCell ⟨w.heap.size, 1, none⟩ (.int .u64 0)) (some w.heap.size) := grown_set (grown_set (grown_refl _ _) _ _) _ _
      exact HB1.out.grown h1 HB1.out.size (fun k e => by injection e with e; omega))
    clear hor hnn hsz0
    go_enter Try.func12, Try.ntmps12
    go_wp2
    go_step3
    go_wp2_with fail
    rw [← hW1]
    clear hW1
    refine (HN.out).mono ?_
    rintro e w' ⟨rfl, rfl⟩
    rw [hne]
    clear hne
    go_wp2
    try rw [Exit.noGoto_ret]
    refine bodyPost_ret (v := .tuple #[.agg #[.int .u64 0, .int .u64 0], .int .i64 7]) ?_ rfl ⟨(0, 0), 7, rfl, HE.out, .inr ⟨rfl, rfl, HOR.out⟩⟩
    simp [results, Try.results12, go_sem, x0, x1]
  · have hboth : (getL L a).isSome = true ∧ (getL L b).isSome = true := Classical.not_not.1 hnn
    clear hnn
    obtain ⟨x, hga⟩ := Option.isSome_iff_exists.1 hboth.1
    obtain ⟨y, hgb⟩ := Option.isSome_iff_exists.1 hboth.2
    clear hboth
    have hne : needsE L [a, b] = 0 := needsE_of (by intro z hz; simp only [List.mem_cons, List.not_mem_nil, or_false] at hz; rcases hz with rfl | rfl; rw [hga]; rfl; rw [hgb]; rfl)
    obtain ⟨ia, ma, hga2, hMa0, hpa⟩ := H.out.has hga
    obtain ⟨ib, my, hgb2, hMb0, hpb⟩ := H.out.has hgb
    have hMa := hMa0.same (HB1.out.block _ hMa0.lt)
    have hxG := HG.out.get hga
    have hyG := HG.out.get hgb
    have hok := hxG.1.ok.perm hpa.symm
    have hok2 := hyG.1.ok.perm hpb.symm
    obtain ⟨kl, hkl⟩ := keyU ha
    obtain ⟨kl2, hkl2⟩ := keyU hb
    have hlook := (HV1.out.out.look lawU eU_inj Try.underlying58 (zeroB _) hkl).1
    rw [hga2] at hlook
    simp only at hlook
    obtain ⟨w4, hrg, hit, hB4, hs4⟩ := hMa.range Try.underlying72
    have c0 := cell_of_blk HV1.out.blk 0
    simp at c0
    have HIT := Lib.hid hit
    have HB4 := Lib.hid (HB1.out.trans (hB4.mono HB1.out.size))
    have HX4 := Lib.hid (blk_below HX1.out hB4 (by omega))
    have HPA := Lib.hid hpa
    have HPB := Lib.hid hpb
    have HMB := Lib.hid hMb0
    have HGB := Lib.hid hgb2
    have HRA := Lib.hid hga
    have HRB := Lib.hid hgb
    have HOK := Lib.hid hok
    have HOK2 := Lib.hid hok2
    have hlA := hMa0.lt
    clear hit hB4 hs4 hpa hpb hMa hMa0 hMb0 hga hgb hga2 hgb2 hok hok2 hxG hyG
    go_enter Try.func12, Try.ntmps12
    go_wp2
    go_step3
    go_wp2_with fail
    rw [← hW1]
    clear hW1
    refine (HN.out).mono ?_
    rintro e w' ⟨rfl, rfl⟩
    rw [hne]
    clear hne
    go_wp2_with fail
    go_step3
    go_wp2_with fail
    clear hlook hrg c0
    go_loopg [] ma.length (fun gk wr => ∃ (done todo : Bh) (q : Int × Int), todo.length = gk ∧ Hid (ma.Perm (done ++ todo)) ∧ IterIs Try.prog (29) eU eU wr ia W1.heap.size ma todo ∧ Hid (BaseSt my done q) ∧ wr.heap[w.heap.size]? = some (.cells #[.int .u64 q.1, .int .u64 q.2] (34) (0, 0)) ∧ Below w.heap.size w wr)
    case atStart => exact ⟨[], ma, (0, 0), rfl, Lib.hid (List.Perm.refl _), HIT.out, Lib.hid (BaseSt.start _), HX4.out, HB4.out⟩
    case round =>
      obtain ⟨done, todo, ⟨q1, q2⟩, htl, HP, hit, HST, hbx, hbw⟩ := hrel
      have HBW := Lib.hid hbw
      have hsz := lt_of_blk hbx
      rcases hit.next 0 with ⟨rfl, hnx⟩ | ⟨⟨l, v⟩, todo', w5, htp, hpm, hnx, hit2, hg2, hs2, hen⟩
      · have x0 := cell_of_blk hbx 0
        have x1 := cell_of_blk hbx 1
        have f0 := frozen_of_blk hbx 0
        have f1 := frozen_of_blk hbx 1
        simp at x0 x1
        have hE : BasePost L a b w (.returned (.tuple #[.agg #[.int .u64 q1, .int .u64 q2], .int .i64 0])) ((wr.setCell ⟨w.heap.size, 0, none⟩ (.int .u64 q1)).setCell ⟨w.heap.size, 1, none⟩ (.int .u64 q2)) := by
          refine ⟨(q1, q2), 0, rfl, HBW.out.grown (grown_set (grown_set (grown_refl _ _) _ _) _ _ : wr.grownBy _ (some w.heap.size)) HBW.out.size (fun k e => by injection e with e; omega), .inl ⟨rfl, x, y, HRA.out, HRB.out, ?_⟩⟩
          have h1 := HST.out.done HOK.out HOK2.out (by have := HP.out; rwa [List.append_nil] at this)
          exact ⟨fun k => by rw [← g0_perm HOK.out HPA.out, ← g0_perm HOK2.out HPB.out]; exact h1.top k, h1.none, h1.nn, fun h0 => by rw [← g0_perm HOK.out HPA.out, ← g0_perm HOK2.out HPB.out]; exact h1.at_ h0, fun k h0 hk => h1.low k h0 (by rw [g0_perm HOK.out HPA.out, g0_perm HOK2.out HPB.out]; exact hk)⟩
        have HE := Lib.hid hE
        clear hit hbx hbw hE HIT HX4
        go_wp2
        try rw [Exit.noGoto_ret]
        refine bodyPost_ret (v := .tuple #[.agg #[.int .u64 q1, .int .u64 q2], .int .i64 0]) ?_ rfl HE.out
        simp [results, Try.results12, go_sem, x0, x1]
      · have htl2 : todo'.length + 1 = gk := by have := htp.length_eq; simp only [List.length_cons] at this; omega
        have HP2 := Lib.hid (show ma.Perm ((done ++ [(l, v)]) ++ todo') from by rw [List.append_assoc]; exact HP.out.trans (List.Perm.append_left _ htp))
        have hlw := (HOK.out.wf _ hpm).1
        have hvp := HOK.out.pos _ hpm
        simp only at hlw hvp
        have hra : W1.heap.size < wr.heap.size := hit.lt
        have hb5 : Below w.heap.size w w5 := hbw.grown hg2 hbw.size (fun k e => by injection e with e; omega)
        have hbx5 : w5.heap[w.heap.size]? = some (.cells #[.int .u64 q1, .int .u64 q2] (34) (0, 0)) := (hg2.block _ hsz (fun e => by injection e with e; omega)).trans hbx
        have hv5 : VecIs w5 p mb M L := H.out.below hb5
        have hm5 : MapU w5 ib my := HMB.out.same (hb5.block _ HMB.out.lt)
        have c0 := cell_of_blk hv5.blk 0
        have x0 := cell_of_blk hbx5 0
        have x1 := cell_of_blk hbx5 1
        have f0 := frozen_of_blk hbx5 0
        have f1 := frozen_of_blk hbx5 1
        simp at c0 x0 x1
        have hl1 := (hv5.out.look lawU eU_inj Try.underlying58 (zeroB _) hkl2).1
        rw [HGB.out] at hl1
        simp only at hl1
        obtain ⟨klk, hklk⟩ := keyU hlw
        have hl2 := (hm5.look lawU eU_inj Try.underlying72 (zeroU _) hklk).2
        have hs5 : w.heap.size < w5.heap.size := by rw [hs2]; exact hsz
        have hsr5 : W1.heap.size < w5.heap.size := by rw [hs2]; exact hra
        have HB5 := Lib.hid hb5
        have HIT2 := Lib.hid hit2
        have HBX5 := Lib.hid hbx5
        have HVP := Lib.hid hvp
        clear hit hit2 hg2 hs2 htp hpm HP htl hbw hbx hb5 hbx5 hv5 hm5 hvp HIT HX4 hklk hlw
        cases hgo : getL my l with
        | none =>
          rw [hgo] at hl2
          simp only at hl2
          have HK := Lib.hid (HST.out.keep (q := (l, v)) (.inr (.inl (by have : g0 my l = 0 := g0_of_none hgo; simp only [this]; omega))))
          clear hgo
          go_wp2_with fail
          go_roundg todo'.length
          case measure => omega
          case rel => exact ⟨done ++ [(l, v)], todo', (q1, q2), rfl, HP2, HIT2.out, HK, HBX5.out, HB5.out⟩
        | some o =>
          rw [hgo] at hl2
          simp only at hl2
          have hgl : g0 my l = o := g0_of_some hgo
          have hop : 0 < o := HOK2.out.pos _ (getL_mem hgo)
          obtain ⟨mn, hmn⟩ : ∃ mn, mn = min v o := ⟨_, rfl⟩
          have hmp : 0 < mn := by have := HVP.out; omega
          have HMN := Lib.hid hmn
          have HGL := Lib.hid hgl
          have fin : ∀ (w6 : World), w6 = w5.alloc (.cells #[.int .u64 l, .int .u64 mn] (34)) → w6.heap[w.heap.size]? = some (.cells #[.int .u64 q1, .int .u64 q2] (34) (0, 0)) ∧ IterIs Try.prog (29) eU eU w6 ia W1.heap.size ma todo' ∧ Below w.heap.size w w6 := fun w6 h6 => by
            rw [h6]
            exact ⟨blk_alloc HBX5.out, HIT2.out.same (Below.heap_alloc _ _ _ HIT2.out.map.lt) (Below.heap_alloc _ _ _ hsr5), HB5.out.alloc HB5.out.size _⟩
          have FIN := Lib.hid fin
          have take : (q2 < mn ∨ (mn = q2 ∧ l < q1)) → Hid (BaseSt my (done ++ [(l, v)]) (l, mn)) := fun h => Lib.hid (by
            have := HST.out.take (q := (l, v)) (by simp only [HGL.out, ← HMN.out]; exact hmp) (by simp only [HGL.out, ← HMN.out]; exact h)
            simpa only [HGL.out, ← HMN.out] using this)
          have keepq : (mn < q2 ∨ (mn = q2 ∧ q1 ≤ l)) → Hid (BaseSt my (done ++ [(l, v)]) (q1, q2)) := fun h => Lib.hid (HST.out.keep (q := (l, v)) (by simp only [HGL.out, ← HMN.out]; omega))
          have fin2 : Hid (∀ (w6 : World), w6 = (w5.setCell ⟨w.heap.size, 0, none⟩ (.int .u64 l)).setCell ⟨w.heap.size, 1, none⟩ (.int .u64 mn) → (w6.alloc (.cells #[.int .u64 l, .int .u64 mn] (34))).heap[w.heap.size]? = some (.cells #[.int .u64 l, .int .u64 mn] (34) (0, 0)) ∧ IterIs Try.prog (29) eU eU (w6.alloc (.cells #[.int .u64 l, .int .u64 mn] (34))) ia W1.heap.size ma todo' ∧ Below w.heap.size w (w6.alloc (.cells #[.int .u64 l, .int .u64 mn] (34)))) := Lib.hid (fun w6 h6 => by
            have h4 := blk_setCell (j := 1) (blk_setCell (j := 0) HBX5.out (.int .u64 l)) (.int .u64 mn)
            have h7 : w6.heap[w.heap.size]? = some (.cells #[.int .u64 l, .int .u64 mn] (34) (0, 0)) := by rw [h6]; simpa using h4
            have h8 : Below w.heap.size w w6 := by rw [h6]; exact HB5.out.grown (grown_set (grown_set (grown_refl _ _) _ _) _ _ : w5.grownBy _ (some w.heap.size)) HB5.out.size (fun k e => by injection e with e; omega)
            have h9 : w6.heap.size = w5.heap.size := by rw [h6]; simp
            have hit6 : IterIs Try.prog (29) eU eU w6 ia W1.heap.size ma todo' := HIT2.out.same (by
              rw [h6, Below.heap_setCell _ ⟨w.heap.size, 1, none⟩ _ _ (by show ia ≠ w.heap.size; omega), Below.heap_setCell _ ⟨w.heap.size, 0, none⟩ _ _ (by show ia ≠ w.heap.size; omega)]) (by
              rw [h6, Below.heap_setCell _ ⟨w.heap.size, 1, none⟩ _ _ (by show W1.heap.size ≠ w.heap.size; omega), Below.heap_setCell _ ⟨w.heap.size, 0, none⟩ _ _ (by show W1.heap.size ≠ w.heap.size; omega)])
            exact ⟨blk_alloc h7, hit6.same (Below.heap_alloc _ _ _ hit6.map.lt) (Below.heap_alloc _ _ _ hit6.lt), h8.alloc h8.size _⟩)
          have e1 : (Value.int IntKind.u64 (min v o)) = .int .u64 mn := by rw [hmn]
          have TK := Lib.hid take
          have KP := Lib.hid keepq
          clear take keepq fin hgo hgl hop hmp
          rcases Int.lt_trichotomy q2 mn with hc | hc | hc
          · have TT := TK.out (.inl hc)
            clear TK KP
            subst hmn
            go_wp2_with fail
            go_roundg todo'.length
            case measure => omega
            case rel => exact ⟨done ++ [(l, v)], todo', (l, min v o), rfl, HP2, (fin2.out _ rfl).2.1, TT, (fin2.out _ rfl).1, (fin2.out _ rfl).2.2⟩
          · have hd1 : decide (q2 < mn) = false := decide_eq_false (by omega)
            have hd2 : (mn == q2) = true := by simp [hc]
            by_cases hl : l < q1
            · have TT := TK.out (.inr ⟨hc.symm, hl⟩)
              clear TK KP
              subst hmn
              subst hc
              go_wp2_with fail
              go_roundg todo'.length
              case measure => omega
              case rel => exact ⟨done ++ [(l, v)], todo', (l, min v o), rfl, HP2, (fin2.out _ rfl).2.1, TT, (fin2.out _ rfl).1, (fin2.out _ rfl).2.2⟩
            · have TT := KP.out (.inr ⟨hc.symm, by omega⟩)
              clear TK KP
              subst hmn
              have hd3 : decide (l < q1) = false := decide_eq_false hl
              subst hc
              go_wp2_with fail
              go_roundg todo'.length
              case measure => omega
              case rel => exact ⟨done ++ [(l, v)], todo', (q1, min v o), rfl, HP2, (FIN.out _ rfl).2.1, TT, (FIN.out _ rfl).1, (FIN.out _ rfl).2.2⟩
          · have TT := KP.out (.inl hc)
            clear TK KP
            subst hmn
            have hd1 : decide (q2 < min v o) = false := decide_eq_false (by omega)
            have hd2 : (min v o == q2) = false := by simp; omega
            have hd3 : decide (min v o = q2) = false := decide_eq_false (by omega)
            go_wp2_with fail
            go_roundg todo'.length
            case measure => omega
            case rel => exact ⟨done ++ [(l, v)], todo', (q1, q2), rfl, HP2, (FIN.out _ rfl).2.1, TT, (FIN.out _ rfl).1, (FIN.out _ rfl).2.2⟩
end Go.Proofs.Ytnnpheklgdbohaa
