/- views.History. Condition: fewer than 1000000 facts and links. -/
import Derived.Test.YtenocakpipppiaaGreatDoorH4b
import Derived.Sort.LoopGhostIn
namespace Go.Proofs.YtenocakpipppiaaGreatDoor
open Go.RowKit Go.Shelf Go.Herb
attribute [local go_sem] Oper.semAt_some

theorem wpIn_append_run {F : Fence} {n : Nat} {P : Program} {o : Oper} {a : Act} {w : World} {K : Act → World → Prop} {Q : Exit → Act → World → Prop} (s x : Operand) (t tn : TypeId)
    (ho : o.op = .call { callee := .builtin .append, args := #[s, x], argTypes := #[t, tn] }) (vs vx : Value) (hs : a.eval s = vs) (hx : a.eval x = vx)
    (v' : Value) (w' : World) (hr : (Builtin.append_ #[t, tn] o.type #[vs, vx]).run P w = .ok v' w')
    (h : K (a.put o.dst v') w') : o.wpIn F n P a w K Q := by
  unfold Oper.wpIn
  refine ⟨?_, ?_⟩
  · simp [Oper.about, ho, resolve, Target.leads, Sem.run_pure]
  · rw [Oper.semAt_plain F _ _ (by rw [ho]; intro c hc'; cases hc')]
    simp [execOp, ho, resolve, invoke, builtin, hs, hx, hr, Result.andThen]
    exact h

theorem histKept6 {s B : Nat} {w5 w6 : World} {va : Value} {nw : List Fc} (hO : OwnF B w5 va nw) (hc : w5.heap[s + 3]? = some (.cells #[va] 22 (0, 0)) ∧ s + 3 < B) (hg : w5.grownBy w6 va.ownBlock) :
    w6.cell? ⟨s + 1 + 1 + 1, 0, none⟩ = some va ∧ w6.frozen? ⟨s + 1 + 1 + 1, 0, none⟩ = false ∧ s + 1 + 1 + 1 < w6.heap.size := by
  have h : w6.heap[s + 3]? = some (.cells #[va] 22 (0, 0)) := (hg.block _ (lt_of_blk hc.1) (fun e => by have := (World.ownsRow.lt hO _ e.symm).1; omega)).trans hc.1
  exact ⟨cell_of_blk h 0, by simp [World.frozen?, show w6.heap[s + 1 + 1 + 1]? = _ from h], lt_of_blk h⟩

theorem histBlk6 {s B : Nat} {w5 w6 : World} {va : Value} {nw : List Fc} (hO : OwnF B w5 va nw) (hc : w5.heap[s + 3]? = some (.cells #[va] 22 (0, 0)) ∧ s + 3 < B) (hg : w5.grownBy w6 va.ownBlock) :
    w6.heap[s + 3]? = some (.cells #[va] 22 (0, 0)) := (hg.block _ (lt_of_blk hc.1) (fun e => by have := (World.ownsRow.lt hO _ e.symm).1; omega)).trans hc.1

/-- How a round of views.History leaves the world. -/
theorem histEnd {s B n₀ : Nat} {w W W' : World} {wv : Array Value} {key : ByteArray} {at_ : Int} {pre : List Fc} {vo va : Value} {old new : List Fc} {m : List (Tq × Int)} (hK : KeepsFrom B W W') (hq : Kq s (s + 6) n₀ W W') (h : HistAt s B w wv key vo va old new m W')
    (ho : oldF key at_ pre = old) (hn : newF key at_ pre = (new, m)) : KeepsFrom B W W' ∧ Kq s (s + 6) n₀ W W' ∧ HistI s B w wv key at_ pre W' := by
  refine ⟨hK, hq, vo, va, ?_⟩
  rw [ho, hn]
  exact h

set_option maxRecDepth 100000 in
set_option maxHeartbeats 2000000 in
theorem history_in (n : Nat) (hn : 3 ≤ n) (al : Option Addr) (cl : Nat) (xs : List Fc) (ac : Option Addr) (cc : Nat) (cs : List Lk) (at_ : Int) (on : Bool) (key : ByteArray) (w : World) (hL : Facts w al xs) (hC : Links w ac cs) (hx : xs.length < 1000000) (hc : cs.length < 1000000) (_ : key.size ≤ maxLen) :
    CallsIn Fence.wide n Tryz.prog 16 #[.slice al xs.length cl, .agg #[.slice ac cs.length cc, .int .u64 at_, .bool on], .string key] w (HistPost (oldF key at_ (seenL xs cs 18446744073709551615)) (newF key at_ (seenL xs cs 18446744073709551615)).1 w) := by
  have h1 : 1 ≤ n := by omega
  have hmm := @run_makeMap Tryz.prog
  have hal : 0 < xs.length → ∀ ad, al = some ad → ad.block < w.heap.size := by
    intro h ad had
    obtain ⟨b, o, ha, hlt, _⟩ := hL.get 0 h
    rw [had] at ha
    injection ha with ha
    rw [ha]
    exact hlt
  have HL := Lib.hid hL
  have HC := Lib.hid hC
  have HAL := Lib.hid hal
  clear hL hC hal
  refine callsIn_of_wp_marks Tryz.func16 rfl trivial ?_ rfl
  simp only [Tryz.ntmps16, List.size_toArray, List.length_cons, List.length_nil, Nat.reduceAdd, Nat.reduceSub, Array.replicate_succ, Array.replicate_zero, List.push_toArray, List.append_toArray, List.nil_append, List.cons_append]
  gi_wp2
  refine ⟨trivial, ?_⟩
  obtain ⟨W1, hW1⟩ : ∃ W1 : World, (((((w.alloc (.cells #[.slice ac cs.length cc, .int .u64 at_, .bool on] 26)).alloc (.cells #[.string key] 9)).alloc (.cells #[.slice none 0 0] 22)).alloc (.cells #[.slice none 0 0] 22)).alloc (.map #[] 0)).alloc (.cells #[.map (some (w.heap.size + 1 + 1 + 1 + 1))] 72) = W1 := ⟨_, rfl⟩
  have hsz : W1.heap.size = w.heap.size + 6 := by rw [← hW1]; simp
  have hB0 : Below w.heap.size w W1 := by
    rw [← hW1]
    exact ((((((Below.refl _ w).alloc (Nat.le_refl _) _).alloc (by simp) _).alloc (by simp; omega) _).alloc (by simp; omega) _).alloc (by simp; omega) _).alloc (by simp; omega) _
  have b0 : W1.heap[w.heap.size]? = some (.cells #[.slice ac cs.length cc, .int .u64 at_, .bool on] 26 (0, 0)) := by
    rw [← hW1]
    exact blk_alloc (blk_alloc (blk_alloc (blk_alloc (blk_alloc (blk_new_at rfl _)))))
  have b1 : W1.heap[w.heap.size + 1]? = some (.cells #[.string key] 9 (0, 0)) := by
    rw [← hW1]
    exact blk_alloc (blk_alloc (blk_alloc (blk_alloc (blk_new_at (by simp) _))))
  have b2 : W1.heap[w.heap.size + 2]? = some (.cells #[.slice none 0 0] 22 (0, 0)) := by
    rw [← hW1]
    exact blk_alloc (blk_alloc (blk_alloc (blk_new_at (by simp) _)))
  have b3 : W1.heap[w.heap.size + 3]? = some (.cells #[.slice none 0 0] 22 (0, 0)) := by
    rw [← hW1]
    exact blk_alloc (blk_alloc (blk_new_at (by simp) _))
  have b4 : MapE W1 (w.heap.size + 4) [] := by
    have h := MapIs.made (P := Tryz.prog) (k := 71) (encK := eE) (encV := eI) ((((w.alloc (.cells #[.slice ac cs.length cc, .int .u64 at_, .bool on] 26)).alloc (.cells #[.string key] 9)).alloc (.cells #[.slice none 0 0] 22)).alloc (.cells #[.slice none 0 0] 22))
    simp only [World.size_alloc] at h
    refine h.same ?_
    rw [← hW1]
    rw [Below.heap_alloc _ _ _ (by simp)]
  have b5 : W1.heap[w.heap.size + 5]? = some (.cells #[.map (some (w.heap.size + 4))] 72 (0, 0)) := by
    rw [← hW1]
    exact blk_new_at (by simp) _
  rw [hW1]
  clear hW1
  refine (callsIn_wide.2 (seen2_any al xs.length cl ac cc cs 18446744073709551615 W1 (HC.out.ext hB0) hc)).mono ?_
  rintro e w2 ⟨bl, bu, ba, bm, rfl, hout, hB1, hV⟩
  have hs2 : w.heap.size + 6 ≤ w2.heap.size := by have := hB1.size; omega
  obtain ⟨B, hB⟩ : ∃ B, B = w2.heap.size := ⟨_, rfl⟩
  have k2 : ∀ b, b < w.heap.size + 6 → w2.heap[b]? = W1.heap[b]? := fun b hb => hB1.block b (by omega)
  have hA0 : HistAt w.heap.size B w #[.slice ac cs.length cc, .int .u64 at_, .bool on] key (.slice none 0 0) (.slice none 0 0) [] [] [] w2 :=
    ⟨(k2 _ (by omega)).trans b0, (k2 _ (by omega)).trans b1, (k2 _ (by omega)).trans b2, (k2 _ (by omega)).trans b3, (k2 _ (by omega)).trans b5, b4.same (k2 _ (by omega)), World.ownsRow_nil _ _ _ _, World.ownsRow_nil _ _ _ _, fun k e => by (simp [Value.ownBlock] at e), by omega, (hB0.trans (hB1.mono (by omega))).mono (by omega), by omega⟩
  have hsB : w.heap.size + 5 < B := by omega
  have HA0 := Lib.hid hA0
  have HV := Lib.hid hV
  have HBW := Lib.hid (hB0.trans (hB1.mono (by omega)))
  have HOUT := Lib.hid (show bl ≥ w.heap.size + 6 ∧ bu ≥ w.heap.size + 6 ∧ ba ≥ w.heap.size + 6 ∧ bm ≥ w.heap.size + 6 by omega)
  clear hA0 k2 b0 b1 b2 b3 b4 b5 hV hB0 hB1 hsz
  gi_wp2
  refine wpIn_rangeFunc_ownH rfl h1 (gf := 41) (lb := #[.pointer (some ⟨bl, 0, none⟩), .pointer (some ⟨bu, 0, none⟩), .pointer (some ⟨ba, 0, none⟩)]) rfl trivial (enters_of Tryz.func41 (by kernel_rfl) rfl)
    (seen1q_stops (n - 1) (by omega) bl bu ba bm w.heap.size (w.heap.size + 6) al cl xs hx _ 18446744073709551615 w2 HV.out HOUT.out.1 HOUT.out.2.1 HOUT.out.2.2.1 HOUT.out.2.2.2 (HL.out.ext HBW.out) (fun h ad e => by have := HAL.out h ad e; omega))
    (fun h k => h.trans k) (kq_b (Nat.le_refl _)) (Below.refl _ _) (fun _ => rfl)
    (HistI w.heap.size w2.heap.size w #[.slice ac cs.length cc, .int .u64 at_, .bool on] key at_)
    (fun _ _ _ => False)
    (histI_own _ _ _ _ _ _ (by omega))
    (fun _ _ _ _ _ hs _ _ => hs)
    ⟨_, _, by rw [← hB]; exact HA0.out⟩
    (fun x a' W => ∃ Bx, B ≤ Bx ∧ W.heap[Bx]? = some (.cells (fc x).toArray 50 (0, 0)) ∧ a' = { tmps := #[.slice al xs.length cl, .agg #[.slice ac cs.length cc, .int .u64 at_, .bool on], .string key, undef, .pointer (some ⟨w.heap.size, 0, none⟩), .pointer (some ⟨w.heap.size + 1, 0, none⟩), .slice none 0 0, .pointer (some ⟨w.heap.size + 1 + 1, 0, none⟩), .pointer (some ⟨w.heap.size + 1 + 1 + 1, 0, none⟩), .pointer (some ⟨w.heap.size + 1 + 1 + 1 + 1 + 1, 0, none⟩), .pointer (some ⟨Bx, 0, none⟩), undef, undef, undef, .map (some (w.heap.size + 1 + 1 + 1 + 1)), .slice al xs.length cl, .pointer (some ⟨w.heap.size, 0, none⟩), .slice ac cs.length cc, .func (.func 41) #[] #[.pointer (some ⟨bl, 0, none⟩), .pointer (some ⟨bu, 0, none⟩), .pointer (some ⟨ba, 0, none⟩)], fv x, undef, undef, undef, undef, undef, undef, undef, undef, undef, undef, undef, undef, undef, undef, undef, undef, undef, undef, undef, undef, undef, undef, undef, undef, undef, undef, undef, undef, undef, undef, undef, undef, undef, undef, undef, undef, undef, undef, undef, undef, undef, undef, undef, undef, undef, undef, undef, undef, undef, undef, undef, undef, undef, undef, undef, undef, undef, undef, undef, undef, undef, undef, undef, undef], defers := [] })
    (fun x a' _ X Y row hs' hg hr => by obtain ⟨Bx, h1, h2, h3⟩ := hs'; exact ⟨Bx, h1, blk_ownFrom w2.heap.size Bx (fun (_ : Unit) => (fc x).toArray) 50 () X Y row h2 hg hr, h3⟩)
    ?assign ?body ?done ?stop
  case assign =>
    rintro l pre x W K ⟨vo, va, hI⟩ hK
    have hsW := hI.sz
    gi_wp2
    exact hK _ _ ((KeepsOthers.alloc _ _).from _) ((Kq.refl _ _ _ W).alloc (by omega) _) ⟨vo, va, hI.alloc (by omega) _⟩ ⟨W.heap.size, by omega, blk_new_at rfl _, rfl⟩
  case body =>
    rintro l pre x a' W hl ⟨r, hr⟩ ⟨vo, va, hI⟩ ⟨Bx, hBx, bX, rfl⟩ hlt
    have hsW := hI.sz
    have hBxW := lt_of_blk bX
    have c0 : W.cell? ⟨w.heap.size, 1, none⟩ = some (.int .u64 at_) := cell_of_blk hI.b0 1
    have c1 : W.cell? ⟨w.heap.size + 1, 0, none⟩ = some (.string key) := cell_of_blk hI.b1 0
    have c2 : W.cell? ⟨w.heap.size + 1 + 1, 0, none⟩ = some vo := cell_of_blk hI.b2 0
    have c3 : W.cell? ⟨w.heap.size + 1 + 1 + 1, 0, none⟩ = some va := cell_of_blk hI.b3 0
    have c5 : W.cell? ⟨w.heap.size + 1 + 1 + 1 + 1 + 1, 0, none⟩ = some (.map (some (w.heap.size + 1 + 1 + 1 + 1))) := cell_of_blk hI.b5 0
    have x0 := cell_of_blk bX 0
    have x1 := cell_of_blk bX 1
    have x2 := cell_of_blk bX 2
    have x3 := cell_of_blk bX 3
    have x4 := cell_of_blk bX 4
    have x5 := cell_of_blk bX 5
    simp [fc] at x0 x1 x2 x3 x4 x5
    have hne : ¬ W.heap.size + 1 = Bx := by omega
    have hsl : w.heap.size + 6 ≤ W.heap.size := by omega
    have l0 : w.heap.size < W.heap.size := by omega
    have l1 : w.heap.size + 1 < W.heap.size := by omega
    have l2 : w.heap.size + 1 + 1 < W.heap.size := by omega
    have l3 : w.heap.size + 1 + 1 + 1 < W.heap.size := by omega
    have l5 : w.heap.size + 1 + 1 + 1 + 1 + 1 < W.heap.size := by omega
    obtain ⟨X1, hX1⟩ : ∃ X1 : World, X1 = W.alloc (.cells #[.int .u32 x.valid, .int .u64 x.seq, .int .u8 0, .string ⟨#[]⟩] 71) := ⟨_, rfl⟩
    have hI1 : HistAt w.heap.size w2.heap.size w #[.slice ac cs.length cc, .int .u64 at_, .bool on] key vo va (oldF key at_ pre) (newF key at_ pre).1 (newF key at_ pre).2 X1 := by rw [hX1]; exact hI.alloc (by omega) _
    have HI1 := Lib.hid hI1
    have HBX := Lib.hid bX
    have hkq1 : Kq w.heap.size (w.heap.size + 6) w2.heap.size W X1 := by rw [hX1]; exact (Kq.refl _ _ _ W).alloc (by omega) _
    have hkf1 : KeepsFrom w2.heap.size W X1 := by rw [hX1]; exact (KeepsOthers.alloc _ _).from _
    have HKQ1 := Lib.hid hkq1
    have HKF1 := Lib.hid hkf1
    have hos := oldF_snoc key at_ pre x
    have hns := newF_snoc key at_ pre x
    have HOS := Lib.hid hos
    have HNS := Lib.hid hns
    clear hI hI1 bX hr hos hns hkq1 hkf1
    by_cases hke : x.key.toList = key.toList
    · have hkb : (x.key.toList == key.toList) = true := by simp [hke]
      by_cases hsq : x.seq ≤ at_
      · have hos2 : oldF key at_ (pre ++ [x]) = oldF key at_ pre ++ [x] := by rw [HOS.out, if_pos ⟨hke, hsq⟩]
        have hns2 : newF key at_ (pre ++ [x]) = ((newF key at_ pre).1, (newF key at_ pre).2) := by rw [HNS.out, newStep, if_neg (fun h => by have := h.2.1; omega)]
        have HOS2 := Lib.hid hos2
        have HNS2 := Lib.hid hns2
        obtain ⟨v', w3, hrun, hb3, hA3, hf3, hq3⟩ := histOld HI1.out (by omega) x (by have : (oldF key at_ pre).length ≤ pre.length := List.length_filter_le _ _; omega)
        obtain ⟨av, cv, rfl, _, _⟩ := els_of_owns fc_len hA3.oo
        generalize (oldF key at_ pre ++ [x]).length = q at *
        have hrun' : (Builtin.append_ #[22, 22] 22 #[vo, .slice (some ⟨W.heap.size + 1, 0, none⟩) 1 1]).run Tryz.prog (X1.alloc (.cells (fc x).toArray 50)) = .ok (.slice av q cv) w3 := by rw [hX1] at hrun ⊢; simpa using hrun
        rw [hX1] at hrun'
        have HRUN := Lib.hid hrun'
        have HA3 := Lib.hid hA3
        have HF3 := Lib.hid hf3
        have HQ3 := Lib.hid hq3
        have d2 : w3.cell? ⟨w.heap.size + 1 + 1, 0, none⟩ = some vo := cell_of_blk hb3 0
        have e2 : w3.frozen? ⟨w.heap.size + 1 + 1, 0, none⟩ = false := by simp [World.frozen?, show w3.heap[w.heap.size + 1 + 1]? = _ from hb3]
        have g2 : w.heap.size + 1 + 1 < w3.heap.size := lt_of_blk hb3
        simp only [fc] at HRUN
        clear hos2 hns2 HOS HNS hrun hrun' hA3 hf3 hq3 hb3 hX1
        gi_wp2_with (gi_at_builtin; refine wpListIn_append_run _ rfl _ _ _ _ rfl _ _ rfl rfl _ _ (HRUN.out) ?_)
        exact histEnd (HKF1.out.trans HF3.out) (HKQ1.out.trans HQ3.out) HA3.out HOS2.out HNS2.out
      · have hos2 : oldF key at_ (pre ++ [x]) = oldF key at_ pre := by rw [HOS.out, if_neg (fun h => hsq h.2)]
        have HOS2 := Lib.hid hos2
        obtain ⟨kl, hkl⟩ := key43 x.valid x.seq x.wv x.ws
        have hlook := (HI1.out.mp.look law43 eE_inj Tryz.underlying72 (zeroI _) (a := (x.valid, x.seq)) hkl).1
        cases hg : getL (newF key at_ pre).2 (x.valid, x.seq) with
        | some v =>
          have hv : v = 1 := newF_one key at_ pre _ _ hg
          subst hv
          rw [hg] at hlook
          simp only at hlook
          have hns2 : newF key at_ (pre ++ [x]) = ((newF key at_ pre).1, (newF key at_ pre).2) := by rw [HNS.out, newStep, if_neg (fun h => by have h3 := h.2.2; rw [hg] at h3; cases h3)]
          have HNS2 := Lib.hid hns2
          have hlook' : (Instr.lookup 72 (.map (some (w.heap.size + 1 + 1 + 1 + 1))) (.agg #[.int .u32 x.valid, .int .u64 x.seq, .int .u8 0, .string ⟨#[]⟩]) false).run Tryz.prog (W.alloc (.cells #[.int .u32 x.valid, .int .u64 x.seq, .int .u8 0, .string ⟨#[]⟩] 71)) = .ok (.int .i64 1) (W.alloc (.cells #[.int .u32 x.valid, .int .u64 x.seq, .int .u8 0, .string ⟨#[]⟩] 71)) := by rw [hX1] at hlook; exact hlook
          clear hos2 hns2 HOS HNS hlook hg
          gi_wp2
          rw [← hX1]
          exact histEnd HKF1.out HKQ1.out HI1.out HOS2.out HNS2.out
        | none =>
          rw [hg] at hlook
          simp only at hlook
          have hns2 : newF key at_ (pre ++ [x]) = ((newF key at_ pre).1 ++ [x], putL (newF key at_ pre).2 (x.valid, x.seq) 1) := by rw [HNS.out, newStep, if_pos ⟨hke, by omega, hg⟩]
          have HNS2 := Lib.hid hns2
          have hml := (newF_len key at_ pre).2
          have hI1d := HI1.out.drew
          have hmx : Tryz.prog.follows .mixedOrders = true := by kernel_rfl
          have hlookd := (hI1d.mp.look law43 eE_inj Tryz.underlying72 (zeroI _) (a := (x.valid, x.seq)) hkl).1
          rw [hg] at hlookd
          simp only at hlookd
          obtain ⟨st, Y1, hme, hMe, hge, hse, hst⟩ := hI1d.mp.fresh law43 eE_inj Tryz.underlying72 (0 : Int) zeroI (by unfold maxLen; omega) (a := (x.valid, x.seq)) hkl hg
          obtain ⟨Y2, hes, hM2, hg2, hs2'⟩ := hst 1
          have hlook2 := (hMe.look law43 eE_inj Tryz.underlying72 (zeroI _) (a := (x.valid, x.seq)) hkl).1
          rw [getL_put_same] at hlook2
          simp only at hlook2
          have hI2 := hI1d.putMap (by omega) hg2 hM2
          obtain ⟨v', w3, hrun, hb3, hA3, hf3, hq3⟩ := histNew hI2 (by omega) x (by have := (newF_len key at_ pre).1; omega)
          obtain ⟨av, cv, rfl, _, _⟩ := els_of_owns fc_len hA3.oa
          generalize ((newF key at_ pre).1 ++ [x]).length = q at *
          have hY2 : Y2.heap.size = W.heap.size + 1 := by rw [hs2', hX1]; simp [World.drew]
          have hY1 : Y1.heap.size = W.heap.size + 1 := by rw [hse, hX1]; simp [World.drew]
          have bX2 : Y2.heap[Bx]? = some (.cells (fc x).toArray 50 (0, 0)) := by
            refine (hg2.block _ (by rw [hX1]; simp [World.drew]; omega) (fun e => by injection e with e; omega)).trans ?_
            rw [hX1]
            exact blk_alloc HBX.out
          have y0 := cell_of_blk bX2 0
          have y1 := cell_of_blk bX2 1
          have y2 := cell_of_blk bX2 2
          have y3 := cell_of_blk bX2 3
          have y4 := cell_of_blk bX2 4
          have y5 := cell_of_blk bX2 5
          simp [fc] at y0 y1 y2 y3 y4 y5
          have z3 : Y2.cell? ⟨w.heap.size + 1 + 1 + 1, 0, none⟩ = some va := cell_of_blk hI2.b3 0
          have hlookA : (Instr.lookup 72 (.map (some (w.heap.size + 1 + 1 + 1 + 1))) (.agg #[.int .u32 x.valid, .int .u64 x.seq, .int .u8 0, .string ⟨#[]⟩]) false).run Tryz.prog (W.alloc (.cells #[.int .u32 x.valid, .int .u64 x.seq, .int .u8 0, .string ⟨#[]⟩] 71)) = .ok (.int .i64 0) (W.alloc (.cells #[.int .u32 x.valid, .int .u64 x.seq, .int .u8 0, .string ⟨#[]⟩] 71)) := by rw [hX1] at hlook; exact hlook
          have hlookB : (Instr.lookup 72 (.map (some (w.heap.size + 1 + 1 + 1 + 1))) (.agg #[.int .u32 x.valid, .int .u64 x.seq, .int .u8 0, .string ⟨#[]⟩]) false).run Tryz.prog Y1 = .ok (.int .i64 0) Y1 := hlook2
          have hlookC : (Instr.lookup 72 (.map (some (w.heap.size + 1 + 1 + 1 + 1))) (.agg #[.int .u32 x.valid, .int .u64 x.seq, .int .u8 0, .string ⟨#[]⟩]) false).run Tryz.prog (World.drew (W.alloc (.cells #[.int .u32 x.valid, .int .u64 x.seq, .int .u8 0, .string ⟨#[]⟩] 71))) = .ok (.int .i64 0) (World.drew (W.alloc (.cells #[.int .u32 x.valid, .int .u64 x.seq, .int .u8 0, .string ⟨#[]⟩] 71))) := by rw [hX1] at hlookd; exact hlookd
          have hmeA : (Instr.mapEntry 72 (.map (some (w.heap.size + 1 + 1 + 1 + 1))) (.agg #[.int .u32 x.valid, .int .u64 x.seq, .int .u8 0, .string ⟨#[]⟩])).run Tryz.prog (World.drew (W.alloc (.cells #[.int .u32 x.valid, .int .u64 x.seq, .int .u8 0, .string ⟨#[]⟩] 71))) = .ok (.tuple #[.int .i64 0, .int .i64 st]) Y1 := by rw [hX1] at hme; exact hme
          have hesA : (Instr.entryStore 72 (.map (some (w.heap.size + 1 + 1 + 1 + 1))) (.int .i64 st) (.int .i64 1)).run Tryz.prog Y1 = .ok () Y2 := hes
          have hrun' : (Builtin.append_ #[22, 22] 22 #[va, .slice (some ⟨W.heap.size + 1, 0, none⟩) 1 1]).run Tryz.prog (Y2.alloc (.cells (fc x).toArray 50)) = .ok (.slice av q cv) w3 := by rw [hY2] at hrun; exact hrun
          have d3 : w3.cell? ⟨w.heap.size + 1 + 1 + 1, 0, none⟩ = some va := cell_of_blk hb3 0
          have e3 : w3.frozen? ⟨w.heap.size + 1 + 1 + 1, 0, none⟩ = false := by simp [World.frozen?, show w3.heap[w.heap.size + 1 + 1 + 1]? = _ from hb3]
          have g3 : w.heap.size + 1 + 1 + 1 < w3.heap.size := lt_of_blk hb3
          have HRUN := Lib.hid hrun'
          have HA3 := Lib.hid hA3
          have HF3 := Lib.hid ((((KeepsOthers.drew X1).from w2.heap.size).trans (KeepsFrom.of_grownBy hg2 (fun j e => by cases e; omega))).trans hf3)
          have HQ3 := Lib.hid (((show Kq w.heap.size (w.heap.size + 6) w2.heap.size X1 X1.drew from ⟨Nat.le_refl _, fun _ _ => rfl⟩).grown hg2 (by rw [hX1]; simp [World.drew]; omega) (fun k e i => by cases e; have := i.2; omega)).trans hq3)
          have lY : Bx < Y2.heap.size := by omega
          have lY3 : w.heap.size + 1 + 1 + 1 < Y2.heap.size := by omega
          simp only [fc] at HRUN
          clear hlookd hI1d hos2 hns2 HOS HNS hlook hlook2 hg hme hMe hge hse hst hes hM2 hg2 hs2' hI2 hrun hrun' hb3 hA3 hf3 hq3 bX2 hX1 hml
          have hw1 : IntKind.i64.wrap 1 = 1 := by decide
          gi_wp2
          gi_region_with_o (fail)
          all_goals gi_wp2_with (gi_at_builtin; refine wpListIn_append_run _ rfl _ _ _ _ rfl _ _ rfl rfl _ _ (HRUN.out) ?_)
          all_goals exact histEnd (HKF1.out.trans HF3.out) (HKQ1.out.trans HQ3.out) HA3.out HOS2.out HNS2.out
    · have hkb : (x.key.toList == key.toList) = false := by simp [hke]
      have hos2 : oldF key at_ (pre ++ [x]) = oldF key at_ pre := by rw [HOS.out, if_neg (fun h => hke h.1)]
      have hns2 : newF key at_ (pre ++ [x]) = ((newF key at_ pre).1, (newF key at_ pre).2) := by rw [HNS.out, newStep, if_neg (fun h => hke h.1)]
      have HOS2 := Lib.hid hos2
      have HNS2 := Lib.hid hns2
      clear hos2 hns2 HOS HNS
      gi_wp2
      rw [← hX1]
      exact histEnd HKF1.out HKQ1.out HI1.out HOS2.out HNS2.out
  case done =>
    rintro D ys W hD hys ⟨vo, va, hI⟩ hKD
    have hmx : Tryz.prog.follows .mixedOrders = true := by kernel_rfl
    have hyl : ys.length ≤ xs.length := by rw [hys]; exact List.length_filter_le _ _
    have hol : (oldF key at_ ys).length ≤ ys.length := List.length_filter_le _ _
    have hsum := hist_len key at_ ys
    obtain ⟨ao, co, rfl, hle, hEo⟩ := els_of_owns fc_len hI.oo
    have HI := Lib.hid hI
    have HEO := Lib.hid hEo
    have c2 : W.cell? ⟨w.heap.size + 1 + 1, 0, none⟩ = some (.slice ao (oldF key at_ ys).length co) := cell_of_blk hI.b2 0
    have c3 : W.cell? ⟨w.heap.size + 1 + 1 + 1, 0, none⟩ = some va := cell_of_blk hI.b3 0
    have l2 : w.heap.size + 1 + 1 < W.heap.size := lt_of_blk hI.b2
    have l3 : w.heap.size + 1 + 1 + 1 < W.heap.size := lt_of_blk hI.b3
    have HYS := Lib.hid hys
    clear hI hEo hys
    have hOA := HI.out.oa
    generalize hzs : oldF key at_ ys = zs at *
    generalize hnw : (newF key at_ ys).1 = nw at *
    have HZS := Lib.hid hzs
    have HNW := Lib.hid hnw
    clear hzs hnw
    have HOA := Lib.hid hOA
    clear hOA
    have hzl : zs.length < 1000000 := by omega
    gi_wp2
    refine wpIn_region_any hmx ?_
    change wpAnyIn _ _ _ _ _ _ _ _ _ (World.drew _)
    refine wpAnyIn_ready (rs := [0, 1]) (by kernel_rfl) (by simp) ?_
    refine AllReadyIn.cons rfl (fun K hK => ?_) (AllReadyIn.cons rfl (fun K hK => ?_) AllReadyIn.nil)
    go_simp
    refine hK _ _ ?_
    clear hK K
    refine wpAnyIn_ready (rs := [1]) (by kernel_rfl) (by simp) ?_
    refine AllReadyIn.cons rfl (fun K hK => ?_) AllReadyIn.nil
    go_simp
    refine hK _ _ ?_
    clear hK K
    refine wpAnyIn_ready (rs := [2]) (by kernel_rfl) (by simp) ?_
    refine AllReadyIn.cons rfl (fun K hK => ?_) AllReadyIn.nil
    go_simp
    focus (gi_wp2_with (refine ⟨trivial, ?_⟩; gi_at_call 32; refine (callsIn_wide.2 (values_any ao zs.length co _)).mono ?_; rintro e w3 ⟨bv, rfl, hB3, hb3⟩; clear c3; have c3 : w3.cell? ⟨w.heap.size + 1 + 1 + 1, 0, none⟩ = some va := (hB3.cell (p := ⟨w.heap.size + 1 + 1 + 1, 0, none⟩) l3).trans (cell_of_blk HI.out.b3 0); have l3 : w.heap.size + 1 + 1 + 1 < w3.heap.size := Nat.lt_of_lt_of_le l3 hB3.size))
    refine wpAnyIn_ready (rs := [3]) (by kernel_rfl) (by simp) ?_
    refine AllReadyIn.cons rfl (fun K hK => ?_) AllReadyIn.nil
    go_simp
    focus (gi_wp2_with (refine ⟨trivial, ?_⟩; gi_at_call 23; refine (callsIn_wide.2 (last_any 45 _ zs (fun pre => pre <+: zs) zs.length w3.heap.size hzl w3 (Nat.le_refl _) (enters_of Tryz.func45 (by kernel_rfl) rfl) (values1_stops 2 (by omega) bv ao co zs hzl w3 hb3 (HEO.out.ext (((Below.refl _ W).drew).trans hB3))))).mono ?_; rintro e w4 ⟨bm2, rfl, hbm2, hB4, hM4⟩; have c3 : w4.cell? ⟨w.heap.size + 1 + 1 + 1, 0, none⟩ = some va := (hB4.cell (p := ⟨w.heap.size + 1 + 1 + 1, 0, none⟩) l3).trans c3; have l3 : w.heap.size + 1 + 1 + 1 < w4.heap.size := Nat.lt_of_lt_of_le l3 hB4.size))
    refine wpAnyIn_ready (rs := [4]) (by kernel_rfl) (by simp) ?_
    refine AllReadyIn.cons rfl (fun K hK => ?_) AllReadyIn.nil
    go_simp
    focus (gi_wp2_with (refine ⟨trivial, ?_⟩; gi_at_call 22; refine (callsIn_wide.2 (sortedV_any bm2 _ w4 hM4 (by have := lastM_len zs; omega))).mono ?_; rintro e w5 ⟨az, ss, rfl, hP5, hS5, hF5, hN5, hB5⟩; have hO5 : OwnF w2.heap.size w5 va nw := (((HOA.out.below (((Below.refl _ W).drew).trans hB3)).below hB4).below hB5); have hc5 : w5.heap[w.heap.size + 3]? = some (.cells #[va] 22 (0, 0)) ∧ w.heap.size + 3 < w2.heap.size := ⟨(hB5.block _ (by have := hB3.size; have := hB4.size; have h9 : W.drew.heap.size = W.heap.size := rfl; omega)).trans ((hB4.block _ (by have := hB3.size; have h9 : W.drew.heap.size = W.heap.size := rfl; omega)).trans ((hB3.block _ (by have h9 : W.drew.heap.size = W.heap.size := rfl; omega)).trans HI.out.b3)), by omega⟩; obtain ⟨v6, w6, hrun6, hO6, hg6⟩ := run_append_facts w5 w2.heap.size va nw az ss.length ss hO5 hF5 (by omega) (by have h7 := hP5.length_eq; rw [List.length_map] at h7; have := lastM_len zs; omega) (fun h => by rw [hN5 h]; rfl) (by have h8 : W.drew.heap.size ≤ w3.heap.size := hB3.size; have h9 : W.drew.heap.size = W.heap.size := rfl; have := hB4.size; have := hB5.size; have := HI.out.sz; omega) 22; obtain ⟨a6, c6, rfl, hle6, hE6⟩ := els_of_owns fc_len hO6; obtain ⟨q, hq⟩ : ∃ q, q = (nw ++ ss).length := ⟨_, rfl⟩; rw [← hq] at hrun6 hO6 hle6; clear hE6; have H6 := Lib.hid hO6; have HQ := Lib.hid hq; clear hq; have hD5 : w5.heap[D]? = some (.deferred (some [])) := (hB5.block _ (by have := lt_of_blk hKD; have := hB3.size; have := hB4.size; have h9 : W.drew.heap.size = W.heap.size := rfl; omega)).trans ((hB4.block _ (by have := lt_of_blk hKD; have := hB3.size; have h9 : W.drew.heap.size = W.heap.size := rfl; omega)).trans ((hB3.block _ (lt_of_blk hKD)).trans hKD)); have HD6 := Lib.hid (histDef6 hO5 hD5 rfl hg6); have HB6 := Lib.hid ((((HI.out.bl.drew.trans (hB3.mono HI.out.bl.size)).trans (hB4.mono (Nat.le_trans HI.out.bl.size hB3.size))).trans (hB5.mono (Nat.le_trans (Nat.le_trans HI.out.bl.size hB3.size) hB4.size))).grown hg6 (Nat.le_trans (Nat.le_trans (Nat.le_trans HI.out.bl.size hB3.size) hB4.size) hB5.size) (fun k e => by have := (World.ownsRow.lt hO5 k e).1; omega)); have H63 := Lib.hid (histKept6 hO5 hc5 hg6); have HB63 := Lib.hid (histBlk6 hO5 hc5 hg6); have c3 : w5.cell? ⟨w.heap.size + 1 + 1 + 1, 0, none⟩ = some va := (hB5.cell (p := ⟨w.heap.size + 1 + 1 + 1, 0, none⟩) l3).trans c3; have l3 : w.heap.size + 1 + 1 + 1 < w5.heap.size := Nat.lt_of_lt_of_le l3 hB5.size))
    refine wpAnyIn_ready (rs := [5]) (by kernel_rfl) (by simp) ?_
    refine AllReadyIn.cons rfl (fun K hK => ?_) AllReadyIn.nil
    rw [if_pos (show Region.wanted _ _ = true from rfl)]
    refine wpIn_append_run _ _ _ _ rfl _ _ rfl rfl _ _ hrun6 ?_
    refine hK _ _ ?_
    clear hK K
    refine wpAnyIn_ready (rs := [6]) (by kernel_rfl) (by simp) ?_
    refine AllReadyIn.cons rfl (fun K hK => ?_) AllReadyIn.nil
    have d3 : w6.cell? ⟨w.heap.size + 1 + 1 + 1, 0, none⟩ = some va := H63.out.1
    have e3 : w6.frozen? ⟨w.heap.size + 1 + 1 + 1, 0, none⟩ = false := H63.out.2.1
    have g3 : w.heap.size + 1 + 1 + 1 < w6.heap.size := H63.out.2.2
    go_simp
    refine hK _ _ ?_
    clear hK K
    refine wpAnyIn_done (by kernel_rfl) ?_ _
    rotate_left
    go_simp
    refine hK _ _ ?_
    clear hK K
    refine wpAnyIn_ready (rs := [0, 2]) (by kernel_rfl) (by simp) ?_
    refine AllReadyIn.cons rfl (fun K hK => ?_) (AllReadyIn.cons rfl (fun K hK => ?_) AllReadyIn.nil)
    go_simp
    refine hK _ _ ?_
    clear hK K
    refine wpAnyIn_ready (rs := [2]) (by kernel_rfl) (by simp) ?_
    refine AllReadyIn.cons rfl (fun K hK => ?_) AllReadyIn.nil
    go_simp
    focus (gi_wp2_with (refine ⟨trivial, ?_⟩; gi_at_call 32; refine (callsIn_wide.2 (values_any ao zs.length co _)).mono ?_; rintro e w3 ⟨bv, rfl, hB3, hb3⟩; clear c3; have c3 : w3.cell? ⟨w.heap.size + 1 + 1 + 1, 0, none⟩ = some va := (hB3.cell (p := ⟨w.heap.size + 1 + 1 + 1, 0, none⟩) l3).trans (cell_of_blk HI.out.b3 0); have l3 : w.heap.size + 1 + 1 + 1 < w3.heap.size := Nat.lt_of_lt_of_le l3 hB3.size))
    refine wpAnyIn_ready (rs := [3]) (by kernel_rfl) (by simp) ?_
    refine AllReadyIn.cons rfl (fun K hK => ?_) AllReadyIn.nil
    go_simp
    focus (gi_wp2_with (refine ⟨trivial, ?_⟩; gi_at_call 23; refine (callsIn_wide.2 (last_any 45 _ zs (fun pre => pre <+: zs) zs.length w3.heap.size hzl w3 (Nat.le_refl _) (enters_of Tryz.func45 (by kernel_rfl) rfl) (values1_stops 2 (by omega) bv ao co zs hzl w3 hb3 (HEO.out.ext (((Below.refl _ W).drew).trans hB3))))).mono ?_; rintro e w4 ⟨bm2, rfl, hbm2, hB4, hM4⟩; have c3 : w4.cell? ⟨w.heap.size + 1 + 1 + 1, 0, none⟩ = some va := (hB4.cell (p := ⟨w.heap.size + 1 + 1 + 1, 0, none⟩) l3).trans c3; have l3 : w.heap.size + 1 + 1 + 1 < w4.heap.size := Nat.lt_of_lt_of_le l3 hB4.size))
    refine wpAnyIn_ready (rs := [4]) (by kernel_rfl) (by simp) ?_
    refine AllReadyIn.cons rfl (fun K hK => ?_) AllReadyIn.nil
    go_simp
    focus (gi_wp2_with (refine ⟨trivial, ?_⟩; gi_at_call 22; refine (callsIn_wide.2 (sortedV_any bm2 _ w4 hM4 (by have := lastM_len zs; omega))).mono ?_; rintro e w5 ⟨az, ss, rfl, hP5, hS5, hF5, hN5, hB5⟩; have hO5 : OwnF w2.heap.size w5 va nw := (((HOA.out.below (((Below.refl _ W).drew).trans hB3)).below hB4).below hB5); have hc5 : w5.heap[w.heap.size + 3]? = some (.cells #[va] 22 (0, 0)) ∧ w.heap.size + 3 < w2.heap.size := ⟨(hB5.block _ (by have := hB3.size; have := hB4.size; have h9 : W.drew.heap.size = W.heap.size := rfl; omega)).trans ((hB4.block _ (by have := hB3.size; have h9 : W.drew.heap.size = W.heap.size := rfl; omega)).trans ((hB3.block _ (by have h9 : W.drew.heap.size = W.heap.size := rfl; omega)).trans HI.out.b3)), by omega⟩; obtain ⟨v6, w6, hrun6, hO6, hg6⟩ := run_append_facts w5 w2.heap.size va nw az ss.length ss hO5 hF5 (by omega) (by have h7 := hP5.length_eq; rw [List.length_map] at h7; have := lastM_len zs; omega) (fun h => by rw [hN5 h]; rfl) (by have h8 : W.drew.heap.size ≤ w3.heap.size := hB3.size; have h9 : W.drew.heap.size = W.heap.size := rfl; have := hB4.size; have := hB5.size; have := HI.out.sz; omega) 22; obtain ⟨a6, c6, rfl, hle6, hE6⟩ := els_of_owns fc_len hO6; obtain ⟨q, hq⟩ : ∃ q, q = (nw ++ ss).length := ⟨_, rfl⟩; rw [← hq] at hrun6 hO6 hle6; clear hE6; have H6 := Lib.hid hO6; have HQ := Lib.hid hq; clear hq; have hD5 : w5.heap[D]? = some (.deferred (some [])) := (hB5.block _ (by have := lt_of_blk hKD; have := hB3.size; have := hB4.size; have h9 : W.drew.heap.size = W.heap.size := rfl; omega)).trans ((hB4.block _ (by have := lt_of_blk hKD; have := hB3.size; have h9 : W.drew.heap.size = W.heap.size := rfl; omega)).trans ((hB3.block _ (lt_of_blk hKD)).trans hKD)); have HD6 := Lib.hid (histDef6 hO5 hD5 rfl hg6); have HB6 := Lib.hid ((((HI.out.bl.drew.trans (hB3.mono HI.out.bl.size)).trans (hB4.mono (Nat.le_trans HI.out.bl.size hB3.size))).trans (hB5.mono (Nat.le_trans (Nat.le_trans HI.out.bl.size hB3.size) hB4.size))).grown hg6 (Nat.le_trans (Nat.le_trans (Nat.le_trans HI.out.bl.size hB3.size) hB4.size) hB5.size) (fun k e => by have := (World.ownsRow.lt hO5 k e).1; omega)); have H63 := Lib.hid (histKept6 hO5 hc5 hg6); have HB63 := Lib.hid (histBlk6 hO5 hc5 hg6); have c3 : w5.cell? ⟨w.heap.size + 1 + 1 + 1, 0, none⟩ = some va := (hB5.cell (p := ⟨w.heap.size + 1 + 1 + 1, 0, none⟩) l3).trans c3; have l3 : w.heap.size + 1 + 1 + 1 < w5.heap.size := Nat.lt_of_lt_of_le l3 hB5.size))
    refine wpAnyIn_ready (rs := [5]) (by kernel_rfl) (by simp) ?_
    refine AllReadyIn.cons rfl (fun K hK => ?_) AllReadyIn.nil
    rw [if_pos (show Region.wanted _ _ = true from rfl)]
    refine wpIn_append_run _ _ _ _ rfl _ _ rfl rfl _ _ hrun6 ?_
    refine hK _ _ ?_
    clear hK K
    refine wpAnyIn_ready (rs := [6]) (by kernel_rfl) (by simp) ?_
    refine AllReadyIn.cons rfl (fun K hK => ?_) AllReadyIn.nil
    have d3 : w6.cell? ⟨w.heap.size + 1 + 1 + 1, 0, none⟩ = some va := H63.out.1
    have e3 : w6.frozen? ⟨w.heap.size + 1 + 1 + 1, 0, none⟩ = false := H63.out.2.1
    have g3 : w.heap.size + 1 + 1 + 1 < w6.heap.size := H63.out.2.2
    go_simp
    refine hK _ _ ?_
    clear hK K
    refine wpAnyIn_done (by kernel_rfl) ?_ _
    rotate_left
    go_simp
    focus (gi_wp2_with (refine ⟨trivial, ?_⟩; gi_at_call 32; refine (callsIn_wide.2 (values_any ao zs.length co _)).mono ?_; rintro e w3 ⟨bv, rfl, hB3, hb3⟩; clear c3; have c3 : w3.cell? ⟨w.heap.size + 1 + 1 + 1, 0, none⟩ = some va := (hB3.cell (p := ⟨w.heap.size + 1 + 1 + 1, 0, none⟩) l3).trans (cell_of_blk HI.out.b3 0); have l3 : w.heap.size + 1 + 1 + 1 < w3.heap.size := Nat.lt_of_lt_of_le l3 hB3.size))
    refine wpAnyIn_ready (rs := [0, 3]) (by kernel_rfl) (by simp) ?_
    refine AllReadyIn.cons rfl (fun K hK => ?_) (AllReadyIn.cons rfl (fun K hK => ?_) AllReadyIn.nil)
    go_simp
    refine hK _ _ ?_
    clear hK K
    refine wpAnyIn_ready (rs := [3]) (by kernel_rfl) (by simp) ?_
    refine AllReadyIn.cons rfl (fun K hK => ?_) AllReadyIn.nil
    go_simp
    focus (gi_wp2_with (refine ⟨trivial, ?_⟩; gi_at_call 23; refine (callsIn_wide.2 (last_any 45 _ zs (fun pre => pre <+: zs) zs.length w3.heap.size hzl w3 (Nat.le_refl _) (enters_of Tryz.func45 (by kernel_rfl) rfl) (values1_stops 2 (by omega) bv ao co zs hzl w3 hb3 (HEO.out.ext (((Below.refl _ W).drew).trans hB3))))).mono ?_; rintro e w4 ⟨bm2, rfl, hbm2, hB4, hM4⟩; have c3 : w4.cell? ⟨w.heap.size + 1 + 1 + 1, 0, none⟩ = some va := (hB4.cell (p := ⟨w.heap.size + 1 + 1 + 1, 0, none⟩) l3).trans c3; have l3 : w.heap.size + 1 + 1 + 1 < w4.heap.size := Nat.lt_of_lt_of_le l3 hB4.size))
    refine wpAnyIn_ready (rs := [4]) (by kernel_rfl) (by simp) ?_
    refine AllReadyIn.cons rfl (fun K hK => ?_) AllReadyIn.nil
    go_simp
    focus (gi_wp2_with (refine ⟨trivial, ?_⟩; gi_at_call 22; refine (callsIn_wide.2 (sortedV_any bm2 _ w4 hM4 (by have := lastM_len zs; omega))).mono ?_; rintro e w5 ⟨az, ss, rfl, hP5, hS5, hF5, hN5, hB5⟩; have hO5 : OwnF w2.heap.size w5 va nw := (((HOA.out.below (((Below.refl _ W).drew).trans hB3)).below hB4).below hB5); have hc5 : w5.heap[w.heap.size + 3]? = some (.cells #[va] 22 (0, 0)) ∧ w.heap.size + 3 < w2.heap.size := ⟨(hB5.block _ (by have := hB3.size; have := hB4.size; have h9 : W.drew.heap.size = W.heap.size := rfl; omega)).trans ((hB4.block _ (by have := hB3.size; have h9 : W.drew.heap.size = W.heap.size := rfl; omega)).trans ((hB3.block _ (by have h9 : W.drew.heap.size = W.heap.size := rfl; omega)).trans HI.out.b3)), by omega⟩; obtain ⟨v6, w6, hrun6, hO6, hg6⟩ := run_append_facts w5 w2.heap.size va nw az ss.length ss hO5 hF5 (by omega) (by have h7 := hP5.length_eq; rw [List.length_map] at h7; have := lastM_len zs; omega) (fun h => by rw [hN5 h]; rfl) (by have h8 : W.drew.heap.size ≤ w3.heap.size := hB3.size; have h9 : W.drew.heap.size = W.heap.size := rfl; have := hB4.size; have := hB5.size; have := HI.out.sz; omega) 22; obtain ⟨a6, c6, rfl, hle6, hE6⟩ := els_of_owns fc_len hO6; obtain ⟨q, hq⟩ : ∃ q, q = (nw ++ ss).length := ⟨_, rfl⟩; rw [← hq] at hrun6 hO6 hle6; clear hE6; have H6 := Lib.hid hO6; have HQ := Lib.hid hq; clear hq; have hD5 : w5.heap[D]? = some (.deferred (some [])) := (hB5.block _ (by have := lt_of_blk hKD; have := hB3.size; have := hB4.size; have h9 : W.drew.heap.size = W.heap.size := rfl; omega)).trans ((hB4.block _ (by have := lt_of_blk hKD; have := hB3.size; have h9 : W.drew.heap.size = W.heap.size := rfl; omega)).trans ((hB3.block _ (lt_of_blk hKD)).trans hKD)); have HD6 := Lib.hid (histDef6 hO5 hD5 rfl hg6); have HB6 := Lib.hid ((((HI.out.bl.drew.trans (hB3.mono HI.out.bl.size)).trans (hB4.mono (Nat.le_trans HI.out.bl.size hB3.size))).trans (hB5.mono (Nat.le_trans (Nat.le_trans HI.out.bl.size hB3.size) hB4.size))).grown hg6 (Nat.le_trans (Nat.le_trans (Nat.le_trans HI.out.bl.size hB3.size) hB4.size) hB5.size) (fun k e => by have := (World.ownsRow.lt hO5 k e).1; omega)); have H63 := Lib.hid (histKept6 hO5 hc5 hg6); have HB63 := Lib.hid (histBlk6 hO5 hc5 hg6); have c3 : w5.cell? ⟨w.heap.size + 1 + 1 + 1, 0, none⟩ = some va := (hB5.cell (p := ⟨w.heap.size + 1 + 1 + 1, 0, none⟩) l3).trans c3; have l3 : w.heap.size + 1 + 1 + 1 < w5.heap.size := Nat.lt_of_lt_of_le l3 hB5.size))
    refine wpAnyIn_ready (rs := [5]) (by kernel_rfl) (by simp) ?_
    refine AllReadyIn.cons rfl (fun K hK => ?_) AllReadyIn.nil
    rw [if_pos (show Region.wanted _ _ = true from rfl)]
    refine wpIn_append_run _ _ _ _ rfl _ _ rfl rfl _ _ hrun6 ?_
    refine hK _ _ ?_
    clear hK K
    refine wpAnyIn_ready (rs := [6]) (by kernel_rfl) (by simp) ?_
    refine AllReadyIn.cons rfl (fun K hK => ?_) AllReadyIn.nil
    have d3 : w6.cell? ⟨w.heap.size + 1 + 1 + 1, 0, none⟩ = some va := H63.out.1
    have e3 : w6.frozen? ⟨w.heap.size + 1 + 1 + 1, 0, none⟩ = false := H63.out.2.1
    have g3 : w.heap.size + 1 + 1 + 1 < w6.heap.size := H63.out.2.2
    go_simp
    refine hK _ _ ?_
    clear hK K
    refine wpAnyIn_done (by kernel_rfl) ?_ _
    rotate_left
    go_simp
    focus (gi_wp2_with (refine ⟨trivial, ?_⟩; gi_at_call 23; refine (callsIn_wide.2 (last_any 45 _ zs (fun pre => pre <+: zs) zs.length w3.heap.size hzl w3 (Nat.le_refl _) (enters_of Tryz.func45 (by kernel_rfl) rfl) (values1_stops 2 (by omega) bv ao co zs hzl w3 hb3 (HEO.out.ext (((Below.refl _ W).drew).trans hB3))))).mono ?_; rintro e w4 ⟨bm2, rfl, hbm2, hB4, hM4⟩; have c3 : w4.cell? ⟨w.heap.size + 1 + 1 + 1, 0, none⟩ = some va := (hB4.cell (p := ⟨w.heap.size + 1 + 1 + 1, 0, none⟩) l3).trans c3; have l3 : w.heap.size + 1 + 1 + 1 < w4.heap.size := Nat.lt_of_lt_of_le l3 hB4.size))
    refine wpAnyIn_ready (rs := [0, 4]) (by kernel_rfl) (by simp) ?_
    refine AllReadyIn.cons rfl (fun K hK => ?_) (AllReadyIn.cons rfl (fun K hK => ?_) AllReadyIn.nil)
    go_simp
    refine hK _ _ ?_
    clear hK K
    refine wpAnyIn_ready (rs := [4]) (by kernel_rfl) (by simp) ?_
    refine AllReadyIn.cons rfl (fun K hK => ?_) AllReadyIn.nil
    go_simp
    focus (gi_wp2_with (refine ⟨trivial, ?_⟩; gi_at_call 22; refine (callsIn_wide.2 (sortedV_any bm2 _ w4 hM4 (by have := lastM_len zs; omega))).mono ?_; rintro e w5 ⟨az, ss, rfl, hP5, hS5, hF5, hN5, hB5⟩; have hO5 : OwnF w2.heap.size w5 va nw := (((HOA.out.below (((Below.refl _ W).drew).trans hB3)).below hB4).below hB5); have hc5 : w5.heap[w.heap.size + 3]? = some (.cells #[va] 22 (0, 0)) ∧ w.heap.size + 3 < w2.heap.size := ⟨(hB5.block _ (by have := hB3.size; have := hB4.size; have h9 : W.drew.heap.size = W.heap.size := rfl; omega)).trans ((hB4.block _ (by have := hB3.size; have h9 : W.drew.heap.size = W.heap.size := rfl; omega)).trans ((hB3.block _ (by have h9 : W.drew.heap.size = W.heap.size := rfl; omega)).trans HI.out.b3)), by omega⟩; obtain ⟨v6, w6, hrun6, hO6, hg6⟩ := run_append_facts w5 w2.heap.size va nw az ss.length ss hO5 hF5 (by omega) (by have h7 := hP5.length_eq; rw [List.length_map] at h7; have := lastM_len zs; omega) (fun h => by rw [hN5 h]; rfl) (by have h8 : W.drew.heap.size ≤ w3.heap.size := hB3.size; have h9 : W.drew.heap.size = W.heap.size := rfl; have := hB4.size; have := hB5.size; have := HI.out.sz; omega) 22; obtain ⟨a6, c6, rfl, hle6, hE6⟩ := els_of_owns fc_len hO6; obtain ⟨q, hq⟩ : ∃ q, q = (nw ++ ss).length := ⟨_, rfl⟩; rw [← hq] at hrun6 hO6 hle6; clear hE6; have H6 := Lib.hid hO6; have HQ := Lib.hid hq; clear hq; have hD5 : w5.heap[D]? = some (.deferred (some [])) := (hB5.block _ (by have := lt_of_blk hKD; have := hB3.size; have := hB4.size; have h9 : W.drew.heap.size = W.heap.size := rfl; omega)).trans ((hB4.block _ (by have := lt_of_blk hKD; have := hB3.size; have h9 : W.drew.heap.size = W.heap.size := rfl; omega)).trans ((hB3.block _ (lt_of_blk hKD)).trans hKD)); have HD6 := Lib.hid (histDef6 hO5 hD5 rfl hg6); have HB6 := Lib.hid ((((HI.out.bl.drew.trans (hB3.mono HI.out.bl.size)).trans (hB4.mono (Nat.le_trans HI.out.bl.size hB3.size))).trans (hB5.mono (Nat.le_trans (Nat.le_trans HI.out.bl.size hB3.size) hB4.size))).grown hg6 (Nat.le_trans (Nat.le_trans (Nat.le_trans HI.out.bl.size hB3.size) hB4.size) hB5.size) (fun k e => by have := (World.ownsRow.lt hO5 k e).1; omega)); have H63 := Lib.hid (histKept6 hO5 hc5 hg6); have HB63 := Lib.hid (histBlk6 hO5 hc5 hg6); have c3 : w5.cell? ⟨w.heap.size + 1 + 1 + 1, 0, none⟩ = some va := (hB5.cell (p := ⟨w.heap.size + 1 + 1 + 1, 0, none⟩) l3).trans c3; have l3 : w.heap.size + 1 + 1 + 1 < w5.heap.size := Nat.lt_of_lt_of_le l3 hB5.size))
    refine wpAnyIn_ready (rs := [5]) (by kernel_rfl) (by simp) ?_
    refine AllReadyIn.cons rfl (fun K hK => ?_) AllReadyIn.nil
    rw [if_pos (show Region.wanted _ _ = true from rfl)]
    refine wpIn_append_run _ _ _ _ rfl _ _ rfl rfl _ _ hrun6 ?_
    refine hK _ _ ?_
    clear hK K
    refine wpAnyIn_ready (rs := [6]) (by kernel_rfl) (by simp) ?_
    refine AllReadyIn.cons rfl (fun K hK => ?_) AllReadyIn.nil
    have d3 : w6.cell? ⟨w.heap.size + 1 + 1 + 1, 0, none⟩ = some va := H63.out.1
    have e3 : w6.frozen? ⟨w.heap.size + 1 + 1 + 1, 0, none⟩ = false := H63.out.2.1
    have g3 : w.heap.size + 1 + 1 + 1 < w6.heap.size := H63.out.2.2
    go_simp
    refine hK _ _ ?_
    clear hK K
    refine wpAnyIn_done (by kernel_rfl) ?_ _
    rotate_left
    go_simp
    focus (gi_wp2_with (refine ⟨trivial, ?_⟩; gi_at_call 22; refine (callsIn_wide.2 (sortedV_any bm2 _ w4 hM4 (by have := lastM_len zs; omega))).mono ?_; rintro e w5 ⟨az, ss, rfl, hP5, hS5, hF5, hN5, hB5⟩; have hO5 : OwnF w2.heap.size w5 va nw := (((HOA.out.below (((Below.refl _ W).drew).trans hB3)).below hB4).below hB5); have hc5 : w5.heap[w.heap.size + 3]? = some (.cells #[va] 22 (0, 0)) ∧ w.heap.size + 3 < w2.heap.size := ⟨(hB5.block _ (by have := hB3.size; have := hB4.size; have h9 : W.drew.heap.size = W.heap.size := rfl; omega)).trans ((hB4.block _ (by have := hB3.size; have h9 : W.drew.heap.size = W.heap.size := rfl; omega)).trans ((hB3.block _ (by have h9 : W.drew.heap.size = W.heap.size := rfl; omega)).trans HI.out.b3)), by omega⟩; obtain ⟨v6, w6, hrun6, hO6, hg6⟩ := run_append_facts w5 w2.heap.size va nw az ss.length ss hO5 hF5 (by omega) (by have h7 := hP5.length_eq; rw [List.length_map] at h7; have := lastM_len zs; omega) (fun h => by rw [hN5 h]; rfl) (by have h8 : W.drew.heap.size ≤ w3.heap.size := hB3.size; have h9 : W.drew.heap.size = W.heap.size := rfl; have := hB4.size; have := hB5.size; have := HI.out.sz; omega) 22; obtain ⟨a6, c6, rfl, hle6, hE6⟩ := els_of_owns fc_len hO6; obtain ⟨q, hq⟩ : ∃ q, q = (nw ++ ss).length := ⟨_, rfl⟩; rw [← hq] at hrun6 hO6 hle6; clear hE6; have H6 := Lib.hid hO6; have HQ := Lib.hid hq; clear hq; have hD5 : w5.heap[D]? = some (.deferred (some [])) := (hB5.block _ (by have := lt_of_blk hKD; have := hB3.size; have := hB4.size; have h9 : W.drew.heap.size = W.heap.size := rfl; omega)).trans ((hB4.block _ (by have := lt_of_blk hKD; have := hB3.size; have h9 : W.drew.heap.size = W.heap.size := rfl; omega)).trans ((hB3.block _ (lt_of_blk hKD)).trans hKD)); have HD6 := Lib.hid (histDef6 hO5 hD5 rfl hg6); have HB6 := Lib.hid ((((HI.out.bl.drew.trans (hB3.mono HI.out.bl.size)).trans (hB4.mono (Nat.le_trans HI.out.bl.size hB3.size))).trans (hB5.mono (Nat.le_trans (Nat.le_trans HI.out.bl.size hB3.size) hB4.size))).grown hg6 (Nat.le_trans (Nat.le_trans (Nat.le_trans HI.out.bl.size hB3.size) hB4.size) hB5.size) (fun k e => by have := (World.ownsRow.lt hO5 k e).1; omega)); have H63 := Lib.hid (histKept6 hO5 hc5 hg6); have HB63 := Lib.hid (histBlk6 hO5 hc5 hg6); have c3 : w5.cell? ⟨w.heap.size + 1 + 1 + 1, 0, none⟩ = some va := (hB5.cell (p := ⟨w.heap.size + 1 + 1 + 1, 0, none⟩) l3).trans c3; have l3 : w.heap.size + 1 + 1 + 1 < w5.heap.size := Nat.lt_of_lt_of_le l3 hB5.size))
    refine wpAnyIn_ready (rs := [0]) (by kernel_rfl) (by simp) ?_
    refine AllReadyIn.cons rfl (fun K hK => ?_) AllReadyIn.nil
    go_simp
    refine hK _ _ ?_
    clear hK K
    refine wpAnyIn_ready (rs := [5]) (by kernel_rfl) (by simp) ?_
    refine AllReadyIn.cons rfl (fun K hK => ?_) AllReadyIn.nil
    rw [if_pos (show Region.wanted _ _ = true from rfl)]
    refine wpIn_append_run _ _ _ _ rfl _ _ rfl rfl _ _ hrun6 ?_
    refine hK _ _ ?_
    clear hK K
    refine wpAnyIn_ready (rs := [6]) (by kernel_rfl) (by simp) ?_
    refine AllReadyIn.cons rfl (fun K hK => ?_) AllReadyIn.nil
    have d3 : w6.cell? ⟨w.heap.size + 1 + 1 + 1, 0, none⟩ = some va := H63.out.1
    have e3 : w6.frozen? ⟨w.heap.size + 1 + 1 + 1, 0, none⟩ = false := H63.out.2.1
    have g3 : w.heap.size + 1 + 1 + 1 < w6.heap.size := H63.out.2.2
    go_simp
    refine hK _ _ ?_
    clear hK K
    refine wpAnyIn_done (by kernel_rfl) ?_ _
    rotate_left
    all_goals
      have hq6 := HQ.out
      have hnq : (nw ++ ss).length < 1000000 ∧ q < 1000000 := by
        have h7 := hP5.length_eq
        rw [List.length_map] at h7
        have := lastM_len zs
        rw [hq6, List.length_append]
        omega
      obtain ⟨W7, hW7⟩ : ∃ W7 : World, W7 = w6.setCell ⟨w.heap.size + 1 + 1 + 1, 0, none⟩ (.slice a6 q c6) := ⟨_, rfl⟩
      have hg7 : w6.grownBy W7 (some (w.heap.size + 3)) := by rw [hW7]; exact grownBy_setCell' w6 (w.heap.size + 3) _
      have hO7 : OwnF w2.heap.size W7 (.slice a6 q c6) (nw ++ ss) := World.ownsRow.kept H6.out hg7 (.inr (fun e => by have := (World.ownsRow.lt H6.out _ e).1; omega))
      have hcon := sortOwn_any w2.heap.size (.slice a6 q c6) (nw ++ ss) W7 hO7 hnq.1
      have HO7 := Lib.hid hO7
      rw [hW7] at hcon
      clear hq6 hO7
      gi_wp2
      refine ⟨trivial, ?_⟩
      refine (callsIn_wide.2 hcon).mono ?_
      rintro e w8 ⟨rfl, zz, hp8, hs8, hO8, hg8⟩
      have hzq : zz.length < 1000000 := by rw [hp8.length_eq]; exact hnq.1
      obtain ⟨a8, c8, hv8, hle8, hE8⟩ := els_of_owns fc_len hO8
      cases hv8
      rw [← hW7] at hg8
      have hb7 : W7.heap[w.heap.size + 3]? = some (.cells #[.slice a6 zz.length c6] 22 (0, 0)) := by rw [hW7]; exact blk_setCell_one HB63.out _
      have hb8 : w8.heap[w.heap.size + 3]? = some (.cells #[.slice a6 zz.length c6] 22 (0, 0)) := (hg8.block _ (lt_of_blk hb7) (fun e => by have := (World.ownsRow.lt HO7.out _ e.symm).1; omega)).trans hb7
      have d8 : w8.cell? ⟨w.heap.size + 1 + 1 + 1, 0, none⟩ = some (.slice a6 zz.length c6) := cell_of_blk hb8 0
      have l8 : w.heap.size + 1 + 1 + 1 < w8.heap.size := lt_of_blk hb8
      have HP8 := Lib.hid hp8
      have HS8 := Lib.hid hs8
      have HE8 := Lib.hid hE8
      have hBW8 : Below w.heap.size w w8 := (HB6.out.grown hg7 HB6.out.size (fun k e => by cases e; omega)).grown hg8 (Nat.le_trans HB6.out.size hg7.size) (fun k e => by have := (World.ownsRow.lt HO7.out k e).1; omega)
      have hD7 : W7.heap[D]? = some (.deferred (some [])) := (hg7.block _ (lt_of_blk HD6.out) (fun e => by injection e with e; omega)).trans HD6.out
      have HD8 := Lib.hid (histDef6 HO7.out hD7 rfl hg8)
      have HBW8 := Lib.hid hBW8
      clear hBW8 hD7
      clear hp8 hs8 hE8 hO8 hg8
      gi_wp2
      gi_loopg [6, 65] zz.length (fun gk ov jv wr => ∃ j : Nat, j + gk = zz.length ∧ jv = .int .i64 j ∧ OwnE w8.heap.size wr ov (zz.take j) ∧ Below w8.heap.size w8 wr)
      case atStart => exact ⟨0, by omega, rfl, World.ownsRow_nil _ _ _ _, Below.refl _ _⟩
      case round =>
        obtain ⟨j, hj, rfl, hown, hBj⟩ := hrel
        have hsj := hBj.size
        by_cases hjlt : j < zz.length
        · obtain ⟨b2, o2, rfl, hlb2, hcell2⟩ := HE8.out.get j hjlt
          have hkk := List.take_succ_eq_append_getElem hjlt
          have hklen : (zz.take j).length = j := by simp; omega
          generalize zz[j] = x at *
          have e0 := (hBj.cell (p := ⟨b2, _, none⟩) hlb2).trans (hcell2 0 _ rfl)
          have e1 := (hBj.cell (p := ⟨b2, _, none⟩) hlb2).trans (hcell2 1 _ rfl)
          have e2 := (hBj.cell (p := ⟨b2, _, none⟩) hlb2).trans (hcell2 2 _ rfl)
          have e3 := (hBj.cell (p := ⟨b2, _, none⟩) hlb2).trans (hcell2 3 _ rfl)
          have e4 := (hBj.cell (p := ⟨b2, _, none⟩) hlb2).trans (hcell2 4 _ rfl)
          have e5 := (hBj.cell (p := ⟨b2, _, none⟩) hlb2).trans (hcell2 5 _ rfl)
          simp only [Nat.add_zero] at e0 e1 e2 e3 e4 e5
          have hlr : b2 < wr.heap.size := by omega
          obtain ⟨X, hX⟩ : ∃ X : World, X = (wr.alloc (.cells (fc x).toArray 50)).alloc (.cells #[.int .u32 x.valid, .int .u64 x.seq, .int .u8 x.kind, .string x.val] 71) := ⟨_, rfl⟩
          have hBX : Below wr.heap.size wr X := by rw [hX]; exact ((Below.refl _ _).alloc (Nat.le_refl _) _).alloc (by simp) _
          have hX1 : X.heap[wr.heap.size + 1]? = some (.cells #[.int .u32 x.valid, .int .u64 x.seq, .int .u8 x.kind, .string x.val] 71 (0, 0)) := by rw [hX]; exact blk_new_at (by simp) _
          obtain ⟨v', wn, hrun, hO2, hg2⟩ := run_append_entry X w8.heap.size u6 (zz.take j) (wr.heap.size + 1) x (OwnE.below hown hBX) hX1 (by omega) (by have := hBX.size; omega) 40
          have hrow : ∀ k', u6.ownBlock = some k' → w8.heap.size ≤ k' := fun k' hk' => (World.ownsRow.lt hown k' hk').1
          have HB2 := Lib.hid ((hBj.trans (hBX.mono hsj)).grown hg2 (Nat.le_trans hsj hBX.size) hrow)
          rw [hX] at hrun
          have HRUN := Lib.hid hrun
          have HO2 := Lib.hid hO2
          have HKK := Lib.hid hkk
          have hj0 : (0 : Int) ≤ (j : Int) := by omega
          have hj1 : (j : Int) < (zz.length : Int) := by omega
          clear hX hBX hX1 hrun hO2 hg2 hrow hown hBj hkk hcell2 hklen
          simp only [fc] at HRUN
          gi_wp2_with (gi_at_builtin; refine wpListIn_append_run _ rfl _ _ _ _ rfl _ _ rfl rfl _ _ (HRUN.out) ?_)
          gi_roundg (gk - 1)
          case measure => omega
          case rel => exact ⟨j + 1, by omega, by go_num, by rw [HKK.out]; exact HO2.out, HB2.out⟩
        · have hje : j = zz.length := by omega
          subst hje
          rw [List.take_length] at hown
          have hDr : wr.heap[D]? = some (.deferred (some [])) := (hBj.block _ (lt_of_blk HD8.out)).trans HD8.out
          have hBr : Below w.heap.size w wr := HBW8.out.trans (hBj.mono HBW8.out.size)
          have HOE := Lib.hid (histEls hown hDr (.deferred none))
          have HDR := Lib.hid hDr
          have HBR := Lib.hid hBr
          have hDw : w.heap.size ≤ D := by omega
          rcases row_of_owns hown with ⟨rfl, hnil⟩ | ⟨g, cap, rfl, hg, hR⟩
          · have HNIL := Lib.hid hnil
            clear hown hnil hDr hBr
            gi_wp2_with (refine ⟨trivial, ?_⟩; gi_at_call 35; refine (callsIn_wide.2 (clipE_any none 0 0 _ (fun _ => ⟨rfl, rfl⟩) (by decide) (Nat.le_refl _) (Nat.zero_le _))).mono ?_; rintro e w4 ⟨rfl, rfl⟩)
            refine ⟨by simp, .inl ⟨_, _, rfl, run_takeDeferred HDR.out, ?_⟩⟩
            refine ⟨_, results_tmp rfl _ _ _, none, [], rfl, ?_, List.Pairwise.nil, Els.nil _ _ _ _, fun _ => rfl, HBR.out.trans (belowK_b (w := w) (Nat.le_refl _) wr D _ _ (by omega) HDR.out rfl rfl)⟩
            have hp := HP8.out.trans (hP5.append_left nw)
            rw [HNIL.out] at hp
            rw [show seenL xs cs 18446744073709551615 = ys from HYS.out.symm, HZS.out, HNW.out]
            exact hp
          · have hle := hR.le
            have hmx := hR.max
            clear hown hR hDr hBr
            gi_wp2_with (refine ⟨trivial, ?_⟩; gi_at_call 35; refine (callsIn_wide.2 (clipE_any (some ⟨g, 0, none⟩) cap zz.length _ (fun h => by cases h) hzq hle hmx)).mono ?_; rintro e w4 ⟨rfl, rfl⟩)
            refine ⟨by simp, .inl ⟨_, _, rfl, run_takeDeferred HDR.out, ?_⟩⟩
            obtain ⟨a9, c9, hv9, _, hE9⟩ := els_of_owns ec_len HOE.out
            cases hv9
            refine ⟨_, results_tmp rfl _ _ _, some ⟨g, 0, none⟩, zz, rfl, ?_, HS8.out, hE9, fun h => (by cases h), HBR.out.trans (belowK_b (w := w) (Nat.le_refl _) wr D _ _ (by omega) HDR.out rfl rfl)⟩
            rw [show seenL xs cs 18446744073709551615 = ys from HYS.out.symm, HZS.out, HNW.out]
            exact HP8.out.trans (hP5.append_left nw)
  case stop =>
    rintro D c pre W _ _ h _
    exact h.elim

/-- views.History: the facts beyond the watch's place, each time and place once, and the last ones up to it, in keys.Cmp's order, as entries. -/
theorem history_any (al : Option Addr) (cl : Nat) (xs : List Fc) (ac : Option Addr) (cc : Nat) (cs : List Lk) (at_ : Int) (on : Bool) (key : ByteArray) (w : World) (hL : Facts w al xs) (hC : Links w ac cs) (hx : xs.length < 1000000) (hc : cs.length < 1000000) (hk : key.size ≤ maxLen) :
    Calls Tryz.prog 16 #[.slice al xs.length cl, .agg #[.slice ac cs.length cc, .int .u64 at_, .bool on], .string key] w (HistPost (oldF key at_ (seenL xs cs 18446744073709551615)) (newF key at_ (seenL xs cs 18446744073709551615)).1 w) :=
  (callsIn_wide (n := 4)).1 (history_in 4 (by omega) al cl xs ac cc cs at_ on key w hL hC hx hc hk)
end Go.Proofs.YtenocakpipppiaaGreatDoor
