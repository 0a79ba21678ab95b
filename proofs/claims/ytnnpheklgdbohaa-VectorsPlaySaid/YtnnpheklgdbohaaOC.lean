/- maps.Keys, slices.AppendSeq, Collect, Sorted at uint64. Condition: fewer than 1000000 keys. -/
import Derived.Test.YtnnpheklgdbohaaOB
import Derived.Test.YtnnpheklgdbohaaMp
import Derived.RangeFuncNested
import Derived.RangeFuncBound
import Derived.RangeFuncCalls
import Derived.RangeFuncLeaves
import Derived.RangeFuncBox
import Derived.RangeFuncWrites
import Derived.Shelf.Abstract
import Derived.Shelf.RegionOpen
import Derived.OwnWalkIn
import Derived.TacticsInMore
import Derived.LoopNIn
import Derived.LoopIn
import Derived.Sort.LoopGhostIn
import Derived.Laws.OwnMore
namespace Go.Proofs.Ytnnpheklgdbohaa
open Go.RowKit Go.Shelf Go.Herb
attribute [local go_sem] Oper.semAt_some

abbrev eU (v : Int) : Value := .int .u64 v
abbrev eM (b : Nat) : Value := .map (some b)
theorem eU_inj : ∀ a a', eU a = eU a' → a = a' := fun a a' h => by injection h
theorem lawU : Maps.Keyed Try.prog (29) := Maps.int_keyed Try.underlying29
abbrev MapU (w : World) (b : Nat) (m : List (Int × Int)) : Prop := MapIs Try.prog (29) eU eU w b m
abbrev MapM (w : World) (b : Nat) (m : List (Int × Nat)) : Prop := MapIs Try.prog (29) eU eM w b m
abbrev OwnU (B : Nat) (w : World) (v : Value) (ys : List Int) : Prop := w.ownsRow B (29) 1 v ys.length (ys.flatMap nu)

/-- The box holds what has come. -/
structure ApSt (w : World) (pre : List Int) (W : World) : Prop where
  box : ∃ v, W.heap[w.heap.size]? = some (.cells #[v] (66) (0, 0)) ∧ OwnU (w.heap.size + 1) W v pre
  below : Below w.heap.size w W
  size : w.heap.size + 1 ≤ W.heap.size
theorem owns_kept {B : Nat} {W Y : World} {v : Value} {ys : List Int} {row : Option Nat} (h : OwnU B W v ys) (hg : W.grownBy Y row) (hr : ∀ r, row = some r → ∃ o : Obj, W.heap[r]? = some o ∧ o.isCells = false) : OwnU B Y v ys := by
  refine World.ownsRow.kept h hg ?_
  rcases row_of_owns h with ⟨rfl, rfl⟩ | ⟨g, cap, rfl, hg2, hR⟩
  · exact .inl rfl
  · refine .inr (fun e => ?_)
    obtain ⟨o, ho, hc⟩ := hr g e.symm
    obtain ⟨cur, h1, _⟩ := hR.blk
    rw [h1] at ho
    cases ho
    cases hc
theorem ap_own (w : World) : OwnFrom (w.heap.size + 1) (ApSt w) := fun s X Y row hs hg hr => by
  obtain ⟨v, h1, h2⟩ := hs.box
  have hn : ∀ b o, X.heap[b]? = some (.cells o (66) (0, 0)) → some b ≠ row := fun b o hb e => by
    obtain ⟨_, o', ho, hc⟩ := hr b e.symm
    rw [hb] at ho
    cases ho
    cases hc
  exact ⟨⟨v, (hg.block _ (lt_of_blk h1) (hn _ _ h1)).trans h1, owns_kept h2 hg (fun r e => (hr r e).2)⟩, hs.below.grown hg hs.below.size (fun k e => by have := (hr k e).1; omega), Nat.le_trans hs.size hg.size⟩
def AppPost (w : World) (S : List Int → Prop) (e : Ending) (w' : World) : Prop := ∃ v ys, e = .returned v ∧ S ys ∧ OwnU w.heap.size w' v ys ∧ Below w.heap.size w w'
theorem infoU : (Try.prog.info? (29)).map (fun i => (i.zero, i.size, i.bytes)) = some (some (.int .u64 0), 1, 8) := by kernel_rfl
theorem wpListIn_append_run2 {F : Fence} {n : Nat} {P : Program} {w : World} {ops : Array Oper} {rest : List Oper} {o : Oper} {a : Act} {Q : Exit → Act → World → Prop}
    (hg : o.guard = none) (s x : Operand) (t tn : TypeId) (ho : o.op = Op.call { callee := Callee.builtin Builtin.append, args := #[s, x], argTypes := #[t, tn] }) (vs vx : Value) (hs : a.eval s = vs) (hx : a.eval x = vx)
    (v' : Value) (w' : World) (hr : (Builtin.append_ #[t, tn] o.type #[vs, vx]).run P w = .ok v' w') (h : wpListIn F n P ops Q rest (a.put o.dst v') w') : wpListIn F n P ops Q (o :: rest) a w := by
  refine wpListIn_plain hg fun K hK' => ?_
  unfold Oper.wpIn
  refine ⟨?_, ?_⟩
  · simp [Oper.about, ho, resolve, Target.leads, Sem.run_pure]
  · rw [Oper.semAt_plain F _ _ (by rw [ho]; intro c hc'; cases hc')]
    simp [execOp, ho, resolve, invoke, builtin, hs, hx, hr, Result.andThen]
    exact hK' _ _ h
theorem run_append_u (w : World) (B : Nat) (v : Value) (ys : List Int) (vb : Nat) (x : Int) (ho : OwnU B w v ys) (hb : w.heap[vb]? = some (.cells #[.int .u64 x] (29) (0, 0))) (hx : ys.length < 1000000) (hB : B ≤ w.heap.size) (ty : TypeId) :
    ∃ v' w', (Builtin.append_ #[(66), (66)] ty #[v, .slice (some ⟨vb, 0, none⟩) 1 1]).run Try.prog w = .ok v' w' ∧ OwnU B w' v' (ys ++ [x]) ∧ w.grownBy w' v.ownBlock := by
  obtain ⟨i0, hin, hz0, hz1, hz2⟩ := info_parts infoU
  obtain ⟨v', w', hr, h2, h3, h4⟩ := run_append_own (P := Try.prog) w B (66) ty (29) i0 _ 1 8 Try.underlying66 hin hz0 hz1 hz2 rfl (by decide) v ys.length (ys.flatMap nu) ho ⟨vb, 0, none⟩ 1 1 (nu x) rfl (fun j u hj => by
      have : ((⟨vb, 0, none⟩ : Addr).add j) = ⟨vb, 0 + j, none⟩ := addr_add _ _ _
      rw [this, Nat.zero_add, cell_of_blk hb]
      simpa [nu] using hj) (by intro v hv; simp [nu] at hv; subst hv; rfl) (by unfold maxLen; omega) (by omega) hB
  refine ⟨v', w', hr, ?_, h3⟩
  unfold OwnU
  rw [List.length_append, List.flatMap_append]
  simpa using h2

set_option maxRecDepth 100000 in
set_option maxHeartbeats 4000000 in
theorem appendSeq_any {gf : Nat} {lb : Array Value} (_ : (Value.func (.func gf) #[] lb) = .func (.func gf) #[] lb) (hFg : Fence.wide.fn gf) (eg : ∀ args w, (callFunc gf args).run Try.prog w = .ok (.enter gf args) w) (S : List Int → Prop) (N : Nat) (hN : N < 1000000) (w : World)
    (hseq : ∀ W, Below w.heap.size w W → SeqStopsK Fence.wide 2 Try.prog gf lb (fun x : Int => #[eU x]) KeepsWalks S (fun _ => True) N W) :
    Calls Try.prog (59) #[.slice none 0 0, .func (.func gf) #[] lb] w (AppPost w S) := by
  have HSEQ := Lib.hid (hseq (w.alloc (.cells #[.slice none 0 0] (66))) ((Below.refl _ _).alloc (Nat.le_refl _) _))
  have HEG := Lib.hid eg
  clear hseq eg
  refine (callsIn_wide (n := 3)).1 (callsIn_of_wp_marks Try.func59 rfl trivial ?_ rfl)
  simp only [Try.ntmps59, List.size_toArray, List.length_cons, List.length_nil, Nat.reduceAdd, Nat.reduceSub, Array.replicate_succ, Array.replicate_zero, List.push_toArray, List.append_toArray, List.nil_append, List.cons_append]
  refine (wpIn_wide (n := 3)).2 ?_
  go_wp2_with fail
  refine (wpIn_wide (n := 3)).1 ?_
  refine wpIn_rangeFunc_ownH rfl (by omega) (gf := gf) (lb := lb) rfl hFg HEG.out HSEQ.out
    (fun h k => h.trans k) (fun W l o o' _ h _ hw => KeepsWalks.putObj _ h hw) (Below.refl _ _) (fun _ => rfl)
    (ApSt w)
    (fun _ _ _ => False)
    (by simpa using ap_own w)
    (fun _ _ _ _ _ hs _ _ => hs)
    ⟨⟨.slice none 0 0, blk_new_at rfl _, World.ownsRow_nil _ _ _ _⟩, (Below.refl _ _).alloc (Nat.le_refl _) _, by simp⟩
    (fun x a' _ => a' = { tmps := #[.slice none 0 0, .func (.func gf) #[] lb, .pointer (some ⟨w.heap.size, 0, none⟩), undef, .slice none 0 0, eU x, .func (.func gf) #[] lb, eU x, undef, undef, undef, undef, undef], defers := [] })
    (fun x a' _ X Y row hs hg hr => hs)
    ?assign ?body ?done ?stop
  case assign =>
    rintro l pre x W K hI hK
    gi_wp2
    exact hK _ _ ((KeepsOthers.refl _).from _) (KeepsWalks.refl _) hI rfl
  case body =>
    rintro l pre x a' W hl ⟨r, hr⟩ hI rfl hlt
    obtain ⟨v, hv, hO⟩ := hI.box
    have hWs := hI.size
    obtain ⟨va, vn, vc, rfl⟩ : ∃ va vn vc, v = .slice va vn vc := by
      rcases row_of_owns hO with ⟨rfl, _⟩ | ⟨g, cap, rfl, _⟩
      · exact ⟨_, _, _, rfl⟩
      · exact ⟨_, _, _, rfl⟩
    have cv := cell_of_blk hv 0
    have fv := frozen_of_blk hv 0
    simp at cv
    obtain ⟨X, hX⟩ : ∃ X : World, X = W.alloc (.cells #[.int .u64 x] (29)) := ⟨_, rfl⟩
    have hBX : Below W.heap.size W X := by rw [hX]; exact (Below.refl _ _).alloc (Nat.le_refl _) _
    have hX1 : X.heap[W.heap.size]? = some (.cells #[.int .u64 x] (29) (0, 0)) := by rw [hX]; exact blk_new_at rfl _
    have hOX : OwnU (w.heap.size + 1) X (.slice va vn vc) pre := ownsRow_below hO hBX (Nat.le_refl _)
    obtain ⟨v', w4, hrun, hO4, hg4⟩ := run_append_u X (w.heap.size + 1) (.slice va vn vc) pre W.heap.size x hOX hX1 (by omega) (by have := hBX.size; omega) (66)
    have hne : some w.heap.size ≠ (Value.slice va vn vc).ownBlock := fun e => by have := (World.ownsRow.lt hOX _ e.symm).1; omega
    have hv4 : w4.heap[w.heap.size]? = some (.cells #[.slice va vn vc] (66) (0, 0)) := (hg4.block _ (by have := lt_of_blk hv; have := hBX.size; omega) hne).trans ((hBX.block _ (lt_of_blk hv)).trans hv)
    have f4 := frozen_of_blk hv4 0
    have c4 := cell_of_blk hv4 0
    simp at c4
    have hrow4 : ∀ (k : Nat) (o : Obj), (Value.slice va vn vc).ownBlock = some k → X.heap[k]? = some o → o.isCells = true := fun k o e ho => by
      rcases row_of_owns hOX with ⟨h1, _⟩ | ⟨g, cap, h1, hg2, hR⟩
      · rw [h1] at e; cases e
      · rw [h1] at e
        cases e
        obtain ⟨cur, hc1, _⟩ := hR.blk
        rw [ho] at hc1
        cases hc1
        rfl
    have hko : KeepsOthers W w4 := (by rw [hX]; exact KeepsOthers.alloc _ _ : KeepsOthers W X).trans (KeepsOthers.of_grownBy hg4 hrow4)
    have hb4 : Below w.heap.size w w4 := (hI.below.trans (hBX.mono hI.below.size)).grown hg4 (by have := hBX.size; omega) (fun k e => by have := (World.ownsRow.lt hOX _ e).1; omega)
    have hs4 : w.heap.size + 1 ≤ w4.heap.size := by have := hg4.size; have := hBX.size; omega
    obtain ⟨ua, un, uc, rfl⟩ : ∃ ua un uc, v' = .slice ua un uc := by
      rcases row_of_owns hO4 with ⟨rfl, _⟩ | ⟨g, cap, rfl, _⟩
      · exact ⟨_, _, _, rfl⟩
      · exact ⟨_, _, _, rfl⟩
    have hne2 : ∀ k, (Value.slice ua un uc).ownBlock = some k → k ≠ w.heap.size := fun k e => by have := (World.ownsRow.lt hO4 k e).1; omega
    rw [hX] at hrun
    have HRUN := Lib.hid hrun
    have HKO := Lib.hid hko
    have HB4 := Lib.hid hb4
    have HO4 := Lib.hid hO4
    have HI := Lib.hid hI
    have HV4 := Lib.hid hv4
    have HN2 := Lib.hid hne2
    clear hX hBX hX1 hOX hrun hg4 hne hv4 hrow4 hko hb4 hO4 hI hO hv hne2
    gi_wp2_with (first | (gi_at_builtin; refine wpListIn_append_run2 rfl _ _ _ _ rfl _ _ rfl rfl _ _ (HRUN.out) ?_) | fail)
    have hgs : w4.grownBy (w4.setCell ⟨w.heap.size, 0, none⟩ (.slice ua un uc)) (some w.heap.size) := grown_set (grown_refl _ _) 0 _
    refine ⟨(HKO.out.trans (KeepsOthers.setCell _ _ _)).from _, (HKO.out.trans (KeepsOthers.setCell _ _ _)).walks, ⟨⟨.slice ua un uc, ?_, ?_⟩, HB4.out.grown hgs HB4.out.size (fun k e => by cases e; exact Nat.le_refl _), by simpa using hs4⟩⟩
    · have := blk_setCell (j := 0) HV4.out (.slice ua un uc)
      simpa using this
    · refine World.ownsRow.kept HO4.out hgs (.inr (fun e => HN2.out _ e rfl))
  case stop =>
    rintro D c pre W _ _ h _
    exact h.elim
  case done =>
    rintro D ys W hD hS hI hK
    obtain ⟨v, hv, hO⟩ := hI.box
    have cv := cell_of_blk hv 0
    simp at cv
    have HE := Lib.hid (show AppPost w S (.returned v) (W.putObj D (.deferred none)) from ⟨v, ys, rfl, hS, ownsRow_mono (owns_kept hO (grownBy_putObj' W D _) (fun r e => by cases e; exact ⟨_, hK, rfl⟩)) (by omega), hI.below.grown (grownBy_putObj' W D _) hI.below.size (fun k e => by cases e; simp at hD; omega)⟩)
    clear hO hI hv
    go_wp2_with fail
    refine ⟨by simp, .inl ⟨_, _, rfl, run_takeDeferred hK, ?_⟩⟩
    refine ⟨_, results_tmp rfl _ _ _, ?_⟩
    exact HE.out

def SortedU (n : Nat) (ks : List Int) (w : World) (e : Ending) (w' : World) : Prop := ∃ a cap ys, e = .returned (.slice a n cap) ∧ ys.length = n ∧ ys.Perm ks ∧ ys.Pairwise (· ≤ ·) ∧ Els nu 1 w' a ys ∧ (a = none → n = 0) ∧ Below w.heap.size w w' ∧ ∀ ad, a = some ad → w.heap.size ≤ ad.block
theorem collect_any {gf : Nat} {lb : Array Value} (hg1 : (Value.func (.func gf) #[] lb) = .func (.func gf) #[] lb) (hFg : Fence.wide.fn gf) (eg : ∀ args w, (callFunc gf args).run Try.prog w = .ok (.enter gf args) w) (S : List Int → Prop) (N : Nat) (hN : N < 1000000) (w : World)
    (hseq : ∀ W, Below w.heap.size w W → SeqStopsK Fence.wide 2 Try.prog gf lb (fun x : Int => #[eU x]) KeepsWalks S (fun _ => True) N W) :
    Calls Try.prog (50) #[.func (.func gf) #[] lb] w (AppPost w S) := by
  have H := Lib.hid (appendSeq_any hg1 hFg eg S N hN w hseq)
  clear hseq eg hg1
  go_enter Try.func50, Try.ntmps50
  go_wp2_with fail
  refine (H.out).mono ?_
  rintro e w1 ⟨v, ys, rfl, h1, h2, h3⟩
  go_wp2
  go_ret
  exact ⟨v, ys, rfl, h1, h2, h3⟩
theorem insNone_any (w : World) : Calls Try.prog (73) #[.slice none 0 0, .int .i64 0, .int .i64 0] w fun e w' => e = .returned (.tuple #[]) ∧ w = w' := by
  go_enter Try.func73, Try.ntmps73
  go_wp2
  go_loopg [6] 0 (fun _ iv wr => iv = .int .i64 1 ∧ wr = w)
  case atStart => exact ⟨rfl, rfl⟩
  case round =>
    obtain ⟨rfl, rfl⟩ := hrel
    go_wp2
    go_end0
    exact ⟨rfl, rfl⟩
set_option maxRecDepth 100000 in
theorem pdqNone_any (lim : Int) (w : World) : Calls Try.prog (60) #[.slice none 0 0, .int .i64 0, .int .i64 0, .int .i64 lim] w fun e w' => e = .returned (.tuple #[]) ∧ w = w' := by
  go_enter Try.func60, Try.ntmps60
  go_wp2_with fail
  go_loopg [1, 2, 3, 8, 9] 0 (fun _ av bv lv _ _ wr => av = .int .i64 0 ∧ bv = .int .i64 0 ∧ lv = .int .i64 lim ∧ wr = w)
  case atStart => exact ⟨rfl, rfl, rfl, rfl⟩
  case round =>
    obtain ⟨rfl, rfl, rfl, rfl⟩ := hrel
    go_wp2_with fail
    refine (insNone_any wr).mono ?_
    rintro e w' ⟨rfl, rfl⟩
    go_wp2
    refine bodyPost_ret (results_none rfl _ _ _) rfl ?_
    exact ⟨rfl, rfl⟩
theorem sortNone_any (w : World) : Calls Try.prog (51) #[.slice none 0 0] w fun e w' => e = .returned (.tuple #[]) ∧ w = w' := by
  have hLen : ∀ u, Calls Try.prog (56) #[.int .u64 0] u fun e w' => (∃ lim, e = .returned (.int .i64 lim)) ∧ w' = u := fun u =>
    (Any.bits_Len (SlLaysF0.n15.bits (P := Try.prog) (ρ := Try.sortPoint_ren) { Try.sortPoint with }) (0 : Int) u (by omega) (by omega)).mono (fun e w' h => ⟨⟨_, h.1⟩, h.2⟩)
  go_enter Try.func51, Try.ntmps51
  go_wp2_with (first | (go_at_call 56; refine (hLen _).mono ?_; rintro e w' ⟨⟨lim, rfl⟩, rfl⟩))
  refine (pdqNone_any _ _).mono ?_
  rintro e w' ⟨rfl, rfl⟩
  go_wp2
  go_end0
  exact ⟨rfl, rfl⟩
set_option maxHeartbeats 1000000 in
theorem sorted_any {gf : Nat} {lb : Array Value} (hg1 : (Value.func (.func gf) #[] lb) = .func (.func gf) #[] lb) (hFg : Fence.wide.fn gf) (eg : ∀ args w, (callFunc gf args).run Try.prog w = .ok (.enter gf args) w) (ks : List Int) (N : Nat) (hNk : ks.length = N) (hN : N < 1000000) (w : World)
    (hseq : ∀ W, Below w.heap.size w W → SeqStopsK Fence.wide 2 Try.prog gf lb (fun x : Int => #[eU x]) KeepsWalks (fun ys => ys.Perm ks) (fun _ => True) N W) :
    Calls Try.prog (31) #[.func (.func gf) #[] lb] w (SortedU N ks w) := by
  have H := Lib.hid (collect_any hg1 hFg eg _ N hN w hseq)
  clear hseq eg hg1
  go_enter Try.func31, Try.ntmps31
  go_wp2_with fail
  refine (H.out).mono ?_
  rintro e w1 ⟨v, ys, rfl, h1, h2, h3⟩
  have hyl : ys.length = N := h1.length_eq.trans hNk
  rcases row_of_owns h2 with ⟨rfl, rfl⟩ | ⟨g, cap, rfl, hg2, hR⟩
  · go_wp2_with fail
    refine (sortNone_any w1).mono ?_
    rintro e w2 ⟨rfl, rfl⟩
    have HE := Lib.hid (show SortedU N ks w (.returned (.slice none 0 0)) w1 from ⟨none, 0, [], by rw [← hyl]; rfl, hyl, h1, .nil, Els.nil _ _ _ _, fun _ => hyl.symm, h3, fun ad h => by cases h⟩)
    clear h1 h2 h3
    go_wp2
    go_ret
    exact HE.out
  · have HS := Lib.hid (sortU_any g cap ys.length ys rfl w1 hR (by omega))
    have H1 := Lib.hid h1
    have H3 := Lib.hid h3
    have HYL := Lib.hid hyl
    clear h1 h2 h3 hR hyl
    go_wp2_with fail
    refine (HS.out).mono ?_
    rintro e w2 ⟨rfl, zs, hz1, hz2, hz3, hz4⟩
    have HE := Lib.hid (show SortedU N ks w (.returned (.slice (some ⟨g, 0, none⟩) ys.length cap)) w2 from ⟨some ⟨g, 0, none⟩, cap, zs, by rw [HYL.out], by rw [hz1.length_eq, HYL.out], hz1.trans H1.out, hz2, hz3.els nu_len, (fun h => by cases h), H3.out.grown hz4 H3.out.size (fun k e => by cases e; exact hg2), fun ad h => by cases h; exact hg2⟩)
    clear hz1 hz2 hz3 hz4 HS
    go_wp2
    go_ret
    exact HE.out

theorem iter_walkM {w : World} {b r : Nat} {m todo : List (Int × Nat)} (h : IterIs Try.prog (29) eU eM w b r m todo) : ∃ o : Obj, w.heap[r]? = some o ∧ o.isWalk = true := by
  obtain ⟨es, clock, since, seen, c0, _, _, _, hr, _⟩ := h.blk
  exact ⟨_, hr, rfl⟩
theorem iter_keepsM {w w' : World} {b r : Nat} {m todo : List (Int × Nat)} (h : IterIs Try.prog (29) eU eM w b r m todo) (k : KeepsWalks w w') : IterIs Try.prog (29) eU eM w' b r m todo := by
  obtain ⟨es, clock, since, seen, c0, hb, _, _, hr, _⟩ := h.blk
  exact h.same ((k.same _ _ hb rfl).trans hb.symm) ((k.same _ _ hr rfl).trans hr.symm)

set_option maxRecDepth 100000 in
set_option maxHeartbeats 1000000 in
theorem keys1M_in (l bl b : Nat) (m : List (Int × Nat)) (J Jx : List Int → World → Prop)
    (hY : ∀ pre x W, J pre W → pre.length < m.length → YieldAt Fence.wide 1 Try.prog l #[eU x] W fun e W' =>
      (e = .returned (.bool true) ∧ J (pre ++ [x]) W' ∧ KeepsWalks W W') ∨ (e = .returned (.bool false) ∧ Jx (pre ++ [x]) W'))
    (W : World) (hJ : AbidesFrom W.heap.size J) (hV : W.heap[bl]? = some (.cells #[.map (some b)] (58) (0, 0))) (hM : MapIs Try.prog (29) eU eM W b m) (h0 : J [] W) :
    CallsIn Fence.wide 2 Try.prog (52) #[.func (.yield l) #[] #[], .pointer (some ⟨bl, 0, none⟩)] W fun e W' => (∃ v, e = .returned v) ∧
      ((∃ ys, ys.Perm (m.map (·.1)) ∧ J ys W') ∨ (∃ pre, True ∧ Jx pre W')) := by
  refine callsIn_of_wp Try.func52 rfl trivial ?_ rfl
  simp only [Try.ntmps52, List.size_toArray, List.length_cons, List.length_nil, Nat.reduceAdd, Nat.reduceSub, Array.replicate_succ, Array.replicate_zero, List.push_toArray, List.append_toArray, List.nil_append, List.cons_append]
  have HY := Lib.hid hY
  have HJ := Lib.hid hJ
  have cl := cell_of_blk hV 0
  simp at cl
  obtain ⟨w4, hrg, hit, hB4, hs4⟩ := hM.range Try.underlying58
  have HIT := Lib.hid hit
  have HJ0 := Lib.hid (hJ [] W w4 none h0 (grown_of_below hB4 : W.grownBy w4 none) (fun r e => by cases e))
  clear hV hY hJ hit h0 hB4
  gi_wp2
  clear cl hrg
  gi_loopg [3] m.length (fun gk _ wr => ∃ done todo : List (Int × Nat), todo.length = gk ∧ Hid (m.Perm (done ++ todo)) ∧ IterIs Try.prog (29) eU eM wr b W.heap.size m todo ∧ J (done.map (·.1)) wr)
  case atStart => exact ⟨[], m, rfl, Lib.hid (List.Perm.refl _), HIT.out, HJ0.out⟩
  case round =>
    obtain ⟨done, todo, htl, HP, hit, hJs⟩ := hrel
    rcases hit.next 0 with ⟨rfl, hnx⟩ | ⟨p, todo', w5, htp, hpm, hnx, hit2, hg2, hs2, hen⟩
    · have HE := Lib.hid (show (done.map (·.1)).Perm (m.map (·.1)) from by have := HP.out; rw [List.append_nil] at this; exact (this.map _).symm)
      gi_wp2
      go_end0
      exact ⟨⟨_, rfl⟩, .inl ⟨_, HE.out, hJs⟩⟩
    · have hlen : (done.map (·.1)).length < m.length := by
        have := HP.out.length_eq
        have h2 := htp.length_eq
        simp only [List.length_append, List.length_cons, List.length_map] at this h2 ⊢
        omega
      have htl2 : todo'.length + 1 = gk := by have := htp.length_eq; simp only [List.length_cons] at this; omega
      have HP2 := Lib.hid (show m.Perm ((done ++ [p]) ++ todo') from by rw [List.append_assoc]; exact HP.out.trans (List.Perm.append_left _ htp))
      obtain ⟨k, v⟩ := p
      have HJ2 := Lib.hid (HJ.out _ wr w5 (some W.heap.size) hJs hg2 (fun r e => by cases e; exact ⟨Nat.le_refl _, iter_walkM hit⟩))
      have HIT2 := Lib.hid hit2
      obtain ⟨fn, tmps, assign, body, hy, hR⟩ := HY.out _ k w5 HJ2.out hlen
      clear hlen hit hit2 htl htp hJs hs2 HJ2 hg2 hpm HIT HJ0 HP
      gi_wp2
      all_goals
        refine hR.mono ?_
        rintro e W3 (⟨rfl, hJ3, hk3⟩ | ⟨rfl, hJx3⟩)
        · have HIT3 := Lib.hid (iter_keepsM HIT2.out hk3)
          gi_wp2
          gi_roundg todo'.length
          case measure => omega
          case rel => exact ⟨done ++ [(k, v)], todo', rfl, HP2, HIT3.out, by rw [List.map_append]; exact hJ3⟩
        · gi_wp2
          refine bodyPost_ret (results_none rfl _ _ _) rfl ?_
          exact ⟨⟨_, rfl⟩, .inr ⟨_, trivial, hJx3⟩⟩

theorem keysM_stops (bl b : Nat) (m : List (Int × Nat)) (w : World) (hV : w.heap[bl]? = some (.cells #[.map (some b)] (58) (0, 0))) (hM : MapIs Try.prog (29) eU eM w b m) :
    SeqStopsK Fence.wide 2 Try.prog (52) #[.pointer (some ⟨bl, 0, none⟩)] (fun x : Int => #[eU x]) KeepsWalks (fun ys => ys.Perm (m.map (·.1))) (fun _ => True) m.length w := fun l J Jx W hW hJ _ hY h0 =>
  keys1M_in l bl b m J Jx hY W hJ ((hW.block _ (lt_of_blk hV)).trans hV) (hM.same (hW.block _ hM.lt)) h0

set_option maxRecDepth 100000 in
theorem keysM_any (b : Nat) (w : World) :
    Calls Try.prog (32) #[.map (some b)] w fun e w' => ∃ bl, e = .returned (.func (.func (52)) #[] #[.pointer (some ⟨bl, 0, none⟩)]) ∧ Below w.heap.size w w' ∧ w'.heap[bl]? = some (.cells #[.map (some b)] (58) (0, 0)) := by
  go_enter Try.func32, Try.ntmps32
  go_wp2
  go_ret
  exact ⟨_, rfl, (Below.refl _ w).alloc (Nat.le_refl _) _, blk_new_at rfl _⟩

set_option maxHeartbeats 1000000 in
/-- The keys of a map, rising. -/
theorem sortedM_any (bl b : Nat) (m : List (Int × Nat)) (hm : m.length < 1000000) (w : World) (hV : w.heap[bl]? = some (.cells #[.map (some b)] (58) (0, 0))) (hM : MapIs Try.prog (29) eU eM w b m) :
    Calls Try.prog (31) #[.func (.func (52)) #[] #[.pointer (some ⟨bl, 0, none⟩)]] w (SortedU m.length (m.map (·.1)) w) :=
  sorted_any (gf := (52)) rfl trivial (enters_of Try.func52 (by kernel_rfl) rfl) _ m.length (by simp) hm w (fun W hW => keysM_stops bl b m W ((hW.block _ (lt_of_blk hV)).trans hV) (hM.same (hW.block _ hM.lt)))

theorem iter_walkB {w : World} {b r : Nat} {m todo : List (Int × Int)} (h : IterIs Try.prog (29) eU eU w b r m todo) : ∃ o : Obj, w.heap[r]? = some o ∧ o.isWalk = true := by
  obtain ⟨es, clock, since, seen, c0, _, _, _, hr, _⟩ := h.blk
  exact ⟨_, hr, rfl⟩
theorem iter_keepsB {w w' : World} {b r : Nat} {m todo : List (Int × Int)} (h : IterIs Try.prog (29) eU eU w b r m todo) (k : KeepsWalks w w') : IterIs Try.prog (29) eU eU w' b r m todo := by
  obtain ⟨es, clock, since, seen, c0, hb, _, _, hr, _⟩ := h.blk
  exact h.same ((k.same _ _ hb rfl).trans hb.symm) ((k.same _ _ hr rfl).trans hr.symm)

set_option maxRecDepth 100000 in
set_option maxHeartbeats 1000000 in
theorem keys1B_in (l bl b : Nat) (m : List (Int × Int)) (J Jx : List Int → World → Prop)
    (hY : ∀ pre x W, J pre W → pre.length < m.length → YieldAt Fence.wide 1 Try.prog l #[eU x] W fun e W' =>
      (e = .returned (.bool true) ∧ J (pre ++ [x]) W' ∧ KeepsWalks W W') ∨ (e = .returned (.bool false) ∧ Jx (pre ++ [x]) W'))
    (W : World) (hJ : AbidesFrom W.heap.size J) (hV : W.heap[bl]? = some (.cells #[.map (some b)] (72) (0, 0))) (hM : MapIs Try.prog (29) eU eU W b m) (h0 : J [] W) :
    CallsIn Fence.wide 2 Try.prog (53) #[.func (.yield l) #[] #[], .pointer (some ⟨bl, 0, none⟩)] W fun e W' => (∃ v, e = .returned v) ∧
      ((∃ ys, ys.Perm (m.map (·.1)) ∧ J ys W') ∨ (∃ pre, True ∧ Jx pre W')) := by
  refine callsIn_of_wp Try.func53 rfl trivial ?_ rfl
  simp only [Try.ntmps53, List.size_toArray, List.length_cons, List.length_nil, Nat.reduceAdd, Nat.reduceSub, Array.replicate_succ, Array.replicate_zero, List.push_toArray, List.append_toArray, List.nil_append, List.cons_append]
  have HY := Lib.hid hY
  have HJ := Lib.hid hJ
  have cl := cell_of_blk hV 0
  simp at cl
  obtain ⟨w4, hrg, hit, hB4, hs4⟩ := hM.range Try.underlying72
  have HIT := Lib.hid hit
  have HJ0 := Lib.hid (hJ [] W w4 none h0 (grown_of_below hB4 : W.grownBy w4 none) (fun r e => by cases e))
  clear hV hY hJ hit h0 hB4
  gi_wp2
  clear cl hrg
  gi_loopg [3] m.length (fun gk _ wr => ∃ done todo : List (Int × Int), todo.length = gk ∧ Hid (m.Perm (done ++ todo)) ∧ IterIs Try.prog (29) eU eU wr b W.heap.size m todo ∧ J (done.map (·.1)) wr)
  case atStart => exact ⟨[], m, rfl, Lib.hid (List.Perm.refl _), HIT.out, HJ0.out⟩
  case round =>
    obtain ⟨done, todo, htl, HP, hit, hJs⟩ := hrel
    rcases hit.next 0 with ⟨rfl, hnx⟩ | ⟨p, todo', w5, htp, hpm, hnx, hit2, hg2, hs2, hen⟩
    · have HE := Lib.hid (show (done.map (·.1)).Perm (m.map (·.1)) from by have := HP.out; rw [List.append_nil] at this; exact (this.map _).symm)
      gi_wp2
      go_end0
      exact ⟨⟨_, rfl⟩, .inl ⟨_, HE.out, hJs⟩⟩
    · have hlen : (done.map (·.1)).length < m.length := by
        have := HP.out.length_eq
        have h2 := htp.length_eq
        simp only [List.length_append, List.length_cons, List.length_map] at this h2 ⊢
        omega
      have htl2 : todo'.length + 1 = gk := by have := htp.length_eq; simp only [List.length_cons] at this; omega
      have HP2 := Lib.hid (show m.Perm ((done ++ [p]) ++ todo') from by rw [List.append_assoc]; exact HP.out.trans (List.Perm.append_left _ htp))
      obtain ⟨k, v⟩ := p
      have HJ2 := Lib.hid (HJ.out _ wr w5 (some W.heap.size) hJs hg2 (fun r e => by cases e; exact ⟨Nat.le_refl _, iter_walkB hit⟩))
      have HIT2 := Lib.hid hit2
      obtain ⟨fn, tmps, assign, body, hy, hR⟩ := HY.out _ k w5 HJ2.out hlen
      clear hlen hit hit2 htl htp hJs hs2 HJ2 hg2 hpm HIT HJ0 HP
      gi_wp2
      all_goals
        refine hR.mono ?_
        rintro e W3 (⟨rfl, hJ3, hk3⟩ | ⟨rfl, hJx3⟩)
        · have HIT3 := Lib.hid (iter_keepsB HIT2.out hk3)
          gi_wp2
          gi_roundg todo'.length
          case measure => omega
          case rel => exact ⟨done ++ [(k, v)], todo', rfl, HP2, HIT3.out, by rw [List.map_append]; exact hJ3⟩
        · gi_wp2
          refine bodyPost_ret (results_none rfl _ _ _) rfl ?_
          exact ⟨⟨_, rfl⟩, .inr ⟨_, trivial, hJx3⟩⟩

theorem keysB_stops (bl b : Nat) (m : List (Int × Int)) (w : World) (hV : w.heap[bl]? = some (.cells #[.map (some b)] (72) (0, 0))) (hM : MapIs Try.prog (29) eU eU w b m) :
    SeqStopsK Fence.wide 2 Try.prog (53) #[.pointer (some ⟨bl, 0, none⟩)] (fun x : Int => #[eU x]) KeepsWalks (fun ys => ys.Perm (m.map (·.1))) (fun _ => True) m.length w := fun l J Jx W hW hJ _ hY h0 =>
  keys1B_in l bl b m J Jx hY W hJ ((hW.block _ (lt_of_blk hV)).trans hV) (hM.same (hW.block _ hM.lt)) h0

set_option maxRecDepth 100000 in
theorem keysB_any (b : Nat) (w : World) :
    Calls Try.prog (33) #[.map (some b)] w fun e w' => ∃ bl, e = .returned (.func (.func (53)) #[] #[.pointer (some ⟨bl, 0, none⟩)]) ∧ Below w.heap.size w w' ∧ w'.heap[bl]? = some (.cells #[.map (some b)] (72) (0, 0)) := by
  go_enter Try.func33, Try.ntmps33
  go_wp2
  go_ret
  exact ⟨_, rfl, (Below.refl _ w).alloc (Nat.le_refl _) _, blk_new_at rfl _⟩

set_option maxHeartbeats 1000000 in
/-- The keys of a map, rising. -/
theorem sortedB_any (bl b : Nat) (m : List (Int × Int)) (hm : m.length < 1000000) (w : World) (hV : w.heap[bl]? = some (.cells #[.map (some b)] (72) (0, 0))) (hM : MapIs Try.prog (29) eU eU w b m) :
    Calls Try.prog (31) #[.func (.func (53)) #[] #[.pointer (some ⟨bl, 0, none⟩)]] w (SortedU m.length (m.map (·.1)) w) :=
  sorted_any (gf := (53)) rfl trivial (enters_of Try.func53 (by kernel_rfl) rfl) _ m.length (by simp) hm w (fun W hW => keysB_stops bl b m W ((hW.block _ (lt_of_blk hV)).trans hV) (hM.same (hW.block _ hM.lt)))
end Go.Proofs.Ytnnpheklgdbohaa
