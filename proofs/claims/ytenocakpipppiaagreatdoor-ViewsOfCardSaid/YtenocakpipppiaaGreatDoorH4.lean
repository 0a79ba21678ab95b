/- views.seen: where what it makes lies. Condition: fewer than 1000000 links. · views.History's first loop: what each round does to the two lists and the map. No condition. -/
import Derived.Test.YtenocakpipppiaaGreatDoorH3
import Derived.Maps.AppendAt
import Derived.Maps.OwnIn
namespace Go.Proofs.YtenocakpipppiaaGreatDoor
open Go.RowKit Go.Shelf Go.Herb
attribute [local go_sem] Oper.semAt_some

def SeenPost2 (vl : Value) (cs : List Lk) (at_ : Int) (w : World) (e : Ending) (w' : World) : Prop :=
  ∃ bl bu ba bm : Nat, e = .returned (.func (.func 41) #[] #[.pointer (some ⟨bl, 0, none⟩), .pointer (some ⟨bu, 0, none⟩), .pointer (some ⟨ba, 0, none⟩)]) ∧ (w.heap.size ≤ bl ∧ w.heap.size ≤ bu ∧ w.heap.size ≤ ba ∧ w.heap.size ≤ bm) ∧ Below w.heap.size w w' ∧ SeenV w' bl bu ba bm vl (uptoM (backs cs cs.length)) at_

set_option maxRecDepth 100000 in
set_option maxHeartbeats 1000000 in
theorem seen2_in (n : Nat) (hn : 3 ≤ n) (al : Option Addr) (nl cl : Nat) (ac : Option Addr) (cc : Nat) (cs : List Lk) (at_ : Int) (w : World) (hC : Links w ac cs) (hlen : cs.length < 1000000) :
    CallsIn Fence.wide n Tryz.prog 24 #[.slice al nl cl, .slice ac cs.length cc, .int .u64 at_] w (SeenPost2 (.slice al nl cl) cs at_ w) := by
  have h1 : 1 ≤ n := by omega
  have hmm := @run_makeMap Tryz.prog
  have hac : 0 < cs.length → ∀ ad, ac = some ad → ad.block < w.heap.size := by
    intro h ad had
    obtain ⟨b, o, ha, hlt, _⟩ := hC.get 0 h
    rw [had] at ha
    injection ha with ha
    rw [ha]
    exact hlt
  have HC := Lib.hid hC
  have HAC := Lib.hid hac
  clear hC hac
  refine callsIn_of_wp_marks Tryz.func24 rfl trivial ?_ rfl
  simp only [Tryz.ntmps24, List.size_toArray, List.length_cons, List.length_nil, Nat.reduceAdd, Nat.reduceSub, Array.replicate_succ, Array.replicate_zero, List.push_toArray, List.append_toArray, List.nil_append, List.cons_append]
  gi_wp2_with (refine ⟨trivial, ?_⟩; gi_at_call 40; refine (callsIn_wide.2 (backward_any ac cs.length cc _)).mono ?_; rintro e w' ⟨rfl, rfl⟩)
  obtain ⟨B, hB⟩ : ∃ B, B = w.heap.size := ⟨_, rfl⟩
  obtain ⟨W0, hW0⟩ : ∃ W0 : World, ((((w.alloc (.cells #[.slice al nl cl] 22)).alloc (.cells #[.int .u64 at_] 24)).alloc (.map #[] 0)).alloc (.cells #[.map (some (w.heap.size + 1 + 1))] 89)).alloc (.cells #[.slice ac cs.length cc] 23) = W0 := ⟨_, rfl⟩
  have hsz : W0.heap.size = w.heap.size + 5 := by rw [← hW0]; simp
  have hB0 : Below w.heap.size w W0 := by
    rw [← hW0]
    exact (((((Below.refl _ w).alloc (Nat.le_refl _) _).alloc (by simp) _).alloc (by simp; omega) _).alloc (by simp; omega) _).alloc (by simp; omega) _
  have b0 : W0.heap[w.heap.size]? = some (.cells #[.slice al nl cl] 22 (0, 0)) := by
    rw [← hW0]
    exact blk_alloc (blk_alloc (blk_alloc (blk_alloc (blk_new_at rfl _))))
  have b1 : W0.heap[w.heap.size + 1]? = some (.cells #[.int .u64 at_] 24 (0, 0)) := by
    rw [← hW0]
    exact blk_alloc (blk_alloc (blk_alloc (blk_new_at (by simp) _)))
  have b2 : MapU W0 (w.heap.size + 1 + 1) [] := by
    have h := MapIs.made (P := Tryz.prog) (k := 24) (encK := eU) (encV := eU) ((w.alloc (.cells #[.slice al nl cl] 22)).alloc (.cells #[.int .u64 at_] 24))
    simp only [World.size_alloc] at h
    refine h.same ?_
    rw [← hW0]
    rw [Below.heap_alloc _ _ _ (by simp), Below.heap_alloc _ _ _ (by simp)]
  have b3 : W0.heap[w.heap.size + 1 + 1 + 1]? = some (.cells #[.map (some (w.heap.size + 1 + 1))] 89 (0, 0)) := by
    rw [← hW0]
    exact blk_alloc (blk_new_at (by simp) _)
  have b4 : W0.heap[w.heap.size + 1 + 1 + 1 + 1]? = some (.cells #[.slice ac cs.length cc] 23 (0, 0)) := by
    rw [← hW0]
    exact blk_new_at (by simp) _
  rw [hW0]
  clear hW0
  refine wpIn_rangeFunc_ownH rfl h1 (gf := 54) (lb := #[.pointer (some ⟨w.heap.size + 1 + 1 + 1 + 1, 0, none⟩)]) rfl trivial (enters_of Tryz.func54 (by kernel_rfl) rfl)
    (backward_stops Fence.wide (n - 1) trivial rfl (by omega) (w.heap.size + 1 + 1 + 1 + 1) W0.heap.size (w.heap.size + 1 + 1) ac cc cs hlen W0 (by omega) (by omega) (Nat.le_refl _) (cell_of_blk b4 0) (HC.out.ext hB0) (fun h0 ad h => by have := HAC.out h0 ad h; omega))
    (fun h k => h.trans k) (kept_b (Nat.le_refl _)) (Below.refl _ _) (fun _ => rfl)
    (fun pre W => ((W.heap[w.heap.size]? = some (.cells #[.slice al nl cl] 22 (0, 0)) ∧ W.heap[w.heap.size + 1]? = some (.cells #[.int .u64 at_] 24 (0, 0))) ∧ (W.heap[w.heap.size + 1 + 1 + 1]? = some (.cells #[.map (some (w.heap.size + 1 + 1))] 89 (0, 0)) ∧ MapU W (w.heap.size + 1 + 1) (uptoM pre))) ∧ (Below w.heap.size w W ∧ W0.heap.size ≤ W.heap.size))
    (fun _ _ _ => False)
    (OwnFrom.and (OwnFrom.and (OwnFrom.and (blk_ownFrom _ _ (fun _ => #[.slice al nl cl]) 22) (blk_ownFrom _ _ (fun _ => #[.int .u64 at_]) 24)) (OwnFrom.and (blk_ownFrom _ _ (fun _ => #[.map (some (w.heap.size + 1 + 1))]) 89) (map_ownFrom _ _ (by omega) _))) (OwnFrom.and (ownFrom_below (Nat.le_refl _) (by omega)) (size_ownFrom _ _)))
    (fun _ _ _ _ _ hs _ _ => hs)
    ⟨⟨⟨b0, b1⟩, b3, b2⟩, hB0, Nat.le_refl _⟩
    (fun x a' W => ∃ Bx, W0.heap.size ≤ Bx ∧ W.heap[Bx]? = some (.cells #[.int .u64 x.2.line, .int .u64 x.2.upto] 52 (0, 0)) ∧ a' = { tmps := #[.slice al nl cl, .slice ac cs.length cc, .int .u64 at_, .pointer (some ⟨w.heap.size, 0, none⟩), undef, .pointer (some ⟨w.heap.size + 1, 0, none⟩), .nilFunc, .pointer (some ⟨w.heap.size + 1 + 1 + 1, 0, none⟩), undef, .pointer (some ⟨Bx, 0, none⟩), .map (some (w.heap.size + 1 + 1)), .slice ac cs.length cc, .func (.func 54) #[] #[.pointer (some ⟨w.heap.size + 1 + 1 + 1 + 1, 0, none⟩)], .int .i64 x.1, lv x.2, undef, undef, undef, undef, undef, undef], defers := [] })
    (fun x a' _ X Y row hs hg hr => by obtain ⟨Bx, h1, h2, h3⟩ := hs; exact ⟨Bx, h1, blk_ownFrom W0.heap.size Bx (fun (_ : Unit) => #[.int .u64 x.2.line, .int .u64 x.2.upto]) 52 () X Y row h2 hg hr, h3⟩)
    ?assign ?body ?done ?stop
  case assign =>
    rintro l pre x W K ⟨⟨⟨i0, i1⟩, i3, i2⟩, hBi, hWs⟩ hK
    gi_wp2
    exact hK _ _ ((KeepsOthers.alloc _ _).from _) (Kept.below ((Below.refl _ W).alloc hWs _)) ⟨⟨⟨blk_alloc i0, blk_alloc i1⟩, blk_alloc i3, i2.same (Below.heap_alloc _ _ _ i2.lt)⟩, hBi.alloc hBi.size _, by simp; omega⟩ ⟨W.heap.size, hWs, blk_new_at rfl _, rfl⟩
  case body =>
    rintro l pre x a' W hl ⟨r, hr⟩ ⟨⟨⟨i0, i1⟩, i3, i2⟩, hBi, hWs⟩ ⟨Bx, hBx, bX, rfl⟩ hlt
    obtain ⟨w1, hrun, hM1, hg1, hs1⟩ := i2.store law25 eU_inj Tryz.underlying89 (by have := uptoM_len pre; unfold maxLen; omega) x.2.upto (Maps.keyOf_int_mk Tryz.underlying24 x.2.wl)
    have c3 := cell_of_blk i3 0
    have cx0 := cell_of_blk bX 0
    have cx1 := cell_of_blk bX 1
    simp at c3 cx0 cx1
    have HM1 := Lib.hid hM1
    have HG1 := Lib.hid hg1
    clear hM1 hg1 hs1
    gi_wp2
    have hg1 := HG1.out
    have keep : ∀ b, b < W.heap.size → b ≠ w.heap.size + 1 + 1 → w1.heap[b]? = W.heap[b]? := fun b h1 h2 => hg1.block b h1 (fun e => h2 (by cases e; rfl))
    refine ⟨KeepsFrom.of_grownBy hg1 (fun j e => by cases e; omega), Kept.grown hg1 hWs, ⟨⟨⟨(keep _ (lt_of_blk i0) (by omega)).trans i0, (keep _ (lt_of_blk i1) (by omega)).trans i1⟩, (keep _ (lt_of_blk i3) (by omega)).trans i3, ?_⟩, hBi.grown hg1 hBi.size (fun k e => by cases e; omega), Nat.le_trans hWs hg1.size⟩⟩
    rw [uptoM_snoc]
    exact HM1.out
  case done =>
    rintro D ys W hD rfl ⟨⟨⟨i0, i1⟩, i3, i2⟩, hBi, hWs⟩ hK
    gi_wp2
    refine ⟨by simp, .inl ⟨_, _, rfl, run_takeDeferred hK, ?_⟩⟩
    have keep : ∀ b, b < W0.heap.size → (W.putObj D (.deferred none)).heap[b]? = W.heap[b]? := fun b h => World.putObj_heap_other (fun e => by omega)
    exact ⟨_, results_tmp rfl _ _ _, ⟨w.heap.size, w.heap.size + 1 + 1 + 1, w.heap.size + 1, w.heap.size + 1 + 1, rfl, ⟨by omega, by omega, by omega, by omega⟩, hBi.trans (belowK_b (w := w) (Nat.le_refl _) W D _ _ (by omega) hK rfl rfl),
      ⟨(keep _ (by omega)).trans i0, (keep _ (by omega)).trans i3, (keep _ (by omega)).trans i1, i2.same (keep _ (by omega))⟩⟩⟩
  case stop =>
    rintro D c pre W _ _ h _
    exact h.elim

theorem seen2_any (al : Option Addr) (nl cl : Nat) (ac : Option Addr) (cc : Nat) (cs : List Lk) (at_ : Int) (w : World) (hC : Links w ac cs) (hlen : cs.length < 1000000) :
    Calls Tryz.prog 24 #[.slice al nl cl, .slice ac cs.length cc, .int .u64 at_] w (SeenPost2 (.slice al nl cl) cs at_ w) :=
  (callsIn_wide (n := 3)).1 (seen2_in 3 (Nat.le_refl _) al nl cl ac cc cs at_ w hC hlen)
end Go.Proofs.YtenocakpipppiaaGreatDoor

namespace Go.Proofs.YtenocakpipppiaaGreatDoor
open Go.RowKit Go.Shelf Go.Herb

theorem wpListIn_append_run {F : Fence} {n : Nat} {P : Program} {ops : Array Oper} {rest : List Oper} {o : Oper} {a : Act} {Q : Exit → Act → World → Prop} (w : World) (hgd : o.guard = none) (s x : Operand) (t tn : TypeId)
    (ho : o.op = .call { callee := .builtin .append, args := #[s, x], argTypes := #[t, tn] }) (vs vx : Value) (hs : a.eval s = vs) (hx : a.eval x = vx)
    (v' : Value) (w' : World) (hr : (Builtin.append_ #[t, tn] o.type #[vs, vx]).run P w = .ok v' w')
    (h : wpListIn F n P ops Q rest (a.put o.dst v') w') : wpListIn F n P ops Q (o :: rest) a w := by
  refine wpListIn_plain hgd fun K hK' => ?_
  unfold Oper.wpIn
  refine ⟨?_, ?_⟩
  · simp [Oper.about, ho, resolve, Target.leads, Sem.run_pure]
  · rw [Oper.semAt_plain F _ _ (by rw [ho]; intro c hc'; cases hc')]
    simp [execOp, ho, resolve, invoke, builtin, hs, hx, hr, Result.andThen]
    exact hK' _ _ h

theorem blk_setCell_one {w : World} {b : Nat} {v : Value} {t : TypeId} (h : w.heap[b]? = some (.cells #[v] t (0, 0))) (v' : Value) : (w.setCell ⟨b, 0, none⟩ v').heap[b]? = some (.cells #[v'] t (0, 0)) := by
  have := blk_setCell (j := 0) h v'
  simpa using this

/-- append of one fact, and where the result lies. -/
theorem run_append_fact_at (w : World) (B : Nat) (v : Value) (xs : List Fc) (vb : Nat) (x : Fc) (ho : OwnF B w v xs) (hb : w.heap[vb]? = some (.cells (fc x).toArray 50 (0, 0))) (hx : xs.length < 1000000) (hB : B ≤ w.heap.size) (ty : TypeId) :
    ∃ v' w', (Builtin.append_ #[22, 22] ty #[v, .slice (some ⟨vb, 0, none⟩) 1 1]).run Tryz.prog w = .ok v' w' ∧ OwnF B w' v' (xs ++ [x]) ∧ w.grownBy w' v.ownBlock ∧ (v'.ownBlock = v.ownBlock ∨ v'.ownBlock = some w.heap.size) := by
  obtain ⟨i0, hin, hz0, hz1, hz2⟩ := info_parts Tryz.info50
  have hT := els_of_one hb
  obtain ⟨v', w', hr, h2, h3, _, h5⟩ := run_append_own_at (P := Tryz.prog) (w := w) B 22 ty 50 i0 _ 6 64 Tryz.underlying22 hin hz0 hz1 hz2 rfl (by decide) v xs.length (xs.flatMap fc) ho ⟨vb, 0, none⟩ 1 1 ([x].flatMap fc) (flatMap_len fc_len _) (hT.flat fc_len (by decide)) (fc_flat_one _) (by unfold maxLen; omega) (by omega) hB
  refine ⟨v', w', hr, ?_, h3, h5⟩
  unfold OwnF
  rw [List.length_append, List.flatMap_append]
  exact h2

/-- The facts of a key up to a place. -/
def oldF (key : ByteArray) (at_ : Int) (zs : List Fc) : List Fc := zs.filter (fun x => decide (x.key.toList = key.toList) && decide (x.seq ≤ at_))
theorem oldF_snoc (key : ByteArray) (at_ : Int) (zs : List Fc) (x : Fc) : oldF key at_ (zs ++ [x]) = if x.key.toList = key.toList ∧ x.seq ≤ at_ then oldF key at_ zs ++ [x] else oldF key at_ zs := by
  unfold oldF
  rw [List.filter_append]
  by_cases h1 : x.key.toList = key.toList <;> by_cases h2 : x.seq ≤ at_ <;> simp [h1, h2]
/-- Beyond it: the first of each time and place, and which they are. -/
def newStep (key : ByteArray) (at_ : Int) (p : List Fc × List (Tq × Int)) (x : Fc) : List Fc × List (Tq × Int) :=
  if x.key.toList = key.toList ∧ at_ < x.seq ∧ getL p.2 (x.valid, x.seq) = none then (p.1 ++ [x], putL p.2 (x.valid, x.seq) 1) else p
def newF (key : ByteArray) (at_ : Int) (zs : List Fc) : List Fc × List (Tq × Int) := zs.foldl (newStep key at_) ([], [])
theorem newF_snoc (key : ByteArray) (at_ : Int) (zs : List Fc) (x : Fc) : newF key at_ (zs ++ [x]) = newStep key at_ (newF key at_ zs) x := by simp [newF]
theorem newStep_len (key : ByteArray) (at_ : Int) (p : List Fc × List (Tq × Int)) (x : Fc) : (newStep key at_ p x).1.length ≤ p.1.length + 1 ∧ (newStep key at_ p x).2.length ≤ p.2.length + 1 := by
  unfold newStep
  split
  · exact ⟨by simp, putL_length _ _ _⟩
  · exact ⟨by omega, by omega⟩
theorem newF_len (key : ByteArray) (at_ : Int) (zs : List Fc) : (newF key at_ zs).1.length ≤ zs.length ∧ (newF key at_ zs).2.length ≤ zs.length := by
  suffices h : ∀ p : List Fc × List (Tq × Int), (zs.foldl (newStep key at_) p).1.length ≤ p.1.length + zs.length ∧ (zs.foldl (newStep key at_) p).2.length ≤ p.2.length + zs.length by
    have := h ([], []); simpa [newF] using this
  induction zs with
  | nil => intro p; simp
  | cons x zs ih => intro p; have h1 := ih (newStep key at_ p x); have h2 := newStep_len key at_ p x; simp only [List.foldl_cons, List.length_cons]; omega
theorem getL_put_one {m : List (Tq × Int)} (h : ∀ a v, getL m a = some v → v = 1) (a : Tq) : ∀ c v, getL (putL m a 1) c = some v → v = 1 := by
  intro c v hv
  by_cases e : c = a
  · rw [e, getL_put_same] at hv; cases hv; rfl
  · rw [getL_put_other _ _ _ e] at hv; exact h c v hv
theorem newF_one (key : ByteArray) (at_ : Int) (zs : List Fc) : ∀ a v, getL (newF key at_ zs).2 a = some v → v = 1 := by
  suffices h : ∀ p : List Fc × List (Tq × Int), (∀ a v, getL p.2 a = some v → v = 1) → ∀ a v, getL (zs.foldl (newStep key at_) p).2 a = some v → v = 1 from h ([], []) (by intro a v h; rw [getL_nil] at h; cases h)
  induction zs with
  | nil => intro p h; exact h
  | cons x zs ih =>
    intro p h
    rw [List.foldl_cons]
    apply ih
    unfold newStep
    split
    · exact getL_put_one h _
    · exact h

/-- Between two rounds. -/
structure HistAt (s B : Nat) (w : World) (wv : Array Value) (key : ByteArray) (vo va : Value) (old new : List Fc) (m : List (Tq × Int)) (W : World) : Prop where
  b0 : W.heap[s]? = some (.cells wv 26 (0, 0))
  b1 : W.heap[s + 1]? = some (.cells #[.string key] 9 (0, 0))
  b2 : W.heap[s + 2]? = some (.cells #[vo] 22 (0, 0))
  b3 : W.heap[s + 3]? = some (.cells #[va] 22 (0, 0))
  b5 : W.heap[s + 5]? = some (.cells #[.map (some (s + 4))] 72 (0, 0))
  mp : MapE W (s + 4) m
  oo : OwnF B W vo old
  oa : OwnF B W va new
  ap : ∀ k, vo.ownBlock = some k → va.ownBlock ≠ some k
  sz : B ≤ W.heap.size
  bl : Below s w W
  sw : s ≤ w.heap.size

section
variable {s B : Nat} {w W W' : World} {wv : Array Value} {key : ByteArray} {vo va : Value} {old new : List Fc} {m : List (Tq × Int)} {row : Option Nat}

theorem HistAt.kept (h : HistAt s B w wv key vo va old new m W) (hs : s + 5 < B) (hg : W.grownBy W' row) (hr : ∀ r, row = some r → s + 5 < r ∧ vo.ownBlock ≠ some r ∧ va.ownBlock ≠ some r) : HistAt s B w wv key vo va old new m W' := by
  have hk : ∀ b, b ≤ s + 5 → W'.heap[b]? = W.heap[b]? := fun b hb => hg.block b (by have := h.sz; omega) (fun e => by have := (hr b e.symm).1; omega)
  refine ⟨(hk _ (by omega)).trans h.b0, (hk _ (by omega)).trans h.b1, (hk _ (by omega)).trans h.b2, (hk _ (by omega)).trans h.b3, (hk _ (by omega)).trans h.b5, h.mp.same (hk _ (by omega)), World.ownsRow.kept h.oo hg ?_, World.ownsRow.kept h.oa hg ?_, h.ap, Nat.le_trans h.sz hg.size, h.bl.grown hg (Nat.le_trans h.sw h.bl.size) (fun r e => by have := (hr r e).1; omega), h.sw⟩
  · cases hv : vo.ownBlock with
    | none => exact .inl rfl
    | some k => exact .inr (fun e => (hr k e.symm).2.1 hv)
  · cases hv : va.ownBlock with
    | none => exact .inl rfl
    | some k => exact .inr (fun e => (hr k e.symm).2.2 hv)

theorem HistAt.alloc (h : HistAt s B w wv key vo va old new m W) (hs : s + 5 < B) (o : Obj) : HistAt s B w wv key vo va old new m (W.alloc o) :=
  h.kept hs (World.grownBy_alloc W o none) (fun r e => by cases e)

theorem HistAt.drew (h : HistAt s B w wv key vo va old new m W) : HistAt s B w wv key vo va old new m W.drew :=
  ⟨h.b0, h.b1, h.b2, h.b3, h.b5, h.mp.same rfl, h.oo, h.oa, h.ap, h.sz, h.bl.drew, h.sw⟩

/-- The list of the old ones grew. -/
theorem HistAt.growOld (h : HistAt s B w wv key vo va old new m W) (hs : s + 5 < B) {vo' : Value} {old' : List Fc} (hO : OwnF B W' vo' old') (hg : W.grownBy W' vo.ownBlock) (hb : vo'.ownBlock = vo.ownBlock ∨ vo'.ownBlock = some W.heap.size) :
    HistAt s B w wv key vo' va old' new m (W'.setCell ⟨s + 2, 0, none⟩ vo') := by
  have hrow : ∀ k, vo.ownBlock = some k → B ≤ k := fun k e => (World.ownsRow.lt h.oo k e).1
  have hk : ∀ b, b ≤ s + 5 → W'.heap[b]? = W.heap[b]? := fun b hb => hg.block b (by have := h.sz; omega) (fun e => by have := hrow b e.symm; omega)
  have hg2 : W'.grownBy (W'.setCell ⟨s + 2, 0, none⟩ vo') (some (s + 2)) := grownBy_setCell' W' (s + 2) vo'
  have hk2 : ∀ b, b ≤ s + 5 → b ≠ s + 2 → (W'.setCell ⟨s + 2, 0, none⟩ vo').heap[b]? = W.heap[b]? := fun b hb hne => (Below.heap_setCell _ _ _ _ hne).trans (hk b hb)
  have hbl := Nat.le_trans h.sw h.bl.size
  have hsz := h.sz
  refine ⟨(hk2 _ (by omega) (by omega)).trans h.b0, (hk2 _ (by omega) (by omega)).trans h.b1, ?_, (hk2 _ (by omega) (by omega)).trans h.b3, (hk2 _ (by omega) (by omega)).trans h.b5, h.mp.same (hk2 _ (by omega) (by omega)), World.ownsRow.kept hO hg2 ?_, ?_, ?_, Nat.le_trans hsz (Nat.le_trans hg.size hg2.size), (h.bl.grown hg hbl (fun k e => by have := hrow k e; omega)).grown hg2 (by have := hg.size; omega) (fun k e => by cases e; omega), h.sw⟩
  · exact blk_setCell_one ((hk _ (by omega)).trans h.b2) _
  · exact .inr (fun e => by have := (World.ownsRow.lt hO _ e).1; omega)
  · refine World.ownsRow.kept (World.ownsRow.kept h.oa hg ?_) hg2 (.inr (fun e => by have := (World.ownsRow.lt h.oa _ e).1; omega))
    cases hv : va.ownBlock with
    | none => exact .inl rfl
    | some k => exact .inr (fun e => h.ap k e.symm hv)
  · intro k e1 e2
    rcases hb with hb | hb
    · exact h.ap k (hb ▸ e1) e2
    · have := (World.ownsRow.lt h.oa k e2).2
      rw [hb] at e1
      injection e1 with e1
      omega

/-- The list of the new ones grew. -/
theorem HistAt.growNew (h : HistAt s B w wv key vo va old new m W) (hs : s + 5 < B) {va' : Value} {new' : List Fc} (hO : OwnF B W' va' new') (hg : W.grownBy W' va.ownBlock) (hb : va'.ownBlock = va.ownBlock ∨ va'.ownBlock = some W.heap.size) :
    HistAt s B w wv key vo va' old new' m (W'.setCell ⟨s + 3, 0, none⟩ va') := by
  have hrow : ∀ k, va.ownBlock = some k → B ≤ k := fun k e => (World.ownsRow.lt h.oa k e).1
  have hk : ∀ b, b ≤ s + 5 → W'.heap[b]? = W.heap[b]? := fun b hb => hg.block b (by have := h.sz; omega) (fun e => by have := hrow b e.symm; omega)
  have hg2 : W'.grownBy (W'.setCell ⟨s + 3, 0, none⟩ va') (some (s + 3)) := grownBy_setCell' W' (s + 3) va'
  have hk2 : ∀ b, b ≤ s + 5 → b ≠ s + 3 → (W'.setCell ⟨s + 3, 0, none⟩ va').heap[b]? = W.heap[b]? := fun b hb hne => (Below.heap_setCell _ _ _ _ hne).trans (hk b hb)
  have hbl := Nat.le_trans h.sw h.bl.size
  have hsz := h.sz
  refine ⟨(hk2 _ (by omega) (by omega)).trans h.b0, (hk2 _ (by omega) (by omega)).trans h.b1, (hk2 _ (by omega) (by omega)).trans h.b2, ?_, (hk2 _ (by omega) (by omega)).trans h.b5, h.mp.same (hk2 _ (by omega) (by omega)), ?_, World.ownsRow.kept hO hg2 ?_, ?_, Nat.le_trans hsz (Nat.le_trans hg.size hg2.size), (h.bl.grown hg hbl (fun k e => by have := hrow k e; omega)).grown hg2 (by have := hg.size; omega) (fun k e => by cases e; omega), h.sw⟩
  · exact blk_setCell_one ((hk _ (by omega)).trans h.b3) _
  · refine World.ownsRow.kept (World.ownsRow.kept h.oo hg ?_) hg2 (.inr (fun e => by have := (World.ownsRow.lt h.oo _ e).1; omega))
    cases hv : vo.ownBlock with
    | none => exact .inl rfl
    | some k => exact .inr (fun e => h.ap k hv e.symm)
  · exact .inr (fun e => by have := (World.ownsRow.lt hO _ e).1; omega)
  · intro k e1 e2
    rcases hb with hb | hb
    · exact h.ap k e1 (hb ▸ e2)
    · have := (World.ownsRow.lt h.oo k e1).2
      rw [hb] at e2
      injection e2 with e2
      omega

/-- The map was written. -/
theorem HistAt.putMap (h : HistAt s B w wv key vo va old new m W) (hs : s + 5 < B) {m' : List (Tq × Int)} (hg : W.grownBy W' (some (s + 4))) (hM : MapE W' (s + 4) m') : HistAt s B w wv key vo va old new m' W' := by
  have hk : ∀ b, b ≤ s + 5 → b ≠ s + 4 → W'.heap[b]? = W.heap[b]? := fun b hb hne => hg.block b (by have := h.sz; omega) (fun e => hne (by cases e; rfl))
  have hbl := Nat.le_trans h.sw h.bl.size
  refine ⟨(hk _ (by omega) (by omega)).trans h.b0, (hk _ (by omega) (by omega)).trans h.b1, (hk _ (by omega) (by omega)).trans h.b2, (hk _ (by omega) (by omega)).trans h.b3, (hk _ (by omega) (by omega)).trans h.b5, hM, World.ownsRow.kept h.oo hg ?_, World.ownsRow.kept h.oa hg ?_, h.ap, Nat.le_trans h.sz hg.size, h.bl.grown hg hbl (fun k e => by cases e; omega), h.sw⟩
  · exact .inr (fun e => by have := (World.ownsRow.lt h.oo _ e).1; omega)
  · exact .inr (fun e => by have := (World.ownsRow.lt h.oa _ e).1; omega)
end

/-- What a round may do. -/
def HistI (s B : Nat) (w : World) (wv : Array Value) (key : ByteArray) (at_ : Int) (pre : List Fc) (W : World) : Prop :=
  ∃ vo va, HistAt s B w wv key vo va (oldF key at_ pre) (newF key at_ pre).1 (newF key at_ pre).2 W
theorem own_not_cells {B : Nat} {w : World} {v : Value} {xs : List Fc} (h : OwnF B w v xs) {r : Nat} {o : Obj} (ho : w.heap[r]? = some o) (hc : o.isCells = false) : v.ownBlock ≠ some r := by
  intro e
  rcases h.2 with ⟨rfl, _⟩ | ⟨g, cap, cur, rfl, _, hg, _⟩
  · simp [Value.ownBlock] at e
  · simp [Value.ownBlock] at e
    rw [e, ho] at hg
    cases hg
    cases hc
theorem keeps_row {B : Nat} {W W' : World} {v : Value} {xs : List Fc} (ho : OwnF B W v xs) (hg : W.grownBy W' v.ownBlock) : KeepsFrom B W W' :=
  ⟨hg.size, fun k _ _ hk hc => (hg.block k (lt_of_blk hk) (fun e => own_not_cells ho hk hc e.symm)).trans hk⟩

/-- 'old = append(old, f)'. -/
theorem histOld {s B : Nat} {w X : World} {wv : Array Value} {key : ByteArray} {vo va : Value} {old new : List Fc} {m : List (Tq × Int)} (h : HistAt s B w wv key vo va old new m X) (hs : s + 5 < B) (x : Fc) (hx : old.length < 1000000) :
    ∃ v' w3, (Builtin.append_ #[22, 22] 22 #[vo, .slice (some ⟨X.heap.size, 0, none⟩) 1 1]).run Tryz.prog (X.alloc (.cells (fc x).toArray 50)) = .ok v' w3 ∧ w3.heap[s + 2]? = some (.cells #[vo] 22 (0, 0)) ∧
      HistAt s B w wv key v' va (old ++ [x]) new m (w3.setCell ⟨s + 2, 0, none⟩ v') ∧ KeepsFrom B X (w3.setCell ⟨s + 2, 0, none⟩ v') ∧ Kq s (s + 6) B X (w3.setCell ⟨s + 2, 0, none⟩ v') := by
  have h2 := h.alloc hs (.cells (fc x).toArray 50)
  obtain ⟨v', w3, hrun, hO, hg, hb⟩ := run_append_fact_at _ B vo old X.heap.size x h2.oo (blk_new_at rfl _) hx h2.sz 22
  have hrow : ∀ k, vo.ownBlock = some k → B ≤ k := fun k e => (World.ownsRow.lt h.oo k e).1
  have hsz := h.sz
  refine ⟨v', w3, hrun, ?_, h2.growOld hs hO hg hb, ?_, ?_⟩
  · exact (hg.block _ (by simp; omega) (fun e => by have := hrow _ e.symm; omega)).trans h2.b2
  · exact (((KeepsOthers.alloc X (.cells (fc x).toArray 50)).from B).trans (keeps_row h2.oo hg)).trans (KeepsFrom.of_grownBy (grownBy_setCell' w3 (s + 2) v') (fun j e => by cases e; omega))
  · exact (((Kq.refl s (s + 6) B X).alloc hsz (.cells (fc x).toArray 50)).grown hg h2.sz (fun k e i => by have := hrow k e; have := i.1; omega)).grown (grownBy_setCell' w3 (s + 2) v') (Nat.le_trans h2.sz hg.size) (fun k e i => by cases e; have := i.2; omega)

/-- 'all = append(all, f)'. -/
theorem histNew {s B : Nat} {w X : World} {wv : Array Value} {key : ByteArray} {vo va : Value} {old new : List Fc} {m : List (Tq × Int)} (h : HistAt s B w wv key vo va old new m X) (hs : s + 5 < B) (x : Fc) (hx : new.length < 1000000) :
    ∃ v' w3, (Builtin.append_ #[22, 22] 22 #[va, .slice (some ⟨X.heap.size, 0, none⟩) 1 1]).run Tryz.prog (X.alloc (.cells (fc x).toArray 50)) = .ok v' w3 ∧ w3.heap[s + 3]? = some (.cells #[va] 22 (0, 0)) ∧
      HistAt s B w wv key vo v' old (new ++ [x]) m (w3.setCell ⟨s + 3, 0, none⟩ v') ∧ KeepsFrom B X (w3.setCell ⟨s + 3, 0, none⟩ v') ∧ Kq s (s + 6) B X (w3.setCell ⟨s + 3, 0, none⟩ v') := by
  have h2 := h.alloc hs (.cells (fc x).toArray 50)
  obtain ⟨v', w3, hrun, hO, hg, hb⟩ := run_append_fact_at _ B va new X.heap.size x h2.oa (blk_new_at rfl _) hx h2.sz 22
  have hrow : ∀ k, va.ownBlock = some k → B ≤ k := fun k e => (World.ownsRow.lt h.oa k e).1
  have hsz := h.sz
  refine ⟨v', w3, hrun, ?_, h2.growNew hs hO hg hb, ?_, ?_⟩
  · exact (hg.block _ (by simp; omega) (fun e => by have := hrow _ e.symm; omega)).trans h2.b3
  · exact (((KeepsOthers.alloc X (.cells (fc x).toArray 50)).from B).trans (keeps_row h2.oa hg)).trans (KeepsFrom.of_grownBy (grownBy_setCell' w3 (s + 3) v') (fun j e => by cases e; omega))
  · exact (((Kq.refl s (s + 6) B X).alloc hsz (.cells (fc x).toArray 50)).grown hg h2.sz (fun k e i => by have := hrow k e; have := i.1; omega)).grown (grownBy_setCell' w3 (s + 3) v') (Nat.le_trans h2.sz hg.size) (fun k e i => by cases e; have := i.2; omega)
theorem histI_own (s B : Nat) (w : World) (wv : Array Value) (key : ByteArray) (at_ : Int) (hs : s + 5 < B) : OwnFrom B (HistI s B w wv key at_) := fun pre X Y row ⟨vo, va, h⟩ hg hr =>
  ⟨vo, va, h.kept hs hg (fun r e => by
    obtain ⟨h1, _, ho, hc⟩ := hr r e
    exact ⟨by omega, own_not_cells h.oo ho hc, own_not_cells h.oa ho hc⟩)⟩
end Go.Proofs.YtenocakpipppiaaGreatDoor
