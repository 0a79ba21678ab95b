/- views.seen: what it makes. Condition: fewer than 1000000 links. -/
import Derived.Test.YtenocakpipppiaaGreatDoorK1
namespace Go.Proofs.YtenocakpipppiaaGreatDoor
open Go.RowKit Go.Shelf Go.Herb
attribute [local go_sem] Oper.semAt_some

abbrev eU (x : Int) : Value := .int .u64 x
theorem eU_inj : ∀ a a', eU a = eU a' → a = a' := fun a a' h => by injection h
theorem law25 : Maps.Keyed Tryz.prog 24 := Maps.int_keyed Tryz.underlying24
abbrev MapU (w : World) (b : Nat) (m : List (Int × Int)) : Prop := MapIs Tryz.prog 24 eU eU w b m

/-- Up to where each line is seen, when these links have come. -/
def uptoM (ps : List (Int × Lk)) : List (Int × Int) := ps.foldl (fun m p => putL m p.2.line p.2.upto) []
theorem uptoM_snoc (ps : List (Int × Lk)) (x : Int × Lk) : uptoM (ps ++ [x]) = putL (uptoM ps) x.2.line x.2.upto := by simp [uptoM]
theorem uptoM_len (ps : List (Int × Lk)) : (uptoM ps).length ≤ ps.length := by
  suffices h : ∀ (m : List (Int × Int)), (ps.foldl (fun m p => putL m p.2.line p.2.upto) m).length ≤ m.length + ps.length by
    have := h []; simpa [uptoM] using this
  induction ps with
  | nil => intro m; simp
  | cons p ps ih => intro m; have := ih (putL m p.2.line p.2.upto); have h2 := putL_length m p.2.line p.2.upto; simp only [List.foldl_cons, List.length_cons]; omega

theorem backs_snd (xs : List Lk) : (backs xs xs.length).map (·.2) = xs.reverse := by
  apply List.ext_getElem?
  intro i
  unfold backs
  rw [List.getElem?_map, List.getElem?_map]
  rcases Nat.lt_or_ge i xs.length with h | h
  · rw [List.getElem?_range h, List.getElem?_reverse h]
    simp [List.getElem?_eq_getElem (show xs.length - 1 - i < xs.length by omega)]
  · rw [List.getElem?_eq_none (by simpa using h), List.getElem?_eq_none (by simpa using h)]
    rfl

/-- The first link of a line counts. -/
theorem uptoM_get (xs : List Lk) (line : Int) : getL (uptoM (backs xs xs.length)) line = (xs.find? (fun l => decide (l.line = line))).map (·.upto) := by
  have h1 : uptoM (backs xs xs.length) = xs.foldr (fun l m => putL m l.line l.upto) [] := by
    have h2 : uptoM (backs xs xs.length) = ((backs xs xs.length).map (·.2)).foldl (fun m l => putL m l.line l.upto) [] := by
      unfold uptoM
      rw [List.foldl_map]
    rw [h2, backs_snd, List.foldl_reverse]
  rw [h1]
  induction xs with
  | nil => rfl
  | cons x xs ih =>
    rw [List.foldr_cons, List.find?_cons]
    by_cases h : x.line = line
    · rw [h, getL_put_same]
      simp
    · rw [getL_put_other _ _ _ (fun e => h e.symm)]
      simp only [h, decide_false]
      refine Eq.trans ?_ (ih ?_)
      · rfl
      · have h2 : uptoM (backs xs xs.length) = ((backs xs xs.length).map (·.2)).foldl (fun m l => putL m l.line l.upto) [] := by
          unfold uptoM
          rw [List.foldl_map]
        rw [h2, backs_snd, List.foldl_reverse]

theorem blk_ownFrom {β : Type} (B b : Nat) (f : β → Array Value) (t : TypeId) : OwnFrom B (fun (s : β) W => W.heap[b]? = some (.cells (f s) t (0, 0))) := fun s X Y row hs hg hr => by
  refine (hg.block b (lt_of_blk hs) (fun e => ?_)).trans hs
  obtain ⟨_, o, ho, hc⟩ := hr b e.symm
  rw [hs] at ho
  cases ho
  cases hc

theorem map_ownFrom {β : Type} (B b : Nat) (hb : b < B) (f : β → List (Int × Int)) : OwnFrom B (fun (s : β) W => MapU W b (f s)) := fun s X Y row hs hg hr =>
  hs.same (hg.block b hs.lt (fun e => by have := (hr b e.symm).1; omega))

theorem size_ownFrom {β : Type} (B N : Nat) : OwnFrom B (fun (_ : β) W => N ≤ W.heap.size) := fun _ _ _ _ hs hg _ => Nat.le_trans hs hg.size

/-- What the function value that views.seen makes has captured. -/
structure SeenV (w : World) (bl bu ba bm : Nat) (vl : Value) (m : List (Int × Int)) (at_ : Int) : Prop where
  l : w.heap[bl]? = some (.cells #[vl] 22 (0, 0))
  u : w.heap[bu]? = some (.cells #[.map (some bm)] 89 (0, 0))
  a : w.heap[ba]? = some (.cells #[.int .u64 at_] 24 (0, 0))
  m : MapU w bm m

theorem SeenV.same {w w' : World} {bl bu ba bm : Nat} {vl : Value} {m : List (Int × Int)} {at_ : Int} (h : SeenV w bl bu ba bm vl m at_) (hl : w'.heap[bl]? = w.heap[bl]?) (hu : w'.heap[bu]? = w.heap[bu]?) (ha : w'.heap[ba]? = w.heap[ba]?) (hm : w'.heap[bm]? = w.heap[bm]?) : SeenV w' bl bu ba bm vl m at_ :=
  ⟨hl.trans h.l, hu.trans h.u, ha.trans h.a, h.m.same hm⟩

theorem SeenV.below {w w' : World} {bl bu ba bm : Nat} {vl : Value} {m : List (Int × Int)} {at_ : Int} (h : SeenV w bl bu ba bm vl m at_) (hb : Below w.heap.size w w') : SeenV w' bl bu ba bm vl m at_ :=
  h.same (hb.block _ (lt_of_blk h.l)) (hb.block _ (lt_of_blk h.u)) (hb.block _ (lt_of_blk h.a)) (hb.block _ h.m.lt)

def SeenPost (vl : Value) (cs : List Lk) (at_ : Int) (w : World) (e : Ending) (w' : World) : Prop :=
  ∃ bl bu ba bm : Nat, e = .returned (.func (.func 41) #[] #[.pointer (some ⟨bl, 0, none⟩), .pointer (some ⟨bu, 0, none⟩), .pointer (some ⟨ba, 0, none⟩)]) ∧ Below w.heap.size w w' ∧ SeenV w' bl bu ba bm vl (uptoM (backs cs cs.length)) at_

set_option maxRecDepth 100000 in
set_option maxHeartbeats 1000000 in
theorem seen_in (n : Nat) (hn : 3 ≤ n) (al : Option Addr) (nl cl : Nat) (ac : Option Addr) (cc : Nat) (cs : List Lk) (at_ : Int) (w : World) (hC : Links w ac cs) (hlen : cs.length < 1000000) :
    CallsIn Fence.wide n Tryz.prog 24 #[.slice al nl cl, .slice ac cs.length cc, .int .u64 at_] w (SeenPost (.slice al nl cl) cs at_ w) := by
  have h1 : 1 ≤ n := by omega
  have hmm := @run_makeMap Tryz.prog
  have hac : 0 < cs.length → ∀ ad, ac = some ad → ad.block < w.heap.size := by
    intro h ad had
    obtain ⟨b, o, ha, hlt, _⟩ := hC.get 0 h
    rw [had] at ha
    injection ha with ha
    rw [ha]
    exact hlt
  have HC := Lib.hid hC
  have HAC := Lib.hid hac
  clear hC hac
  refine callsIn_of_wp_marks Tryz.func24 rfl trivial ?_ rfl
  simp only [Tryz.ntmps24, List.size_toArray, List.length_cons, List.length_nil, Nat.reduceAdd, Nat.reduceSub, Array.replicate_succ, Array.replicate_zero, List.push_toArray, List.append_toArray, List.nil_append, List.cons_append]
  gi_wp2_with (refine ⟨trivial, ?_⟩; gi_at_call 40; refine (callsIn_wide.2 (backward_any ac cs.length cc _)).mono ?_; rintro e w' ⟨rfl, rfl⟩)
  obtain ⟨B, hB⟩ : ∃ B, B = w.heap.size := ⟨_, rfl⟩
  obtain ⟨W0, hW0⟩ : ∃ W0 : World, ((((w.alloc (.cells #[.slice al nl cl] 22)).alloc (.cells #[.int .u64 at_] 24)).alloc (.map #[] 0)).alloc (.cells #[.map (some (w.heap.size + 1 + 1))] 89)).alloc (.cells #[.slice ac cs.length cc] 23) = W0 := ⟨_, rfl⟩
  have hsz : W0.heap.size = w.heap.size + 5 := by rw [← hW0]; simp
  have hB0 : Below w.heap.size w W0 := by
    rw [← hW0]
    exact (((((Below.refl _ w).alloc (Nat.le_refl _) _).alloc (by simp) _).alloc (by simp; omega) _).alloc (by simp; omega) _).alloc (by simp; omega) _
  have b0 : W0.heap[w.heap.size]? = some (.cells #[.slice al nl cl] 22 (0, 0)) := by
    rw [← hW0]
    exact blk_alloc (blk_alloc (blk_alloc (blk_alloc (blk_new_at rfl _))))
  have b1 : W0.heap[w.heap.size + 1]? = some (.cells #[.int .u64 at_] 24 (0, 0)) := by
    rw [← hW0]
    exact blk_alloc (blk_alloc (blk_alloc (blk_new_at (by simp) _)))
  have b2 : MapU W0 (w.heap.size + 1 + 1) [] := by
    have h := MapIs.made (P := Tryz.prog) (k := 24) (encK := eU) (encV := eU) ((w.alloc (.cells #[.slice al nl cl] 22)).alloc (.cells #[.int .u64 at_] 24))
    simp only [World.size_alloc] at h
    refine h.same ?_
    rw [← hW0]
    rw [Below.heap_alloc _ _ _ (by simp), Below.heap_alloc _ _ _ (by simp)]
  have b3 : W0.heap[w.heap.size + 1 + 1 + 1]? = some (.cells #[.map (some (w.heap.size + 1 + 1))] 89 (0, 0)) := by
    rw [← hW0]
    exact blk_alloc (blk_new_at (by simp) _)
  have b4 : W0.heap[w.heap.size + 1 + 1 + 1 + 1]? = some (.cells #[.slice ac cs.length cc] 23 (0, 0)) := by
    rw [← hW0]
    exact blk_new_at (by simp) _
  rw [hW0]
  clear hW0
  refine wpIn_rangeFunc_ownH rfl h1 (gf := 54) (lb := #[.pointer (some ⟨w.heap.size + 1 + 1 + 1 + 1, 0, none⟩)]) rfl trivial (enters_of Tryz.func54 (by kernel_rfl) rfl)
    (backward_stops Fence.wide (n - 1) trivial rfl (by omega) (w.heap.size + 1 + 1 + 1 + 1) W0.heap.size (w.heap.size + 1 + 1) ac cc cs hlen W0 (by omega) (by omega) (Nat.le_refl _) (cell_of_blk b4 0) (HC.out.ext hB0) (fun h0 ad h => by have := HAC.out h0 ad h; omega))
    (fun h k => h.trans k) (kept_b (Nat.le_refl _)) (Below.refl _ _) (fun _ => rfl)
    (fun pre W => ((W.heap[w.heap.size]? = some (.cells #[.slice al nl cl] 22 (0, 0)) ∧ W.heap[w.heap.size + 1]? = some (.cells #[.int .u64 at_] 24 (0, 0))) ∧ (W.heap[w.heap.size + 1 + 1 + 1]? = some (.cells #[.map (some (w.heap.size + 1 + 1))] 89 (0, 0)) ∧ MapU W (w.heap.size + 1 + 1) (uptoM pre))) ∧ (Below w.heap.size w W ∧ W0.heap.size ≤ W.heap.size))
    (fun _ _ _ => False)
    (OwnFrom.and (OwnFrom.and (OwnFrom.and (blk_ownFrom _ _ (fun _ => #[.slice al nl cl]) 22) (blk_ownFrom _ _ (fun _ => #[.int .u64 at_]) 24)) (OwnFrom.and (blk_ownFrom _ _ (fun _ => #[.map (some (w.heap.size + 1 + 1))]) 89) (map_ownFrom _ _ (by omega) _))) (OwnFrom.and (ownFrom_below (Nat.le_refl _) (by omega)) (size_ownFrom _ _)))
    (fun _ _ _ _ _ hs _ _ => hs)
    ⟨⟨⟨b0, b1⟩, b3, b2⟩, hB0, Nat.le_refl _⟩
    (fun x a' W => ∃ Bx, W0.heap.size ≤ Bx ∧ W.heap[Bx]? = some (.cells #[.int .u64 x.2.line, .int .u64 x.2.upto] 52 (0, 0)) ∧ a' = { tmps := #[.slice al nl cl, .slice ac cs.length cc, .int .u64 at_, .pointer (some ⟨w.heap.size, 0, none⟩), undef, .pointer (some ⟨w.heap.size + 1, 0, none⟩), .nilFunc, .pointer (some ⟨w.heap.size + 1 + 1 + 1, 0, none⟩), undef, .pointer (some ⟨Bx, 0, none⟩), .map (some (w.heap.size + 1 + 1)), .slice ac cs.length cc, .func (.func 54) #[] #[.pointer (some ⟨w.heap.size + 1 + 1 + 1 + 1, 0, none⟩)], .int .i64 x.1, lv x.2, undef, undef, undef, undef, undef, undef], defers := [] })
    (fun x a' _ X Y row hs hg hr => by obtain ⟨Bx, h1, h2, h3⟩ := hs; exact ⟨Bx, h1, blk_ownFrom W0.heap.size Bx (fun (_ : Unit) => #[.int .u64 x.2.line, .int .u64 x.2.upto]) 52 () X Y row h2 hg hr, h3⟩)
    ?assign ?body ?done ?stop
  case assign =>
    rintro l pre x W K ⟨⟨⟨i0, i1⟩, i3, i2⟩, hBi, hWs⟩ hK
    gi_wp2
    exact hK _ _ ((KeepsOthers.alloc _ _).from _) (Kept.below ((Below.refl _ W).alloc hWs _)) ⟨⟨⟨blk_alloc i0, blk_alloc i1⟩, blk_alloc i3, i2.same (Below.heap_alloc _ _ _ i2.lt)⟩, hBi.alloc hBi.size _, by simp; omega⟩ ⟨W.heap.size, hWs, blk_new_at rfl _, rfl⟩
  case body =>
    rintro l pre x a' W hl ⟨r, hr⟩ ⟨⟨⟨i0, i1⟩, i3, i2⟩, hBi, hWs⟩ ⟨Bx, hBx, bX, rfl⟩ hlt
    obtain ⟨w1, hrun, hM1, hg1, hs1⟩ := i2.store law25 eU_inj Tryz.underlying89 (by have := uptoM_len pre; unfold maxLen; omega) x.2.upto (Maps.keyOf_int_mk Tryz.underlying24 x.2.wl)
    have c3 := cell_of_blk i3 0
    have cx0 := cell_of_blk bX 0
    have cx1 := cell_of_blk bX 1
    simp at c3 cx0 cx1
    have HM1 := Lib.hid hM1
    have HG1 := Lib.hid hg1
    clear hM1 hg1 hs1
    gi_wp2
    have hg1 := HG1.out
    have keep : ∀ b, b < W.heap.size → b ≠ w.heap.size + 1 + 1 → w1.heap[b]? = W.heap[b]? := fun b h1 h2 => hg1.block b h1 (fun e => h2 (by cases e; rfl))
    refine ⟨KeepsFrom.of_grownBy hg1 (fun j e => by cases e; omega), Kept.grown hg1 hWs, ⟨⟨⟨(keep _ (lt_of_blk i0) (by omega)).trans i0, (keep _ (lt_of_blk i1) (by omega)).trans i1⟩, (keep _ (lt_of_blk i3) (by omega)).trans i3, ?_⟩, hBi.grown hg1 hBi.size (fun k e => by cases e; omega), Nat.le_trans hWs hg1.size⟩⟩
    rw [uptoM_snoc]
    exact HM1.out
  case done =>
    rintro D ys W hD rfl ⟨⟨⟨i0, i1⟩, i3, i2⟩, hBi, hWs⟩ hK
    gi_wp2
    refine ⟨by simp, .inl ⟨_, _, rfl, run_takeDeferred hK, ?_⟩⟩
    have keep : ∀ b, b < W0.heap.size → (W.putObj D (.deferred none)).heap[b]? = W.heap[b]? := fun b h => World.putObj_heap_other (fun e => by omega)
    exact ⟨_, results_tmp rfl _ _ _, ⟨w.heap.size, w.heap.size + 1 + 1 + 1, w.heap.size + 1, w.heap.size + 1 + 1, rfl, hBi.trans (belowK_b (w := w) (Nat.le_refl _) W D _ _ (by omega) hK rfl rfl),
      ⟨(keep _ (by omega)).trans i0, (keep _ (by omega)).trans i3, (keep _ (by omega)).trans i1, i2.same (keep _ (by omega))⟩⟩⟩
  case stop =>
    rintro D c pre W _ _ h _
    exact h.elim

theorem seen_any (al : Option Addr) (nl cl : Nat) (ac : Option Addr) (cc : Nat) (cs : List Lk) (at_ : Int) (w : World) (hC : Links w ac cs) (hlen : cs.length < 1000000) :
    Calls Tryz.prog 24 #[.slice al nl cl, .slice ac cs.length cc, .int .u64 at_] w (SeenPost (.slice al nl cl) cs at_ w) :=
  (callsIn_wide (n := 3)).1 (seen_in 3 (Nat.le_refl _) al nl cl ac cc cs at_ w hC hlen)
end Go.Proofs.YtenocakpipppiaaGreatDoor
