/- vectors.order; slices.SortFunc at points. Condition: fewer than 1000000 points. · law16.VectorsTurned's walk. No condition. · law16.samePoints, sameVectors, where they are the same. No condition. · law16.VectorsAgain's walk. No condition. · ref16: at, of, above. No condition. · ref16: with. Condition: fewer than 100000 points. · ref16: Base. No condition. · ref16: what copied lays (its walk is to come). Condition: fewer than 1000000 lines. · ref16: copied. Condition: fewer than 100000 lines, and points of each. · ref16: a store into copies; copies as vectors. No condition. · Plain: points put in their place are the sorted ones without doubles. No condition. · ref16: Fork. Condition: fewer than 100000 lines and points. -/
import Derived.Test.YtchcelodeepjdaaGreatDoorOR
import Derived.Test.YtchcelodeepjdaaGreatDoorMp
import Derived.Shelf.SlSortCmp.InsertionK
import Derived.Shelf.SlSortCmp.WholeK
import Derived.Deep.RegionHeld3
import Derived.Sort.Grow
import Derived.Sort.Walk0
import Derived.Lib.SliceRun
namespace Go.Proofs.YtchcelodeepjdaaGreatDoor.Vx
open Go.RowKit Go.Shelf Go.Herb Go.Sort

def cmpI (a b : Int) : Int := if a < b then -1 else if b < a then 1 else 0
theorem cmp_64 (a b : Int) (w : World) : Calls Tryz.prog (94) #[.int .u64 a, .int .u64 b] w fun e w' => e = .returned (.int .i64 (cmpI a b)) ∧ w = w' := by
  go_enter Tryz.func94, Tryz.ntmps94
  go_wp2_with (go_at_call 112; refine (isNaN_u _ _).mono ?_; rintro e w' ⟨rfl, rfl⟩)
  all_goals
    go_ret
    refine ⟨?_, rfl⟩
    unfold cmpI
    first | (rw [if_pos (by omega)]; rfl) | (rw [if_neg (by omega), if_pos (by omega)]; rfl) | (rw [if_neg (by omega), if_neg (by omega)]; rfl)
abbrev pv (x : Int × Int) : Value := .agg #[.int .u64 x.1, .int .u64 x.2]
/-- A point stands ahead of another one. -/
def LtP (x y : Int × Int) : Prop := x.1 < y.1 ∨ x.1 = y.1 ∧ x.2 < y.2
instance : Inhabited (Int × Int) := ⟨(0, 0)⟩
theorem pc_one (x : Int × Int) : ∀ v ∈ pc x, v.oneCell' = true := by
  intro v hv
  simp [pc] at hv
  rcases hv with rfl | rfl <;> rfl
end Go.Proofs.YtchcelodeepjdaaGreatDoor.Vx

namespace Go.Herb
open Go
def mostOf (b : Bh) : Int := b.foldl (fun m q => max m q.2) 0
theorem most_ge : ∀ {b : Bh} {q : Int × Int}, q ∈ b → q.2 ≤ mostOf b := by
  have key : ∀ (b : Bh) (z : Int), z ≤ b.foldl (fun m q => max m q.2) z ∧ ∀ q ∈ b, q.2 ≤ b.foldl (fun m q => max m q.2) z := by
    intro b
    induction b with
    | nil => intro z; exact ⟨Int.le_refl _, by simp⟩
    | cons p b ih =>
      intro z
      have := ih (max z p.2)
      refine ⟨by have := this.1; simp only [List.foldl_cons]; omega, fun q hq => ?_⟩
      rcases List.mem_cons.1 hq with rfl | hq
      · have := this.1; simp only [List.foldl_cons]; omega
      · exact this.2 q hq
  intro b q hq
  exact (key b 0).2 q hq
theorem most_nn (b : Bh) : 0 ≤ mostOf b := by
  have key : ∀ (b : Bh) (z : Int), z ≤ b.foldl (fun m q => max m q.2) z := by
    intro b
    induction b with
    | nil => intro z; exact Int.le_refl _
    | cons p b ih => intro z; have := ih (max z p.2); simp only [List.foldl_cons]; omega
  exact key b 0
theorem most_at (b : Bh) : mostOf b = 0 ∨ ∃ q ∈ b, q.2 = mostOf b := by
  have key : ∀ (b : Bh) (z : Int), b.foldl (fun m q => max m q.2) z = z ∨ ∃ q ∈ b, q.2 = b.foldl (fun m q => max m q.2) z := by
    intro b
    induction b with
    | nil => intro z; exact .inl rfl
    | cons p b ih =>
      intro z
      rw [List.foldl_cons]
      rcases ih (max z p.2) with h | ⟨q, hq, h⟩
      · by_cases e : z ≤ p.2
        · exact .inr ⟨p, by simp, by rw [h]; omega⟩
        · left; rw [h]; omega
      · exact .inr ⟨q, by simp [hq], h⟩
  exact key b 0
theorem IsBase.le {b c : Bh} {p : Int × Int} (h : IsBase b c p) (hb : Okm b) : p.2 ≤ mostOf b := by
  rcases Int.lt_or_eq_of_le h.nn with h0 | h0
  · have h1 := h.at_ h0
    have h2 : g0 b p.1 ≠ 0 := by omega
    have := most_ge (hb.mem_of h2)
    simp only at this
    omega
  · have := most_nn b; omega
theorem IsBase.own {b : Bh} {p : Int × Int} (h : IsBase b b p) (hb : Okm b) : p.2 = mostOf b := by
  have h1 := h.le hb
  rcases most_at b with h2 | ⟨q, hq, h2⟩
  · have := h.nn; omega
  · have := h.top q.1
    rw [g0_mem hb.nodup hq] at this
    omega
end Go.Herb
namespace Go.Proofs.YtchcelodeepjdaaGreatDoor.Vx
open Go.RowKit Go.Shelf Go.Herb

end Go.Proofs.YtchcelodeepjdaaGreatDoor.Vx

namespace Go.Herb
theorem els_drewN {α : Type} {enc : α → List Value} {s : Nat} {w : World} {a : Option Addr} {xs : List α} (h : Els enc s w a xs) (n : Nat) : Els enc s (w.drewN n) a xs := ⟨h.get⟩
end Go.Herb
namespace Go.Proofs.YtchcelodeepjdaaGreatDoor.Vx
open Go.RowKit Go.Shelf Go.Herb

end Go.Proofs.YtchcelodeepjdaaGreatDoor.Vx

namespace Go.Proofs.YtchcelodeepjdaaGreatDoor.Vx
open Go.RowKit Go.Shelf Go.Herb

theorem below_drN {B : Nat} {a w : World} (h : Below B a w) (q : Nat) : Below B a (w.drewN q) := ⟨h.os, h.tape, h.output, h.size, h.block⟩
theorem vin_ext {w w' : World} {a : Option Addr} {xs : List Vc} (h : VIn w a xs) (hb : Below w.heap.size w w') : VIn w' a xs := ⟨h.els.ext hb, fun x hx => (h.inn x hx).ext hb, h.wf, h.len, h.lens⟩
/-- What All answers, as it lies. -/
structure AllAt (B : Nat) (w : World) (va : Option Addr) (xs : List Vc) (L : Vs) : Prop where
  len : xs.length = L.length
  vs : vsOf xs = L
  own : ∃ vcap, OwnV B w (.slice va xs.length vcap) xs
  at_ : ∀ x ∈ xs, VcAt B w x ∧ ∀ r, va = some ⟨r, 0, none⟩ → x.a ≠ some ⟨r, 0, none⟩
theorem AllAt.vin {B : Nat} {w : World} {va : Option Addr} {xs : List Vc} {L : Vs} (h : AllAt B w va xs L) (hG : GoodV L) (hS : Small L) : VIn w va xs := by
  obtain ⟨vcap, ho⟩ := h.own
  exact vin_of h.vs ho (fun x hx => (h.at_ x hx).1) hG hS
/-- What the writes into the rows of points leave. -/
structure Fr (xs : List Vc) (W wr : World) : Prop where
  hb : Below 0 W wr
  blk : ∀ b, (∀ x ∈ xs, x.a ≠ some ⟨b, 0, none⟩) → wr.heap[b]? = W.heap[b]?
  rows : ∀ x ∈ xs, ∀ g, x.a = some ⟨g, 0, none⟩ → ∃ cur, wr.heap[g]? = some (.cells cur (78) (0, 0)) ∧ x.ps.length * 2 ≤ cur.size
theorem Fr.set {xs : List Vc} {W wr : World} (h : Fr xs W wr) {x : Vc} (hx : x ∈ xs) {g : Nat} (hg : x.a = some ⟨g, 0, none⟩) (o : Nat) (v : Value) : Fr xs W (wr.setCell ⟨g, o, none⟩ v) := by
  refine ⟨⟨h.hb.os, h.hb.tape, h.hb.output, by simpa [World.setCell] using h.hb.size, fun b hb => absurd hb (Nat.not_lt_zero b)⟩, fun b hb => ?_, fun y hy g2 hg2 => ?_⟩
  · rw [Below.heap_setCell wr ⟨g, o, none⟩ v b (fun e => hb x hx (by rw [hg, e]))]
    exact h.blk b hb
  · obtain ⟨cur, h1, h2⟩ := h.rows y hy g2 hg2
    by_cases e : g2 = g
    · subst e
      exact ⟨_, blk_setCell h1 v, by simpa using h2⟩
    · exact ⟨cur, blk_setCell_other h1 e v, h2⟩
theorem Fr.start {B : Nat} {w W : World} {va : Option Addr} {xs : List Vc} {L : Vs} (h : AllAt B w va xs L) (hb : Below w.heap.size w W) : Fr xs W W := by
  refine ⟨Below.refl _ _, fun _ _ => rfl, fun x hx g hg => ?_⟩
  obtain ⟨cap, ho⟩ := (h.at_ x hx).1.own
  rcases row_of_owns ho with ⟨h1, _⟩ | ⟨g', cp, h1, _, hR⟩
  · rw [hg] at h1; cases h1
  · rw [hg] at h1
    cases h1
    obtain ⟨cur, hc, hsz, _⟩ := hR.blk
    exact ⟨cur, (hb.block _ (lt_of_blk hc)).trans hc, by rw [hsz]; exact Nat.mul_le_mul_right 2 hR.le⟩
theorem VcAt.lie {B : Nat} {w : World} {x : Vc} (h : VcAt B w x) {g : Nat} (hg : x.a = some ⟨g, 0, none⟩) : B ≤ g ∧ g < w.heap.size := by
  obtain ⟨cap, ho⟩ := h.own
  exact World.ownsRow.lt ho g (by rw [hg]; rfl)
theorem VcAt.some {B : Nat} {w : World} {x : Vc} (h : VcAt B w x) (h0 : 0 < x.ps.length) : ∃ g, x.a = some ⟨g, 0, none⟩ := by
  obtain ⟨cap, ho⟩ := h.own
  rcases row_of_owns ho with ⟨_, h1⟩ | ⟨g', cp, h1, _, _⟩
  · rw [h1] at h0; simp at h0
  · exact ⟨g', by injection h1⟩

end Go.Proofs.YtchcelodeepjdaaGreatDoor.Vx

namespace Go.Herb
end Go.Herb
namespace Go.Proofs.YtchcelodeepjdaaGreatDoor.Vx
open Go.RowKit Go.Shelf Go.Herb

/-- The reference's vectors, as they lie. -/
structure RefIs (w : World) (p : Nat) (la : Option Addr) (lc : Nat) (xs : List Vc) (L : Vs) : Prop where
  blk : w.heap[p]? = some (.cells #[.slice la xs.length lc] (158) (0, 0))
  inn : VIn w la xs
  vs : vsOf xs = L
theorem RefIs.below {w w' : World} {p : Nat} {la : Option Addr} {lc : Nat} {xs : List Vc} {L : Vs} (h : RefIs w p la lc xs L) (hb : Below w.heap.size w w') : RefIs w' p la lc xs L := ⟨blk_below h.blk hb (lt_of_blk h.blk), vin_ext h.inn hb, h.vs⟩

end Go.Proofs.YtchcelodeepjdaaGreatDoor.Vx

namespace Go.Herb
theorem putS_end {b : Bh} {k s : Int} (h : ∀ q ∈ b, q.1 < k) : putS b k s = b ++ [(k, s)] := by
  unfold putS
  rw [List.filter_eq_self.2 (fun q hq => decide_eq_true (h q hq)), List.filter_eq_nil_iff.2 (fun q hq => by have := h q hq; simp; omega)]
theorem putS_same_snoc {b : Bh} {k s : Int} {x : Int × Int} (h : ∀ q ∈ b, q.1 < k) (hx : x.1 = k) : putS (b ++ [x]) k s = b ++ [(k, s)] := by
  unfold putS
  have h1 : b.filter (fun q => decide (q.1 < k)) = b := List.filter_eq_self.2 (fun q hq => decide_eq_true (h q hq))
  have h2 : b.filter (fun q => decide (k < q.1)) = [] := List.filter_eq_nil_iff.2 (fun q hq => by have := h q hq; simp; omega)
  rw [List.filter_append, List.filter_append, h1, h2]
  simp [hx]
theorem putS_gt_snoc {b : Bh} {k s : Int} {x : Int × Int} (hx : k < x.1) : putS (b ++ [x]) k s = putS b k s ++ [x] := by
  unfold putS
  rw [List.filter_append, List.filter_append]
  have : ¬ x.1 < k := by omega
  simp [hx, this]
/-- What 'with' has put down of the first i. -/
def WithSt (b : Bh) (k s : Int) (i : Nat) (put : Bool) (out : Bh) : Prop :=
  (put = false ∧ (∀ q ∈ b.take i, q.1 < k) ∧ out = b.take i) ∨ (put = true ∧ out = putS (b.take i) k s ∧ ∃ q ∈ b.take i, k ≤ q.1)
theorem WithSt.step {b : Bh} {k s : Int} {i : Nat} {put : Bool} {out : Bh} (h : WithSt b k s i put out) (hb : SrtK b) {x : Int × Int} (hx : b[i]? = some x) :
    (put = true → k < x.1 ∧ WithSt b k s (i + 1) true (out ++ [x])) ∧ (put = false → x.1 < k → WithSt b k s (i + 1) false (out ++ [x])) ∧
    (put = false → x.1 = k → WithSt b k s (i + 1) true (out ++ [(k, s)])) ∧ (put = false → k < x.1 → WithSt b k s (i + 1) true (out ++ [(k, s)] ++ [x])) := by
  obtain ⟨hi, rfl⟩ := List.getElem?_eq_some_iff.1 hx
  have ht := List.take_succ_eq_append_getElem hi
  unfold WithSt
  rw [ht]
  rcases h with ⟨rfl, h1, rfl⟩ | ⟨rfl, rfl, q, hq, hk⟩
  · refine ⟨fun h => (by cases h), fun _ hlt => .inl ⟨rfl, fun q hq => ?_, rfl⟩, fun _ he => .inr ⟨rfl, (putS_same_snoc h1 he).symm, b[i], List.mem_append_right _ (List.mem_singleton.2 rfl), by omega⟩, fun _ hlt => .inr ⟨rfl, ?_, b[i], List.mem_append_right _ (List.mem_singleton.2 rfl), by omega⟩⟩
    · rcases List.mem_append.1 hq with hq | hq
      · exact h1 q hq
      · rw [List.mem_singleton.1 hq]; exact hlt
    · rw [putS_gt_snoc hlt, putS_end h1]
  · refine ⟨fun _ => ?_, fun h => (by cases h), fun h => (by cases h), fun h => (by cases h)⟩
    have hlt : k < b[i].1 := by
      obtain ⟨j, hj, he⟩ := List.getElem_of_mem hq
      rw [List.getElem_take] at he
      have hj' : j < i := by simp at hj; omega
      have := List.pairwise_iff_getElem.1 hb j i (by omega) hi hj'
      rw [he] at this
      omega
    exact ⟨hlt, .inr ⟨rfl, (putS_gt_snoc hlt).symm, q, List.mem_append_left _ hq, hk⟩⟩
theorem WithSt.len {b : Bh} {k s : Int} {i : Nat} {put : Bool} {out : Bh} (h : WithSt b k s i put out) : out.length ≤ b.length + 1 := by
  rcases h with ⟨_, _, rfl⟩ | ⟨_, rfl, _⟩
  · simp; omega
  · have := putS_len (b := b.take i) (k := k) (v := s)
    simp at this
    omega
end Go.Herb
namespace Go.Proofs.YtchcelodeepjdaaGreatDoor.Vx
open Go.RowKit Go.Shelf Go.Herb

end Go.Proofs.YtchcelodeepjdaaGreatDoor.Vx

namespace Go.Herb
theorem BaseSt.next {a b : Bh} {i : Nat} {p x : Int × Int} (h : BaseSt b (a.take i) p) (ha : SrtK a) (hx : a[i]? = some x) :
    (p.2 < min x.2 (g0 b x.1) → BaseSt b (a.take (i + 1)) (x.1, min x.2 (g0 b x.1))) ∧ (¬ p.2 < min x.2 (g0 b x.1) → BaseSt b (a.take (i + 1)) p) := by
  obtain ⟨hi, rfl⟩ := List.getElem?_eq_some_iff.1 hx
  rw [List.take_succ_eq_append_getElem hi]
  have hnn := h.nn
  refine ⟨fun hlt => h.take (by omega) (.inl hlt), fun hge => h.keep ?_⟩
  rcases Int.lt_or_le 0 p.2 with h0 | h0
  · obtain ⟨q, hq, hq1, _⟩ := h.at_ h0
    obtain ⟨j, hj, he⟩ := List.getElem_of_mem hq
    rw [List.getElem_take] at he
    have hj' : j < i := by simp at hj; omega
    have := List.pairwise_iff_getElem.1 ha j i (by omega) hi hj'
    rw [he] at this
    omega
  · omega
end Go.Herb
namespace Go.Proofs.YtchcelodeepjdaaGreatDoor.Vx
open Go.RowKit Go.Shelf Go.Herb

end Go.Proofs.YtchcelodeepjdaaGreatDoor.Vx

namespace Go.Proofs.YtchcelodeepjdaaGreatDoor.Vx
open Go.RowKit Go.Shelf Go.Herb

/-- 'append(nil, s..)': a copy of one's own. -/
theorem run_copy (w : World) (B : Nat) (a : Option Addr) (c n : Nat) (ps : Bh) (hP : Pts w a ps) (hn : ps.length = n) (hl : n < 1000000) (hB : B ≤ w.heap.size) (ty : TypeId) :
    ∃ v' w', (Builtin.append_ #[(74), (74)] ty #[.slice none 0 0, .slice a n c]).run Tryz.prog w = .ok v' w' ∧ OwnP B w' v' ps ∧ Below w.heap.size w w' := by
  subst hn
  obtain ⟨i0, hin, hz0, hz1, hz2⟩ := info_parts infoP
  have ho : OwnP B w (.slice none 0 0) [] := World.ownsRow_nil _ _ _ _
  cases a with
  | none =>
    have h0 : ps = [] := by
      cases ps with
      | nil => rfl
      | cons x xs => obtain ⟨b, o, h, _⟩ := hP.get 0 (by simp); cases h
    subst h0
    refine ⟨.slice none 0 0, w, ?_, ho, Below.refl _ _⟩
    have hu := Tryz.underlying74
    simp [Builtin.append_, run_underlying hu, sizeOf, typeInfo, hin, Builtin.lenOf, Builtin.firstCells]
  | some ad =>
    obtain ⟨v', w', hr, h2, h3, h4⟩ := run_append_own (P := Tryz.prog) w B (74) ty (78) i0 _ 2 16 Tryz.underlying74 hin hz0 hz1 hz2 rfl (by decide) (.slice none 0 0) 0 [] ho ad ps.length c (ps.flatMap pc) (flatMap_len pc_len _) (hP.flat pc_len (by decide)) (fun u hu => by
      obtain ⟨q, _, hq⟩ := List.mem_flatMap.1 hu
      exact pc_one q u hq) (by unfold maxLen; omega) (by omega) hB
    refine ⟨v', w', hr, ?_, h3.os, h3.tape, h3.output, h3.size, fun k hk => h3.block k hk (by simp [Value.ownBlock])⟩
    unfold OwnP
    simpa using h2
/-- The points lie in a block of the call's own, or there are none. -/
def VcO (B : Nat) (w : World) (x : Vc) : Prop := ∃ c, OwnP B w (.slice x.a x.ps.length c) x.ps
theorem VcO.kept {B : Nat} {w w' : World} {x : Vc} {row : Option Nat} (h : VcO B w x) (hg : w.grownBy w' row) (hr : ∀ r, row = some r → x.a ≠ some ⟨r, 0, none⟩) : VcO B w' x := by
  obtain ⟨cap, ho⟩ := h
  refine ⟨cap, World.ownsRow.kept ho hg ?_⟩
  rcases row_of_owns ho with ⟨h1, _⟩ | ⟨g, cap, h1, _, _⟩
  · rw [h1]; exact .inl rfl
  · refine .inr (fun e => ?_)
    rw [h1] at e
    have h2 : x.a = some ⟨g, 0, none⟩ := by injection h1
    exact hr g e.symm h2
theorem VcO.below {B : Nat} {w w' : World} {x : Vc} (h : VcO B w x) (hb : Below w.heap.size w w') : VcO B w' x := by
  obtain ⟨cap, ho⟩ := h
  exact ⟨cap, ownsRow_below ho hb (Nat.le_refl _)⟩
/-- Copies, laid by the call. -/
structure CpAt (B : Nat) (w : World) (v : Value) (ys : List Vc) (L : Vs) : Prop where
  vs : vsOf ys = L
  own : OwnV B w v ys
  at_ : ∀ y ∈ ys, VcO B w y ∧ ∀ r, v.ownBlock = some r → y.a ≠ some ⟨r, 0, none⟩
theorem CpAt.add {B : Nat} {wr w1 : World} {v : Value} {ys : List Vc} {L : Vs} {line : Int} {ps : Bh} {a1 : Option Addr} {c1 : Nat} (h : CpAt B wr v ys L) (hB : B ≤ wr.heap.size) (hb : Below wr.heap.size wr w1)
    (ho : OwnP wr.heap.size w1 (.slice a1 ps.length c1) ps) (hl : ys.length < 1000000) :
    ∃ v' w9, (∀ ty, (Builtin.append_ #[(29), (29)] ty #[v, .slice (some ⟨w1.heap.size, 0, none⟩) 1 1]).run Tryz.prog (w1.alloc (.cells #[.int .u64 line, .slice a1 ps.length c1] (76))) = .ok v' w9) ∧ CpAt B w9 v' (ys ++ [⟨line, a1, c1, ps⟩]) (L ++ [(line, ps)]) ∧ (∀ w0 : World, w0.heap.size = B → Below B w0 wr → Below B w0 w9) := by
  obtain ⟨Z, hZ⟩ : ∃ Z : World, Z = w1.alloc (.cells #[.int .u64 line, .slice a1 ps.length c1] (76)) := ⟨_, rfl⟩
  have hZb : Below w1.heap.size w1 Z := by rw [hZ]; exact (Below.refl _ _).alloc (Nat.le_refl _) _
  have hZx : Z.heap[w1.heap.size]? = some (.cells #[.int .u64 line, .slice a1 ps.length c1] (76) (0, 0)) := by rw [hZ]; exact blk_new_at rfl _
  have hZ2 : Below wr.heap.size wr Z := hb.trans (hZb.mono hb.size)
  have hs1 := hb.size
  have hs2 := hZb.size
  obtain ⟨v', w9, hr, h2, hg, h5⟩ := run_append_v Z B v ys w1.heap.size ⟨line, a1, c1, ps⟩ (ownsRow_below h.own hZ2 (Nat.le_refl _)) hZx hl (by omega) (29)
  have hvb : ∀ k, v.ownBlock = some k → B ≤ k ∧ k < wr.heap.size := fun k e => World.ownsRow.lt h.own k e
  have hab : ∀ r, a1 = some ⟨r, 0, none⟩ → wr.heap.size ≤ r ∧ r < w1.heap.size := fun r e => World.ownsRow.lt ho r (by rw [e]; rfl)
  rw [← hZ]
  refine ⟨v', w9, fun _ => hr, ⟨by rw [← h.vs]; simp [vsOf], h2, fun y hy => ?_⟩, fun w0 e0 hw => ?_⟩
  · rcases List.mem_append.1 hy with hy | hy
    · obtain ⟨g1, g2⟩ := h.at_ y hy
      refine ⟨(g1.below hZ2).kept hg g2, fun r e => ?_⟩
      rcases h5 with h5 | h5
      · exact g2 r (by rw [← h5]; exact e)
      · rw [h5] at e
        injection e with e
        obtain ⟨cp, hc⟩ := g1
        intro ha
        have := (World.ownsRow.lt hc r (by rw [ha]; rfl)).2
        omega
    · rw [List.mem_singleton.1 hy]
      refine ⟨VcO.kept (x := ⟨line, a1, c1, ps⟩) ⟨c1, ownsRow_mono (ownsRow_below ho hZb (Nat.le_refl _)) hB⟩ hg (fun r e ha => by have := (hvb r e).2; have := (hab r ha).1; omega), fun r e ha => ?_⟩
      have h3 := hab r ha
      rcases h5 with h5 | h5
      · have := (hvb r (by rw [← h5]; exact e)).2; omega
      · rw [h5] at e; injection e with e; omega
  · exact (hw.trans (hZ2.mono hB)).grown hg (by have := hw.size; omega) (fun k e => (hvb k e).1)
end Go.Proofs.YtchcelodeepjdaaGreatDoor.Vx

namespace Go.Proofs.YtchcelodeepjdaaGreatDoor.Vx
open Go.RowKit Go.Shelf Go.Herb

set_option maxRecDepth 100000 in
set_option maxHeartbeats 2000000 in
theorem refCopied_any (a : Option Addr) (cap n : Nat) (xs : List Vc) (w : World) (h : VIn w a xs) (hn : xs.length = n) (hS : Small (vsOf xs)) :
    Calls Tryz.prog (87) #[.slice a n cap] w fun e w' => ∃ v ys, e = .returned v ∧ CpAt w.heap.size w' v ys (vsOf xs) ∧ Below w.heap.size w w' := by
  have H := Lib.hid h
  have HN := Lib.hid hn
  have HS := Lib.hid hS
  have hnl : n < 100000 := by have := hS.len; rw [vsOf_len] at this; omega
  clear h hn hS
  go_enter Tryz.func87, Tryz.ntmps87
  go_wp2_with fail
  go_loopg [3, 4] n (fun gk ov iv wr => ∃ (i : Nat) (ys : List Vc), i + gk = n ∧ iv = .int .i64 i ∧ Hid (CpAt w.heap.size wr ov ys ((vsOf xs).take i)) ∧ Hid (Below w.heap.size w wr))
  case atStart => exact ⟨0, [], by omega, rfl, Lib.hid ⟨rfl, World.ownsRow_nil _ _ _ _, by simp⟩, Lib.hid (Below.refl _ _)⟩
  case round =>
    obtain ⟨i, ys, hi, rfl, HC, HB⟩ := hrel
    by_cases hlt : i < n
    · have hil : i < xs.length := by have := HN.out; omega
      obtain ⟨b, o, rfl, hlb, hc⟩ := H.out.els.get i hil
      have x0 := (HB.out.cell (p := ⟨b, _, none⟩) hlb).trans (hc 0 _ rfl)
      have x1 := (HB.out.cell (p := ⟨b, _, none⟩) hlb).trans (hc 1 _ rfl)
      simp only [Nat.add_zero] at x0 x1
      have HP := Lib.hid ((H.out.inn _ (List.getElem_mem hil)).ext HB.out)
      have HT := Lib.hid (show (vsOf xs).take (i + 1) = (vsOf xs).take i ++ [(xs[i].line, xs[i].ps)] by rw [List.take_succ_eq_append_getElem (by rw [vsOf_len]; exact hil), vsOf_get xs i hil])
      have HL := Lib.hid (show xs[i].ps.length < 100000 from HS.out.inn (xs[i].line, xs[i].ps) (by unfold vsOf; exact List.mem_map.2 ⟨xs[i], List.getElem_mem hil, rfl⟩))
      clear hc
      generalize xs[i] = x at *
      obtain ⟨xl, xa, xc, xp⟩ := x
      simp only at x0 x1 HP HT HL
      have hyl : ys.length < 1000000 := by
        have := congrArg List.length HC.out.vs
        rw [vsOf_len, List.length_take] at this
        omega
      obtain ⟨v1, w1, hr1, ho1, hb1⟩ := run_copy wr.drew wr.heap.size xa xc xp.length xp (els_drewN HP.out 1) rfl (by have := HL.out; omega) (Nat.le_refl _) (74)
      obtain ⟨a1, c1, rfl, -, -, -, -⟩ := own_parts ho1
      have hb1' : Below wr.heap.size wr w1 := (Below.drew (Below.refl wr.heap.size wr)).trans hb1
      have y0 := (hb1'.cell (p := ⟨b, _, none⟩) (Nat.lt_of_lt_of_le hlb HB.out.size)).trans x0
      obtain ⟨v2, w9, hr2, hC2, hB2⟩ := HC.out.add (line := xl) HB.out.size hb1' ho1 hyl
      rw [← HT.out] at hC2
      have HC2 := Lib.hid hC2
      have HB2 := Lib.hid (hB2 w rfl HB.out)
      have HR1 := Lib.hid hr1
      have HR2 := Lib.hid hr2
      obtain ⟨pn, hpn⟩ : ∃ pn, pn = xp.length := ⟨_, rfl⟩
      rw [← hpn] at x1 HR1 HR2
      have hk0 : (0 : Int) ≤ (i : Int) := by omega
      have hk1 : (i : Int) < (n : Int) := by omega
      clear hr1 hr2 ho1 hb1 hb1' hC2 hB2 hyl hpn
      go_wp2_with fail
      go_region_law (first | (refine step_append_run rfl (.const (.slice none 0 0)) (.tmp 21) (74) (74) rfl (.slice none 0 0) (.slice xa pn xc) (by simp [Act.eval]) (by simp [Act.eval]) _ _ (HR1.out) ?_) | (refine step_append_run rfl (.tmp 11) (.tmp 24) (29) (29) rfl u3 (.slice (some ⟨w1.heap.size, 0, none⟩) 1 1) (by simp [Act.eval]) (by simp [Act.eval]) _ _ (HR2.out _) ?_))
      all_goals
        clear x0 x1 y0
        go_wp2
        go_roundg (gk - 1)
        case measure => omega
        case rel => exact ⟨i + 1, _, by omega, by go_num, HC2, HB2⟩
    · have HE := Lib.hid (show CpAt w.heap.size wr u3 ys (vsOf xs) from by
        have h1 := HC.out
        rwa [List.take_of_length_le (by rw [vsOf_len]; have := HN.out; omega)] at h1)
      go_wp2_with fail
      go_ret
      exact ⟨u3, ys, rfl, HE.out, HB.out⟩
end Go.Proofs.YtchcelodeepjdaaGreatDoor.Vx

namespace Go.Proofs.YtchcelodeepjdaaGreatDoor.Vx
open Go.RowKit Go.Shelf Go.Herb

theorem flat_set : ∀ (ys : List Vc) (i : Nat) (y : Vc) (a : Option Addr) (c : Nat) (ps : Bh), ys[i]? = some y → (ys.flatMap vc).set (i * 2 + 1) (.slice a ps.length c) = (ys.set i ⟨y.line, a, c, ps⟩).flatMap vc
  | [], _, _, _, _, _, h => by simp at h
  | z :: zs, 0, y, a, c, ps, h => by
    simp at h
    subst h
    rfl
  | z :: zs, i + 1, y, a, c, ps, h => by
    have ih := flat_set zs i y a c ps (by simpa using h)
    rw [List.set_cons_succ, List.flatMap_cons, List.flatMap_cons, ← ih, show (i + 1) * 2 + 1 = (i * 2 + 1) + 1 + 1 by omega]
    rfl
theorem rowV_set {w : World} {g cap : Nat} {ys : List Vc} (h : Row vc 2 (76) w g cap ys) {i : Nat} {y : Vc} (hy : ys[i]? = some y) (a : Option Addr) (c : Nat) (ps : Bh) :
    Row vc 2 (76) (w.setCell ⟨g, i * 2 + 1, none⟩ (.slice a ps.length c)) g cap (ys.set i ⟨y.line, a, c, ps⟩) := by
  obtain ⟨cur, hc, hsz, htk⟩ := h.blk
  refine ⟨⟨_, blk_setCell hc _, by simpa using hsz, ?_⟩, by simpa using h.le, h.max⟩
  rw [Array.toList_setIfInBounds, List.length_set, List.take_set, htk, flat_set ys i y a c ps hy]
theorem vsOf_set (ys : List Vc) (i : Nat) (l : Int) (a : Option Addr) (c : Nat) (ps : Bh) : vsOf (ys.set i ⟨l, a, c, ps⟩) = (vsOf ys).set i (l, ps) := by unfold vsOf; rw [List.map_set]
theorem owns_of_rowV {B g cap : Nat} {w : World} {ys : List Vc} (h : Row vc 2 (76) w g cap ys) (hB : B ≤ g) : OwnV B w (.slice (some ⟨g, 0, none⟩) ys.length cap) ys := by
  obtain ⟨cur, hc, hsz, htk⟩ := h.blk
  exact ⟨flatMap_len vc_len _, .inr ⟨g, cap, cur, rfl, hB, hc, h.le, h.max, hsz, htk⟩⟩
theorem CpAt.len {B : Nat} {w : World} {v : Value} {ys : List Vc} {L : Vs} (h : CpAt B w v ys L) : ys.length = L.length := by rw [← h.vs, vsOf_len]
/-- Copies, of which one is stored anew. -/
theorem CpAt.set {B B' : Nat} {w : World} {g n cap : Nat} {ys : List Vc} {L : Vs} {i : Nat} {y : Vc} {a : Option Addr} {c : Nat} {ps : Bh}
    (h : CpAt B w (.slice (some ⟨g, 0, none⟩) n cap) ys L) (hy : ys[i]? = some y) (ho : OwnP B' w (.slice a ps.length c) ps) (hB : B ≤ B') (hg : g < B') :
    CpAt B (w.setCell ⟨g, i * 2 + 1, none⟩ (.slice a ps.length c)) (.slice (some ⟨g, 0, none⟩) n cap) (ys.set i ⟨y.line, a, c, ps⟩) (L.set i (y.line, ps)) := by
  have hgr : w.grownBy (w.setCell ⟨g, i * 2 + 1, none⟩ (.slice a ps.length c)) (some g) := grown_set (grown_refl _ _) _ _
  refine ⟨by rw [vsOf_set, h.vs], ?_, fun z hz => ?_⟩
  · rcases row_of_owns h.own with ⟨h1, h2⟩ | ⟨g', cap', h1, h2, h3⟩
    · injection h1 with h1; cases h1
    · injection h1 with h1 h4 h5
      injection h1 with h1
      injection h1 with h1
      subst h1 h4 h5
      have := owns_of_rowV (rowV_set h3 hy a c ps) h2
      rwa [List.length_set] at this
  · rcases List.mem_or_eq_of_mem_set hz with hz | rfl
    · obtain ⟨g1, g2⟩ := h.at_ z hz
      exact ⟨g1.kept hgr (fun r e => g2 r (by rw [← e]; rfl)), g2⟩
    · have hlt : ∀ r, a = some ⟨r, 0, none⟩ → B' ≤ r := fun r e => (World.ownsRow.lt ho r (by rw [e]; rfl)).1
      refine ⟨VcO.kept (x := ⟨y.line, a, c, ps⟩) ⟨c, ownsRow_mono ho hB⟩ hgr (fun r e ha => ?_), fun r e ha => ?_⟩
      · injection e with e
        have := hlt r ha
        omega
      · have h1 := hlt r ha
        have e2 : g = r := by injection e
        omega
  
theorem VcO.pts {B : Nat} {w : World} {x : Vc} (h : VcO B w x) : Pts w x.a x.ps := by
  obtain ⟨cap, ho⟩ := h
  exact owns_els pc_len ho
theorem CpAt.vin {B : Nat} {w : World} {va : Option Addr} {n cap : Nat} {ys : List Vc} {L : Vs} (h : CpAt B w (.slice va n cap) ys L) (hG : GoodV L) : n = ys.length ∧ VIn w va ys := by
  have hm : ∀ x ∈ ys, (x.line, x.ps) ∈ L := fun x hx => by rw [← h.vs]; exact List.mem_map.2 ⟨x, hx, rfl⟩
  obtain ⟨a', c', e, -, hl1, hl2, -⟩ := own_parts h.own
  injection e with e1 e2 e3
  subst e1 e2 e3
  refine ⟨rfl, owns_els vc_len h.own, fun x hx => (h.at_ x hx).1.pts, fun x h => ⟨hG.wf _ (hm x h), fun q hq => (hG.inn _ (hm x h)).wf q hq⟩, Nat.le_trans hl1 hl2, fun x hx => ?_⟩
  obtain ⟨c, hc⟩ := (h.at_ x hx).1
  obtain ⟨_, _, _, -, h1, h2, -⟩ := own_parts hc
  exact Nat.le_trans h1 h2
theorem CpAt.get {B : Nat} {w : World} {v : Value} {ys xs : List Vc} {i : Nat} {x : Vc} (h : CpAt B w v ys (vsOf xs)) (hx : xs[i]? = some x) : ∃ y, ys[i]? = some y ∧ y.line = x.line ∧ y.ps = x.ps := by
  have h1 : (vsOf ys)[i]? = some (x.line, x.ps) := by rw [h.vs]; unfold vsOf; rw [List.getElem?_map, hx]; rfl
  unfold vsOf at h1
  rw [List.getElem?_map] at h1
  obtain ⟨y, h2, h3⟩ := Option.map_eq_some_iff.1 h1
  injection h3 with h3 h4
  exact ⟨y, h2, h3, h4⟩
theorem CpAt.below {B : Nat} {w w' : World} {v : Value} {ys : List Vc} {L : Vs} (h : CpAt B w v ys L) (hb : Below w.heap.size w w') : CpAt B w' v ys L :=
  ⟨h.vs, ownsRow_below h.own hb (Nat.le_refl _), fun y hy => ⟨(h.at_ y hy).1.below hb, (h.at_ y hy).2⟩⟩
/-- Copies behind a pointer: the reference's vectors. -/
theorem CpAt.ref {B p : Nat} {w : World} {va : Option Addr} {n cap : Nat} {ys : List Vc} {L : Vs} (h : CpAt B w (.slice va n cap) ys L) (hG : GoodV L) (hp : w.heap[p]? = some (.cells #[.slice va n cap] (158) (0, 0))) : RefIs w p va cap ys L := by
  obtain ⟨rfl, hv⟩ := h.vin hG
  exact ⟨hp, hv, h.vs⟩
/-- The reference's new vectors, of which a line's points may be stored anew. -/
structure NAt (B q g n cap : Nat) (u : World) (ys : List Vc) (L : Vs) : Prop where
  cp : CpAt B u (.slice (some ⟨g, 0, none⟩) n cap) ys L
  blk : u.heap[q]? = some (.cells #[.slice (some ⟨g, 0, none⟩) n cap] (158) (0, 0))
  lt : g < q
  lb : B ≤ g
theorem NAt.below {B q g n cap : Nat} {u u' : World} {ys : List Vc} {L : Vs} (h : NAt B q g n cap u ys L) (hb : Below u.heap.size u u') : NAt B q g n cap u' ys L := ⟨h.cp.below hb, blk_below h.blk hb (lt_of_blk h.blk), h.lt, h.lb⟩
theorem NAt.row {B q g n cap : Nat} {u : World} {ys : List Vc} {L : Vs} (h : NAt B q g n cap u ys L) : n = ys.length ∧ Row vc 2 (76) u g cap ys := by
  rcases row_of_owns h.cp.own with ⟨h1, _⟩ | ⟨g', cap', h1, _, h3⟩
  · injection h1 with h1; cases h1
  · injection h1 with h1 h4 h5
    injection h1 with h1
    injection h1 with h1
    subst h1 h4 h5
    exact ⟨rfl, h3⟩
theorem NAt.cells {B q g n cap : Nat} {u : World} {ys : List Vc} {L : Vs} (h : NAt B q g n cap u ys L) {i : Nat} {y : Vc} (hy : ys[i]? = some y) :
    u.cell? ⟨q, 0, none⟩ = some (.slice (some ⟨g, 0, none⟩) n cap) ∧ u.cell? ⟨g, i * 2 + 1, none⟩ = some (.slice y.a y.ps.length y.c) ∧ u.frozen? ⟨g, i * 2 + 1, none⟩ = false ∧ Pts u y.a y.ps := by
  obtain ⟨hi, rfl⟩ := List.getElem?_eq_some_iff.1 hy
  have h0 := cell_of_blk h.blk 0
  simp at h0
  exact ⟨h0, h.row.2.cell vc_len i hi 1 _ rfl, h.row.2.frozen _, (h.cp.at_ _ (List.getElem_mem hi)).1.pts⟩
/-- A call that laid points, then the store. -/
theorem NAt.put {B q g n cap : Nat} {W u : World} {ys : List Vc} {L : Vs} (h : NAt B q g n cap W ys L) {i : Nat} {y : Vc} (hy : ys[i]? = some y) {a : Option Addr} {c k : Nat} {ps : Bh} (hb : Below W.heap.size W u) (ho : OwnP W.heap.size u (.slice a k c) ps) (hk : k = ps.length) (hB : B ≤ W.heap.size) :
    NAt B q g n cap (u.setCell ⟨g, i * 2 + 1, none⟩ (.slice a k c)) (ys.set i ⟨y.line, a, c, ps⟩) (L.set i (y.line, ps)) ∧ ∀ w0 : World, w0.heap.size ≤ B → Below w0.heap.size w0 W → Below w0.heap.size w0 (u.setCell ⟨g, i * 2 + 1, none⟩ (.slice a k c)) := by
  subst hk
  have h' := h.below hb
  have hq := lt_of_blk h.blk
  have hl := h.lt
  refine ⟨⟨h'.cp.set hy ho hB (by omega), blk_setCell_other h'.blk (by show q ≠ g; omega) _, h.lt, h.lb⟩, fun w0 h0 hw => ?_⟩
  have h1 : Below w0.heap.size w0 u := hw.trans (hb.mono hw.size)
  exact h1.grown (grown_set (grown_refl _ _) _ _ : u.grownBy _ (some g)) h1.size (fun k e => by injection e with e; have := h.lb; omega)
theorem NAt.ref {B q g n cap : Nat} {u : World} {ys : List Vc} {L : Vs} (h : NAt B q g n cap u ys L) (hG : GoodV L) : RefIs u q (some ⟨g, 0, none⟩) cap ys L := h.cp.ref hG h.blk
end Go.Proofs.YtchcelodeepjdaaGreatDoor.Vx

namespace Go.Proofs.YtchcelodeepjdaaGreatDoor.Vx
open Go.RowKit Go.Shelf Go.Herb Go.Sort
theorem LtP.trans {a b c : Int × Int} (h : LtP a b) (k : LtP b c) : LtP a c := by unfold LtP at *; omega
theorem LtP.total (a b : Int × Int) (h : ¬ LtP a b) (hne : a ≠ b) : LtP b a := by
  have : ¬ (a.1 = b.1 ∧ a.2 = b.2) := fun e => hne (Prod.ext e.1 e.2)
  unfold LtP at *
  omega
/-- Rising, with the members of a list. -/
structure RP (out S : List (Int × Int)) : Prop where
  srt : out.Pairwise LtP
  mem : ∀ q, q ∈ out ↔ q ∈ S
theorem RP.nil : RP [] [] := ⟨.nil, fun _ => Iff.rfl⟩
theorem RP.put {out S : List (Int × Int)} (h : RP out S) {p : Int × Int} {i : Nat} (hlo : ∀ q ∈ out.take i, LtP q p) (hi : i ≤ out.length) (hx : ∀ x, out[i]? = some x → ¬ LtP x p ∧ x ≠ p) : RP (out.take i ++ p :: out.drop i) (S ++ [p]) := by
  have hs := h.srt
  rw [← List.take_append_drop i out, List.pairwise_append] at hs
  obtain ⟨s1, s2, s3⟩ := hs
  have hhi : ∀ q ∈ out.drop i, LtP p q := fun q hq => by
    rcases Nat.lt_or_eq_of_le hi with hlt | he
    · have hd := List.drop_eq_getElem_cons hlt
      rw [hd] at s2 hq
      have h0 := hx _ (List.getElem?_eq_getElem hlt)
      have h1 := LtP.total _ _ h0.1 h0.2
      rcases List.mem_cons.1 hq with rfl | hq
      · exact h1
      · exact h1.trans ((List.pairwise_cons.1 s2).1 q hq)
    · rw [he, List.drop_length] at hq
      simp at hq
  refine ⟨List.pairwise_append.2 ⟨s1, List.pairwise_cons.2 ⟨hhi, s2⟩, fun a ha b hb => ?_⟩, fun q => ?_⟩
  · rcases List.mem_cons.1 hb with rfl | hb
    · exact hlo a ha
    · exact s3 a ha b hb
  · rw [List.mem_append, List.mem_cons, List.mem_append, List.mem_singleton, ← h.mem q]
    have : q ∈ out ↔ q ∈ out.take i ∨ q ∈ out.drop i := by rw [← List.mem_append, List.take_append_drop]
    rw [this]
    constructor
    · rintro (h | h | h)
      · exact .inl (.inl h)
      · exact .inr h
      · exact .inl (.inr h)
    · rintro ((h | h) | h)
      · exact .inl h
      · exact .inr (.inr h)
      · exact .inr (.inl h)
theorem RP.has {out S : List (Int × Int)} (h : RP out S) {p : Int × Int} (hp : p ∈ out) : RP out (S ++ [p]) :=
  ⟨h.srt, fun q => by rw [List.mem_append, List.mem_singleton, ← h.mem q]; exact ⟨.inl, fun h => h.elim id (fun e => by rw [e]; exact hp)⟩⟩
theorem RP.perm {out S T : List (Int × Int)} (h : RP out S) (hp : S.Perm T) : RP out T := ⟨h.srt, fun q => (h.mem q).trans hp.mem_iff⟩
end Go.Proofs.YtchcelodeepjdaaGreatDoor.Vx

namespace Go.Proofs.YtchcelodeepjdaaGreatDoor.Vx
open Go.RowKit Go.Shelf Go.Herb

/-- New vectors, to which lines are put. -/
structure FAt (q : Nat) (u : World) (v : Value) (zs : List Vc) : Prop where
  blk : u.heap[q]? = some (.cells #[v] (158) (0, 0))
  own : OwnV (q + 1) u v zs
theorem FAt.add {q : Nat} {wr : World} {v : Value} {zs : List Vc} (h : FAt q wr v zs) (y : Vc) (m : Nat) (hm : y.ps.length = m) (hl : zs.length < 1000000) :
    ∃ v' w9, (∀ ty, (Builtin.append_ #[(29), (29)] ty #[v, .slice (some ⟨wr.heap.size, 0, none⟩) 1 1]).run Tryz.prog (wr.alloc (.cells #[.int .u64 y.line, .slice y.a m y.c] (76))).drew = .ok v' w9) ∧ (w9.cell? ⟨q, 0, none⟩ = some v ∧ w9.frozen? ⟨q, 0, none⟩ = false) ∧
      (wr.drew.cell? ⟨q, 0, none⟩ = some v ∧ (wr.alloc (.cells #[.int .u64 y.line, .slice y.a m y.c] (76))).drew.cell? ⟨q, 0, none⟩ = some v) ∧ FAt q (w9.setCell ⟨q, 0, none⟩ v') v' (zs ++ [y]) ∧ ∀ W, Below q W wr → Below q W (w9.setCell ⟨q, 0, none⟩ v') := by
  subst hm
  obtain ⟨X, hX⟩ : ∃ X : World, X = (wr.alloc (.cells #[.int .u64 y.line, .slice y.a y.ps.length y.c] (76))).drew := ⟨_, rfl⟩
  have hXb : Below wr.heap.size wr X := by rw [hX]; exact ((Below.refl _ _).alloc (Nat.le_refl _) _).drew
  have hXx : X.heap[wr.heap.size]? = some (.cells #[.int .u64 y.line, .slice y.a y.ps.length y.c] (76) (0, 0)) := by rw [hX]; exact blk_new_at rfl _
  have hq := lt_of_blk h.blk
  have hXs := hXb.size
  have hq0 := blk_below h.blk hXb hq
  obtain ⟨v', w9, hr, hO, hg, -⟩ := run_append_v X (q + 1) v zs wr.heap.size y (ownsRow_below h.own hXb (Nat.le_refl _)) hXx hl (by omega) (29)
  have hlt : ∀ k, v.ownBlock = some k → q + 1 ≤ k := fun k e => (World.ownsRow.lt h.own k e).1
  have hlt' : ∀ k, v'.ownBlock = some k → q + 1 ≤ k := fun k e => (World.ownsRow.lt hO k e).1
  have hb9 := (hg.block q (by omega) (fun e => by have := hlt q e.symm; omega)).trans hq0
  have c9 := cell_of_blk hb9 0
  have cX := cell_of_blk hq0 0
  have cr := cell_of_blk h.blk 0
  have f9 := frozen_of_blk hb9 0
  simp at c9 cX cr
  rw [hX] at cX
  rw [← hX]
  have hg2 : w9.grownBy (w9.setCell ⟨q, 0, none⟩ v') (some q) := grown_set (grown_refl _ _) _ _
  refine ⟨v', w9, fun _ => hr, ⟨c9, f9⟩, ⟨cr, by rw [hX]; exact cX⟩, ⟨by have := blk_setCell (j := 0) hb9 v'; simpa using this, World.ownsRow.kept hO hg2 (.inr (fun e => by have := hlt' q e; omega))⟩, fun W hW => ?_⟩
  have h1 : Below q W w9 := (hW.trans (hXb.mono (by omega))).grown hg (by omega) (fun k e => by have := hlt k e; omega)
  exact h1.grown hg2 (by have := hg.size; omega) (fun k e => by injection e with e; omega)
theorem FAt.ref {B q : Nat} {u : World} {v : Value} {zs : List Vc} {L : Vs} (h : FAt q u v zs) (hz : ∀ z ∈ zs, VcO B u z) (hL : vsOf zs = L) (hG : GoodV L) : ∃ la lc, RefIs u q la lc zs L := by
  obtain ⟨la, lc, rfl, -, h1, h2, -⟩ := own_parts h.own
  have hm : ∀ x ∈ zs, (x.line, x.ps) ∈ L := fun x hx => by rw [← hL]; exact List.mem_map.2 ⟨x, hx, rfl⟩
  refine ⟨la, lc, h.blk, ⟨owns_els vc_len h.own, fun x hx => (hz x hx).pts, fun x h => ⟨hG.wf _ (hm x h), fun q hq => (hG.inn _ (hm x h)).wf q hq⟩, Nat.le_trans h1 h2, fun x hx => ?_⟩, hL⟩
  obtain ⟨c, hc⟩ := hz x hx
  obtain ⟨_, _, _, -, h3, h4, -⟩ := own_parts hc
  exact Nat.le_trans h3 h4
end Go.Proofs.YtchcelodeepjdaaGreatDoor.Vx
