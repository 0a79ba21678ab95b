/- Plain: the reference's steps are laidB's. No condition. -/
import Derived.Test.YtnnpheklgdbohaaY3
namespace Go.Herb
theorem mxB_keep {b : Bh} (h : Good b) {k s : Int} (hs : 0 < s) (hk : U64 k) (hu : U64 s) (hle : ¬ g0 b k < s) : mxB b k s = b :=
  good_ext (mxB_good h hs hk hu) h (fun k' => by
    rw [g0_mxB h.srt]
    by_cases e : k' = k
    · rw [if_pos e, e]; omega
    · rw [if_neg e])
theorem mxB_take {b : Bh} {k s : Int} (hlt : g0 b k < s) : mxB b k s = putS b k s := by
  unfold mxB
  rw [Int.max_eq_right (by omega)]
theorem mixB_one (b : Bh) (k s : Int) : mixB b [(k, s)] = mxB b k s := rfl
theorem mixB_nil {b : Bh} (h : Good b) : mixB [] b = b := laid_one h
theorem above_g0 {b : Bh} (h : Good b) {s : Int} (ha : aboveB b s = true) (k : Int) : g0 b k < s := by
  obtain ⟨h0, h1⟩ := aboveB_iff.1 ha
  by_cases e : g0 b k = 0
  · omega
  · exact h1 _ (h.ok.mem_of e)
theorem laid_step {b : Bh} (h : Good b) {k s : Int} (ha : aboveB b s = true) : laidB [b, [(k, s)]] = putS b k s := by
  show mixB (mixB [] b) [(k, s)] = _
  rw [mixB_nil h, mixB_one, mxB_take (above_g0 h ha k)]
theorem mixB_snoc (b c : Bh) (p : Int × Int) : mixB b (c ++ [p]) = mxB (mixB b c) p.1 p.2 := by
  unfold mixB
  rw [List.foldl_append]
  rfl
theorem laid_merge {b c : Bh} (hb : Good b) (hc : Good c) {k s : Int} (ha : aboveB b s = true) (hd : aboveB c s = true) : laidB [b, c, [(k, s)]] = putS (mixB b c) k s := by
  show mixB (mixB (mixB [] b) c) [(k, s)] = _
  rw [mixB_nil hb, mixB_one, mxB_take]
  rw [g0_mixB hb.srt, supF_one hc.ok _ _ (hb.ok.nn k)]
  have := above_g0 hb ha k
  have := above_g0 hc hd k
  omega
theorem srt_parts {β : Type} {L : List (Int × β)} (h : SrtK L) {i : Nat} {x : Int × β} (hx : L[i]? = some x) :
    L = L.take i ++ x :: L.drop (i + 1) ∧ (∀ q ∈ L.take i, q.1 < x.1) ∧ (∀ q ∈ L.drop (i + 1), x.1 < q.1) := by
  obtain ⟨hi, rfl⟩ := List.getElem?_eq_some_iff.1 hx
  have hp := List.pairwise_iff_getElem.1 h
  refine ⟨by rw [← List.drop_eq_getElem_cons hi, List.take_append_drop], fun q hq => ?_, fun q hq => ?_⟩
  · obtain ⟨j, hj, rfl⟩ := List.getElem_of_mem hq
    rw [List.getElem_take]
    exact hp j i (by simp at hj; omega) hi (by simp at hj; omega)
  · obtain ⟨j, hj, rfl⟩ := List.getElem_of_mem hq
    rw [List.getElem_drop]
    exact hp i (i + 1 + j) hi (by simp at hj; omega) (by omega)
theorem set_putS {β : Type} {L : List (Int × β)} (h : SrtK L) {i : Nat} {x : Int × β} (hx : L[i]? = some x) (v : β) : L.set i (x.1, v) = putS L x.1 v := by
  obtain ⟨h1, h2, h3⟩ := srt_parts h hx
  have hi := (List.getElem?_eq_some_iff.1 hx).1
  have e1 : L.filter (fun p => decide (p.1 < x.1)) = L.take i := by
    refine (congrArg (List.filter _) h1).trans ?_
    rw [List.filter_append, List.filter_cons, List.filter_eq_self.2 (fun q hq => decide_eq_true (h2 q hq)), List.filter_eq_nil_iff.2 (fun q hq => by have := h3 q hq; simp; omega)]
    simp
  have e2 : L.filter (fun p => decide (x.1 < p.1)) = L.drop (i + 1) := by
    refine (congrArg (List.filter _) h1).trans ?_
    rw [List.filter_append, List.filter_cons, List.filter_eq_nil_iff.2 (fun q hq => by have := h2 q hq; simp; omega), List.filter_eq_self.2 (fun q hq => decide_eq_true (h3 q hq))]
    simp
  unfold putS
  rw [e1, e2, List.set_eq_take_append_cons_drop, if_pos hi]
theorem drop_filter {β : Type} {L : List (Int × β)} (h : SrtK L) {i : Nat} {x : Int × β} (hx : L[i]? = some x) : L.filter (fun p => decide (p.1 ≠ x.1)) = L.take i ++ L.drop (i + 1) := by
  obtain ⟨h1, h2, h3⟩ := srt_parts h hx
  refine (congrArg (List.filter _) h1).trans ?_
  rw [List.filter_append, List.filter_cons, List.filter_eq_self.2 (fun q hq => by have := h2 q hq; exact decide_eq_true (by omega)), List.filter_eq_self.2 (fun q hq => by have := h3 q hq; exact decide_eq_true (by omega))]
  simp
end Go.Herb
