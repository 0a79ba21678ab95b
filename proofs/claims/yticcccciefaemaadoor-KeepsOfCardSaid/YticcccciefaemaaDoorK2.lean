/- views.seen: what it makes. Condition: fewer than 1000000 links. -/
import Derived.Test.YticcccciefaemaaDoorK1
namespace Go.Proofs.YticcccciefaemaaDoor
open Go.RowKit Go.Shelf Go.Herb
attribute [local go_sem] Oper.semAt_some

abbrev eU (x : Int) : Value := .int .u64 x
theorem eU_inj : ∀ a a', eU a = eU a' → a = a' := fun a a' h => by injection h
theorem law25 : Maps.Keyed Tryd.prog 35 := Maps.int_keyed Tryd.underlying35
abbrev MapU (w : World) (b : Nat) (m : List (Int × Int)) : Prop := MapIs Tryd.prog 35 eU eU w b m

/-- Up to where each line is seen, when these links have come. -/
def uptoM (ps : List (Int × Lk)) : List (Int × Int) := ps.foldl (fun m p => putL m p.2.line p.2.upto) []
theorem uptoM_snoc (ps : List (Int × Lk)) (x : Int × Lk) : uptoM (ps ++ [x]) = putL (uptoM ps) x.2.line x.2.upto := by simp [uptoM]
theorem uptoM_len (ps : List (Int × Lk)) : (uptoM ps).length ≤ ps.length := by
  suffices h : ∀ (m : List (Int × Int)), (ps.foldl (fun m p => putL m p.2.line p.2.upto) m).length ≤ m.length + ps.length by
    have := h []; simpa [uptoM] using this
  induction ps with
  | nil => intro m; simp
  | cons p ps ih => intro m; have := ih (putL m p.2.line p.2.upto); have h2 := putL_length m p.2.line p.2.upto; simp only [List.foldl_cons, List.length_cons]; omega

theorem backs_snd (xs : List Lk) : (backs xs xs.length).map (·.2) = xs.reverse := by
  apply List.ext_getElem?
  intro i
  unfold backs
  rw [List.getElem?_map, List.getElem?_map]
  rcases Nat.lt_or_ge i xs.length with h | h
  · rw [List.getElem?_range h, List.getElem?_reverse h]
    simp [List.getElem?_eq_getElem (show xs.length - 1 - i < xs.length by omega)]
  · rw [List.getElem?_eq_none (by simpa using h), List.getElem?_eq_none (by simpa using h)]
    rfl

/-- The first link of a line counts. -/
theorem uptoM_get (xs : List Lk) (line : Int) : getL (uptoM (backs xs xs.length)) line = (xs.find? (fun l => decide (l.line = line))).map (·.upto) := by
  have h1 : uptoM (backs xs xs.length) = xs.foldr (fun l m => putL m l.line l.upto) [] := by
    have h2 : uptoM (backs xs xs.length) = ((backs xs xs.length).map (·.2)).foldl (fun m l => putL m l.line l.upto) [] := by
      unfold uptoM
      rw [List.foldl_map]
    rw [h2, backs_snd, List.foldl_reverse]
  rw [h1]
  induction xs with
  | nil => rfl
  | cons x xs ih =>
    rw [List.foldr_cons, List.find?_cons]
    by_cases h : x.line = line
    · rw [h, getL_put_same]
      simp
    · rw [getL_put_other _ _ _ (fun e => h e.symm)]
      simp only [h, decide_false]
      refine Eq.trans ?_ (ih ?_)
      · rfl
      · have h2 : uptoM (backs xs xs.length) = ((backs xs xs.length).map (·.2)).foldl (fun m l => putL m l.line l.upto) [] := by
          unfold uptoM
          rw [List.foldl_map]
        rw [h2, backs_snd, List.foldl_reverse]

theorem blk_ownFrom {β : Type} (B b : Nat) (f : β → Array Value) (t : TypeId) : OwnFrom B (fun (s : β) W => W.heap[b]? = some (.cells (f s) t (0, 0))) := fun s X Y row hs hg hr => by
  refine (hg.block b (lt_of_blk hs) (fun e => ?_)).trans hs
  obtain ⟨_, o, ho, hc⟩ := hr b e.symm
  rw [hs] at ho
  cases ho
  cases hc

theorem map_ownFrom {β : Type} (B b : Nat) (hb : b < B) (f : β → List (Int × Int)) : OwnFrom B (fun (s : β) W => MapU W b (f s)) := fun s X Y row hs hg hr =>
  hs.same (hg.block b hs.lt (fun e => by have := (hr b e.symm).1; omega))

theorem size_ownFrom {β : Type} (B N : Nat) : OwnFrom B (fun (_ : β) W => N ≤ W.heap.size) := fun _ _ _ _ hs hg _ => Nat.le_trans hs hg.size

/-- What the function value that views.seen makes has captured. -/
structure SeenV (w : World) (bl bu ba bm : Nat) (vl : Value) (m : List (Int × Int)) (at_ : Int) : Prop where
  l : w.heap[bl]? = some (.cells #[vl] 22 (0, 0))
  u : w.heap[bu]? = some (.cells #[.map (some bm)] 64 (0, 0))
  a : w.heap[ba]? = some (.cells #[.int .u64 at_] 35 (0, 0))
  m : MapU w bm m

theorem SeenV.same {w w' : World} {bl bu ba bm : Nat} {vl : Value} {m : List (Int × Int)} {at_ : Int} (h : SeenV w bl bu ba bm vl m at_) (hl : w'.heap[bl]? = w.heap[bl]?) (hu : w'.heap[bu]? = w.heap[bu]?) (ha : w'.heap[ba]? = w.heap[ba]?) (hm : w'.heap[bm]? = w.heap[bm]?) : SeenV w' bl bu ba bm vl m at_ :=
  ⟨hl.trans h.l, hu.trans h.u, ha.trans h.a, h.m.same hm⟩

theorem SeenV.below {w w' : World} {bl bu ba bm : Nat} {vl : Value} {m : List (Int × Int)} {at_ : Int} (h : SeenV w bl bu ba bm vl m at_) (hb : Below w.heap.size w w') : SeenV w' bl bu ba bm vl m at_ :=
  h.same (hb.block _ (lt_of_blk h.l)) (hb.block _ (lt_of_blk h.u)) (hb.block _ (lt_of_blk h.a)) (hb.block _ h.m.lt)

end Go.Proofs.YticcccciefaemaaDoor
