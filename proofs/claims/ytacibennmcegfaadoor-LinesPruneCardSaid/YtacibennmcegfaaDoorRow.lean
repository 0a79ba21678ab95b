/- Rows of structs that a call owns and turns in place: plain lemmas. No condition. -/
import Derived.Test.YtacibennmcegfaaDoorBase
import Derived.BigRegion
namespace Go.Herb
open Go.RowKit

/-- Block g is a row of the elements xs, each of s cells of type e, with room for cap. -/
structure Row {α : Type} (enc : α → List Value) (s e : Nat) (w : World) (g cap : Nat) (xs : List α) : Prop where
  blk : ∃ cur : Array Value, w.heap[g]? = some (.cells cur e (0, 0)) ∧ cur.size = cap * s ∧ cur.toList.take (xs.length * s) = xs.flatMap enc
  le : xs.length ≤ cap
  max : cap ≤ maxLen

section
variable {α : Type} {enc : α → List Value} {s e : Nat} {w w' : World} {g cap : Nat} {xs : List α}

theorem Row.lt (h : Row enc s e w g cap xs) : g < w.heap.size := by
  obtain ⟨cur, hb, _⟩ := h.blk
  exact lt_of_blk hb

theorem Row.cell (h : Row enc s e w g cap xs) (hs : ∀ x, (enc x).length = s) (i : Nat) (hi : i < xs.length) (j : Nat) (c : Value) (hj : (enc xs[i])[j]? = some c) : w.cell? ⟨g, i * s + j, none⟩ = some c := by
  obtain ⟨cur, hb, hsz, htk⟩ := h.blk
  have hjs : j < s := by
    rcases Nat.lt_or_ge j s with h' | h'
    · exact h'
    · rw [List.getElem?_eq_none (by rw [hs]; exact h')] at hj; simp at hj
  have h1 := flatMap_get hs xs i j hi hjs
  rw [hj, ← htk, List.getElem?_take_of_lt (by
    have : (i + 1) * s ≤ xs.length * s := Nat.mul_le_mul_right s hi
    rw [Nat.succ_mul] at this; omega)] at h1
  rw [cell_of_blk hb]
  simpa using h1

theorem Row.frozen (h : Row enc s e w g cap xs) (o : Nat) : w.frozen? ⟨g, o, none⟩ = false := by
  obtain ⟨cur, hb, _⟩ := h.blk
  exact frozen_of_blk hb o

theorem Row.els (h : Row enc s e w g cap xs) (hs : ∀ x, (enc x).length = s) : Els enc s w (some ⟨g, 0, none⟩) xs :=
  ⟨fun i hi => ⟨g, 0, rfl, h.lt, fun j c hj => by rw [Nat.zero_add]; exact h.cell hs i hi j c hj⟩⟩

theorem Row.same (h : Row enc s e w g cap xs) (hb : w'.heap[g]? = w.heap[g]?) : Row enc s e w' g cap xs := by
  obtain ⟨cur, hc, r⟩ := h.blk
  exact ⟨⟨cur, hb.trans hc, r⟩, h.le, h.max⟩

theorem Row.below (h : Row enc s e w g cap xs) (hb : Below w.heap.size w w') : Row enc s e w' g cap xs := h.same (hb.block g h.lt)

theorem Row.owns (h : Row enc s e w g cap xs) (hs : ∀ x, (enc x).length = s) {base : Nat} (hb : base ≤ g) : w.ownsRow base e s (.slice (some ⟨g, 0, none⟩) xs.length cap) xs.length (xs.flatMap enc) := by
  obtain ⟨cur, hc, hsz, htk⟩ := h.blk
  exact ⟨flatMap_len hs xs, .inr ⟨g, cap, cur, rfl, hb, hc, h.le, h.max, hsz, htk⟩⟩

/-- What is owned is nil, or a row. -/
theorem row_of_owns {base : Nat} {v : Value} (h : w.ownsRow base e s v xs.length (xs.flatMap enc)) :
    (v = .slice none 0 0 ∧ xs = []) ∨ ∃ g cap, v = .slice (some ⟨g, 0, none⟩) xs.length cap ∧ base ≤ g ∧ Row enc s e w g cap xs := by
  obtain ⟨_, ⟨h1, h2⟩ | ⟨g, cap, cur, hv, hg, hh, hle, hm, hsz, htk⟩⟩ := h
  · exact .inl ⟨h1, List.length_eq_zero_iff.1 h2⟩
  · exact .inr ⟨g, cap, hv, hg, ⟨⟨cur, hh, hsz, htk⟩, hle, hm⟩⟩

/-- The first elements of a row are one. -/
theorem Row.take (h : Row enc s e w g cap xs) (hs : ∀ x, (enc x).length = s) (k : Nat) : Row enc s e w g cap (xs.take k) := by
  obtain ⟨cur, hc, hsz, htk⟩ := h.blk
  refine ⟨⟨cur, hc, hsz, ?_⟩, Nat.le_trans (by simp; omega) h.le, h.max⟩
  have h1 : (xs.take k).length * s ≤ xs.length * s := Nat.mul_le_mul_right s (by simp; omega)
  have : cur.toList.take ((xs.take k).length * s) = (cur.toList.take (xs.length * s)).take ((xs.take k).length * s) := by
    rw [List.take_take, Nat.min_eq_left h1]
  rw [this, htk]
  have h2 : xs.flatMap enc = (xs.take k).flatMap enc ++ (xs.drop k).flatMap enc := by
    rw [← List.flatMap_append, List.take_append_drop]
  rw [h2, List.take_append_of_le_length (by rw [flatMap_len hs]; exact Nat.le_refl _), List.take_of_length_le (by rw [flatMap_len hs]; exact Nat.le_refl _)]
end

/-- A list of cells, some of which are set: what the first ones are. -/
theorem flat_set4 {α : Type} {enc : α → List Value} (hs : ∀ x, (enc x).length = 4) (xs : List α) (i : Nat) (x : α) (c0 c1 c2 c3 : Value) (hx : enc x = [c0, c1, c2, c3]) (l : List Value) (hl : l.take (xs.length * 4) = xs.flatMap enc) :
    ((((l.set (i * 4) c0).set (i * 4 + 1) c1).set (i * 4 + 2) c2).set (i * 4 + 3) c3).take ((xs.set i x).length * 4) = (xs.set i x).flatMap enc := by
  have hlen : xs.length * 4 ≤ l.length := by
    have := congrArg List.length hl
    rw [flatMap_len hs, List.length_take] at this
    omega
  apply List.ext_getElem?
  intro j
  rw [List.length_set]
  rcases Nat.lt_or_ge j (xs.length * 4) with hj | hj
  · rw [List.getElem?_take_of_lt hj]
    have hij : j / 4 < xs.length := (Nat.div_lt_iff_lt_mul (by decide)).2 hj
    have he : j = j / 4 * 4 + j % 4 := by rw [Nat.mul_comm]; exact (Nat.div_add_mod j 4).symm
    have hr : j % 4 < 4 := Nat.mod_lt _ (by decide)
    have h1 := flatMap_get hs (xs.set i x) (j / 4) (j % 4) (by simpa using hij) hr
    rw [← he] at h1
    rw [h1]
    have h2 := flatMap_get hs xs (j / 4) (j % 4) hij hr
    rw [← he, ← hl, List.getElem?_take_of_lt hj] at h2
    by_cases hjk : j / 4 = i
    · have e1 : (xs.set i x)[j / 4]'(by simpa using hij) = x := by simp [hjk]
      rw [e1, hx]
      have : j % 4 = 0 ∨ j % 4 = 1 ∨ j % 4 = 2 ∨ j % 4 = 3 := by omega
      rcases this with h | h | h | h
      · have e : j = i * 4 := by omega
        rw [h, e]
        rw [List.getElem?_set_ne (by omega), List.getElem?_set_ne (by omega), List.getElem?_set_ne (by omega), List.getElem?_set_self (by omega)]; rfl
      · have e : j = i * 4 + 1 := by omega
        rw [h, e]
        rw [List.getElem?_set_ne (by omega), List.getElem?_set_ne (by omega), List.getElem?_set_self (by simp; omega)]; rfl
      · have e : j = i * 4 + 2 := by omega
        rw [h, e]
        rw [List.getElem?_set_ne (by omega), List.getElem?_set_self (by simp; omega)]; rfl
      · have e : j = i * 4 + 3 := by omega
        rw [h, e]
        rw [List.getElem?_set_self (by simp; omega)]; rfl
    · have e1 : (xs.set i x)[j / 4]'(by simpa using hij) = xs[j / 4] := by
        rw [List.getElem_set_ne (by omega)]
      rw [e1, ← h2]
      rw [List.getElem?_set_ne (by omega), List.getElem?_set_ne (by omega), List.getElem?_set_ne (by omega), List.getElem?_set_ne (by omega)]
  · rw [List.getElem?_eq_none (by rw [List.length_take]; omega), List.getElem?_eq_none (by rw [flatMap_len hs]; simpa using hj)]

/-- One element of a row of structs of four cells, stored anew. -/
theorem Row.set4 {α : Type} {enc : α → List Value} {e : Nat} {w : World} {g cap : Nat} {xs : List α} (h : Row enc 4 e w g cap xs) (hs : ∀ x, (enc x).length = 4) (i : Nat) (x : α) (c0 c1 c2 c3 : Value) (hx : enc x = [c0, c1, c2, c3]) :
    Row enc 4 e ((((w.setCell ⟨g, i * 4, none⟩ c0).setCell ⟨g, i * 4 + 1, none⟩ c1).setCell ⟨g, i * 4 + 2, none⟩ c2).setCell ⟨g, i * 4 + 3, none⟩ c3) g cap (xs.set i x) := by
  obtain ⟨cur, hc, hsz, htk⟩ := h.blk
  refine ⟨⟨_, blk_setCell (blk_setCell (blk_setCell (blk_setCell hc _) _) _) _, by simpa using hsz, ?_⟩, by simpa using h.le, h.max⟩
  have := flat_set4 hs xs i x c0 c1 c2 c3 hx cur.toList htk
  simpa using this

theorem grown_refl (w : World) (row : Option Nat) : w.grownBy w row := ⟨rfl, rfl, rfl, Nat.le_refl _, fun _ _ _ => rfl⟩

theorem grown_trans {a b c : World} {row : Option Nat} (h : a.grownBy b row) (k : b.grownBy c row) : a.grownBy c row :=
  ⟨k.os.trans h.os, k.tape.trans h.tape, k.output.trans h.output, Nat.le_trans h.size k.size, fun i hi hne => (k.block i (Nat.lt_of_lt_of_le hi h.size) hne).trans (h.block i hi hne)⟩

theorem grown_of_below {a b : World} {row : Option Nat} (h : Below a.heap.size a b) : a.grownBy b row := ⟨h.os, h.tape, h.output, h.size, fun i hi _ => h.block i hi⟩

theorem grown_set {a b : World} {g : Nat} (h : a.grownBy b (some g)) (o : Nat) (v : Value) : a.grownBy (b.setCell ⟨g, o, none⟩ v) (some g) :=
  ⟨h.os, h.tape, h.output, by simpa [World.setCell] using h.size, fun i hi hne => (Below.heap_setCell b ⟨g, o, none⟩ v i (fun e => hne (by rw [e]))).trans (h.block i hi hne)⟩

theorem grown_set4 {a b : World} {g : Nat} (h : a.grownBy b (some g)) (i : Nat) (c0 c1 c2 c3 : Value) :
    a.grownBy ((((b.setCell ⟨g, i * 4, none⟩ c0).setCell ⟨g, i * 4 + 1, none⟩ c1).setCell ⟨g, i * 4 + 2, none⟩ c2).setCell ⟨g, i * 4 + 3, none⟩ c3) (some g) :=
  grown_set (grown_set (grown_set (grown_set h _ _) _ _) _ _) _ _

theorem grown_drew {a b : World} {row : Option Nat} (h : a.grownBy b row) : a.grownBy b.drew row := ⟨h.os, h.tape, h.output, h.size, h.block⟩

theorem grown_alloc {a b : World} {row : Option Nat} (h : a.grownBy b row) (o : Obj) : a.grownBy (b.alloc o) row :=
  grown_trans h (grown_of_below ((Below.refl _ _).alloc (Nat.le_refl _) _))

/-- Two elements exchanged: a permutation. -/
theorem swap_perm {α : Type} (xs : List α) (i j : Nat) (hi : i < xs.length) (hj : j < xs.length) : ((xs.set i xs[j]).set j xs[i]).Perm xs := by
  have h := Array.swap_perm (xs := xs.toArray) (i := i) (j := j) (by simpa using hi) (by simpa using hj)
  have h' := h.toList
  simpa [Array.swap] using h'

theorem swap_perm' {α : Type} (xs : List α) (i j : Nat) (x y : α) (hx : xs[i]? = some x) (hy : xs[j]? = some y) : ((xs.set i y).set j x).Perm xs := by
  obtain ⟨hi, rfl⟩ := List.getElem?_eq_some_iff.1 hx
  obtain ⟨hj, rfl⟩ := List.getElem?_eq_some_iff.1 hy
  exact swap_perm xs i j hi hj
end Go.Herb
