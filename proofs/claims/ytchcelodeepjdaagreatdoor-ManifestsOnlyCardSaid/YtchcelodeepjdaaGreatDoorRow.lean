/- Plain lemmas. · Rows of structs that a call owns and turns in place: plain lemmas. No condition. -/
import Derived.WalkKit
import Derived.WalkSpells
import Derived.WalkLawsBesides
import Derived.Deep.QuietTactic
import Derived.Deep.LoopGhost
import Derived.BigQuiet
import Derived.Lib.Hide
import Derived.Laws.StructEq
import Derived.Handy
import Derived.BigRegion
namespace Go.Herb
open Go.RowKit

/-- THE ELEMENTS of a slice at address a, each of s cells. -/
structure Els {α : Type} (enc : α → List Value) (s : Nat) (w : World) (a : Option Addr) (xs : List α) : Prop where
  get : ∀ i (h : i < xs.length), ∃ b o, a = some ⟨b, o, none⟩ ∧ b < w.heap.size ∧ ∀ j c, (enc xs[i])[j]? = some c → w.cell? ⟨b, o + i * s + j, none⟩ = some c

theorem lt_of_cell {w : World} {b o : Nat} {v : Value} (h : w.cell? ⟨b, o, none⟩ = some v) : b < w.heap.size := by
  unfold World.cell? at h
  rcases Nat.lt_or_ge b w.heap.size with h' | h'
  · exact h'
  · simp [Array.getElem?_eq_none h'] at h

theorem Els.below {α : Type} {enc : α → List Value} {s : Nat} {w w' : World} {a : Option Addr} {xs : List α} {B : Nat} (h : Els enc s w a xs) (hb : Below B w w') (hB : w.heap.size ≤ B) : Els enc s w' a xs :=
  ⟨fun i hi => let ⟨b, o, ha, hlt, hc⟩ := h.get i hi
    ⟨b, o, ha, Nat.lt_of_lt_of_le hlt hb.size, fun j c hj => (hb.cell (p := ⟨b, o + i * s + j, none⟩) (Nat.lt_of_lt_of_le hlt hB)).trans (hc j c hj)⟩⟩

theorem Els.ext {α : Type} {enc : α → List Value} {s : Nat} {w w' : World} {a : Option Addr} {xs : List α} (h : Els enc s w a xs) (hb : Below w.heap.size w w') : Els enc s w' a xs := h.below hb (Nat.le_refl _)

theorem Els.nil {α : Type} (enc : α → List Value) (s : Nat) (w : World) (a : Option Addr) : Els enc s w a [] := ⟨fun i h => by simp at h⟩

/-- What is owned, is read. -/
theorem els_of_owns {α : Type} {enc : α → List Value} {s : Nat} {w : World} {base e : Nat} {v : Value} {xs : List α} (hs : ∀ x, (enc x).length = s) (h : w.ownsRow base e s v xs.length (xs.flatMap enc)) :
    ∃ a cap, v = .slice a xs.length cap ∧ xs.length ≤ cap ∧ Els enc s w a xs := by
  obtain ⟨_, h | ⟨g, cap, cur, hv, hg, hh, hle, hm, hsz, htk⟩⟩ := h
  · obtain ⟨rfl, h0⟩ := h
    have : xs = [] := List.length_eq_zero_iff.1 h0
    subst this
    exact ⟨none, 0, rfl, Nat.le_refl _, Els.nil _ _ _ _⟩
  · refine ⟨_, cap, hv, hle, ⟨fun i hi => ⟨g, 0, rfl, ?_, fun j c hj => ?_⟩⟩⟩
    · rcases Nat.lt_or_ge g w.heap.size with h' | h'
      · exact h'
      · simp [Array.getElem?_eq_none h'] at hh
    · have hjs : j < s := by
        rcases Nat.lt_or_ge j s with h' | h'
        · exact h'
        · rw [List.getElem?_eq_none (by rw [hs]; exact h')] at hj; simp at hj
      have hfl : ∀ (l : List α) (i : Nat) (hi : i < l.length), (l.flatMap enc)[i * s + j]? = (enc l[i])[j]? := by
        intro l
        induction l with
        | nil => intro i hi; simp at hi
        | cons x l ih =>
          intro i hi
          cases i with
          | zero => simp only [Nat.zero_mul, Nat.zero_add, List.flatMap_cons, List.getElem_cons_zero]; rw [List.getElem?_append_left (by rw [hs]; exact hjs)]
          | succ i =>
            simp only [List.flatMap_cons, List.getElem_cons_succ]
            rw [List.getElem?_append_right (by rw [hs, Nat.succ_mul]; omega), hs, show (i + 1) * s + j - s = i * s + j from by rw [Nat.succ_mul]; omega]
            exact ih i (by simpa using hi)
      have h1 := hfl xs i hi
      rw [hj, ← htk, List.getElem?_take_of_lt (by
        have : (i + 1) * s ≤ xs.length * s := Nat.mul_le_mul_right s hi
        rw [Nat.succ_mul] at this; omega)] at h1
      show w.cell? ⟨g, 0 + i * s + j, none⟩ = some c
      simp only [World.cell?, hh, Nat.zero_add]
      simpa using h1

theorem cell_new (w : World) (cs : Array Value) (t : TypeId) (fr : Nat × Nat) (j : Nat) : (w.alloc (.cells cs t fr)).cell? ⟨w.heap.size, j, none⟩ = cs[j]? := by
  show (match (w.heap.push (.cells cs t fr))[w.heap.size]? with
    | some (.cells c _ _) => if (none : Option _).isSome then none else c[j]?
    | _ => none) = cs[j]?
  simp

theorem ownsRow_mono {w : World} {base base' e s : Nat} {v : Value} {n : Nat} {xs : List Value} (h : w.ownsRow base e s v n xs) (hb : base' ≤ base) : w.ownsRow base' e s v n xs := by
  obtain ⟨h1, h2 | ⟨g, cap, cur, hv, hg, r⟩⟩ := h
  · exact ⟨h1, .inl h2⟩
  · exact ⟨h1, .inr ⟨g, cap, cur, hv, by omega, r⟩⟩

/-- What is owned above B stays owned where nothing from B on is written but what is new. -/
theorem ownsRow_below {w w' : World} {base e s : Nat} {v : Value} {n : Nat} {xs : List Value} {B : Nat} (h : w.ownsRow base e s v n xs) (hb : Below B w w') (hB : w.heap.size ≤ B) : w'.ownsRow base e s v n xs := by
  obtain ⟨h1, h2 | ⟨g, cap, cur, hv, hg, hh, r⟩⟩ := h
  · exact ⟨h1, .inl h2⟩
  · refine ⟨h1, .inr ⟨g, cap, cur, hv, hg, ?_, r⟩⟩
    rw [hb.block g ?_]
    · exact hh
    · rcases Nat.lt_or_ge g w.heap.size with h' | h'
      · omega
      · simp [Array.getElem?_eq_none h'] at hh

/-- The one way in which an append that ends a round hands 'Below' on. -/
theorem Below.appended {B : Nat} {w w1 w2 : World} {base e s : Nat} {v : Value} {n : Nat} {xs : List Value} (h : Below B w w1) (ho : w1.ownsRow base e s v n xs) (hb : B ≤ base) (hs : B ≤ w1.heap.size) (hg : w1.grownBy w2 v.ownBlock) : Below B w w2 :=
  h.grown hg hs (fun k hk => Nat.le_trans hb (ho.lt k hk).1)


/-- The cells of a block just laid, as an append asks for them. -/
theorem news_cells (w : World) (cs : List Value) (t : TypeId) : ∀ j u, cs[j]? = some u → (w.alloc (.cells cs.toArray t)).cell? ((⟨w.heap.size, 0, none⟩ : Addr).add j) = some u := by
  intro j u h
  have : ((⟨w.heap.size, 0, none⟩ : Addr).add j) = ⟨w.heap.size, j, none⟩ := by simp only [Addr.add]; split <;> simp_all
  rw [this, cell_new]
  simpa using h

theorem flatMap_snoc {α : Type} (f : α → List Value) (xs : List α) (x : α) : (xs ++ [x]).flatMap f = xs.flatMap f ++ f x := by simp


theorem lt_of_blk {w : World} {b : Nat} {o : Obj} (h : w.heap[b]? = some o) : b < w.heap.size := by
  rcases Nat.lt_or_ge b w.heap.size with h' | h'
  · exact h'
  · simp [Array.getElem?_eq_none h'] at h

theorem cell_of_blk {w : World} {b : Nat} {cs : Array Value} {t : TypeId} {fr : Nat × Nat} (h : w.heap[b]? = some (.cells cs t fr)) (j : Nat) : w.cell? ⟨b, j, none⟩ = cs[j]? := by
  simp [World.cell?, h]

theorem frozen_of_blk {w : World} {b : Nat} {cs : Array Value} {t : TypeId} (h : w.heap[b]? = some (.cells cs t (0, 0))) (j : Nat) : w.frozen? ⟨b, j, none⟩ = false := by
  simp [World.frozen?, h]

theorem blk_new (w : World) (o : Obj) : (w.alloc o).heap[w.heap.size]? = some o := by
  show (w.heap.push o)[w.heap.size]? = some o
  simp

theorem blk_alloc {w : World} {b : Nat} {o o' : Obj} (h : w.heap[b]? = some o) : (w.alloc o').heap[b]? = some o :=
  (Below.heap_alloc w o' b (lt_of_blk h)).trans h

theorem blk_setCell {w : World} {b j : Nat} {cs : Array Value} {t : TypeId} {fr : Nat × Nat} (h : w.heap[b]? = some (.cells cs t fr)) (v : Value) : (w.setCell ⟨b, j, none⟩ v).heap[b]? = some (.cells (cs.setIfInBounds j v) t fr) := by
  simp [World.setCell, Array.getElem?_modify, h]

theorem blk_setCell_other {w : World} {b : Nat} {o : Obj} (h : w.heap[b]? = some o) {a : Addr} (hne : b ≠ a.block) (v : Value) : (w.setCell a v).heap[b]? = some o :=
  (Below.heap_setCell w a v b hne).trans h

theorem blk_below {w w' : World} {b B : Nat} {o : Obj} (h : w.heap[b]? = some o) (hb : Below B w w') (hB : b < B) : w'.heap[b]? = some o := (hb.block b hB).trans h


theorem flatMap_get {α : Type} {enc : α → List Value} {s : Nat} (hs : ∀ x, (enc x).length = s) : ∀ (l : List α) (i r : Nat) (hi : i < l.length), r < s → (l.flatMap enc)[i * s + r]? = (enc l[i])[r]? := by
  intro l
  induction l with
  | nil => intro i r hi; simp at hi
  | cons x l ih =>
    intro i r hi hr
    cases i with
    | zero => simp only [Nat.zero_mul, Nat.zero_add, List.flatMap_cons, List.getElem_cons_zero]; rw [List.getElem?_append_left (by rw [hs]; exact hr)]
    | succ i =>
      simp only [List.flatMap_cons, List.getElem_cons_succ]
      rw [List.getElem?_append_right (by rw [hs, Nat.succ_mul]; omega), hs, show (i + 1) * s + r - s = i * s + r from by rw [Nat.succ_mul]; omega]
      exact ih i r (by simpa using hi) hr

theorem flatMap_len {α : Type} {enc : α → List Value} {s : Nat} (hs : ∀ x, (enc x).length = s) (l : List α) : (l.flatMap enc).length = l.length * s := by
  induction l with
  | nil => simp
  | cons x l ih => simp [hs, ih, Nat.succ_mul, Nat.add_comm]

theorem addr_add (b o j : Nat) : ((⟨b, o, none⟩ : Addr).add j) = ⟨b, o + j, none⟩ := by simp only [Addr.add]; split <;> simp_all

/-- The cells of a slice's elements, one behind the other: as an append asks for its source. -/
theorem Els.flat {α : Type} {enc : α → List Value} {s : Nat} {w : World} {ad : Addr} {xs : List α} (h : Els enc s w (some ad) xs) (hs : ∀ x, (enc x).length = s) (h0 : 0 < s) :
    ∀ j u, (xs.flatMap enc)[j]? = some u → w.cell? (ad.add j) = some u := by
  intro j u hu
  have hj : j < xs.length * s := by
    rcases Nat.lt_or_ge j (xs.length * s) with h' | h'
    · exact h'
    · rw [List.getElem?_eq_none (by rw [flatMap_len hs]; exact h')] at hu; simp at hu
  have hi : j / s < xs.length := (Nat.div_lt_iff_lt_mul h0).2 hj
  have hr : j % s < s := Nat.mod_lt _ h0
  have he : j = j / s * s + j % s := by rw [Nat.mul_comm]; exact (Nat.div_add_mod j s).symm
  obtain ⟨b, o, ha, _, hc⟩ := h.get (j / s) hi
  injection ha with ha
  subst ha
  rw [addr_add]
  have := hc (j % s) u (by rw [← flatMap_get hs xs _ _ hi hr, ← he]; exact hu)
  rw [show o + j = o + j / s * s + j % s from by omega]
  exact this


theorem cell_past {w : World} {a : Addr} {o : Obj} {v : Value} (h : w.cell? a = some v) : (w.alloc o).cell? a = some v := by
  have hlt : a.block < w.heap.size := by
    unfold World.cell? at h
    rcases Nat.lt_or_ge a.block w.heap.size with h' | h'
    · exact h'
    · simp [Array.getElem?_eq_none h'] at h
  exact (World.cell?_of_block (w := w) (Below.heap_alloc w o _ hlt)).trans h


theorem Els.take {α : Type} {enc : α → List Value} {s : Nat} {w : World} {a : Option Addr} {xs : List α} (h : Els enc s w a xs) (k : Nat) : Els enc s w a (xs.take k) :=
  ⟨fun i hi => by
    obtain ⟨b, o, ha, hlt, hc⟩ := h.get i (by simp at hi; omega)
    exact ⟨b, o, ha, hlt, fun j c hj => hc j c (by simpa using hj)⟩⟩


theorem blk_cells3 {w : World} {b : Nat} {t : TypeId} {c0 c1 c2 : Value} (h : w.heap[b]? = some (.cells #[c0, c1, c2] t (0, 0))) :
    w.cell? ⟨b, 0, none⟩ = some c0 ∧ w.cell? ⟨b, 1, none⟩ = some c1 ∧ w.cell? ⟨b, 2, none⟩ = some c2 ∧
    w.frozen? ⟨b, 0, none⟩ = false ∧ w.frozen? ⟨b, 1, none⟩ = false ∧ w.frozen? ⟨b, 2, none⟩ = false :=
  ⟨cell_of_blk h 0, cell_of_blk h 1, cell_of_blk h 2, frozen_of_blk h 0, frozen_of_blk h 1, frozen_of_blk h 2⟩

theorem blk_cells4 {w : World} {b : Nat} {t : TypeId} {c0 c1 c2 c3 : Value} (h : w.heap[b]? = some (.cells #[c0, c1, c2, c3] t (0, 0))) :
    w.cell? ⟨b, 0, none⟩ = some c0 ∧ w.cell? ⟨b, 1, none⟩ = some c1 ∧ w.cell? ⟨b, 2, none⟩ = some c2 ∧ w.cell? ⟨b, 3, none⟩ = some c3 ∧
    w.frozen? ⟨b, 0, none⟩ = false ∧ w.frozen? ⟨b, 1, none⟩ = false ∧ w.frozen? ⟨b, 2, none⟩ = false ∧ w.frozen? ⟨b, 3, none⟩ = false :=
  ⟨cell_of_blk h 0, cell_of_blk h 1, cell_of_blk h 2, cell_of_blk h 3, frozen_of_blk h 0, frozen_of_blk h 1, frozen_of_blk h 2, frozen_of_blk h 3⟩


theorem blk_new_at {w : World} {n : Nat} (h : n = w.heap.size) (o : Obj) : (w.alloc o).heap[n]? = some o := by rw [h]; exact blk_new w o

/-- An owned row over four stores into a block that lies below. -/
theorem ownsRow_set4 {w : World} {base e s : Nat} {v : Value} {n : Nat} {xs : List Value} (h : w.ownsRow base e s v n xs) {b : Nat} (hb : b < base) (u0 u1 u2 u3 : Value) :
    ((((w.setCell ⟨b, 0, none⟩ u0).setCell ⟨b, 1, none⟩ u1).setCell ⟨b, 2, none⟩ u2).setCell ⟨b, 3, none⟩ u3).ownsRow base e s v n xs :=
  ownsRow_setCell_below (ownsRow_setCell_below (ownsRow_setCell_below (ownsRow_setCell_below h hb _) hb _) hb _) hb _

end Go.Herb

namespace Go.Herb
open Go.RowKit

/-- Block g is a row of the elements xs, each of s cells of type e, with room for cap. -/
structure Row {α : Type} (enc : α → List Value) (s e : Nat) (w : World) (g cap : Nat) (xs : List α) : Prop where
  blk : ∃ cur : Array Value, w.heap[g]? = some (.cells cur e (0, 0)) ∧ cur.size = cap * s ∧ cur.toList.take (xs.length * s) = xs.flatMap enc
  le : xs.length ≤ cap
  max : cap ≤ maxLen

section
variable {α : Type} {enc : α → List Value} {s e : Nat} {w w' : World} {g cap : Nat} {xs : List α}

theorem Row.lt (h : Row enc s e w g cap xs) : g < w.heap.size := by
  obtain ⟨cur, hb, _⟩ := h.blk
  exact lt_of_blk hb

theorem Row.cell (h : Row enc s e w g cap xs) (hs : ∀ x, (enc x).length = s) (i : Nat) (hi : i < xs.length) (j : Nat) (c : Value) (hj : (enc xs[i])[j]? = some c) : w.cell? ⟨g, i * s + j, none⟩ = some c := by
  obtain ⟨cur, hb, hsz, htk⟩ := h.blk
  have hjs : j < s := by
    rcases Nat.lt_or_ge j s with h' | h'
    · exact h'
    · rw [List.getElem?_eq_none (by rw [hs]; exact h')] at hj; simp at hj
  have h1 := flatMap_get hs xs i j hi hjs
  rw [hj, ← htk, List.getElem?_take_of_lt (by
    have : (i + 1) * s ≤ xs.length * s := Nat.mul_le_mul_right s hi
    rw [Nat.succ_mul] at this; omega)] at h1
  rw [cell_of_blk hb]
  simpa using h1

theorem Row.frozen (h : Row enc s e w g cap xs) (o : Nat) : w.frozen? ⟨g, o, none⟩ = false := by
  obtain ⟨cur, hb, _⟩ := h.blk
  exact frozen_of_blk hb o

theorem Row.els (h : Row enc s e w g cap xs) (hs : ∀ x, (enc x).length = s) : Els enc s w (some ⟨g, 0, none⟩) xs :=
  ⟨fun i hi => ⟨g, 0, rfl, h.lt, fun j c hj => by rw [Nat.zero_add]; exact h.cell hs i hi j c hj⟩⟩

theorem Row.same (h : Row enc s e w g cap xs) (hb : w'.heap[g]? = w.heap[g]?) : Row enc s e w' g cap xs := by
  obtain ⟨cur, hc, r⟩ := h.blk
  exact ⟨⟨cur, hb.trans hc, r⟩, h.le, h.max⟩

theorem Row.below (h : Row enc s e w g cap xs) (hb : Below w.heap.size w w') : Row enc s e w' g cap xs := h.same (hb.block g h.lt)

theorem Row.owns (h : Row enc s e w g cap xs) (hs : ∀ x, (enc x).length = s) {base : Nat} (hb : base ≤ g) : w.ownsRow base e s (.slice (some ⟨g, 0, none⟩) xs.length cap) xs.length (xs.flatMap enc) := by
  obtain ⟨cur, hc, hsz, htk⟩ := h.blk
  exact ⟨flatMap_len hs xs, .inr ⟨g, cap, cur, rfl, hb, hc, h.le, h.max, hsz, htk⟩⟩

/-- What is owned is nil, or a row. -/
theorem row_of_owns {base : Nat} {v : Value} (h : w.ownsRow base e s v xs.length (xs.flatMap enc)) :
    (v = .slice none 0 0 ∧ xs = []) ∨ ∃ g cap, v = .slice (some ⟨g, 0, none⟩) xs.length cap ∧ base ≤ g ∧ Row enc s e w g cap xs := by
  obtain ⟨_, ⟨h1, h2⟩ | ⟨g, cap, cur, hv, hg, hh, hle, hm, hsz, htk⟩⟩ := h
  · exact .inl ⟨h1, List.length_eq_zero_iff.1 h2⟩
  · exact .inr ⟨g, cap, hv, hg, ⟨⟨cur, hh, hsz, htk⟩, hle, hm⟩⟩

/-- The first elements of a row are one. -/
theorem Row.take (h : Row enc s e w g cap xs) (hs : ∀ x, (enc x).length = s) (k : Nat) : Row enc s e w g cap (xs.take k) := by
  obtain ⟨cur, hc, hsz, htk⟩ := h.blk
  refine ⟨⟨cur, hc, hsz, ?_⟩, Nat.le_trans (by simp; omega) h.le, h.max⟩
  have h1 : (xs.take k).length * s ≤ xs.length * s := Nat.mul_le_mul_right s (by simp; omega)
  have : cur.toList.take ((xs.take k).length * s) = (cur.toList.take (xs.length * s)).take ((xs.take k).length * s) := by
    rw [List.take_take, Nat.min_eq_left h1]
  rw [this, htk]
  have h2 : xs.flatMap enc = (xs.take k).flatMap enc ++ (xs.drop k).flatMap enc := by
    rw [← List.flatMap_append, List.take_append_drop]
  rw [h2, List.take_append_of_le_length (by rw [flatMap_len hs]; exact Nat.le_refl _), List.take_of_length_le (by rw [flatMap_len hs]; exact Nat.le_refl _)]
end

/-- A list of cells, some of which are set: what the first ones are. -/
theorem flat_set4 {α : Type} {enc : α → List Value} (hs : ∀ x, (enc x).length = 4) (xs : List α) (i : Nat) (x : α) (c0 c1 c2 c3 : Value) (hx : enc x = [c0, c1, c2, c3]) (l : List Value) (hl : l.take (xs.length * 4) = xs.flatMap enc) :
    ((((l.set (i * 4) c0).set (i * 4 + 1) c1).set (i * 4 + 2) c2).set (i * 4 + 3) c3).take ((xs.set i x).length * 4) = (xs.set i x).flatMap enc := by
  have hlen : xs.length * 4 ≤ l.length := by
    have := congrArg List.length hl
    rw [flatMap_len hs, List.length_take] at this
    omega
  apply List.ext_getElem?
  intro j
  rw [List.length_set]
  rcases Nat.lt_or_ge j (xs.length * 4) with hj | hj
  · rw [List.getElem?_take_of_lt hj]
    have hij : j / 4 < xs.length := (Nat.div_lt_iff_lt_mul (by decide)).2 hj
    have he : j = j / 4 * 4 + j % 4 := by rw [Nat.mul_comm]; exact (Nat.div_add_mod j 4).symm
    have hr : j % 4 < 4 := Nat.mod_lt _ (by decide)
    have h1 := flatMap_get hs (xs.set i x) (j / 4) (j % 4) (by simpa using hij) hr
    rw [← he] at h1
    rw [h1]
    have h2 := flatMap_get hs xs (j / 4) (j % 4) hij hr
    rw [← he, ← hl, List.getElem?_take_of_lt hj] at h2
    by_cases hjk : j / 4 = i
    · have e1 : (xs.set i x)[j / 4]'(by simpa using hij) = x := by simp [hjk]
      rw [e1, hx]
      have : j % 4 = 0 ∨ j % 4 = 1 ∨ j % 4 = 2 ∨ j % 4 = 3 := by omega
      rcases this with h | h | h | h
      · have e : j = i * 4 := by omega
        rw [h, e]
        rw [List.getElem?_set_ne (by omega), List.getElem?_set_ne (by omega), List.getElem?_set_ne (by omega), List.getElem?_set_self (by omega)]; rfl
      · have e : j = i * 4 + 1 := by omega
        rw [h, e]
        rw [List.getElem?_set_ne (by omega), List.getElem?_set_ne (by omega), List.getElem?_set_self (by simp; omega)]; rfl
      · have e : j = i * 4 + 2 := by omega
        rw [h, e]
        rw [List.getElem?_set_ne (by omega), List.getElem?_set_self (by simp; omega)]; rfl
      · have e : j = i * 4 + 3 := by omega
        rw [h, e]
        rw [List.getElem?_set_self (by simp; omega)]; rfl
    · have e1 : (xs.set i x)[j / 4]'(by simpa using hij) = xs[j / 4] := by
        rw [List.getElem_set_ne (by omega)]
      rw [e1, ← h2]
      rw [List.getElem?_set_ne (by omega), List.getElem?_set_ne (by omega), List.getElem?_set_ne (by omega), List.getElem?_set_ne (by omega)]
  · rw [List.getElem?_eq_none (by rw [List.length_take]; omega), List.getElem?_eq_none (by rw [flatMap_len hs]; simpa using hj)]

/-- One element of a row of structs of four cells, stored anew. -/
theorem Row.set4 {α : Type} {enc : α → List Value} {e : Nat} {w : World} {g cap : Nat} {xs : List α} (h : Row enc 4 e w g cap xs) (hs : ∀ x, (enc x).length = 4) (i : Nat) (x : α) (c0 c1 c2 c3 : Value) (hx : enc x = [c0, c1, c2, c3]) :
    Row enc 4 e ((((w.setCell ⟨g, i * 4, none⟩ c0).setCell ⟨g, i * 4 + 1, none⟩ c1).setCell ⟨g, i * 4 + 2, none⟩ c2).setCell ⟨g, i * 4 + 3, none⟩ c3) g cap (xs.set i x) := by
  obtain ⟨cur, hc, hsz, htk⟩ := h.blk
  refine ⟨⟨_, blk_setCell (blk_setCell (blk_setCell (blk_setCell hc _) _) _) _, by simpa using hsz, ?_⟩, by simpa using h.le, h.max⟩
  have := flat_set4 hs xs i x c0 c1 c2 c3 hx cur.toList htk
  simpa using this

theorem grown_refl (w : World) (row : Option Nat) : w.grownBy w row := ⟨rfl, rfl, rfl, Nat.le_refl _, fun _ _ _ => rfl⟩

theorem grown_trans {a b c : World} {row : Option Nat} (h : a.grownBy b row) (k : b.grownBy c row) : a.grownBy c row :=
  ⟨k.os.trans h.os, k.tape.trans h.tape, k.output.trans h.output, Nat.le_trans h.size k.size, fun i hi hne => (k.block i (Nat.lt_of_lt_of_le hi h.size) hne).trans (h.block i hi hne)⟩

theorem grown_of_below {a b : World} {row : Option Nat} (h : Below a.heap.size a b) : a.grownBy b row := ⟨h.os, h.tape, h.output, h.size, fun i hi _ => h.block i hi⟩

theorem grown_set {a b : World} {g : Nat} (h : a.grownBy b (some g)) (o : Nat) (v : Value) : a.grownBy (b.setCell ⟨g, o, none⟩ v) (some g) :=
  ⟨h.os, h.tape, h.output, by simpa [World.setCell] using h.size, fun i hi hne => (Below.heap_setCell b ⟨g, o, none⟩ v i (fun e => hne (by rw [e]))).trans (h.block i hi hne)⟩

theorem grown_set4 {a b : World} {g : Nat} (h : a.grownBy b (some g)) (i : Nat) (c0 c1 c2 c3 : Value) :
    a.grownBy ((((b.setCell ⟨g, i * 4, none⟩ c0).setCell ⟨g, i * 4 + 1, none⟩ c1).setCell ⟨g, i * 4 + 2, none⟩ c2).setCell ⟨g, i * 4 + 3, none⟩ c3) (some g) :=
  grown_set (grown_set (grown_set (grown_set h _ _) _ _) _ _) _ _

theorem grown_drew {a b : World} {row : Option Nat} (h : a.grownBy b row) : a.grownBy b.drew row := ⟨h.os, h.tape, h.output, h.size, h.block⟩

theorem grown_alloc {a b : World} {row : Option Nat} (h : a.grownBy b row) (o : Obj) : a.grownBy (b.alloc o) row :=
  grown_trans h (grown_of_below ((Below.refl _ _).alloc (Nat.le_refl _) _))

/-- Two elements exchanged: a permutation. -/
theorem swap_perm {α : Type} (xs : List α) (i j : Nat) (hi : i < xs.length) (hj : j < xs.length) : ((xs.set i xs[j]).set j xs[i]).Perm xs := by
  have h := Array.swap_perm (xs := xs.toArray) (i := i) (j := j) (by simpa using hi) (by simpa using hj)
  have h' := h.toList
  simpa [Array.swap] using h'

theorem swap_perm' {α : Type} (xs : List α) (i j : Nat) (x y : α) (hx : xs[i]? = some x) (hy : xs[j]? = some y) : ((xs.set i y).set j x).Perm xs := by
  obtain ⟨hi, rfl⟩ := List.getElem?_eq_some_iff.1 hx
  obtain ⟨hj, rfl⟩ := List.getElem?_eq_some_iff.1 hy
  exact swap_perm xs i j hi hj
end Go.Herb
