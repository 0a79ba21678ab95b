import Derived.WalkKit
import Derived.WalkSpells
import Derived.WalkLawsBesides
import Derived.Deep.QuietTactic
import Derived.Deep.LoopGhost
import Derived.BigQuiet
import Derived.Lib.Hide
import Derived.Laws.StructEq
import Derived.Handy
namespace Go.Herb
open Go.RowKit

/-- THE ELEMENTS of a slice at address a, each of s cells. -/
structure Els {α : Type} (enc : α → List Value) (s : Nat) (w : World) (a : Option Addr) (xs : List α) : Prop where
  get : ∀ i (h : i < xs.length), ∃ b o, a = some ⟨b, o, none⟩ ∧ b < w.heap.size ∧ ∀ j c, (enc xs[i])[j]? = some c → w.cell? ⟨b, o + i * s + j, none⟩ = some c

theorem lt_of_cell {w : World} {b o : Nat} {v : Value} (h : w.cell? ⟨b, o, none⟩ = some v) : b < w.heap.size := by
  unfold World.cell? at h
  rcases Nat.lt_or_ge b w.heap.size with h' | h'
  · exact h'
  · simp [Array.getElem?_eq_none h'] at h

theorem Els.below {α : Type} {enc : α → List Value} {s : Nat} {w w' : World} {a : Option Addr} {xs : List α} {B : Nat} (h : Els enc s w a xs) (hb : Below B w w') (hB : w.heap.size ≤ B) : Els enc s w' a xs :=
  ⟨fun i hi => let ⟨b, o, ha, hlt, hc⟩ := h.get i hi
    ⟨b, o, ha, Nat.lt_of_lt_of_le hlt hb.size, fun j c hj => (hb.cell (p := ⟨b, o + i * s + j, none⟩) (Nat.lt_of_lt_of_le hlt hB)).trans (hc j c hj)⟩⟩

theorem Els.ext {α : Type} {enc : α → List Value} {s : Nat} {w w' : World} {a : Option Addr} {xs : List α} (h : Els enc s w a xs) (hb : Below w.heap.size w w') : Els enc s w' a xs := h.below hb (Nat.le_refl _)

theorem Els.nil {α : Type} (enc : α → List Value) (s : Nat) (w : World) (a : Option Addr) : Els enc s w a [] := ⟨fun i h => by simp at h⟩

/-- What is owned, is read. -/
theorem els_of_owns {α : Type} {enc : α → List Value} {s : Nat} {w : World} {base e : Nat} {v : Value} {xs : List α} (hs : ∀ x, (enc x).length = s) (h : w.ownsRow base e s v xs.length (xs.flatMap enc)) :
    ∃ a cap, v = .slice a xs.length cap ∧ xs.length ≤ cap ∧ Els enc s w a xs := by
  obtain ⟨_, h | ⟨g, cap, cur, hv, hg, hh, hle, hm, hsz, htk⟩⟩ := h
  · obtain ⟨rfl, h0⟩ := h
    have : xs = [] := List.length_eq_zero_iff.1 h0
    subst this
    exact ⟨none, 0, rfl, Nat.le_refl _, Els.nil _ _ _ _⟩
  · refine ⟨_, cap, hv, hle, ⟨fun i hi => ⟨g, 0, rfl, ?_, fun j c hj => ?_⟩⟩⟩
    · rcases Nat.lt_or_ge g w.heap.size with h' | h'
      · exact h'
      · simp [Array.getElem?_eq_none h'] at hh
    · have hjs : j < s := by
        rcases Nat.lt_or_ge j s with h' | h'
        · exact h'
        · rw [List.getElem?_eq_none (by rw [hs]; exact h')] at hj; simp at hj
      have hfl : ∀ (l : List α) (i : Nat) (hi : i < l.length), (l.flatMap enc)[i * s + j]? = (enc l[i])[j]? := by
        intro l
        induction l with
        | nil => intro i hi; simp at hi
        | cons x l ih =>
          intro i hi
          cases i with
          | zero => simp only [Nat.zero_mul, Nat.zero_add, List.flatMap_cons, List.getElem_cons_zero]; rw [List.getElem?_append_left (by rw [hs]; exact hjs)]
          | succ i =>
            simp only [List.flatMap_cons, List.getElem_cons_succ]
            rw [List.getElem?_append_right (by rw [hs, Nat.succ_mul]; omega), hs, show (i + 1) * s + j - s = i * s + j from by rw [Nat.succ_mul]; omega]
            exact ih i (by simpa using hi)
      have h1 := hfl xs i hi
      rw [hj, ← htk, List.getElem?_take_of_lt (by
        have : (i + 1) * s ≤ xs.length * s := Nat.mul_le_mul_right s hi
        rw [Nat.succ_mul] at this; omega)] at h1
      show w.cell? ⟨g, 0 + i * s + j, none⟩ = some c
      simp only [World.cell?, hh, Nat.zero_add]
      simpa using h1

theorem cell_new (w : World) (cs : Array Value) (t : TypeId) (fr : Nat × Nat) (j : Nat) : (w.alloc (.cells cs t fr)).cell? ⟨w.heap.size, j, none⟩ = cs[j]? := by
  show (match (w.heap.push (.cells cs t fr))[w.heap.size]? with
    | some (.cells c _ _) => if (none : Option _).isSome then none else c[j]?
    | _ => none) = cs[j]?
  simp

theorem ownsRow_mono {w : World} {base base' e s : Nat} {v : Value} {n : Nat} {xs : List Value} (h : w.ownsRow base e s v n xs) (hb : base' ≤ base) : w.ownsRow base' e s v n xs := by
  obtain ⟨h1, h2 | ⟨g, cap, cur, hv, hg, r⟩⟩ := h
  · exact ⟨h1, .inl h2⟩
  · exact ⟨h1, .inr ⟨g, cap, cur, hv, by omega, r⟩⟩

/-- What is owned above B stays owned where nothing from B on is written but what is new. -/
theorem ownsRow_below {w w' : World} {base e s : Nat} {v : Value} {n : Nat} {xs : List Value} {B : Nat} (h : w.ownsRow base e s v n xs) (hb : Below B w w') (hB : w.heap.size ≤ B) : w'.ownsRow base e s v n xs := by
  obtain ⟨h1, h2 | ⟨g, cap, cur, hv, hg, hh, r⟩⟩ := h
  · exact ⟨h1, .inl h2⟩
  · refine ⟨h1, .inr ⟨g, cap, cur, hv, hg, ?_, r⟩⟩
    rw [hb.block g ?_]
    · exact hh
    · rcases Nat.lt_or_ge g w.heap.size with h' | h'
      · omega
      · simp [Array.getElem?_eq_none h'] at hh

/-- The one way in which an append that ends a round hands 'Below' on. -/
theorem Below.appended {B : Nat} {w w1 w2 : World} {base e s : Nat} {v : Value} {n : Nat} {xs : List Value} (h : Below B w w1) (ho : w1.ownsRow base e s v n xs) (hb : B ≤ base) (hs : B ≤ w1.heap.size) (hg : w1.grownBy w2 v.ownBlock) : Below B w w2 :=
  h.grown hg hs (fun k hk => Nat.le_trans hb (ho.lt k hk).1)


/-- The cells of a block just laid, as an append asks for them. -/
theorem news_cells (w : World) (cs : List Value) (t : TypeId) : ∀ j u, cs[j]? = some u → (w.alloc (.cells cs.toArray t)).cell? ((⟨w.heap.size, 0, none⟩ : Addr).add j) = some u := by
  intro j u h
  have : ((⟨w.heap.size, 0, none⟩ : Addr).add j) = ⟨w.heap.size, j, none⟩ := by simp only [Addr.add]; split <;> simp_all
  rw [this, cell_new]
  simpa using h

theorem flatMap_snoc {α : Type} (f : α → List Value) (xs : List α) (x : α) : (xs ++ [x]).flatMap f = xs.flatMap f ++ f x := by simp


theorem lt_of_blk {w : World} {b : Nat} {o : Obj} (h : w.heap[b]? = some o) : b < w.heap.size := by
  rcases Nat.lt_or_ge b w.heap.size with h' | h'
  · exact h'
  · simp [Array.getElem?_eq_none h'] at h

theorem cell_of_blk {w : World} {b : Nat} {cs : Array Value} {t : TypeId} {fr : Nat × Nat} (h : w.heap[b]? = some (.cells cs t fr)) (j : Nat) : w.cell? ⟨b, j, none⟩ = cs[j]? := by
  simp [World.cell?, h]

theorem frozen_of_blk {w : World} {b : Nat} {cs : Array Value} {t : TypeId} (h : w.heap[b]? = some (.cells cs t (0, 0))) (j : Nat) : w.frozen? ⟨b, j, none⟩ = false := by
  simp [World.frozen?, h]

theorem blk_new (w : World) (o : Obj) : (w.alloc o).heap[w.heap.size]? = some o := by
  show (w.heap.push o)[w.heap.size]? = some o
  simp

theorem blk_alloc {w : World} {b : Nat} {o o' : Obj} (h : w.heap[b]? = some o) : (w.alloc o').heap[b]? = some o :=
  (Below.heap_alloc w o' b (lt_of_blk h)).trans h

theorem blk_setCell {w : World} {b j : Nat} {cs : Array Value} {t : TypeId} {fr : Nat × Nat} (h : w.heap[b]? = some (.cells cs t fr)) (v : Value) : (w.setCell ⟨b, j, none⟩ v).heap[b]? = some (.cells (cs.setIfInBounds j v) t fr) := by
  simp [World.setCell, Array.getElem?_modify, h]

theorem blk_setCell_other {w : World} {b : Nat} {o : Obj} (h : w.heap[b]? = some o) {a : Addr} (hne : b ≠ a.block) (v : Value) : (w.setCell a v).heap[b]? = some o :=
  (Below.heap_setCell w a v b hne).trans h

theorem blk_below {w w' : World} {b B : Nat} {o : Obj} (h : w.heap[b]? = some o) (hb : Below B w w') (hB : b < B) : w'.heap[b]? = some o := (hb.block b hB).trans h


theorem flatMap_get {α : Type} {enc : α → List Value} {s : Nat} (hs : ∀ x, (enc x).length = s) : ∀ (l : List α) (i r : Nat) (hi : i < l.length), r < s → (l.flatMap enc)[i * s + r]? = (enc l[i])[r]? := by
  intro l
  induction l with
  | nil => intro i r hi; simp at hi
  | cons x l ih =>
    intro i r hi hr
    cases i with
    | zero => simp only [Nat.zero_mul, Nat.zero_add, List.flatMap_cons, List.getElem_cons_zero]; rw [List.getElem?_append_left (by rw [hs]; exact hr)]
    | succ i =>
      simp only [List.flatMap_cons, List.getElem_cons_succ]
      rw [List.getElem?_append_right (by rw [hs, Nat.succ_mul]; omega), hs, show (i + 1) * s + r - s = i * s + r from by rw [Nat.succ_mul]; omega]
      exact ih i r (by simpa using hi) hr

theorem flatMap_len {α : Type} {enc : α → List Value} {s : Nat} (hs : ∀ x, (enc x).length = s) (l : List α) : (l.flatMap enc).length = l.length * s := by
  induction l with
  | nil => simp
  | cons x l ih => simp [hs, ih, Nat.succ_mul, Nat.add_comm]

theorem addr_add (b o j : Nat) : ((⟨b, o, none⟩ : Addr).add j) = ⟨b, o + j, none⟩ := by simp only [Addr.add]; split <;> simp_all

/-- The cells of a slice's elements, one behind the other: as an append asks for its source. -/
theorem Els.flat {α : Type} {enc : α → List Value} {s : Nat} {w : World} {ad : Addr} {xs : List α} (h : Els enc s w (some ad) xs) (hs : ∀ x, (enc x).length = s) (h0 : 0 < s) :
    ∀ j u, (xs.flatMap enc)[j]? = some u → w.cell? (ad.add j) = some u := by
  intro j u hu
  have hj : j < xs.length * s := by
    rcases Nat.lt_or_ge j (xs.length * s) with h' | h'
    · exact h'
    · rw [List.getElem?_eq_none (by rw [flatMap_len hs]; exact h')] at hu; simp at hu
  have hi : j / s < xs.length := (Nat.div_lt_iff_lt_mul h0).2 hj
  have hr : j % s < s := Nat.mod_lt _ h0
  have he : j = j / s * s + j % s := by rw [Nat.mul_comm]; exact (Nat.div_add_mod j s).symm
  obtain ⟨b, o, ha, _, hc⟩ := h.get (j / s) hi
  injection ha with ha
  subst ha
  rw [addr_add]
  have := hc (j % s) u (by rw [← flatMap_get hs xs _ _ hi hr, ← he]; exact hu)
  rw [show o + j = o + j / s * s + j % s from by omega]
  exact this


theorem cell_past {w : World} {a : Addr} {o : Obj} {v : Value} (h : w.cell? a = some v) : (w.alloc o).cell? a = some v := by
  have hlt : a.block < w.heap.size := by
    unfold World.cell? at h
    rcases Nat.lt_or_ge a.block w.heap.size with h' | h'
    · exact h'
    · simp [Array.getElem?_eq_none h'] at h
  exact (World.cell?_of_block (w := w) (Below.heap_alloc w o _ hlt)).trans h


theorem Els.take {α : Type} {enc : α → List Value} {s : Nat} {w : World} {a : Option Addr} {xs : List α} (h : Els enc s w a xs) (k : Nat) : Els enc s w a (xs.take k) :=
  ⟨fun i hi => by
    obtain ⟨b, o, ha, hlt, hc⟩ := h.get i (by simp at hi; omega)
    exact ⟨b, o, ha, hlt, fun j c hj => hc j c (by simpa using hj)⟩⟩


theorem blk_cells3 {w : World} {b : Nat} {t : TypeId} {c0 c1 c2 : Value} (h : w.heap[b]? = some (.cells #[c0, c1, c2] t (0, 0))) :
    w.cell? ⟨b, 0, none⟩ = some c0 ∧ w.cell? ⟨b, 1, none⟩ = some c1 ∧ w.cell? ⟨b, 2, none⟩ = some c2 ∧
    w.frozen? ⟨b, 0, none⟩ = false ∧ w.frozen? ⟨b, 1, none⟩ = false ∧ w.frozen? ⟨b, 2, none⟩ = false :=
  ⟨cell_of_blk h 0, cell_of_blk h 1, cell_of_blk h 2, frozen_of_blk h 0, frozen_of_blk h 1, frozen_of_blk h 2⟩

theorem blk_cells4 {w : World} {b : Nat} {t : TypeId} {c0 c1 c2 c3 : Value} (h : w.heap[b]? = some (.cells #[c0, c1, c2, c3] t (0, 0))) :
    w.cell? ⟨b, 0, none⟩ = some c0 ∧ w.cell? ⟨b, 1, none⟩ = some c1 ∧ w.cell? ⟨b, 2, none⟩ = some c2 ∧ w.cell? ⟨b, 3, none⟩ = some c3 ∧
    w.frozen? ⟨b, 0, none⟩ = false ∧ w.frozen? ⟨b, 1, none⟩ = false ∧ w.frozen? ⟨b, 2, none⟩ = false ∧ w.frozen? ⟨b, 3, none⟩ = false :=
  ⟨cell_of_blk h 0, cell_of_blk h 1, cell_of_blk h 2, cell_of_blk h 3, frozen_of_blk h 0, frozen_of_blk h 1, frozen_of_blk h 2, frozen_of_blk h 3⟩


theorem blk_new_at {w : World} {n : Nat} (h : n = w.heap.size) (o : Obj) : (w.alloc o).heap[n]? = some o := by rw [h]; exact blk_new w o

/-- An owned row over four stores into a block that lies below. -/
theorem ownsRow_set4 {w : World} {base e s : Nat} {v : Value} {n : Nat} {xs : List Value} (h : w.ownsRow base e s v n xs) {b : Nat} (hb : b < base) (u0 u1 u2 u3 : Value) :
    ((((w.setCell ⟨b, 0, none⟩ u0).setCell ⟨b, 1, none⟩ u1).setCell ⟨b, 2, none⟩ u2).setCell ⟨b, 3, none⟩ u3).ownsRow base e s v n xs :=
  ownsRow_setCell_below (ownsRow_setCell_below (ownsRow_setCell_below (ownsRow_setCell_below h hb _) hb _) hb _) hb _

end Go.Herb
