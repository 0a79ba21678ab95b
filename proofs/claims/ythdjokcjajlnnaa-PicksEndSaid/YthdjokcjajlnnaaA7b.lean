/- Plain facts for PicksEnd's steps: levels that stay where the shelf's own block is written; what a step leaves. -/
import Derived.Test.YthdjokcjajlnnaaA7a
namespace Go.Proofs.Ythdjokcjajlnnaa
open Go.RowKit Go.Herb

theorem LvOk.shelf {w w' : World} {l x0 x1 x2 : Lv} {S0 : Nat} {line : Int} (h : LvOk w l) (hS : w.heap[S0]? = some (.cells #[.int .u64 line, sv x0, sv x1, sv x2] 26 (0, 0))) (hb : ∀ b, b ≠ S0 → w'.heap[b]? = w.heap[b]?) (hs : w.heap.size ≤ w'.heap.size) : LvOk w' l := by
  refine ⟨⟨fun i hi => ?_⟩, h.nil0, h.le, h.len, h.wf⟩
  obtain ⟨b, o, ha, hlt, hc⟩ := h.tabs.get i hi
  have hne : b ≠ S0 := by
    intro e
    subst e
    have h1 := hc 1 _ rfl
    rw [cell_of_blk hS] at h1
    generalize o + i * 4 = q at h1
    have : q = 0 ∨ q = 1 ∨ q = 2 ∨ 3 ≤ q := by omega
    rcases this with rfl | rfl | rfl | h3
    · simp at h1
    · simp at h1
    · simp at h1
    · rw [Array.getElem?_eq_none (by simp; omega)] at h1
      cases h1
  exact ⟨b, o, ha, by omega, fun j c hj => (World.cell?_of_block (w := w) (hb b hne)).trans (hc j c hj)⟩

theorem lv_of_own {B : Nat} {w : World} {v : Value} {ts : List T} (h : Own B w v ts) (hl : ts.length ≤ 8) (hwf : ∀ t ∈ ts, 0 ≤ t.bytes ∧ t.bytes < 4294967296) : ∃ l : Lv, v = sv l ∧ l.ts.length ≤ 8 ∧ LvOk w l := by
  obtain ⟨a, c, rfl, hc, hT, hn⟩ := Own.open h
  exact ⟨⟨a, c, ts⟩, rfl, hl, hT, fun e => (hn e).2, hc, by show ts.length ≤ 1000; omega, hwf⟩

theorem phi_start (ds : List Int) (m0 m1 m2 : Lv) (h0 : m0.ts.length ≤ 8) (h1 : m1.ts.length ≤ 8) (h2 : m2.ts.length ≤ 8) : phi ds (lvAt m0 m1 m2) + 0 ≤ 48 ∧ tot (lvAt m0 m1 m2) ≤ 24 := by
  have a0 := dirtyN_le ds m0.ts
  have a1 := dirtyN_le ds m1.ts
  have a2 := dirtyN_le ds m2.ts
  unfold phi tot
  simp only [show lvAt m0 m1 m2 0 = m0 from rfl, show lvAt m0 m1 m2 1 = m1 from rfl, show lvAt m0 m1 m2 2 = m2 from rfl]
  omega

/-- What a step leaves on a level is as it should be. -/
theorem step_ok {w : World} {lv m : Nat → Lv} {f t : Nat} {ins bs l : List T} (hlv : ∀ i, i < 3 → ∀ x ∈ (lv i).ts, 0 ≤ x.bytes ∧ x.bytes < 4294967296) (hm : ∀ i, i < 3 → Tabs w (m i).a (m i).ts ∧ ((m i).a = none → (m i).cap = 0) ∧ (m i).ts.length ≤ (m i).cap)
    (hp : ∀ i, i < 3 → (some3 f t ins bs i ++ (m i).ts).Perm ((lv i).ts ++ if i = t then l else [])) (hl : ∀ x ∈ l, 0 ≤ x.bytes ∧ x.bytes < 4294967296) (htot : tot m ≤ 24) : ∀ i, i < 3 → LvOk w (m i) := by
  intro i hi
  obtain ⟨h1, h2, h3⟩ := hm i hi
  refine ⟨h1, h2, h3, ?_, ?_⟩
  · unfold tot at htot
    have : i = 0 ∨ i = 1 ∨ i = 2 := by omega
    rcases this with rfl | rfl | rfl <;> omega
  · intro x hx
    have := (hp i hi).mem_iff.1 (List.mem_append_right _ hx)
    rcases List.mem_append.1 this with h | h
    · exact hlv i hi x h
    · by_cases e : i = t
      · rw [if_pos e] at h; exact hl x h
      · rw [if_neg e] at h; cases h

theorem blk_set4 {w : World} {b : Nat} {c0 c1 c2 c3 : Value} {t : TypeId} (h : w.heap[b]? = some (.cells #[c0, c1, c2, c3] t (0, 0))) (u0 u1 u2 u3 : Value) :
    ((((w.setCell ⟨b, 0, none⟩ u0).setCell ⟨b, 1, none⟩ u1).setCell ⟨b, 2, none⟩ u2).setCell ⟨b, 3, none⟩ u3).heap[b]? = some (.cells #[u0, u1, u2, u3] t (0, 0)) := by
  rw [blk_setCell (blk_setCell (blk_setCell (blk_setCell h _) _) _) _]
  simp

theorem other_set4 (w : World) (b : Nat) (u0 u1 u2 u3 : Value) : ∀ c, c ≠ b →
    ((((w.setCell ⟨b, 0, none⟩ u0).setCell ⟨b, 1, none⟩ u1).setCell ⟨b, 2, none⟩ u2).setCell ⟨b, 3, none⟩ u3).heap[c]? = w.heap[c]? := by
  intro c hc
  rw [Below.heap_setCell _ ⟨b, 3, none⟩ _ c hc, Below.heap_setCell _ ⟨b, 2, none⟩ _ c hc, Below.heap_setCell _ ⟨b, 1, none⟩ _ c hc, Below.heap_setCell _ ⟨b, 0, none⟩ _ c hc]

theorem clean_of_new (ds : List Int) (k : Nat) (l : List T) (hd : ∀ y ∈ ds, y < 1125899906842624) (hl : ∀ x ∈ l, x.file = 1125899906842624 + k ∧ 0 ≤ x.bytes ∧ x.bytes < 4294967296) : dirtyN ds l = 0 := by
  unfold dirtyN
  rw [List.countP_eq_zero]
  intro x hx h
  have h1 := hd _ (of_decide_eq_true h)
  have h2 := (hl x hx).1
  omega

theorem phi_three (ds : List Int) (m : Nat → Lv) : phi ds (lvAt (m 0) (m 1) (m 2)) = phi ds m ∧ tot (lvAt (m 0) (m 1) (m 2)) = tot m := ⟨rfl, rfl⟩
end Go.Proofs.Ythdjokcjajlnnaa
