/- Contract of slices.Delete at tables, one table taken out of a row. Condition: fewer than 1000000 tables. -/
import Derived.Test.YthdjokcjajlnnaaA1
import Derived.Deep.RegionLaw
import Derived.Lib.SliceRun
namespace Go.Proofs.Ythdjokcjajlnnaa
open Go.RowKit Go.Herb

theorem blk_setCells {b : Nat} {t : TypeId} {fr : Nat × Nat} : ∀ (vs : List Value) (o : Nat) (w : World) (cs : Array Value), w.heap[b]? = some (.cells cs t fr) → o + vs.length ≤ cs.size →
    ∃ cs' : Array Value, (w.setCells b o vs).heap[b]? = some (.cells cs' t fr) ∧ cs'.size = cs.size ∧ cs'.toList = cs.toList.take o ++ vs ++ cs.toList.drop (o + vs.length)
  | [], o, w, cs, h, _ => ⟨cs, h, rfl, by simp⟩
  | v :: r, o, w, cs, h, hle => by
    simp only [List.length_cons] at hle
    obtain ⟨cs', h1, h2, h3⟩ := blk_setCells r (o + 1) _ _ (blk_setCell (j := o) h v) (by simp; omega)
    refine ⟨cs', h1, by simpa using h2, ?_⟩
    rw [h3]
    simp only [Array.toList_setIfInBounds, List.length_cons]
    have ho : o < cs.toList.length := by simpa using (show o < cs.size by omega)
    rw [List.set_eq_take_append_cons_drop, if_pos ho, List.take_append, List.drop_append]
    have e1 : (cs.toList.take o).length = o := by simp; omega
    rw [e1, List.take_of_length_le (by omega), show o + 1 - o = 1 by omega, show o + 1 + r.length - o = r.length + 1 by omega]
    simp only [List.take_succ_cons, List.take_zero, List.drop_succ_cons, List.drop_drop]
    rw [List.drop_of_length_le (by omega)]
    simp only [List.append_assoc, List.cons_append, List.nil_append]
    rw [show o + 1 + r.length = o + (r.length + 1) by omega]

theorem grown_setCells {a : World} {g : Nat} : ∀ (vs : List Value) (o : Nat) (b : World), a.grownBy b (some g) → a.grownBy (b.setCells g o vs) (some g)
  | [], _, _, h => h
  | v :: r, o, _, h => grown_setCells r (o + 1) _ (grown_set h o v)

end Go.Proofs.Ythdjokcjajlnnaa
namespace Go.Herb
open Go.RowKit Go.Proofs.Ythdjokcjajlnnaa
/-- A row whose elements from place i on are laid anew. -/
theorem Row.lay {α : Type} {enc : α → List Value} {s e : Nat} {w : World} {g cap : Nat} {xs : List α} (h : Row enc s e w g cap xs) (hs : ∀ x, (enc x).length = s) (i : Nat) (ys : List α) (hi : i ≤ xs.length) (hle : i + ys.length ≤ cap) :
    Row enc s e (w.setCells g (i * s) (ys.flatMap enc)) g cap (xs.take i ++ ys) := by
  obtain ⟨cur, hb, hsz, htk⟩ := h.blk
  have hfl := flatMap_len hs ys
  have hle' : i * s + ys.length * s ≤ cap * s := by rw [← Nat.add_mul]; exact Nat.mul_le_mul_right s hle
  obtain ⟨cs', h1, h2, h3⟩ := blk_setCells (ys.flatMap enc) (i * s) w cur hb (by rw [hsz, hfl]; exact hle')
  have hil : (xs.take i).length = i := by simp; omega
  refine ⟨⟨cs', h1, by rw [h2, hsz], ?_⟩, by rw [List.length_append, hil]; exact hle, h.max⟩
  have h4 := (h.take hs i).blk
  obtain ⟨cur', hb', _, htk'⟩ := h4
  rw [hb] at hb'
  cases hb'
  rw [hil] at htk'
  rw [h3, htk', List.length_append, hil, List.flatMap_append, Nat.add_mul, List.take_append_of_le_length, List.take_of_length_le]
  · rw [List.length_append, flatMap_len hs, hfl, hil]; exact Nat.le_refl _
  · rw [List.length_append, flatMap_len hs, hfl, hil]; exact Nat.le_refl _

/-- A row, behind which cells are set. -/
theorem Row.beyond {α : Type} {enc : α → List Value} {s e : Nat} {w : World} {g cap : Nat} {xs : List α} (h : Row enc s e w g cap xs) (o : Nat) (vs : List Value) (ho : xs.length * s ≤ o) (hle : o + vs.length ≤ cap * s) :
    Row enc s e (w.setCells g o vs) g cap xs := by
  obtain ⟨cur, hb, hsz, htk⟩ := h.blk
  obtain ⟨cs', h1, h2, h3⟩ := blk_setCells vs o w cur hb (by rw [hsz]; exact hle)
  refine ⟨⟨cs', h1, by rw [h2, hsz], ?_⟩, h.le, h.max⟩
  rw [h3, List.append_assoc, List.take_append_of_le_length (by simp; omega), List.take_take, Nat.min_eq_left ho, htk]

theorem Row.isSome {α : Type} {enc : α → List Value} {s e : Nat} {w : World} {g cap : Nat} {xs : List α} (h : Row enc s e w g cap xs) (o : Nat) (ho : o < cap * s) : (w.cell? ⟨g, o, none⟩).isSome = true := by
  obtain ⟨cur, hb, hsz, htk⟩ := h.blk
  rw [cell_of_blk hb, Array.getElem?_eq_getElem (by rw [hsz]; exact ho)]
  rfl
end Go.Herb
namespace Go.Proofs.Ythdjokcjajlnnaa
open Go.RowKit Go.Herb


def zeroT : List Value := [.int .u64 0, .int .u32 0, .string ⟨#[]⟩, .string ⟨#[]⟩]

theorem run_clear1 (w : World) (ty : TypeId) (g o c : Nat) (hc : ∀ j, j < 4 → (w.cell? ⟨g, o + j, none⟩).isSome = true) (hf : ∀ j, j < 4 → w.frozen? ⟨g, o + j, none⟩ = false) :
    (Builtin.clear_ #[23] ty #[.slice (some ⟨g, o, none⟩) 1 c]).run Try.prog w = .ok (.tuple #[]) (w.setCells g o zeroT) := by
  have hst := run_storeCells_cells (P := Try.prog) g o zeroT 0 w (by simpa [zeroT] using hc) (by simpa [zeroT] using hf) (by simp [zeroT, Value.oneCell'])
  obtain ⟨i0, hi, hz0, hz1, hz2⟩ := info_parts Try.info45
  have hz : (zeroValue 45).run Try.prog w = .ok (.agg #[.int .u64 0, .int .u32 0, .string ⟨#[]⟩, .string ⟨#[]⟩]) w := by
    simp [zeroValue, typeInfo, hi, hz0]
  simp only [Nat.add_zero] at hst
  simp [Builtin.clear_, run_underlying Try.underlying23, hz]
  have e : (Builtin.zeroCells (Value.agg #[.int .u64 0, .int .u32 0, .string ⟨#[]⟩, .string ⟨#[]⟩]).cells 1).toList = zeroT := by
    simp [Builtin.zeroCells, Value.cells, zeroT]
    rfl
  rw [e, hst]
  rfl

set_option maxHeartbeats 1000000 in
theorem delete1 (g cap : Nat) (xs : List T) (i : Nat) (w : World) (h : TRow w g cap xs) (hl : xs.length < 1000000) (hi : i < xs.length) :
    Calls Try.prog 32 #[.slice (some ⟨g, 0, none⟩) xs.length cap, .int .i64 i, .int .i64 ((i : Int) + 1)] w fun e w' =>
      e = .returned (.slice (some ⟨g, 0, none⟩) (xs.length - 1) cap) ∧ TRow w' g cap (xs.eraseIdx i) ∧ w.grownBy w' (some g) := by
  obtain ⟨i0, hin, hz0, hz1, hz2⟩ := info_parts Try.info45
  have hle := h.le
  have hmax := h.max
  simp only [maxLen] at hmax
  obtain ⟨N, hN⟩ : ∃ N, N = xs.length := ⟨_, rfl⟩
  rw [← hN] at hl hi hle ⊢
  have hdl : (xs.drop (i + 1)).length = N - (i + 1) := by simp [hN]
  obtain ⟨news, hnews⟩ : ∃ news, news = (xs.drop (i + 1)).flatMap tc := ⟨_, rfl⟩
  have hlen : news.length = (N - (i + 1)) * 4 := by rw [hnews, flatMap_len tc_len, hdl]
  obtain ⟨A, hA, hsrc⟩ : ∃ A : Addr, (if cap = i + 1 then some (⟨g, 0, none⟩ : Addr) else some ⟨g, (i + 1) * 4, none⟩) = some A ∧ Hid (∀ t u, news[t]? = some u → w.drew.cell? (A.add t) = some u) := by
    by_cases hc : cap = i + 1
    · refine ⟨⟨g, 0, none⟩, by simp [hc], fun t u hu => ?_⟩
      have h0 : news.length = 0 := by rw [hlen]; omega
      rw [List.length_eq_zero_iff.1 h0] at hu
      simp at hu
    · refine ⟨⟨g, (i + 1) * 4, none⟩, by simp [hc], fun t u hu => ?_⟩
      have hE : Els tc 4 w (some ⟨g, (i + 1) * 4, none⟩) (xs.drop (i + 1)) := by
        refine ⟨fun k hk => ⟨g, (i + 1) * 4, rfl, h.lt, fun j c hj => ?_⟩⟩
        have hk' : i + 1 + k < xs.length := by simp at hk; omega
        have := h.cell tc_len (i + 1 + k) hk' j c (by simpa using hj)
        rw [show (i + 1) * 4 + k * 4 + j = (i + 1 + k) * 4 + j by omega]
        exact this
      exact hE.flat tc_len (by decide) t u (by rw [← hnews]; exact hu)
  have s1 : Hid (news.length = (N - (i + 1)) * 4) := hlen
  have s2 : Hid (∀ u ∈ news, u.oneCell' = true) := by rw [hnews]; intro u hu; obtain ⟨x, _, hx⟩ := List.mem_flatMap.1 hu; exact tc_one x u hx
  have s3 : Hid (∀ t, t < news.length → (w.drew.cell? ⟨g, 0 + i * 4 + t, none⟩).isSome = true ∧ w.drew.frozen? ⟨g, 0 + i * 4 + t, none⟩ = false) := by
    intro t ht
    rw [hlen] at ht
    exact ⟨h.isSome _ (by omega), h.frozen _⟩
  obtain ⟨W1, hW1⟩ : ∃ W1, W1 = w.drew.setCells g (0 + i * 4) news := ⟨_, rfl⟩
  have hR1 : TRow W1 g cap (xs.take i ++ xs.drop (i + 1)) := by
    rw [hW1, hnews, Nat.zero_add]
    exact Row.lay h.drew tc_len i _ (by omega) (by rw [hdl]; omega)
  have hG1 : w.grownBy W1 (some g) := by rw [hW1]; exact grown_setCells _ _ _ (grown_drew (grown_refl _ _))
  obtain ⟨M, hM⟩ : ∃ M, M = N - 1 := ⟨_, rfl⟩
  rw [← hM]
  have hlk : (xs.take i ++ xs.drop (i + 1)).length = M := by simp [← hN]; omega
  have hcl : ∀ ty, (Builtin.clear_ #[23] ty #[.slice (some ⟨g, M * 4, none⟩) 1 (cap - M)]).run Try.prog W1 = .ok (.tuple #[]) (W1.setCells g (M * 4) zeroT) :=
    fun ty => run_clear1 W1 ty g _ _ (fun j hj => hR1.isSome _ (by omega)) (fun j hj => hR1.frozen _)
  have hR2 : TRow (W1.setCells g (M * 4) zeroT) g cap (xs.take i ++ xs.drop (i + 1)) := Row.beyond hR1 _ _ (by rw [hlk]; exact Nat.le_refl _) (by simp [zeroT]; omega)
  have hG2 : w.grownBy (W1.setCells g (M * 4) zeroT) (some g) := grown_setCells _ _ _ hG1
  have HR := Lib.hid hR2
  have HG := Lib.hid hG2
  have hW := Lib.hid hW1
  have hic : i ≤ cap := by omega
  have hjc : i + 1 ≤ cap := by omega
  have e1 : (0 : Int) ≤ (i : Int) + 1 := by omega
  have e2 : ((i : Int) + 1).toNat = i + 1 := by omega
  have e3 : (i : Int) + 1 ≤ (N : Int) := by omega
  clear hW1 hR1 hG1 hR2 hG2 hnews hlen h hdl hlk
  clear hN
  go_enter Try.func32, Try.ntmps32
  go_wp2_with fail
  go_region_law (refine step_append_room rfl (.tmp 22) (.tmp 25) 23 rfl 45 i0 4 Try.underlying23 hin hz1 g 0 i cap (by simp [Act.eval, Act.put]) A (N - (i + 1)) (cap - (i + 1)) news (by simp [Act.eval, Act.put]) s1.out hsrc.out s2.out (by omega) s3.out ?_; rw [← hW.out])
  have hq : i + (N - (i + 1)) = M := by omega
  have hq1 : N - M = 1 := by omega
  have hq2 : M ≤ N := by omega
  have hq3 : ¬ cap = M := by omega
  have hq4 : M ≤ cap := by omega
  clear hM
  go_wp2
  go_ret
  exact ⟨rfl, by rw [List.eraseIdx_eq_take_drop_succ]; exact HR.out, HG.out⟩
end Go.Proofs.Ythdjokcjajlnnaa
