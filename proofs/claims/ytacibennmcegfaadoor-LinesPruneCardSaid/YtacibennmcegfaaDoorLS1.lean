/- Appends in a row of one's own, where there is room; clear of a row's end. No condition. -/
import Derived.Test.YtacibennmcegfaaDoorLPB
import Derived.Lib.SliceRun
import Derived.Deep.RegionLaw
namespace Go.Herb
open Go.RowKit
theorem run_append_row {P : Program} (w : World) (t e : TypeId) (i0 : TypeInfo) (ht : P.underlying t = some (.slice e)) (hi : P.info? e = some i0) (g n c m mc : Nat) (ad : Addr) (cur : Array Value) (et : TypeId) (news : List Value)
    (hg : w.heap[g]? = some (.cells cur et (0, 0))) (hl : news.length = m * i0.size) (hs : ∀ j v, news[j]? = some v → w.cell? (ad.add j) = some v) (hroom : n + m ≤ c) (hfit : n * i0.size + news.length ≤ cur.size) (h1 : ∀ v ∈ news, v.oneCell' = true) (ty : TypeId) :
    (Builtin.append_ #[t, t] ty #[.slice (some ⟨g, 0, none⟩) n c, .slice (some ad) m mc]).run P w = .ok (.slice (some ⟨g, 0, none⟩) (n + m) c) (w.setRow g (cur.toList.take (n * i0.size) ++ news ++ cur.toList.drop (n * i0.size + news.length)).toArray) := by
  have hf := run_firstCells_some (P := P) w i0.size m ad m mc news hl hs
  have hst := run_storeCells_at P g (n * i0.size) et news 0 cur w hg (by simpa using hfit) h1
  simp only [Nat.add_zero] at hst
  simp [Builtin.append_, run_underlying ht, sizeOf, typeInfo, hi, Builtin.lenOf, hroom, hf, Addr.add_lit, hst]
theorem zeroCells_len (z : Array Value) (n : Nat) : (Builtin.zeroCells z n).toList.length = n * z.size := by
  simp [Builtin.zeroCells]
theorem zeroCells_one {z : Array Value} {n : Nat} (h : ∀ v ∈ z.toList, v.oneCell' = true) : ∀ v ∈ (Builtin.zeroCells z n).toList, v.oneCell' = true := by
  intro v hv
  simp only [Builtin.zeroCells, Array.toList_map, Array.toList_range, List.mem_map, List.mem_range] at hv
  obtain ⟨i, hi, rfl⟩ := hv
  have hz : 0 < z.size := by
    rcases Nat.eq_zero_or_pos z.size with h0 | h0
    · rw [h0] at hi; omega
    · exact h0
  have h2 := Nat.mod_lt i hz
  rw [getElem!_pos z _ h2]
  exact h _ (by simp)
theorem run_clear_row {P : Program} (w : World) (t e : TypeId) (z : Value) (ht : P.underlying t = some (.slice e)) (hv : ∀ w, (zeroValue e).run P w = .ok z w) (g o n c : Nat) (cur : Array Value) (et : TypeId)
    (hg : w.heap[g]? = some (.cells cur et (0, 0))) (hn : 0 < n) (hfit : o + n * z.cells.size ≤ cur.size) (h1 : ∀ v ∈ z.cells.toList, v.oneCell' = true) (ty : TypeId) :
    (Builtin.clear_ #[t] ty #[.slice (some ⟨g, o, none⟩) n c]).run P w = .ok (.tuple #[]) (w.setRow g (cur.toList.take o ++ (Builtin.zeroCells z.cells n).toList ++ cur.toList.drop (o + n * z.cells.size)).toArray) := by
  have hst := run_storeCells_at P g o et (Builtin.zeroCells z.cells n).toList 0 cur w hg (by rw [zeroCells_len]; simpa using hfit) (zeroCells_one h1)
  rw [zeroCells_len] at hst
  simp only [Nat.add_zero] at hst
  obtain ⟨m, rfl⟩ : ∃ m, n = m + 1 := ⟨n - 1, by omega⟩
  simp [Builtin.clear_, run_underlying ht, hv, hst]
/-- Nothing but one row turns. -/
structure RowOnly (g : Nat) (A B : World) : Prop where
  below : ∀ B0, B0 ≤ g → Below B0 A B
  same : ∀ k, k ≠ g → B.heap[k]? = A.heap[k]?
  size : B.heap.size = A.heap.size
theorem RowOnly.refl (g : Nat) (A : World) : RowOnly g A A := ⟨fun _ _ => Below.refl _ _, fun _ _ => rfl, rfl⟩
theorem RowOnly.trans {g : Nat} {A B C : World} (h : RowOnly g A B) (k : RowOnly g B C) : RowOnly g A C := ⟨fun B0 hB => (h.below B0 hB).trans (k.below B0 hB), fun j hj => (k.same j hj).trans (h.same j hj), k.size.trans h.size⟩
theorem RowOnly.drew (g : Nat) (A : World) : RowOnly g A A.drew := ⟨fun _ _ => bdrw (Below.refl _ _), fun _ _ => rfl, rfl⟩
theorem RowOnly.setRow (g : Nat) (A : World) (r : Array Value) : RowOnly g A (A.setRow g r) :=
  ⟨fun B0 hB => ⟨rfl, rfl, rfl, by simp [World.setRow], fun k hk => setRow_other A g k r (by omega)⟩, fun k hk => setRow_other A g k r hk, by simp [World.setRow]⟩
theorem step_append_run {P : Program} {w : World} {ops : Array Oper} {o : Oper} {a : Act} {K : Act → World → Prop} {Q : Exit → Act → World → Prop} {E : Prop} (hgd : o.guard = none) (s x : Operand) (t tn : TypeId) (ho : o.op = .call { callee := .builtin .append, args := #[s, x], argTypes := #[t, tn] })
    (vs vx : Value) (hs : a.eval s = vs) (hx : a.eval x = vx) (v' : Value) (w' : World) (hr : (Builtin.append_ #[t, tn] o.type #[vs, vx]).run P w = .ok v' w') (h : K (a.put o.dst v') w') :
    if Region.wanted o (yielded ops a.tmps) = true then Oper.wp P o a w K Q else E := by
  have hw : Region.wanted o (yielded ops a.tmps) = true := by simp [Region.wanted, hgd]
  rw [if_pos hw]
  unfold Oper.wp execOp
  simp only [ho, resolve, invoke, builtin, Sem.run_bind, Sem.run_pure, Result.andThen_ok, List.map_toArray, List.map_cons, List.map_nil, hs, hx, hr]
  exact h
theorem wpList_clear_eq {P : Program} (w : World) {ops : Array Oper} {rest : List Oper} {o : Oper} {a : Act} {Q : Exit → Act → World → Prop} (hgd : o.guard = none) (d : Operand) (t : TypeId)
    (ho : o.op = .call { callee := .builtin .clear, args := #[d], argTypes := #[t] }) (v : Value) (hd : a.eval d = v) {v' : Value} {w' : World}
    (hr : (Builtin.clear_ #[t] o.type #[v]).run P w = .ok v' w') (h : wpList P ops Q rest (a.put o.dst v') w') : wpList P ops Q (o :: rest) a w :=
  wpList_plain hgd fun _ hK => by
    unfold Oper.wp execOp
    simp only [ho, resolve, invoke, builtin, Sem.run_bind, Sem.run_pure, Result.andThen_ok, List.map_toArray, List.map_cons, List.map_nil, hd, hr]
    exact hK _ _ h
/-- 'append(s, x..)' where s has no room: the block that is made. -/
theorem run_append_fullB {P : Program} {α : Type} {enc : α → List Value} {s : Nat} (hel : ∀ x, (enc x).length = s) (hpos : 0 < s) (hone : ∀ x, ∀ v ∈ enc x, v.oneCell' = true) (w : World) (t e : TypeId) (i0 : TypeInfo) (z : Value) (ht : P.underlying t = some (.slice e)) (hi : P.info? e = some i0) (hz : i0.zero = some z) (hsz : i0.size = s)
    (n c m mc : Nat) (ad av : Option Addr) (xs vs : List α) (hx : Els enc s w ad xs) (hv : Els enc s w av vs) (hn : xs.length = n) (hm : vs.length = m) (h0 : 0 < n) (h1 : 0 < m) (hc : c < n + m) (hbig : (n + m) * i0.bytes ≤ 140737488355328) (h63 : n + m ≤ maxLen) :
    ∃ c' w' R, (∀ ty, (Builtin.append_ #[t, t] ty #[.slice ad n c, .slice av m mc]).run P w = .ok (.slice (some ⟨w.heap.size, 0, none⟩) (n + m) c') w') ∧ w'.heap[w.heap.size]? = some (.cells ((xs ++ vs).flatMap enc ++ R).toArray e (0, 0)) ∧ n + m ≤ c' ∧ Below w.heap.size w w' := by
  obtain ⟨b, o, rfl, _, _⟩ := hx.get 0 (by omega)
  obtain ⟨vb, vo, rfl, _, _⟩ := hv.get 0 (by omega)
  subst hsz
  unfold maxLen at h63
  have hl : (xs.flatMap enc).length = n * i0.size := by rw [flatMap_len hel, hn]
  have hl2 : (vs.flatMap enc).length = m * i0.size := by rw [flatMap_len hel, hm]
  have hold : (Builtin.firstCells i0.size n (.slice (some ⟨b, o, none⟩) n c)).run P w.drew = .ok (xs.flatMap enc).toArray w.drew :=
    run_firstCells_some w.drew i0.size n ⟨b, o, none⟩ n c _ hl (Els.flat (w := w.drew) ⟨hx.get⟩ hel hpos)
  have hsrc : Src P i0.size t (.slice (some ⟨vb, vo, none⟩) m mc) m (vs.flatMap enc) w := Src.ofSlice w ht ⟨vb, vo, none⟩ m mc _ hl2 (hv.flat hel hpos) (fun v hv => by
    obtain ⟨x, _, hx⟩ := List.mem_flatMap.1 hv
    exact hone x v hx)
  refine ⟨_, _, (Builtin.zeroCells z.cells (grownCap w (n + m) c e - (n + m))).toList, fun ty => run_append_grow_src w t t ty e i0 z ht hi hz (some ⟨b, o, none⟩) n c _ hold _ m _ hsrc hc (by omega) (growslice_fits hc hbig), ?_, grownCap_ge _ _ _ _, (bdrw (Below.refl _ _)).alloc (Nat.le_refl _) _⟩
  refine (blk_new_at (by simp) _).trans ?_
  simp
end Go.Herb
namespace Go.Proofs.YtacibennmcegfaaDoor
open Go.RowKit Go.Shelf Go.Herb
theorem wp_append_links {w : World} {o : Oper} {a : Act} {K : Act → World → Prop} {Q : Exit → Act → World → Prop} (s x : Operand) (ho : o.op = .call { callee := .builtin .append, args := #[s, x], argTypes := #[(32), (32)] })
    (ad av : Option Addr) (n c m mc : Nat) (xs vs : List (Int × Int)) (hs : a.eval s = .slice ad n c) (hx : a.eval x = .slice av m mc) (hE : Els lnc 2 w ad xs) (hV : Els lnc 2 w av vs) (hn : xs.length = n) (hm : vs.length = m) (h0 : 0 < n) (h1 : 0 < m) (hc : c < n + m) (hbig : n + m < 1000000)
    (h : ∀ (g c' : Nat) (w' : World) (R : List Value), w'.heap[g]? = some (.cells ((xs ++ vs).flatMap lnc ++ R).toArray (38) (0, 0)) → w.heap.size ≤ g → Below w.heap.size w w' → K (a.put o.dst (.slice (some ⟨g, 0, none⟩) (n + m) c')) w') : o.wp Tryd.prog a w K Q := by
  obtain ⟨i1, hin1, hy0, hy1, hy2⟩ := info_parts infoK
  obtain ⟨c', w', R, hr, h2, -, h3⟩ := run_append_fullB (P := Tryd.prog) lnc_len (by decide) lnc_one w (32) (38) i1 _ Tryd.underlying32 hin1 hy0 hy1 n c m mc ad av xs vs hE hV hn hm h0 h1 hc (by rw [hy2]; omega) (by unfold maxLen; omega)
  unfold Oper.wp execOp
  simp only [ho, resolve, invoke, builtin, Sem.run_bind, Sem.run_pure, Result.andThen_ok, List.map_toArray, List.map_cons, List.map_nil, hs, hx, hr o.type]
  exact h _ c' w' R h2 (Nat.le_refl _) h3
end Go.Proofs.YtacibennmcegfaaDoor
