/- keeps.look: which places of a row are seen. Condition: fewer than 1000000 facts, places and links. -/
import Derived.Test.YticcccciefaemaaGreatDoorQB
import Derived.Test.YticcccciefaemaaGreatDoorK3
import Derived.Lib.AppendZeros
import Derived.Laws.OwnMore
namespace Go.Proofs.YticcccciefaemaaGreatDoor
open Go.RowKit Go.Shelf Go.Herb
attribute [local go_sem] Oper.semAt_some
abbrev Ints (w : World) (a : Option Addr) (ys : List Nat) : Prop := Els ic 1 w a ys
abbrev OwnI (B : Nat) (w : World) (v : Value) (ys : List Nat) : Prop := w.ownsRow B (3) 1 v ys.length (ys.flatMap ic)

theorem insertionI_none (bl : Nat) (w : World) : Calls Tryz.prog (99) #[.slice none 0 0, .int .i64 0, .int .i64 0, ordV bl] w fun e w' => e = .returned (.tuple #[]) ∧ w = w' := by
  go_enter Tryz.func99, Tryz.ntmps99
  go_wp2
  go_loopg [8] 0 (fun _ iv wr => iv = .int .i64 1 ∧ wr = w)
  case atStart => exact ⟨rfl, rfl⟩
  case round =>
    obtain ⟨rfl, rfl⟩ := hrel
    go_wp2
    go_end0
    exact ⟨rfl, rfl⟩
theorem stableI_none (bl : Nat) (w : World) : Calls Tryz.prog (77) #[.slice none 0 0, .int .i64 0, ordV bl] w fun e w' => e = .returned (.tuple #[]) ∧ w = w' := by
  go_enter Tryz.func77, Tryz.ntmps77
  go_wp2_with fail
  go_loopg [7, 8] 0 (fun _ av bv wr => av = .int .i64 0 ∧ bv = .int .i64 20 ∧ wr = w)
  case atStart => exact ⟨rfl, rfl, rfl⟩
  case round =>
    obtain ⟨rfl, rfl, rfl⟩ := hrel
    go_wp2_with fail
    refine (insertionI_none bl wr).mono ?_
    rintro e w' ⟨rfl, rfl⟩
    go_wp2_with fail
    obtain ⟨wo, rfl⟩ : ∃ wo : World, wo = wr := ⟨_, rfl⟩
    go_loopg [6] 0 (fun _ sv wr => sv = .int .i64 20 ∧ wr = wo)
    case atStart => exact ⟨rfl, rfl⟩
    case round =>
      obtain ⟨rfl, rfl⟩ := hrel
      go_wp2
      go_end0
      exact ⟨rfl, rfl⟩
theorem sortStable_none (bl : Nat) (w : World) : Calls Tryz.prog (55) #[.slice none 0 0, ordV bl] w fun e w' => e = .returned (.tuple #[]) ∧ w = w' := by
  go_enter Tryz.func55, Tryz.ntmps55
  go_wp2_with fail
  refine (stableI_none bl w).mono ?_
  rintro e w' ⟨rfl, rfl⟩
  go_wp2
  go_end0
  exact ⟨rfl, rfl⟩
theorem compact_none (bl : Nat) (w : World) : Calls Tryz.prog (58) #[.slice none 0 0, sameV bl] w fun e w' => e = .returned (.slice none 0 0) ∧ w = w' := by
  go_enter Tryz.func58, Tryz.ntmps58
  go_wp2
  go_ret
  exact ⟨rfl, rfl⟩

theorem info3 : (Tryz.prog.info? (3)).map (fun i => (i.zero, i.size, i.bytes)) = some (some (.int .i64 0), 1, 8) := by kernel_rfl
theorem run_append_int (w : World) (B : Nat) (v : Value) (ys : List Nat) (vb : Nat) (i : Nat) (ho : OwnI B w v ys) (hb : w.heap[vb]? = some (.cells #[.int .i64 i] (3) (0, 0))) (hx : ys.length < 1000000) (hB : B ≤ w.heap.size) (ty : TypeId) :
    ∃ v' w', (Builtin.append_ #[(90), (90)] ty #[v, .slice (some ⟨vb, 0, none⟩) 1 1]).run Tryz.prog w = .ok v' w' ∧ OwnI B w' v' (ys ++ [i]) ∧ w.grownBy w' v.ownBlock := by
  obtain ⟨i0, hin, hz0, hz1, hz2⟩ := info_parts info3
  obtain ⟨v', w', hr, h2, h3, h4⟩ := run_append_own (P := Tryz.prog) w B (90) ty (3) i0 _ 1 8 Tryz.underlying90 hin hz0 hz1 hz2 rfl (by decide) v ys.length (ys.flatMap ic) ho ⟨vb, 0, none⟩ 1 1 (ic i) rfl (fun j u hj => by
      have : ((⟨vb, 0, none⟩ : Addr).add j) = ⟨vb, 0 + j, none⟩ := addr_add _ _ _
      rw [this, Nat.zero_add, cell_of_blk hb]
      simpa [ic] using hj) (by intro v hv; simp [ic] at hv; subst hv; rfl) (by unfold maxLen; omega) (by omega) hB
  refine ⟨v', w', hr, ?_, h3⟩
  show w'.ownsRow B (3) 1 v' (ys ++ [i]).length ((ys ++ [i]).flatMap ic)
  rw [List.length_append, List.flatMap_append]
  simpa using h2

theorem filter_succN (p : Nat → Bool) (xs : List Nat) (k : Nat) (h : k < xs.length) : (xs.take (k + 1)).filter p = (xs.take k).filter p ++ if p xs[k] then [xs[k]] else [] := by
  rw [List.take_succ_eq_append_getElem h, List.filter_append]
  congr 1
  cases hp : p xs[k] <;> simp [hp]

/-- Is a fact seen along the chain? -/
def seenI (xs : List Fc) (m : List (Int × Int)) (i : Nat) : Bool := match xs[i]? with
  | some x => (match getL m x.line with | some u => decide (x.seq ≤ u) | none => false)
  | none => false

/-- Is the k-th of some places, that stand by commits, looked at? -/
def seeAt (sq : Nat → Int) (on : Bool) (at_ : Int) (l : List Nat) (k : Nat) : Bool := seesB on at_ (sq (l.getD k 0)) (if k + 1 = l.length then 0 else sq (l.getD (k + 1) 0)) (decide (k + 1 = l.length))
def outT (sq : Nat → Int) (on : Bool) (at_ : Int) (l : List Nat) (k : Nat) : List Nat := (List.range k).filterMap (fun i => if seeAt sq on at_ l i then some (l.getD i 0) else none)
theorem outT_succ (sq : Nat → Int) (on : Bool) (at_ : Int) (l : List Nat) (k : Nat) : outT sq on at_ l (k + 1) = outT sq on at_ l k ++ if seeAt sq on at_ l k then [l.getD k 0] else [] := by
  unfold outT
  rw [List.range_succ, List.filterMap_append]
  congr 1
  cases h : seeAt sq on at_ l k <;> simp [h]
theorem outT_len (sq : Nat → Int) (on : Bool) (at_ : Int) (l : List Nat) (k : Nat) : (outT sq on at_ l k).length ≤ k := by
  have := List.length_filterMap_le (fun i => if seeAt sq on at_ l i then some (l.getD i 0) else none) (List.range k)
  simpa [outT] using this

theorem mem_outT {sq : Nat → Int} {on : Bool} {at_ : Int} {l : List Nat} (hr : l.Pairwise (fun a b => sq a < sq b)) (i : Nat) : i ∈ outT sq on at_ l l.length ↔ i ∈ l ∧ (on = true ∨ sq i ≤ at_) ∧ ∀ y ∈ l, sq i < sq y → at_ < sq y := by
  have hrg : ∀ (p q : Nat) (hpq : p < q) (hq : q < l.length), sq (l[p]'(by omega)) < sq l[q] := fun p q hpq hq => List.pairwise_iff_getElem.1 hr p q (by omega) hq hpq
  have hgd : ∀ k (hk : k < l.length), l.getD k 0 = l[k] := fun k hk => getD_of (List.getElem?_eq_getElem hk)
  have hsee : ∀ k (hk : k < l.length), seeAt sq on at_ l k = true ↔ (on = true ∨ sq l[k] ≤ at_) ∧ ∀ y ∈ l, sq l[k] < sq y → at_ < sq y := by
    intro k hk
    unfold seeAt seesB
    rw [Bool.and_eq_true, Bool.or_eq_true, Bool.or_eq_true, decide_eq_true_eq, decide_eq_true_eq, decide_eq_true_eq, hgd k hk]
    refine and_congr_right (fun _ => ?_)
    by_cases hl : k + 1 = l.length
    · simp only [hl, true_or, true_iff]
      intro y hy hlt
      obtain ⟨j, hj, rfl⟩ := List.getElem_of_mem hy
      rcases Nat.lt_trichotomy j k with h | h | h
      · have := hrg j k h hk; omega
      · subst h; omega
      · omega
    · rw [if_neg hl, hgd (k + 1) (by omega)]
      simp only [hl, false_or]
      constructor
      · intro h y hy hlt
        obtain ⟨j, hj, rfl⟩ := List.getElem_of_mem hy
        rcases Nat.lt_trichotomy j (k + 1) with h1 | h1 | h1
        · rcases Nat.lt_or_eq_of_le (Nat.le_of_lt_succ h1) with h2 | h2
          · have := hrg j k h2 hk; omega
          · subst h2; omega
        · subst h1; exact h
        · have := hrg (k + 1) j h1 hj; omega
      · intro h
        exact h _ (List.getElem_mem (show k + 1 < l.length by omega)) (hrg k (k + 1) (by omega) (by omega))
  unfold outT
  rw [List.mem_filterMap]
  constructor
  · rintro ⟨k, hk, h⟩
    rw [List.mem_range] at hk
    split at h
    · rename_i hc
      injection h with h
      rw [hgd k hk] at h
      subst h
      exact ⟨List.getElem_mem hk, (hsee k hk).1 hc⟩
    · cases h
  · rintro ⟨hi, h⟩
    obtain ⟨k, hk, rfl⟩ := List.getElem_of_mem hi
    exact ⟨k, List.mem_range.2 hk, by rw [if_pos ((hsee k hk).2 h), hgd k hk]⟩

/-- Does somebody who looks at some places that are seen look at this one? -/
def LookB (sq : Nat → Int) (on : Bool) (at_ : Int) (mine : List Nat) (i : Nat) : Prop := i ∈ mine ∧ (∀ y ∈ mine, sq y = sq i → i ≤ y) ∧ (on = true ∨ sq i ≤ at_) ∧ ∀ y ∈ mine, sq i < sq y → at_ < sq y
theorem look_of_sorted {sq : Nat → Int} {on : Bool} {at_ : Int} {mine zs : List Nat} (hp : zs.Perm mine) (hs : SrtI sq zs) (i : Nat) : i ∈ outT sq on at_ (ddT sq zs zs.length) (ddT sq zs zs.length).length ↔ LookB sq on at_ mine i := by
  rw [mem_outT (ddT_rise hs zs.length (Nat.le_refl _)).1, mem_ddT hs]
  unfold LookB
  constructor
  · rintro ⟨⟨h1, h2⟩, h3, h4⟩
    refine ⟨hp.mem_iff.1 h1, fun y hy => h2 y (hp.mem_iff.2 hy), h3, fun y hy hlt => ?_⟩
    -- the least of that commit
    have key : ∀ n y, y ≤ n → y ∈ zs → ∃ x ∈ ddT sq zs zs.length, sq x = sq y := by
      intro n
      induction n with
      | zero =>
        intro y hn hy
        refine ⟨y, (mem_ddT hs y).2 ⟨hy, fun z _ _ => by omega⟩, rfl⟩
      | succ n ih =>
        intro y hn hy
        by_cases hz : ∃ z ∈ zs, sq z = sq y ∧ z < y
        · obtain ⟨z, hz1, hz2, hz3⟩ := hz
          obtain ⟨x, hx1, hx2⟩ := ih z (by omega) hz1
          exact ⟨x, hx1, hx2.trans hz2⟩
        · refine ⟨y, (mem_ddT hs y).2 ⟨hy, fun z hz1 hz2 => ?_⟩, rfl⟩
          rcases Nat.lt_or_ge z y with h | h
          · exact absurd ⟨z, hz1, hz2, h⟩ hz
          · exact h
    obtain ⟨x, hx1, hx2⟩ := key y y (Nat.le_refl _) (hp.mem_iff.2 hy)
    have := h4 x hx1 (by omega)
    omega
  · rintro ⟨h1, h2, h3, h4⟩
    refine ⟨⟨hp.mem_iff.2 h1, fun y hy => h2 y (hp.mem_iff.1 hy)⟩, h3, fun y hy hlt => h4 y (hp.mem_iff.1 ((mem_ddT hs y).1 hy).1) hlt⟩

theorem owns_same {w w' : World} {base e s : Nat} {v : Value} {n : Nat} {xs : List Value} (h : w.ownsRow base e s v n xs) (hb : ∀ b, base ≤ b → w'.heap[b]? = w.heap[b]?) : w'.ownsRow base e s v n xs := by
  obtain ⟨h1, h2 | ⟨g, cap, cur, hv, hg, hh, r⟩⟩ := h
  · exact ⟨h1, .inl h2⟩
  · exact ⟨h1, .inr ⟨g, cap, cur, hv, hg, (hb g hg).trans hh, r⟩⟩

def LookPost (xs : List Fc) (cs : List Lk) (on : Bool) (at_ : Int) (row : List Nat) (w : World) (e : Ending) (w' : World) : Prop :=
  ∃ (a : Option Addr) (cap : Nat) (ys : List Nat), e = .returned (.slice a ys.length cap) ∧ Ints w' a ys ∧ ys.length ≤ row.length ∧ (∀ i, i ∈ ys ↔ LookB (sqF xs) on at_ (row.filter (seenI xs (uptoM (backs cs cs.length)))) i) ∧ Below w.heap.size w w' ∧ ∀ ad, a = some ad → w.heap.size ≤ ad.block
theorem lookPost_of {xs : List Fc} {cs : List Lk} {on : Bool} {at_ : Int} {row : List Nat} {w wr : World} {D B : Nat} {v : Value} {ys : List Nat} (hO : OwnI B wr v ys) (hl : ys.length ≤ row.length) (hm : ∀ i, i ∈ ys ↔ LookB (sqF xs) on at_ (row.filter (seenI xs (uptoM (backs cs cs.length)))) i) (hb : Below w.heap.size w wr) (hD : D < B) (hwD : w.heap.size ≤ D) (hK : wr.heap[D]? = some (.deferred (some []))) :
    LookPost xs cs on at_ row w (.returned v) (wr.putObj D (.deferred none)) := by
  have hO2 : OwnI B (wr.putObj D (.deferred none)) v ys := owns_same hO (fun b hb => World.putObj_heap_other (fun e => by omega))
  have hB2 := hb.trans (belowK_b (w := w) (Nat.le_refl _) wr D (.deferred (some [])) (.deferred none) (by omega) hK rfl rfl)
  rcases row_of_owns hO2 with ⟨rfl, rfl⟩ | ⟨g, cap, rfl, hg, hR⟩
  · exact ⟨none, 0, [], rfl, Els.nil _ _ _ _, hl, hm, hB2, fun ad h => by cases h⟩
  · exact ⟨some ⟨g, 0, none⟩, cap, ys, rfl, hR.els ic_len, hl, hm, hB2, fun ad h => by cases h; show w.heap.size ≤ g; omega⟩


set_option maxRecDepth 100000 in
set_option maxHeartbeats 4000000 in
theorem look_any (al : Option Addr) (cl : Nat) (xs : List Fc) (ar : Option Addr) (cr : Nat) (row : List Nat) (ac : Option Addr) (cc : Nat) (cs : List Lk) (at_ : Int) (on : Bool) (w : World) (hL : Facts w al xs) (hR : Ints w ar row) (hC : Links w ac cs) (hxl : xs.length < 1000000) (hrl : row.length < 1000000) (hcl : cs.length < 1000000) (hrx : ∀ i ∈ row, i < xs.length) (hA : Asc row) :
    Calls Tryz.prog (31) #[.slice al xs.length cl, .slice ar row.length cr, .agg #[.slice ac cs.length cc, .int .u64 at_, .bool on]] w (LookPost xs cs on at_ row w) := by
  have hmm := @run_makeMap Tryz.prog
  have hac : 0 < cs.length → ∀ ad, ac = some ad → ad.block < w.heap.size := by
    intro h ad had
    obtain ⟨b, o, ha, hlt, _⟩ := hC.get 0 h
    rw [had] at ha
    injection ha with ha
    rw [ha]
    exact hlt
  have HL := Lib.hid hL
  have HR := Lib.hid hR
  have HC := Lib.hid hC
  have HAC := Lib.hid hac
  have HRX := Lib.hid hrx
  have HA := Lib.hid hA
  clear hL hR hC hac hrx hA
  refine (callsIn_wide (n := 3)).1 (callsIn_of_wp_marks Tryz.func31 rfl trivial ?_ rfl)
  simp only [Tryz.ntmps31, List.size_toArray, List.length_cons, List.length_nil, Nat.reduceAdd, Nat.reduceSub, Array.replicate_succ, Array.replicate_zero, List.push_toArray, List.append_toArray, List.nil_append, List.cons_append]
  refine (wpIn_wide (n := 3)).2 ?_
  go_wp2_with fail
  refine (backward_any ac cs.length cc _).mono ?_
  rintro e w' ⟨rfl, rfl⟩
  go_wp2_with fail
  obtain ⟨W0, hW0⟩ : ∃ W0 : World, ((((w.alloc (.cells #[.slice al xs.length cl] (56))).alloc (.cells #[.slice ac cs.length cc, .int .u64 at_, .bool on] (63))).alloc (.map #[] 0)).alloc (.cells #[.map (some (w.heap.size + 1 + 1))] (69))).alloc (.cells #[.slice ac cs.length cc] (59)) = W0 := ⟨_, rfl⟩
  have hsz : W0.heap.size = w.heap.size + 5 := by rw [← hW0]; simp
  have hB0 : Below w.heap.size w W0 := by
    rw [← hW0]
    exact (((((Below.refl _ w).alloc (Nat.le_refl _) _).alloc (by simp) _).alloc (by simp; omega) _).alloc (by simp; omega) _).alloc (by simp; omega) _
  have b0 : W0.heap[w.heap.size]? = some (.cells #[.slice al xs.length cl] (56) (0, 0)) := by
    rw [← hW0]
    exact blk_alloc (blk_alloc (blk_alloc (blk_alloc (blk_new_at rfl _))))
  have b1 : W0.heap[w.heap.size + 1]? = some (.cells #[.slice ac cs.length cc, .int .u64 at_, .bool on] (63) (0, 0)) := by
    rw [← hW0]
    exact blk_alloc (blk_alloc (blk_alloc (blk_new_at (by simp) _)))
  have b2 : MapU W0 (w.heap.size + 1 + 1) [] := by
    have h := MapIs.made (P := Tryz.prog) (k := (52)) (encK := eU) (encV := eU) ((w.alloc (.cells #[.slice al xs.length cl] (56))).alloc (.cells #[.slice ac cs.length cc, .int .u64 at_, .bool on] (63)))
    simp only [World.size_alloc] at h
    refine h.same ?_
    rw [← hW0]
    rw [Below.heap_alloc _ _ _ (by simp), Below.heap_alloc _ _ _ (by simp)]
  have b3 : W0.heap[w.heap.size + 1 + 1 + 1]? = some (.cells #[.map (some (w.heap.size + 1 + 1))] (69) (0, 0)) := by
    rw [← hW0]
    exact blk_alloc (blk_new_at (by simp) _)
  have b4 : W0.heap[w.heap.size + 1 + 1 + 1 + 1]? = some (.cells #[.slice ac cs.length cc] (59) (0, 0)) := by
    rw [← hW0]
    exact blk_new_at (by simp) _
  rw [hW0]
  clear hW0
  refine (wpIn_wide (n := 3)).1 ?_
  refine wpIn_rangeFunc_ownH rfl (by omega) (gf := (76)) (lb := #[.pointer (some ⟨w.heap.size + 1 + 1 + 1 + 1, 0, none⟩)]) rfl trivial (enters_of Tryz.func76 (by kernel_rfl) rfl)
    (backward_stops Fence.wide 2 trivial rfl (by omega) (w.heap.size + 1 + 1 + 1 + 1) W0.heap.size (w.heap.size + 1 + 1) ac cc cs hcl W0 (by omega) (by omega) (Nat.le_refl _) (cell_of_blk b4 0) (HC.out.ext hB0) (fun h0 ad h => by have := HAC.out h0 ad h; omega))
    (fun h k => h.trans k) (kept_b (Nat.le_refl _)) (Below.refl _ _) (fun _ => rfl)
    (fun pre W => ((W.heap[w.heap.size]? = some (.cells #[.slice al xs.length cl] (56) (0, 0)) ∧ W.heap[w.heap.size + 1]? = some (.cells #[.slice ac cs.length cc, .int .u64 at_, .bool on] (63) (0, 0))) ∧ (W.heap[w.heap.size + 1 + 1 + 1]? = some (.cells #[.map (some (w.heap.size + 1 + 1))] (69) (0, 0)) ∧ MapU W (w.heap.size + 1 + 1) (uptoM pre))) ∧ (Below w.heap.size w W ∧ W0.heap.size ≤ W.heap.size))
    (fun _ _ _ => False)
    (OwnFrom.and (OwnFrom.and (OwnFrom.and (blk_ownFrom _ _ (fun _ => #[.slice al xs.length cl]) (56)) (blk_ownFrom _ _ (fun _ => #[.slice ac cs.length cc, .int .u64 at_, .bool on]) (63))) (OwnFrom.and (blk_ownFrom _ _ (fun _ => #[.map (some (w.heap.size + 1 + 1))]) (69)) (map_ownFrom _ _ (by omega) _))) (OwnFrom.and (ownFrom_below (Nat.le_refl _) (by omega)) (size_ownFrom _ _)))
    (fun _ _ _ _ _ hs _ _ => hs)
    ⟨⟨⟨b0, b1⟩, b3, b2⟩, hB0, Nat.le_refl _⟩
    (fun x a' W => ∃ Bx, W0.heap.size ≤ Bx ∧ W.heap[Bx]? = some (.cells #[.int .u64 x.2.line, .int .u64 x.2.upto] (58) (0, 0)) ∧ a' = { tmps := #[.slice al xs.length cl, .slice ar row.length cr, .agg #[.slice ac cs.length cc, .int .u64 at_, .bool on], .pointer (some ⟨w.heap.size, 0, none⟩), undef, .pointer (some ⟨w.heap.size + 1, 0, none⟩), .slice none 0 0, .pointer (some ⟨w.heap.size + 1 + 1 + 1, 0, none⟩), undef, .pointer (some ⟨Bx, 0, none⟩), undef, undef, undef, undef, undef, undef, undef, undef, undef, .map (some (w.heap.size + 1 + 1)), .pointer (some ⟨w.heap.size + 1, 0, none⟩), .slice ac cs.length cc, .func (.func (76)) #[] #[.pointer (some ⟨w.heap.size + 1 + 1 + 1 + 1, 0, none⟩)], .int .i64 x.1, lv x.2, undef, undef, undef, undef, undef, undef, undef, undef, undef, undef, undef, undef, undef, undef, undef, undef, undef, undef, undef, undef, undef, undef, undef, undef, undef, undef, undef, undef, undef, undef, undef, undef, undef, undef, undef, undef, undef, undef, undef, undef, undef, undef, undef, undef, undef, undef, undef, undef, undef, undef, undef, undef, undef, undef, undef, undef, undef, undef, undef, undef, undef, undef, undef, undef, undef, undef, undef, undef, undef, undef, undef, undef, undef, undef, undef, undef, undef, undef, undef, undef, undef, undef, undef, undef], defers := [] })
    (fun x a' _ X Y row hs hg hr => by obtain ⟨Bx, h1, h2, h3⟩ := hs; exact ⟨Bx, h1, blk_ownFrom W0.heap.size Bx (fun (_ : Unit) => #[.int .u64 x.2.line, .int .u64 x.2.upto]) (58) () X Y row h2 hg hr, h3⟩)
    ?assign ?body ?done ?stop
  case assign =>
    rintro l pre x W K ⟨⟨⟨i0, i1⟩, i3, i2⟩, hBi, hWs⟩ hK
    gi_wp2
    exact hK _ _ ((KeepsOthers.alloc _ _).from _) (Kept.below ((Below.refl _ W).alloc hWs _)) ⟨⟨⟨blk_alloc i0, blk_alloc i1⟩, blk_alloc i3, i2.same (Below.heap_alloc _ _ _ i2.lt)⟩, hBi.alloc hBi.size _, by simp; omega⟩ ⟨W.heap.size, hWs, blk_new_at rfl _, rfl⟩
  case body =>
    rintro l pre x a' W hl ⟨r, hr⟩ ⟨⟨⟨i0, i1⟩, i3, i2⟩, hBi, hWs⟩ ⟨Bx, hBx, bX, rfl⟩ hlt
    obtain ⟨w1, hrun, hM1, hg1, hs1⟩ := i2.store law25 eU_inj Tryz.underlying69 (by have := uptoM_len pre; unfold maxLen; omega) x.2.upto (Maps.keyOf_int_mk Tryz.underlying52 x.2.wl)
    have c3 := cell_of_blk i3 0
    have cx0 := cell_of_blk bX 0
    have cx1 := cell_of_blk bX 1
    simp at c3 cx0 cx1
    have HM1 := Lib.hid hM1
    have HG1 := Lib.hid hg1
    clear hM1 hg1 hs1
    gi_wp2
    have hg1 := HG1.out
    have keep : ∀ b, b < W.heap.size → b ≠ w.heap.size + 1 + 1 → w1.heap[b]? = W.heap[b]? := fun b h1 h2 => hg1.block b h1 (fun e => h2 (by cases e; rfl))
    refine ⟨KeepsFrom.of_grownBy hg1 (fun j e => by cases e; omega), Kept.grown hg1 hWs, ⟨⟨⟨(keep _ (lt_of_blk i0) (by omega)).trans i0, (keep _ (lt_of_blk i1) (by omega)).trans i1⟩, (keep _ (lt_of_blk i3) (by omega)).trans i3, ?_⟩, hBi.grown hg1 hBi.size (fun k e => by cases e; omega), Nat.le_trans hWs hg1.size⟩⟩
    rw [uptoM_snoc]
    exact HM1.out
  case stop =>
    rintro D c pre W _ _ h _
    exact h.elim
  case done =>
    rintro D ys W hD rfl ⟨⟨⟨i0, i1⟩, i3, i2⟩, hBi, hWs⟩ hK
    go_wp2_with fail
    obtain ⟨mm, hmmd⟩ : ∃ mm, mm = uptoM (backs cs cs.length) := ⟨_, rfl⟩
    rw [← hmmd] at i2
    have hWw := hBi.size
    have hDW := lt_of_blk hK
    have HI0 := Lib.hid i0
    have HI1 := Lib.hid i1
    have HI2 := Lib.hid i2
    have HI3 := Lib.hid i3
    have HBI := Lib.hid hBi
    have HK := Lib.hid hK
    have HMD := Lib.hid hmmd
    have HLW := Lib.hid (HL.out.ext hBi)
    have HRW := Lib.hid (HR.out.ext hBi)
    clear i0 i1 i2 i3 hBi hK hmmd hB0 b0 b1 b2 b3 b4 hmm
    go_loopg [10, 32] row.length (fun gk ov iv wr => ∃ k : Nat, k + gk = row.length ∧ iv = .int .i64 k ∧ OwnI W.heap.size wr ov ((row.take k).filter (seenI xs mm)) ∧ ((row.take k).filter (seenI xs mm) = [] → ov = .slice none 0 0) ∧ Below W.heap.size W wr)
    case atStart => exact ⟨0, by omega, rfl, World.ownsRow_nil _ _ _ _, fun _ => rfl, Below.refl _ _⟩
    case round =>
      obtain ⟨k, hk, rfl, hown, hnil, hBk⟩ := hrel
      have HNIL := Lib.hid hnil
      clear hnil
      have HBK := Lib.hid hBk
      have HOWN := Lib.hid hown
      have hsk := hBk.size
      clear hBk hown
      by_cases hlt : k < row.length
      · obtain ⟨br, ro, rfl, hlbr, hcr⟩ := HRW.out.get k hlt
        have hix := HRX.out row[k] (List.getElem_mem hlt)
        have hsn := filter_succN (seenI xs mm) row k hlt
        have hfl : ((row.take k).filter (seenI xs mm)).length ≤ k := Nat.le_trans (List.length_filter_le _ _) (List.length_take_le _ _)
        obtain ⟨i, hi⟩ : ∃ i, i = row[k] := ⟨_, rfl⟩
        rw [← hi] at hsn hix hcr
        obtain ⟨b, o, rfl, hlb, hcell⟩ := HLW.out.get i hix
        have hsi : seenI xs mm i = (match getL mm xs[i].line with | some u => decide (xs[i].seq ≤ u) | none => false) := by unfold seenI; rw [List.getElem?_eq_getElem hix]
        have hr0 := (HBK.out.cell (p := ⟨br, _, none⟩) hlbr).trans (hcr 0 _ rfl)
        have e2 := (HBK.out.cell (p := ⟨b, _, none⟩) hlb).trans (hcell 2 _ rfl)
        have e3 := (HBK.out.cell (p := ⟨b, _, none⟩) hlb).trans (hcell 3 _ rfl)
        simp only [Nat.add_zero, Nat.mul_one] at hr0
        have hwl := xs[i].wl
        generalize xs[i] = x at *
        have t0 := cell_of_blk (blk_below HI0.out HBK.out (by omega)) 0
        have u0 := cell_of_blk (blk_below HI3.out HBK.out (by omega)) 0
        simp at t0 u0
        have hM : MapU wr (w.heap.size + 1 + 1) mm := HI2.out.same (HBK.out.block _ HI2.out.lt)
        have hlook : ∀ n, _ := fun n => ((show MapU (wr.drewN n) (w.heap.size + 1 + 1) mm from hM.same rfl).look law25 eU_inj Tryz.underlying69 (zero25 _) (Maps.keyOf_int_mk Tryz.underlying52 hwl)).2
        have hi0 : (0 : Int) ≤ (i : Int) := by omega
        have hi1 : (i : Int) < (xs.length : Int) := by omega
        have hk0 : (0 : Int) ≤ (k : Int) := by omega
        have hk1 : (k : Int) < (row.length : Int) := by omega
        have HSN := Lib.hid hsn
        have HSI := Lib.hid hsi
        have HFL := Lib.hid hfl
        clear hcr hcell hsn hsi hM hi hfl
        have hskip : seenI xs mm i = false → (row.take (k + 1)).filter (seenI xs mm) = (row.take k).filter (seenI xs mm) := fun h => by rw [HSN.out, h]; simp
        have htake : seenI xs mm i = true → (row.take (k + 1)).filter (seenI xs mm) = (row.take k).filter (seenI xs mm) ++ [i] := fun h => by rw [HSN.out, h]; simp
        have HSK := Lib.hid hskip
        have HTK := Lib.hid htake
        clear hskip htake HSN
        cases hg : getL mm x.line with
        | none =>
          simp only [hg] at hlook
          have HF := Lib.hid (HSK.out (by rw [HSI.out, hg]))
          clear hg HSI HSK HTK
          go_wp2_with fail
          go_quiet (fail)
          go_wp2
          go_roundg (gk - 1)
          case measure => omega
          case rel => exact ⟨k + 1, by omega, by go_num, by rw [HF.out]; exact ownsRow_below HOWN.out (below_drewN (Below.refl _ _) _) (Nat.le_refl _), fun h => HNIL.out (HF.out.symm.trans h), below_drewN HBK.out _⟩
        | some u =>
          simp only [hg] at hlook
          by_cases hs : x.seq ≤ u
          · have hd : decide (x.seq ≤ u) = true := decide_eq_true hs
            have HF := Lib.hid (HTK.out (by rw [HSI.out, hg]; exact hd))
            clear hg HSI HSK HTK hs
            go_wp2_with fail
            go_quiet (fail)
            have HBQ := Lib.hid (below_drewN HBK.out nq)
            have HOQ := Lib.hid (show OwnI W.heap.size (wr.drewN nq) _ ((row.take k).filter (seenI xs mm)) from ownsRow_below HOWN.out (below_drewN (Below.refl _ _) nq) (Nat.le_refl _))
            have e2q : (wr.drewN nq).cell? ⟨b, o + i * 6 + 2, none⟩ = some (.int .u64 x.seq) := e2
            have t0q : (wr.drewN nq).cell? ⟨w.heap.size, 0, none⟩ = some (.slice (some ⟨b, o, none⟩) xs.length cl) := t0
            have hsq : W.heap.size ≤ (wr.drewN nq).heap.size := hsk
            clear hlook e2 e3 t0 u0 hr0 hk0 hk1
            generalize wr.drewN nq = wq at *
            obtain ⟨v', w3, hrun, hO, hgr⟩ := run_append_int (wq.alloc (.cells #[.int .i64 i] (3))) W.heap.size _ _ wq.heap.size i (ownsRow_below HOQ.out ((Below.refl _ _).alloc (Nat.le_refl _) _) (Nat.le_refl _)) (blk_new_at rfl _) (by have := HFL.out; omega) (by simp; omega) (90)
            have HO := Lib.hid hO
            have HB3 := Lib.hid (Below.appended (HBQ.out.alloc hsq _) (ownsRow_below HOQ.out ((Below.refl _ _).alloc (Nat.le_refl _) _) (Nat.le_refl _)) (Nat.le_refl _) (by simp; omega) hgr)
            have HRUN := Lib.hid hrun
            clear hO hgr hrun
            go_wp2_with (at_builtin; refine Lib.wpList_append_run _ rfl _ _ _ _ rfl _ _ rfl rfl _ _ (HRUN.out) ?_)
            go_roundg (gk - 1)
            case measure => omega
            case rel => exact ⟨k + 1, by omega, by go_num, by rw [HF.out]; exact HO.out, fun h => by rw [HF.out] at h; simp at h, HB3.out⟩
          · have hd : decide (x.seq ≤ u) = false := decide_eq_false hs
            have HF := Lib.hid (HSK.out (by rw [HSI.out, hg]; exact hd))
            clear hg HSI HSK HTK hs
            go_wp2_with fail
            go_quiet (fail)
            have HBQ := Lib.hid (below_drewN HBK.out nq)
            have HOQ := Lib.hid (show OwnI W.heap.size (wr.drewN nq) _ ((row.take k).filter (seenI xs mm)) from ownsRow_below HOWN.out (below_drewN (Below.refl _ _) nq) (Nat.le_refl _))
            have e2q : (wr.drewN nq).cell? ⟨b, o + i * 6 + 2, none⟩ = some (.int .u64 x.seq) := e2
            have t0q : (wr.drewN nq).cell? ⟨w.heap.size, 0, none⟩ = some (.slice (some ⟨b, o, none⟩) xs.length cl) := t0
            have hsq : W.heap.size ≤ (wr.drewN nq).heap.size := hsk
            clear hlook e2 e3 t0 u0 hr0 hk0 hk1
            generalize wr.drewN nq = wq at *
            go_wp2
            go_roundg (gk - 1)
            case measure => omega
            case rel => exact ⟨k + 1, by omega, by go_num, by rw [HF.out]; exact HOQ.out, fun h => HNIL.out (HF.out.symm.trans h), HBQ.out⟩
      · have hke : k = row.length := by omega
        subst hke
        rw [List.take_length] at HOWN HNIL
        clear hlt hk
        obtain ⟨wo, rfl⟩ : ∃ wo : World, wo = wr := ⟨_, rfl⟩
        obtain ⟨mine, hmine⟩ : ∃ mine, mine = row.filter (seenI xs mm) := ⟨_, rfl⟩
        have hml : mine.length < 1000000 := by
          have := List.length_filter_le (seenI xs mm) row
          rw [← hmine] at this
          omega
        have hmx : ∀ i ∈ mine, i < xs.length := fun i hi => HRX.out i (List.mem_filter.1 (hmine ▸ hi)).1
        have hma : Asc mine := by rw [hmine]; exact List.Pairwise.filter _ HA.out
        have hown := HOWN.out
        have hnil := HNIL.out
        rw [← hmine] at hown hnil
        have HMX := Lib.hid hmx
        have HMA := Lib.hid hma
        have HMN := Lib.hid hmine
        clear HOWN HNIL hmx hma hmine
        by_cases hm0 : mine = []
        · have hv := hnil hm0
          subst hm0
          subst hv
          have hmem : ∀ i, i ∈ ([] : List Nat) ↔ LookB (sqF xs) on at_ (row.filter (seenI xs (uptoM (backs cs cs.length)))) i := by
            intro i
            rw [← HMD.out, ← HMN.out]
            exact ⟨fun h => by simp at h, fun h => h.1⟩
          have HMEM := Lib.hid hmem
          clear hnil hown hmem hml HMX HMA HMN
          go_wp2_with fail
          refine (sortStable_none w.heap.size wo).mono ?_
          rintro e w1 ⟨rfl, rfl⟩
          go_wp2_with fail
          refine (compact_none w.heap.size wo).mono ?_
          rintro e w1 ⟨rfl, rfl⟩
          have hb1 := blk_below HI1.out HBK.out (by omega)
          have t0 := cell_of_blk hb1 0
          have t1 := cell_of_blk hb1 1
          have t2 := cell_of_blk hb1 2
          simp at t0 t1 t2
          have hl2 : w.heap.size + 1 < wo.heap.size := by omega
          clear hb1
          go_wp2_with fail
          clear t0 t1 t2
          refine (watching_any _ at_ on wo).mono ?_
          rintro e w3 ⟨rfl, hB3⟩
          have hB3' := HBK.out.trans (hB3.mono hsk)
          have HPO := Lib.hid (lookPost_of (xs := xs) (cs := cs) (on := on) (at_ := at_) (row := row) (w := w) (wr := w3) (D := D) (B := w3.heap.size) (v := .slice none 0 0) (ys := []) (World.ownsRow_nil _ _ _ _) (Nat.zero_le _) HMEM.out (HBI.out.trans (hB3'.mono hWw)) (by have := hB3'.size; omega) (by omega) (blk_below HK.out hB3' hDW))
          have HKK := Lib.hid (blk_below HK.out hB3' hDW)
          clear hB3 hB3'
          go_wp2_with fail
          go_loopg [6, 71] 0 (fun gk ov iv wr => ov = .slice none 0 0 ∧ iv = .int .i64 0 ∧ wr = w3)
          case atStart => exact ⟨rfl, rfl, rfl⟩
          case round =>
            obtain ⟨rfl, rfl, rfl⟩ := hrel
            go_wp2_with fail
            refine ⟨by simp, .inl ⟨_, _, rfl, run_takeDeferred HKK.out, ?_⟩⟩
            refine ⟨_, results_tmp rfl _ _ _, ?_⟩
            exact HPO.out
        · clear hnil
          have hml0 : 0 < mine.length := List.length_pos_iff.2 hm0
          have hx0 : 0 < xs.length := by
            obtain ⟨i, hi⟩ := List.exists_mem_of_length_pos hml0
            have := HMX.out i hi
            omega
          rcases row_of_owns hown with ⟨_, h0⟩ | ⟨g, cap, rfl, hgB, hrow⟩
          · exact absurd h0 hm0
          · obtain ⟨bx, ox, rfl, hlbx, -⟩ := HLW.out.get 0 hx0
            have hgl := hrow.lt
            have HROW := Lib.hid hrow
            have hE : CEnv g wo w.heap.size (some ⟨bx, ox, none⟩) cl xs := ⟨blk_below HI0.out HBK.out (by omega), by omega, HLW.out.ext HBK.out, fun ad h => by cases h; show bx ≠ g; omega⟩
            have HE := Lib.hid hE
            clear hown hrow hm0 hE
            go_wp2_with fail
            refine (sortStable_any g cap w.heap.size cl (some ⟨bx, ox, none⟩) xs mine wo HROW.out HE.out hml HMX.out HMA.out).mono ?_
            rintro e w1 ⟨rfl, zs, hp1, hs1, hR1, hg1⟩
            have hz1 : zs.length = mine.length := hp1.length_eq
            have HE1 := Lib.hid (HE.out.grown hg1)
            have HP1 := Lib.hid hp1
            have HS1 := Lib.hid hs1
            have HR1 := Lib.hid hR1
            have HG1 := Lib.hid hg1
            clear hp1 hs1 hR1 hg1 HE
            go_wp2_with fail
            refine (compact_any g cap w.heap.size cl (some ⟨bx, ox, none⟩) xs zs mine.length hz1 w1 HR1.out HE1.out hml (fun i hi => HMX.out i (HP1.out.mem_iff.1 hi))).mono ?_
            rintro e w2 ⟨rfl, hR2, hg2⟩
            obtain ⟨ds, hds⟩ : ∃ ds, ds = ddT (sqF xs) zs zs.length := ⟨_, rfl⟩
            rw [← hds] at hR2
            rw [← hds]
            have hg12 := grown_trans HG1.out hg2
            have HE2 := Lib.hid (HE1.out.grown hg2)
            have hB2 : Below W.heap.size W w2 := HBK.out.grown hg12 HBK.out.size (fun k e => by cases e; exact hgB)
            have hb1 := blk_below HI1.out hB2 (by omega)
            have t0 := cell_of_blk hb1 0
            have t1 := cell_of_blk hb1 1
            have t2 := cell_of_blk hb1 2
            simp at t0 t1 t2
            have hs2 := hB2.size
            have hl2 : w.heap.size + 1 < w2.heap.size := by omega
            have HDS := Lib.hid hds
            have HR2 := Lib.hid hR2
            have HB2 := Lib.hid hB2
            clear hR2 hg2 hg12 hds hB2 hb1 HR1 HG1 HE1 HROW
            go_wp2_with fail
            clear t0 t1 t2
            refine (watching_any _ at_ on w2).mono ?_
            rintro e w3 ⟨rfl, hB3⟩
            have HR3 := Lib.hid (HR2.out.below hB3)
            have HE3 := Lib.hid (HE2.out.grown (grown_of_below hB3))
            have HB3 := Lib.hid (HB2.out.trans (hB3.mono hs2))
            have hg3 : g < w3.heap.size := HR3.out.lt
            have hdl : ds.length < 1000000 := by
              have h1 := ddT_len (sqF xs) zs zs.length
              rw [← HDS.out] at h1
              omega
            have hdm : ∀ i ∈ ds, i < xs.length := fun i hi => by
              rw [HDS.out, mem_ddT HS1.out] at hi
              exact HMX.out i (HP1.out.mem_iff.1 hi.1)
            have HDM := Lib.hid hdm
            clear hB3 HR2 HE2 HB2 hs2 hl2 hdm
            go_wp2_with fail
            go_loopg [6, 71] ds.length (fun gk ov iv wr => ∃ k : Nat, k + gk = ds.length ∧ iv = .int .i64 k ∧ OwnI w3.heap.size wr ov (outT (sqF xs) on at_ ds k) ∧ Below w3.heap.size w3 wr)
            case atStart => exact ⟨0, by omega, rfl, World.ownsRow_nil _ _ _ _, Below.refl _ _⟩
            case round =>
              obtain ⟨k, hk, rfl, hown, hBk⟩ := hrel
              have HBR := Lib.hid hBk
              have HOWN := Lib.hid hown
              have hsr := hBk.size
              clear hBk hown
              by_cases hlt : k < ds.length
              · obtain ⟨i, hi⟩ := at_some (xs := ds) k hlt
                have hix := HDM.out i (mem_some hi)
                have HRR := Lib.hid (HR3.out.same (HBR.out.block _ hg3))
                have HER := Lib.hid (HE3.out.grown (grown_of_below HBR.out))
                have c0 := irow_cell HRR.out k i hi
                have t0 := cell_of_blk HER.out.box 0
                simp at t0
                obtain ⟨b', o', hal', hlb, hcell⟩ := HER.out.els.get i hix
                cases hal'
                have e2 := hcell 2 _ rfl
                have hsq : sqF xs i = xs[i].seq := sqF_at xs i hix
                have HI := Lib.hid hi
                rw [← hsq] at e2
                have hlbw := HER.out.box
                have hlw := lt_of_blk hlbw
                clear hcell hsq hi hlbw
                have hi0 : (0 : Int) ≤ (i : Int) := by omega
                have hi1 : (i : Int) < (xs.length : Int) := by omega
                have hk0 : (0 : Int) ≤ (k : Int) := by omega
                have hk1 : (k : Int) < (ds.length : Int) := by omega
                have hw1 : IntKind.i64.wrap ((ds.length : Int) - 1) = (ds.length : Int) - 1 := IntWalk.i64_in _ (by omega)
                have hw2 : IntKind.i64.wrap ((k : Int) + 1) = (k : Int) + 1 := IntWalk.i64_in _ (by omega)
                have hgr : g < wr.heap.size := by omega
                cases on
                · unfold whoV
                  simp only [Bool.false_eq_true, if_false]
                  by_cases hlast : k + 1 = ds.length
                  · have hq1 : ((k : Int) == (ds.length : Int) - 1) = true := beq_iff_eq.2 (by omega)
                    have hsee : seeAt (sqF xs) false at_ ds k = seesB false at_ (sqF xs i) 0 true := by unfold seeAt; rw [getD_of HI.out, if_pos hlast, decide_eq_true hlast]
                    have HSEE := Lib.hid hsee
                    clear hlast hw2 hsee
                    go_wp2_with fail
                    refine (stillSees_any at_ _ 0 true _).mono ?_
                    rintro e u ⟨rfl, hbu⟩
                    have hbu2 : Below wr.heap.size wr u := Below.trans (by go_grown) (hbu.mono (by simp))
                    have HBU := Lib.hid (HBR.out.trans (hbu2.mono hsr))
                    have HOU := Lib.hid (show OwnI w3.heap.size u _ (outT (sqF xs) _ at_ ds k) from ownsRow_below HOWN.out hbu2 (Nat.le_refl _))
                    have hsu : w3.heap.size ≤ u.heap.size := HBU.out.size
                    have hol := outT_len (sqF xs) false at_ ds k
                    have hsn := outT_succ (sqF xs) false at_ ds k
                    rw [HSEE.out, getD_of HI.out] at hsn
                    clear hbu hbu2 c0 t0 e2 hq1 hw1
                    generalize seesB false at_ (sqF xs i) 0 true = r at *
                    cases r with
                    | false =>
                      have HSN := Lib.hid hsn
                      clear hsn hol
                      go_wp2
                      go_roundg (gk - 1)
                      case measure => omega
                      case rel => exact ⟨k + 1, by omega, by go_num, by rw [HSN.out]; simpa using HOU.out, HBU.out⟩
                    | true =>
                      have HSN := Lib.hid hsn
                      obtain ⟨v', w4, hrun, hO, hgw⟩ := run_append_int (u.alloc (.cells #[.int .i64 i] (3))) w3.heap.size _ _ u.heap.size i (ownsRow_below HOU.out ((Below.refl _ _).alloc (Nat.le_refl _) _) (Nat.le_refl _)) (blk_new_at rfl _) (by omega) (by simp; omega) (90)
                      have HO := Lib.hid hO
                      have HB4 := Lib.hid (Below.appended (HBU.out.alloc hsu _) (ownsRow_below HOU.out ((Below.refl _ _).alloc (Nat.le_refl _) _) (Nat.le_refl _)) (Nat.le_refl _) (by simp; omega) hgw)
                      have HRUN := Lib.hid hrun
                      clear hO hgw hrun hsn hol
                      go_wp2_with (at_builtin; refine Lib.wpList_append_run _ rfl _ _ _ _ rfl _ _ rfl rfl _ _ (HRUN.out) ?_)
                      go_roundg (gk - 1)
                      case measure => omega
                      case rel => exact ⟨k + 1, by omega, by go_num, by rw [HSN.out]; simpa using HO.out, HB4.out⟩
                  · have hq1 : ((k : Int) == (ds.length : Int) - 1) = false := beq_eq_false_iff_ne.2 (by omega)
                    obtain ⟨j, hj⟩ := at_some (xs := ds) (k + 1) (by omega)
                    have hjx := HDM.out j (mem_some hj)
                    have c1 := irow_cell HRR.out (k + 1) j hj
                    obtain ⟨b2, o2, hal2, hlb2, hcell2⟩ := HER.out.els.get j hjx
                    cases hal2
                    have f2 := hcell2 2 _ rfl
                    have hsq2 : sqF xs j = xs[j].seq := sqF_at xs j hjx
                    rw [← hsq2] at f2
                    have hsee : seeAt (sqF xs) false at_ ds k = seesB false at_ (sqF xs i) (sqF xs j) false := by unfold seeAt; rw [getD_of HI.out, if_neg hlast, getD_of hj, decide_eq_false hlast]
                    have HSEE := Lib.hid hsee
                    have hj0 : (0 : Int) ≤ (j : Int) := by omega
                    have hj1 : (j : Int) < (xs.length : Int) := by omega
                    have hk2 : (k : Int) + 1 < (ds.length : Int) := by omega
                    have hk3 : (0 : Int) ≤ (k : Int) + 1 := by omega
                    have hk4 : ((k : Int) + 1).toNat = k + 1 := by omega
                    clear hsee hcell2 hsq2 hj hlast
                    go_wp2_with fail
                    go_region
                    clear hk2 hk3 hk4 hw1 hw2
                    go_wp2_with fail
                    refine (stillSees_any at_ _ _ false _).mono ?_
                    rintro e u ⟨rfl, hbu⟩
                    have hbu2 : Below wr.heap.size wr u := Below.trans (by go_grown) (hbu.mono (by simp))
                    have HBU := Lib.hid (HBR.out.trans (hbu2.mono hsr))
                    have HOU := Lib.hid (show OwnI w3.heap.size u _ (outT (sqF xs) _ at_ ds k) from ownsRow_below HOWN.out hbu2 (Nat.le_refl _))
                    have hsu : w3.heap.size ≤ u.heap.size := HBU.out.size
                    have hol := outT_len (sqF xs) false at_ ds k
                    have hsn := outT_succ (sqF xs) false at_ ds k
                    rw [HSEE.out, getD_of HI.out] at hsn
                    clear hbu hbu2 c0 t0 e2 hq1 c1 f2
                    generalize seesB false at_ (sqF xs i) (sqF xs j) false = r at *
                    cases r with
                    | false =>
                      have HSN := Lib.hid hsn
                      clear hsn hol
                      go_wp2
                      go_roundg (gk - 1)
                      case measure => omega
                      case rel => exact ⟨k + 1, by omega, by go_num, by rw [HSN.out]; simpa using HOU.out, HBU.out⟩
                    | true =>
                      have HSN := Lib.hid hsn
                      obtain ⟨v', w4, hrun, hO, hgw⟩ := run_append_int (u.alloc (.cells #[.int .i64 i] (3))) w3.heap.size _ _ u.heap.size i (ownsRow_below HOU.out ((Below.refl _ _).alloc (Nat.le_refl _) _) (Nat.le_refl _)) (blk_new_at rfl _) (by omega) (by simp; omega) (90)
                      have HO := Lib.hid hO
                      have HB4 := Lib.hid (Below.appended (HBU.out.alloc hsu _) (ownsRow_below HOU.out ((Below.refl _ _).alloc (Nat.le_refl _) _) (Nat.le_refl _)) (Nat.le_refl _) (by simp; omega) hgw)
                      have HRUN := Lib.hid hrun
                      clear hO hgw hrun hsn hol
                      go_wp2_with (at_builtin; refine Lib.wpList_append_run _ rfl _ _ _ _ rfl _ _ rfl rfl _ _ (HRUN.out) ?_)
                      go_roundg (gk - 1)
                      case measure => omega
                      case rel => exact ⟨k + 1, by omega, by go_num, by rw [HSN.out]; simpa using HO.out, HB4.out⟩
                · unfold whoV
                  simp only [if_true]
                  by_cases hlast : k + 1 = ds.length
                  · have hq1 : ((k : Int) == (ds.length : Int) - 1) = true := beq_iff_eq.2 (by omega)
                    have hsee : seeAt (sqF xs) true at_ ds k = seesB true at_ (sqF xs i) 0 true := by unfold seeAt; rw [getD_of HI.out, if_pos hlast, decide_eq_true hlast]
                    have HSEE := Lib.hid hsee
                    clear hlast hw2 hsee
                    go_wp2_with fail
                    refine (goingSees_any at_ _ 0 true _).mono ?_
                    rintro e u ⟨rfl, hbu⟩
                    have hbu2 : Below wr.heap.size wr u := Below.trans (by go_grown) (hbu.mono (by simp))
                    have HBU := Lib.hid (HBR.out.trans (hbu2.mono hsr))
                    have HOU := Lib.hid (show OwnI w3.heap.size u _ (outT (sqF xs) _ at_ ds k) from ownsRow_below HOWN.out hbu2 (Nat.le_refl _))
                    have hsu : w3.heap.size ≤ u.heap.size := HBU.out.size
                    have hol := outT_len (sqF xs) true at_ ds k
                    have hsn := outT_succ (sqF xs) true at_ ds k
                    rw [HSEE.out, getD_of HI.out] at hsn
                    clear hbu hbu2 c0 t0 e2 hq1 hw1
                    generalize seesB true at_ (sqF xs i) 0 true = r at *
                    cases r with
                    | false =>
                      have HSN := Lib.hid hsn
                      clear hsn hol
                      go_wp2
                      go_roundg (gk - 1)
                      case measure => omega
                      case rel => exact ⟨k + 1, by omega, by go_num, by rw [HSN.out]; simpa using HOU.out, HBU.out⟩
                    | true =>
                      have HSN := Lib.hid hsn
                      obtain ⟨v', w4, hrun, hO, hgw⟩ := run_append_int (u.alloc (.cells #[.int .i64 i] (3))) w3.heap.size _ _ u.heap.size i (ownsRow_below HOU.out ((Below.refl _ _).alloc (Nat.le_refl _) _) (Nat.le_refl _)) (blk_new_at rfl _) (by omega) (by simp; omega) (90)
                      have HO := Lib.hid hO
                      have HB4 := Lib.hid (Below.appended (HBU.out.alloc hsu _) (ownsRow_below HOU.out ((Below.refl _ _).alloc (Nat.le_refl _) _) (Nat.le_refl _)) (Nat.le_refl _) (by simp; omega) hgw)
                      have HRUN := Lib.hid hrun
                      clear hO hgw hrun hsn hol
                      go_wp2_with (at_builtin; refine Lib.wpList_append_run _ rfl _ _ _ _ rfl _ _ rfl rfl _ _ (HRUN.out) ?_)
                      go_roundg (gk - 1)
                      case measure => omega
                      case rel => exact ⟨k + 1, by omega, by go_num, by rw [HSN.out]; simpa using HO.out, HB4.out⟩
                  · have hq1 : ((k : Int) == (ds.length : Int) - 1) = false := beq_eq_false_iff_ne.2 (by omega)
                    obtain ⟨j, hj⟩ := at_some (xs := ds) (k + 1) (by omega)
                    have hjx := HDM.out j (mem_some hj)
                    have c1 := irow_cell HRR.out (k + 1) j hj
                    obtain ⟨b2, o2, hal2, hlb2, hcell2⟩ := HER.out.els.get j hjx
                    cases hal2
                    have f2 := hcell2 2 _ rfl
                    have hsq2 : sqF xs j = xs[j].seq := sqF_at xs j hjx
                    rw [← hsq2] at f2
                    have hsee : seeAt (sqF xs) true at_ ds k = seesB true at_ (sqF xs i) (sqF xs j) false := by unfold seeAt; rw [getD_of HI.out, if_neg hlast, getD_of hj, decide_eq_false hlast]
                    have HSEE := Lib.hid hsee
                    have hj0 : (0 : Int) ≤ (j : Int) := by omega
                    have hj1 : (j : Int) < (xs.length : Int) := by omega
                    have hk2 : (k : Int) + 1 < (ds.length : Int) := by omega
                    have hk3 : (0 : Int) ≤ (k : Int) + 1 := by omega
                    have hk4 : ((k : Int) + 1).toNat = k + 1 := by omega
                    clear hsee hcell2 hsq2 hj hlast
                    go_wp2_with fail
                    go_region
                    clear hk2 hk3 hk4 hw1 hw2
                    go_wp2_with fail
                    refine (goingSees_any at_ _ _ false _).mono ?_
                    rintro e u ⟨rfl, hbu⟩
                    have hbu2 : Below wr.heap.size wr u := Below.trans (by go_grown) (hbu.mono (by simp))
                    have HBU := Lib.hid (HBR.out.trans (hbu2.mono hsr))
                    have HOU := Lib.hid (show OwnI w3.heap.size u _ (outT (sqF xs) _ at_ ds k) from ownsRow_below HOWN.out hbu2 (Nat.le_refl _))
                    have hsu : w3.heap.size ≤ u.heap.size := HBU.out.size
                    have hol := outT_len (sqF xs) true at_ ds k
                    have hsn := outT_succ (sqF xs) true at_ ds k
                    rw [HSEE.out, getD_of HI.out] at hsn
                    clear hbu hbu2 c0 t0 e2 hq1 c1 f2
                    generalize seesB true at_ (sqF xs i) (sqF xs j) false = r at *
                    cases r with
                    | false =>
                      have HSN := Lib.hid hsn
                      clear hsn hol
                      go_wp2
                      go_roundg (gk - 1)
                      case measure => omega
                      case rel => exact ⟨k + 1, by omega, by go_num, by rw [HSN.out]; simpa using HOU.out, HBU.out⟩
                    | true =>
                      have HSN := Lib.hid hsn
                      obtain ⟨v', w4, hrun, hO, hgw⟩ := run_append_int (u.alloc (.cells #[.int .i64 i] (3))) w3.heap.size _ _ u.heap.size i (ownsRow_below HOU.out ((Below.refl _ _).alloc (Nat.le_refl _) _) (Nat.le_refl _)) (blk_new_at rfl _) (by omega) (by simp; omega) (90)
                      have HO := Lib.hid hO
                      have HB4 := Lib.hid (Below.appended (HBU.out.alloc hsu _) (ownsRow_below HOU.out ((Below.refl _ _).alloc (Nat.le_refl _) _) (Nat.le_refl _)) (Nat.le_refl _) (by simp; omega) hgw)
                      have HRUN := Lib.hid hrun
                      clear hO hgw hrun hsn hol
                      go_wp2_with (at_builtin; refine Lib.wpList_append_run _ rfl _ _ _ _ rfl _ _ rfl rfl _ _ (HRUN.out) ?_)
                      go_roundg (gk - 1)
                      case measure => omega
                      case rel => exact ⟨k + 1, by omega, by go_num, by rw [HSN.out]; simpa using HO.out, HB4.out⟩
              · have hke : k = ds.length := by omega
                subst hke
                have hrl2 : (outT (sqF xs) on at_ ds ds.length).length ≤ row.length := by
                  have h1 := outT_len (sqF xs) on at_ ds ds.length
                  have h2 := ddT_len (sqF xs) zs zs.length
                  rw [← HDS.out] at h2
                  have h3 := List.length_filter_le (seenI xs mm) row
                  rw [← HMN.out] at h3
                  omega
                have hmem : ∀ i, i ∈ outT (sqF xs) on at_ ds ds.length ↔ LookB (sqF xs) on at_ (row.filter (seenI xs (uptoM (backs cs cs.length)))) i := by
                  intro i
                  rw [HDS.out, ← HMD.out, ← HMN.out]
                  exact look_of_sorted HP1.out HS1.out i
                have HPO := Lib.hid (lookPost_of HOWN.out hrl2 hmem (HBI.out.trans ((HB3.out.trans (HBR.out.mono HB3.out.size)).mono hWw)) (show D < w3.heap.size by have := HB3.out.size; omega) (by omega) (blk_below HK.out (HB3.out.trans (HBR.out.mono HB3.out.size)) hDW))
                have HKK := Lib.hid (blk_below HK.out (HB3.out.trans (HBR.out.mono HB3.out.size)) hDW)
                clear hrl2 hmem
                go_wp2_with fail
                refine ⟨by simp, .inl ⟨_, _, rfl, run_takeDeferred HKK.out, ?_⟩⟩
                refine ⟨_, results_tmp rfl _ _ _, ?_⟩
                exact HPO.out
end Go.Proofs.YticcccciefaemaaGreatDoor
