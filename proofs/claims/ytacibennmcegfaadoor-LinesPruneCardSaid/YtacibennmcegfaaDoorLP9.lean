/- lines: up, Chain. Condition: the lines are formed, at most 48. -/
import Derived.Test.YtacibennmcegfaaDoorLP8
namespace Go.Proofs.YtacibennmcegfaaDoor
open Go.RowKit Go.Shelf Go.Herb
attribute [local go_sem] Oper.semAt_some

theorem wpListIn_append_run {F : Fence} {n : Nat} {P : Program} {ops : Array Oper} {rest : List Oper} {o : Oper} {a : Act} {Q : Exit → Act → World → Prop} (w : World) (hgd : o.guard = none) (s x : Operand) (t tn : TypeId)
    (ho : o.op = .call { callee := .builtin .append, args := #[s, x], argTypes := #[t, tn] }) (vs vx : Value) (hs : a.eval s = vs) (hx : a.eval x = vx)
    (v' : Value) (w' : World) (hr : (Builtin.append_ #[t, tn] o.type #[vs, vx]).run P w = .ok v' w')
    (h : wpListIn F n P ops Q rest (a.put o.dst v') w') : wpListIn F n P ops Q (o :: rest) a w := by
  refine wpListIn_plain hgd fun K hK' => ?_
  unfold Oper.wpIn
  refine ⟨?_, ?_⟩
  · simp [Oper.about, ho, resolve, Target.leads, Sem.run_pure]
  · rw [Oper.semAt_plain F _ _ (by rw [ho]; intro c hc'; cases hc')]
    simp [execOp, ho, resolve, invoke, builtin, hs, hx, hr, Result.andThen]
    exact hK' _ _ h
theorem infoK : (Tryd.prog.info? (38)).map (fun i => (i.zero, i.size, i.bytes)) = some (some (.agg #[.int .u64 0, .int .u64 0]), 2, 16) := by kernel_rfl
def OwnK (B : Nat) (w : World) (v : Value) (xs : List (Int × Int)) : Prop := w.ownsRow B (38) 2 v xs.length (xs.flatMap lnc)
theorem run_append_link (w : World) (B : Nat) (v : Value) (ss : List (Int × Int)) (vb : Nat) (p : Int × Int) (ho : OwnK B w v ss) (hb : w.heap[vb]? = some (.cells #[.int .u64 p.1, .int .u64 p.2] (38) (0, 0))) (hx : ss.length < 1000000) (hB : B ≤ w.heap.size) (ty : TypeId) :
    ∃ v' w', (Builtin.append_ #[(32), (32)] ty #[v, .slice (some ⟨vb, 0, none⟩) 1 1]).run Tryd.prog w = .ok v' w' ∧ OwnK B w' v' (ss ++ [p]) ∧ w.grownBy w' v.ownBlock := by
  obtain ⟨i0, hin, hz0, hz1, hz2⟩ := info_parts infoK
  obtain ⟨v', w', hr, h2, h3, h4⟩ := run_append_own (P := Tryd.prog) w B (32) ty (38) i0 _ 2 16 Tryd.underlying32 hin hz0 hz1 hz2 rfl (by decide) v ss.length (ss.flatMap lnc) ho ⟨vb, 0, none⟩ 1 1 (lnc p) rfl (fun j u hj => by
      have : ((⟨vb, 0, none⟩ : Addr).add j) = ⟨vb, 0 + j, none⟩ := addr_add _ _ _
      rw [this, Nat.zero_add, cell_of_blk hb]
      simpa [lnc] using hj) (by intro v hv; simp [lnc] at hv; rcases hv with rfl | rfl <;> rfl) (by unfold maxLen; omega) (by omega) hB
  refine ⟨v', w', hr, ?_, h3⟩
  unfold OwnK
  rw [List.length_append, List.flatMap_append]
  simpa using h2
theorem ownK_turn {B b N : Nat} {A C : World} {v : Value} {xs : List (Int × Int)} (h : OwnK B A v xs) (ht : Turn b N A C) (hb : b < B) : OwnK B C v xs := by
  obtain ⟨h1, h2⟩ := h
  refine ⟨h1, ?_⟩
  rcases h2 with h2 | ⟨g, cap, cur, hv, hg, hh, hr⟩
  · exact .inl h2
  · exact .inr ⟨g, cap, cur, hv, hg, ht.kept g _ hh (by omega) (.inr rfl), hr⟩
theorem ownK_cells {B k : Nat} {w : World} {v : Value} {xs : List (Int × Int)} {o : Obj} (h : OwnK B w v xs) (hk : w.heap[k]? = some o) (ho : o.isCells = false) : some k ≠ v.ownBlock := by
  intro e
  obtain ⟨_, h2 | ⟨g, cap, cur, hv, hg, hh, _⟩⟩ := h
  · rw [h2.1] at e; cases e
  · rw [hv] at e
    injection e with e
    have e : k = g := e
    subst e
    rw [hk] at hh
    injection hh with hh
    rw [hh] at ho
    cases ho
theorem clipK_any (a : Option Addr) (cap n : Nat) (w : World) (hn : a = none → n = 0 ∧ cap = 0) (hl : n < 1000000) (hle : n ≤ cap) (hm : cap ≤ maxLen) :
    Calls Tryd.prog 29 #[.slice a n cap] w fun e w' => e = .returned (.slice a n n) ∧ w = w' := by
  cases a with
  | none =>
    obtain ⟨rfl, rfl⟩ := hn rfl
    clear hn
    go_enter Tryd.func29, Tryd.ntmps29
    go_wp2
    go_ret
    exact ⟨rfl, rfl⟩
  | some ad =>
    clear hn
    unfold maxLen at hm
    go_enter Tryd.func29, Tryd.ntmps29
    go_wp2
    go_ret
    exact ⟨rfl, rfl⟩
theorem up_any (x : Option Addr) (line : Int) (w : World) : Calls Tryd.prog 28 #[.pointer x, .int .u64 line] w fun e w' => e = .returned (.func (.func 45) #[] #[.pointer (some ⟨w.heap.size, 0, none⟩), .pointer (some ⟨w.heap.size + 1, 0, none⟩)]) ∧ w' = (w.alloc (.cells #[.pointer x] (28))).alloc (.cells #[.int .u64 line] (34)) := by
  go_enter Tryd.func28, Tryd.ntmps28
  go_wp2
  go_ret
  exact ⟨rfl, rfl⟩
def ChainPost (xs : List (Int × Int)) (w : World) (e : Ending) (w' : World) : Prop := ∃ a, e = .returned (.slice a xs.length xs.length) ∧ Lns w' a xs ∧ Below w.heap.size w w'
theorem chain_len {ls : List Ln} : ∀ (n : Nat) (line a : Int), (chainF ls n line a).length ≤ n
  | 0, _, _ => Nat.le_refl _
  | n + 1, line, a => by
    rw [chainF_succ]
    cases parL ls line with
    | none => simp
    | some p =>
      simp only [List.length_cons]
      by_cases h0 : line = 0
      · simp [h0]
      · rw [if_neg h0]; have := chain_len (ls := ls) n p line; omega
set_option maxRecDepth 100000 in
set_option maxHeartbeats 1000000 in
theorem chain_in {bs : List Br} {ls : List Ln} (p : Nat) (line : Int) (w : World) (h : TreeIs w p bs ls) (hf : FormedL ls) (hl1 : ls.length < 1000000) :
    CallsIn Fence.wide 5 Tryd.prog (11) #[.pointer (some ⟨p, 0, none⟩), .int .u64 line] w (ChainPost (chainF ls ls.length line 18446744073709551615) w) := by
  obtain ⟨w1, hw1⟩ : ∃ w1 : World, w1 = w.alloc (.cells #[.slice none 0 0] (32)) := ⟨_, rfl⟩
  have hB1 : Below w.heap.size w w1 := by rw [hw1]; exact balc (Below.refl _ _)
  have HT := Lib.hid (there_any p w1 (h.ext hB1))
  rw [hw1] at HT
  obtain ⟨w2, hw2⟩ : ∃ w2 : World, w2 = (w1.alloc (.cells #[.pointer (some ⟨p, 0, none⟩)] (28))).alloc (.cells #[.int .u64 line] (34)) := ⟨_, rfl⟩
  have hB2 : Below w.heap.size w w2 := by rw [hw2]; exact balc (balc hB1)
  have hs1 : w1.heap.size = w.heap.size + 1 := by rw [hw1]; simp
  have hs2 : w2.heap.size = w.heap.size + 3 := by rw [hw2]; simp [hs1]
  have ho2 : w2.heap[w.heap.size]? = some (.cells #[.slice none 0 0] (32) (0, 0)) := by rw [hw2, hw1]; exact blk_alloc (blk_alloc (blk_new_at rfl _))
  have hu2 : UpW w p (w.heap.size + 1) (w.heap.size + 2) line w2 := ⟨hB2.size, fun k hk => hB2.block k hk, by rw [hw2]; exact blk_alloc (blk_new_at hs1.symm _), by rw [hw2]; exact blk_new_at (by simp [hs1]) _⟩
  have HSQ := Lib.hid (up1_but 4 (by omega) h hf hl1 hu2 (by omega) (by omega) (by omega) (by omega) (bo := w.heap.size) (Nat.le_refl _) (by omega) (by omega) (by omega))
  refine callsIn_of_wp_marks Tryd.func11 rfl trivial ?_ rfl
  simp only [Tryd.ntmps11, List.size_toArray, List.length_cons, List.length_nil, Nat.reduceAdd, Nat.reduceSub, Array.replicate_succ, Array.replicate_zero, List.push_toArray, List.append_toArray, List.nil_append, List.cons_append]
  gi_wp2_with (first | (refine ⟨trivial, ?_⟩; gi_at_call 27; refine (callsIn_wide.2 HT.out).mono ?_; rintro e w' ⟨rfl, rfl⟩) | (refine ⟨trivial, ?_⟩; gi_at_call 28; refine (callsIn_wide.2 (up_any _ _ _)).mono ?_; rintro e w' ⟨rfl, rfl⟩))
  have hww : ((w.alloc (.cells #[.slice none 0 0] (32))).alloc (.cells #[.pointer (some ⟨p, 0, none⟩)] (28))).alloc (.cells #[.int .u64 line] (34)) = w2 := by rw [hw2, hw1]
  rw [hww]
  clear hww hw1 hw2 HT
  refine wpIn_range_but (n := 5) (gf := 45) (lb := #[.pointer (some ⟨w.heap.size + 1, 0, none⟩), .pointer (some ⟨w.heap.size + 2, 0, none⟩)]) rfl (enters_of Tryd.func45 (by kernel_rfl) rfl) (encs := encL) (fun _ => rfl) (chainF ls ls.length line 18446744073709551615) (b := w.heap.size + 2) (bo := w.heap.size) (by omega) HSQ.out
    (fun pre W => ∃ v, W.heap[w.heap.size]? = some (.cells #[v] (32) (0, 0)) ∧ OwnK w2.heap.size W v pre ∧ Below w.heap.size w W ∧ w2.heap.size ≤ W.heap.size)
    (fun pre A B hi ht => by
      obtain ⟨v, hv, hO, hb, hsz⟩ := hi
      exact ⟨v, ht.kept _ _ hv (by omega) (.inl (by omega)), ownK_turn hO ht (by omega), ht.below hb (by omega) (by omega) (Nat.le_refl _), Nat.le_trans hsz ht.size⟩)
    ⟨_, ho2, World.ownsRow_nil _ _ _ _, hB2, Nat.le_refl _⟩
    (fun x => { tmps := #[.pointer (some ⟨p, 0, none⟩), .int .u64 line, undef, undef, .pointer (some ⟨w.heap.size, 0, none⟩), .int .u64 x.1, .int .u64 x.2, .pointer (some ⟨p, 0, none⟩), .bool true, .bool false, .pointer (some ⟨p, 0, none⟩), .int .u64 line, .func (.func 45) #[] #[.pointer (some ⟨w.heap.size + 1, 0, none⟩), .pointer (some ⟨w.heap.size + 1 + 1, 0, none⟩)], .int .u64 x.1, .int .u64 x.2, undef, undef, undef, undef, undef, undef, undef, undef], defers := [] }) ?assign ?body ?done
  case assign =>
    intro l x W K hK
    gi_wp2
    exact hK
  case body =>
    rintro l pre x W ⟨v, hv, hO, hB, hNW⟩ hpre
    have hc := cell_of_blk hv 0
    simp at hc
    have hpl : pre.length < 1000000 := by
      have h1 := hpre.length_le
      have h2 := chain_len (ls := ls) ls.length line 18446744073709551615
      rw [List.length_append, List.length_singleton] at h1
      omega
    obtain ⟨X, hX⟩ : ∃ X : World, X = W.alloc (.cells #[.int .u64 x.1, .int .u64 x.2] (38)) := ⟨_, rfl⟩
    have hBX : Below W.heap.size W X := by rw [hX]; exact (Below.refl _ _).alloc (Nat.le_refl _) _
    obtain ⟨v', w', hr, hO', hg⟩ := run_append_link X w2.heap.size v pre W.heap.size x (ownsRow_below hO hBX (Nat.le_refl _)) (by rw [hX]; exact blk_new_at rfl _) hpl (Nat.le_trans hNW hBX.size) (32)
    have hown : ∀ k, v.ownBlock = some k → w2.heap.size ≤ k := fun k e => (World.ownsRow.lt hO _ e).1
    have hv' : w'.heap[w.heap.size]? = some (.cells #[v] (32) (0, 0)) := (hg.block _ (lt_of_blk (blk_below hv hBX (lt_of_blk hv))) (fun e => by have := hown _ e.symm; omega)).trans (blk_below hv hBX (lt_of_blk hv))
    have hcw := cell_of_blk hv' 0
    have hfw := frozen_of_blk hv' 0
    simp at hcw
    obtain ⟨a, cap, rfl, hle, -⟩ := els_of_owns lnc_len hO'
    have hsX := hBX.size
    have hsg := hg.size
    have HE := Lib.hid (show ∀ u : Value, (∀ (k : Nat), k < w2.heap.size → k ≠ w.heap.size → (w'.setCell ⟨w.heap.size, 0, none⟩ u).heap[k]? = W.heap[k]?) ∧ (∀ (k : Nat) (o : Obj), w2.heap.size ≤ k → W.heap[k]? = some o → o.isCells = false → (w'.setCell ⟨w.heap.size, 0, none⟩ u).heap[k]? = some o) ∧ Below w.heap.size w (w'.setCell ⟨w.heap.size, 0, none⟩ u) from fun u => by
      refine ⟨fun k hk hne => ?_, fun k o hk ho hoc => ?_, ?_⟩
      · rw [Below.heap_setCell _ _ _ _ hne, hg.block k (by omega) (fun e => by have := hown _ e.symm; omega), hBX.block k (by omega)]
      · exact blk_setCell_other ((hg.block k (by have := lt_of_blk ho; omega) (ownK_cells hO ho hoc)).trans (blk_below ho hBX (lt_of_blk ho))) (by show k ≠ w.heap.size; omega) _
      · exact ((hB.trans (hBX.mono hB.size)).grown hg (by have := hB.size; omega) (fun k e => by have := hown _ e; omega)).setCell (Nat.le_refl _) _)
    have HO := Lib.hid hO'
    rw [hX] at hr
    clear hX hO' hO hg hB hown
    gi_wp2_with (gi_at_builtin; refine wpListIn_append_run _ rfl _ _ _ _ rfl _ _ rfl rfl _ _ hr ?_)
    obtain ⟨e1, e2, e3⟩ := HE.out (.slice a (pre.length + 1) cap)
    have HO2 := HO.out
    rw [show (pre ++ [x]).length = pre.length + 1 by simp] at HO2
    refine ⟨⟨by rw [World.size_setCell]; omega, e1⟩, e2, _, blk_setCell hv' _, ownsRow_setCell_below (a := ⟨w.heap.size, 0, none⟩) HO2 (by show w.heap.size < w2.heap.size; omega) _, e3, by rw [World.size_setCell]; omega⟩
  case done =>
    rintro W ⟨v, hv, hO, hB, hNW⟩ hK
    have hcl := chain_len (ls := ls) ls.length line 18446744073709551615
    obtain ⟨k, hk⟩ : ∃ k, k = chainF ls ls.length line 18446744073709551615 := ⟨_, rfl⟩
    have HKK := Lib.hid hk
    rw [← hk] at hO hcl
    rw [hs2] at hK
    obtain ⟨a, cap, rfl, hle, hE⟩ := els_of_owns lnc_len hO
    have hform : (a = none → k.length = 0 ∧ cap = 0) ∧ cap ≤ maxLen := by
      obtain ⟨_, h2 | ⟨g, c, cur, hv, hg, hh, _, hm, _⟩⟩ := hO
      · obtain ⟨h3, h4⟩ := h2
        injection h3 with h3 h5 h6
        exact ⟨fun _ => ⟨h5, h6⟩, by rw [h6]; unfold maxLen; omega⟩
      · injection hv with h3 h5 h6
        subst h6
        exact ⟨fun h => by rw [h3] at h; (cases h), hm⟩
    have hc := cell_of_blk hv 0
    have hf := frozen_of_blk hv 0
    simp at hc
    have hE' : Lns W a k := hE
    have HV := Lib.hid hv
    have HOO := Lib.hid hO
    have HCLP := Lib.hid (clipK_any a cap k.length W hform.1 (by omega) hle hform.2)
    clear hO hform hE hv hk
    gi_wp2_with (refine ⟨trivial, ?_⟩; gi_at_call 29; refine (callsIn_wide.2 HCLP.out).mono ?_; rintro e w4 ⟨rfl, rfl⟩)
    have hD : (W.setCell ⟨w.heap.size, 0, none⟩ (.slice a k.length k.length)).heap[w.heap.size + 3]? = some (.deferred (some [])) := blk_setCell_other hK (by show w.heap.size + 3 ≠ w.heap.size; omega) _
    refine ⟨by simp, .inl ⟨_, _, rfl, run_takeDeferred hD, ?_⟩⟩
    have hBe : Below w.heap.size w (W.setCell ⟨w.heap.size, 0, none⟩ (.slice a k.length k.length)) := hB.setCell (Nat.le_refl _) _
    have hB5 := belowK_b (w := w) (Nat.le_refl _) (W.setCell ⟨w.heap.size, 0, none⟩ (.slice a k.length k.length)) (w.heap.size + 3) _ (.deferred none) (by omega) hD rfl rfl
    have hx5 : ((W.setCell ⟨w.heap.size, 0, none⟩ (.slice a k.length k.length)).putObj (w.heap.size + 3) (.deferred none)).heap[w.heap.size]? = some (.cells #[.slice a k.length k.length] (32) (0, 0)) := (World.putObj_heap_other (by omega)).trans (blk_setCell HV.out _)
    have hc5 := cell_of_blk hx5 0
    simp at hc5
    refine ⟨.slice a k.length k.length, by simp [results, Tryd.results11, go_sem, hc5], ?_⟩
    rw [← HKK.out]
    have hO2 := ownsRow_setCell_below (a := ⟨w.heap.size, 0, none⟩) HOO.out (by show w.heap.size < w2.heap.size; omega) (.slice a k.length k.length)
    have hO3 := ownsRow_putObj hO2 (.deferred none) hD rfl
    obtain ⟨a9, c9, hv9, -, hE9⟩ := els_of_owns lnc_len hO3
    cases hv9
    exact ⟨a, rfl, hE9, hBe.trans hB5⟩
/-- Chain. -/
theorem chain_any {bs : List Br} {ls : List Ln} (p : Nat) (line : Int) (w : World) (h : TreeIs w p bs ls) (hf : FormedL ls) (hl1 : ls.length < 1000000) :
    Calls Tryd.prog (11) #[.pointer (some ⟨p, 0, none⟩), .int .u64 line] w (ChainPost (chainF ls ls.length line 18446744073709551615) w) :=
  (callsIn_wide (n := 5)).1 (chain_in p line w h hf hl1)
end Go.Proofs.YtacibennmcegfaaDoor
