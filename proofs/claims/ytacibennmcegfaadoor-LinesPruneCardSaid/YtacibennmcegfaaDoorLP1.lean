/- lines: made, there, copied. Condition: fewer than 1000000 branches and lines, not none. -/
import Derived.Test.YtacibennmcegfaaDoorLN8
import Derived.Laws.CopyRow
import Derived.Laws.MakeOwn
import Derived.Deep.RegionHeld3
import Derived.Deep.DeepCutAuto
namespace Go.Herb
open Go.RowKit
variable {s : Nat}

/-- 'copy(d, s)' of elements of whatever size, d lying in a row that is known whole. -/
theorem run_copy_els {P : Program} (w : World) (dT sT ty elem : TypeId) (s g o dLen dCap : Nat) (a : Addr) (sLen sCap : Nat) (cur : Array Value) (t : TypeId) (cs : List Value)
    (hu : P.underlying dT = some (.slice elem)) (hs : (P.info? elem).map (·.size) = some s)
    (hg : w.heap[g]? = some (.cells cur t (0, 0))) (hn : cs.length = Nat.min sLen dLen * s)
    (hsrc : ∀ j v, cs[j]? = some v → w.cell? (a.add j) = some v) (hfit : o + cs.length ≤ cur.size) (h1 : ∀ v ∈ cs, v.oneCell' = true) :
    (Builtin.copy_ #[dT, sT] ty #[.slice (some ⟨g, o, none⟩) dLen dCap, .slice (some a) sLen sCap]).run P w =
      .ok (goInt (Nat.min sLen dLen)) (w.setRow g (cur.toList.take o ++ cs ++ cur.toList.drop (o + cs.length)).toArray) := by
  have hl := run_loadCells_list (P := P) w a cs hsrc
  have hst := run_storeCells_at P g o t cs 0 cur w hg (by simpa using hfit) h1
  cases hq : P.info? elem with
  | none => simp [hq] at hs
  | some i =>
    have hi : i.size = s := by simpa [hq] using hs
    simp [Builtin.copy_, run_underlying hu, Builtin.lenOf, Builtin.firstCells, sizeOf, typeInfo, hq, hi, ← hn, hl, hst]
/-- 'copy(d, s)', d as long as s and lying in a block of its own. -/
theorem run_copy_full {P : Program} {α : Type} {enc : α → List Value} (hel : ∀ x, (enc x).length = s) (hpos : 0 < s) (hone : ∀ x, ∀ v ∈ enc x, v.oneCell' = true) (w : World) (dT sT elem : TypeId) (hu : P.underlying dT = some (.slice elem)) (hs : (P.info? elem).map (·.size) = some s)
    (g n dCap sCap : Nat) (a : Option Addr) (cur : Array Value) (t : TypeId) (xs : List α) (hE : Els enc s w a xs) (hn : xs.length = n) (h0 : 0 < n) (hg : w.heap[g]? = some (.cells cur t (0, 0))) (hcs : cur.size = n * s) :
    ∃ w', (∀ ty, (Builtin.copy_ #[dT, sT] ty #[.slice (some ⟨g, 0, none⟩) n dCap, .slice a n sCap]).run P w = .ok (goInt n) w') ∧ w'.heap[g]? = some (.cells (xs.flatMap enc).toArray t (0, 0)) ∧ (∀ b, b ≠ g → w'.heap[b]? = w.heap[b]?) ∧ w'.heap.size = w.heap.size ∧ (∀ B w0, B ≤ g → Below B w0 w → Below B w0 w') := by
  obtain ⟨b, o, rfl, _, _⟩ := hE.get 0 (by omega)
  have hl : (xs.flatMap enc).length = n * s := by rw [flatMap_len hel, hn]
  have hr := fun ty => run_copy_els (P := P) w dT sT ty elem s g 0 n dCap ⟨b, o, none⟩ n sCap cur t (xs.flatMap enc) hu hs hg (by rw [hl]; simp) (hE.flat hel hpos) (by omega) (fun v hv => by
    obtain ⟨x, _, hx⟩ := List.mem_flatMap.1 hv
    exact hone x v hx)
  have he : (cur.toList.take 0 ++ xs.flatMap enc ++ cur.toList.drop (0 + (xs.flatMap enc).length)).toArray = (xs.flatMap enc).toArray := by
    congr 1
    rw [List.drop_eq_nil_of_le (by simp only [Array.length_toList]; omega)]
    simp
  rw [he] at hr
  refine ⟨w.setRow g (xs.flatMap enc).toArray, fun ty => by rw [hr ty, show Nat.min n n = n from Nat.min_self n], setRow_heap w g _ _ t _ hg, fun b hb => setRow_other w g b _ hb, by simp [World.setRow], fun B w0 hB hw => hw.trans ⟨rfl, rfl, rfl, by simp [World.setRow], fun k hk => setRow_other w g k _ (by omega)⟩⟩
theorem wpList_copy_eq {P : Program} (w : World) {ops : Array Oper} {rest : List Oper} {o : Oper} {a : Act} {Q : Exit → Act → World → Prop} (hgd : o.guard = none) (d s : Operand) (t t' : TypeId)
    (ho : o.op = .call { callee := .builtin .copy, args := #[d, s], argTypes := #[t, t'] }) (v u : Value) (hd : a.eval d = v) (hs : a.eval s = u) {v' : Value} {w' : World}
    (hr : (Builtin.copy_ #[t, t'] o.type #[v, u]).run P w = .ok v' w') (h : wpList P ops Q rest (a.put o.dst v') w') : wpList P ops Q (o :: rest) a w :=
  wpList_plain hgd fun _ hK => by
    unfold Oper.wp execOp
    simp only [ho, resolve, invoke, builtin, Sem.run_bind, Sem.run_pure, Result.andThen_ok, List.map_toArray, List.map_cons, List.map_nil, hd, hs, hr]
    exact hK _ _ h
theorem balc {w u : World} {o : Obj} (h : Below w.heap.size w u) : Below w.heap.size w (u.alloc o) := h.alloc h.size o
theorem blk_drew {u : World} {b : Nat} {o : Obj} (h : u.heap[b]? = some o) : u.drew.heap[b]? = some o := h
theorem bdrw {B : Nat} {w u : World} (h : Below B w u) : Below B w u.drew := ⟨h.os, h.tape, h.output, h.size, h.block⟩
end Go.Herb
namespace Go.Proofs.YtacibennmcegfaaDoor
open Go.RowKit Go.Shelf Go.Herb

theorem infoB : (Tryd.prog.info? (45)).map (fun i => (i.zero, i.size, i.bytes)) = some (some (.agg #[.string ⟨#[]⟩, .int .u64 0, .int .u64 0]), 3, 32) := by kernel_rfl
theorem infoL : (Tryd.prog.info? (36)).map (fun i => (i.zero, i.size, i.bytes)) = some (some (.agg #[.int .u64 0, .int .u64 0]), 2, 16) := by kernel_rfl
theorem brc_one (x : Br) : ∀ v ∈ brc x, v.oneCell' = true := by
  intro v hv
  simp [brc] at hv
  rcases hv with rfl | rfl | rfl <;> rfl
theorem lnc_one (x : Ln) : ∀ v ∈ lnc x, v.oneCell' = true := by
  intro v hv
  simp [lnc] at hv
  rcases hv with rfl | rfl <;> rfl

/-- A tree at p. -/
structure TreeIs (w : World) (p : Nat) (bs : List Br) (ls : List Ln) : Prop where
  blk : ∃ ba bc la lc, w.heap[p]? = some (.cells #[.slice ba bs.length bc, .slice la ls.length lc, .int .i64 1] (61) (0, 0)) ∧ Brs w ba bs ∧ Lns w la ls
theorem TreeIs.lt {w : World} {p : Nat} {bs : List Br} {ls : List Ln} (h : TreeIs w p bs ls) : p < w.heap.size := by
  obtain ⟨_, _, _, _, h, _⟩ := h.blk
  exact lt_of_blk h
theorem TreeIs.ext {w w' : World} {p : Nat} {bs : List Br} {ls : List Ln} (h : TreeIs w p bs ls) (hb : Below w.heap.size w w') : TreeIs w' p bs ls := by
  have hl := h.lt
  obtain ⟨ba, bc, la, lc, h1, h2, h3⟩ := h.blk
  exact ⟨ba, bc, la, lc, blk_below h1 hb hl, h2.ext hb, h3.ext hb⟩

theorem made_any (ba : Option Addr) (bn bc : Nat) (la : Option Addr) (ln lc : Nat) (w : World) :
    Calls Tryd.prog (25) #[partsV ba bn bc la ln lc] w fun e w' => e = .returned (.pointer (some ⟨w.heap.size + 1, 0, none⟩)) ∧ w'.heap[w.heap.size + 1]? = some (.cells #[.slice ba bn bc, .slice la ln lc, .int .i64 1] (61) (0, 0)) ∧ Below w.heap.size w w' := by
  go_enter Tryd.func25, Tryd.ntmps25
  go_wp2_with fail
  go_ret
  exact ⟨rfl, blk_new_at (by simp) _, balc (balc (Below.refl _ _))⟩
theorem there_nil (w : World) : Calls Tryd.prog (27) #[.pointer none] w fun e w' => e = .returned (.bool false) ∧ w = w' := by
  go_enter Tryd.func27, Tryd.ntmps27
  go_wp2_with fail
  go_ret
  exact ⟨rfl, rfl⟩
theorem there_raw {x y : Value} {m : Int} (p : Nat) (w : World) (h : w.heap[p]? = some (.cells #[x, y, .int .i64 m] (61) (0, 0))) : Calls Tryd.prog (27) #[.pointer (some ⟨p, 0, none⟩)] w fun e w' => e = .returned (.bool (decide (m = 1))) ∧ w = w' := by
  have c2 := cell_of_blk h 2
  simp at c2
  go_enter Tryd.func27, Tryd.ntmps27
  go_wp2_with fail
  go_ret
  exact ⟨by rw [show decide (m = 1) = (m == 1) from by rw [Bool.eq_iff_iff]; simp]; rfl, rfl⟩
theorem there_any {bs : List Br} {ls : List Ln} (p : Nat) (w : World) (h : TreeIs w p bs ls) : Calls Tryd.prog (27) #[.pointer (some ⟨p, 0, none⟩)] w fun e w' => e = .returned (.bool true) ∧ w = w' := by
  obtain ⟨_, _, _, _, h, _⟩ := h.blk
  exact there_raw p w h
set_option maxRecDepth 100000 in
theorem copied_any (ba : Option Addr) (bc n : Nat) (la : Option Addr) (lc m : Nat) (bs : List Br) (ls : List Ln) (w : World) (hB : Brs w ba bs) (hL : Lns w la ls) (hn : bs.length = n) (hm : ls.length = m) (h0 : 0 < n) (h1 : 0 < m) (hn1 : n < 1000000) (hm1 : m < 1000000) :
    Calls Tryd.prog (26) #[partsV ba n bc la m lc] w fun e w' => ∃ g h : Nat, e = .returned (partsV (some ⟨g, 0, none⟩) n n (some ⟨h, 0, none⟩) m m) ∧
      w'.heap[g]? = some (.cells (bs.flatMap brc).toArray (45) (0, 0)) ∧ w'.heap[h]? = some (.cells (ls.flatMap lnc).toArray (36) (0, 0)) ∧ w.heap.size ≤ g ∧ w.heap.size ≤ h ∧ g ≠ h ∧ Below w.heap.size w w' := by
  obtain ⟨i0, hin, hz0, hz1, hz2⟩ := info_parts infoB
  obtain ⟨i1, hin1, hy0, hy1, hy2⟩ := info_parts infoL
  obtain ⟨RB, hRB⟩ : ∃ RB : Array Value, RB = madeCells (Value.agg #[.string ⟨#[]⟩, .int .u64 0, .int .u64 0]).cells (n * 3) := ⟨_, rfl⟩
  obtain ⟨RL, hRL⟩ : ∃ RL : Array Value, RL = madeCells (Value.agg #[.int .u64 0, .int .u64 0]).cells (m * 2) := ⟨_, rfl⟩
  have hmB : ∀ u, (Instr.makeSlice (22) (.int .i64 (n : Int)) (.int .i64 (n : Int))).run Tryd.prog u = .ok (.slice (some ⟨u.heap.size, 0, none⟩) n n) (u.alloc (.cells RB (45))) := fun u => by
    have := run_make (P := Tryd.prog) u (22) (45) i0 _ Tryd.underlying22 hin hz0 .i64 .i64 n n (by omega) (by omega) (by rw [hz2]; omega) (by omega)
    rw [this, hRB, hz1]
    rfl
  have hmL : ∀ u, (Instr.makeSlice (23) (.int .i64 (m : Int)) (.int .i64 (m : Int))).run Tryd.prog u = .ok (.slice (some ⟨u.heap.size, 0, none⟩) m m) (u.alloc (.cells RL (36))) := fun u => by
    have := run_make (P := Tryd.prog) u (23) (36) i1 _ Tryd.underlying23 hin1 hy0 .i64 .i64 m m (by omega) (by omega) (by rw [hy2]; omega) (by omega)
    rw [this, hRL, hy1]
    rfl
  have hRBs : RB.size = n * 3 := by rw [hRB]; exact size_madeCells _ _
  have hRLs : RL.size = m * 2 := by rw [hRL]; exact size_madeCells _ _
  obtain ⟨W, hW⟩ : ∃ W : World, W = (w.alloc (.cells #[.slice ba n bc, .slice la m lc] (59))).alloc (.cells #[.slice none 0 0, .slice none 0 0] (59)) := ⟨_, rfl⟩
  have hx0 : W.heap[w.heap.size]? = some (.cells #[.slice ba n bc, .slice la m lc] (59) (0, 0)) := by rw [hW]; exact blk_alloc (blk_new_at rfl _)
  have HC : Hid (∀ u, Below W.heap.size W u → u.cell? ⟨w.heap.size, 0, none⟩ = some (.slice ba n bc) ∧ u.cell? ⟨w.heap.size, 1, none⟩ = some (.slice la m lc)) := Lib.hid (fun u hu => by
    have h0 := cell_of_blk (blk_below hx0 hu (lt_of_blk hx0)) 0
    have h1 := cell_of_blk (blk_below hx0 hu (lt_of_blk hx0)) 1
    simp at h0 h1
    exact ⟨h0, h1⟩)
  have hx1 : W.heap[w.heap.size + 1]? = some (.cells #[.slice none 0 0, .slice none 0 0] (59) (0, 0)) := by rw [hW]; exact blk_new_at (by simp) _
  clear hRB hRL hin hin1 hx0
  go_enter Tryd.func26, Tryd.ntmps26
  go_upto_region 1 with fail
  go_cut [3] (fun v wx => ∃ g h p : Nat, v = .pointer (some ⟨p, 0, none⟩) ∧ Hid (wx.heap[p]? = some (.cells #[.slice (some ⟨g, 0, none⟩) n n, .slice (some ⟨h, 0, none⟩) m m] (59) (0, 0)) ∧ wx.heap[g]? = some (.cells RB (45) (0, 0)) ∧ wx.heap[h]? = some (.cells RL (36) (0, 0)) ∧ w.heap.size + 2 ≤ g ∧ w.heap.size + 2 ≤ h ∧ g ≠ h ∧ w.heap.size + 2 ≤ p ∧ Below W.heap.size W wx))
  case first =>
    go_region_held3 (fun u => u.cell? ⟨w.heap.size, 0, none⟩ = some (.slice ba n bc) ∧ u.cell? ⟨w.heap.size, 1, none⟩ = some (.slice la m lc)) (exact HC.out _ (by rw [hW]; repeat (first | exact Below.refl _ _ | refine balc ?_ | refine bdrw ?_))) (first | fail)
    all_goals go_wp2_with fail
    all_goals go_meet
    all_goals refine ⟨_, _, _, rfl, Lib.hid ⟨by repeat (first | exact blk_new_at (by simp) _ | refine blk_alloc ?_ | refine blk_drew ?_), by repeat (first | exact blk_new_at (by simp) _ | refine blk_alloc ?_ | refine blk_drew ?_), by repeat (first | exact blk_new_at (by simp) _ | refine blk_alloc ?_ | refine blk_drew ?_), by omega, by omega, by omega, by omega, by rw [hW]; repeat (first | exact Below.refl _ _ | refine balc ?_ | refine bdrw ?_)⟩⟩
  case rest =>
    obtain ⟨g, h, p, rfl, hf⟩ := hcut
    obtain ⟨hp, hgB, hhL, f1, f2, f3, f4, hbw⟩ := hf.out
    have hWs : W.heap.size = w.heap.size + 2 := by rw [hW]; simp
    have hBW : Below w.heap.size w W := by rw [hW]; exact balc (balc (Below.refl _ _))
    have hBw := hBW.trans (hbw.mono (by omega))
    obtain ⟨w1, hr1, hg1, ho1, hs1, hb1⟩ := run_copy_full (P := Tryd.prog) brc_len (by decide) brc_one wc (22) (22) (45) Tryd.underlying22 (by kernel_rfl) g n n bc ba RB (45) bs (hB.ext hBw) hn h0 hgB hRBs
    have hb1W := hb1 _ _ (by omega) hbw
    have hb1w := hBW.trans (hb1W.mono (by omega))
    obtain ⟨w2, hr2, hg2, ho2, hs2, hb2⟩ := run_copy_full (P := Tryd.prog) lnc_len (by decide) lnc_one w1 (23) (23) (36) Tryd.underlying23 (by kernel_rfl) h m m lc la RL (36) ls (hL.ext hb1w) hm h1 (by rw [ho1 _ (fun e => f3 e.symm)]; exact hhL) hRLs
    have hb2W := hb2 _ _ (by omega) hb1W
    have hpl := lt_of_blk hp
    have hgl := lt_of_blk hgB
    have hhl := lt_of_blk hhL
    have hpg : p ≠ g := fun e => by
      rw [e, hgB] at hp
      injection hp with hp
      injection hp with h2 h3
      exact absurd h3 (by decide)
    have hph : p ≠ h := fun e => by
      rw [e, hhL] at hp
      injection hp with hp
      injection hp with h2 h3
      exact absurd h3 (by decide)
    have hp1 := (ho1 p hpg).trans hp
    have hp2 := (ho2 p hph).trans hp1
    have a0 := cell_of_blk hp 0
    have a1 := cell_of_blk hp1 1
    have a2 := cell_of_blk hp2 0
    have a3 := cell_of_blk hp2 1
    simp at a0 a1 a2 a3
    obtain ⟨k0, -⟩ := HC.out wc hbw
    obtain ⟨-, k1⟩ := HC.out w1 hb1W
    have hx2 := blk_below hx1 hb2W (by omega)
    have e0 := cell_of_blk hx2 0
    have e1 := cell_of_blk hx2 1
    have e2 := frozen_of_blk hx2 0
    have e3 := frozen_of_blk hx2 1
    simp at e0 e1
    have HG := Lib.hid (show w2.heap[g]? = some (.cells (bs.flatMap brc).toArray (45) (0, 0)) ∧ w2.heap[h]? = some (.cells (ls.flatMap lnc).toArray (36) (0, 0)) ∧ Below W.heap.size W w2 ∧ Below w.heap.size w W ∧ W.heap.size = w.heap.size + 2 from ⟨by rw [ho2 _ f3]; exact hg1, hg2, hb2W, hBW, hWs⟩)
    clear hB hL hn hm hg1 ho1 hs1 hb1 hb1W hb1w hg2 ho2 hs2 hb2 hb2W hBW hBw hbw hp hp1 hp2 hx1 hx2 hgB hhL hf hpl hgl hhl HC hmB hmL hRBs hRLs hW hz0 hz1 hz2 hy0 hy1 hy2
    go_wp2_with (at_builtin; first | refine wpList_copy_eq _ rfl _ _ (22) (22) rfl _ _ rfl rfl (hr1 _) ?_ | refine wpList_copy_eq _ rfl _ _ (23) (23) rfl _ _ rfl rfl (hr2 _) ?_)
    (try simp only [Exit.inBlock, Exit.then])
    refine bodyPost_ret (v := partsV (some ⟨g, 0, none⟩) n n (some ⟨h, 0, none⟩) m m) (by simp [results, Tryd.results26, go_sem, *]) rfl ?_
    obtain ⟨q1, q2, q3, q4, q5⟩ := HG.out
    exact ⟨g, h, rfl, blk_setCell_other (blk_setCell_other q1 (by show g ≠ w.heap.size + 1; omega) _) (by show g ≠ w.heap.size + 1; omega) _, blk_setCell_other (blk_setCell_other q2 (by show h ≠ w.heap.size + 1; omega) _) (by show h ≠ w.heap.size + 1; omega) _, by omega, by omega, f3,
      ((q4.trans (q3.mono (by omega))).setCell (by show w.heap.size ≤ w.heap.size + 1; omega) _).setCell (by show w.heap.size ≤ w.heap.size + 1; omega) _⟩
end Go.Proofs.YtacibennmcegfaaDoor
