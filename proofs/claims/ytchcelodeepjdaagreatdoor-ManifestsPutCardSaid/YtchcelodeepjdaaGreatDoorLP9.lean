/- A tree's branches as a plain list: names rise, each with a line of its own. No condition. · lines: made, there, copied. Condition: fewer than 1000000 branches and lines, not none. · lines: First, found, Find. Condition: branches sorted, fewer than 1000000. · lines: what a fork may be; where a branch of that name would stand. No condition. · A range over a function whose iterator turns one block of its own (a captured variable), the body never leaving: a law. No condition. · lines: the iterator of up: its contract. Condition: the lines are formed, fewer than 1000000. · lines: up, Chain. Condition: the lines are formed, at most 48. -/
import Derived.Test.YtchcelodeepjdaaGreatDoorLN7
import Derived.Test.YtchcelodeepjdaaGreatDoorMp
import Derived.Laws.CopyRow
import Derived.Laws.MakeOwn
import Derived.Deep.RegionHeld3
import Derived.Deep.DeepCutAuto
import Derived.Deep.AppendSrc
import Derived.Lib.AppendZerosOnto
import Derived.RangeFuncNested
import Derived.RangeFuncBound
import Derived.RangeFuncCalls
import Derived.RangeFuncLeaves
import Derived.Shelf.Abstract
import Derived.Shelf.RegionOpen
import Derived.WalkKit
import Derived.OwnWalkIn
import Derived.TacticsInMore
import Derived.LoopNIn
import Derived.LoopIn
namespace Go.Herb

/-- What `named` asks of branches beside lines. -/
structure NamedL (bs : List Br) (ls : List Ln) : Prop where
  names : ∀ x ∈ bs, nameB x.1 = true
  srt : SrtB bs
  lines : ∀ x ∈ bs, ∃ q, parL ls x.2.1 = some q
  apart : (bs.map (·.2.1)).Nodup

theorem NamedL.nil (ls : List Ln) : NamedL [] ls := ⟨by simp, List.Pairwise.nil, by simp, by simp⟩
theorem NamedL.take {bs : List Br} {ls : List Ln} (h : NamedL bs ls) (i : Nat) : NamedL (bs.take i) ls :=
  ⟨fun x hx => h.names x (List.mem_of_mem_take hx), h.srt.sublist (List.take_sublist _ _), fun x hx => h.lines x (List.mem_of_mem_take hx), h.apart.sublist ((List.take_sublist _ _).map _)⟩
theorem take_snoc {α : Type} {bs : List α} {i : Nat} {x : α} (hx : bs[i]? = some x) : bs.take (i + 1) = bs.take i ++ [x] := by
  obtain ⟨h, rfl⟩ := List.getElem?_eq_some_iff.1 hx
  exact List.take_succ_eq_append_getElem h
theorem NamedL.next {bs : List Br} {ls : List Ln} {i : Nat} {x : Br} {q : Int} (h : NamedL (bs.take i) ls) (hx : bs[i]? = some x) (hn : nameB x.1 = true)
    (hl : ∀ y, 0 < i → bs[i - 1]? = some y → y.1.toList < x.1.toList) (hp : parL ls x.2.1 = some q) (hin : x.2.1 ∉ (bs.take i).map (·.2.1)) : NamedL (bs.take (i + 1)) ls := by
  rw [take_snoc hx]
  refine ⟨?_, ?_, ?_, ?_⟩
  · intro y hy
    rcases List.mem_append.1 hy with hy | hy
    · exact h.names y hy
    · rw [List.mem_singleton.1 hy]; exact hn
  · refine List.pairwise_append.2 ⟨h.srt, by simp, ?_⟩
    intro y hy z hz
    rw [List.mem_singleton.1 hz]
    obtain ⟨j, hj, hjy⟩ := List.getElem_of_mem hy
    have hlen : (bs.take i).length = i := by
      obtain ⟨h3, _⟩ := List.getElem?_eq_some_iff.1 hx
      simp
      omega
    have hji : j < i := by omega
    have h1 : i - 1 < (bs.take i).length := by omega
    have h2 : bs[i - 1]? = some ((bs.take i)[i - 1]'h1) := by
      rw [← List.getElem?_eq_getElem h1, List.getElem?_take_of_lt (by omega)]
    have h3 := hl _ (by omega) h2
    rcases Nat.lt_or_ge j (i - 1) with h4 | h4
    · have h5 := List.pairwise_iff_getElem.1 h.srt j (i - 1) hj h1 h4
      rw [hjy] at h5
      exact List.lt_trans h5 h3
    · have h5 : j = i - 1 := by omega
      subst h5
      rw [hjy] at h3
      exact h3
  · intro y hy
    rcases List.mem_append.1 hy with hy | hy
    · exact h.lines y hy
    · rw [List.mem_singleton.1 hy]; exact ⟨q, hp⟩
  · rw [List.map_append, List.nodup_append]
    refine ⟨h.apart, by simp, ?_⟩
    intro a ha b hb e
    simp only [List.map_cons, List.map_nil, List.mem_singleton] at hb
    subst hb
    subst e
    exact hin ha
theorem NamedL.at {bs : List Br} {ls : List Ln} {i : Nat} {x : Br} (h : NamedL bs ls) (hx : bs[i]? = some x) :
    nameB x.1 = true ∧ (∀ y, 0 < i → bs[i - 1]? = some y → y.1.toList < x.1.toList) ∧ (∃ q, parL ls x.2.1 = some q) ∧ x.2.1 ∉ (bs.take i).map (·.2.1) := by
  obtain ⟨hi, he⟩ := List.getElem?_eq_some_iff.1 hx
  have hm : x ∈ bs := List.mem_of_getElem? hx
  refine ⟨h.names x hm, ?_, h.lines x hm, ?_⟩
  · intro y h0 hy
    obtain ⟨hj, hy⟩ := List.getElem?_eq_some_iff.1 hy
    have := List.pairwise_iff_getElem.1 h.srt (i - 1) i hj hi (by omega)
    rw [hy, he] at this
    exact this
  · intro hc
    have h1 := h.apart.sublist ((List.take_sublist (i + 1) bs).map _)
    rw [take_snoc hx, List.map_append, List.nodup_append] at h1
    exact h1.2.2 _ hc _ (by simp) rfl

/-- A map that has counted the numbers of a list, each once. -/
def Counted (m : List (Int × Int)) (ls : List Int) : Prop := ∀ k, getL m k = if k ∈ ls then some 1 else none
theorem Counted.nil : Counted [] [] := fun k => by simp [getL]
theorem Counted.put {m : List (Int × Int)} {ls : List Int} (h : Counted m ls) (x : Int) : Counted (putL m x (0 + 1)) (ls ++ [x]) := by
  intro k
  by_cases hk : k = x
  · subst hk
    rw [getL_put_same]
    simp
  · rw [getL_put_other _ _ _ hk, h k]
    simp [hk]
end Go.Herb

namespace Go.Herb
open Go.RowKit
variable {s : Nat}

/-- 'copy(d, s)' of elements of whatever size, d lying in a row that is known whole. -/
theorem run_copy_els {P : Program} (w : World) (dT sT ty elem : TypeId) (s g o dLen dCap : Nat) (a : Addr) (sLen sCap : Nat) (cur : Array Value) (t : TypeId) (cs : List Value)
    (hu : P.underlying dT = some (.slice elem)) (hs : (P.info? elem).map (·.size) = some s)
    (hg : w.heap[g]? = some (.cells cur t (0, 0))) (hn : cs.length = Nat.min sLen dLen * s)
    (hsrc : ∀ j v, cs[j]? = some v → w.cell? (a.add j) = some v) (hfit : o + cs.length ≤ cur.size) (h1 : ∀ v ∈ cs, v.oneCell' = true) :
    (Builtin.copy_ #[dT, sT] ty #[.slice (some ⟨g, o, none⟩) dLen dCap, .slice (some a) sLen sCap]).run P w =
      .ok (goInt (Nat.min sLen dLen)) (w.setRow g (cur.toList.take o ++ cs ++ cur.toList.drop (o + cs.length)).toArray) := by
  have hl := run_loadCells_list (P := P) w a cs hsrc
  have hst := run_storeCells_at P g o t cs 0 cur w hg (by simpa using hfit) h1
  cases hq : P.info? elem with
  | none => simp [hq] at hs
  | some i =>
    have hi : i.size = s := by simpa [hq] using hs
    simp [Builtin.copy_, run_underlying hu, Builtin.lenOf, Builtin.firstCells, sizeOf, typeInfo, hq, hi, ← hn, hl, hst]
/-- 'copy(d, s)', d as long as s and lying in a block of its own. -/
theorem run_copy_full {P : Program} {α : Type} {enc : α → List Value} (hel : ∀ x, (enc x).length = s) (hpos : 0 < s) (hone : ∀ x, ∀ v ∈ enc x, v.oneCell' = true) (w : World) (dT sT elem : TypeId) (hu : P.underlying dT = some (.slice elem)) (hs : (P.info? elem).map (·.size) = some s)
    (g n dCap sCap : Nat) (a : Option Addr) (cur : Array Value) (t : TypeId) (xs : List α) (hE : Els enc s w a xs) (hn : xs.length = n) (h0 : 0 < n) (hg : w.heap[g]? = some (.cells cur t (0, 0))) (hcs : cur.size = n * s) :
    ∃ w', (∀ ty, (Builtin.copy_ #[dT, sT] ty #[.slice (some ⟨g, 0, none⟩) n dCap, .slice a n sCap]).run P w = .ok (goInt n) w') ∧ w'.heap[g]? = some (.cells (xs.flatMap enc).toArray t (0, 0)) ∧ (∀ b, b ≠ g → w'.heap[b]? = w.heap[b]?) ∧ w'.heap.size = w.heap.size ∧ (∀ B w0, B ≤ g → Below B w0 w → Below B w0 w') := by
  obtain ⟨b, o, rfl, _, _⟩ := hE.get 0 (by omega)
  have hl : (xs.flatMap enc).length = n * s := by rw [flatMap_len hel, hn]
  have hr := fun ty => run_copy_els (P := P) w dT sT ty elem s g 0 n dCap ⟨b, o, none⟩ n sCap cur t (xs.flatMap enc) hu hs hg (by rw [hl]; simp) (hE.flat hel hpos) (by omega) (fun v hv => by
    obtain ⟨x, _, hx⟩ := List.mem_flatMap.1 hv
    exact hone x v hx)
  have he : (cur.toList.take 0 ++ xs.flatMap enc ++ cur.toList.drop (0 + (xs.flatMap enc).length)).toArray = (xs.flatMap enc).toArray := by
    congr 1
    rw [List.drop_eq_nil_of_le (by simp only [Array.length_toList]; omega)]
    simp
  rw [he] at hr
  refine ⟨w.setRow g (xs.flatMap enc).toArray, fun ty => by rw [hr ty, show Nat.min n n = n from Nat.min_self n], setRow_heap w g _ _ t _ hg, fun b hb => setRow_other w g b _ hb, by simp [World.setRow], fun B w0 hB hw => hw.trans ⟨rfl, rfl, rfl, by simp [World.setRow], fun k hk => setRow_other w g k _ (by omega)⟩⟩
theorem wpList_copy_eq {P : Program} (w : World) {ops : Array Oper} {rest : List Oper} {o : Oper} {a : Act} {Q : Exit → Act → World → Prop} (hgd : o.guard = none) (d s : Operand) (t t' : TypeId)
    (ho : o.op = .call { callee := .builtin .copy, args := #[d, s], argTypes := #[t, t'] }) (v u : Value) (hd : a.eval d = v) (hs : a.eval s = u) {v' : Value} {w' : World}
    (hr : (Builtin.copy_ #[t, t'] o.type #[v, u]).run P w = .ok v' w') (h : wpList P ops Q rest (a.put o.dst v') w') : wpList P ops Q (o :: rest) a w :=
  wpList_plain hgd fun _ hK => by
    unfold Oper.wp execOp
    simp only [ho, resolve, invoke, builtin, Sem.run_bind, Sem.run_pure, Result.andThen_ok, List.map_toArray, List.map_cons, List.map_nil, hd, hs, hr]
    exact hK _ _ h
theorem balc {w u : World} {o : Obj} (h : Below w.heap.size w u) : Below w.heap.size w (u.alloc o) := h.alloc h.size o
theorem blk_drew {u : World} {b : Nat} {o : Obj} (h : u.heap[b]? = some o) : u.drew.heap[b]? = some o := h
theorem bdrw {B : Nat} {w u : World} (h : Below B w u) : Below B w u.drew := ⟨h.os, h.tape, h.output, h.size, h.block⟩
end Go.Herb
namespace Go.Proofs.YtchcelodeepjdaaGreatDoor.Ln
open Go.RowKit Go.Shelf Go.Herb

theorem infoB : (Tryz.prog.info? (73)).map (fun i => (i.zero, i.size, i.bytes)) = some (some (.agg #[.string ⟨#[]⟩, .int .u64 0, .int .u64 0]), 3, 32) := by kernel_rfl
theorem infoL : (Tryz.prog.info? (53)).map (fun i => (i.zero, i.size, i.bytes)) = some (some (.agg #[.int .u64 0, .int .u64 0]), 2, 16) := by kernel_rfl
theorem brc_one (x : Br) : ∀ v ∈ brc x, v.oneCell' = true := by
  intro v hv
  simp [brc] at hv
  rcases hv with rfl | rfl | rfl <;> rfl
theorem lnc_one (x : Ln) : ∀ v ∈ lnc x, v.oneCell' = true := by
  intro v hv
  simp [lnc] at hv
  rcases hv with rfl | rfl <;> rfl

/-- A tree at p. -/
structure TreeIs (w : World) (p : Nat) (bs : List Br) (ls : List Ln) : Prop where
  blk : ∃ ba bc la lc, w.heap[p]? = some (.cells #[.slice ba bs.length bc, .slice la ls.length lc, .int .i64 1] (168) (0, 0)) ∧ Brs w ba bs ∧ Lns w la ls
theorem TreeIs.lt {w : World} {p : Nat} {bs : List Br} {ls : List Ln} (h : TreeIs w p bs ls) : p < w.heap.size := by
  obtain ⟨_, _, _, _, h, _⟩ := h.blk
  exact lt_of_blk h
theorem TreeIs.ext {w w' : World} {p : Nat} {bs : List Br} {ls : List Ln} (h : TreeIs w p bs ls) (hb : Below w.heap.size w w') : TreeIs w' p bs ls := by
  have hl := h.lt
  obtain ⟨ba, bc, la, lc, h1, h2, h3⟩ := h.blk
  exact ⟨ba, bc, la, lc, blk_below h1 hb hl, h2.ext hb, h3.ext hb⟩

theorem made_any (ba : Option Addr) (bn bc : Nat) (la : Option Addr) (ln lc : Nat) (w : World) :
    Calls Tryz.prog (72) #[partsV ba bn bc la ln lc] w fun e w' => e = .returned (.pointer (some ⟨w.heap.size + 1, 0, none⟩)) ∧ w'.heap[w.heap.size + 1]? = some (.cells #[.slice ba bn bc, .slice la ln lc, .int .i64 1] (168) (0, 0)) ∧ Below w.heap.size w w' := by
  go_enter Tryz.func72, Tryz.ntmps72
  go_wp2_with fail
  go_ret
  exact ⟨rfl, blk_new_at (by simp) _, balc (balc (Below.refl _ _))⟩
set_option maxRecDepth 100000 in
theorem copied_any (ba : Option Addr) (bc n : Nat) (la : Option Addr) (lc m : Nat) (bs : List Br) (ls : List Ln) (w : World) (hB : Brs w ba bs) (hL : Lns w la ls) (hn : bs.length = n) (hm : ls.length = m) (h0 : 0 < n) (h1 : 0 < m) (hn1 : n < 1000000) (hm1 : m < 1000000) :
    Calls Tryz.prog (73) #[partsV ba n bc la m lc] w fun e w' => ∃ g h : Nat, e = .returned (partsV (some ⟨g, 0, none⟩) n n (some ⟨h, 0, none⟩) m m) ∧
      w'.heap[g]? = some (.cells (bs.flatMap brc).toArray (73) (0, 0)) ∧ w'.heap[h]? = some (.cells (ls.flatMap lnc).toArray (53) (0, 0)) ∧ w.heap.size ≤ g ∧ w.heap.size ≤ h ∧ g ≠ h ∧ Below w.heap.size w w' := by
  obtain ⟨i0, hin, hz0, hz1, hz2⟩ := info_parts infoB
  obtain ⟨i1, hin1, hy0, hy1, hy2⟩ := info_parts infoL
  obtain ⟨RB, hRB⟩ : ∃ RB : Array Value, RB = madeCells (Value.agg #[.string ⟨#[]⟩, .int .u64 0, .int .u64 0]).cells (n * 3) := ⟨_, rfl⟩
  obtain ⟨RL, hRL⟩ : ∃ RL : Array Value, RL = madeCells (Value.agg #[.int .u64 0, .int .u64 0]).cells (m * 2) := ⟨_, rfl⟩
  have hmB : ∀ u, (Instr.makeSlice (27) (.int .i64 (n : Int)) (.int .i64 (n : Int))).run Tryz.prog u = .ok (.slice (some ⟨u.heap.size, 0, none⟩) n n) (u.alloc (.cells RB (73))) := fun u => by
    have := run_make (P := Tryz.prog) u (27) (73) i0 _ Tryz.underlying27 hin hz0 .i64 .i64 n n (by omega) (by omega) (by rw [hz2]; omega) (by omega)
    rw [this, hRB, hz1]
    rfl
  have hmL : ∀ u, (Instr.makeSlice (28) (.int .i64 (m : Int)) (.int .i64 (m : Int))).run Tryz.prog u = .ok (.slice (some ⟨u.heap.size, 0, none⟩) m m) (u.alloc (.cells RL (53))) := fun u => by
    have := run_make (P := Tryz.prog) u (28) (53) i1 _ Tryz.underlying28 hin1 hy0 .i64 .i64 m m (by omega) (by omega) (by rw [hy2]; omega) (by omega)
    rw [this, hRL, hy1]
    rfl
  have hRBs : RB.size = n * 3 := by rw [hRB]; exact size_madeCells _ _
  have hRLs : RL.size = m * 2 := by rw [hRL]; exact size_madeCells _ _
  obtain ⟨W, hW⟩ : ∃ W : World, W = (w.alloc (.cells #[.slice ba n bc, .slice la m lc] (133))).alloc (.cells #[.slice none 0 0, .slice none 0 0] (133)) := ⟨_, rfl⟩
  have hx0 : W.heap[w.heap.size]? = some (.cells #[.slice ba n bc, .slice la m lc] (133) (0, 0)) := by rw [hW]; exact blk_alloc (blk_new_at rfl _)
  have HC : Hid (∀ u, Below W.heap.size W u → u.cell? ⟨w.heap.size, 0, none⟩ = some (.slice ba n bc) ∧ u.cell? ⟨w.heap.size, 1, none⟩ = some (.slice la m lc)) := Lib.hid (fun u hu => by
    have h0 := cell_of_blk (blk_below hx0 hu (lt_of_blk hx0)) 0
    have h1 := cell_of_blk (blk_below hx0 hu (lt_of_blk hx0)) 1
    simp at h0 h1
    exact ⟨h0, h1⟩)
  have hx1 : W.heap[w.heap.size + 1]? = some (.cells #[.slice none 0 0, .slice none 0 0] (133) (0, 0)) := by rw [hW]; exact blk_new_at (by simp) _
  clear hRB hRL hin hin1 hx0
  go_enter Tryz.func73, Tryz.ntmps73
  go_upto_region 1 with fail
  go_cut [3] (fun v wx => ∃ g h p : Nat, v = .pointer (some ⟨p, 0, none⟩) ∧ Hid (wx.heap[p]? = some (.cells #[.slice (some ⟨g, 0, none⟩) n n, .slice (some ⟨h, 0, none⟩) m m] (133) (0, 0)) ∧ wx.heap[g]? = some (.cells RB (73) (0, 0)) ∧ wx.heap[h]? = some (.cells RL (53) (0, 0)) ∧ w.heap.size + 2 ≤ g ∧ w.heap.size + 2 ≤ h ∧ g ≠ h ∧ w.heap.size + 2 ≤ p ∧ Below W.heap.size W wx))
  case first =>
    go_region_held3 (fun u => u.cell? ⟨w.heap.size, 0, none⟩ = some (.slice ba n bc) ∧ u.cell? ⟨w.heap.size, 1, none⟩ = some (.slice la m lc)) (exact HC.out _ (by rw [hW]; repeat (first | exact Below.refl _ _ | refine balc ?_ | refine bdrw ?_))) (first | fail)
    all_goals go_wp2_with fail
    all_goals go_meet
    all_goals refine ⟨_, _, _, rfl, Lib.hid ⟨by repeat (first | exact blk_new_at (by simp) _ | refine blk_alloc ?_ | refine blk_drew ?_), by repeat (first | exact blk_new_at (by simp) _ | refine blk_alloc ?_ | refine blk_drew ?_), by repeat (first | exact blk_new_at (by simp) _ | refine blk_alloc ?_ | refine blk_drew ?_), by omega, by omega, by omega, by omega, by rw [hW]; repeat (first | exact Below.refl _ _ | refine balc ?_ | refine bdrw ?_)⟩⟩
  case rest =>
    obtain ⟨g, h, p, rfl, hf⟩ := hcut
    obtain ⟨hp, hgB, hhL, f1, f2, f3, f4, hbw⟩ := hf.out
    have hWs : W.heap.size = w.heap.size + 2 := by rw [hW]; simp
    have hBW : Below w.heap.size w W := by rw [hW]; exact balc (balc (Below.refl _ _))
    have hBw := hBW.trans (hbw.mono (by omega))
    obtain ⟨w1, hr1, hg1, ho1, hs1, hb1⟩ := run_copy_full (P := Tryz.prog) brc_len (by decide) brc_one wc (27) (27) (73) Tryz.underlying27 (by kernel_rfl) g n n bc ba RB (73) bs (hB.ext hBw) hn h0 hgB hRBs
    have hb1W := hb1 _ _ (by omega) hbw
    have hb1w := hBW.trans (hb1W.mono (by omega))
    obtain ⟨w2, hr2, hg2, ho2, hs2, hb2⟩ := run_copy_full (P := Tryz.prog) lnc_len (by decide) lnc_one w1 (28) (28) (53) Tryz.underlying28 (by kernel_rfl) h m m lc la RL (53) ls (hL.ext hb1w) hm h1 (by rw [ho1 _ (fun e => f3 e.symm)]; exact hhL) hRLs
    have hb2W := hb2 _ _ (by omega) hb1W
    have hpl := lt_of_blk hp
    have hgl := lt_of_blk hgB
    have hhl := lt_of_blk hhL
    have hpg : p ≠ g := fun e => by
      rw [e, hgB] at hp
      injection hp with hp
      injection hp with h2 h3
      exact absurd h3 (by decide)
    have hph : p ≠ h := fun e => by
      rw [e, hhL] at hp
      injection hp with hp
      injection hp with h2 h3
      exact absurd h3 (by decide)
    have hp1 := (ho1 p hpg).trans hp
    have hp2 := (ho2 p hph).trans hp1
    have a0 := cell_of_blk hp 0
    have a1 := cell_of_blk hp1 1
    have a2 := cell_of_blk hp2 0
    have a3 := cell_of_blk hp2 1
    simp at a0 a1 a2 a3
    obtain ⟨k0, -⟩ := HC.out wc hbw
    obtain ⟨-, k1⟩ := HC.out w1 hb1W
    have hx2 := blk_below hx1 hb2W (by omega)
    have e0 := cell_of_blk hx2 0
    have e1 := cell_of_blk hx2 1
    have e2 := frozen_of_blk hx2 0
    have e3 := frozen_of_blk hx2 1
    simp at e0 e1
    have HG := Lib.hid (show w2.heap[g]? = some (.cells (bs.flatMap brc).toArray (73) (0, 0)) ∧ w2.heap[h]? = some (.cells (ls.flatMap lnc).toArray (53) (0, 0)) ∧ Below W.heap.size W w2 ∧ Below w.heap.size w W ∧ W.heap.size = w.heap.size + 2 from ⟨by rw [ho2 _ f3]; exact hg1, hg2, hb2W, hBW, hWs⟩)
    clear hB hL hn hm hg1 ho1 hs1 hb1 hb1W hb1w hg2 ho2 hs2 hb2 hb2W hBW hBw hbw hp hp1 hp2 hx1 hx2 hgB hhL hf hpl hgl hhl HC hmB hmL hRBs hRLs hW hz0 hz1 hz2 hy0 hy1 hy2
    go_wp2_with (at_builtin; first | refine wpList_copy_eq _ rfl _ _ (27) (27) rfl _ _ rfl rfl (hr1 _) ?_ | refine wpList_copy_eq _ rfl _ _ (28) (28) rfl _ _ rfl rfl (hr2 _) ?_)
    (try simp only [Exit.inBlock, Exit.then])
    refine bodyPost_ret (v := partsV (some ⟨g, 0, none⟩) n n (some ⟨h, 0, none⟩) m m) (by simp [results, Tryz.results73, go_sem, *]) rfl ?_
    obtain ⟨q1, q2, q3, q4, q5⟩ := HG.out
    exact ⟨g, h, rfl, blk_setCell_other (blk_setCell_other q1 (by show g ≠ w.heap.size + 1; omega) _) (by show g ≠ w.heap.size + 1; omega) _, blk_setCell_other (blk_setCell_other q2 (by show h ≠ w.heap.size + 1; omega) _) (by show h ≠ w.heap.size + 1; omega) _, by omega, by omega, f3,
      ((q4.trans (q3.mono (by omega))).setCell (by show w.heap.size ≤ w.heap.size + 1; omega) _).setCell (by show w.heap.size ≤ w.heap.size + 1; omega) _⟩
end Go.Proofs.YtchcelodeepjdaaGreatDoor.Ln

namespace Go.Herb
open Go.RowKit
theorem els_of_blk {α : Type} {enc : α → List Value} {s g : Nat} {w : World} {t : TypeId} {fr : Nat × Nat} {xs : List α} (hs : ∀ x, (enc x).length = s) (h : w.heap[g]? = some (.cells (xs.flatMap enc).toArray t fr)) : Els enc s w (some ⟨g, 0, none⟩) xs :=
  ⟨fun i hi => ⟨g, 0, rfl, lt_of_blk h, fun j c hj => by
    have hjs : j < s := by
      rcases Nat.lt_or_ge j s with h' | h'
      · exact h'
      · rw [List.getElem?_eq_none (by rw [hs]; exact h')] at hj; cases hj
    rw [cell_of_blk h, Nat.zero_add]
    simp only [List.getElem?_toArray]
    rw [flatMap_get hs xs i j hi hjs]
    exact hj⟩⟩
theorem bytes_of_list {a b : ByteArray} (h : a.toList = b.toList) : a = b := by
  rw [ByteArray.toList_eq, ByteArray.toList_eq] at h
  obtain ⟨⟨a⟩⟩ := a
  obtain ⟨⟨b⟩⟩ := b
  simp at h
  rw [h]
end Go.Herb
namespace Go.Proofs.YtchcelodeepjdaaGreatDoor.Ln
open Go.RowKit Go.Shelf Go.Herb

theorem TreeIs.mk2 {w : World} {p g h n m bc lc : Nat} {bs : List Br} {ls : List Ln} (hn : bs.length = n) (hm : ls.length = m) (hp : w.heap[p]? = some (.cells #[.slice (some ⟨g, 0, none⟩) n bc, .slice (some ⟨h, 0, none⟩) m lc, .int .i64 1] (168) (0, 0)))
    (hg : w.heap[g]? = some (.cells (bs.flatMap brc).toArray (73) (0, 0))) (hh : w.heap[h]? = some (.cells (ls.flatMap lnc).toArray (53) (0, 0))) : TreeIs w p bs ls :=
  ⟨⟨_, _, _, _, by rw [hn, hm]; exact hp, els_of_blk brc_len hg, els_of_blk lnc_len hh⟩⟩

def mainB : ByteArray := ⟨#[109, 97, 105, 110]⟩
end Go.Proofs.YtchcelodeepjdaaGreatDoor.Ln

namespace Go.Proofs.YtchcelodeepjdaaGreatDoor.Ln
open Go.RowKit Go.Shelf Go.Herb

/-- Where a branch of a name stands that is not there yet. -/
structure PlaceB (bs : List Br) (k : ByteArray) (i : Nat) : Prop where
  le : i ≤ bs.length
  lo : ∀ (j : Nat) (x : Br), j < i → bs[j]? = some x → x.1.toList < k.toList
  hi : ∀ (j : Nat) (x : Br), i ≤ j → bs[j]? = some x → k.toList < x.1.toList
theorem PlaceB.srt {bs : List Br} {k : ByteArray} {i : Nat} (h : PlaceB bs k i) (hs : SrtB bs) (l m : Int) : SrtB (bs.take i ++ (k, l, m) :: bs.drop i) := by
  unfold SrtB at hs ⊢
  rw [List.pairwise_append, List.pairwise_cons]
  have hlo : ∀ a ∈ bs.take i, a.1.toList < k.toList := fun a ha => by
    obtain ⟨j, hj, rfl⟩ := List.getElem_of_mem ha
    rw [List.length_take] at hj
    rw [List.getElem_take]
    exact h.lo j _ (by omega) (List.getElem?_eq_getElem _)
  have hhi : ∀ a ∈ bs.drop i, k.toList < a.1.toList := fun a ha => by
    obtain ⟨j, hj, rfl⟩ := List.getElem_of_mem ha
    rw [List.getElem_drop]
    exact h.hi (i + j) _ (by omega) (List.getElem?_eq_getElem _)
  refine ⟨hs.sublist (List.take_sublist _ _), ⟨hhi, hs.sublist (List.drop_sublist _ _)⟩, fun a ha b hb => ?_⟩
  rcases List.mem_cons.1 hb with rfl | hb
  · exact hlo a ha
  · exact List.lt_trans (hlo a ha) (hhi b hb)
end Go.Proofs.YtchcelodeepjdaaGreatDoor.Ln

namespace Go.Herb
open Go.RowKit

/-- Every block is as it was, but b, and but what is no cells from N on. -/
structure Turn (b N : Nat) (A B : World) : Prop where
  os : B.os = A.os
  tape : B.tape = A.tape
  output : B.output = A.output
  size : A.heap.size ≤ B.heap.size
  kept : ∀ (k : Nat) (o : Obj), A.heap[k]? = some o → k ≠ b → (k < N ∨ o.isCells = true) → B.heap[k]? = some o
/-- Every block is as it was, but b. -/
structure TurnI (b : Nat) (A B : World) : Prop where
  os : B.os = A.os
  tape : B.tape = A.tape
  output : B.output = A.output
  size : A.heap.size ≤ B.heap.size
  kept : ∀ (k : Nat) (o : Obj), A.heap[k]? = some o → k ≠ b → B.heap[k]? = some o
theorem TurnI.turn {b N : Nat} {A B : World} (h : TurnI b A B) : Turn b N A B := ⟨h.os, h.tape, h.output, h.size, fun k o ho hk _ => h.kept k o ho hk⟩
theorem TurnI.of_below {b : Nat} {A B : World} (h : Below A.heap.size A B) : TurnI b A B := ⟨h.os, h.tape, h.output, h.size, fun _ _ ho _ => blk_below ho h (lt_of_blk ho)⟩
theorem TurnI.setCell {b j : Nat} {A : World} (v : Value) : TurnI b A (A.setCell ⟨b, j, none⟩ v) :=
  ⟨rfl, rfl, rfl, by rw [World.size_setCell]; exact Nat.le_refl _, fun _ _ ho hk => blk_setCell_other ho hk v⟩
theorem TurnI.trans {b : Nat} {A B C : World} (h : TurnI b A B) (k : TurnI b B C) : TurnI b A C :=
  ⟨k.os.trans h.os, k.tape.trans h.tape, k.output.trans h.output, Nat.le_trans h.size k.size, fun i o ho hi => k.kept i o (h.kept i o ho hi) hi⟩
theorem TurnI.below {b B0 : Nat} {w A B : World} (h : TurnI b A B) (hw : Below B0 w A) (hb : B0 ≤ b) (hB : B0 ≤ w.heap.size) : Below B0 w B :=
  ⟨h.os.trans hw.os, h.tape.trans hw.tape, h.output.trans hw.output, Nat.le_trans hw.size h.size, fun k hk => by
    have hl : k < A.heap.size := by have := hw.size; omega
    rw [← hw.block k hk, Array.getElem?_eq_getElem hl]
    exact h.kept k _ (Array.getElem?_eq_getElem hl) (by omega)⟩
theorem Turn.below {b N B0 : Nat} {w A B : World} (h : Turn b N A B) (hw : Below B0 w A) (hb : B0 ≤ b) (hN : B0 ≤ N) (hB : B0 ≤ w.heap.size) : Below B0 w B :=
  ⟨h.os.trans hw.os, h.tape.trans hw.tape, h.output.trans hw.output, Nat.le_trans hw.size h.size, fun k hk => by
    have hl : k < A.heap.size := by have := hw.size; omega
    rw [← hw.block k hk, Array.getElem?_eq_getElem hl]
    exact h.kept k _ (Array.getElem?_eq_getElem hl) (by omega) (.inl (by omega))⟩
theorem Turn.putObj {b N l : Nat} {A : World} {o : Obj} (o' : Obj) (hl : A.heap[l]? = some o) (ho : o.isCells = false) (hN : N ≤ l) : Turn b N A (A.putObj l o') :=
  ⟨rfl, rfl, rfl, by simp [World.putObj], fun k x hk _ hx => by
    have hne : k ≠ l := fun e => by
      subst e
      rw [hl] at hk
      injection hk with hk
      subst hk
      rcases hx with h1 | h1
      · omega
      · rw [ho] at h1; cases h1
    exact (World.putObj_heap_other hne).trans hk⟩
/-- What a round keeps for the iterator: all below N but bo; and what is no cells. -/
structure KeepTo (N bo : Nat) (A B : World) : Prop where
  size : A.heap.size ≤ B.heap.size
  kept : ∀ (k : Nat), k < N → k ≠ bo → B.heap[k]? = A.heap[k]?

variable {P : Program}
end Go.Herb

namespace Go.Proofs.YtchcelodeepjdaaGreatDoor.Ln
open Go.RowKit Go.Shelf Go.Herb

theorem els_keep {α : Type} {enc : α → List Value} {s : Nat} {w w' : World} {a : Option Addr} {xs : List α} (h : Els enc s w a xs) (hs : w.heap.size ≤ w'.heap.size) (hw : ∀ k, k < w.heap.size → w'.heap[k]? = w.heap[k]?) : Els enc s w' a xs :=
  ⟨fun i hi => by
    obtain ⟨b, o', ha, hlt, hc⟩ := h.get i hi
    refine ⟨b, o', ha, by omega, fun j c hj => ?_⟩
    rw [← hc j c hj]
    unfold World.cell?
    simp only [hw b hlt]⟩
theorem TreeIs.keep {w w' : World} {p : Nat} {bs : List Br} {ls : List Ln} (h : TreeIs w p bs ls) (hs : w.heap.size ≤ w'.heap.size) (hw : ∀ k, k < w.heap.size → w'.heap[k]? = w.heap[k]?) : TreeIs w' p bs ls := by
  have hl := h.lt
  obtain ⟨ba, bc, la, lc, h1, h2, h3⟩ := h.blk
  exact ⟨ba, bc, la, lc, (hw p hl).trans h1, els_keep h2 hs hw, els_keep h3 hs hw⟩
/-- What the iterator has of the world. -/
structure UpW (w0 : World) (p bt b : Nat) (line : Int) (X : World) : Prop where
  size : w0.heap.size ≤ X.heap.size
  old : ∀ k, k < w0.heap.size → X.heap[k]? = w0.heap[k]?
  tree : X.heap[bt]? = some (.cells #[.pointer (some ⟨p, 0, none⟩)] (80) (0, 0))
  at_ : X.heap[b]? = some (.cells #[.int .u64 line] (26) (0, 0))
theorem UpW.ext {w0 X u : World} {p bt b : Nat} {line : Int} (h : UpW w0 p bt b line X) (hu : Below X.heap.size X u) : UpW w0 p bt b line u :=
  ⟨Nat.le_trans h.size hu.size, fun k hk => (hu.block k (by have := h.size; omega)).trans (h.old k hk), blk_below h.tree hu (lt_of_blk h.tree), blk_below h.at_ hu (lt_of_blk h.at_)⟩
theorem UpW.keep {w0 X u : World} {p bt b N bo : Nat} {line : Int} (h : UpW w0 p bt b line X) (hk : KeepTo N bo X u) (h0 : w0.heap.size ≤ N) (hbo : w0.heap.size ≤ bo) (ht : bt < N) (hb : b < N) (h1 : bt ≠ bo) (h2 : b ≠ bo) : UpW w0 p bt b line u :=
  ⟨Nat.le_trans h.size hk.size, fun k hlt => (hk.kept k (by omega) (by omega)).trans (h.old k hlt), (hk.kept bt ht h1).trans h.tree, (hk.kept b hb h2).trans h.at_⟩
theorem UpW.set {w0 X : World} {p bt b : Nat} {line : Int} (h : UpW w0 p bt b line X) (hb : w0.heap.size ≤ b) (h1 : bt ≠ b) (q : Int) : UpW w0 p bt b q (X.setCell ⟨b, 0, none⟩ (.int .u64 q)) :=
  ⟨by rw [World.size_setCell]; exact h.size, fun k hk => (Below.heap_setCell _ _ _ _ (by show k ≠ b; omega)).trans (h.old k hk), blk_setCell_other h.tree h1 _, blk_setCell h.at_ _⟩

end Go.Proofs.YtchcelodeepjdaaGreatDoor.Ln

namespace Go.Proofs.YtchcelodeepjdaaGreatDoor.Ln
open Go.RowKit Go.Shelf Go.Herb
attribute [local go_sem] Oper.semAt_some

theorem wpListIn_append_run {F : Fence} {n : Nat} {P : Program} {ops : Array Oper} {rest : List Oper} {o : Oper} {a : Act} {Q : Exit → Act → World → Prop} (w : World) (hgd : o.guard = none) (s x : Operand) (t tn : TypeId)
    (ho : o.op = .call { callee := .builtin .append, args := #[s, x], argTypes := #[t, tn] }) (vs vx : Value) (hs : a.eval s = vs) (hx : a.eval x = vx)
    (v' : Value) (w' : World) (hr : (Builtin.append_ #[t, tn] o.type #[vs, vx]).run P w = .ok v' w')
    (h : wpListIn F n P ops Q rest (a.put o.dst v') w') : wpListIn F n P ops Q (o :: rest) a w := by
  refine wpListIn_plain hgd fun K hK' => ?_
  unfold Oper.wpIn
  refine ⟨?_, ?_⟩
  · simp [Oper.about, ho, resolve, Target.leads, Sem.run_pure]
  · rw [Oper.semAt_plain F _ _ (by rw [ho]; intro c hc'; cases hc')]
    simp [execOp, ho, resolve, invoke, builtin, hs, hx, hr, Result.andThen]
    exact hK' _ _ h
end Go.Proofs.YtchcelodeepjdaaGreatDoor.Ln
