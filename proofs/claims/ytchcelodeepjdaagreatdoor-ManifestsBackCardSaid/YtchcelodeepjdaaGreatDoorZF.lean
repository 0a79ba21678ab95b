/- How tables, shelves and roots are read. No condition. · manifests.paired; slices.Equal at numbers. Condition: fewer than 1000000 branches and vectors. -/
import Derived.Test.YtchcelodeepjdaaGreatDoorZC
import Derived.Test.YtchcelodeepjdaaGreatDoorOR
import Derived.Test.YtchcelodeepjdaaGreatDoorOG
import Derived.Test.YtchcelodeepjdaaGreatDoorLR
import Derived.Deep.Cut
import Derived.Deep.CutBlock
import Derived.BigQuiet
import Derived.Lib.AppendZeros
namespace Go.Proofs.YtchcelodeepjdaaGreatDoor.Ln
open Go.ChangeShapes Go.WideShapes Go.ChangeAt Go.RowKit Go.Herb Go.Deep

section
variable {H : Type} {enc : TypeId × Value → H} {w : World}
theorem u32_wf {x : Int} (h : (Lit.int .u32 x).wf = true) : 0 ≤ x ∧ x < 4294967296 := by
  simp [Lit.wf, IntKind.min, IntKind.max, IntKind.signed, IntKind.bits] at h
  omega
set_option maxRecDepth 100000 in
theorem rd_tables {fuel : Nat} {cs : List Value} {x : DataW H × List MemPlace} (h : DataW.trod enc Tryz.prog w 0 (fun _ => true) true fuel (54) cs = some x) :
    ∃ l : Lv, cs = [lvV l] ∧ LvOk w l := by
  have hfs : Tryz.prog.underlying (51) = some (.struct (Tryz.prog.fieldsOf (51))) := by kernel_rfl
  rcases open_slice_fields Tryz.underlying54 hfs (by kernel_rfl) (by kernel_rfl) h with h0 | ⟨a, len, cap, hcs, hl, hm, hi⟩
  · exact ⟨⟨none, 0, []⟩, h0, ⟨Els.nil _ _ _ _, fun _ => rfl, Nat.le_refl _, by unfold maxLen; decide, by simp⟩⟩
  · obtain ⟨xs, hlen, hq, hE⟩ := els_of_cells (enc := tbc) (s := 4) (w := w) (a := a) (Q := fun t : Tb => TbW t) len (fun _ => by simp [tbc]) (fun i hil => by
      obtain ⟨n, hj⟩ := hi i hil
      have hsz : (Tryz.prog.fieldsOf (51)).size = 4 := by kernel_rfl
      rw [hsz] at hj
      obtain ⟨v0, y0, c0, e0⟩ := fieldAt (Q := fun j t => ∃ v y, w.cell? (a.add (i * 4 + j)) = some v ∧ DataW.trod enc Tryz.prog w 0 (fun _ => true) true n t [v] = some y) hj 0 (26) (by kernel_rfl)
      obtain ⟨v1, y1, c1, e1⟩ := fieldAt (Q := fun j t => ∃ v y, w.cell? (a.add (i * 4 + j)) = some v ∧ DataW.trod enc Tryz.prog w 0 (fun _ => true) true n t [v] = some y) hj 1 (49) (by kernel_rfl)
      obtain ⟨v2, y2, c2, e2⟩ := fieldAt (Q := fun j t => ∃ v y, w.cell? (a.add (i * 4 + j)) = some v ∧ DataW.trod enc Tryz.prog w 0 (fun _ => true) true n t [v] = some y) hj 2 (9) (by kernel_rfl)
      obtain ⟨v3, y3, c3, e3⟩ := fieldAt (Q := fun j t => ∃ v y, w.cell? (a.add (i * 4 + j)) = some v ∧ DataW.trod enc Tryz.prog w 0 (fun _ => true) true n t [v] = some y) hj 3 (9) (by kernel_rfl)
      obtain ⟨n0, hn0, _, w0⟩ := DataW.trod_int Tryz.underlying26 e0
      obtain ⟨n1, hn1, _, w1⟩ := DataW.trod_int Tryz.underlying49 e1
      obtain ⟨n2, hn2, _, w2⟩ := DataW.trod_string Tryz.underlying9 e2
      obtain ⟨n3, hn3, _, w3⟩ := DataW.trod_string Tryz.underlying9 e3
      simp only [List.cons.injEq, and_true] at hn0 hn1 hn2 hn3
      subst hn0 hn1 hn2 hn3
      refine ⟨⟨n0, n1, n2, n3⟩, ⟨w0, u32_wf w1, w2, w3⟩, fun j c hj => ?_⟩
      match j, hj with
      | 0, hj => simp [tbc] at hj; subst hj; exact c0
      | 1, hj => simp [tbc] at hj; subst hj; exact c1
      | 2, hj => simp [tbc] at hj; subst hj; exact c2
      | 3, hj => simp [tbc] at hj; subst hj; exact c3
      | j + 4, hj => simp [tbc] at hj)
    subst hlen
    exact ⟨⟨some a, cap, xs⟩, hcs, ⟨hE, (fun h => by cases h), hl, hm, hq⟩⟩
set_option maxRecDepth 100000 in
theorem rd_shelf {fuel : Nat} {cs : List Value} {x : DataW H × List MemPlace} (h : DataW.trod enc Tryz.prog w 0 (fun _ => true) true fuel (57) cs = some x) :
    ∃ s : Sv, cs = shc s ∧ SvOk w s := by
  have k0 : Tryz.prog.cellsOf (57) = 4 := by kernel_rfl
  have k1 : Tryz.prog.cellsOf (26) = 1 := by kernel_rfl
  have k2 : Tryz.prog.cellsOf (55) = 3 := by kernel_rfl
  have k3 : Tryz.prog.cellsOf (54) = 1 := by kernel_rfl
  obtain ⟨hlen, n, hf⟩ := rd_struct (t := (57)) (by kernel_rfl) h
  rw [k0] at hlen
  match cs, hlen with
  | [c0, c1, c2, c3], _ =>
    obtain ⟨y0, e0⟩ := hf 0 0 (26) (by kernel_rfl)
    obtain ⟨y1, e1⟩ := hf 1 1 (55) (by kernel_rfl)
    rw [k1] at e0
    rw [k2] at e1
    simp only [List.drop_zero, List.take_succ_cons, List.take_zero, List.drop_succ_cons] at e0 e1
    obtain ⟨n0, hn0, _, w0⟩ := DataW.trod_int Tryz.underlying26 e0
    obtain ⟨ys, m, _, _, _, hyl, ha⟩ := DataW.trod_array Tryz.underlying55 e1
    have a0 := ha 0 (by omega)
    have a1 := ha 1 (by omega)
    have a2 := ha 2 (by omega)
    rw [k3] at a0 a1 a2
    simp only [Nat.mul_one, List.drop_zero, List.take_succ_cons, List.take_zero, List.drop_succ_cons] at a0 a1 a2
    obtain ⟨l0, h0, i0⟩ := rd_tables (a0.trans (List.getElem?_eq_getElem (by omega)))
    obtain ⟨l1, h1, i1⟩ := rd_tables (a1.trans (List.getElem?_eq_getElem (by omega)))
    obtain ⟨l2, h2, i2⟩ := rd_tables (a2.trans (List.getElem?_eq_getElem (by omega)))
    simp only [List.cons.injEq, and_true] at hn0 h0 h1 h2
    subst hn0 h0 h1 h2
    exact ⟨⟨n0, l0, l1, l2⟩, rfl, i0, i1, i2, w0⟩
set_option maxRecDepth 100000 in
theorem rd_shelves {fuel : Nat} {cs : List Value} {x : DataW H × List MemPlace} (h : DataW.trod enc Tryz.prog w 0 (fun _ => true) true fuel (30) cs = some x) :
    ∃ (a : Option Addr) (cap : Nat) (xs : List Sv), cs = [.slice a xs.length cap] ∧ ShIn w a xs ∧ xs.length ≤ cap ∧ cap ≤ maxLen ∧ (a = none → cap = 0) := by
  have k0 : Tryz.prog.cellsOf (57) = 4 := by kernel_rfl
  rcases open_slice Tryz.underlying30 h with h0 | ⟨a, len, cap, m, n, D, Pl, hcs, hb, hl, hm, hmm, hx, hD⟩
  · exact ⟨none, 0, [], h0.1, ⟨Els.nil _ _ _ _, by simp⟩, Nat.le_refl _, by unfold maxLen; decide, fun _ => rfl⟩
  · obtain ⟨xs, hlen, hq, hE⟩ := els_of_cells (enc := shc) (s := 4) (w := w) (a := a) (Q := fun s : Sv => SvOk w s) len (fun _ => by simp [shc]) (fun i hil => by
      obtain ⟨cs', hc, ht'⟩ := hD i (by rw [hmm]; split <;> omega)
      rw [k0] at hc
      obtain ⟨s, rfl, hs⟩ := rd_shelf ht'
      obtain ⟨-, hcl, hat⟩ := World.cells?_some hc
      refine ⟨s, hs, fun j c hj => ?_⟩
      have hj4 : j < 4 := by
        rcases Nat.lt_or_ge j 4 with h' | h'
        · exact h'
        · rw [List.getElem?_eq_none (by rw [shc_len]; exact h')] at hj; cases hj
      have := (hat j hj4).trans hj
      rw [← this]
      congr 1
      simp only [Addr.add_add])
    subst hlen
    exact ⟨some a, cap, xs, hcs, ⟨hE, hq⟩, hl, hm, fun h => by cases h⟩
/-- A root, and where its lists lie. -/
structure Rv where
  seq : Int
  log : Int
  next : Int
  ba : Option Addr
  bc : Nat
  bs : List Br
  la : Option Addr
  lc : Nat
  ls : List Ln
  va : Option Addr
  vc : Nat
  vs : List Vx.Vc
  sa : Option Addr
  sc : Nat
  sh : List Sv
def rtc (r : Rv) : List Value := [.int .u64 r.seq, .int .u64 r.log, .int .u64 r.next, .slice r.ba r.bs.length r.bc, .slice r.la r.ls.length r.lc, .slice r.va r.vs.length r.vc, .slice r.sa r.sh.length r.sc]
abbrev rtV (r : Rv) : Value := .agg #[.int .u64 r.seq, .int .u64 r.log, .int .u64 r.next, .slice r.ba r.bs.length r.bc, .slice r.la r.ls.length r.lc, .slice r.va r.vs.length r.vc, .slice r.sa r.sh.length r.sc]
def Rv.says (r : Rv) : Rt := ⟨r.seq, r.log, r.next, r.bs, r.ls, Vx.vsOf r.vs, r.sh.map Sv.says⟩
structure RtIn (w : World) (r : Rv) : Prop where
  seq : U64 r.seq
  log : U64 r.log
  next : U64 r.next
  brs : SIn brc 3 (fun q : Br => q.1.size ≤ maxLen ∧ U64 q.2.1 ∧ U64 q.2.2) w r.ba r.bc r.bs
  lns : SIn lnc 2 (fun q : Ln => U64 q.1 ∧ U64 q.2) w r.la r.lc r.ls
  vcs : Vx.VIn w r.va r.vs
  shs : ShIn w r.sa r.sh
  sl : r.sh.length ≤ r.sc
  sm : r.sc ≤ maxLen
  sn : r.sa = none → r.sc = 0
  vl : r.vs.length ≤ r.vc ∧ r.vc ≤ maxLen
set_option maxRecDepth 100000 in
theorem rd_root {fuel : Nat} {cs : List Value} {x : DataW H × List MemPlace} (h : DataW.trod enc Tryz.prog w 0 (fun _ => true) true fuel (32) cs = some x) :
    ∃ r : Rv, cs = rtc r ∧ RtIn w r := by
  have k0 : Tryz.prog.cellsOf (32) = 7 := by kernel_rfl
  have k1 : Tryz.prog.cellsOf (26) = 1 := by kernel_rfl
  have k2 : Tryz.prog.cellsOf (27) = 1 := by kernel_rfl
  have k3 : Tryz.prog.cellsOf (28) = 1 := by kernel_rfl
  have k4 : Tryz.prog.cellsOf (29) = 1 := by kernel_rfl
  have k5 : Tryz.prog.cellsOf (30) = 1 := by kernel_rfl
  obtain ⟨hlen, n, hf⟩ := rd_struct (t := (32)) (by kernel_rfl) h
  rw [k0] at hlen
  match cs, hlen with
  | [c0, c1, c2, c3, c4, c5, c6], _ =>
    obtain ⟨y0, e0⟩ := hf 0 0 (26) (by kernel_rfl)
    obtain ⟨y1, e1⟩ := hf 1 1 (26) (by kernel_rfl)
    obtain ⟨y2, e2⟩ := hf 2 2 (26) (by kernel_rfl)
    obtain ⟨y3, e3⟩ := hf 3 3 (27) (by kernel_rfl)
    obtain ⟨y4, e4⟩ := hf 4 4 (28) (by kernel_rfl)
    obtain ⟨y5, e5⟩ := hf 5 5 (29) (by kernel_rfl)
    obtain ⟨y6, e6⟩ := hf 6 6 (30) (by kernel_rfl)
    rw [k1] at e0 e1 e2
    rw [k2] at e3
    rw [k3] at e4
    rw [k4] at e5
    rw [k5] at e6
    simp only [List.drop_zero, List.take_succ_cons, List.take_zero, List.drop_succ_cons] at e0 e1 e2 e3 e4 e5 e6
    obtain ⟨n0, hn0, _, w0⟩ := DataW.trod_int Tryz.underlying26 e0
    obtain ⟨n1, hn1, _, w1⟩ := DataW.trod_int Tryz.underlying26 e1
    obtain ⟨n2, hn2, _, w2⟩ := DataW.trod_int Tryz.underlying26 e2
    obtain ⟨ba, bc, bs, hn3, w3⟩ := rd_branches e3
    obtain ⟨la, lc, ls, hn4, w4⟩ := rd_lines e4
    obtain ⟨va, vc, vs, hn5, w5⟩ := Vx.rd_vectors e5
    obtain ⟨sa, sc, sh, hn6, w6, w7, w8, w9⟩ := rd_shelves e6
    have hvl : vs.length ≤ vc ∧ vc ≤ maxLen := by
      rcases open_slice Tryz.underlying29 e5 with h0 | ⟨a, len, cap, m, n, D, Pl, hcs, hb, hl, hm, -⟩
      · have h1 := hn5.symm.trans h0.1
        simp only [List.cons.injEq, and_true, Value.slice.injEq] at h1
        obtain ⟨-, h2, h3⟩ := h1
        rw [h2, h3]
        exact ⟨Nat.le_refl _, Nat.zero_le _⟩
      · have h1 := hn5.symm.trans hcs
        simp only [List.cons.injEq, and_true, Value.slice.injEq] at h1
        obtain ⟨-, h2, h3⟩ := h1
        rw [h2, h3]
        exact ⟨hl, hm⟩
    simp only [List.cons.injEq, and_true] at hn0 hn1 hn2 hn3 hn4 hn5 hn6
    subst hn0 hn1 hn2 hn3 hn4 hn5 hn6
    exact ⟨⟨n0, n1, n2, ba, bc, bs, la, lc, ls, va, vc, vs, sa, sc, sh⟩, rfl, ⟨w0, w1, w2, w3, w4, w5, w6, w7, w8, w9, hvl⟩⟩
end
end Go.Proofs.YtchcelodeepjdaaGreatDoor.Ln

namespace Go.Proofs.YtchcelodeepjdaaGreatDoor.Ln
open Go.RowKit Go.Shelf Go.Herb

set_option maxRecDepth 100000 in
theorem equalU_any (a b : Option Addr) (ca cb n m : Nat) (xs ys : List Int) (w : World) (hx : Els Vx.nu 1 w a xs) (hy : Els Vx.nu 1 w b ys) (hn : xs.length = n) (hm : ys.length = m) (hl : n < 1000000) :
    Calls Tryz.prog (75) #[.slice a n ca, .slice b m cb] w fun e w' => ∃ q : Bool, e = .returned (.bool q) ∧ (q = true ↔ xs = ys) ∧ Below w.heap.size w w' := by
  have HX := Lib.hid hx
  have HY := Lib.hid hy
  have HN := Lib.hid hn
  have HM := Lib.hid hm.symm
  have HB0 := Lib.hid (Below.refl w.heap.size w)
  clear hx hy hn hm
  go_enter Tryz.func75, Tryz.ntmps75
  by_cases hnm : n = m
  case neg =>
    have h1 : ((n : Int) == (m : Int)) = false := beq_eq_false_iff_ne.2 (by omega)
    have h2 : ¬ (n : Int) = (m : Int) := by omega
    go_wp2_with fail
    go_ret
    exact ⟨false, rfl, ⟨(fun h => by cases h), fun h => absurd (by rw [← HN.out, h, ← HM.out]) hnm⟩, HB0.out⟩
  subst hnm
  have h1 : ((n : Int) == (n : Int)) = true := beq_self_eq_true _
  go_wp2_with fail
  go_loopg [13] n (fun gk iv wr => ∃ k : Nat, k + gk = n ∧ iv = .int .i64 k ∧ Hid (xs.take k = ys.take k) ∧ Hid (Below w.heap.size w wr))
  case atStart => exact ⟨0, by omega, rfl, Lib.hid rfl, HB0⟩
  case round =>
    obtain ⟨k, hk, rfl, HE, HB⟩ := hrel
    by_cases hlt : k < n
    · have hkx : k < xs.length := by have := HN.out; omega
      have hky : k < ys.length := by have := HM.out; omega
      obtain ⟨xb, xo, rfl, hxl, hxc⟩ := HX.out.get k hkx
      obtain ⟨yb, yo, rfl, hyl, hyc⟩ := HY.out.get k hky
      have c0 := (HB.out.cell (p := ⟨xb, _, none⟩) hxl).trans (hxc 0 _ rfl)
      have c1 := (HB.out.cell (p := ⟨yb, _, none⟩) hyl).trans (hyc 0 _ rfl)
      simp only [Nat.add_zero, Nat.mul_one] at c0 c1
      have HXE := Lib.hid (List.take_succ_eq_append_getElem hkx)
      have HYE := Lib.hid (List.take_succ_eq_append_getElem hky)
      have HXG := Lib.hid (List.getElem?_eq_getElem hkx)
      have HYG := Lib.hid (List.getElem?_eq_getElem hky)
      clear hxc hyc
      generalize xs[k] = x at *
      generalize ys[k] = y at *
      have i0 : (0 : Int) ≤ (k : Int) := by omega
      have i1 : (k : Int) < (n : Int) := by omega
      have hw1 : IntKind.i64.wrap ((k : Int) + 1) = (k : Int) + 1 := IntWalk.i64_in _ (by omega)
      by_cases hxy : x = y
      · have d1 : (x == y) = true := by rw [hxy]; exact beq_self_eq_true _
        have HE2 := Lib.hid (show xs.take (k + 1) = ys.take (k + 1) by rw [HXE.out, HYE.out, HE.out, hxy])
        clear hxy
        go_upto_region 6 with fail
        go_quiet (fail)
        have HBu := Lib.hid (show Below w.heap.size w (wr.drewN nq) from ⟨HB.out.os, HB.out.tape, HB.out.output, HB.out.size, HB.out.block⟩)
        go_wp2
        go_roundg (gk - 1)
        case measure => omega
        case rel => exact ⟨k + 1, by omega, by go_num, HE2, HBu⟩
      · have d1 : (x == y) = false := beq_eq_false_iff_ne.2 hxy
        have HNE := Lib.hid (show xs ≠ ys from fun h => hxy (by
          have := HXG.out
          rw [h, HYG.out] at this
          exact (Option.some.inj this).symm))
        clear hxy
        go_upto_region 6 with fail
        go_quiet (fail)
        have HBu := Lib.hid (show Below w.heap.size w (wr.drewN nq) from ⟨HB.out.os, HB.out.tape, HB.out.output, HB.out.size, HB.out.block⟩)
        go_wp2
        go_ret
        exact ⟨false, rfl, ⟨(fun h => by cases h), fun h => absurd h HNE.out⟩, HBu.out⟩
    · have HT := Lib.hid (show xs = ys from by
        have := HE.out
        rwa [List.take_of_length_le (by have := HN.out; omega), List.take_of_length_le (by have := HM.out; omega)] at this)
      go_wp2_with fail
      go_ret
      exact ⟨true, rfl, ⟨fun _ => HT.out, fun _ => rfl⟩, HB.out⟩

/-- A number more, behind what is owned. -/
theorem push_u {wr : World} {B : Nat} {v : Value} {ys : List Int} (x : Int) (o : Obj) (hBw : B ≤ wr.heap.size) (ho : Vx.OwnU B wr v ys) (hl : ys.length < 1000000) :
    ∃ v' w', (Builtin.append_ #[(88), (88)] (88) #[v, .slice (some ⟨wr.heap.size + 1, 0, none⟩) 1 1]).run Tryz.prog ((wr.alloc o).alloc (.cells #[.int .u64 x] (26))) = .ok v' w' ∧ Vx.OwnU B w' v' (ys ++ [x]) ∧ Below B wr w' := by
  have hb1 : Below wr.heap.size wr (wr.alloc o) := (Below.refl _ _).alloc (Nat.le_refl _) _
  have hb2 : Below wr.heap.size wr ((wr.alloc o).alloc (.cells #[.int .u64 x] (26))) := hb1.alloc hb1.size _
  have ho2 : Vx.OwnU B ((wr.alloc o).alloc (.cells #[.int .u64 x] (26))) v ys := ownsRow_below ho hb2 (Nat.le_refl _)
  obtain ⟨v', w', hr, h2, h3⟩ := Vx.run_append_u _ B v ys (wr.heap.size + 1) x ho2 (blk_new_at (by simp) _) hl (Nat.le_trans hBw hb2.size) (88)
  exact ⟨v', w', hr, h2, Below.appended (hb2.mono hBw) ho2 (Nat.le_refl _) (Nat.le_trans hBw hb2.size) h3⟩
end Go.Proofs.YtchcelodeepjdaaGreatDoor.Ln
