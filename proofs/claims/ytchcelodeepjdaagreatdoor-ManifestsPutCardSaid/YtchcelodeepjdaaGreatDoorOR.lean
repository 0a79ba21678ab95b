/- vectors: All. Condition: fewer than 100000 lines. · vectors: what Of asks, as plain lists. No condition. · vectors: Of. No condition. · law16.great, made. No condition. · law16.lives. No condition. · How vectors and acts are read. No condition. -/
import Derived.Test.YtchcelodeepjdaaGreatDoorOG
import Derived.Deep.RegionLaw
import Derived.Lib.AppendZeros
import Derived.Maps.AppendAt
import Derived.WalkMore
import Derived.Deep.Cut
import Derived.Deep.CutBlock
import Derived.Laws.StructEq
import Derived.Test.YtchcelodeepjdaaGreatDoorRd
import Derived.Test.YtchcelodeepjdaaGreatDoorProg
namespace Go.Proofs.YtchcelodeepjdaaGreatDoor.Vx
open Go.RowKit Go.Shelf Go.Herb

/-- A point, a vector as it lies. -/
def pc (q : Int × Int) : List Value := [.int .u64 q.1, .int .u64 q.2]
theorem pc_len (q : Int × Int) : (pc q).length = 2 := rfl
structure Vc where
  line : Int
  a : Option Addr
  c : Nat
  ps : Bh
def vc (x : Vc) : List Value := [.int .u64 x.line, .slice x.a x.ps.length x.c]
theorem vc_len (x : Vc) : (vc x).length = 2 := rfl
abbrev Pts (w : World) (a : Option Addr) (ps : Bh) : Prop := Els pc 2 w a ps
abbrev OwnP (B : Nat) (w : World) (v : Value) (ps : Bh) : Prop := w.ownsRow B (78) 2 v ps.length (ps.flatMap pc)
abbrev OwnV (B : Nat) (w : World) (v : Value) (xs : List Vc) : Prop := w.ownsRow B (76) 2 v xs.length (xs.flatMap vc)

theorem wp_append_run {P : Program} {w : World} {o : Oper} {a : Act} {K : Act → World → Prop} {Q : Exit → Act → World → Prop} (s x : Operand) (t tn : TypeId) (ho : o.op = .call { callee := .builtin .append, args := #[s, x], argTypes := #[t, tn] })
    (vs vx : Value) (hs : a.eval s = vs) (hx : a.eval x = vx) (v' : Value) (w' : World) (hr : (Builtin.append_ #[t, tn] o.type #[vs, vx]).run P w = .ok v' w') (h : K (a.put o.dst v') w') : o.wp P a w K Q := by
  unfold Oper.wp execOp
  simp only [ho, resolve, invoke, builtin, Sem.run_bind, Sem.run_pure, Result.andThen_ok, List.map_toArray, List.map_cons, List.map_nil, hs, hx, hr]
  exact h
theorem step_append_run {P : Program} {w : World} {ops : Array Oper} {o : Oper} {a : Act} {K : Act → World → Prop} {Q : Exit → Act → World → Prop} {E : Prop} (hgd : o.guard = none) (s x : Operand) (t tn : TypeId) (ho : o.op = .call { callee := .builtin .append, args := #[s, x], argTypes := #[t, tn] })
    (vs vx : Value) (hs : a.eval s = vs) (hx : a.eval x = vx) (v' : Value) (w' : World) (hr : (Builtin.append_ #[t, tn] o.type #[vs, vx]).run P w = .ok v' w') (h : K (a.put o.dst v') w') :
    if Region.wanted o (yielded ops a.tmps) = true then Oper.wp P o a w K Q else E := by
  have hw : Region.wanted o (yielded ops a.tmps) = true := by simp [Region.wanted, hgd]
  rw [if_pos hw]
  exact wp_append_run s x t tn ho vs vx hs hx v' w' hr h
theorem infoP : (Tryz.prog.info? (78)).map (fun i => (i.zero, i.size, i.bytes)) = some (some (.agg #[.int .u64 0, .int .u64 0]), 2, 16) := by kernel_rfl
theorem infoV : (Tryz.prog.info? (76)).map (fun i => (i.zero, i.size, i.bytes)) = some (some (.agg #[.int .u64 0, .slice none 0 0]), 2, 32) := by kernel_rfl
theorem run_append_v (w : World) (B : Nat) (v : Value) (ys : List Vc) (vb : Nat) (x : Vc) (ho : OwnV B w v ys) (hb : w.heap[vb]? = some (.cells #[.int .u64 x.line, .slice x.a x.ps.length x.c] (76) (0, 0))) (hx : ys.length < 1000000) (hB : B ≤ w.heap.size) (ty : TypeId) :
    ∃ v' w', (Builtin.append_ #[(29), (29)] ty #[v, .slice (some ⟨vb, 0, none⟩) 1 1]).run Tryz.prog w = .ok v' w' ∧ OwnV B w' v' (ys ++ [x]) ∧ w.grownBy w' v.ownBlock ∧ (v'.ownBlock = v.ownBlock ∨ v'.ownBlock = some w.heap.size) := by
  obtain ⟨i0, hin, hz0, hz1, hz2⟩ := info_parts infoV
  obtain ⟨v', w', hr, h2, h3, _, h5⟩ := run_append_own_at (P := Tryz.prog) (w := w) B (29) ty (76) i0 _ 2 32 Tryz.underlying29 hin hz0 hz1 hz2 rfl (by decide) v ys.length (ys.flatMap vc) ho ⟨vb, 0, none⟩ 1 1 (vc x) rfl (fun j u hj => by
      have : ((⟨vb, 0, none⟩ : Addr).add j) = ⟨vb, 0 + j, none⟩ := addr_add _ _ _
      rw [this, Nat.zero_add, cell_of_blk hb]
      simpa [vc] using hj) (by intro v hv; simp [vc] at hv; rcases hv with rfl | rfl <;> rfl) (by unfold maxLen; omega) (by omega) hB
  refine ⟨v', w', hr, ?_, h3, h5⟩
  unfold OwnV
  rw [List.length_append, List.flatMap_append]
  simpa using h2
/-- A slice that a call owns: where it lies. -/
theorem own_parts {B e s n : Nat} {w : World} {v : Value} {xs : List Value} (h : w.ownsRow B e s v n xs) : ∃ a cap, v = .slice a n cap ∧ (a = none → n = 0 ∧ cap = 0) ∧ n ≤ cap ∧ cap ≤ maxLen ∧ ∀ ad, a = some ad → B ≤ ad.block ∧ ad.block < w.heap.size := by
  obtain ⟨h1, ⟨rfl, h2⟩ | ⟨g, cap, cur, rfl, hg, hh, hle, hm, _⟩⟩ := h
  · subst h2
    exact ⟨none, 0, rfl, fun _ => ⟨rfl, rfl⟩, Nat.le_refl _, Nat.zero_le _, fun ad h => by cases h⟩
  · exact ⟨some ⟨g, 0, none⟩, cap, rfl, (fun h => by cases h), hle, hm, fun ad h => by cases h; exact ⟨hg, lt_of_blk hh⟩⟩
/-- One line of the answer: its points lie in a block of their own, or there are none. -/
structure VcAt (B : Nat) (w : World) (x : Vc) : Prop where
  own : ∃ cap, OwnP B w (.slice x.a x.ps.length cap) x.ps
  cap : x.c = x.ps.length
theorem VcAt.kept {B : Nat} {w w' : World} {x : Vc} {row : Option Nat} (h : VcAt B w x) (hg : w.grownBy w' row) (hr : ∀ r, row = some r → x.a ≠ some ⟨r, 0, none⟩) : VcAt B w' x := by
  obtain ⟨cap, ho⟩ := h.own
  refine ⟨⟨cap, World.ownsRow.kept ho hg ?_⟩, h.cap⟩
  rcases row_of_owns ho with ⟨h1, _⟩ | ⟨g, cap, h1, _, _⟩
  · rw [h1]; exact .inl rfl
  · refine .inr (fun e => ?_)
    rw [h1] at e
    have h2 : x.a = some ⟨g, 0, none⟩ := by injection h1
    exact hr g e.symm h2
theorem VcAt.below {B : Nat} {w w' : World} {x : Vc} (h : VcAt B w x) (hb : Below w.heap.size w w') : VcAt B w' x := by
  obtain ⟨cap, ho⟩ := h.own
  exact ⟨⟨cap, ownsRow_below ho hb (Nat.le_refl _)⟩, h.cap⟩
theorem VcAt.mono {B B' : Nat} {w : World} {x : Vc} (h : VcAt B w x) (hb : B' ≤ B) : VcAt B' w x := by
  obtain ⟨cap, ho⟩ := h.own
  exact ⟨⟨cap, ownsRow_mono ho hb⟩, h.cap⟩
end Go.Proofs.YtchcelodeepjdaaGreatDoor.Vx

namespace Go.Herb
open Go
def okB (b : Bh) : Prop := SrtK b ∧ ∀ q ∈ b, q.2 ≠ 0
def okV (L : Vs) : Prop := SrtK L ∧ ∀ p ∈ L, okB p.2
theorem SrtK.get {β : Type} {b : List (Int × β)} (h : SrtK b) {i j : Nat} (hij : i < j) (hj : j < b.length) : b[i].1 < b[j].1 := List.pairwise_iff_getElem.1 h i j (by omega) hj hij
theorem SrtK.take {β : Type} {b : List (Int × β)} (h : SrtK b) (k : Nat) : SrtK (b.take k) := List.Pairwise.sublist (List.take_sublist _ _) h
theorem SrtK.snoc {β : Type} {b : List (Int × β)} {i : Nat} (h : SrtK (b.take i)) (hi : i < b.length) (hl : i = 0 ∨ ∃ h : i - 1 < b.length, b[i - 1].1 < b[i].1) : SrtK (b.take (i + 1)) := by
  rw [List.take_succ_eq_append_getElem hi]
  unfold SrtK at h ⊢
  rw [List.pairwise_append]
  refine ⟨h, List.pairwise_singleton _ _, fun p hp q hq => ?_⟩
  rw [List.mem_singleton.1 hq]
  rcases hl with rfl | ⟨hl, hlt⟩
  · simp at hp
  · obtain ⟨j, hj, rfl⟩ := List.getElem_of_mem hp
    simp only [List.length_take] at hj
    rw [List.getElem_take]
    rcases Nat.lt_or_eq_of_le (show j ≤ i - 1 by omega) with h1 | h1
    · have h2 := List.pairwise_iff_getElem.1 h j (i - 1) (by simp; omega) (by simp; omega) h1
      simp only [List.getElem_take] at h2
      omega
    · subst h1; exact hlt
theorem putL_new {α β : Type} [DecidableEq α] {m : List (α × β)} {a : α} {b : β} (h : a ∉ m.map (·.1)) : putL m a b = m ++ [(a, b)] := by unfold putL; rw [if_neg h]
theorem putS_last {β : Type} {b : List (Int × β)} {k : Int} {v : β} (h : ∀ p ∈ b, p.1 < k) : putS b k v = b ++ [(k, v)] := by
  unfold putS
  have h1 : b.filter (fun p => decide (p.1 < k)) = b := List.filter_eq_self.2 (fun p hp => by simp [h p hp])
  have h2 : b.filter (fun p => decide (k < p.1)) = [] := List.filter_eq_nil_iff.2 (fun p hp => by have := h p hp; simp; omega)
  rw [h1, h2]
theorem take_lt {β : Type} {b : List (Int × β)} {i : Nat} (h : SrtK (b.take (i + 1))) (hi : i < b.length) : ∀ p ∈ b.take i, p.1 < b[i].1 := by
  rw [List.take_succ_eq_append_getElem hi] at h
  have := (List.pairwise_append.1 h).2.2
  exact fun p hp => this p hp _ (by simp)
theorem okV.good {L : Vs} (h : okV L) (hw : ∀ p ∈ L, U64 p.1 ∧ ∀ q ∈ p.2, U64 q.1 ∧ U64 q.2) : GoodV L := by
  refine ⟨h.1, fun p hp => ⟨(h.2 p hp).1, fun q hq => ?_, (hw p hp).2⟩, fun p hp => (hw p hp).1⟩
  have h1 := (h.2 p hp).2 q hq
  have h2 := ((hw p hp).2 q hq).2
  unfold U64 at h2
  simp [Lit.wf, IntKind.min, IntKind.max, IntKind.signed, IntKind.bits] at h2
  omega
end Go.Herb

namespace Go.Proofs.YtchcelodeepjdaaGreatDoor.Vx
open Go.RowKit Go.Shelf Go.Herb

/-- New vectors with a line more, in the same map. -/
theorem VecIs.more {w w' : World} {p mb ib : Nat} {M : List (Int × Nat)} {L : Vs} {line : Int} {m B : Bh} (h : VecIs w p mb M L) (hL : SrtK L) (hpm : p ≠ mb) (hne : ∀ q ∈ M, q.2 ≠ mb) (hg : w.grownBy w' (some mb))
    (out : MapM w' mb (putL M line ib)) (hi : MapU w' ib m) (hp : m.Perm B) : VecIs w' p mb (putL M line ib) (putS L line B) := by
  have hn := out.nodup
  refine ⟨(hg.block _ (lt_of_blk h.blk) (fun e => by injection e with e; exact hpm e)).trans h.blk, out, ?_, fun q hq => ?_⟩
  · refine (List.perm_ext_iff_of_nodup hn (putS_srt hL).nodup).2 fun k => ?_
    rw [mem_keys_putS, putL_keys, ← h.keys.mem_iff]
    split
    · rename_i hm
      constructor
      · exact .inr
      · rintro (rfl | h)
        · exact hm
        · exact h
    · rw [List.mem_append, List.mem_singleton]
      exact or_comm
  · have hg2 := (getL_some hn).2 (show (q.1, q.2) ∈ putL M line ib from hq)
    by_cases e : q.1 = line
    · rw [e, getL_put_same] at hg2
      cases hg2
      exact ⟨m, B, hi, by rw [getL_putS hL, if_pos e], hp⟩
    · rw [getL_put_other _ _ _ e] at hg2
      obtain ⟨m2, b2, h1, h2, h3⟩ := h.inn _ (getL_mem hg2)
      exact ⟨m2, b2, h1.same (hg.block _ h1.lt (fun e => by injection e with e; exact hne _ (getL_mem hg2) e)), by rw [getL_putS hL, if_neg e]; exact h2, h3⟩
/-- Vectors that lie above a mark stay while all above it stays. -/
structure VecNew (B : Nat) (w : World) (p mb : Nat) (M : List (Int × Nat)) (L : Vs) : Prop where
  is : VecIs w p mb M L
  lp : B ≤ p
  lm : B ≤ mb
  li : ∀ q ∈ M, B ≤ q.2
theorem VecNew.same {B : Nat} {w w' : World} {p mb : Nat} {M : List (Int × Nat)} {L : Vs} (h : VecNew B w p mb M L) (hb : ∀ b, B ≤ b → b < w.heap.size → w'.heap[b]? = w.heap[b]?) : VecNew B w' p mb M L :=
  ⟨⟨(hb _ h.lp (lt_of_blk h.is.blk)).trans h.is.blk, h.is.out.same (hb _ h.lm h.is.out.lt), h.is.keys, fun q hq => by obtain ⟨m, b, h1, h2⟩ := h.is.inn q hq; exact ⟨m, b, h1.same (hb _ (h.li q hq) h1.lt), h2⟩⟩, h.lp, h.lm, h.li⟩

/-- A list of vectors, as it may come in. -/
structure VIn (w : World) (a : Option Addr) (xs : List Vc) : Prop where
  els : Els vc 2 w a xs
  inn : ∀ x ∈ xs, Pts w x.a x.ps
  wf : ∀ x ∈ xs, U64 x.line ∧ ∀ q ∈ x.ps, U64 q.1 ∧ U64 q.2
  len : xs.length ≤ maxLen
  lens : ∀ x ∈ xs, x.ps.length ≤ maxLen
def vsOf (xs : List Vc) : Vs := xs.map (fun x => (x.line, x.ps))
theorem vsOf_len (xs : List Vc) : (vsOf xs).length = xs.length := by simp [vsOf]
theorem vsOf_get (xs : List Vc) (i : Nat) (h : i < xs.length) : (vsOf xs)[i]'(by rw [vsOf_len]; exact h) = (xs[i].line, xs[i].ps) := by simp [vsOf]
def OfPost (L : Vs) (w : World) (e : Ending) (w' : World) : Prop :=
  ∃ v er, e = .returned (.tuple #[v, .int .i64 er]) ∧ Below w.heap.size w w' ∧ ((er = 0 ∧ okV L ∧ ∃ p mb M, v = .pointer (some ⟨p, 0, none⟩) ∧ VecNew w.heap.size w' p mb M L) ∨ (er = 4 ∧ ¬ okV L ∧ v = .pointer none))

set_option maxRecDepth 100000 in
set_option maxHeartbeats 1000000 in
theorem of_any (a : Option Addr) (cap : Nat) (xs : List Vc) (w : World) (h : VIn w a xs) :
    Calls Tryz.prog (31) #[.slice a xs.length cap] w (OfPost (vsOf xs) w) := by
  have H := Lib.hid h
  have hmm := @run_makeMap Tryz.prog
  have hlen : xs.length ≤ 9223372036854775807 := h.len
  have hN : MapM ((w.alloc (.map #[] 0)).alloc (.cells #[.map (some w.heap.size), .int .i64 1] (138))) w.heap.size [] := (MapIs.made (P := Tryz.prog) (k := (26)) (encK := eU) (encV := eM) (α := Int) (β := Nat) w).same (Below.heap_alloc _ _ _ (by simp))
  have hB0 : Hid (((w.alloc (.map #[] 0)).alloc (.cells #[.map (some w.heap.size), .int .i64 1] (138))).heap[w.heap.size + 1]? = some (.cells #[.map (some w.heap.size), .int .i64 1] (138) (0, 0))) := Lib.hid (blk_new_at (by simp) _)
  have HN := Lib.hid hN
  clear h hN
  go_enter Tryz.func31, Tryz.ntmps31
  go_wp2_with fail
  go_loopg [15] xs.length (fun gk iv wr => ∃ (i : Nat) (M : List (Int × Nat)), i + gk = xs.length ∧ iv = .int .i64 i ∧ Hid (VecIs wr (w.heap.size + 1) w.heap.size M ((vsOf xs).take i)) ∧ Hid (∀ q ∈ M, w.heap.size + 1 < q.2) ∧ Hid (okV ((vsOf xs).take i)) ∧ Below w.heap.size w wr)
  case atStart => exact ⟨0, [], by omega, rfl, Lib.hid ⟨hB0.out, HN.out, List.Perm.refl _, by simp⟩, Lib.hid (by simp), Lib.hid ⟨.nil, by simp⟩, ((Below.refl _ w).alloc (Nat.le_refl _) _).alloc (by simp) _⟩
  case round =>
    obtain ⟨i, M, hi, rfl, HV, HM, HO, hbw⟩ := hrel
    have HBW := Lib.hid hbw
    have hsz := hbw.size
    have hsm : w.heap.size + 1 < wr.heap.size := lt_of_blk HV.out.blk
    clear hbw HN hB0
    by_cases hlt : i < xs.length
    · obtain ⟨b, o, rfl, hlb, hcell⟩ := H.out.els.get i hlt
      have hbw0 : b < wr.heap.size := by omega
      have x0 := (HBW.out.cell (p := ⟨b, _, none⟩) hlb).trans (hcell 0 _ rfl)
      have x1 := (HBW.out.cell (p := ⟨b, _, none⟩) hlb).trans (hcell 1 _ rfl)
      simp only [Nat.add_zero] at x0 x1
      have hi0 : (0 : Int) ≤ (i : Int) := by omega
      have hi1 : (i : Int) < (xs.length : Int) := by omega
      have hli : i < (vsOf xs).length := by rw [vsOf_len]; exact hlt
      have hgi := vsOf_get xs i hlt
      have HX := Lib.hid (List.getElem_mem hlt)
      have HTI := Lib.hid (show (vsOf xs).take (i + 1) = (vsOf xs).take i ++ [(xs[i].line, xs[i].ps)] from by rw [List.take_succ_eq_append_getElem hli, hgi])
      -- the line ahead
      have hprev : ∀ h0 : 0 < i, ∃ pl, wr.cell? ⟨b, o + (i - 1) * 2, none⟩ = some (.int .u64 pl) ∧ (vsOf xs)[i - 1].1 = pl := fun h0 => by
        obtain ⟨b', o', ha', hlb', hcell'⟩ := H.out.els.get (i - 1) (by omega)
        injection ha' with ha'
        cases ha'
        have := (HBW.out.cell (p := ⟨b, _, none⟩) hlb').trans (hcell' 0 _ rfl)
        simp only [Nat.add_zero] at this
        exact ⟨_, this, by rw [vsOf_get xs (i - 1) (by omega)]⟩
      have HPV := Lib.hid hprev
      have HGI := Lib.hid hgi
      clear hcell hgi hprev
      generalize xs[i] = x at *
      obtain ⟨xl, xa, xc, xp⟩ := x
      simp only at x0 x1 HTI HGI
      have hxw := H.out.wf _ HX.out
      have hxp := H.out.inn _ HX.out
      have hxpl0 := H.out.lens _ HX.out
      simp only at hxw hxp hxpl0
      have hxpl : xp.length ≤ 9223372036854775807 := hxpl0
      clear hxpl0
      have HXW := Lib.hid hxw
      have HXP := Lib.hid hxp
      clear hxw hxp
      obtain ⟨X, hX⟩ : ∃ X : World, X = wr.alloc (.cells #[.int .u64 xl, .slice xa xp.length xc] (76)) := ⟨_, rfl⟩
      have hXb : Below wr.heap.size wr X := by rw [hX]; exact (Below.refl _ _).alloc (Nat.le_refl _) _
      have hXs : X.heap.size = wr.heap.size + 1 := by rw [hX]; simp
      have hXx : X.heap[wr.heap.size]? = some (.cells #[.int .u64 xl, .slice xa xp.length xc] (76) (0, 0)) := by rw [hX]; exact blk_new_at rfl _
      have HXB := Lib.hid hXb
      have HXS := Lib.hid hXs
      have HXX := Lib.hid hXx
      go_upto_region 5 with (fail)
      rw [← hX]
      clear hX
      go_cut [32] (fun v wx => ∃ (c : Bool) (n : Nat), v = .bool c ∧ Hid (c = true → 0 < i ∧ ¬ okV (vsOf xs)) ∧ Hid (c = false → SrtK ((vsOf xs).take (i + 1))) ∧ wx = X.drewN n)
      case first =>
        have X0 := cell_of_blk HXX.out 0
        simp at X0
        clear x0 x1 hXx
        by_cases h0 : 0 < i
        · obtain ⟨pl, hpc, hpl⟩ := HPV.out h0
          have hpX := (HXB.out.cell (p := ⟨b, o + (i - 1) * 2, none⟩) hbw0).trans hpc
          have h0' : (0 : Int) < (i : Int) := by omega
          have h0d : decide ((0 : Int) < (i : Int)) = true := decide_eq_true h0'
          have h0e : decide (0 < i) = true := decide_eq_true h0
          have w1 : IntKind.i64.wrap ((i : Int) - 1) = (i : Int) - 1 := IntWalk.i64_in _ (by omega)
          have p1 : (0 : Int) ≤ (i : Int) - 1 := by omega
          have p1' : (1 : Int) ≤ (i : Int) := by omega
          have q1 : ((i : Int) - 1).toNat = i - 1 := by omega
          have r1 : (i : Int) - 1 < (xs.length : Int) := by omega
          have hbX : b < X.heap.size := by have := HXS.out; omega
          have HPL := Lib.hid hpl
          clear hpc hpl hXb hXs
          by_cases hle : xl ≤ pl
          · have hled : decide (xl ≤ pl) = true := decide_eq_true hle
            have HB : Hid (¬ okV (vsOf xs)) := Lib.hid (fun hok => by
              have h1 := SrtK.get hok.1 (i := i - 1) (j := i) (by omega) hli
              rw [HPL.out, HGI.out] at h1
              simp only at h1
              omega)
            go_wp2_with fail
            go_quiet (fail)
            go_wp2_with fail
            go_meet
            exact ⟨true, nq, rfl, Lib.hid (fun _ => ⟨h0, HB.out⟩), Lib.hid (fun h => by cases h), rfl⟩
          · have hled : decide (xl ≤ pl) = false := decide_eq_false hle
            have HB : Hid (SrtK ((vsOf xs).take (i + 1))) := Lib.hid (HO.out.1.snoc hli (.inr ⟨by omega, by rw [HPL.out, HGI.out]; simp only; omega⟩))
            go_wp2_with fail
            go_quiet (fail)
            go_wp2_with fail
            go_meet
            exact ⟨false, nq, rfl, Lib.hid (fun h => by cases h), Lib.hid (fun _ => HB.out), rfl⟩
        · have h0' : ¬ (0 : Int) < (i : Int) := by omega
          have h0d : decide ((0 : Int) < (i : Int)) = false := decide_eq_false h0'
          have h0e : decide (0 < i) = false := decide_eq_false h0
          have HB : Hid (SrtK ((vsOf xs).take (i + 1))) := Lib.hid (HO.out.1.snoc hli (.inl (by omega)))
          clear hXb hXs
          go_wp2_with fail
          go_quiet (fail)
          go_wp2_with fail
          go_meet
          exact ⟨false, nq, rfl, Lib.hid (fun h => by cases h), Lib.hid (fun _ => HB.out), rfl⟩
      case rest =>
      obtain ⟨c, n, rfl, HC1, HC2, rfl⟩ := hcut
      obtain ⟨Y, hY⟩ : ∃ Y : World, Y = X.drewN n := ⟨_, rfl⟩
      have hYh : ∀ k : Nat, Y.heap[k]? = X.heap[k]? := fun k => by rw [hY]; rfl
      have hYs : Y.heap.size = wr.heap.size + 1 := by rw [hY]; exact hXs
      have hYb : Below wr.heap.size wr Y := by rw [hY]; exact below_drewN hXb n
      rw [← hY]
      have hYx := (hYh _).trans hXx
      have HYB := Lib.hid hYb
      have HYX := Lib.hid hYx
      have HYS := Lib.hid hYs
      clear hY x0 x1 hXb hXs hXx
      cases c with
      | true =>
        have HE : Hid (OfPost (vsOf xs) w (.returned (.tuple #[.pointer none, .int .i64 4])) Y) := Lib.hid ⟨_, 4, rfl, HBW.out.trans (hYb.mono hsz), .inr ⟨rfl, (HC1.out rfl).2, rfl⟩⟩
        clear hYh hYs hYb hYx
        go_wp2_with fail
        go_ret2
        exact HE.out
      | false =>
        have HSO := Lib.hid (HC2.out rfl)
        have y0 := cell_of_blk hYx 0
        have y1 := cell_of_blk hYx 1
        simp at y0 y1
        have hwY : wr.heap.size < Y.heap.size := by omega
        have HN2 : Hid (MapU (Y.alloc (.map #[] 0)) Y.heap.size []) := Lib.hid (MapIs.made (P := Tryz.prog) (k := (26)) (encK := eU) (encV := eU) (α := Int) (β := Int) Y)
        clear hYh hYs hYb hYx HC1 HC2
        go_wp2_with fail
        clear y0 y1
        obtain ⟨g1, rfl⟩ : ∃ g1 : Nat, g1 = gk := ⟨_, rfl⟩
        obtain ⟨wo, rfl⟩ : ∃ wo : World, wo = wr := ⟨_, rfl⟩
        go_loopg [37] xp.length (fun gk kv wr => ∃ k : Nat, k + gk = xp.length ∧ kv = .int .i64 k ∧ Hid (MapU wr Y.heap.size (xp.take k)) ∧ Hid (okB (xp.take k)) ∧ Below Y.heap.size Y wr)
        case atStart => exact ⟨0, by omega, rfl, HN2, Lib.hid ⟨.nil, by simp⟩, (Below.refl _ _).alloc (Nat.le_refl _) _⟩
        case round =>
          obtain ⟨k, hk, rfl, HMU, HOB, hbk⟩ := hrel
          have HBK := Lib.hid hbk
          have hsk : Y.heap.size < wr.heap.size := HMU.out.lt
          have HWW := Lib.hid (HBW.out.trans ((HYB.out.trans (hbk.mono (by omega))).mono hsz))
          have hyx := blk_below HYX.out hbk hwY
          have HYXR := Lib.hid hyx
          clear hbk HN2
          by_cases hkl : k < xp.length
          · obtain ⟨b2, o2, rfl, hlb2, hcell2⟩ := HXP.out.get k hkl
            have z0 := (HWW.out.cell (p := ⟨b2, _, none⟩) hlb2).trans (hcell2 0 _ rfl)
            have z1 := (HWW.out.cell (p := ⟨b2, _, none⟩) hlb2).trans (hcell2 1 _ rfl)
            simp only [Nat.add_zero] at z0 z1
            have hk0 : (0 : Int) ≤ (k : Int) := by omega
            have hk1 : (k : Int) < (xp.length : Int) := by omega
            have hlb3 : b2 < wr.heap.size := by have := HWW.out.size; omega
            have hprev : ∀ h0 : 0 < k, ∃ pl, wr.cell? ⟨b2, o2 + (k - 1) * 2, none⟩ = some (.int .u64 pl) ∧ xp[k - 1].1 = pl := fun h0 => by
              obtain ⟨b', o', ha', hlb', hcell'⟩ := HXP.out.get (k - 1) (by omega)
              injection ha' with ha'
              cases ha'
              have := (HWW.out.cell (p := ⟨b2, _, none⟩) hlb').trans (hcell' 0 _ rfl)
              simp only [Nat.add_zero] at this
              exact ⟨_, this, rfl⟩
            have HPV2 := Lib.hid hprev
            have HTK := Lib.hid (show xp.take (k + 1) = xp.take k ++ [xp[k]] from List.take_succ_eq_append_getElem hkl)
            have HQM := Lib.hid (List.getElem_mem hkl)
            have HQG := Lib.hid (show xp[k] = xp[k] from rfl)
            obtain ⟨q, hq⟩ : ∃ q, q = xp[k] := ⟨_, rfl⟩
            rw [← hq] at z0 z1 HTK HQM
            have HQ := Lib.hid hq
            clear hcell2 hprev hq HQG
            obtain ⟨q1, q2⟩ := q
            simp only at z0 z1
            obtain ⟨P, hP⟩ : ∃ P : World, P = wr.alloc (.cells #[.int .u64 q1, .int .u64 q2] (78)) := ⟨_, rfl⟩
            have hPb : Below wr.heap.size wr P := by rw [hP]; exact (Below.refl _ _).alloc (Nat.le_refl _) _
            have hPs : P.heap.size = wr.heap.size + 1 := by rw [hP]; simp
            have hPx : P.heap[wr.heap.size]? = some (.cells #[.int .u64 q1, .int .u64 q2] (78) (0, 0)) := by rw [hP]; exact blk_new_at rfl _
            have HPB := Lib.hid hPb
            have HPX := Lib.hid hPx
            have HPS := Lib.hid hPs
            have hwoW : wo.heap.size < wr.heap.size := by omega
            go_upto_region 11 with (fail)
            rw [← hP]
            clear hP z0 z1
            go_cut [60] (fun v wx => ∃ (c : Bool) (n : Nat), v = .bool c ∧ Hid (c = true → ¬ okB xp) ∧ Hid (c = false → okB (xp.take (k + 1))) ∧ wx = P.drewN n)
            case first =>
              have P0 := cell_of_blk HPX.out 0
              have P1 := cell_of_blk HPX.out 1
              simp at P0 P1
              have hwoP : wo.heap.size < P.heap.size := by omega
              have yx1 := cell_of_blk (blk_below HYXR.out hPb hwoW) 1
              simp at yx1
              have hbP : b2 < P.heap.size := by omega
              have hwrP : wr.heap.size < P.heap.size := by omega
              clear hPb hPs hPx hyx
              by_cases hq0 : q2 = 0
              · subst hq0
                have HB : Hid (¬ okB xp) := Lib.hid (fun hok => hok.2 _ HQM.out rfl)
                go_wp2_with fail
                go_quiet (fail)
                go_wp2_with fail
                go_meet
                exact ⟨true, nq, rfl, Lib.hid (fun _ => HB.out), Lib.hid (fun h => by cases h), rfl⟩
              · have hq0' : (q2 == 0) = false := by simpa using hq0
                have hq0d : decide (q2 = 0) = false := decide_eq_false hq0
                by_cases h0 : 0 < k
                · obtain ⟨pl, hpc, hpl⟩ := HPV2.out h0
                  have hpX := (HPB.out.cell (p := ⟨b2, o2 + (k - 1) * 2, none⟩) hlb3).trans hpc
                  have h0' : (0 : Int) < (k : Int) := by omega
                  have h0d : decide ((0 : Int) < (k : Int)) = true := decide_eq_true h0'
                  have h0e : decide (0 < k) = true := decide_eq_true h0
                  have w1 : IntKind.i64.wrap ((k : Int) - 1) = (k : Int) - 1 := IntWalk.i64_in _ (by omega)
                  have p1 : (0 : Int) ≤ (k : Int) - 1 := by omega
                  have p1' : (1 : Int) ≤ (k : Int) := by omega
                  have e1 : ((k : Int) - 1).toNat = k - 1 := by omega
                  have r1 : (k : Int) - 1 < (xp.length : Int) := by omega
                  have HPL := Lib.hid hpl
                  clear hpc hpl
                  by_cases hle : q1 ≤ pl
                  · have hled : decide (q1 ≤ pl) = true := decide_eq_true hle
                    have HB : Hid (¬ okB xp) := Lib.hid (fun hok => by
                      have h1 := SrtK.get hok.1 (i := k - 1) (j := k) (by omega) hkl
                      rw [HPL.out, ← HQ.out] at h1
                      simp only at h1
                      omega)
                    go_wp2_with fail
                    go_quiet (fail)
                    go_wp2_with fail
                    go_meet
                    exact ⟨true, nq, rfl, Lib.hid (fun _ => HB.out), Lib.hid (fun h => by cases h), rfl⟩
                  · have hled : decide (q1 ≤ pl) = false := decide_eq_false hle
                    have HB : Hid (okB (xp.take (k + 1))) := Lib.hid ⟨HOB.out.1.snoc hkl (.inr ⟨by omega, by rw [HPL.out, ← HQ.out]; simp only; omega⟩), fun r hr => by
                      rw [HTK.out] at hr
                      rcases List.mem_append.1 hr with hr | hr
                      · exact HOB.out.2 r hr
                      · rw [List.mem_singleton.1 hr]; exact hq0⟩
                    go_wp2_with fail
                    go_quiet (fail)
                    go_wp2_with fail
                    go_meet
                    exact ⟨false, nq, rfl, Lib.hid (fun h => by cases h), Lib.hid (fun _ => HB.out), rfl⟩
                · have h0' : ¬ (0 : Int) < (k : Int) := by omega
                  have h0d : decide ((0 : Int) < (k : Int)) = false := decide_eq_false h0'
                  have h0e : decide (0 < k) = false := decide_eq_false h0
                  have HB : Hid (okB (xp.take (k + 1))) := Lib.hid ⟨HOB.out.1.snoc hkl (.inl (by omega)), fun r hr => by
                      rw [HTK.out] at hr
                      rcases List.mem_append.1 hr with hr | hr
                      · exact HOB.out.2 r hr
                      · rw [List.mem_singleton.1 hr]; exact hq0⟩
                  go_wp2_with fail
                  go_quiet (fail)
                  go_wp2_with fail
                  go_meet
                  exact ⟨false, nq, rfl, Lib.hid (fun h => by cases h), Lib.hid (fun _ => HB.out), rfl⟩
            case rest =>
            obtain ⟨c, n2, rfl, HC1, HC2, rfl⟩ := hcut
            obtain ⟨Z, hZ⟩ : ∃ Z : World, Z = P.drewN n2 := ⟨_, rfl⟩
            have hZh : ∀ k : Nat, Z.heap[k]? = P.heap[k]? := fun k => by rw [hZ]; rfl
            have hZs : Z.heap.size = P.heap.size := by rw [hZ]; rfl
            have hZb : Below wr.heap.size wr Z := by rw [hZ]; exact below_drewN hPb n2
            rw [← hZ]
            have z0 := cell_of_blk ((hZh _).trans hPx) 0
            have z1 := cell_of_blk ((hZh _).trans hPx) 1
            simp at z0 z1
            clear hZ hPb hPx hyx
            cases c with
            | true =>
              have HE : Hid (OfPost (vsOf xs) w (.returned (.tuple #[.pointer none, .int .i64 4])) Z) := Lib.hid ⟨_, 4, rfl, HWW.out.trans (hZb.mono HWW.out.size), .inr ⟨rfl, fun hok => HC1.out rfl (hok.2 (xl, xp) (by unfold vsOf; exact List.mem_map.2 ⟨_, HX.out, rfl⟩)), rfl⟩⟩
              clear hZh hZs hZb z0 z1
              go_wp2_with fail
              go_ret2
              exact HE.out
            | false =>
              have hok := HC2.out rfl
              have hqw := HXW.out.2 _ HQM.out
              obtain ⟨kl, hkl2⟩ := keyU hqw.1
              have hMZ : MapU Z Y.heap.size (xp.take k) := HMU.out.same (hZb.block _ HMU.out.lt)
              obtain ⟨w6, hst, hM6, hg6, hs6⟩ := hMZ.store lawU eU_inj Tryz.underlying140 (by simp [maxLen]; omega) q2 hkl2
              have hnew : q1 ∉ (xp.take k).map (·.1) := fun hm => by
                obtain ⟨r, hr, e⟩ := List.mem_map.1 hm
                have := take_lt hok.1 hkl r hr
                rw [← HQ.out] at this
                simp only at this
                omega
              rw [putL_new hnew, ← HTK.out] at hM6
              have HM6 := Lib.hid hM6
              have HOK6 := Lib.hid hok
              have HB6 := Lib.hid (show Below Y.heap.size Y w6 from (HBK.out.trans (hZb.mono HBK.out.size)).grown hg6 (by omega) (fun k e => by injection e with e; omega))
              clear hZh hZs hZb hok hqw hMZ hM6 hg6 hs6 hnew HC1 HC2 hkl2
              go_wp2_with fail
              go_roundg (gk - 1)
              case measure => omega
              case rel => exact ⟨k + 1, by omega, by go_num, HM6, HOK6, HB6.out⟩
          · have hke : k = xp.length := by omega
            have hMU : MapU wr Y.heap.size xp := by have := HMU.out; rwa [hke, List.take_length] at this
            have hOB : okB xp := by have := HOB.out; rwa [hke, List.take_length] at this
            have hvw : VecIs wr.drew (w.heap.size + 1) w.heap.size M ((vsOf xs).take i) := HV.out.below ((HYB.out.trans (HBK.out.mono (by omega))).drew)
            obtain ⟨kl, hkl2⟩ := keyU HXW.out.1
            obtain ⟨w6, hst, hM6, hg6, hs6⟩ := hvw.out.store lawU eU_inj Tryz.underlying136 (by have := hvw.len; simp at this; unfold maxLen; omega) Y.heap.size hkl2
            have c0 := cell_of_blk hvw.blk 0
            have b0 := cell_of_blk (show wr.drew.heap[wo.heap.size]? = _ from hyx) 0
            simp at c0 b0
            have hlast := take_lt HSO.out hli
            rw [HGI.out] at hlast
            have hV6 := VecIs.more hvw (HO.out.1) (by omega) (fun q hq => by have := HM.out q hq; omega) hg6 hM6 ((show MapU wr.drew Y.heap.size xp from hMU.same rfl).same (hg6.block _ hMU.lt (fun e => by injection e with e; omega))) (List.Perm.refl _)
            rw [putS_last hlast, ← HTI.out] at hV6
            have HV6 := Lib.hid hV6
            have HM6 := Lib.hid (show ∀ q ∈ putL M xl Y.heap.size, w.heap.size + 1 < q.2 from fun q hq => by
              have hg2 := (getL_some hM6.nodup).2 (show (q.1, q.2) ∈ putL M xl Y.heap.size from hq)
              by_cases e : q.1 = xl
              · rw [e, getL_put_same] at hg2
                injection hg2 with hg2
                omega
              · rw [getL_put_other _ _ _ e] at hg2
                exact HM.out _ (getL_mem hg2))
            have HO6 := Lib.hid (show okV ((vsOf xs).take (i + 1)) from ⟨HSO.out, fun r hr => by
              rw [HTI.out] at hr
              rcases List.mem_append.1 hr with hr | hr
              · exact HO.out.2 r hr
              · rw [List.mem_singleton.1 hr]; exact hOB⟩)
            have HB6 := Lib.hid (show Below w.heap.size w w6 from ((HBW.out.trans ((HYB.out.trans (HBK.out.mono (by omega))).mono hsz)).drew).grown hg6 (by show w.heap.size ≤ wr.heap.size; omega) (fun k e => by injection e with e; omega))
            have hbx : wo.heap.size < wr.heap.size := by omega
            have hbp : w.heap.size + 1 < wr.heap.size := by omega
            clear hke hMU hOB hvw hM6 hg6 hs6 hlast hV6 hyx hkl2
            go_wp2_with fail
            go_region
            clear hst c0 b0
            go_wp2
            go_roundg (g1 - 1)
            case measure => omega
            case rel => exact ⟨i + 1, _, by omega, by go_num, HV6, HM6, HO6, HB6.out⟩
    · have hie : i = xs.length := by omega
      have htk : (vsOf xs).take i = vsOf xs := by rw [hie, ← vsOf_len, List.take_length]
      have HE : Hid (OfPost (vsOf xs) w (.returned (.tuple #[.pointer (some ⟨w.heap.size + 1, 0, none⟩), .int .i64 0])) wr) := Lib.hid ⟨_, 0, rfl, HBW.out, .inl ⟨rfl, by rw [← htk]; exact HO.out, _, _, _, rfl, by rw [← htk]; exact ⟨HV.out, by omega, Nat.le_refl _, fun q hq => by have := HM.out q hq; omega⟩⟩⟩
      clear hie htk
      go_wp2
      go_ret2
      exact HE.out
end Go.Proofs.YtchcelodeepjdaaGreatDoor.Vx

namespace Go.Herb
open Go
/-- What is done to vectors. -/
structure Ac where
  kind : Int
  line : Int
  other : Int
  n : Int
  wk : (Lit.int .u8 kind).wf = true
  wl : U64 line
  wo : U64 other
  wn : U64 n
/-- All that stands behind a line is one of these. -/
def InK (K : List Int) (L : Vs) : Prop := ∀ p ∈ L, ∀ q ∈ p.2, q.1 ∈ K
theorem InK.get {K : List Int} {L : Vs} (h : InK K L) {k : Int} {b : Bh} (hg : getL L k = some b) : ∀ q ∈ b, q.1 ∈ K := h _ (getL_mem hg)
theorem InK.put {K : List Int} {L : Vs} (h : InK K L) {k : Int} {b : Bh} (hb : ∀ q ∈ b, q.1 ∈ K) : InK K (putS L k b) := fun p hp q hq => by
  rcases mem_putS.1 hp with rfl | ⟨h1, _⟩
  · exact hb q hq
  · exact h p h1 q hq
theorem nodup_len {α : Type} [DecidableEq α] : ∀ (l K : List α), l.Nodup → (∀ x ∈ l, x ∈ K) → l.length ≤ K.length
  | [], _, _, _ => Nat.zero_le _
  | x :: l, K, hn, hs => by
    have h1 := List.nodup_cons.1 hn
    have hx := hs x (by simp)
    have h2 := nodup_len l (K.erase x) h1.2 (fun y hy => (List.mem_erase_of_ne (fun e => h1.1 (by rw [← e]; exact hy))).2 (hs y (by simp [hy])))
    have h3 := List.length_erase_of_mem hx
    have h4 := List.length_pos_of_mem hx
    simp only [List.length_cons]
    omega
theorem InK.lens {K : List Int} {L : Vs} (h : InK K L) (hG : GoodV L) : ∀ p ∈ L, p.2.length ≤ K.length := fun p hp => by
  have h1 := nodup_len (p.2.map (·.1)) K (hG.inn p hp).srt.nodup (fun x hx => by obtain ⟨q, hq, rfl⟩ := List.mem_map.1 hx; exact h p hp q hq)
  simpa using h1
end Go.Herb
namespace Go.Proofs.YtchcelodeepjdaaGreatDoor.Vx
open Go.RowKit Go.Shelf Go.Herb

def acc (x : Ac) : List Value := [.int .u8 x.kind, .int .u64 x.line, .int .u64 x.other, .int .u64 x.n]
end Go.Proofs.YtchcelodeepjdaaGreatDoor.Vx

namespace Go.Proofs.YtchcelodeepjdaaGreatDoor.Vx
open Go.RowKit Go.Shelf Go.Herb

theorem owns_els {α : Type} {enc : α → List Value} {s B e n cap : Nat} {w : World} {a : Option Addr} {xs : List α} (hs : ∀ x, (enc x).length = s) (h : w.ownsRow B e s (.slice a n cap) xs.length (xs.flatMap enc)) : Els enc s w a xs := by
  rcases row_of_owns h with ⟨h1, rfl⟩ | ⟨g, c, h1, _, hR⟩
  · exact Els.nil _ _ _ _
  · injection h1 with h1
    rw [h1]
    exact hR.els hs
theorem VcAt.pts {B : Nat} {w : World} {x : Vc} (h : VcAt B w x) : Pts w x.a x.ps := by
  obtain ⟨cap, ho⟩ := h.own
  exact owns_els pc_len ho
/-- What All answers, as a list that may come in. -/
theorem vin_of {B B' : Nat} {w : World} {va : Option Addr} {vcap : Nat} {xs : List Vc} {L : Vs} (hL : xs.map (fun x => (x.line, x.ps)) = L) (ho : OwnV B w (.slice va xs.length vcap) xs) (hx : ∀ x ∈ xs, VcAt B' w x) (hG : GoodV L) (hS : Small L) : VIn w va xs := by
  have hm : ∀ x ∈ xs, (x.line, x.ps) ∈ L := fun x hx => by rw [← hL]; exact List.mem_map.2 ⟨x, hx, rfl⟩
  have hl : xs.length = L.length := by rw [← hL]; simp
  refine ⟨owns_els vc_len ho, fun x h => (hx x h).pts, fun x h => ⟨hG.wf _ (hm x h), fun q hq => (hG.inn _ (hm x h)).wf q hq⟩, ?_, fun x h => ?_⟩
  · have := hS.len; unfold maxLen; omega
  · have := hS.inn _ (hm x h); simp only at this; unfold maxLen; omega

def ac (k l o n : Int) (h : (Lit.int .u8 k).wf = true ∧ U64 l ∧ U64 o ∧ U64 n) : Ac := ⟨k, l, o, n, h.1, h.2.1, h.2.2.1, h.2.2.2⟩
end Go.Proofs.YtchcelodeepjdaaGreatDoor.Vx

namespace Go.Proofs.YtchcelodeepjdaaGreatDoor.Vx
open Go.ChangeShapes Go.WideShapes Go.ChangeAt Go.RowKit Go.Herb Go.Deep

section
variable {H : Type} {enc : TypeId × Value → H} {w : World}

theorem fieldAt {fs : Array Field} {Q : Nat → TypeId → Prop} (h : ∀ (j : Nat) (f : Field), fs[j]? = some f → Q j f.type) (j : Nat) (t : TypeId) (ht : (fs[j]?).map (·.type) = some t) : Q j t := by
  obtain ⟨f, hf, rfl⟩ := Option.map_eq_some_iff.1 ht
  exact h j f hf

/-- The fields of a struct, each where it lies. -/
theorem rd_struct {t : TypeId} {fuel : Nat} {cs : List Value} {x : DataW H × List MemPlace} (ht : Tryz.prog.underlying t = some (.struct (Tryz.prog.fieldsOf t))) (h : DataW.trod enc Tryz.prog w 0 (fun _ => true) true fuel t cs = some x) :
    cs.length = Tryz.prog.cellsOf t ∧ ∃ n, ∀ (i o u : Nat), ((Tryz.prog.fieldsOf t)[i]?).map (fun f => (f.offset, f.type)) = some (o, u) → ∃ y, DataW.trod enc Tryz.prog w 0 (fun _ => true) true n u ((cs.drop o).take (Tryz.prog.cellsOf u)) = some y := by
  obtain ⟨ys, n, _, _, hlen, hyl, hf⟩ := DataW.trod_struct ht h
  refine ⟨hlen, n, fun i o u hi => ?_⟩
  obtain ⟨f, hf', he⟩ := Option.map_eq_some_iff.1 hi
  simp only [Prod.mk.injEq] at he
  obtain ⟨rfl, rfl⟩ := he
  have hil : i < (Tryz.prog.fieldsOf t).size := (Array.getElem?_eq_some_iff.1 hf').1
  exact ⟨_, (hf i f hf').trans (List.getElem?_eq_getElem (by omega))⟩

theorem rd_points {fuel : Nat} {cs : List Value} {x : DataW H × List MemPlace} (h : DataW.trod enc Tryz.prog w 0 (fun _ => true) true fuel (74) cs = some x) :
    ∃ (a : Option Addr) (cap : Nat) (xs : Bh), cs = [.slice a xs.length cap] ∧ Pts w a xs ∧ xs.length ≤ maxLen ∧ ∀ q ∈ xs, U64 q.1 ∧ U64 q.2 := by
  have hfs : Tryz.prog.underlying (78) = some (.struct (Tryz.prog.fieldsOf (78))) := by kernel_rfl
  rcases open_slice_fields Tryz.underlying74 hfs (by kernel_rfl) (by kernel_rfl) h with h0 | ⟨a, len, cap, hcs, hl, hm, hi⟩
  · exact ⟨none, 0, [], h0, Els.nil _ _ _ _, by simp, by simp⟩
  · obtain ⟨xs, hlen, hq, hE⟩ := els_of_cells (enc := pc) (s := 2) (w := w) (a := a) (Q := fun q : Int × Int => U64 q.1 ∧ U64 q.2) len (fun _ => by simp [pc]) (fun i hil => by
      obtain ⟨n, hj⟩ := hi i hil
      have hsz : (Tryz.prog.fieldsOf (78)).size = 2 := by kernel_rfl
      rw [hsz] at hj
      obtain ⟨v0, y0, c0, e0⟩ := fieldAt (Q := fun j t => ∃ v y, w.cell? (a.add (i * 2 + j)) = some v ∧ DataW.trod enc Tryz.prog w 0 (fun _ => true) true n t [v] = some y) hj 0 (26) (by kernel_rfl)
      obtain ⟨v1, y1, c1, e1⟩ := fieldAt (Q := fun j t => ∃ v y, w.cell? (a.add (i * 2 + j)) = some v ∧ DataW.trod enc Tryz.prog w 0 (fun _ => true) true n t [v] = some y) hj 1 (26) (by kernel_rfl)
      obtain ⟨n0, hn0, _, w0⟩ := DataW.trod_int Tryz.underlying26 e0
      obtain ⟨n1, hn1, _, w1⟩ := DataW.trod_int Tryz.underlying26 e1
      simp only [List.cons.injEq, and_true] at hn0 hn1
      subst hn0 hn1
      refine ⟨(n0, n1), ⟨w0, w1⟩, fun j c hj => ?_⟩
      match j, hj with
      | 0, hj => simp [pc] at hj; subst hj; exact c0
      | 1, hj => simp [pc] at hj; subst hj; exact c1
      | j + 2, hj => simp [pc] at hj)
    subst hlen
    exact ⟨some a, cap, xs, hcs, hE, Nat.le_trans hl hm, hq⟩

set_option maxRecDepth 100000 in
theorem rd_vectors {fuel : Nat} {cs : List Value} {x : DataW H × List MemPlace} (h : DataW.trod enc Tryz.prog w 0 (fun _ => true) true fuel (29) cs = some x) :
    ∃ (a : Option Addr) (cap : Nat) (xs : List Vc), cs = [.slice a xs.length cap] ∧ VIn w a xs := by
  have hfs : Tryz.prog.underlying (76) = some (.struct (Tryz.prog.fieldsOf (76))) := by kernel_rfl
  rcases open_slice_fields Tryz.underlying29 hfs (by kernel_rfl) (by kernel_rfl) h with h0 | ⟨a, len, cap, hcs, hl, hm, hi⟩
  · exact ⟨none, 0, [], h0, ⟨Els.nil _ _ _ _, by simp, by simp, by simp, by simp⟩⟩
  · obtain ⟨xs, hlen, hq, hE⟩ := els_of_cells (enc := vc) (s := 2) (w := w) (a := a) (Q := fun y : Vc => Pts w y.a y.ps ∧ (U64 y.line ∧ ∀ q ∈ y.ps, U64 q.1 ∧ U64 q.2) ∧ y.ps.length ≤ maxLen) len (fun _ => by simp [vc]) (fun i hil => by
      obtain ⟨n, hj⟩ := hi i hil
      have hsz : (Tryz.prog.fieldsOf (76)).size = 2 := by kernel_rfl
      rw [hsz] at hj
      obtain ⟨v0, y0, c0, e0⟩ := fieldAt (Q := fun j t => ∃ v y, w.cell? (a.add (i * 2 + j)) = some v ∧ DataW.trod enc Tryz.prog w 0 (fun _ => true) true n t [v] = some y) hj 0 (26) (by kernel_rfl)
      obtain ⟨v1, y1, c1, e1⟩ := fieldAt (Q := fun j t => ∃ v y, w.cell? (a.add (i * 2 + j)) = some v ∧ DataW.trod enc Tryz.prog w 0 (fun _ => true) true n t [v] = some y) hj 1 (74) (by kernel_rfl)
      obtain ⟨n0, hn0, _, w0⟩ := DataW.trod_int Tryz.underlying26 e0
      obtain ⟨pa, pcap, ps, h1, hp, hpl, hpw⟩ := rd_points e1
      simp only [List.cons.injEq, and_true] at hn0 h1
      subst hn0 h1
      refine ⟨⟨n0, pa, pcap, ps⟩, ⟨hp, ⟨w0, hpw⟩, hpl⟩, fun j c hj => ?_⟩
      match j, hj with
      | 0, hj => simp [vc] at hj; subst hj; exact c0
      | 1, hj => simp [vc] at hj; subst hj; exact c1
      | j + 2, hj => simp [vc] at hj)
    subst hlen
    exact ⟨some a, cap, xs, hcs, ⟨hE, fun y hy => (hq y hy).1, fun y hy => (hq y hy).2.1, Nat.le_trans hl hm, fun y hy => (hq y hy).2.2⟩⟩

end
end Go.Proofs.YtchcelodeepjdaaGreatDoor.Vx
