/- vectors: All. Condition: fewer than 100000 lines. · vectors: Of. No condition. · vectors: Fork, Drop, First. Condition: fewer than 1000000 lines. -/
import Derived.Test.YticcccciefaemaaGreatDoorOG
import Derived.Deep.RegionLaw
import Derived.Lib.AppendZeros
import Derived.Maps.AppendAt
namespace Go.Proofs.YticcccciefaemaaGreatDoor.Vx
open Go.RowKit Go.Shelf Go.Herb

/-- A point, a vector as it lies. -/
def pc (q : Int × Int) : List Value := [.int .u64 q.1, .int .u64 q.2]
theorem pc_len (q : Int × Int) : (pc q).length = 2 := rfl
structure Vc where
  line : Int
  a : Option Addr
  c : Nat
  ps : Bh
def vc (x : Vc) : List Value := [.int .u64 x.line, .slice x.a x.ps.length x.c]
theorem vc_len (x : Vc) : (vc x).length = 2 := rfl
abbrev Pts (w : World) (a : Option Addr) (ps : Bh) : Prop := Els pc 2 w a ps
abbrev OwnP (B : Nat) (w : World) (v : Value) (ps : Bh) : Prop := w.ownsRow B (72) 2 v ps.length (ps.flatMap pc)
abbrev OwnV (B : Nat) (w : World) (v : Value) (xs : List Vc) : Prop := w.ownsRow B (68) 2 v xs.length (xs.flatMap vc)

theorem wp_append_run {P : Program} {w : World} {o : Oper} {a : Act} {K : Act → World → Prop} {Q : Exit → Act → World → Prop} (s x : Operand) (t tn : TypeId) (ho : o.op = .call { callee := .builtin .append, args := #[s, x], argTypes := #[t, tn] })
    (vs vx : Value) (hs : a.eval s = vs) (hx : a.eval x = vx) (v' : Value) (w' : World) (hr : (Builtin.append_ #[t, tn] o.type #[vs, vx]).run P w = .ok v' w') (h : K (a.put o.dst v') w') : o.wp P a w K Q := by
  unfold Oper.wp execOp
  simp only [ho, resolve, invoke, builtin, Sem.run_bind, Sem.run_pure, Result.andThen_ok, List.map_toArray, List.map_cons, List.map_nil, hs, hx, hr]
  exact h
theorem step_append_run {P : Program} {w : World} {ops : Array Oper} {o : Oper} {a : Act} {K : Act → World → Prop} {Q : Exit → Act → World → Prop} {E : Prop} (hgd : o.guard = none) (s x : Operand) (t tn : TypeId) (ho : o.op = .call { callee := .builtin .append, args := #[s, x], argTypes := #[t, tn] })
    (vs vx : Value) (hs : a.eval s = vs) (hx : a.eval x = vx) (v' : Value) (w' : World) (hr : (Builtin.append_ #[t, tn] o.type #[vs, vx]).run P w = .ok v' w') (h : K (a.put o.dst v') w') :
    if Region.wanted o (yielded ops a.tmps) = true then Oper.wp P o a w K Q else E := by
  have hw : Region.wanted o (yielded ops a.tmps) = true := by simp [Region.wanted, hgd]
  rw [if_pos hw]
  exact wp_append_run s x t tn ho vs vx hs hx v' w' hr h
theorem infoP : (Tryz.prog.info? (72)).map (fun i => (i.zero, i.size, i.bytes)) = some (some (.agg #[.int .u64 0, .int .u64 0]), 2, 16) := by kernel_rfl
theorem infoV : (Tryz.prog.info? (68)).map (fun i => (i.zero, i.size, i.bytes)) = some (some (.agg #[.int .u64 0, .slice none 0 0]), 2, 32) := by kernel_rfl
theorem run_append_p (w : World) (B : Nat) (v : Value) (ys : Bh) (vb : Nat) (x : Int × Int) (ho : OwnP B w v ys) (hb : w.heap[vb]? = some (.cells #[.int .u64 x.1, .int .u64 x.2] (72) (0, 0))) (hx : ys.length < 1000000) (hB : B ≤ w.heap.size) (ty : TypeId) :
    ∃ v' w', (Builtin.append_ #[(66), (66)] ty #[v, .slice (some ⟨vb, 0, none⟩) 1 1]).run Tryz.prog w = .ok v' w' ∧ OwnP B w' v' (ys ++ [x]) ∧ w.grownBy w' v.ownBlock := by
  obtain ⟨i0, hin, hz0, hz1, hz2⟩ := info_parts infoP
  obtain ⟨v', w', hr, h2, h3, h4⟩ := run_append_own (P := Tryz.prog) w B (66) ty (72) i0 _ 2 16 Tryz.underlying66 hin hz0 hz1 hz2 rfl (by decide) v ys.length (ys.flatMap pc) ho ⟨vb, 0, none⟩ 1 1 (pc x) rfl (fun j u hj => by
      have : ((⟨vb, 0, none⟩ : Addr).add j) = ⟨vb, 0 + j, none⟩ := addr_add _ _ _
      rw [this, Nat.zero_add, cell_of_blk hb]
      simpa [pc] using hj) (by intro v hv; simp [pc] at hv; rcases hv with rfl | rfl <;> rfl) (by unfold maxLen; omega) (by omega) hB
  refine ⟨v', w', hr, ?_, h3⟩
  unfold OwnP
  rw [List.length_append, List.flatMap_append]
  simpa using h2
theorem run_append_v (w : World) (B : Nat) (v : Value) (ys : List Vc) (vb : Nat) (x : Vc) (ho : OwnV B w v ys) (hb : w.heap[vb]? = some (.cells #[.int .u64 x.line, .slice x.a x.ps.length x.c] (68) (0, 0))) (hx : ys.length < 1000000) (hB : B ≤ w.heap.size) (ty : TypeId) :
    ∃ v' w', (Builtin.append_ #[(24), (24)] ty #[v, .slice (some ⟨vb, 0, none⟩) 1 1]).run Tryz.prog w = .ok v' w' ∧ OwnV B w' v' (ys ++ [x]) ∧ w.grownBy w' v.ownBlock ∧ (v'.ownBlock = v.ownBlock ∨ v'.ownBlock = some w.heap.size) := by
  obtain ⟨i0, hin, hz0, hz1, hz2⟩ := info_parts infoV
  obtain ⟨v', w', hr, h2, h3, _, h5⟩ := run_append_own_at (P := Tryz.prog) (w := w) B (24) ty (68) i0 _ 2 32 Tryz.underlying24 hin hz0 hz1 hz2 rfl (by decide) v ys.length (ys.flatMap vc) ho ⟨vb, 0, none⟩ 1 1 (vc x) rfl (fun j u hj => by
      have : ((⟨vb, 0, none⟩ : Addr).add j) = ⟨vb, 0 + j, none⟩ := addr_add _ _ _
      rw [this, Nat.zero_add, cell_of_blk hb]
      simpa [vc] using hj) (by intro v hv; simp [vc] at hv; rcases hv with rfl | rfl <;> rfl) (by unfold maxLen; omega) (by omega) hB
  refine ⟨v', w', hr, ?_, h3, h5⟩
  unfold OwnV
  rw [List.length_append, List.flatMap_append]
  simpa using h2
theorem grown_own {a b c : World} {row r2 : Option Nat} (h : a.grownBy b row) (hg : b.grownBy c r2) (hr : ∀ k, r2 = some k → a.heap.size ≤ k) : a.grownBy c row :=
  ⟨hg.os.trans h.os, hg.tape.trans h.tape, hg.output.trans h.output, Nat.le_trans h.size hg.size, fun i hi hne => (hg.block i (Nat.lt_of_lt_of_le hi h.size) (fun e => by have := hr i e.symm; omega)).trans (h.block i hi hne)⟩
theorem clipP_any (a : Option Addr) (cap n : Nat) (w : World) (hn : a = none → n = 0 ∧ cap = 0) (hl : n < 1000000) (hle : n ≤ cap) (hm : cap ≤ maxLen) :
    Calls Tryz.prog (49) #[.slice a n cap] w fun e w' => e = .returned (.slice a n n) ∧ w = w' := by
  cases a with
  | none =>
    obtain ⟨rfl, rfl⟩ := hn rfl
    clear hn
    go_enter Tryz.func49, Tryz.ntmps49
    go_wp2
    go_ret
    exact ⟨rfl, rfl⟩
  | some ad =>
    clear hn
    unfold maxLen at hm
    go_enter Tryz.func49, Tryz.ntmps49
    go_wp2
    go_ret
    exact ⟨rfl, rfl⟩
/-- A slice that a call owns: where it lies. -/
theorem own_parts {B e s n : Nat} {w : World} {v : Value} {xs : List Value} (h : w.ownsRow B e s v n xs) : ∃ a cap, v = .slice a n cap ∧ (a = none → n = 0 ∧ cap = 0) ∧ n ≤ cap ∧ cap ≤ maxLen ∧ ∀ ad, a = some ad → B ≤ ad.block ∧ ad.block < w.heap.size := by
  obtain ⟨h1, ⟨rfl, h2⟩ | ⟨g, cap, cur, rfl, hg, hh, hle, hm, _⟩⟩ := h
  · subst h2
    exact ⟨none, 0, rfl, fun _ => ⟨rfl, rfl⟩, Nat.le_refl _, Nat.zero_le _, fun ad h => by cases h⟩
  · exact ⟨some ⟨g, 0, none⟩, cap, rfl, (fun h => by cases h), hle, hm, fun ad h => by cases h; exact ⟨hg, lt_of_blk hh⟩⟩
/-- One line of the answer: its points lie in a block of their own, or there are none. -/
structure VcAt (B : Nat) (w : World) (x : Vc) : Prop where
  own : ∃ cap, OwnP B w (.slice x.a x.ps.length cap) x.ps
  cap : x.c = x.ps.length
theorem VcAt.kept {B : Nat} {w w' : World} {x : Vc} {row : Option Nat} (h : VcAt B w x) (hg : w.grownBy w' row) (hr : ∀ r, row = some r → x.a ≠ some ⟨r, 0, none⟩) : VcAt B w' x := by
  obtain ⟨cap, ho⟩ := h.own
  refine ⟨⟨cap, World.ownsRow.kept ho hg ?_⟩, h.cap⟩
  rcases row_of_owns ho with ⟨h1, _⟩ | ⟨g, cap, h1, _, _⟩
  · rw [h1]; exact .inl rfl
  · refine .inr (fun e => ?_)
    rw [h1] at e
    have h2 : x.a = some ⟨g, 0, none⟩ := by injection h1
    exact hr g e.symm h2
theorem VcAt.below {B : Nat} {w w' : World} {x : Vc} (h : VcAt B w x) (hb : Below w.heap.size w w') : VcAt B w' x := by
  obtain ⟨cap, ho⟩ := h.own
  exact ⟨⟨cap, ownsRow_below ho hb (Nat.le_refl _)⟩, h.cap⟩
theorem VcAt.mono {B B' : Nat} {w : World} {x : Vc} (h : VcAt B w x) (hb : B' ≤ B) : VcAt B' w x := by
  obtain ⟨cap, ho⟩ := h.own
  exact ⟨⟨cap, ownsRow_mono ho hb⟩, h.cap⟩
/-- What All answers. -/
def AllPost (L : Vs) (w : World) (e : Ending) (w' : World) : Prop :=
  ∃ (va : Option Addr) (vcap : Nat) (xs : List Vc), e = .returned (.slice va xs.length xs.length) ∧ xs.map (fun x => (x.line, x.ps)) = L ∧ OwnV w.heap.size w' (.slice va xs.length vcap) xs ∧ (∀ x ∈ xs, VcAt w.heap.size w' x ∧ ∀ r, va = some ⟨r, 0, none⟩ → x.a ≠ some ⟨r, 0, none⟩) ∧ Below w.heap.size w w'
theorem sorted_keys {β : Type} {L : List (Int × β)} (h : SrtK L) {ks : List Int} (hp : ks.Perm (L.map (·.1))) (hs : ks.Pairwise (· ≤ ·)) : ks = L.map (·.1) := by
  refine hp.eq_of_pairwise (fun _ _ _ _ h3 h4 => Int.le_antisymm h3 h4) hs ?_
  rw [List.pairwise_map]
  exact h.imp (fun h => Int.le_of_lt h)

end Go.Proofs.YticcccciefaemaaGreatDoor.Vx

namespace Go.Herb
open Go
def okB (b : Bh) : Prop := SrtK b ∧ ∀ q ∈ b, q.2 ≠ 0
def okV (L : Vs) : Prop := SrtK L ∧ ∀ p ∈ L, okB p.2
theorem SrtK.get {β : Type} {b : List (Int × β)} (h : SrtK b) {i j : Nat} (hij : i < j) (hj : j < b.length) : b[i].1 < b[j].1 := List.pairwise_iff_getElem.1 h i j (by omega) hj hij
theorem SrtK.take {β : Type} {b : List (Int × β)} (h : SrtK b) (k : Nat) : SrtK (b.take k) := List.Pairwise.sublist (List.take_sublist _ _) h
theorem SrtK.snoc {β : Type} {b : List (Int × β)} {i : Nat} (h : SrtK (b.take i)) (hi : i < b.length) (hl : i = 0 ∨ ∃ h : i - 1 < b.length, b[i - 1].1 < b[i].1) : SrtK (b.take (i + 1)) := by
  rw [List.take_succ_eq_append_getElem hi]
  unfold SrtK at h ⊢
  rw [List.pairwise_append]
  refine ⟨h, List.pairwise_singleton _ _, fun p hp q hq => ?_⟩
  rw [List.mem_singleton.1 hq]
  rcases hl with rfl | ⟨hl, hlt⟩
  · simp at hp
  · obtain ⟨j, hj, rfl⟩ := List.getElem_of_mem hp
    simp only [List.length_take] at hj
    rw [List.getElem_take]
    rcases Nat.lt_or_eq_of_le (show j ≤ i - 1 by omega) with h1 | h1
    · have h2 := List.pairwise_iff_getElem.1 h j (i - 1) (by simp; omega) (by simp; omega) h1
      simp only [List.getElem_take] at h2
      omega
    · subst h1; exact hlt
theorem putL_new {α β : Type} [DecidableEq α] {m : List (α × β)} {a : α} {b : β} (h : a ∉ m.map (·.1)) : putL m a b = m ++ [(a, b)] := by unfold putL; rw [if_neg h]
theorem putS_last {β : Type} {b : List (Int × β)} {k : Int} {v : β} (h : ∀ p ∈ b, p.1 < k) : putS b k v = b ++ [(k, v)] := by
  unfold putS
  have h1 : b.filter (fun p => decide (p.1 < k)) = b := List.filter_eq_self.2 (fun p hp => by simp [h p hp])
  have h2 : b.filter (fun p => decide (k < p.1)) = [] := List.filter_eq_nil_iff.2 (fun p hp => by have := h p hp; simp; omega)
  rw [h1, h2]
theorem take_lt {β : Type} {b : List (Int × β)} {i : Nat} (h : SrtK (b.take (i + 1))) (hi : i < b.length) : ∀ p ∈ b.take i, p.1 < b[i].1 := by
  rw [List.take_succ_eq_append_getElem hi] at h
  have := (List.pairwise_append.1 h).2.2
  exact fun p hp => this p hp _ (by simp)
theorem okV.good {L : Vs} (h : okV L) (hw : ∀ p ∈ L, U64 p.1 ∧ ∀ q ∈ p.2, U64 q.1 ∧ U64 q.2) : GoodV L := by
  refine ⟨h.1, fun p hp => ⟨(h.2 p hp).1, fun q hq => ?_, (hw p hp).2⟩, fun p hp => (hw p hp).1⟩
  have h1 := (h.2 p hp).2 q hq
  have h2 := ((hw p hp).2 q hq).2
  unfold U64 at h2
  simp [Lit.wf, IntKind.min, IntKind.max, IntKind.signed, IntKind.bits] at h2
  omega
end Go.Herb
namespace Go.Proofs.YticcccciefaemaaGreatDoor.Vx
open Go.RowKit Go.Shelf Go.Herb

/-- New vectors with a line more, in the same map. -/
theorem VecIs.more {w w' : World} {p mb ib : Nat} {M : List (Int × Nat)} {L : Vs} {line : Int} {m B : Bh} (h : VecIs w p mb M L) (hL : SrtK L) (hpm : p ≠ mb) (hne : ∀ q ∈ M, q.2 ≠ mb) (hg : w.grownBy w' (some mb))
    (out : MapM w' mb (putL M line ib)) (hi : MapU w' ib m) (hp : m.Perm B) : VecIs w' p mb (putL M line ib) (putS L line B) := by
  have hn := out.nodup
  refine ⟨(hg.block _ (lt_of_blk h.blk) (fun e => by injection e with e; exact hpm e)).trans h.blk, out, ?_, fun q hq => ?_⟩
  · refine (List.perm_ext_iff_of_nodup hn (putS_srt hL).nodup).2 fun k => ?_
    rw [mem_keys_putS, putL_keys, ← h.keys.mem_iff]
    split
    · rename_i hm
      constructor
      · exact .inr
      · rintro (rfl | h)
        · exact hm
        · exact h
    · rw [List.mem_append, List.mem_singleton]
      exact or_comm
  · have hg2 := (getL_some hn).2 (show (q.1, q.2) ∈ putL M line ib from hq)
    by_cases e : q.1 = line
    · rw [e, getL_put_same] at hg2
      cases hg2
      exact ⟨m, B, hi, by rw [getL_putS hL, if_pos e], hp⟩
    · rw [getL_put_other _ _ _ e] at hg2
      obtain ⟨m2, b2, h1, h2, h3⟩ := h.inn _ (getL_mem hg2)
      exact ⟨m2, b2, h1.same (hg.block _ h1.lt (fun e => by injection e with e; exact hne _ (getL_mem hg2) e)), by rw [getL_putS hL, if_neg e]; exact h2, h3⟩
/-- Vectors that lie above a mark stay while all above it stays. -/
structure VecNew (B : Nat) (w : World) (p mb : Nat) (M : List (Int × Nat)) (L : Vs) : Prop where
  is : VecIs w p mb M L
  lp : B ≤ p
  lm : B ≤ mb
  li : ∀ q ∈ M, B ≤ q.2
theorem VecNew.same {B : Nat} {w w' : World} {p mb : Nat} {M : List (Int × Nat)} {L : Vs} (h : VecNew B w p mb M L) (hb : ∀ b, B ≤ b → b < w.heap.size → w'.heap[b]? = w.heap[b]?) : VecNew B w' p mb M L :=
  ⟨⟨(hb _ h.lp (lt_of_blk h.is.blk)).trans h.is.blk, h.is.out.same (hb _ h.lm h.is.out.lt), h.is.keys, fun q hq => by obtain ⟨m, b, h1, h2⟩ := h.is.inn q hq; exact ⟨m, b, h1.same (hb _ (h.li q hq) h1.lt), h2⟩⟩, h.lp, h.lm, h.li⟩

/-- A list of vectors, as it may come in. -/
structure VIn (w : World) (a : Option Addr) (xs : List Vc) : Prop where
  els : Els vc 2 w a xs
  inn : ∀ x ∈ xs, Pts w x.a x.ps
  wf : ∀ x ∈ xs, U64 x.line ∧ ∀ q ∈ x.ps, U64 q.1 ∧ U64 q.2
  len : xs.length ≤ maxLen
  lens : ∀ x ∈ xs, x.ps.length ≤ maxLen
def vsOf (xs : List Vc) : Vs := xs.map (fun x => (x.line, x.ps))
theorem vsOf_len (xs : List Vc) : (vsOf xs).length = xs.length := by simp [vsOf]
theorem vsOf_get (xs : List Vc) (i : Nat) (h : i < xs.length) : (vsOf xs)[i]'(by rw [vsOf_len]; exact h) = (xs[i].line, xs[i].ps) := by simp [vsOf]
def OfPost (L : Vs) (w : World) (e : Ending) (w' : World) : Prop :=
  ∃ v er, e = .returned (.tuple #[v, .int .i64 er]) ∧ Below w.heap.size w w' ∧ ((er = 0 ∧ okV L ∧ ∃ p mb M, v = .pointer (some ⟨p, 0, none⟩) ∧ VecNew w.heap.size w' p mb M L) ∨ (er = 4 ∧ ¬ okV L ∧ v = .pointer none))

set_option maxRecDepth 100000 in
set_option maxHeartbeats 1000000 in
theorem of_any (a : Option Addr) (cap : Nat) (xs : List Vc) (w : World) (h : VIn w a xs) :
    Calls Tryz.prog (6) #[.slice a xs.length cap] w (OfPost (vsOf xs) w) := by
  have H := Lib.hid h
  have hmm := @run_makeMap Tryz.prog
  have hlen : xs.length ≤ 9223372036854775807 := h.len
  have hN : MapM ((w.alloc (.map #[] 0)).alloc (.cells #[.map (some w.heap.size), .int .i64 1] (47))) w.heap.size [] := (MapIs.made (P := Tryz.prog) (k := (52)) (encK := eU) (encV := eM) (α := Int) (β := Nat) w).same (Below.heap_alloc _ _ _ (by simp))
  have hB0 : Hid (((w.alloc (.map #[] 0)).alloc (.cells #[.map (some w.heap.size), .int .i64 1] (47))).heap[w.heap.size + 1]? = some (.cells #[.map (some w.heap.size), .int .i64 1] (47) (0, 0))) := Lib.hid (blk_new_at (by simp) _)
  have HN := Lib.hid hN
  clear h hN
  go_enter Tryz.func6, Tryz.ntmps6
  go_wp2_with fail
  go_loopg [15] xs.length (fun gk iv wr => ∃ (i : Nat) (M : List (Int × Nat)), i + gk = xs.length ∧ iv = .int .i64 i ∧ Hid (VecIs wr (w.heap.size + 1) w.heap.size M ((vsOf xs).take i)) ∧ Hid (∀ q ∈ M, w.heap.size + 1 < q.2) ∧ Hid (okV ((vsOf xs).take i)) ∧ Below w.heap.size w wr)
  case atStart => exact ⟨0, [], by omega, rfl, Lib.hid ⟨hB0.out, HN.out, List.Perm.refl _, by simp⟩, Lib.hid (by simp), Lib.hid ⟨.nil, by simp⟩, ((Below.refl _ w).alloc (Nat.le_refl _) _).alloc (by simp) _⟩
  case round =>
    obtain ⟨i, M, hi, rfl, HV, HM, HO, hbw⟩ := hrel
    have HBW := Lib.hid hbw
    have hsz := hbw.size
    have hsm : w.heap.size + 1 < wr.heap.size := lt_of_blk HV.out.blk
    clear hbw HN hB0
    by_cases hlt : i < xs.length
    · obtain ⟨b, o, rfl, hlb, hcell⟩ := H.out.els.get i hlt
      have hbw0 : b < wr.heap.size := by omega
      have x0 := (HBW.out.cell (p := ⟨b, _, none⟩) hlb).trans (hcell 0 _ rfl)
      have x1 := (HBW.out.cell (p := ⟨b, _, none⟩) hlb).trans (hcell 1 _ rfl)
      simp only [Nat.add_zero] at x0 x1
      have hi0 : (0 : Int) ≤ (i : Int) := by omega
      have hi1 : (i : Int) < (xs.length : Int) := by omega
      have hli : i < (vsOf xs).length := by rw [vsOf_len]; exact hlt
      have hgi := vsOf_get xs i hlt
      have HX := Lib.hid (List.getElem_mem hlt)
      have HTI := Lib.hid (show (vsOf xs).take (i + 1) = (vsOf xs).take i ++ [(xs[i].line, xs[i].ps)] from by rw [List.take_succ_eq_append_getElem hli, hgi])
      -- the line ahead
      have hprev : ∀ h0 : 0 < i, ∃ pl, wr.cell? ⟨b, o + (i - 1) * 2, none⟩ = some (.int .u64 pl) ∧ (vsOf xs)[i - 1].1 = pl := fun h0 => by
        obtain ⟨b', o', ha', hlb', hcell'⟩ := H.out.els.get (i - 1) (by omega)
        injection ha' with ha'
        cases ha'
        have := (HBW.out.cell (p := ⟨b, _, none⟩) hlb').trans (hcell' 0 _ rfl)
        simp only [Nat.add_zero] at this
        exact ⟨_, this, by rw [vsOf_get xs (i - 1) (by omega)]⟩
      have HPV := Lib.hid hprev
      have HGI := Lib.hid hgi
      clear hcell hgi hprev
      generalize xs[i] = x at *
      obtain ⟨xl, xa, xc, xp⟩ := x
      simp only at x0 x1 HTI HGI
      have hxw := H.out.wf _ HX.out
      have hxp := H.out.inn _ HX.out
      have hxpl0 := H.out.lens _ HX.out
      simp only at hxw hxp hxpl0
      have hxpl : xp.length ≤ 9223372036854775807 := hxpl0
      clear hxpl0
      have HXW := Lib.hid hxw
      have HXP := Lib.hid hxp
      clear hxw hxp
      obtain ⟨X, hX⟩ : ∃ X : World, X = wr.alloc (.cells #[.int .u64 xl, .slice xa xp.length xc] (68)) := ⟨_, rfl⟩
      have hXb : Below wr.heap.size wr X := by rw [hX]; exact (Below.refl _ _).alloc (Nat.le_refl _) _
      have hXs : X.heap.size = wr.heap.size + 1 := by rw [hX]; simp
      have hXx : X.heap[wr.heap.size]? = some (.cells #[.int .u64 xl, .slice xa xp.length xc] (68) (0, 0)) := by rw [hX]; exact blk_new_at rfl _
      have HXB := Lib.hid hXb
      have HXS := Lib.hid hXs
      have HXX := Lib.hid hXx
      go_upto_region 5 with (fail)
      rw [← hX]
      clear hX
      go_cut [32] (fun v wx => ∃ (c : Bool) (n : Nat), v = .bool c ∧ Hid (c = true → 0 < i ∧ ¬ okV (vsOf xs)) ∧ Hid (c = false → SrtK ((vsOf xs).take (i + 1))) ∧ wx = X.drewN n)
      case first =>
        have X0 := cell_of_blk HXX.out 0
        simp at X0
        clear x0 x1 hXx
        by_cases h0 : 0 < i
        · obtain ⟨pl, hpc, hpl⟩ := HPV.out h0
          have hpX := (HXB.out.cell (p := ⟨b, o + (i - 1) * 2, none⟩) hbw0).trans hpc
          have h0' : (0 : Int) < (i : Int) := by omega
          have h0d : decide ((0 : Int) < (i : Int)) = true := decide_eq_true h0'
          have h0e : decide (0 < i) = true := decide_eq_true h0
          have w1 : IntKind.i64.wrap ((i : Int) - 1) = (i : Int) - 1 := IntWalk.i64_in _ (by omega)
          have p1 : (0 : Int) ≤ (i : Int) - 1 := by omega
          have p1' : (1 : Int) ≤ (i : Int) := by omega
          have q1 : ((i : Int) - 1).toNat = i - 1 := by omega
          have r1 : (i : Int) - 1 < (xs.length : Int) := by omega
          have hbX : b < X.heap.size := by have := HXS.out; omega
          have HPL := Lib.hid hpl
          clear hpc hpl hXb hXs
          by_cases hle : xl ≤ pl
          · have hled : decide (xl ≤ pl) = true := decide_eq_true hle
            have HB : Hid (¬ okV (vsOf xs)) := Lib.hid (fun hok => by
              have h1 := SrtK.get hok.1 (i := i - 1) (j := i) (by omega) hli
              rw [HPL.out, HGI.out] at h1
              simp only at h1
              omega)
            go_wp2_with fail
            go_quiet (fail)
            go_wp2_with fail
            go_meet
            exact ⟨true, nq, rfl, Lib.hid (fun _ => ⟨h0, HB.out⟩), Lib.hid (fun h => by cases h), rfl⟩
          · have hled : decide (xl ≤ pl) = false := decide_eq_false hle
            have HB : Hid (SrtK ((vsOf xs).take (i + 1))) := Lib.hid (HO.out.1.snoc hli (.inr ⟨by omega, by rw [HPL.out, HGI.out]; simp only; omega⟩))
            go_wp2_with fail
            go_quiet (fail)
            go_wp2_with fail
            go_meet
            exact ⟨false, nq, rfl, Lib.hid (fun h => by cases h), Lib.hid (fun _ => HB.out), rfl⟩
        · have h0' : ¬ (0 : Int) < (i : Int) := by omega
          have h0d : decide ((0 : Int) < (i : Int)) = false := decide_eq_false h0'
          have h0e : decide (0 < i) = false := decide_eq_false h0
          have HB : Hid (SrtK ((vsOf xs).take (i + 1))) := Lib.hid (HO.out.1.snoc hli (.inl (by omega)))
          clear hXb hXs
          go_wp2_with fail
          go_quiet (fail)
          go_wp2_with fail
          go_meet
          exact ⟨false, nq, rfl, Lib.hid (fun h => by cases h), Lib.hid (fun _ => HB.out), rfl⟩
      case rest =>
      obtain ⟨c, n, rfl, HC1, HC2, rfl⟩ := hcut
      obtain ⟨Y, hY⟩ : ∃ Y : World, Y = X.drewN n := ⟨_, rfl⟩
      have hYh : ∀ k : Nat, Y.heap[k]? = X.heap[k]? := fun k => by rw [hY]; rfl
      have hYs : Y.heap.size = wr.heap.size + 1 := by rw [hY]; exact hXs
      have hYb : Below wr.heap.size wr Y := by rw [hY]; exact below_drewN hXb n
      rw [← hY]
      have hYx := (hYh _).trans hXx
      have HYB := Lib.hid hYb
      have HYX := Lib.hid hYx
      have HYS := Lib.hid hYs
      clear hY x0 x1 hXb hXs hXx
      cases c with
      | true =>
        have HE : Hid (OfPost (vsOf xs) w (.returned (.tuple #[.pointer none, .int .i64 4])) Y) := Lib.hid ⟨_, 4, rfl, HBW.out.trans (hYb.mono hsz), .inr ⟨rfl, (HC1.out rfl).2, rfl⟩⟩
        clear hYh hYs hYb hYx
        go_wp2_with fail
        go_ret2
        exact HE.out
      | false =>
        have HSO := Lib.hid (HC2.out rfl)
        have y0 := cell_of_blk hYx 0
        have y1 := cell_of_blk hYx 1
        simp at y0 y1
        have hwY : wr.heap.size < Y.heap.size := by omega
        have HN2 : Hid (MapU (Y.alloc (.map #[] 0)) Y.heap.size []) := Lib.hid (MapIs.made (P := Tryz.prog) (k := (52)) (encK := eU) (encV := eU) (α := Int) (β := Int) Y)
        clear hYh hYs hYb hYx HC1 HC2
        go_wp2_with fail
        clear y0 y1
        obtain ⟨g1, rfl⟩ : ∃ g1 : Nat, g1 = gk := ⟨_, rfl⟩
        obtain ⟨wo, rfl⟩ : ∃ wo : World, wo = wr := ⟨_, rfl⟩
        go_loopg [37] xp.length (fun gk kv wr => ∃ k : Nat, k + gk = xp.length ∧ kv = .int .i64 k ∧ Hid (MapU wr Y.heap.size (xp.take k)) ∧ Hid (okB (xp.take k)) ∧ Below Y.heap.size Y wr)
        case atStart => exact ⟨0, by omega, rfl, HN2, Lib.hid ⟨.nil, by simp⟩, (Below.refl _ _).alloc (Nat.le_refl _) _⟩
        case round =>
          obtain ⟨k, hk, rfl, HMU, HOB, hbk⟩ := hrel
          have HBK := Lib.hid hbk
          have hsk : Y.heap.size < wr.heap.size := HMU.out.lt
          have HWW := Lib.hid (HBW.out.trans ((HYB.out.trans (hbk.mono (by omega))).mono hsz))
          have hyx := blk_below HYX.out hbk hwY
          have HYXR := Lib.hid hyx
          clear hbk HN2
          by_cases hkl : k < xp.length
          · obtain ⟨b2, o2, rfl, hlb2, hcell2⟩ := HXP.out.get k hkl
            have z0 := (HWW.out.cell (p := ⟨b2, _, none⟩) hlb2).trans (hcell2 0 _ rfl)
            have z1 := (HWW.out.cell (p := ⟨b2, _, none⟩) hlb2).trans (hcell2 1 _ rfl)
            simp only [Nat.add_zero] at z0 z1
            have hk0 : (0 : Int) ≤ (k : Int) := by omega
            have hk1 : (k : Int) < (xp.length : Int) := by omega
            have hlb3 : b2 < wr.heap.size := by have := HWW.out.size; omega
            have hprev : ∀ h0 : 0 < k, ∃ pl, wr.cell? ⟨b2, o2 + (k - 1) * 2, none⟩ = some (.int .u64 pl) ∧ xp[k - 1].1 = pl := fun h0 => by
              obtain ⟨b', o', ha', hlb', hcell'⟩ := HXP.out.get (k - 1) (by omega)
              injection ha' with ha'
              cases ha'
              have := (HWW.out.cell (p := ⟨b2, _, none⟩) hlb').trans (hcell' 0 _ rfl)
              simp only [Nat.add_zero] at this
              exact ⟨_, this, rfl⟩
            have HPV2 := Lib.hid hprev
            have HTK := Lib.hid (show xp.take (k + 1) = xp.take k ++ [xp[k]] from List.take_succ_eq_append_getElem hkl)
            have HQM := Lib.hid (List.getElem_mem hkl)
            have HQG := Lib.hid (show xp[k] = xp[k] from rfl)
            obtain ⟨q, hq⟩ : ∃ q, q = xp[k] := ⟨_, rfl⟩
            rw [← hq] at z0 z1 HTK HQM
            have HQ := Lib.hid hq
            clear hcell2 hprev hq HQG
            obtain ⟨q1, q2⟩ := q
            simp only at z0 z1
            obtain ⟨P, hP⟩ : ∃ P : World, P = wr.alloc (.cells #[.int .u64 q1, .int .u64 q2] (72)) := ⟨_, rfl⟩
            have hPb : Below wr.heap.size wr P := by rw [hP]; exact (Below.refl _ _).alloc (Nat.le_refl _) _
            have hPs : P.heap.size = wr.heap.size + 1 := by rw [hP]; simp
            have hPx : P.heap[wr.heap.size]? = some (.cells #[.int .u64 q1, .int .u64 q2] (72) (0, 0)) := by rw [hP]; exact blk_new_at rfl _
            have HPB := Lib.hid hPb
            have HPX := Lib.hid hPx
            have HPS := Lib.hid hPs
            have hwoW : wo.heap.size < wr.heap.size := by omega
            go_upto_region 11 with (fail)
            rw [← hP]
            clear hP z0 z1
            go_cut [60] (fun v wx => ∃ (c : Bool) (n : Nat), v = .bool c ∧ Hid (c = true → ¬ okB xp) ∧ Hid (c = false → okB (xp.take (k + 1))) ∧ wx = P.drewN n)
            case first =>
              have P0 := cell_of_blk HPX.out 0
              have P1 := cell_of_blk HPX.out 1
              simp at P0 P1
              have hwoP : wo.heap.size < P.heap.size := by omega
              have yx1 := cell_of_blk (blk_below HYXR.out hPb hwoW) 1
              simp at yx1
              have hbP : b2 < P.heap.size := by omega
              have hwrP : wr.heap.size < P.heap.size := by omega
              clear hPb hPs hPx hyx
              by_cases hq0 : q2 = 0
              · subst hq0
                have HB : Hid (¬ okB xp) := Lib.hid (fun hok => hok.2 _ HQM.out rfl)
                go_wp2_with fail
                go_quiet (fail)
                go_wp2_with fail
                go_meet
                exact ⟨true, nq, rfl, Lib.hid (fun _ => HB.out), Lib.hid (fun h => by cases h), rfl⟩
              · have hq0' : (q2 == 0) = false := by simpa using hq0
                have hq0d : decide (q2 = 0) = false := decide_eq_false hq0
                by_cases h0 : 0 < k
                · obtain ⟨pl, hpc, hpl⟩ := HPV2.out h0
                  have hpX := (HPB.out.cell (p := ⟨b2, o2 + (k - 1) * 2, none⟩) hlb3).trans hpc
                  have h0' : (0 : Int) < (k : Int) := by omega
                  have h0d : decide ((0 : Int) < (k : Int)) = true := decide_eq_true h0'
                  have h0e : decide (0 < k) = true := decide_eq_true h0
                  have w1 : IntKind.i64.wrap ((k : Int) - 1) = (k : Int) - 1 := IntWalk.i64_in _ (by omega)
                  have p1 : (0 : Int) ≤ (k : Int) - 1 := by omega
                  have p1' : (1 : Int) ≤ (k : Int) := by omega
                  have e1 : ((k : Int) - 1).toNat = k - 1 := by omega
                  have r1 : (k : Int) - 1 < (xp.length : Int) := by omega
                  have HPL := Lib.hid hpl
                  clear hpc hpl
                  by_cases hle : q1 ≤ pl
                  · have hled : decide (q1 ≤ pl) = true := decide_eq_true hle
                    have HB : Hid (¬ okB xp) := Lib.hid (fun hok => by
                      have h1 := SrtK.get hok.1 (i := k - 1) (j := k) (by omega) hkl
                      rw [HPL.out, ← HQ.out] at h1
                      simp only at h1
                      omega)
                    go_wp2_with fail
                    go_quiet (fail)
                    go_wp2_with fail
                    go_meet
                    exact ⟨true, nq, rfl, Lib.hid (fun _ => HB.out), Lib.hid (fun h => by cases h), rfl⟩
                  · have hled : decide (q1 ≤ pl) = false := decide_eq_false hle
                    have HB : Hid (okB (xp.take (k + 1))) := Lib.hid ⟨HOB.out.1.snoc hkl (.inr ⟨by omega, by rw [HPL.out, ← HQ.out]; simp only; omega⟩), fun r hr => by
                      rw [HTK.out] at hr
                      rcases List.mem_append.1 hr with hr | hr
                      · exact HOB.out.2 r hr
                      · rw [List.mem_singleton.1 hr]; exact hq0⟩
                    go_wp2_with fail
                    go_quiet (fail)
                    go_wp2_with fail
                    go_meet
                    exact ⟨false, nq, rfl, Lib.hid (fun h => by cases h), Lib.hid (fun _ => HB.out), rfl⟩
                · have h0' : ¬ (0 : Int) < (k : Int) := by omega
                  have h0d : decide ((0 : Int) < (k : Int)) = false := decide_eq_false h0'
                  have h0e : decide (0 < k) = false := decide_eq_false h0
                  have HB : Hid (okB (xp.take (k + 1))) := Lib.hid ⟨HOB.out.1.snoc hkl (.inl (by omega)), fun r hr => by
                      rw [HTK.out] at hr
                      rcases List.mem_append.1 hr with hr | hr
                      · exact HOB.out.2 r hr
                      · rw [List.mem_singleton.1 hr]; exact hq0⟩
                  go_wp2_with fail
                  go_quiet (fail)
                  go_wp2_with fail
                  go_meet
                  exact ⟨false, nq, rfl, Lib.hid (fun h => by cases h), Lib.hid (fun _ => HB.out), rfl⟩
            case rest =>
            obtain ⟨c, n2, rfl, HC1, HC2, rfl⟩ := hcut
            obtain ⟨Z, hZ⟩ : ∃ Z : World, Z = P.drewN n2 := ⟨_, rfl⟩
            have hZh : ∀ k : Nat, Z.heap[k]? = P.heap[k]? := fun k => by rw [hZ]; rfl
            have hZs : Z.heap.size = P.heap.size := by rw [hZ]; rfl
            have hZb : Below wr.heap.size wr Z := by rw [hZ]; exact below_drewN hPb n2
            rw [← hZ]
            have z0 := cell_of_blk ((hZh _).trans hPx) 0
            have z1 := cell_of_blk ((hZh _).trans hPx) 1
            simp at z0 z1
            clear hZ hPb hPx hyx
            cases c with
            | true =>
              have HE : Hid (OfPost (vsOf xs) w (.returned (.tuple #[.pointer none, .int .i64 4])) Z) := Lib.hid ⟨_, 4, rfl, HWW.out.trans (hZb.mono HWW.out.size), .inr ⟨rfl, fun hok => HC1.out rfl (hok.2 (xl, xp) (by unfold vsOf; exact List.mem_map.2 ⟨_, HX.out, rfl⟩)), rfl⟩⟩
              clear hZh hZs hZb z0 z1
              go_wp2_with fail
              go_ret2
              exact HE.out
            | false =>
              have hok := HC2.out rfl
              have hqw := HXW.out.2 _ HQM.out
              obtain ⟨kl, hkl2⟩ := keyU hqw.1
              have hMZ : MapU Z Y.heap.size (xp.take k) := HMU.out.same (hZb.block _ HMU.out.lt)
              obtain ⟨w6, hst, hM6, hg6, hs6⟩ := hMZ.store lawU eU_inj Tryz.underlying70 (by simp [maxLen]; omega) q2 hkl2
              have hnew : q1 ∉ (xp.take k).map (·.1) := fun hm => by
                obtain ⟨r, hr, e⟩ := List.mem_map.1 hm
                have := take_lt hok.1 hkl r hr
                rw [← HQ.out] at this
                simp only at this
                omega
              rw [putL_new hnew, ← HTK.out] at hM6
              have HM6 := Lib.hid hM6
              have HOK6 := Lib.hid hok
              have HB6 := Lib.hid (show Below Y.heap.size Y w6 from (HBK.out.trans (hZb.mono HBK.out.size)).grown hg6 (by omega) (fun k e => by injection e with e; omega))
              clear hZh hZs hZb hok hqw hMZ hM6 hg6 hs6 hnew HC1 HC2 hkl2
              go_wp2_with fail
              go_roundg (gk - 1)
              case measure => omega
              case rel => exact ⟨k + 1, by omega, by go_num, HM6, HOK6, HB6.out⟩
          · have hke : k = xp.length := by omega
            have hMU : MapU wr Y.heap.size xp := by have := HMU.out; rwa [hke, List.take_length] at this
            have hOB : okB xp := by have := HOB.out; rwa [hke, List.take_length] at this
            have hvw : VecIs wr.drew (w.heap.size + 1) w.heap.size M ((vsOf xs).take i) := HV.out.below ((HYB.out.trans (HBK.out.mono (by omega))).drew)
            obtain ⟨kl, hkl2⟩ := keyU HXW.out.1
            obtain ⟨w6, hst, hM6, hg6, hs6⟩ := hvw.out.store lawU eU_inj Tryz.underlying45 (by have := hvw.len; simp at this; unfold maxLen; omega) Y.heap.size hkl2
            have c0 := cell_of_blk hvw.blk 0
            have b0 := cell_of_blk (show wr.drew.heap[wo.heap.size]? = _ from hyx) 0
            simp at c0 b0
            have hlast := take_lt HSO.out hli
            rw [HGI.out] at hlast
            have hV6 := VecIs.more hvw (HO.out.1) (by omega) (fun q hq => by have := HM.out q hq; omega) hg6 hM6 ((show MapU wr.drew Y.heap.size xp from hMU.same rfl).same (hg6.block _ hMU.lt (fun e => by injection e with e; omega))) (List.Perm.refl _)
            rw [putS_last hlast, ← HTI.out] at hV6
            have HV6 := Lib.hid hV6
            have HM6 := Lib.hid (show ∀ q ∈ putL M xl Y.heap.size, w.heap.size + 1 < q.2 from fun q hq => by
              have hg2 := (getL_some hM6.nodup).2 (show (q.1, q.2) ∈ putL M xl Y.heap.size from hq)
              by_cases e : q.1 = xl
              · rw [e, getL_put_same] at hg2
                injection hg2 with hg2
                omega
              · rw [getL_put_other _ _ _ e] at hg2
                exact HM.out _ (getL_mem hg2))
            have HO6 := Lib.hid (show okV ((vsOf xs).take (i + 1)) from ⟨HSO.out, fun r hr => by
              rw [HTI.out] at hr
              rcases List.mem_append.1 hr with hr | hr
              · exact HO.out.2 r hr
              · rw [List.mem_singleton.1 hr]; exact hOB⟩)
            have HB6 := Lib.hid (show Below w.heap.size w w6 from ((HBW.out.trans ((HYB.out.trans (HBK.out.mono (by omega))).mono hsz)).drew).grown hg6 (by show w.heap.size ≤ wr.heap.size; omega) (fun k e => by injection e with e; omega))
            have hbx : wo.heap.size < wr.heap.size := by omega
            have hbp : w.heap.size + 1 < wr.heap.size := by omega
            clear hke hMU hOB hvw hM6 hg6 hs6 hlast hV6 hyx hkl2
            go_wp2_with fail
            go_region
            clear hst c0 b0
            go_wp2
            go_roundg (g1 - 1)
            case measure => omega
            case rel => exact ⟨i + 1, _, by omega, by go_num, HV6, HM6, HO6, HB6.out⟩
    · have hie : i = xs.length := by omega
      have htk : (vsOf xs).take i = vsOf xs := by rw [hie, ← vsOf_len, List.take_length]
      have HE : Hid (OfPost (vsOf xs) w (.returned (.tuple #[.pointer (some ⟨w.heap.size + 1, 0, none⟩), .int .i64 0])) wr) := Lib.hid ⟨_, 0, rfl, HBW.out, .inl ⟨rfl, by rw [← htk]; exact HO.out, _, _, _, rfl, by rw [← htk]; exact ⟨HV.out, by omega, Nat.le_refl _, fun q hq => by have := HM.out q hq; omega⟩⟩⟩
      clear hie htk
      go_wp2
      go_ret2
      exact HE.out
end Go.Proofs.YticcccciefaemaaGreatDoor.Vx

namespace Go.Proofs.YticcccciefaemaaGreatDoor.Vx
open Go.RowKit Go.Shelf Go.Herb

set_option maxRecDepth 100000 in
set_option maxHeartbeats 4000000 in
theorem drop_any (p mb : Nat) (M : List (Int × Nat)) (L : Vs) (line : Int) (w : World) (h : VecIs w p mb M L) (hG : GoodV L) (hS : Small L) (hl : U64 line) :
    Calls Tryz.prog (38) #[.pointer (some ⟨p, 0, none⟩), .int .u64 line] w (OpPost (dropV L line) w) := by
  have H := Lib.hid h
  have HG := Lib.hid hG
  have HS := Lib.hid hS
  have hmm := @run_makeMap Tryz.prog
  clear h hG hS hmm
  obtain ⟨W1, hW1⟩ : ∃ W1 : World, W1 = w.alloc (.cells #[.int .u64 line] (52)) := ⟨_, rfl⟩
  have hb1 : Below w.heap.size w W1 := by rw [hW1]; exact (Below.refl _ _).alloc (Nat.le_refl _) _
  have hn := needs_any p mb M L (some ⟨w.heap.size, 0, none⟩) 1 [line] W1 (H.out.below hb1) (elsU_lit [line] (t := (52)) (by rw [hW1]; exact blk_new_at rfl _)) (by simp; exact hl) (by simp)
  have HN := Lib.hid hn
  have HB1 := Lib.hid hb1
  have HV1 := Lib.hid (H.out.below hb1)
  have c0 := cell_of_blk HV1.out.blk 0
  simp at c0
  clear hn hb1
  cases hg : getL L line with
  | none =>
    have hr : dropV L line = (7, []) := by unfold dropV; rw [hg]
    have hne := needsE_not (ls := [line]) (by simp) hg
    have HR := Lib.hid hr
    clear hr hg
    go_enter Tryz.func38, Tryz.ntmps38
    go_wp2_with fail
    rw [← hW1]
    clear hW1
    refine (HN.out).mono ?_
    rintro e w' ⟨rfl, rfl⟩
    rw [hne]
    clear hne c0
    go_wp2
    go_ret2
    rw [HR.out]
    exact opErr (by simp) HB1.out
  | some b =>
    have hne : needsE L [line] = 0 := needsE_of (by simp [hg])
    have hr : dropV L line = (0, L.filter (fun p => decide (p.1 ≠ line))) := by unfold dropV; rw [hg]
    have HR := Lib.hid hr
    obtain ⟨kl, hkl⟩ := keyU hl
    clear hr hg
    go_enter Tryz.func38, Tryz.ntmps38
    go_wp2_with fail
    rw [← hW1]
    clear hW1
    refine (HN.out).mono ?_
    rintro e w' ⟨rfl, rfl⟩
    rw [hne]
    clear hne c0
    go_wp2_with fail
    refine (copied_any p mb M W1 HV1.out.blk HV1.out.out).mono ?_
    rintro e w2 ⟨rfl, h1, h2, h3⟩
    obtain ⟨w3, M', hrun, hM3, hg3, hs3, hsub, hmem⟩ := h1.drop lawU eU_inj Tryz.underlying45 hkl (0)
    have c0 := cell_of_blk h2 0
    simp at c0
    have hlt2 := lt_of_blk h2
    have hb3 : Below W1.heap.size W1 w3 := h3.grown hg3 h3.size (fun k e => by injection e with e; omega)
    have HE := Lib.hid (show OpPost (dropV L line) w (.returned (.tuple #[.pointer (some ⟨W1.heap.size + 1, 0, none⟩), .int .i64 0])) w3 from by
      rw [HR.out]
      refine ⟨_, rfl, fun _ => ⟨_, W1.heap.size, M', rfl, ⟨(hg3.block _ hlt2 (fun e => by injection e with e; omega)).trans h2, hM3, ?_, fun q hq => ?_⟩⟩, fun h => absurd rfl h, HB1.out.trans (hb3.mono HB1.out.size)⟩
      · have hn2 : ((L.filter (fun p => decide (p.1 ≠ line))).map (·.1)).Nodup := SrtK.nodup (HG.out.srt.filter _)
        refine (List.perm_ext_iff_of_nodup hM3.nodup hn2).2 fun k => ?_
        constructor
        · intro hk
          obtain ⟨q, hq, rfl⟩ := List.mem_map.1 hk
          obtain ⟨h5, h6⟩ := (hmem q).1 hq
          obtain ⟨r, hr, er⟩ := List.mem_map.1 (HV1.out.keys.mem_iff.1 (List.mem_map.2 ⟨q, h5, rfl⟩))
          exact List.mem_map.2 ⟨r, List.mem_filter.2 ⟨hr, by simp; rw [er]; exact h6⟩, er⟩
        · intro hk
          obtain ⟨q, hq, rfl⟩ := List.mem_map.1 hk
          obtain ⟨h5, h6⟩ := List.mem_filter.1 hq
          simp at h6
          obtain ⟨r, hr, er⟩ := List.mem_map.1 (HV1.out.keys.mem_iff.2 (List.mem_map.2 ⟨q, h5, rfl⟩))
          exact List.mem_map.2 ⟨r, (hmem r).2 ⟨hr, by rw [er]; exact h6⟩, er⟩
      · obtain ⟨h5, h6⟩ := (hmem q).1 hq
        obtain ⟨m, b', h7, h8, h9⟩ := HV1.out.inn q h5
        refine ⟨m, b', h7.same (hb3.block _ h7.lt), ?_, h9⟩
        exact (getL_some (SrtK.nodup (HG.out.srt.filter _))).2 (List.mem_filter.2 ⟨getL_mem h8, by simpa using h6⟩))
    clear h1 h2 h3 hM3 hg3 hs3 hsub hmem hlt2 hb3
    go_wp2
    go_ret2
    exact HE.out
end Go.Proofs.YticcccciefaemaaGreatDoor.Vx
