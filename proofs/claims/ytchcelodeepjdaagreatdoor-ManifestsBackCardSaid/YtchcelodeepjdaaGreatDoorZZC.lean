/- slices.SortFunc at shelves, by their lines. Condition: fewer than 1000000 shelves. · manifests: reading.edited. Condition: fewer than 1000000 bytes, shelves. · manifests.one of an edit. Condition: fewer than 500000 bytes, a root before it that weighs at most 400000. · A good root's record, read back: OneIs; edits' numbers. No condition. -/
import Derived.Test.YtchcelodeepjdaaGreatDoorZZs
import Derived.Test.YtchcelodeepjdaaGreatDoorK6
import Derived.Test.YtchcelodeepjdaaGreatDoorOA
import Derived.Shelf.SlSortCmp.WholeK
import Derived.Sort.Grow
import Derived.Sort.Walk0
import Derived.Test.YtchcelodeepjdaaGreatDoorZQ
import Derived.Test.YtchcelodeepjdaaGreatDoorZZx
import Derived.Test.YtchcelodeepjdaaGreatDoorZZu
namespace Go.Proofs.YtchcelodeepjdaaGreatDoor.Ln
open Go.RowKit Go.Shelf Go.Herb Go.Sort

theorem two_grow (w : World) (o1 o2 : Obj) : ((w.alloc o1).alloc o2) = Sort.grow (w.drewN 0) #[o1, o2] := by
  rw [Sort.alloc_eq_grow, Sort.alloc_eq_grow, Sort.grow_grow]
  rfl
def cmpS (x y : Sv) : Int := cmpI x.line y.line
set_option maxRecDepth 100000 in
set_option maxHeartbeats 1000000 in
theorem cmpS_any (x y : Sv) (w : World) : Calls Tryz.prog (93) #[shV x, shV y] w fun e w' => e = .returned (.int .i64 (cmpS x y)) ∧ ∃ q os', w' = Sort.grow (w.drewN q) os' := by
  go_enter Tryz.func93, Tryz.ntmps93
  go_wp2_with (go_at_call 94; refine (cmp_64 _ _ _).mono ?_; rintro e w1 ⟨rfl, rfl⟩)
  go_ret
  exact ⟨rfl, 0, _, two_grow _ _ _⟩
theorem cmpI_less (a b : Int) : cmpI a b < 0 ↔ a < b := by unfold cmpI; split <;> (try split) <;> omega
instance : Inhabited Sv := ⟨⟨0, ⟨none, 0, []⟩, ⟨none, 0, []⟩, ⟨none, 0, []⟩⟩⟩
theorem ltOf_cmpS (x y : Sv) : ltOf cmpS x y = true ↔ x.line < y.line := by
  unfold ltOf cmpS
  rw [decide_eq_true_iff]
  exact cmpI_less _ _
theorem ltOf_cmpS' (x y : Sv) : ltOf cmpS x y = false ↔ ¬ x.line < y.line := by
  rw [← ltOf_cmpS]
  cases ltOf cmpS x y <;> simp
theorem swoS : SWO (ltOf cmpS) :=
  ⟨fun x => (ltOf_cmpS' x x).2 (by omega), fun x y z h1 h2 => (ltOf_cmpS x z).2 (by have := (ltOf_cmpS x y).1 h1; have := (ltOf_cmpS y z).1 h2; omega), fun x y z h1 h2 => (ltOf_cmpS' x z).2 (by have := (ltOf_cmpS' x y).1 h1; have := (ltOf_cmpS' y z).1 h2; omega)⟩
theorem sortS_any (g cap : Nat) (xs : List Sv) (w : World) (hR : Row shc 4 (57) w g cap xs) (hx : xs.length < 100000000) :
    Calls Tryz.prog (92) #[.slice (some ⟨g, 0, none⟩) xs.length cap, .func (.func (93)) #[] #[]] w fun e w' => e = .returned (.tuple #[]) ∧ ∃ ys : List Sv, ys.Perm xs ∧ ys.Pairwise (fun a b => ¬ b.line < a.line) ∧ Row shc 4 (57) w' g cap ys ∧ w.grownBy w' (some g) := by
  have eg : ∀ args w, (callFunc (93) args).run Tryz.prog w = .ok (.enter (93) args) w := enters_of Tryz.func93 (by kernel_rfl) rfl
  have hcmp : CmpLays Tryz.prog (93) #[] shc 4 cmpS g 0 xs.toArray.size w := fun _ _ _ _ x y => cmpS_any x y _
  have hcon := AnyQ.slices_SortFunc Tryz.sortPoint 4 Tryz.isAgg57 Tryz.sizeOf57 shc shc_len shc_one cmpS swoS (93) #[] g 0 cap xs.toArray w eg hcmp (hR.holdsK shc_len (by decide)) hR.lt (by simp; omega)
  change Calls Tryz.prog (92) _ _ _ at hcon
  have hsz : xs.toArray.size = xs.length := by simp
  rw [hsz] at hcon
  refine hcon.mono ?_
  rintro e w' ⟨he, d', n, os, hp, hs, hw⟩
  obtain ⟨hp1, _, hp3⟩ := hp
  have hd : d'.size = xs.length := by rw [hp1]; simp
  obtain ⟨h1, h2⟩ := sorted_row hR shc_len (by decide) n d' os hd
  rw [← hw] at h1 h2
  refine ⟨he, d'.toList, ?_, ?_, h1, h2⟩
  · have e1 : (d'.extract 0 xs.length) = d' := by rw [← hd]; simp
    have e2 : (xs.toArray.extract 0 xs.length) = xs.toArray := by rw [← hsz]; simp
    rw [e1, e2] at hp3
    exact hp3
  · rw [List.pairwise_iff_getElem]
    intro i j hi hj hij
    have h3 := hs i j (Nat.zero_le _) hij (by simp at hj; omega)
    rw [getElem!_pos d' j (by simpa using hj), getElem!_pos d' i (by simpa using hi)] at h3
    exact (ltOf_cmpS' _ _).1 h3
set_option maxRecDepth 100000 in
theorem len64_none (w : World) : Calls Tryz.prog 127 #[.int .u64 0] w fun e w' => e = .returned (.int .i64 0) ∧ w = w' := by
  go_enter Tryz.func127, Tryz.ntmps127
  go_wp2
  go_ret
  refine ⟨?_, rfl⟩
  kernel_rfl
theorem len_none (w : World) : Calls Tryz.prog 101 #[.int .u64 0] w fun e w' => e = .returned (.int .i64 0) ∧ w = w' := by
  go_enter Tryz.func101, Tryz.ntmps101
  go_wp2_with (go_at_call 127; refine (len64_none _).mono ?_; rintro e w' ⟨rfl, rfl⟩)
  go_ret
  exact ⟨rfl, rfl⟩
theorem insertionS_none (p : Option Addr) (cap : Nat) (fv : Value) (w : World) : Calls Tryz.prog 130 #[.slice p 0 cap, .int .i64 0, .int .i64 0, fv] w fun e w' => e = .returned (.tuple #[]) ∧ w = w' := by
  go_enter Tryz.func130, Tryz.ntmps130
  go_wp2
  go_loopg [8] 1 (fun gk iv wr => iv = .int .i64 1 ∧ w = wr)
  case atStart => exact ⟨rfl, rfl⟩
  case round =>
    obtain ⟨rfl, rfl⟩ := hrel
    go_wp2
    go_end0
    exact ⟨rfl, rfl⟩
set_option maxRecDepth 100000 in
theorem pdqS_none (p : Option Addr) (cap : Nat) (fv : Value) (L : Int) (w : World) : Calls Tryz.prog 111 #[.slice p 0 cap, .int .i64 0, .int .i64 0, .int .i64 L, fv] w fun e w' => e = .returned (.tuple #[]) ∧ w = w' := by
  go_enter Tryz.func111, Tryz.ntmps111
  go_wp2
  refine wp_loop_rounds 1 ?_
  rw [rounds_succ]
  go_wp2_with (go_at_call 130; refine (insertionS_none _ _ _ _).mono ?_; rintro e w' ⟨rfl, rfl⟩)
  refine bodyPost_ret (results_none rfl _ _ _) rfl ?_
  exact ⟨rfl, rfl⟩
theorem sortS_none (p : Option Addr) (cap : Nat) (fv : Value) (w : World) : Calls Tryz.prog 92 #[.slice p 0 cap, fv] w fun e w' => e = .returned (.tuple #[]) ∧ w' = w := by
  go_enter Tryz.func92, Tryz.ntmps92
  go_wp2_with (first | (go_at_call 101; refine (len_none _).mono ?_; rintro e w' ⟨rfl, rfl⟩) | (go_at_call 111; refine (pdqS_none _ _ _ _ _).mono ?_; rintro e w' ⟨rfl, rfl⟩))
  go_end0
  exact ⟨rfl, rfl⟩
def SortPost (B : Nat) (v : Value) (xs : List Sv) (w : World) (e : Ending) (w' : World) : Prop := e = .returned (.tuple #[]) ∧ ∃ ys : List Sv, ys.Perm xs ∧ ys.Pairwise (fun a b => ¬ b.line < a.line) ∧ OwnSh B w' v ys ∧ w.grownBy w' v.ownBlock
/-- SortFunc at shelves of the call's own. -/
theorem sortOwnS_any (B : Nat) (v : Value) (xs : List Sv) (w : World) (hO : OwnSh B w v xs) (hx : xs.length < 100000000) :
    Calls Tryz.prog 92 #[v, .func (.func (93)) #[] #[]] w (SortPost B v xs w) := by
  rcases row_of_owns hO with ⟨rfl, rfl⟩ | ⟨g, cap, rfl, hg, hR⟩
  · refine (sortS_none none 0 _ w).mono ?_
    rintro e w' ⟨rfl, rfl⟩
    exact ⟨rfl, [], List.Perm.refl _, List.Pairwise.nil, hO, grown_refl _ _⟩
  · refine (sortS_any g cap xs w hR hx).mono ?_
    rintro e w' ⟨rfl, ys, h1, h2, h3, h4⟩
    refine ⟨rfl, ys, h1, h2, ?_, h4⟩
    have := h3.owns shc_len hg
    rw [h1.length_eq] at this
    unfold OwnSh
    rw [h1.length_eq]
    exact this
end Go.Proofs.YtchcelodeepjdaaGreatDoor.Ln

namespace Go.Herb
open Go
/-- What an edit's record says behind the root: lines that are gone, shelves. -/
def egP : Ps (List Int × List Sd) := fun l => match manyP nmP l with
  | none => none
  | some (gs, l1) => match shP l1 with
    | none => none
    | some (sh, l2) => some ((gs, sh), l2)
theorem repP_len {α : Type} {p : Ps α} : ∀ {n : Nat} {l r : List Int} {xs : List α}, repP p n l = some (xs, r) → xs.length = n
  | 0, l, r, xs, h => by
    cases h
    rfl
  | n + 1, l, r, xs, h => by
    rw [repP_succ] at h
    cases h1 : p l with
    | none => rw [h1] at h; cases h
    | some q =>
      obtain ⟨x, l1⟩ := q
      rw [h1] at h
      simp only at h
      cases h2 : repP p n l1 with
      | none => rw [h2] at h; cases h
      | some q2 =>
        obtain ⟨ys, l2⟩ := q2
        rw [h2] at h
        simp only [Option.some.injEq, Prod.mk.injEq] at h
        rw [← h.1, List.length_cons, repP_len h2]
theorem manyP_le {α : Type} {p : Ps α} {l r : List Int} {xs : List α} (h : manyP p l = some (xs, r)) : xs.length ≤ l.length := by
  unfold manyP at h
  cases h1 : getN l with
  | none => rw [h1] at h; cases h
  | some q =>
    obtain ⟨n, l1⟩ := q
    rw [h1] at h
    simp only at h
    have h3 := getN_len h1
    split at h
    · have := repP_len h
      omega
    · cases h
def delsL {β : Type} (m : List (Int × β)) (gs : List Int) : List (Int × β) := gs.foldl delL m
end Go.Herb
namespace Go.Proofs.YtchcelodeepjdaaGreatDoor.Ln
open Go.RowKit Go.Shelf Go.Herb

/-- A shelf more, behind what is owned. -/
theorem push_sh {wr : World} {B : Nat} {v : Value} {ss : List Sv} (s : Sv) (hBw : B ≤ wr.heap.size) (ho : OwnSh B wr v ss) (hl : ss.length < 100000000) :
    ∃ v' w', (Builtin.append_ #[(30), (30)] (30) #[v, .slice (some ⟨wr.heap.size + 1, 0, none⟩) 1 1]).run Tryz.prog ((wr.alloc (.cells #[.int .u64 s.line, lvV s.l0, lvV s.l1, lvV s.l2] (57))).alloc (.cells #[.int .u64 s.line, lvV s.l0, lvV s.l1, lvV s.l2] (57))) = .ok v' w' ∧ OwnSh B w' v' (ss ++ [s]) ∧ Below B wr w' := by
  have hb1 : Below wr.heap.size wr (wr.alloc (.cells #[.int .u64 s.line, lvV s.l0, lvV s.l1, lvV s.l2] (57))) := (Below.refl _ _).alloc (Nat.le_refl _) _
  have hb2 := hb1.alloc hb1.size (.cells #[.int .u64 s.line, lvV s.l0, lvV s.l1, lvV s.l2] (57))
  have ho2 := OwnSh.below ho hb2
  have hT := shs_of_one (x := s) (w := (wr.alloc (.cells #[.int .u64 s.line, lvV s.l0, lvV s.l1, lvV s.l2] (57))).alloc (.cells #[.int .u64 s.line, lvV s.l0, lvV s.l1, lvV s.l2] (57))) (b := wr.heap.size + 1) (blk_new_at (by simp) _)
  obtain ⟨i0, hin, hz0, hz1, hz2⟩ := info_parts infoSh
  obtain ⟨v', w', hr, h2, h3, h4⟩ := run_append_own (P := Tryz.prog) _ B (30) (30) (57) i0 _ 4 80 Tryz.underlying30 hin hz0 hz1 hz2 rfl (by decide) v ss.length (ss.flatMap shc) ho2 ⟨wr.heap.size + 1, 0, none⟩ 1 1 ([s].flatMap shc) (flatMap_len shc_len _) (hT.flat shc_len (by decide)) (fun u hu => by
    obtain ⟨q, _, hq⟩ := List.mem_flatMap.1 hu
    exact shc_one q u hq) (by unfold maxLen; omega) (by omega) (Nat.le_trans hBw hb2.size)
  have h2 : OwnSh B w' v' (ss ++ [s]) := by
    unfold OwnSh
    rw [List.length_append, List.flatMap_append]
    exact h2
  exact ⟨v', w', hr, h2, Below.appended (hb2.mono hBw) ho2 (Nat.le_refl _) (Nat.le_trans hBw hb2.size) h3⟩
/-- The reader and the map. -/
structure EdS (p B : Nat) (w u : World) (ys : List Int) (b : Nat) (m : List (Int × Sv)) : Prop where
  read : ReadAt u p B ys
  map : MapS u b m
  turn : TurnI p w u
  hp : p < w.heap.size
  hb : w.heap.size ≤ b
theorem turn_own {b : Nat} {w u u' : World} (h : TurnI b w u) (hg : u.grownBy u' (some b)) : TurnI b w u' :=
  ⟨hg.os.trans h.os, hg.tape.trans h.tape, hg.output.trans h.output, Nat.le_trans h.size hg.size, fun k o ho hk => by
    have h1 := h.kept k o ho hk
    exact (hg.block k (lt_of_blk h1) (fun e => hk (by injection e))).trans h1⟩
theorem turn_two {p b : Nat} {w u u' : World} (h : TurnI p w u) (h2 : TurnI b u u') (hb : w.heap.size ≤ b) : TurnI p w u' :=
  ⟨h2.os.trans h.os, h2.tape.trans h.tape, h2.output.trans h.output, Nat.le_trans h.size h2.size, fun k o ho hk => h2.kept k o (h.kept k o ho hk) (by have := lt_of_blk ho; omega)⟩
theorem turn_low {r : Nat} {w u u' : World} (h : TurnI r w u) (hb : Below w.heap.size u u') : TurnI r w u' :=
  ⟨hb.os.trans h.os, hb.tape.trans h.tape, hb.output.trans h.output, Nat.le_trans h.size hb.size, fun k o ho hk => (hb.block k (lt_of_blk ho)).trans (h.kept k o ho hk)⟩
theorem EdS.next {p B b : Nat} {w u u' : World} {ys zs : List Int} {m : List (Int × Sv)} (h : EdS p B w u ys b m) (ht : TurnI p u u') (hr : ReadAt u' p B zs) : EdS p B w u' zs b m := by
  refine ⟨hr, ?_, h.turn.trans ht, h.hp, h.hb⟩
  obtain ⟨es, c, h1, r⟩ := h.map.blk
  exact ⟨es, c, ht.kept b _ h1 (by have := h.hp; have := h.hb; omega), r⟩
theorem EdS.turned {p B b : Nat} {w u u' : World} {ys : List Int} {m m' : List (Int × Sv)} (h : EdS p B w u ys b m) (hg : u.grownBy u' (some b)) (hm : MapS u' b m') : EdS p B w u' ys b m' := by
  have h1 := h.hp
  have h2 := h.hb
  have h3 := h.read.low
  refine ⟨h.read.kept (fun k o ho hk => ?_), hm, turn_grown (M := 0) h.turn hg (fun k e => by injection e with e; rw [← e]; exact h.hb), h.hp, h.hb⟩
  exact (hg.block k (lt_of_blk ho) (fun e => by injection e with e; omega)).trans ho
theorem wpList_delete_eq {P : Program} (w : World) {ops : Array Oper} {rest : List Oper} {o : Oper} {a : Act} {Q : Exit → Act → World → Prop} (hgd : o.guard = none) (m x : Operand) (t k : TypeId)
    (ho : o.op = .call { callee := .builtin .delete, args := #[m, x], argTypes := #[t, k] }) (vm vx : Value) (hm : a.eval m = vm) (hx : a.eval x = vx) {v' : Value} {w' : World}
    (hr : (Builtin.delete_ #[t, k] o.type #[vm, vx]).run P w = .ok v' w') (h : wpList P ops Q rest (a.put o.dst v') w') : wpList P ops Q (o :: rest) a w :=
  wpList_plain hgd fun _ hK => by
    unfold Oper.wp execOp
    simp only [ho, resolve, invoke, builtin, Sem.run_bind, Sem.run_pure, Result.andThen_ok, List.map_toArray, List.map_cons, List.map_nil, hm, hx, hr]
    exact hK _ _ h
theorem delsL_snoc {β : Type} (m : List (Int × β)) (gs : List Int) (a : Int) : delsL m (gs ++ [a]) = delL (delsL m gs) a := by
  unfold delsL
  rw [List.foldl_append]
  rfl
def EditedPost (p B : Nat) (w : World) (xs : List Sv) (ys : List Int) (e : Ending) (w' : World) : Prop :=
  TurnI p w w' ∧ ((egP ys = none ∧ e = .panicked NONE) ∨ ∃ (gs : List Int) (sh : List Sd) (zs : List Int), egP ys = some ((gs, sh), zs) ∧ ReadAt w' p B zs ∧ ∃ (v : Value) (ss os : List Sv), e = .returned v ∧ ss.map Sv.says = sh ∧ os.Perm ((putS (delsL (putS [] xs) gs) ss).map (·.2)) ∧ os.Pairwise (fun a b => ¬ b.line < a.line) ∧ OwnSh w.heap.size w' v os ∧ (∀ s ∈ ss, ∀ l ∈ s.lv, OwnT w.heap.size w' (lvV l) l.ts) ∧ (∀ s ∈ ss, U64 s.line ∧ ∀ l ∈ s.lv, ∀ t ∈ l.ts, TbW t))
set_option maxRecDepth 100000 in
set_option maxHeartbeats 2000000 in
theorem edited_any (p B n c : Nat) (a : Option Addr) (xs : List Sv) (ys : List Int) (w : World) (h : ReadAt w p B ys) (hyl : ys.length < 1000000) (hS : ShIn w a xs) (hn : xs.length = n) (hl : n < 1000000) :
    Calls Tryz.prog (62) #[.pointer (some ⟨p, 0, none⟩), .slice a n c] w (EditedPost p B w xs ys) := by
  have HBY := Lib.hid (byLine_any a c n xs w hS hn hl)
  have HR := Lib.hid h
  have HYL := Lib.hid hyl
  have HXN := Lib.hid (show xs.length < 1000000 from by omega)
  have hpl := h.lt
  clear h hyl hS hn
  go_enter Tryz.func62, Tryz.ntmps62
  go_upto_region 2 with (go_at_call 40; refine HBY.out.mono ?_; rintro e w1 ⟨b, rfl, hm, hb1, hbl⟩)
  have HS1 := Lib.hid (show EdS p B w w1 ys b (putS [] xs) from ⟨HR.out.ext hb1, hm, TurnI.of_below hb1, hpl, hbl⟩)
  have HM := Lib.hid (many_any p B ys w1 HS1.out.read)
  clear hm hb1 hbl HBY
  go_wp2_with fail
  refine HM.out.mono ?_
  rintro e w2 ⟨hT, ⟨hg, rfl⟩ | ⟨k0, z1, v, hg, rfl, ⟨rfl, hf⟩, hR⟩⟩
  · have HF := Lib.hid (show egP ys = none from by unfold egP; rw [manyN_none nmP hg])
    have HT := Lib.hid (HS1.out.turn.trans hT)
    clear hg hT
    go_wp2_with fail
    exact ⟨rfl, HT.out, .inl ⟨HF.out, rfl⟩⟩
  have HG1 := Lib.hid (show manyP nmP ys = repP nmP k0 z1 from manyN_many nmP hg)
  have HS2 := Lib.hid (HS1.out.next hT hR)
  have HZ1 := Lib.hid (show z1.length < 1000000 ∧ k0 < 1000000 from by
    have h1 := manyN_len hg
    have := HYL.out
    omega)
  clear hT hg hf hR HM
  have hk1 : k0 < 1000000 := HZ1.out.2
  go_upto_region 3 with fail
  go_loopg [14] k0 (fun gk iv wr => ∃ (k : Nat) (gs zs : List Int), k + gk = k0 ∧ iv = .int .i64 k ∧ Hid (StepP nmP k0 k z1 gs zs) ∧ Hid (EdS p B w wr zs b (delsL (putS [] xs) gs)) ∧ Hid (zs.length < 1000000))
  case atStart => exact ⟨0, [], z1, by omega, rfl, Lib.hid (StepP.zero _ _ _), HS2, Lib.hid HZ1.out.1⟩
  case round =>
    obtain ⟨k, gs, zs, hk, rfl, HST, HS, HZS⟩ := hrel
    by_cases hlt : k < k0
    · have HTX := Lib.hid (num_any p B zs wr HS.out.read)
      have i1 : (k : Int) < (k0 : Int) := by omega
      have hw1 : IntKind.i64.wrap ((k : Int) + 1) = (k : Int) + 1 := IntWalk.i64_in _ (by omega)
      go_wp2_with fail
      refine HTX.out.mono ?_
      rintro e w5 ⟨hT, ⟨hg, rfl⟩ | ⟨a1, y1, v, hg, rfl, ⟨rfl, hf⟩, hR⟩⟩
      · have HF := Lib.hid (show egP ys = none from by
          unfold egP
          rw [HG1.out, HST.out.fail hlt (by unfold nmP; rw [hg])])
        have HT := Lib.hid (HS.out.turn.trans hT)
        clear hg hT
        go_wp2_with fail
        exact ⟨rfl, HT.out, .inl ⟨HF.out, rfl⟩⟩
      have HS5 := HS.out.next hT hR
      have HST2 := Lib.hid (show StepP nmP k0 (k + 1) z1 (gs ++ [(a1 : Int)]) y1 from HST.out.step hlt (by unfold nmP; rw [hg]))
      have HY1 := Lib.hid (show y1.length < 1000000 from by have h1 := getN_len hg; have := HZS.out; omega)
      obtain ⟨w6, hr, hm6, hg6, -⟩ := MapIs.dropS HS5.map (a1 : Int) (u64_of hf) 0
      have HS6 := Lib.hid (show EdS p B w w6 y1 b (delsL (putS [] xs) (gs ++ [(a1 : Int)])) from by rw [delsL_snoc]; exact HS5.turned hg6 hm6)
      clear hT hg hf hR HTX HS5 hm6 hg6
      go_wp2_with (at_builtin; refine wpList_delete_eq _ rfl _ _ _ _ rfl _ _ rfl rfl hr ?_)
      go_roundg (gk - 1)
      case measure => omega
      case rel => exact ⟨k + 1, _, y1, by omega, by go_num, HST2, HS6, HY1⟩
    · have i1 : ¬ (k : Int) < (k0 : Int) := by omega
      obtain rfl : k0 = k := by omega
      have HG2 := Lib.hid (show egP ys = (match shP zs with | none => none | some (sh, l2) => some ((gs, sh), l2)) from by unfold egP; rw [HG1.out, HST.out.done])
      clear HST hlt hk
      have HSH := Lib.hid (shelvesR_any p B zs wr HS.out.read HZS.out)
      have HWR := Lib.hid (show b < wr.heap.size from HS.out.map.lt)
      go_wp2_with fail
      refine HSH.out.mono ?_
      rintro e w7 ⟨hT, ⟨hg, rfl⟩ | ⟨sh, z7, v, hg, rfl, hV, hR⟩⟩
      · have HF := Lib.hid (show egP ys = none from by rw [HG2.out, hg])
        have HT := Lib.hid (HS.out.turn.trans hT)
        clear hg hT
        go_wp2_with fail
        exact ⟨rfl, HT.out, .inl ⟨HF.out, rfl⟩⟩
      have HG3 := Lib.hid (show egP ys = some ((gs, sh), z7) from by rw [HG2.out, hg])
      have HS7 := Lib.hid (HS.out.next hT hR)
      have HZ7 := Lib.hid (manyP_le hg)
      obtain ⟨a7, c7, ss, rfl, hO7, hL7, hW7, hs7⟩ := hV
      obtain ⟨m, hm⟩ : ∃ m, m = ss.length := ⟨_, rfl⟩
      rw [← hm] at hO7 ⊢
      have hm1 : m < 1000000 := by
        have h1 := HZ7.out
        have h2 := HZS.out
        rw [← hs7, List.length_map, ← hm] at h1
        omega
      have hE7 : Els shc 4 w7 a7 ss := by
        rw [hm] at hO7
        obtain ⟨a', c', h1, -, h4⟩ := els_of_owns shc_len hO7
        injection h1 with h1 h2 h3
        rw [h1]
        exact h4
      have hna : ∀ ad, a7 = some ad → ad.block ≠ b := fun ad had => by
        obtain ⟨_, ⟨h1, _⟩ | ⟨g, cap, cur, h1, hg, _⟩⟩ := hO7
        · injection h1 with h1; rw [h1] at had; cases had
        · injection h1 with h1
          rw [h1] at had
          cases had
          have := HWR.out
          show g ≠ b
          omega
      have HEL := Lib.hid (fun (u : World) (hu : TurnI b w7 u) => els_turn hE7 hu hna)
      have HW7 := Lib.hid (fun (s : Sv) (hs : s ∈ ss) => (hW7 s hs).1)
      have HO7 := Lib.hid hO7
      have HL7 := Lib.hid hL7
      have HWW := Lib.hid hW7
      have HSS := Lib.hid hs7
      have HMM := Lib.hid hm
      obtain ⟨m0, hm0⟩ : ∃ l, l = delsL (putS [] xs) gs := ⟨_, rfl⟩
      have HM0 := Lib.hid hm0
      have HML := Lib.hid (show m0.length < 3000000 from by
        have h1 : ∀ (g : List Int) (l : List (Int × Sv)), (delsL l g).length ≤ l.length := fun g => by
          induction g with
          | nil => exact fun _ => Nat.le_refl _
          | cons x g ih =>
            intro l
            exact Nat.le_trans (ih _) (List.length_filter_le _ _)
        have h2 := h1 gs (putS [] xs)
        have h3 := putS_len [] xs
        have h4 := HXN.out
        rw [hm0]
        simp at h3
        omega)
      rw [← hm0] at HS7
      clear hT hg hR hE7 hna hO7 hL7 hW7 hs7 hm hm0 HSH HG2
      go_upto_region 7 with fail
      go_loopg [23] m (fun gk iv w8 => ∃ k : Nat, k + gk = m ∧ iv = .int .i64 k ∧ Hid (MapS w8 b (putS m0 (ss.take k))) ∧ Hid (TurnI b w7 w8))
      case atStart => exact ⟨0, by omega, rfl, Lib.hid (by simpa [putS] using HS7.out.map), Lib.hid (TurnI.refl _)⟩
      case round =>
        obtain ⟨k, hk, rfl, HMk, HTk⟩ := hrel
        by_cases hlt : k < m
        · have hkl : k < ss.length := by have := HMM.out; omega
          obtain ⟨b8, o8, hsa, hlb, hcx⟩ := (HEL.out _ HTk.out).get k hkl
          have hgk : ss[k]? = some ss[k] := List.getElem?_eq_getElem hkl
          have hwf := HW7.out _ (List.getElem_mem hkl)
          generalize ss[k] = s at hcx hgk hwf
          have g0 := hcx 0 _ rfl
          have g1 := hcx 1 _ rfl
          have g2 := hcx 2 _ rfl
          have g3 := hcx 3 _ rfl
          simp only [Nat.add_zero] at g0
          obtain ⟨A, hA⟩ : ∃ A : World, A = wr.alloc (.cells #[.int .u64 s.line, lvV s.l0, lvV s.l1, lvV s.l2] (57)) := ⟨_, rfl⟩
          have hBA : Below wr.heap.size wr A := by rw [hA]; exact (Below.refl _ _).alloc (Nat.le_refl _) _
          have hml := putS_len m0 (ss.take k)
          have hmA : MapS A b (putS m0 (ss.take k)) := mapS_ext HMk.out hBA
          obtain ⟨Z, hst, hM3, hg3, hs3⟩ := MapIs.storeS hmA s hwf (by have := HML.out; rw [List.length_take] at hml; omega)
          have HTZ := Lib.hid (show TurnI b w7 Z from turn_own (HTk.out.trans (TurnI.of_below hBA)) hg3)
          have HMZ := Lib.hid (show MapS Z b (putS m0 (ss.take (k + 1))) from by rw [putS_snoc _ hgk]; exact hM3)
          have i0 : (0 : Int) ≤ (k : Int) := by omega
          have i1 : (k : Int) < (m : Int) := by omega
          have hw1 : IntKind.i64.wrap ((k : Int) + 1) = (k : Int) + 1 := IntWalk.i64_in _ (by omega)
          rw [hA] at hst
          have HSA := Lib.hid hsa
          clear hcx hBA hA hgk hwf hml hmA hM3 hg3 hs3
          rw [hsa]
          clear hsa
          go_wp2_with fail
          rw [← HSA.out]
          go_roundg (gk - 1)
          case measure => omega
          case rel => exact ⟨k + 1, by omega, by go_num, HMZ, HTZ⟩
        · have i2 : ¬ (k : Int) < (m : Int) := by omega
          obtain ⟨fm, hfm⟩ : ∃ l, l = putS m0 ss := ⟨_, rfl⟩
          have hMf : MapS wr b fm := by
            have h1 := HMk.out
            rwa [List.take_of_length_le (by have := HMM.out; omega), ← hfm] at h1
          have HFM := Lib.hid hfm
          have HR8 := Lib.hid (show ReadAt wr p B z7 ∧ TurnI p w wr from ⟨HS7.out.read.kept (fun k o ho hk => HTk.out.kept k o ho (by have := HS7.out.hp; have := HS7.out.hb; have := HS7.out.read.low; omega)), turn_two HS7.out.turn HTk.out HS7.out.hb⟩)
          have HFN := Lib.hid (show fm.length < 4000000 from by
            have := putS_len m0 ss
            have := HML.out
            have := HMM.out
            rw [hfm]; omega)
          obtain ⟨w9, hrg, hit, hB9, hs9⟩ := MapIs.range hMf Tryz.underlying94
          have HIT := Lib.hid hit
          have HRD := Lib.hid (show ReadAt w9 p B z7 ∧ TurnI p w w9 from ⟨HR8.out.1.ext hB9, HR8.out.2.trans (TurnI.of_below hB9)⟩)
          have HBL := Lib.hid (show b < w9.heap.size ∧ wr.heap.size < w9.heap.size from ⟨by have := hMf.lt; omega, by omega⟩)
          have HW9 := Lib.hid (show w.heap.size ≤ w9.heap.size from HRD.out.2.size)
          have HB9 := Lib.hid hB9
          have HTK := Lib.hid HTk.out
          clear hMf hit hB9 hs9 hfm HMk hlt
          obtain ⟨r8, hr8⟩ : ∃ r, r = wr.heap.size := ⟨_, rfl⟩
          rw [← hr8] at HIT HBL
          have HR88 := Lib.hid hr8
          clear hr8
          go_upto_region 12 with fail
          clear hrg
          rw [← HR88.out]
          go_loopg [4] fm.length (fun gk v4 wx => ∃ (done todo : List (Int × Sv)) (a4 : Option Addr) (n4 c4 : Nat), todo.length = gk ∧ v4 = .slice a4 n4 c4 ∧ Hid (fm.Perm (done ++ todo)) ∧ Hid (IterIs Tryz.prog (26) eU shV wx b r8 fm todo) ∧ Hid (OwnSh w9.heap.size wx (.slice a4 n4 c4) (done.map (·.2))) ∧ Hid (TurnI r8 w9 wx))
          case atStart => exact ⟨[], fm, none, 0, 0, rfl, rfl, Lib.hid (List.Perm.refl _), HIT, Lib.hid (World.ownsRow_nil _ _ _ _), Lib.hid (TurnI.refl _)⟩
          case round =>
            obtain ⟨done, todo, a4, n4, c4, htl, rfl, HP, HI, HO, HBx⟩ := hrel
            rcases HI.out.next 0 with ⟨rfl, hnx⟩ | ⟨⟨l, sv⟩, todo', w10, htp, hpm, hnx, hit2, hg2, hs2, hen⟩
            · have hpd : fm.Perm done := by have h1 := HP.out; rwa [List.append_nil] at h1
              have hdl : (done.map (·.2)).length < 100000000 := by
                have h1 := hpd.length_eq
                have h2 := HFN.out
                rw [List.length_map]
                omega
              have HSO := Lib.hid (sortOwnS_any w9.heap.size (.slice a4 n4 c4) (done.map (·.2)) wr HO.out hdl)
              have HPD := Lib.hid hpd
              have HR8S := Lib.hid (show w.heap.size ≤ r8 from by rw [HR88.out]; exact HR8.out.2.size)
              clear hpd hdl htl HP HI
              go_wp2_with fail
              refine HSO.out.mono ?_
              rintro e w12 ⟨rfl, os, hpo, hso, hoo, hgo⟩
              have hB12 : Below w9.heap.size wr w12 := (Below.refl _ _).grown hgo HBx.out.size (fun k e => (World.ownsRow.lt HO.out k e).1)
              have hT12 := turn_low HBx.out hB12
              have HE := Lib.hid (show EditedPost p B w xs ys (.returned (.slice a4 n4 c4)) w12 from ⟨turn_two HRD.out.2 hT12 HR8S.out, .inr ⟨gs, sh, z7, HG3.out, HRD.out.1.kept (fun k o ho hk => hT12.kept k o ho (by have := HS7.out.hp; have := HS7.out.read.low; have := HR8S.out; omega)), _, ss, os, rfl, HSS.out, hpo.trans (by rw [← HM0.out, ← HFM.out]; exact (HPD.out.map _).symm), hso, hoo.mono HW9.out, (fun s hs l hl => ownsRow_mono (own_kept (HL7.out s hs l hl) (fun g cs hh _ => by
                have hgb : g ≠ b := fun e => by
                  obtain ⟨es, c, h1, -⟩ := HS7.out.map.blk
                  rw [e, h1] at hh
                  cases hh
                have h2 := HTK.out.kept g _ hh hgb
                have h3 := lt_of_blk h2
                exact hT12.kept g _ (blk_below h2 HB9.out h3) (by have := HR88.out; omega))) HS.out.turn.size), HWW.out⟩⟩)
              clear hpo hso hoo hgo hB12 hT12
              go_wp2_with fail
              go_ret
              exact HE.out
            · have htl2 : todo'.length + 1 = gk := by have := htp.length_eq; simp only [List.length_cons] at this; omega
              have HP2 := Lib.hid (show fm.Perm ((done ++ [(l, sv)]) ++ todo') from by rw [List.append_assoc]; exact HP.out.trans (List.Perm.append_left _ htp))
              have hT10 := turn_own HBx.out hg2
              have hO10 : OwnSh w9.heap.size w10 (.slice a4 n4 c4) (done.map (·.2)) := World.ownsRow.kept HO.out hg2 (.inr (fun e => by have := (World.ownsRow.lt HO.out r8 e).1; have := HBL.out.2; omega))
              have hdl : (done.map (·.2)).length < 100000000 := by
                have h1 := HP.out.length_eq
                have h2 := HFN.out
                rw [List.length_append] at h1
                rw [List.length_map]
                omega
              obtain ⟨v', w11, hr, hO11, hB11⟩ := push_sh sv (hT10.size) hO10 hdl
              obtain ⟨a', c', hv', -, -⟩ := els_of_owns shc_len hO11
              have HI2 := Lib.hid (hit2.same (hB11.block _ HBL.out.1) (hB11.block _ HBL.out.2))
              have HO2 := Lib.hid (show OwnSh w9.heap.size w11 (.slice a' ((done ++ [(l, sv)]).map (·.2)).length c') ((done ++ [(l, sv)]).map (·.2)) from by
                rw [hv'] at hO11
                rw [List.map_append]
                exact hO11)
              have HT2 := Lib.hid (turn_low hT10 hB11)
              have hv2 : v' = .slice a' ((done ++ [(l, sv)]).map (·.2)).length c' := by rw [hv', List.map_append]; rfl
              obtain ⟨n5, hn5⟩ : ∃ n5, n5 = ((done ++ [(l, sv)]).map (·.2)).length := ⟨_, rfl⟩
              rw [← hn5] at HO2 hv2
              subst hv2
              clear htp hpm hit2 hg2 hs2 hT10 hO10 hdl hO11 hB11 hv' hn5 HI HO HBx HP htl
              go_wp2_with (at_builtin; refine Lib.wpList_append_run _ rfl _ _ _ _ rfl _ _ rfl rfl _ _ hr ?_)
              go_roundg todo'.length
              case measure => omega
              case rel => exact ⟨done ++ [(l, sv)], todo', a', n5, c', rfl, rfl, HP2, HI2, HO2, HT2⟩
end Go.Proofs.YtchcelodeepjdaaGreatDoor.Ln

namespace Go.Proofs.YtchcelodeepjdaaGreatDoor.Ln
open Go.RowKit Go.Shelf Go.Herb

/-- The root that an edit stands behind, in its box. -/
structure WasIn (w : World) (q : Rv) (rb : Nat) : Prop where
  iq : RtIn w q
  gq : GoodR q
  fq : FewX q.says
  wq : (q.says.sh.map (fun s => 1 + (s.lv.map List.length).sum)).sum ≤ 400000
  box : ∃ f, w.heap[rb]? = some (.cells #[.int .u64 q.seq, .int .u64 q.log, .int .u64 q.next, .slice q.ba q.bs.length q.bc, .slice q.la q.ls.length q.lc, .slice q.va q.vs.length q.vc, .slice q.sa q.sh.length q.sc] (32) f)
theorem lvOk_own {M : Nat} {u : World} {l : Lv} (ho : OwnT M u (lvV l) l.ts) (hw : ∀ t ∈ l.ts, TbW t) : LvOk u l := by
  obtain ⟨t1, t2, t3⟩ := own_in ho
  exact ⟨Vx.owns_els tbc_len ho, t3, t1, t2, hw⟩
/-- The root's box and all that the root leads to. -/
structure EdB (w u : World) (cs : Array Value) (M B : Nat) (r0 : Rv) (sa : Option Addr) (sc : Nat) (os ss : List Sv) : Prop where
  box : u.heap[w.heap.size]? = some (.cells cs (32) (0, 0))
  below : Below w.heap.size w u
  own : RtOwn M u r0
  sh : OwnSh B u (.slice sa os.length sc) os
  lev : ∀ s ∈ ss, ∀ l ∈ s.lv, OwnT B u (lvV l) l.ts
theorem EdB.store {w u : World} {cs : Array Value} {M B : Nat} {r0 : Rv} {sa : Option Addr} {sc : Nat} {os ss : List Sv} (h : EdB w u cs M B r0 sa sc os ss) (j : Nat) (v : Value) (cs' : Array Value) (hc : cs.setIfInBounds j v = cs') : EdB w (u.setCell ⟨w.heap.size, j, none⟩ v) cs' M B r0 sa sc os ss :=
  ⟨by rw [← hc]; exact blk_setCell h.box v, Below.setCell h.below (p := ⟨w.heap.size, j, none⟩) (Nat.le_refl w.heap.size) v, h.own.set h.box v, own_set h.sh h.box (by decide) _, fun s hs l hl => own_set (h.lev s hs l hl) h.box (by decide) _⟩
theorem EdB.ext {w u u' : World} {cs : Array Value} {M B : Nat} {r0 : Rv} {sa : Option Addr} {sc : Nat} {os ss : List Sv} (h : EdB w u cs M B r0 sa sc os ss) (hb : Below u.heap.size u u') : EdB w u' cs M B r0 sa sc os ss :=
  ⟨blk_below h.box hb (lt_of_blk h.box), h.below.trans (hb.mono h.below.size), h.own.ext hb, OwnSh.below h.sh hb, fun s hs l hl => ownsRow_below (h.lev s hs l hl) hb (Nat.le_refl _)⟩
theorem EdB.name {w u : World} {cs : Array Value} {M B : Nat} {r0 : Rv} {sa : Option Addr} {sc : Nat} {os ss : List Sv} (_ : EdB w u cs M B r0 sa sc os ss) : ∃ Z, Z = u := ⟨u, rfl⟩
theorem EdB.in_ {w u : World} {cs : Array Value} {M B : Nat} {sq lg nx : Int} {ba la va : Option Addr} {bc lc vc : Nat} {bs : List Br} {ls : List Ln} {vs : List Vx.Vc} {sa : Option Addr} {sc : Nat} {os ss : List Sv} {q : Rv} (h : EdB w u cs M B ⟨sq, lg, nx, ba, bc, bs, la, lc, ls, va, vc, vs, none, 0, []⟩ sa sc os ss) (hq : RtIn w q) (hmem : ∀ s ∈ os, s ∈ ss ∨ s ∈ q.sh) (hW : ∀ s ∈ ss, U64 s.line ∧ ∀ l ∈ s.lv, ∀ t ∈ l.ts, TbW t) :
    RtIn u ⟨sq, lg, nx, ba, bc, bs, la, lc, ls, va, vc, vs, sa, sc, os⟩ := by
  have hsi : ShIn u sa os := ⟨Vx.owns_els shc_len h.sh, fun s hs => by
    rcases hmem s hs with h1 | h1
    · have hlv : ∀ l ∈ s.lv, LvOk u l := fun l hl => lvOk_own (h.lev s h1 l hl) ((hW s h1).2 l hl)
      exact ⟨hlv _ (by simp [Sv.lv]), hlv _ (by simp [Sv.lv]), hlv _ (by simp [Sv.lv]), (hW s h1).1⟩
    · exact (hq.shs.ok s h1).ext h.below⟩
  obtain ⟨s1, s2, s3⟩ := own_in h.sh
  have hri := h.own.in_
  exact ⟨hri.seq, hri.log, hri.next, hri.brs, hri.lns, hri.vcs, hsi, s1, s2, s3, hri.vl⟩
theorem editL_u8 (x was : Rt) : ∀ y ∈ editL x was, 0 ≤ y ∧ y < 256 := by
  intro y hy
  unfold editL at hy
  rcases List.mem_cons.1 hy with rfl | h
  · omega
  · exact app_u8 (app_u8 (app_u8 (headL_u8 x) (numsL_u8 _)) (numsL_u8 _)) (shL_u8 _) y h
theorem nm_le : ∀ {n : Nat} {l r : List Int} {xs : List Int}, repP nmP n l = some (xs, r) → r.length ≤ l.length
  | 0, l, r, xs, h => by
    cases h
    exact Nat.le_refl _
  | n + 1, l, r, xs, h => by
    rw [repP_succ] at h
    unfold nmP at h
    cases h1 : getN l with
    | none => rw [h1] at h; cases h
    | some q =>
      obtain ⟨x, l1⟩ := q
      rw [h1] at h
      simp only at h
      have h3 := getN_len h1
      cases h2 : repP nmP n l1 with
      | none => unfold nmP at h2; rw [h2] at h; cases h
      | some q2 =>
        obtain ⟨ys, l2⟩ := q2
        have h4 := nm_le h2
        unfold nmP at h2
        rw [h2] at h
        simp only [Option.some.injEq, Prod.mk.injEq] at h
        rw [← h.2]
        omega
theorem egP_w {l r gs : List Int} {sh : List Sd} (h : egP l = some ((gs, sh), r)) : (sh.map (fun x => 1 + (x.lv.map List.length).sum)).sum ≤ l.length := by
  unfold egP manyP at h
  cases h1 : getN l with
  | none => rw [h1] at h; cases h
  | some q =>
    obtain ⟨n, l1⟩ := q
    rw [h1] at h
    simp only at h
    have h3 := getN_len h1
    by_cases h0 : n ≤ l1.length
    · rw [if_pos h0] at h
      cases h2 : repP nmP n l1 with
      | none => rw [h2] at h; cases h
      | some q2 =>
        obtain ⟨ns, l2⟩ := q2
        rw [h2] at h
        simp only at h
        have h4 := nm_le h2
        cases h5 : shP l2 with
        | none => rw [h5] at h; cases h
        | some q3 =>
          obtain ⟨sh', l3⟩ := q3
          rw [h5] at h
          simp only [Option.some.injEq, Prod.mk.injEq] at h
          have h6 := shP_w l2 sh' l3 h5
          rw [← h.1.2]
          omega
    · rw [if_neg h0] at h; cases h
theorem delsL_mem {gs : List Int} : ∀ {m : List (Int × Sv)} {p : Int × Sv}, p ∈ delsL m gs → p ∈ m := by
  induction gs with
  | nil => exact fun h => h
  | cons g gs ih => exact fun h => (List.mem_filter.1 (ih h)).1
theorem delsL_nodup {gs : List Int} : ∀ {m : List (Int × Sv)}, (m.map (·.1)).Nodup → ((delsL m gs).map (·.1)).Nodup := by
  induction gs with
  | nil => exact fun h => h
  | cons g gs ih => exact fun h => ih (h.sublist ((List.filter_sublist).map _))
def wS (s : Sv) : Nat := 1 + (s.says.lv.map List.length).sum
theorem repl_sum (m : List (Int × Sv)) (a : Int) (b : Sv) (hn : (m.map (·.1)).Nodup) : ((m.map (fun p => if p.1 = a then (a, b) else p)).map (fun p => wS p.2)).sum ≤ (m.map (fun p => wS p.2)).sum + wS b := by
  induction m with
  | nil => simp
  | cons p m ih =>
    rw [List.map_cons, List.nodup_cons] at hn
    have h1 := ih hn.2
    simp only [List.map_cons, List.sum_cons]
    by_cases h : p.1 = a
    · have e : m.map (fun p => if p.1 = a then (a, b) else p) = m := by
        conv => rhs; rw [← List.map_id m]
        apply List.map_congr_left
        intro q hq
        have : ¬ q.1 = a := fun e => hn.1 (by rw [h, ← e]; exact List.mem_map_of_mem hq)
        simp [this]
      rw [e, if_pos h]
      show wS b + _ ≤ _
      omega
    · rw [if_neg h]
      omega
theorem putL_sum {m : List (Int × Sv)} (a : Int) (b : Sv) (hn : (m.map (·.1)).Nodup) : ((putL m a b).map (fun p => wS p.2)).sum ≤ (m.map (fun p => wS p.2)).sum + wS b := by
  unfold putL
  split
  · exact repl_sum m a b hn
  · rw [List.map_append, List.sum_append]
    simp
theorem putS_sum {xs : List Sv} : ∀ {m : List (Int × Sv)}, (m.map (·.1)).Nodup → ((putS m xs).map (fun p => wS p.2)).sum ≤ (m.map (fun p => wS p.2)).sum + (xs.map wS).sum := by
  induction xs with
  | nil => intro m _; simp [putS]
  | cons x xs ih =>
    intro m hn
    have h1 := ih (putL_nodup hn x.line x)
    have h2 := putL_sum x.line x hn
    rw [List.map_cons, List.sum_cons]
    show ((putS (putL m x.line x) xs).map _).sum ≤ _
    omega
theorem delsL_sum {gs : List Int} : ∀ {m : List (Int × Sv)}, ((delsL m gs).map (fun p => wS p.2)).sum ≤ (m.map (fun p => wS p.2)).sum := by
  induction gs with
  | nil => exact Nat.le_refl _
  | cons g gs ih =>
    intro m
    refine Nat.le_trans (ih (m := delL m g)) ?_
    unfold delL
    induction m with
    | nil => simp
    | cons p m ihm =>
      rw [List.filter_cons]
      split
      · simp only [List.map_cons, List.sum_cons]; omega
      · simp only [List.map_cons, List.sum_cons]; omega
theorem putS_nodup {xs : List Sv} : ∀ {m : List (Int × Sv)}, (m.map (·.1)).Nodup → ((putS m xs).map (·.1)).Nodup := by
  induction xs with
  | nil => exact fun h => h
  | cons x xs ih => exact fun h => ih (putL_nodup h x.line x)
end Go.Proofs.YtchcelodeepjdaaGreatDoor.Ln

namespace Go.Proofs.YtchcelodeepjdaaGreatDoor.Ln
open Go.RowKit Go.Shelf Go.Herb

theorem n64 {x : Int} (h : U64 x) : N64 x := by
  unfold U64 at h
  simp [Lit.wf, IntKind.min, IntKind.max, IntKind.signed, IntKind.bits] at h
  unfold N64
  omega
theorem maxLen_lt {n : Nat} (h : n ≤ maxLen) : n < 18446744073709551616 := by unfold maxLen at h; omega
theorem rtN_of {w : World} {r : Rv} (hi : RtIn w r) (hf : FewX r.says) : RtN r.says := by
  have h1 := hf.bs
  have h2 := hf.ls
  have h3 := hf.vs
  refine ⟨n64 hi.seq, n64 hi.log, n64 hi.next, fun x hx => ?_, fun x hx => ?_, fun x hx => ?_, by omega, by omega, by omega⟩
  · have h := hi.brs.all x hx
    exact ⟨maxLen_lt h.1, n64 h.2.1, n64 h.2.2⟩
  · have h := hi.lns.all x hx
    exact ⟨n64 h.1, n64 h.2⟩
  · obtain ⟨y, hy, rfl⟩ := List.mem_map.1 hx
    have h := hi.vcs.wf y hy
    exact ⟨n64 h.1, maxLen_lt (hi.vcs.lens y hy), fun p hp => ⟨n64 (h.2 p hp).1, n64 (h.2 p hp).2⟩⟩
theorem sdN_of {w : World} {r : Rv} (hi : RtIn w r) : ∀ s ∈ r.says.sh, SdN s := fun s hs => by
  obtain ⟨y, hy, rfl⟩ := List.mem_map.1 hs
  have h := hi.shs.ok y hy
  refine ⟨n64 h.wf, rfl, fun l hl => ?_⟩
  obtain ⟨v, hv, rfl⟩ := List.mem_map.1 (show l ∈ y.lv.map (·.ts) from hl)
  obtain ⟨k, hk⟩ := List.mem_iff_getElem?.1 hv
  have ho := Sv.lvl h hk
  exact ⟨maxLen_lt (Nat.le_trans ho.le ho.max), fun t ht => by
    have h2 := ho.wf t ht
    exact ⟨n64 h2.1, ⟨h2.2.1.1, by have := h2.2.1.2; omega⟩, maxLen_lt h2.2.2.1, maxLen_lt h2.2.2.2⟩⟩
theorem oneIs_whole {w : World} {r : Rv} (hi : RtIn w r) (hg : GoodR r) (hf : FewX r.says) : OneIs (wholeL r.says) r.says := by
  have h := shP_put (sdN_of hi) (by have h1 := sh_few hf; show (r.sh.map Sv.says).length < _; rw [List.length_map]; omega) []
  rw [List.append_nil] at h
  exact ⟨⟨headL r.says ++ shL r.says.sh, { r.says with sh := [] }, shL r.says.sh, [], r.says.sh, rfl, rtP_put (rtN_of hi hf) _, h, rfl⟩, (goodR_iff r).1 hg, rfl⟩
theorem edN_rv {w w' : World} {r q : Rv} (hi : RtIn w r) (hf : FewX r.says) (hq : RtIn w' q) (fq : FewX q.says) : EdN r.says q.says :=
  edN_of (rtN_of hi hf) (sdN_of hi) (sdN_of hq) (by have h1 := sh_few hf; show (r.sh.map Sv.says).length < _; rw [List.length_map]; omega) (by have h1 := sh_few fq; show (q.sh.map Sv.says).length < _; rw [List.length_map]; omega)
theorem editL_few {w w' : World} {r q : Rv} (hi : RtIn w r) (hg : GoodR r) (hn : NotGreat r) (hq : RtIn w' q) (nq : NotGreat q) : (editL r.says q.says).length < 450000 := by
  have h1 := wholeL_few hi hg hn
  have es : r.says.sh = r.sh.map Sv.says := rfl
  have hg2 : (goneL r.says.sh q.says.sh).length ≤ 30 := by
    have h2 := nq.sh
    unfold goneL
    rw [List.length_map]
    refine Nat.le_trans (List.length_filter_le _ _) ?_
    show (q.sh.map Sv.says).length ≤ _
    rw [List.length_map]
    exact h2
  have hgu : ∀ x ∈ goneL r.says.sh q.says.sh, U64 x := fun x hx => by
    obtain ⟨s, hs, rfl⟩ := List.mem_map.1 hx
    obtain ⟨y, hy, rfl⟩ := List.mem_map.1 (List.mem_filter.1 hs).1
    exact (hq.shs.ok y hy).wf
  have h3 := numsL_len _ hgu
  have h4 := num_len (u64_len (n := (goneL r.says.sh q.says.sh).length) (by omega))
  have hnl : (newL r.says.sh q.says.sh).length ≤ 30 := by
    have h2 := hn.sh
    refine Nat.le_trans (List.length_filter_le _ _) ?_
    rw [es, List.length_map]
    exact h2
  have h5 := num_len (u64_len (n := (newL r.says.sh q.says.sh).length) (by omega))
  have h6 : ∀ (p : Sd → Bool) (l : List Sd), ((l.filter p).flatMap sdL).length ≤ (l.flatMap sdL).length := fun p l => by
    induction l with
    | nil => simp
    | cons x l ih =>
      rw [List.filter_cons, List.flatMap_cons, List.length_append]
      split
      · rw [List.flatMap_cons, List.length_append]; omega
      · omega
  have h7 := h6 (fun s => !asWas q.says.sh s) r.says.sh
  have h8 : (wholeL r.says).length = 1 + ((headL r.says).length + ((numsL [(r.says.sh.length : Int)]).length + (r.says.sh.flatMap sdL).length)) := by
    unfold wholeL shL
    simp only [List.length_cons, List.length_append]
    omega
  have h9 : (editL r.says q.says).length = 1 + ((headL r.says).length + (numsL [((goneL r.says.sh q.says.sh).length : Int)]).length + (numsL (goneL r.says.sh q.says.sh)).length + ((numsL [((newL r.says.sh q.says.sh).length : Int)]).length + ((newL r.says.sh q.says.sh).flatMap sdL).length)) := by
    unfold editL shL
    simp only [List.length_cons, List.length_append]
    omega
  rw [numsL_one] at h9
  have h10 : ((newL r.says.sh q.says.sh).flatMap sdL).length ≤ (r.says.sh.flatMap sdL).length := h7
  have h11 : (numsL [((newL r.says.sh q.says.sh).length : Int)]).length ≤ 10 := by rw [numsL_one]; exact h5
  omega
end Go.Proofs.YtchcelodeepjdaaGreatDoor.Ln
