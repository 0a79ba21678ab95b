/- keeps.rows: facts by their places. Condition: fewer than 1000000 facts. · keeps.rows: its walk. Condition: fewer than 1000000 facts. · keeps.rows: its contract. Condition: fewer than 1000000 facts. · The library's slices.SortFunc at facts, laid (the kit's lay-plain wrote this text). No condition. · slices.SortFunc of no facts. No condition. · views.sorted and views.Of. Condition: fewer than 1000000 facts. · views.sorted and views.Of. Condition: fewer than 1000000 facts. -/
import Derived.Test.YticcccciefaemaaGreatDoorQC
import Derived.Test.YticcccciefaemaaGreatDoorQ6
import Derived.WideKeyEntry
import Derived.Shelf.SlSortCmp.WholeK
import Derived.Test.YticcccciefaemaaGreatDoorProg
import Derived.Test.YticcccciefaemaaGreatDoorK6
import Derived.Laws.OwnMore
import Derived.Lib.AppendZeros
namespace Go.Herb
open Go.ChangeMaps Go.MapKept
open Go.WideElems (Fit)
open Go.Maps (Keyed)
section
variable {α β : Type} [DecidableEq α] {P : Program} {k : TypeId} {encK : α → Value} {encV : β → Value} {w w' : World} {b : Nat} {m : List (α × β)}

/-- 'm[k] = f(m[k])': the entry is sought, then stored, whatever the world turned to between, but for the map. -/
theorem MapIs.entered (h : MapIs P k encK encV w b m) (KL : Go.WideMaps.KeyLaw P k) (hinj : ∀ a a', encK a = encK a' → a = a') {t e : TypeId} (ht : P.underlying t = some (.map k e)) {z : Value} (hz : ∀ u : World, (zeroValue e).run P u = .ok z u) (hroom : m.length < maxLen) {a : α} {kl : Lit} (hkey : keyOf P k (encK a) = some kl) :
    ∃ (st : Nat) (W1 : World), (Instr.mapEntry t (.map (some b)) (encK a)).run P w = .ok (.tuple #[(match getL m a with | some v => encV v | none => z), goInt st]) W1 ∧ w.grownBy W1 (some b) ∧ W1.heap.size = w.heap.size ∧
      ∀ (W : World) (v : β), W.heap[b]? = W1.heap[b]? → ∃ W2, (Instr.entryStore t (.map (some b)) (goInt st) (encV v)).run P W = .ok () W2 ∧ MapIs P k encK encV W2 b (putL m a v) ∧ W.grownBy W2 (some b) ∧ W2.heap.size = W.heap.size := by
  have hh := h
  have hnd := h.nodup
  obtain ⟨es, clock, hb, F, he⟩ := h.blk
  obtain ⟨v0, st, es1, clock1, hE, hv, hS⟩ := Go.WideElems.entry_then_store KL ht hz hb F hkey
  have hv0 : v0 = (match getL m a with | some v => encV v | none => z) := by
    rcases hv with ⟨e0, h1, h2, h3⟩ | ⟨h1, h2⟩
    · obtain ⟨p, hp, e1, e2⟩ := hh.entry hb h1
      have hpa : p.1 = a := hinj _ _ (e1.symm.trans h2)
      have : getL m a = some p.2 := (getL_some hnd).2 (by rw [← hpa]; exact hp)
      rw [this, h3, e2]
    · have : getL m a = none := getL_none.2 (by
        intro hin
        obtain ⟨p, hp, rfl⟩ := List.mem_map.1 hin
        have : (encK p.1, encV p.2) ∈ es.toList.map kvOf := by rw [he]; exact List.mem_map.2 ⟨p, hp, rfl⟩
        obtain ⟨x, hx, ex⟩ := List.mem_map.1 this
        exact h1 x hx (congrArg Prod.fst ex))
      rw [this, h2]
  subst hv0
  refine ⟨st, _, hE, ⟨rfl, rfl, rfl, by simp [setBlock], fun i _ hi => heap_setBlock_other hb _ (fun e => hi (by rw [e]))⟩, by simp [setBlock], fun W v hW => ?_⟩
  have hWb : W.heap[b]? = some (.map es1 clock1) := hW.trans (heap_setBlock_same hb _)
  obtain ⟨es', clock', hs1, hs2⟩ := hS W (encV v) hWb
  obtain ⟨w1, hr, hM, _, _⟩ := hh.store (Keyed.of_law KL) hinj ht hroom v hkey
  rw [hs2] at hr
  injection hr with _ hr
  subst hr
  exact ⟨_, hs1, hM.same ((heap_setBlock_same hWb _).trans (heap_setBlock_same hb _).symm), ⟨rfl, rfl, rfl, by simp [setBlock], fun i _ hi => heap_setBlock_other hWb _ (fun e => hi (by rw [e]))⟩, by simp [setBlock]⟩
end
end Go.Herb

namespace Go.Proofs.YticcccciefaemaaGreatDoor
open Go.RowKit Go.Shelf Go.Herb

/-- Two facts of a place: alike by commit and line? -/
def sameSL (x y : Fc) : Bool := decide (x.seq = y.seq) && decide (x.line = y.line)
/-- Is the i-th fact like none ahead of it? -/
def firstI (xs : List Fc) (i : Nat) : Bool := (List.range i).all (fun j => !((xs[j]?.any (fun y => xs[i]?.any (fun x => decide (spotOf y = spotOf x) && sameSL y x)))))
def atSpot (xs : List Fc) (s : Spot) (i : Nat) : Bool := xs[i]?.any (fun x => decide (spotOf x = s))
/-- The places of the first n facts that stand at a spot, alike ones once. -/
def rowP (xs : List Fc) (n : Nat) (s : Spot) : List Nat := (List.range n).filter (fun i => atSpot xs s i && firstI xs i)
theorem rowP_succ (xs : List Fc) (n : Nat) (s : Spot) : rowP xs (n + 1) s = rowP xs n s ++ if atSpot xs s n && firstI xs n then [n] else [] := by
  unfold rowP
  rw [List.range_succ, List.filter_append]
  congr 1
  cases h : atSpot xs s n && firstI xs n <;> simp [h]
theorem rowP_asc (xs : List Fc) (n : Nat) (s : Spot) : Asc (rowP xs n s) := List.Pairwise.filter _ List.pairwise_lt_range
theorem mem_rowP {xs : List Fc} {n : Nat} {s : Spot} {i : Nat} : i ∈ rowP xs n s ↔ i < n ∧ atSpot xs s i = true ∧ firstI xs i = true := by
  unfold rowP
  rw [List.mem_filter, List.mem_range, Bool.and_eq_true]
theorem rowP_lt {xs : List Fc} {n : Nat} {s : Spot} : ∀ i ∈ rowP xs n s, i < xs.length := fun i hi => by
  obtain ⟨_, h, _⟩ := mem_rowP.1 hi
  unfold atSpot at h
  rcases Nat.lt_or_ge i xs.length with h' | h'
  · exact h'
  · rw [List.getElem?_eq_none h'] at h; cases h
theorem rowP_len (xs : List Fc) (n : Nat) (s : Spot) : (rowP xs n s).length ≤ n := by
  have := List.length_filter_le (fun i => atSpot xs s i && firstI xs i) (List.range n)
  rw [List.length_range] at this
  exact this

/-- Whether one of a row is alike tells whether one ahead is. -/
theorem row_any (xs : List Fc) (n : Nat) (h : n < xs.length) : (rowP xs n (spotOf xs[n])).any (fun k => xs[k]?.any (fun y => sameSL y xs[n])) = !firstI xs n := by
  have hx : xs[n]? = some xs[n] := List.getElem?_eq_getElem h
  rw [Bool.eq_iff_iff, List.any_eq_true, Bool.not_eq_true', ← Bool.not_eq_true]
  unfold firstI
  rw [List.all_eq_true]
  constructor
  · rintro ⟨k, hk, h1⟩ hall
    obtain ⟨h2, h3, _⟩ := mem_rowP.1 hk
    have h4 := hall k (List.mem_range.2 h2)
    have hkx : xs[k]? = some (xs[k]'(by omega)) := List.getElem?_eq_getElem (by omega)
    rw [hx, hkx] at h4
    unfold atSpot at h3
    rw [hkx] at h1 h3
    simp only [Option.any_some, decide_eq_true_eq] at h1 h3 h4
    rw [h1, h3] at h4
    simp at h4
  · intro hall
    -- the least one
    have key : ∀ m j, j ≤ m → j < n → (xs[j]?.any (fun y => decide (spotOf y = spotOf xs[n]) && sameSL y xs[n])) = true → ∃ k ∈ rowP xs n (spotOf xs[n]), (xs[k]?.any (fun y => sameSL y xs[n])) = true := by
      intro m
      induction m with
      | zero =>
        intro j hj hjn hs
        have : j = 0 := by omega
        subst this
        have hjx : xs[0]? = some (xs[0]'(by omega)) := List.getElem?_eq_getElem (by omega)
        rw [hjx] at hs
        simp only [Option.any_some, Bool.and_eq_true, decide_eq_true_eq] at hs
        refine ⟨0, mem_rowP.2 ⟨hjn, by unfold atSpot; rw [hjx]; exact decide_eq_true hs.1, by simp [firstI]⟩, by rw [hjx]; simpa using hs.2⟩
      | succ m ih =>
        intro j hj hjn hs
        have hjx : xs[j]? = some (xs[j]'(by omega)) := List.getElem?_eq_getElem (by omega)
        by_cases hf : firstI xs j = true
        · rw [hjx] at hs
          simp only [Option.any_some, Bool.and_eq_true, decide_eq_true_eq] at hs
          exact ⟨j, mem_rowP.2 ⟨hjn, by unfold atSpot; rw [hjx]; exact decide_eq_true hs.1, hf⟩, by rw [hjx]; simpa using hs.2⟩
        · unfold firstI at hf
          rw [List.all_eq_true] at hf
          have : ∃ i ∈ List.range j, ¬ (!((xs[i]?.any (fun y => xs[j]?.any (fun x => decide (spotOf y = spotOf x) && sameSL y x))))) = true := by
            apply Classical.byContradiction
            intro hn
            exact hf (fun i hi => Classical.byContradiction (fun hc => hn ⟨i, hi, hc⟩))
          obtain ⟨i, hi, h1⟩ := this
          rw [List.mem_range] at hi
          have hix : xs[i]? = some (xs[i]'(by omega)) := List.getElem?_eq_getElem (by omega)
          rw [hjx] at hs h1
          rw [hix] at h1
          simp only [Option.any_some, Bool.not_eq_true', Bool.not_eq_false, Bool.and_eq_true, decide_eq_true_eq] at hs h1
          refine ih i (by omega) (by omega) ?_
          rw [hix]
          simp only [Option.any_some, Bool.and_eq_true, decide_eq_true_eq]
          refine ⟨h1.1.trans hs.1, ?_⟩
          have a1 := h1.2
          have a2 := hs.2
          unfold sameSL at a1 a2 ⊢
          simp only [Bool.and_eq_true, decide_eq_true_eq] at a1 a2 ⊢
          exact ⟨a1.1.trans a2.1, a1.2.trans a2.2⟩
    have : ∃ i ∈ List.range n, ¬ (!((xs[i]?.any (fun y => xs[n]?.any (fun x => decide (spotOf y = spotOf x) && sameSL y x))))) = true := by
      apply Classical.byContradiction
      intro hn
      exact hall (fun i hi => Classical.byContradiction (fun hc => hn ⟨i, hi, hc⟩))
    obtain ⟨i, hi, h1⟩ := this
    rw [List.mem_range] at hi
    refine key i i (Nat.le_refl _) hi ?_
    rw [hx] at h1
    simpa using h1

/-- What the closure of keeps.rows has captured. -/
structure REnv (w : World) (bl bf : Nat) (al : Option Addr) (cl : Nat) (xs : List Fc) (x : Fc) : Prop where
  box : w.heap[bl]? = some (.cells #[.slice al xs.length cl] (56) (0, 0))
  els : Facts w al xs
  f2 : w.cell? ⟨bf, 2, none⟩ = some (.int .u64 x.seq)
  f3 : w.cell? ⟨bf, 3, none⟩ = some (.int .u64 x.line)
theorem REnv.drewN {w : World} {bl bf cl : Nat} {al : Option Addr} {xs : List Fc} {x : Fc} (h : REnv w bl bf al cl xs x) (n : Nat) : REnv (w.drewN n) bl bf al cl xs x :=
  ⟨h.box, h.els.ext (below_drewN (Below.refl _ _) n), h.f2, h.f3⟩

set_option maxHeartbeats 400000 in
theorem alike_any {w : World} {bl bf cl : Nat} {al : Option Addr} {xs : List Fc} {x : Fc} (hE : REnv w bl bf al cl xs x) (i : Nat) (hi : i < xs.length) (r : Bool) (hr : (xs[i]?.any (fun y => sameSL y x)) = r) :
    Calls Tryz.prog (53) #[.int .i64 i, .pointer (some ⟨bl, 0, none⟩), .pointer (some ⟨bf, 0, none⟩)] w fun e w' => e = .returned (.bool r) ∧ ∃ n, w' = w.drewN n := by
  rw [List.getElem?_eq_getElem hi] at hr
  have t0 := cell_of_blk hE.box 0
  simp at t0
  have f2 := hE.f2
  have f3 := hE.f3
  obtain ⟨b, o, rfl, hlt, hci⟩ := hE.els.get i hi
  have c2 := hci 2 _ rfl
  have c3 := hci 3 _ rfl
  have hi0 : (0 : Int) ≤ (i : Int) := by omega
  have hi1 : (i : Int) < (xs.length : Int) := by omega
  have hrr : (decide (xs[i].seq = x.seq) && decide (xs[i].line = x.line)) = r := hr
  generalize xs[i].seq = p at *
  generalize xs[i].line = q at *
  clear hci hE hr
  by_cases h1 : p = x.seq
  · have hb1 : (p == x.seq) = true := beq_iff_eq.2 h1
    have hb2 : (q == x.line) = r := by rw [← hrr, decide_eq_true h1, Bool.true_and]; rfl
    clear h1 hrr
    go_enter Tryz.func53, Tryz.ntmps53
    go_wp2_with fail
    go_quiet (fail)
    go_wp2
    go_ret
    exact ⟨rfl, nq, rfl⟩
  · have hb1 : (p == x.seq) = false := beq_eq_false_iff_ne.2 h1
    have hr0 : r = false := by rw [← hrr]; simp [h1]
    subst hr0
    clear h1 hrr
    go_enter Tryz.func53, Tryz.ntmps53
    go_wp2_with fail
    go_quiet (fail)
    go_wp2
    go_ret
    exact ⟨rfl, nq, rfl⟩

abbrev alikeV (bl bf : Nat) : Value := .func (.func (53)) #[] #[.pointer (some ⟨bl, 0, none⟩), .pointer (some ⟨bf, 0, none⟩)]

def IdxPost (r : Bool) (w : World) (e : Ending) (w' : World) : Prop := ∃ (c : Int) (n : Nat), e = .returned (.int .i64 c) ∧ decide (0 ≤ c) = r ∧ w' = w.drewN n

set_option maxHeartbeats 1000000 in
theorem indexFunc_any {w : World} {bl bf cl : Nat} {al : Option Addr} {xs : List Fc} {x : Fc} (hE : REnv w bl bf al cl xs x) (a : Option Addr) (cap : Nat) (ys : List Nat) (hY : Ints w a ys) (hx : ∀ i ∈ ys, i < xs.length) (hl : ys.length < 1000000) :
    Calls Tryz.prog (75) #[.slice a ys.length cap, alikeV bl bf] w (IdxPost (ys.any (fun k => xs[k]?.any (fun y => sameSL y x))) w) := by
  have HE := Lib.hid hE
  have HY := Lib.hid hY
  have HX := Lib.hid hx
  clear hE hY hx
  go_enter Tryz.func75, Tryz.ntmps75
  go_wp2_with fail
  go_loopg [8] ys.length (fun gk iv wr => ∃ k n : Nat, k + gk = ys.length ∧ iv = .int .i64 k ∧ (ys.take k).any (fun k => xs[k]?.any (fun y => sameSL y x)) = false ∧ wr = w.drewN n)
  case atStart => exact ⟨0, 0, by omega, rfl, rfl, rfl⟩
  case round =>
    obtain ⟨k, n, hk, rfl, hf, rfl⟩ := hrel
    have HF := Lib.hid hf
    clear hf
    by_cases hlt : k < ys.length
    · have hyx := HX.out ys[k] (List.getElem_mem hlt)
      have hsn : (ys.take (k + 1)).any (fun k => xs[k]?.any (fun y => sameSL y x)) = (xs[ys[k]]?.any (fun y => sameSL y x)) := by
        rw [List.take_succ_eq_append_getElem hlt, List.any_append, HF.out]
        simp
      have hmem : ys[k] ∈ ys := List.getElem_mem hlt
      obtain ⟨b, o, rfl, hlb, hc⟩ := HY.out.get k hlt
      have c0 := hc 0 _ rfl
      simp only [Nat.add_zero, Nat.mul_one] at c0
      have HSN := Lib.hid hsn
      have HMEM := Lib.hid hmem
      generalize ys[k] = i at *
      have hk0 : (0 : Int) ≤ (k : Int) := by omega
      have hk1 : (k : Int) < (ys.length : Int) := by omega
      clear hsn hc hmem
      have c0n : (w.drewN n).cell? ⟨b, o + k, none⟩ = some (.int .i64 i) := c0
      clear c0
      cases hr : (xs[i]?.any (fun y => sameSL y x)) with
      | true =>
        have HR := Lib.hid hr
        clear hr
        go_wp2_with fail
        refine (alike_any (HE.out.drewN n) i hyx true HR.out).mono ?_
        rintro e w' ⟨rfl, m, rfl⟩
        go_wp2
        go_ret
        refine ⟨k, n + m, rfl, ?_, by first | rfl | rw [World.drewN_drewN]⟩
        rw [List.any_eq_true.2 ⟨i, HMEM.out, HR.out⟩]
        exact decide_eq_true (by omega)
      | false =>
        have HR := Lib.hid hr
        clear hr
        go_wp2_with fail
        refine (alike_any (HE.out.drewN n) i hyx false HR.out).mono ?_
        rintro e w' ⟨rfl, m, rfl⟩
        go_wp2
        go_roundg (gk - 1)
        case measure => omega
        case rel => exact ⟨k + 1, n + m, by omega, by go_num, by rw [HSN.out]; exact HR.out, by first | rfl | rw [World.drewN_drewN]⟩
    · have hke : k = ys.length := by omega
      subst hke
      rw [List.take_length] at HF
      go_wp2
      go_ret
      exact ⟨-1, n, rfl, by rw [HF.out]; rfl, rfl⟩

set_option maxHeartbeats 400000 in
theorem containsFunc_any {w : World} {bl bf cl : Nat} {al : Option Addr} {xs : List Fc} {x : Fc} (hE : REnv w bl bf al cl xs x) (a : Option Addr) (cap : Nat) (ys : List Nat) (hY : Ints w a ys) (hx : ∀ i ∈ ys, i < xs.length) (hl : ys.length < 1000000) (r : Bool) (hr : ys.any (fun k => xs[k]?.any (fun y => sameSL y x)) = r) :
    Calls Tryz.prog (52) #[.slice a ys.length cap, alikeV bl bf] w fun e w' => e = .returned (.bool r) ∧ ∃ n, w' = w.drewN n := by
  go_enter Tryz.func52, Tryz.ntmps52
  go_wp2_with fail
  refine (indexFunc_any hE a cap ys hY hx hl).mono ?_
  rintro e w' ⟨c, n, rfl, hc, rfl⟩
  rw [hr] at hc
  clear hE hY hx hr
  go_wp2
  go_ret
  exact ⟨rfl, n, rfl⟩
end Go.Proofs.YticcccciefaemaaGreatDoor

namespace Go.Proofs.YticcccciefaemaaGreatDoor
open Go.RowKit Go.Shelf Go.Herb

theorem row47 : ((94) : TypeId) < Tryz.prog.types.size := of_decide_eq_true (by kernel_rfl)
theorem wide47 : (match Tryz.prog.underlying (94) with | some (.array _ _) | some (.struct _) => true | _ => false) = true := by kernel_rfl
set_option maxRecDepth 100000 in
theorem klaw47 : Go.WideMaps.KeyLaw Tryz.prog (94) := deep_law_laid laidOut (m := 3) (by omega) row47 (by kernel_rfl) wide47
theorem law47 : Maps.Keyed Tryz.prog (94) := Maps.Keyed.of_law klaw47
theorem cells47 : Tryz.prog.cellsOf (94) = 2 := by kernel_rfl
theorem kt47 : Tryz.prog.keyType (94) = true := by kernel_rfl
theorem zero43 (w : World) : (zeroValue (90)).run Tryz.prog w = .ok (.slice none 0 0) w := by kernel_rfl

theorem key47 (k : ByteArray) (v : Int) (hk : k.size ≤ maxLen) (hv : (Lit.int .u32 v).wf = true) : ∃ kl, keyOf Tryz.prog (94) (eS (k, v)) = some kl := by
  obtain ⟨n, hn⟩ : ∃ n, Tryz.prog.types.size = n + 1 := ⟨Tryz.prog.types.size - 1, by have h : ((94) : Nat) < Tryz.prog.types.size := row47; omega⟩
  have hlits : ∃ ls, Tryz.prog.keyLits (Tryz.prog.types.size + 1) (94) [.string k, .int .u32 v] = some ls := by
    rw [hn]
    simp [Program.keyLits, Tryz.underlying94, Tryz.underlying9, Tryz.underlying51, cells47, cells9, cells36, hk, hv]
  obtain ⟨ls, hls⟩ := hlits
  refine ⟨.string (keyBytes ls), ?_⟩
  have hf : (eS (k, v)).formed Tryz.prog (94) = true := by
    simp [Value.formed, Tryz.underlying94, cells47]
  unfold keyOf
  rw [Tryz.underlying94]
  simp only [kt47, hf, Bool.and_self, if_true]
  have : (eS (k, v)).cells.toList = [.string k, .int .u32 v] := rfl
  rw [this, hls]
  rfl

abbrev MapP (w : World) (b : Nat) (m : List (Spot × Value)) : Prop := MapIs Tryz.prog (94) eS (fun v : Value => v) w b m

theorem own_grown {B : Nat} {w w' : World} {u : Value} {ys : List Nat} {r : Option Nat} (h : OwnI B w u ys) (hg : w.grownBy w' r) (hne : ∀ k, u.ownBlock = some k → r ≠ some k) : OwnI B w' u ys := by
  obtain ⟨h1, h2 | ⟨g, cap, cur, rfl, hgb, hh, rest⟩⟩ := h
  · exact ⟨h1, .inl h2⟩
  · refine ⟨h1, .inr ⟨g, cap, cur, rfl, hgb, ?_, rest⟩⟩
    rw [hg.block g (lt_of_blk hh) (fun e => hne g rfl e.symm)]
    exact hh

/-- The rows of the first n facts, in a map, each in memory of its own. -/
def RowsIs (B : Nat) (w : World) (mb : Nat) (xs : List Fc) (n : Nat) : Prop := ∃ M : List (Spot × Value), MapP w mb M ∧ M.length ≤ n ∧
  (∀ s v, getL M s = some v → OwnI B w v (rowP xs n s) ∧ rowP xs n s ≠ []) ∧ (∀ s, getL M s = none → rowP xs n s = []) ∧
  (∀ s t v u, s ≠ t → getL M s = some v → getL M t = some u → v.ownBlock ≠ u.ownBlock)

theorem RowsIs.below {B mb n : Nat} {w w' : World} {xs : List Fc} (h : RowsIs B w mb xs n) (hb : Below w.heap.size w w') : RowsIs B w' mb xs n := by
  obtain ⟨M, h1, h2, h3, h4, h5⟩ := h
  exact ⟨M, h1.same (hb.block _ h1.lt), h2, fun s v hs => ⟨ownsRow_below (h3 s v hs).1 hb (Nat.le_refl _), (h3 s v hs).2⟩, h4, h5⟩
theorem RowsIs.skip {B mb n : Nat} {w : World} {xs : List Fc} (h : RowsIs B w mb xs n) (hf : firstI xs n = false) : RowsIs B w mb xs (n + 1) := by
  have e : ∀ s, rowP xs (n + 1) s = rowP xs n s := fun s => by rw [rowP_succ, hf]; simp
  obtain ⟨M, h1, h2, h3, h4, h5⟩ := h
  exact ⟨M, h1, by omega, fun s v hs => by rw [e]; exact h3 s v hs, fun s hs => by rw [e]; exact h4 s hs, h5⟩
theorem RowsIs.look {B mb n : Nat} {w : World} {xs : List Fc} (h : RowsIs B w mb xs n) (x : Fc) :
    ∃ (a : Option Addr) (cap : Nat), (Instr.lookup (91) (.map (some mb)) (eS (spotOf x)) false).run Tryz.prog w = .ok (.slice a (rowP xs n (spotOf x)).length cap) w ∧ Ints w a (rowP xs n (spotOf x)) := by
  obtain ⟨M, h1, h2, h3, h4, h5⟩ := h
  obtain ⟨kl, hkl⟩ := key47 x.key x.valid x.wk x.wv
  have hlk := (h1.look law47 eS_inj Tryz.underlying91 (zero43 w) (a := spotOf x) hkl).1
  cases hg : getL M (spotOf x) with
  | none =>
    rw [hg] at hlk
    rw [h4 _ hg]
    exact ⟨none, 0, hlk, Els.nil _ _ _ _⟩
  | some v =>
    rw [hg] at hlk
    obtain ⟨a, cap, rfl, _, hE⟩ := els_of_owns ic_len (h3 _ _ hg).1
    exact ⟨a, cap, hlk, hE⟩

theorem run_append_int_at (w : World) (B : Nat) (v : Value) (ys : List Nat) (vb : Nat) (i : Nat) (ho : OwnI B w v ys) (hb : w.heap[vb]? = some (.cells #[.int .i64 i] (3) (0, 0))) (hx : ys.length < 1000000) (hB : B ≤ w.heap.size) (ty : TypeId) :
    ∃ v' w', (Builtin.append_ #[(90), (90)] ty #[v, .slice (some ⟨vb, 0, none⟩) 1 1]).run Tryz.prog w = .ok v' w' ∧ OwnI B w' v' (ys ++ [i]) ∧ w.grownBy w' v.ownBlock ∧ (v'.ownBlock = v.ownBlock ∨ v'.ownBlock = some w.heap.size) := by
  obtain ⟨i0, hin, hz0, hz1, hz2⟩ := info_parts info3
  have hT : Ints w (some ⟨vb, 0, none⟩) [i] := ⟨fun j hj => ⟨vb, 0, rfl, lt_of_blk hb, fun q c hq => by
    have hj0 : j = 0 := by simp at hj; exact hj
    subst hj0
    rw [cell_of_blk hb]
    simpa [ic] using hq⟩⟩
  obtain ⟨v', w', hr, h2, h3, _, h5⟩ := run_append_own_at (P := Tryz.prog) (w := w) B (90) ty (3) i0 _ 1 8 Tryz.underlying90 hin hz0 hz1 hz2 rfl (by decide) v ys.length (ys.flatMap ic) ho ⟨vb, 0, none⟩ 1 1 ([i].flatMap ic) (flatMap_len ic_len _) (hT.flat ic_len (by decide)) (by intro v hv; simp [ic] at hv; subst hv; rfl) (by unfold maxLen; omega) (by omega) hB
  refine ⟨v', w', hr, ?_, h3, h5⟩
  show w'.ownsRow B (3) 1 v' (ys ++ [i]).length ((ys ++ [i]).flatMap ic)
  rw [List.length_append, List.flatMap_append]
  exact h2

/-- A place comes to a row. -/
theorem RowsIs.put {B mb n : Nat} {X : World} {xs : List Fc} (h : RowsIs B X mb xs n) (hmb : mb < B) (hB : B ≤ X.heap.size) (hn : n < xs.length) (hf : firstI xs n = true) (hl : xs.length < 1000000) :
    ∃ (v : Value) (st : Nat) (W1 : World) (v' : Value) (W2 W3 : World), (Instr.mapEntry (91) (.map (some mb)) (eS (spotOf xs[n]))).run Tryz.prog (X.alloc (.cells #[.int .i64 n] (3))) = .ok (.tuple #[v, goInt st]) W1 ∧
      (Builtin.append_ #[(90), (90)] (90) #[v, .slice (some ⟨X.heap.size, 0, none⟩) 1 1]).run Tryz.prog W1 = .ok v' W2 ∧
      (Instr.entryStore (91) (.map (some mb)) (goInt st) v').run Tryz.prog W2 = .ok () W3 ∧ RowsIs B W3 mb xs (n + 1) ∧ X.heap.size ≤ W3.heap.size ∧ (∀ (B0 : Nat) (w : World), Below B0 w X → B0 ≤ mb → B0 ≤ X.heap.size → Below B0 w W3) := by
  have hX2 : Below X.heap.size X (X.alloc (.cells #[.int .i64 n] (3))) := (Below.refl _ _).alloc (Nat.le_refl _) _
  obtain ⟨M, h1, h2, h3, h4, h5⟩ := h.below hX2
  have hbx : (X.alloc (.cells #[.int .i64 n] (3))).heap[X.heap.size]? = some (.cells #[.int .i64 n] (3) (0, 0)) := blk_new_at rfl _
  have hsz : X.heap.size < (X.alloc (.cells #[.int .i64 n] (3))).heap.size := lt_of_blk hbx
  generalize X.alloc (.cells #[.int .i64 n] (3)) = X2 at *
  obtain ⟨p, hp⟩ : ∃ p, p = spotOf xs[n] := ⟨_, rfl⟩
  have hat : ∀ s, atSpot xs s n = decide (p = s) := fun s => by unfold atSpot; rw [List.getElem?_eq_getElem hn, hp]; rfl
  have hrs : ∀ s, rowP xs (n + 1) s = rowP xs n s ++ if p = s then [n] else [] := fun s => by
    rw [rowP_succ, hat, hf, Bool.and_true]
    by_cases e : p = s <;> simp [e]
  obtain ⟨kl, hkl⟩ := key47 xs[n].key xs[n].valid xs[n].wk xs[n].wv
  obtain ⟨st, W1, hE, hg1, hs1, hS⟩ := h1.entered klaw47 eS_inj Tryz.underlying91 zero43 (by unfold maxLen; omega) (a := spotOf xs[n]) hkl
  rw [← hp] at hE hS ⊢
  obtain ⟨v, hv⟩ : ∃ v, v = (match getL M p with | some v => v | none => Value.slice none 0 0) := ⟨_, rfl⟩
  have hown : OwnI B X2 v (rowP xs n p) := by
    rw [hv]
    cases hg : getL M p with
    | none => rw [h4 _ hg]; exact World.ownsRow_nil _ _ _ _
    | some u => exact (h3 _ _ hg).1
  have hvother : ∀ s u, p ≠ s → getL M s = some u → v.ownBlock ≠ u.ownBlock := by
    intro s u hne hu
    rw [hv]
    cases hg : getL M p with
    | none =>
      have hru := h3 _ _ hu
      rcases row_of_owns hru.1 with ⟨_, h0⟩ | ⟨g, cap, rfl, _, _⟩
      · exact absurd h0 hru.2
      · simp [Value.ownBlock]
    | some w => exact h5 p s w u hne hg hu
  have hge : ∀ k, v.ownBlock = some k → B ≤ k := fun k e => (World.ownsRow.lt hown k e).1
  have hown1 : OwnI B W1 v (rowP xs n p) := own_grown hown hg1 (fun k e h => by cases h; have := hge _ e; omega)
  have hbx1 : W1.heap[X.heap.size]? = some (.cells #[.int .i64 n] (3) (0, 0)) := (hg1.block _ hsz (fun e => by cases e; omega)).trans hbx
  have hpl := rowP_len xs n p
  obtain ⟨v', W2, hA, hO2, hg2, hwh⟩ := run_append_int_at W1 B v (rowP xs n p) X.heap.size n hown1 hbx1 (by omega) (by omega) (90)
  have hmb1 : W2.heap[mb]? = W1.heap[mb]? := hg2.block _ (by have := h1.lt; omega) (fun e => by have := hge _ e.symm; omega)
  obtain ⟨W3, hR3, hM3, hg3, hs3⟩ := hS W2 v' hmb1
  have hs2 := hg2.size
  have hn1 : rowP xs n p ++ [n] ≠ [] := by simp
  have hwh2 : ∃ k, v'.ownBlock = some k ∧ B ≤ k ∧ (v.ownBlock = some k ∨ k = W1.heap.size) := by
    rcases row_of_owns hO2 with ⟨_, h0⟩ | ⟨g, cap, rfl, hgB, _⟩
    · exact absurd h0 hn1
    · refine ⟨g, rfl, hgB, ?_⟩
      rcases hwh with e | e
      · exact .inl (by rw [← e]; rfl)
      · simp only [Value.ownBlock, Option.some.injEq] at e
        exact .inr e
  obtain ⟨g, hg, hgB, hgw⟩ := hwh2
  have hu2 : ∀ s u, p ≠ s → getL M s = some u → OwnI B W3 u (rowP xs n s) ∧ u.ownBlock ≠ some g := by
    intro s u hne hu
    have ho := (h3 _ _ hu).1
    have hk : ∀ k, u.ownBlock = some k → B ≤ k := fun k e => (World.ownsRow.lt ho k e).1
    have hlt : ∀ k, u.ownBlock = some k → k < X2.heap.size := fun k e => (World.ownsRow.lt ho k e).2
    have o1 : OwnI B W1 u (rowP xs n s) := own_grown ho hg1 (fun k e h => by cases h; have := hk _ e; omega)
    have o2 : OwnI B W2 u (rowP xs n s) := own_grown o1 hg2 (fun k e h => hvother s u hne hu (h.trans e.symm))
    refine ⟨own_grown o2 hg3 (fun k e h => by cases h; have := hk _ e; omega), fun e => ?_⟩
    rcases hgw with e2 | e2
    · exact hvother s u hne hu (e2.trans e.symm)
    · have := hlt _ e; omega
  refine ⟨v, st, W1, v', W2, W3, by rw [hv]; revert hE; cases getL M p <;> exact id, hA, hR3, ⟨putL M p v', hM3, by have := putL_length M p v'; omega, ?_, ?_, ?_⟩, by omega, ?_⟩
  · intro s u hs
    rw [hrs]
    by_cases e : p = s
    · subst e
      rw [getL_put_same] at hs
      cases hs
      rw [if_pos rfl]
      exact ⟨own_grown hO2 hg3 (fun k e h => by cases h; rw [hg] at e; cases e; omega), hn1⟩
    · rw [getL_put_other _ _ _ (fun h => e h.symm)] at hs
      rw [if_neg e, List.append_nil]
      exact ⟨(hu2 s u e hs).1, (h3 _ _ hs).2⟩
  · intro s hs
    rw [hrs]
    by_cases e : p = s
    · subst e
      rw [getL_put_same] at hs
      cases hs
    · rw [getL_put_other _ _ _ (fun h => e h.symm)] at hs
      rw [if_neg e, List.append_nil]
      exact h4 s hs
  · intro s t u z hne hs ht
    by_cases e : p = s
    · subst e
      rw [getL_put_same] at hs
      cases hs
      rw [getL_put_other _ _ _ (fun h => hne h.symm)] at ht
      rw [hg]
      exact fun h => (hu2 t z hne ht).2 h.symm
    · rw [getL_put_other _ _ _ (fun h => e h.symm)] at hs
      by_cases e2 : p = t
      · subst e2
        rw [getL_put_same] at ht
        cases ht
        rw [hg]
        exact (hu2 s u e hs).2
      · rw [getL_put_other _ _ _ (fun h => e2 h.symm)] at ht
        exact h5 s t u z hne hs ht
  · intro B0 w hb h0 h00
    have a1 : Below B0 w X2 := hb.trans (hX2.mono h00)
    have a2 : Below B0 w W1 := a1.grown hg1 (by omega) (fun k e => by cases e; exact h0)
    have a3 : Below B0 w W2 := a2.grown hg2 (by omega) (fun k e => by have := hge _ e; omega)
    exact a3.grown hg3 (by omega) (fun k e => by cases e; exact h0)
end Go.Proofs.YticcccciefaemaaGreatDoor

namespace Go.Proofs.YticcccciefaemaaGreatDoor
open Go.RowKit Go.Shelf Go.Herb

def RowsPost (xs : List Fc) (w : World) (e : Ending) (w' : World) : Prop := ∃ mb B : Nat, e = .returned (.map (some mb)) ∧ RowsIs B w' mb xs xs.length ∧ w.heap.size ≤ mb ∧ mb < B ∧ B ≤ w'.heap.size ∧ Below w.heap.size w w'

set_option maxRecDepth 100000 in
set_option maxHeartbeats 2000000 in
theorem rows_any (al : Option Addr) (cl : Nat) (xs : List Fc) (w : World) (hL : Facts w al xs) (hl : xs.length < 1000000) :
    Calls Tryz.prog (30) #[.slice al xs.length cl] w (RowsPost xs w) := by
  have hmm := @run_makeMap Tryz.prog
  have HL := Lib.hid hL
  clear hL
  go_enter Tryz.func30, Tryz.ntmps30
  go_wp2_with fail
  clear hmm
  obtain ⟨W0, hW0⟩ : ∃ W0 : World, W0 = (w.alloc (.cells #[.slice al xs.length cl] (56))).alloc (.map #[] 0) := ⟨_, rfl⟩
  have hsz : W0.heap.size = w.heap.size + 2 := by rw [hW0]; simp
  have hB0 : Below w.heap.size w W0 := by
    rw [hW0]
    exact ((Below.refl _ w).alloc (Nat.le_refl _) _).alloc (by simp) _
  have b0 : W0.heap[w.heap.size]? = some (.cells #[.slice al xs.length cl] (56) (0, 0)) := by
    rw [hW0]
    exact blk_alloc (blk_new_at rfl _)
  have b1 : MapP W0 (w.heap.size + 1) [] := by
    have h := MapIs.made (P := Tryz.prog) (k := (94)) (encK := eS) (encV := fun v : Value => v) (w.alloc (.cells #[.slice al xs.length cl] (56)))
    rw [World.size_alloc] at h
    rw [hW0]
    exact h
  have hr0 : RowsIs W0.heap.size W0 (w.heap.size + 1) xs 0 := ⟨[], b1, Nat.zero_le _, (fun s v h => by cases h), (fun s _ => rfl), (fun s t v u _ h => by cases h)⟩
  rw [← hW0]
  have HB0 := Lib.hid hB0
  have HBX := Lib.hid b0
  have HR0 := Lib.hid hr0
  have HL0 := Lib.hid (HL.out.ext hB0)
  clear hW0 hB0 b0 b1 hr0
  go_loopg [10] xs.length (fun gk iv wr => ∃ n : Nat, n + gk = xs.length ∧ iv = .int .i64 n ∧ RowsIs W0.heap.size wr (w.heap.size + 1) xs n ∧ Below (w.heap.size + 1) W0 wr ∧ W0.heap.size ≤ wr.heap.size)
  case atStart => exact ⟨0, by omega, rfl, HR0.out, Below.refl _ _, Nat.le_refl _⟩
  case round =>
    obtain ⟨n, hn, rfl, hR, hBn, hsn⟩ := hrel
    have HR := Lib.hid hR
    have HBN := Lib.hid hBn
    clear hR hBn
    by_cases hlt : n < xs.length
    · obtain ⟨b, o, rfl, hlb0, hcell0⟩ := HL.out.get n hlt
      have hbw := HB0.out.trans (HBN.out.mono (Nat.le_succ _))
      have hcell : ∀ j c, (fc xs[n])[j]? = some c → wr.cell? ⟨b, o + n * 6 + j, none⟩ = some c := fun j c hj => (hbw.cell (p := ⟨b, o + n * 6 + j, none⟩) hlb0).trans (hcell0 j c hj)
      have hbx := blk_below HBX.out HBN.out (by omega)
      have t0 := cell_of_blk hbx 0
      simp at t0
      have hrow := row_any xs n hlt
      have hput := fun h => RowsIs.put (n := n) (X := h) (xs := xs) (B := W0.heap.size) (mb := w.heap.size + 1)
      have hlbr : b < wr.heap.size := by omega
      obtain ⟨x, hx⟩ : ∃ x, x = xs[n] := ⟨_, rfl⟩
      rw [← hx] at hcell hrow
      have e0 := hcell 0 _ rfl
      have e1 := hcell 1 _ rfl
      have e2 := hcell 2 _ rfl
      have e3 := hcell 3 _ rfl
      have e4 := hcell 4 _ rfl
      have e5 := hcell 5 _ rfl
      simp only [Nat.add_zero] at e0 e1 e2 e3 e4 e5
      obtain ⟨X1, hX1⟩ : ∃ X1 : World, X1 = (wr.alloc (.cells #[.string x.key, .int .u32 x.valid, .int .u64 x.seq, .int .u64 x.line, .int .u8 x.kind, .string x.val] (55))).alloc (.cells #[.string x.key, .int .u32 x.valid] (94)) := ⟨_, rfl⟩
      have hBX1 : Below wr.heap.size wr X1 := by rw [hX1]; exact ((Below.refl _ _).alloc (Nat.le_refl _) _).alloc (by simp) _
      have hbf : X1.heap[wr.heap.size]? = some (.cells #[.string x.key, .int .u32 x.valid, .int .u64 x.seq, .int .u64 x.line, .int .u8 x.kind, .string x.val] (55) (0, 0)) := by rw [hX1]; exact blk_alloc (blk_new_at rfl _)
      have hsX : wr.heap.size + 2 = X1.heap.size := by rw [hX1]; simp
      have hRX := HR.out.below hBX1
      obtain ⟨va, vc, hlk, hints⟩ := hRX.look x
      have hE : REnv X1 w.heap.size wr.heap.size (some ⟨b, o, none⟩) cl xs x := ⟨blk_below hbx hBX1 (by omega), (HL.out.ext hbw).ext hBX1, by have := cell_of_blk hbf 2; simpa using this, by have := cell_of_blk hbf 3; simpa using this⟩
      have HE := Lib.hid hE
      have HINT := Lib.hid hints
      have HRX := Lib.hid hRX
      have HBW := Lib.hid hbw
      have HBX1 := Lib.hid hBX1
      have HX := Lib.hid hx
      have HROW := Lib.hid hrow
      have hrl := rowP_len xs n (spotOf x)
      have hn0 : (0 : Int) ≤ (n : Int) := by omega
      have hn1 : (n : Int) < (xs.length : Int) := by omega
      rw [hX1] at hlk
      have HX1 := Lib.hid hX1
      clear hcell hcell0 hbx hrow hput hBX1 hbf hRX hints hE hbw hx hX1
      go_wp2_with fail
      rw [← HX1.out]
      clear hlk e0 e1 e2 e3 e4 e5 t0
      refine (containsFunc_any HE.out va vc _ HINT.out rowP_lt (by omega) _ HROW.out).mono ?_
      rintro e w' ⟨rfl, m, rfl⟩
      have HRQ := Lib.hid (HRX.out.below (below_drewN (Below.refl _ _) m))
      have HBQ := Lib.hid (HBN.out.trans (below_drewN (HBX1.out.mono (show w.heap.size + 1 ≤ wr.heap.size by omega)) m))
      have hsQ : W0.heap.size ≤ (X1.drewN m).heap.size := by show W0.heap.size ≤ X1.heap.size; omega
      have c0 : (X1.drewN m).cell? ⟨wr.heap.size + 1, 0, none⟩ = some (.string x.key) := by rw [HX1.out]; exact cell_of_blk (blk_new_at (by simp) _) 0
      have c1 : (X1.drewN m).cell? ⟨wr.heap.size + 1, 1, none⟩ = some (.int .u32 x.valid) := by rw [HX1.out]; exact cell_of_blk (blk_new_at (by simp) _) 1
      have hlq : wr.heap.size + 1 < (X1.drewN m).heap.size := by show wr.heap.size + 1 < X1.heap.size; omega
      clear HE HINT HRX HBX1 HROW hrl hsX HX1
      generalize X1.drewN m = Q at *
      cases hf : firstI xs n with
      | false =>
        have HF := Lib.hid hf
        clear hf c0 c1
        go_wp2_with fail
        go_roundg (gk - 1)
        case measure => omega
        case rel => exact ⟨n + 1, by omega, by go_num, HRQ.out.skip HF.out, HBQ.out, hsQ⟩
      | true =>
        obtain ⟨v, st, W1, v', W2, W3, r1, r2, r3, hR3, hs3, hb3⟩ := RowsIs.put HRQ.out (by omega) hsQ hlt hf hl
        rw [← HX.out] at r1
        unfold goInt at r3
        have HR3 := Lib.hid hR3
        have HB3 := Lib.hid (hb3 _ _ HBQ.out (Nat.le_refl _) (by omega))
        have HRUN := Lib.hid r2
        clear hf hR3 hb3 r2
        go_wp2_with (at_builtin; refine Lib.wpList_append_run _ rfl _ _ _ _ rfl _ _ rfl rfl _ _ (HRUN.out) ?_)
        go_roundg (gk - 1)
        case measure => omega
        case rel => exact ⟨n + 1, by omega, by go_num, HR3.out, HB3.out, by omega⟩
    · have hne : n = xs.length := by omega
      subst hne
      go_wp2
      go_ret
      exact ⟨w.heap.size + 1, W0.heap.size, rfl, HR.out, by omega, by omega, hsn, HB0.out.trans (HBN.out.mono (Nat.le_succ _))⟩
end Go.Proofs.YticcccciefaemaaGreatDoor

namespace Go.Proofs
open Go.Shelf
end Go.Proofs

namespace Go.Proofs.YticcccciefaemaaGreatDoor
open Go.RowKit Go.Shelf Go.Herb

set_option maxRecDepth 100000 in
theorem len64_none (w : World) : Calls Tryz.prog 98 #[.int .u64 0] w fun e w' => e = .returned (.int .i64 0) ∧ w = w' := by
  go_enter Tryz.func98, Tryz.ntmps98
  go_wp2
  go_ret
  refine ⟨?_, rfl⟩
  kernel_rfl
theorem len_none (w : World) : Calls Tryz.prog 71 #[.int .u64 0] w fun e w' => e = .returned (.int .i64 0) ∧ w = w' := by
  go_enter Tryz.func71, Tryz.ntmps71
  go_wp2_with (go_at_call 98; refine (len64_none _).mono ?_; rintro e w' ⟨rfl, rfl⟩)
  go_ret
  exact ⟨rfl, rfl⟩
end Go.Proofs.YticcccciefaemaaGreatDoor

namespace Go.Proofs.YticcccciefaemaaGreatDoor
open Go.RowKit Go.Shelf Go.Herb Go.Sort

instance : Inhabited Fc := ⟨⟨.empty, 0, 0, 0, 0, .empty, by unfold maxLen; decide, rfl, rfl, rfl, rfl⟩⟩

theorem ltOf_cmpF (x y : Fc) : ltOf cmpF x y = true ↔ LtF x y := by
  unfold ltOf
  rw [decide_eq_true_iff]
  exact cmpF_neg x y
theorem ltOf_cmpF' (x y : Fc) : ltOf cmpF x y = false ↔ ¬ LtF x y := by
  rw [← ltOf_cmpF]
  cases ltOf cmpF x y <;> simp

theorem swoF : SWO (ltOf cmpF) :=
  ⟨fun x => (ltOf_cmpF' x x).2 (LtF.irrefl x), fun x y z h1 h2 => (ltOf_cmpF x z).2 (((ltOf_cmpF x y).1 h1).trans ((ltOf_cmpF y z).1 h2)), fun x y z h1 h2 => (ltOf_cmpF' x z).2 (LtF.ntrans ((ltOf_cmpF' x y).1 h1) ((ltOf_cmpF' y z).1 h2))⟩

theorem fc_one (x : Fc) : ∀ v ∈ fc x, v.oneCell' = true := by
  intro v hv
  simp [fc] at hv
  rcases hv with rfl | rfl | rfl | rfl | rfl | rfl <;> rfl

end Go.Proofs.YticcccciefaemaaGreatDoor

namespace Go.Proofs.YticcccciefaemaaGreatDoor
open Go.RowKit Go.Shelf Go.Herb

theorem Tryz.info55 : (Tryz.prog.info? 55).map (fun i => (i.zero, i.size, i.bytes)) = some (some (.agg #[.string .empty, .int .u32 0, .int .u64 0, .int .u64 0, .int .u8 0, .string .empty]), 6, 64) := by kernel_rfl

theorem clipF_any (a : Option Addr) (cap n : Nat) (w : World) (hn : a = none → n = 0 ∧ cap = 0) (hl : n < 1000000) (hle : n ≤ cap) (hm : cap ≤ maxLen) :
    Calls Tryz.prog 32 #[.slice a n cap] w fun e w' => e = .returned (.slice a n n) ∧ w = w' := by
  cases a with
  | none =>
    obtain ⟨rfl, rfl⟩ := hn rfl
    clear hn
    go_enter Tryz.func32, Tryz.ntmps32
    go_wp2
    go_ret
    exact ⟨rfl, rfl⟩
  | some ad =>
    clear hn
    unfold maxLen at hm
    go_enter Tryz.func32, Tryz.ntmps32
    go_wp2
    go_ret
    exact ⟨rfl, rfl⟩

/-- Facts that a call owns. -/
def OwnF (B : Nat) (w : World) (v : Value) (xs : List Fc) : Prop := w.ownsRow B 55 6 v xs.length (xs.flatMap fc)

theorem fc_flat_one (xs : List Fc) : ∀ v ∈ xs.flatMap fc, v.oneCell' = true := by
  intro v hv
  obtain ⟨x, _, hx⟩ := List.mem_flatMap.1 hv
  exact fc_one x v hx

theorem els_of_one {w : World} {vb : Nat} {x : Fc} (hb : w.heap[vb]? = some (.cells (fc x).toArray 55 (0, 0))) : Facts w (some ⟨vb, 0, none⟩) [x] := by
  refine ⟨fun i hi => ⟨vb, 0, rfl, lt_of_blk hb, fun j c hj => ?_⟩⟩
  have : i = 0 := by simpa using hi
  subst this
  rw [cell_of_blk hb]
  simpa using hj

theorem run_append_facts (w : World) (B : Nat) (v : Value) (xs : List Fc) (ab : Option Addr) (cb : Nat) (bs : List Fc) (ho : OwnF B w v xs) (hT : Facts w ab bs) (hx : xs.length < 1000000) (hb : bs.length < 1000000) (hn : ab = none → cb = 0) (hB : B ≤ w.heap.size) (ty : TypeId) :
    ∃ v' w', (Builtin.append_ #[56, 56] ty #[v, .slice ab bs.length cb]).run Tryz.prog w = .ok v' w' ∧ OwnF B w' v' (xs ++ bs) ∧ w.grownBy w' v.ownBlock := by
  obtain ⟨i0, hin, hz0, hz1, hz2⟩ := info_parts Tryz.info55
  cases ab with
  | none =>
    have h0 : bs = [] := by
      cases bs with
      | nil => rfl
      | cons x xs => obtain ⟨b, o, h, _⟩ := hT.get 0 (by simp); cases h
    subst h0
    rw [hn rfl]
    obtain ⟨av, cv, rfl, hle, -⟩ := els_of_owns fc_len ho
    have := run_append_owned_none (P := Tryz.prog) w B 56 ty 55 i0 6 Tryz.underlying56 hin _ _ _ ho
    exact ⟨_, w, this, by simpa using ho, grown_refl _ _⟩
  | some ad =>
    obtain ⟨v', w', hr, h2, h3, h4⟩ := run_append_own (P := Tryz.prog) w B 56 ty 55 i0 _ 6 64 Tryz.underlying56 hin hz0 hz1 hz2 rfl (by decide) v xs.length (xs.flatMap fc) ho ad bs.length cb (bs.flatMap fc) (flatMap_len fc_len _) (hT.flat fc_len (by decide)) (fc_flat_one _) (by unfold maxLen; omega) (by omega) hB
    refine ⟨v', w', hr, ?_, h3⟩
    unfold OwnF
    rw [List.length_append, List.flatMap_append]
    exact h2

theorem OwnF.below {B : Nat} {w w' : World} {v : Value} {ts : List Fc} (h : OwnF B w v ts) (hb : Below w.heap.size w w') : OwnF B w' v ts := ownsRow_below h hb (Nat.le_refl _)

def SortedPost (zs : List Fc) (w : World) (e : Ending) (w' : World) : Prop :=
  ∃ (a : Option Addr) (ys : List Fc), e = .returned (.slice a ys.length ys.length) ∧ ys.Perm zs ∧ ys.Pairwise (fun x y => ¬ LtF y x) ∧ Facts w' a ys ∧ (a = none → ys = []) ∧ Below w.heap.size w w'

/-- The facts that are seen. -/
abbrev seenL (xs : List Fc) (cs : List Lk) (at_ : Int) : List Fc := xs.filter (seenB (uptoM (backs cs cs.length)) at_)
/-- The last of each key and time. -/
abbrev lastL (xs : List Fc) : List Fc := (lastM xs).map (·.2)

end Go.Proofs.YticcccciefaemaaGreatDoor
