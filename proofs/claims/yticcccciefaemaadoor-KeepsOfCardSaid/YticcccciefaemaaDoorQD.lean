/- keeps.rows: facts by their places. Condition: fewer than 1000000 facts. -/
import Derived.Test.YticcccciefaemaaDoorQC
import Derived.Test.YticcccciefaemaaDoorK4
import Derived.WideKeyEntry
namespace Go.Herb
open Go.ChangeMaps Go.MapKept
open Go.WideElems (Fit)
open Go.Maps (Keyed)
section
variable {α β : Type} [DecidableEq α] {P : Program} {k : TypeId} {encK : α → Value} {encV : β → Value} {w w' : World} {b : Nat} {m : List (α × β)}

/-- 'm[k] = f(m[k])': the entry is sought, then stored, whatever the world turned to between, but for the map. -/
theorem MapIs.entered (h : MapIs P k encK encV w b m) (KL : Go.WideMaps.KeyLaw P k) (hinj : ∀ a a', encK a = encK a' → a = a') {t e : TypeId} (ht : P.underlying t = some (.map k e)) {z : Value} (hz : ∀ u : World, (zeroValue e).run P u = .ok z u) (hroom : m.length < maxLen) {a : α} {kl : Lit} (hkey : keyOf P k (encK a) = some kl) :
    ∃ (st : Nat) (W1 : World), (Instr.mapEntry t (.map (some b)) (encK a)).run P w = .ok (.tuple #[(match getL m a with | some v => encV v | none => z), goInt st]) W1 ∧ w.grownBy W1 (some b) ∧ W1.heap.size = w.heap.size ∧
      ∀ (W : World) (v : β), W.heap[b]? = W1.heap[b]? → ∃ W2, (Instr.entryStore t (.map (some b)) (goInt st) (encV v)).run P W = .ok () W2 ∧ MapIs P k encK encV W2 b (putL m a v) ∧ W.grownBy W2 (some b) ∧ W2.heap.size = W.heap.size := by
  have hh := h
  have hnd := h.nodup
  obtain ⟨es, clock, hb, F, he⟩ := h.blk
  obtain ⟨v0, st, es1, clock1, hE, hv, hS⟩ := Go.WideElems.entry_then_store KL ht hz hb F hkey
  have hv0 : v0 = (match getL m a with | some v => encV v | none => z) := by
    rcases hv with ⟨e0, h1, h2, h3⟩ | ⟨h1, h2⟩
    · obtain ⟨p, hp, e1, e2⟩ := hh.entry hb h1
      have hpa : p.1 = a := hinj _ _ (e1.symm.trans h2)
      have : getL m a = some p.2 := (getL_some hnd).2 (by rw [← hpa]; exact hp)
      rw [this, h3, e2]
    · have : getL m a = none := getL_none.2 (by
        intro hin
        obtain ⟨p, hp, rfl⟩ := List.mem_map.1 hin
        have : (encK p.1, encV p.2) ∈ es.toList.map kvOf := by rw [he]; exact List.mem_map.2 ⟨p, hp, rfl⟩
        obtain ⟨x, hx, ex⟩ := List.mem_map.1 this
        exact h1 x hx (congrArg Prod.fst ex))
      rw [this, h2]
  subst hv0
  refine ⟨st, _, hE, ⟨rfl, rfl, rfl, by simp [setBlock], fun i _ hi => heap_setBlock_other hb _ (fun e => hi (by rw [e]))⟩, by simp [setBlock], fun W v hW => ?_⟩
  have hWb : W.heap[b]? = some (.map es1 clock1) := hW.trans (heap_setBlock_same hb _)
  obtain ⟨es', clock', hs1, hs2⟩ := hS W (encV v) hWb
  obtain ⟨w1, hr, hM, _, _⟩ := hh.store (Keyed.of_law KL) hinj ht hroom v hkey
  rw [hs2] at hr
  injection hr with _ hr
  subst hr
  exact ⟨_, hs1, hM.same ((heap_setBlock_same hWb _).trans (heap_setBlock_same hb _).symm), ⟨rfl, rfl, rfl, by simp [setBlock], fun i _ hi => heap_setBlock_other hWb _ (fun e => hi (by rw [e]))⟩, by simp [setBlock]⟩
end
end Go.Herb

namespace Go.Proofs.YticcccciefaemaaDoor
open Go.RowKit Go.Shelf Go.Herb

/-- Two facts of a place: alike by commit and line? -/
def sameSL (x y : Fc) : Bool := decide (x.seq = y.seq) && decide (x.line = y.line)
/-- Is the i-th fact like none ahead of it? -/
def firstI (xs : List Fc) (i : Nat) : Bool := (List.range i).all (fun j => !((xs[j]?.any (fun y => xs[i]?.any (fun x => decide (spotOf y = spotOf x) && sameSL y x)))))
def atSpot (xs : List Fc) (s : Spot) (i : Nat) : Bool := xs[i]?.any (fun x => decide (spotOf x = s))
/-- The places of the first n facts that stand at a spot, alike ones once. -/
def rowP (xs : List Fc) (n : Nat) (s : Spot) : List Nat := (List.range n).filter (fun i => atSpot xs s i && firstI xs i)
theorem rowP_succ (xs : List Fc) (n : Nat) (s : Spot) : rowP xs (n + 1) s = rowP xs n s ++ if atSpot xs s n && firstI xs n then [n] else [] := by
  unfold rowP
  rw [List.range_succ, List.filter_append]
  congr 1
  cases h : atSpot xs s n && firstI xs n <;> simp [h]
theorem rowP_asc (xs : List Fc) (n : Nat) (s : Spot) : Asc (rowP xs n s) := List.Pairwise.filter _ List.pairwise_lt_range
theorem mem_rowP {xs : List Fc} {n : Nat} {s : Spot} {i : Nat} : i ∈ rowP xs n s ↔ i < n ∧ atSpot xs s i = true ∧ firstI xs i = true := by
  unfold rowP
  rw [List.mem_filter, List.mem_range, Bool.and_eq_true]
theorem rowP_lt {xs : List Fc} {n : Nat} {s : Spot} : ∀ i ∈ rowP xs n s, i < xs.length := fun i hi => by
  obtain ⟨_, h, _⟩ := mem_rowP.1 hi
  unfold atSpot at h
  rcases Nat.lt_or_ge i xs.length with h' | h'
  · exact h'
  · rw [List.getElem?_eq_none h'] at h; cases h
theorem rowP_len (xs : List Fc) (n : Nat) (s : Spot) : (rowP xs n s).length ≤ n := by
  have := List.length_filter_le (fun i => atSpot xs s i && firstI xs i) (List.range n)
  rw [List.length_range] at this
  exact this

/-- Whether one of a row is alike tells whether one ahead is. -/
theorem row_any (xs : List Fc) (n : Nat) (h : n < xs.length) : (rowP xs n (spotOf xs[n])).any (fun k => xs[k]?.any (fun y => sameSL y xs[n])) = !firstI xs n := by
  have hx : xs[n]? = some xs[n] := List.getElem?_eq_getElem h
  rw [Bool.eq_iff_iff, List.any_eq_true, Bool.not_eq_true', ← Bool.not_eq_true]
  unfold firstI
  rw [List.all_eq_true]
  constructor
  · rintro ⟨k, hk, h1⟩ hall
    obtain ⟨h2, h3, _⟩ := mem_rowP.1 hk
    have h4 := hall k (List.mem_range.2 h2)
    have hkx : xs[k]? = some (xs[k]'(by omega)) := List.getElem?_eq_getElem (by omega)
    rw [hx, hkx] at h4
    unfold atSpot at h3
    rw [hkx] at h1 h3
    simp only [Option.any_some, decide_eq_true_eq] at h1 h3 h4
    rw [h1, h3] at h4
    simp at h4
  · intro hall
    -- the least one
    have key : ∀ m j, j ≤ m → j < n → (xs[j]?.any (fun y => decide (spotOf y = spotOf xs[n]) && sameSL y xs[n])) = true → ∃ k ∈ rowP xs n (spotOf xs[n]), (xs[k]?.any (fun y => sameSL y xs[n])) = true := by
      intro m
      induction m with
      | zero =>
        intro j hj hjn hs
        have : j = 0 := by omega
        subst this
        have hjx : xs[0]? = some (xs[0]'(by omega)) := List.getElem?_eq_getElem (by omega)
        rw [hjx] at hs
        simp only [Option.any_some, Bool.and_eq_true, decide_eq_true_eq] at hs
        refine ⟨0, mem_rowP.2 ⟨hjn, by unfold atSpot; rw [hjx]; exact decide_eq_true hs.1, by simp [firstI]⟩, by rw [hjx]; simpa using hs.2⟩
      | succ m ih =>
        intro j hj hjn hs
        have hjx : xs[j]? = some (xs[j]'(by omega)) := List.getElem?_eq_getElem (by omega)
        by_cases hf : firstI xs j = true
        · rw [hjx] at hs
          simp only [Option.any_some, Bool.and_eq_true, decide_eq_true_eq] at hs
          exact ⟨j, mem_rowP.2 ⟨hjn, by unfold atSpot; rw [hjx]; exact decide_eq_true hs.1, hf⟩, by rw [hjx]; simpa using hs.2⟩
        · unfold firstI at hf
          rw [List.all_eq_true] at hf
          have : ∃ i ∈ List.range j, ¬ (!((xs[i]?.any (fun y => xs[j]?.any (fun x => decide (spotOf y = spotOf x) && sameSL y x))))) = true := by
            apply Classical.byContradiction
            intro hn
            exact hf (fun i hi => Classical.byContradiction (fun hc => hn ⟨i, hi, hc⟩))
          obtain ⟨i, hi, h1⟩ := this
          rw [List.mem_range] at hi
          have hix : xs[i]? = some (xs[i]'(by omega)) := List.getElem?_eq_getElem (by omega)
          rw [hjx] at hs h1
          rw [hix] at h1
          simp only [Option.any_some, Bool.not_eq_true', Bool.not_eq_false, Bool.and_eq_true, decide_eq_true_eq] at hs h1
          refine ih i (by omega) (by omega) ?_
          rw [hix]
          simp only [Option.any_some, Bool.and_eq_true, decide_eq_true_eq]
          refine ⟨h1.1.trans hs.1, ?_⟩
          have a1 := h1.2
          have a2 := hs.2
          unfold sameSL at a1 a2 ⊢
          simp only [Bool.and_eq_true, decide_eq_true_eq] at a1 a2 ⊢
          exact ⟨a1.1.trans a2.1, a1.2.trans a2.2⟩
    have : ∃ i ∈ List.range n, ¬ (!((xs[i]?.any (fun y => xs[n]?.any (fun x => decide (spotOf y = spotOf x) && sameSL y x))))) = true := by
      apply Classical.byContradiction
      intro hn
      exact hall (fun i hi => Classical.byContradiction (fun hc => hn ⟨i, hi, hc⟩))
    obtain ⟨i, hi, h1⟩ := this
    rw [List.mem_range] at hi
    refine key i i (Nat.le_refl _) hi ?_
    rw [hx] at h1
    simpa using h1

/-- What the closure of keeps.rows has captured. -/
structure REnv (w : World) (bl bf : Nat) (al : Option Addr) (cl : Nat) (xs : List Fc) (x : Fc) : Prop where
  box : w.heap[bl]? = some (.cells #[.slice al xs.length cl] (22) (0, 0))
  els : Facts w al xs
  f2 : w.cell? ⟨bf, 2, none⟩ = some (.int .u64 x.seq)
  f3 : w.cell? ⟨bf, 3, none⟩ = some (.int .u64 x.line)
theorem REnv.drewN {w : World} {bl bf cl : Nat} {al : Option Addr} {xs : List Fc} {x : Fc} (h : REnv w bl bf al cl xs x) (n : Nat) : REnv (w.drewN n) bl bf al cl xs x :=
  ⟨h.box, h.els.ext (below_drewN (Below.refl _ _) n), h.f2, h.f3⟩

set_option maxHeartbeats 400000 in
theorem alike_any {w : World} {bl bf cl : Nat} {al : Option Addr} {xs : List Fc} {x : Fc} (hE : REnv w bl bf al cl xs x) (i : Nat) (hi : i < xs.length) (r : Bool) (hr : (xs[i]?.any (fun y => sameSL y x)) = r) :
    Calls Tryd.prog (25) #[.int .i64 i, .pointer (some ⟨bl, 0, none⟩), .pointer (some ⟨bf, 0, none⟩)] w fun e w' => e = .returned (.bool r) ∧ ∃ n, w' = w.drewN n := by
  rw [List.getElem?_eq_getElem hi] at hr
  have t0 := cell_of_blk hE.box 0
  simp at t0
  have f2 := hE.f2
  have f3 := hE.f3
  obtain ⟨b, o, rfl, hlt, hci⟩ := hE.els.get i hi
  have c2 := hci 2 _ rfl
  have c3 := hci 3 _ rfl
  have hi0 : (0 : Int) ≤ (i : Int) := by omega
  have hi1 : (i : Int) < (xs.length : Int) := by omega
  have hrr : (decide (xs[i].seq = x.seq) && decide (xs[i].line = x.line)) = r := hr
  generalize xs[i].seq = p at *
  generalize xs[i].line = q at *
  clear hci hE hr
  by_cases h1 : p = x.seq
  · have hb1 : (p == x.seq) = true := beq_iff_eq.2 h1
    have hb2 : (q == x.line) = r := by rw [← hrr, decide_eq_true h1, Bool.true_and]; rfl
    clear h1 hrr
    go_enter Tryd.func25, Tryd.ntmps25
    go_wp2_with fail
    go_quiet (fail)
    go_wp2
    go_ret
    exact ⟨rfl, nq, rfl⟩
  · have hb1 : (p == x.seq) = false := beq_eq_false_iff_ne.2 h1
    have hr0 : r = false := by rw [← hrr]; simp [h1]
    subst hr0
    clear h1 hrr
    go_enter Tryd.func25, Tryd.ntmps25
    go_wp2_with fail
    go_quiet (fail)
    go_wp2
    go_ret
    exact ⟨rfl, nq, rfl⟩

abbrev alikeV (bl bf : Nat) : Value := .func (.func (25)) #[] #[.pointer (some ⟨bl, 0, none⟩), .pointer (some ⟨bf, 0, none⟩)]

def IdxPost (r : Bool) (w : World) (e : Ending) (w' : World) : Prop := ∃ (c : Int) (n : Nat), e = .returned (.int .i64 c) ∧ decide (0 ≤ c) = r ∧ w' = w.drewN n

set_option maxHeartbeats 1000000 in
theorem indexFunc_any {w : World} {bl bf cl : Nat} {al : Option Addr} {xs : List Fc} {x : Fc} (hE : REnv w bl bf al cl xs x) (a : Option Addr) (cap : Nat) (ys : List Nat) (hY : Ints w a ys) (hx : ∀ i ∈ ys, i < xs.length) (hl : ys.length < 1000000) :
    Calls Tryd.prog (35) #[.slice a ys.length cap, alikeV bl bf] w (IdxPost (ys.any (fun k => xs[k]?.any (fun y => sameSL y x))) w) := by
  have HE := Lib.hid hE
  have HY := Lib.hid hY
  have HX := Lib.hid hx
  clear hE hY hx
  go_enter Tryd.func35, Tryd.ntmps35
  go_wp2_with fail
  go_loopg [8] ys.length (fun gk iv wr => ∃ k n : Nat, k + gk = ys.length ∧ iv = .int .i64 k ∧ (ys.take k).any (fun k => xs[k]?.any (fun y => sameSL y x)) = false ∧ wr = w.drewN n)
  case atStart => exact ⟨0, 0, by omega, rfl, rfl, rfl⟩
  case round =>
    obtain ⟨k, n, hk, rfl, hf, rfl⟩ := hrel
    have HF := Lib.hid hf
    clear hf
    by_cases hlt : k < ys.length
    · have hyx := HX.out ys[k] (List.getElem_mem hlt)
      have hsn : (ys.take (k + 1)).any (fun k => xs[k]?.any (fun y => sameSL y x)) = (xs[ys[k]]?.any (fun y => sameSL y x)) := by
        rw [List.take_succ_eq_append_getElem hlt, List.any_append, HF.out]
        simp
      have hmem : ys[k] ∈ ys := List.getElem_mem hlt
      obtain ⟨b, o, rfl, hlb, hc⟩ := HY.out.get k hlt
      have c0 := hc 0 _ rfl
      simp only [Nat.add_zero, Nat.mul_one] at c0
      have HSN := Lib.hid hsn
      have HMEM := Lib.hid hmem
      generalize ys[k] = i at *
      have hk0 : (0 : Int) ≤ (k : Int) := by omega
      have hk1 : (k : Int) < (ys.length : Int) := by omega
      clear hsn hc hmem
      have c0n : (w.drewN n).cell? ⟨b, o + k, none⟩ = some (.int .i64 i) := c0
      clear c0
      cases hr : (xs[i]?.any (fun y => sameSL y x)) with
      | true =>
        have HR := Lib.hid hr
        clear hr
        go_wp2_with fail
        refine (alike_any (HE.out.drewN n) i hyx true HR.out).mono ?_
        rintro e w' ⟨rfl, m, rfl⟩
        go_wp2
        go_ret
        refine ⟨k, n + m, rfl, ?_, by first | rfl | rw [World.drewN_drewN]⟩
        rw [List.any_eq_true.2 ⟨i, HMEM.out, HR.out⟩]
        exact decide_eq_true (by omega)
      | false =>
        have HR := Lib.hid hr
        clear hr
        go_wp2_with fail
        refine (alike_any (HE.out.drewN n) i hyx false HR.out).mono ?_
        rintro e w' ⟨rfl, m, rfl⟩
        go_wp2
        go_roundg (gk - 1)
        case measure => omega
        case rel => exact ⟨k + 1, n + m, by omega, by go_num, by rw [HSN.out]; exact HR.out, by first | rfl | rw [World.drewN_drewN]⟩
    · have hke : k = ys.length := by omega
      subst hke
      rw [List.take_length] at HF
      go_wp2
      go_ret
      exact ⟨-1, n, rfl, by rw [HF.out]; rfl, rfl⟩

set_option maxHeartbeats 400000 in
theorem containsFunc_any {w : World} {bl bf cl : Nat} {al : Option Addr} {xs : List Fc} {x : Fc} (hE : REnv w bl bf al cl xs x) (a : Option Addr) (cap : Nat) (ys : List Nat) (hY : Ints w a ys) (hx : ∀ i ∈ ys, i < xs.length) (hl : ys.length < 1000000) (r : Bool) (hr : ys.any (fun k => xs[k]?.any (fun y => sameSL y x)) = r) :
    Calls Tryd.prog (24) #[.slice a ys.length cap, alikeV bl bf] w fun e w' => e = .returned (.bool r) ∧ ∃ n, w' = w.drewN n := by
  go_enter Tryd.func24, Tryd.ntmps24
  go_wp2_with fail
  refine (indexFunc_any hE a cap ys hY hx hl).mono ?_
  rintro e w' ⟨c, n, rfl, hc, rfl⟩
  rw [hr] at hc
  clear hE hY hx hr
  go_wp2
  go_ret
  exact ⟨rfl, n, rfl⟩
end Go.Proofs.YticcccciefaemaaDoor
