/- manifests.Fold of no records; herbariumlaw20.first; herbariumlaw01.SameBytes. Condition: fewer than 1000000000 bytes. · herbariumlaw01.SameBytes; herbariumlaw20.lives. No condition. · herbariumlaw20.lives. No condition. · herbariumlaw20.Great. No condition. · ManifestsForm: the roots that it asks of. No condition. -/
import Derived.Test.YtchcelodeepjdaaGreatDoorZN
import Derived.Defers
import Derived.Recover
import Derived.Lib.SlBytesConst
namespace Go.Proofs.YtchcelodeepjdaaGreatDoor.Ln
open Go.RowKit Go.Shelf Go.Herb

set_option maxRecDepth 100000 in
theorem catch_idle (p q : Addr) (w : World) :
    CallsD Tryz.prog (25) #[.pointer (some p), .pointer (some q)] .returning w fun e u' w' => e = .returned (.tuple #[]) ∧ u' = .returning ∧ w' = w := by
  refine callsD_of_wpS Tryz.func25 rfl fun c₀ cs hu => ?_
  apply wpS_seq
  apply wpS_region
  simp [wpOpsS, go_sem, recoverD, hu, Tryz.ntmps25, Exit.thenS]
  apply wpS_seq
  apply wpS_region
  simp [wpOpsS, go_sem, Exit.thenS]
  refine wpS_cond (t := false) (by simp [Act.eval]) ?_
  simp only [Bool.false_eq_true, if_false]
  refine wpS_of_wp (wp_skip ?_)
  cases c₀
  simp_all [bodyPostS, results, Tryz.results25]
set_option maxRecDepth 100000 in
theorem foldNone_any (w : World) : Calls Tryz.prog (11) #[.slice none 0 0] w fun e w' => e = .returned (.tuple #[.agg #[.int .u64 0, .int .u64 0, .int .u64 0, .slice none 0 0, .slice none 0 0, .slice none 0 0, .slice none 0 0], .int .i64 7]) ∧ Below w.heap.size w w' := by
  have hmf : ∀ (fn : Fn) (first cap : Array Value) (w : World), (Instr.makeFunc fn first cap).run Tryz.prog w = .ok (.func fn first cap) w := fun _ _ _ _ => rfl
  have HB := Lib.hid (Below.refl w.heap.size w)
  go_enter_defers Tryz.func11, Tryz.ntmps11
  go_wp2
  refine leaves_cons (f := 25) (args := #[.pointer (some ⟨w.heap.size, 0, none⟩), .pointer (some ⟨w.heap.size + 1, 0, none⟩)]) (by simp) (by simp [go_sem]) ?_
  refine (catch_idle ⟨w.heap.size, 0, none⟩ ⟨w.heap.size + 1, 0, none⟩ _).mono ?_
  rintro e u' w'' ⟨rfl, rfl, rfl⟩
  simp [Leaves, settle, results, Tryz.results11, go_sem]
  exact balc (balc HB.out)
def firstR (g : Nat) : Rv := ⟨0, 1, 2, some ⟨g, 0, none⟩, 1, [(mainB, 0, 0)], some ⟨g + 1, 0, none⟩, 1, [(0, 0)], some ⟨g + 1 + 1, 0, none⟩, 1, [⟨0, none, 0, []⟩], none, 0, []⟩
structure FirstAt (w' : World) (g : Nat) : Prop where
  b : w'.heap[g]? = some (.cells #[.string mainB, .int .u64 0, .int .u64 0] (73) (0, 0))
  l : w'.heap[g + 1]? = some (.cells #[.int .u64 0, .int .u64 0] (53) (0, 0))
  v : w'.heap[g + 1 + 1]? = some (.cells #[.int .u64 0, .slice none 0 0] (76) (0, 0))
theorem first_any (w : World) : Calls Tryz.prog (23) #[] w fun e w' => e = .returned (rtV (firstR (w.heap.size + 1))) ∧ FirstAt w' (w.heap.size + 1) ∧ Below w.heap.size w w' := by
  go_enter Tryz.func23, Tryz.ntmps23
  go_wp2_with fail
  refine bodyPost_ret (v := rtV (firstR (w.heap.size + 1))) (by simp [results, Tryz.results23, go_sem]; exact ⟨rfl, rfl, rfl, ⟨rfl, rfl, rfl⟩, ⟨rfl, rfl, rfl⟩, ⟨rfl, rfl, rfl⟩, rfl, rfl, rfl⟩) rfl ?_
  refine ⟨rfl, ⟨?_, ?_, ?_⟩, balc (balc (balc (balc (Below.refl _ _))))⟩
  · exact blk_alloc (blk_alloc (blk_new_at (by simp) _))
  · exact blk_alloc (blk_new_at (by simp) _)
  · exact blk_new_at (by simp) _
theorem FirstAt.ext {w w' : World} {g : Nat} (h : FirstAt w g) (hb : Below w.heap.size w w') : FirstAt w' g := ⟨blk_below h.b hb (lt_of_blk h.b), blk_below h.l hb (lt_of_blk h.l), blk_below h.v hb (lt_of_blk h.v)⟩
theorem els_one {α : Type} {enc : α → List Value} {s : Nat} {w : World} {g : Nat} (x : α) {cs : Array Value} {t : TypeId} (h : w.heap[g]? = some (.cells cs t (0, 0))) (hc : cs.toList = enc x) : Els enc s w (some ⟨g, 0, none⟩) [x] :=
  ⟨fun i hi => by
    have hi0 : i = 0 := by simp at hi; omega
    subst hi0
    refine ⟨g, 0, rfl, lt_of_blk h, fun j c hj => ?_⟩
    rw [cell_of_blk h, Nat.zero_mul, Nat.add_zero, Nat.zero_add, ← Array.getElem?_toList, hc]
    exact hj⟩
theorem FirstAt.laid {w : World} {g : Nat} (h : FirstAt w g) : LaidR w (firstR g) := by
  have u0 : U64 0 := u64_len (n := 0) (by decide)
  have u1 : U64 1 := u64_len (n := 1) (by decide)
  have u2 : U64 2 := u64_len (n := 2) (by decide)
  refine ⟨⟨u0, u1, u2, ⟨els_one _ h.b rfl, (fun e => by cases e), Nat.le_refl _, by show 1 ≤ maxLen; unfold maxLen; decide, ?_⟩, ⟨els_one _ h.l rfl, (fun e => by cases e), Nat.le_refl _, by show 1 ≤ maxLen; unfold maxLen; decide, ?_⟩, ⟨els_one _ h.v rfl, ?_, ?_, by show 1 ≤ maxLen; unfold maxLen; decide, ?_⟩, ⟨Els.nil _ _ _ _, by simp [firstR]⟩, Nat.le_refl _, by show 0 ≤ maxLen; omega, fun _ => rfl, ⟨Nat.le_refl _, by show 1 ≤ maxLen; unfold maxLen; decide⟩⟩, (show 1 ≤ 100 by decide), (show 1 ≤ 100 by decide), (show 1 ≤ 12 by decide), ?_, ?_⟩
  · intro x hx
    rw [List.mem_singleton.1 hx]
    exact ⟨by show 4 ≤ maxLen; unfold maxLen; decide, u0, u0⟩
  · intro x hx
    rw [List.mem_singleton.1 hx]
    exact ⟨u0, u0⟩
  · intro x hx
    rw [List.mem_singleton.1 hx]
    exact Els.nil _ _ _ _
  · intro x hx
    rw [List.mem_singleton.1 hx]
    exact ⟨u0, by simp⟩
  · intro x hx
    rw [List.mem_singleton.1 hx]
    exact Nat.zero_le _
  · intro x hx
    rw [List.mem_singleton.1 hx]
    exact ⟨by show 0 < 4; decide, by show 4 ≤ 1000; decide⟩
  · intro x hx
    rw [List.mem_singleton.1 hx]
    exact Nat.zero_le _
theorem first_small (g : Nat) : SmallR (firstR g) := by
  refine ⟨(show 1 < 1000000 by decide), (show 1 < 1000000 by decide), (show 1 < 1000000 by decide), ?_, (show 0 ≤ 1000000 by decide), ?_, ?_⟩
  · show (2 : Nat) < 1000000; decide
  · show (0 : Nat) ≤ 1000000; decide
  · simp [firstR]
end Go.Proofs.YtchcelodeepjdaaGreatDoor.Ln

namespace Go.Proofs.YtchcelodeepjdaaGreatDoor.Ln
open Go.RowKit Go.Shelf Go.Herb

def EqPost (xs ys : List Int) (w : World) (e : Ending) (w' : World) : Prop := ∃ q : Bool, e = .returned (.bool q) ∧ (q = true ↔ xs = ys) ∧ Below w.heap.size w w'
set_option maxRecDepth 100000 in
theorem equalB_any (a b : Option Addr) (ca cb n m : Nat) (xs ys : List Int) (w : World) (hx : Byt w a xs) (hy : Byt w b ys) (hn : xs.length = n) (hm : ys.length = m) (hl : n < 1000000000) :
    Calls Tryz.prog (46) #[.slice a n ca, .slice b m cb] w (EqPost xs ys w) := by
  have HX := Lib.hid hx
  have HY := Lib.hid hy
  have HN := Lib.hid hn
  have HM := Lib.hid hm
  have HB0 := Lib.hid (Below.refl w.heap.size w)
  clear hx hy hn hm
  go_enter Tryz.func46, Tryz.ntmps46
  go_wp2_with fail
  go_loopg [5] n (fun gk iv wr => ∃ k : Nat, k + gk = n ∧ iv = .int .i64 k ∧ Hid (xs.take k = ys.take k) ∧ Hid (Below w.heap.size w wr))
  case atStart => exact ⟨0, by omega, rfl, Lib.hid rfl, HB0⟩
  case round =>
    obtain ⟨k, hk, rfl, HE, HB⟩ := hrel
    by_cases hlt : k < n ∧ k < m
    · obtain ⟨hlt, hlm⟩ := hlt
      have hkx : k < xs.length := by have := HN.out; omega
      have hky : k < ys.length := by have := HM.out; omega
      obtain ⟨xb, xo, rfl, hxl, hxc⟩ := HX.out.get k hkx
      obtain ⟨yb, yo, rfl, hyl, hyc⟩ := HY.out.get k hky
      have c0 := (HB.out.cell (p := ⟨xb, _, none⟩) hxl).trans (hxc 0 _ rfl)
      have c1 := (HB.out.cell (p := ⟨yb, _, none⟩) hyl).trans (hyc 0 _ rfl)
      simp only [Nat.add_zero, Nat.mul_one] at c0 c1
      have HXE := Lib.hid (List.take_succ_eq_append_getElem hkx)
      have HYE := Lib.hid (List.take_succ_eq_append_getElem hky)
      have HXG := Lib.hid (List.getElem?_eq_getElem hkx)
      have HYG := Lib.hid (List.getElem?_eq_getElem hky)
      clear hxc hyc
      generalize xs[k] = x at *
      generalize ys[k] = y at *
      have i0 : (0 : Int) ≤ (k : Int) := by omega
      have i1 : (k : Int) < (n : Int) := by omega
      have i2 : (k : Int) < (m : Int) := by omega
      have hw1 : IntKind.i64.wrap ((k : Int) + 1) = (k : Int) + 1 := IntWalk.i64_in _ (by omega)
      by_cases hxy : x = y
      · have d1 : (x == y) = true := by rw [hxy]; exact beq_self_eq_true _
        have HE2 := Lib.hid (show xs.take (k + 1) = ys.take (k + 1) by rw [HXE.out, HYE.out, HE.out, hxy])
        clear hxy
        go_upto_region 4 with fail
        go_quiet (fail)
        have HBu := Lib.hid (show Below w.heap.size w (wr.drewN nq) from ⟨HB.out.os, HB.out.tape, HB.out.output, HB.out.size, HB.out.block⟩)
        go_wp2
        go_roundg (gk - 1)
        case measure => omega
        case rel => exact ⟨k + 1, by omega, by go_num, HE2, HBu⟩
      · have d1 : (x == y) = false := beq_eq_false_iff_ne.2 hxy
        have HNE := Lib.hid (show xs ≠ ys from fun h => hxy (by
          have := HXG.out
          rw [h, HYG.out] at this
          exact (Option.some.inj this).symm))
        clear hxy
        go_upto_region 4 with fail
        go_quiet (fail)
        have HBu := Lib.hid (show Below w.heap.size w (wr.drewN nq) from ⟨HB.out.os, HB.out.tape, HB.out.output, HB.out.size, HB.out.block⟩)
        go_wp2
        go_ret
        unfold EqPost
        exact ⟨false, rfl, ⟨(fun h => by cases h), fun h => absurd h HNE.out⟩, HBu.out⟩
    · have HT := Lib.hid (show n = m → xs = ys from fun hnm => by
        have := HE.out
        rwa [List.take_of_length_le (by have := HN.out; omega), List.take_of_length_le (by have := HM.out; omega)] at this)
      have HF := Lib.hid (show xs = ys → n = m from fun h => by rw [← HN.out, ← HM.out, h])
      by_cases h1 : k < n
      · have i1 : (k : Int) < (n : Int) := by omega
        have i2 : ¬ (k : Int) < (m : Int) := by omega
        have i3 : (n : Int) ≠ (m : Int) := by omega
        have d3 : ((n : Int) == (m : Int)) = false := beq_eq_false_iff_ne.2 i3
        have HNO := Lib.hid (show xs ≠ ys from fun h => by have := HF.out h; omega)
        go_wp2_with fail
        go_ret
        unfold EqPost
        exact ⟨false, rfl, ⟨(fun h => by cases h), fun h => absurd h HNO.out⟩, HB.out⟩
      · have i1 : ¬ (k : Int) < (n : Int) := by omega
        go_wp2_with fail
        go_ret
        unfold EqPost
        refine ⟨((n : Int) == (m : Int)), rfl, ?_, HB.out⟩
        rw [beq_iff_eq]
        exact ⟨fun h => HT.out (by omega), fun h => by rw [HF.out h]⟩
theorem sameBytes_any (a b : Option Addr) (ca cb n m : Nat) (xs ys : List Int) (w : World) (hx : Byt w a xs) (hy : Byt w b ys) (hn : xs.length = n) (hm : ys.length = m) (hl : n < 1000000000) :
    Calls Tryz.prog (18) #[.slice a n ca, .slice b m cb] w (EqPost xs ys w) := by
  have H := Lib.hid (equalB_any a b ca cb n m xs ys w hx hy hn hm hl)
  clear hx hy hn hm
  go_enter Tryz.func18, Tryz.ntmps18
  go_wp2_with (go_at_call 46; refine H.out.mono ?_; rintro e w' ⟨q, rfl, hq, hb⟩; have HQ := Lib.hid hq; have HB := Lib.hid hb; clear hq hb)
  go_ret
  unfold EqPost
  exact ⟨q, rfl, HQ.out, HB.out⟩
def firstL : List Int := [1, 0, 1, 2, 1, 4, 109, 97, 105, 110, 0, 0, 1, 0, 0, 1, 0, 0, 0]
theorem first_whole (g : Nat) : wholeL (firstR g).says = firstL := by
  simp [wholeL, headL, firstR, Rv.says, Vx.vsOf, numsL, brL, putT, strL, lnL, vcL, shL, mainB, putN_small, firstL, ByteArray.size]
theorem first_good (g : Nat) : GoodR (firstR g) := by
  refine ⟨⟨⟨rfl, List.pairwise_singleton _ _, fun i x hi hx => ?_⟩, (show 1 ≤ 48 by decide), ⟨fun x hx => ?_, List.pairwise_singleton _ _, fun x hx => ?_, ?_⟩, (show 1 ≤ 1 by decide), (show 1 ≤ 12 by decide)⟩, ⟨⟨List.pairwise_singleton _ _, fun x hx => ?_⟩, List.Perm.refl _, fun n hn => ?_, (show (1 : Int) < 2 by decide), ⟨?_, List.Pairwise.nil, List.nodup_nil, ?_⟩⟩⟩
  · rw [List.getElem?_eq_none (by show 1 ≤ i; omega)] at hx; cases hx
  · rw [List.mem_singleton.1 hx]; decide +kernel
  · rw [List.mem_singleton.1 hx]; exact ⟨0, rfl⟩
  · exact List.pairwise_singleton _ _
  · rw [List.mem_singleton.1 hx]; exact ⟨List.Pairwise.nil, fun q hq => by cases hq⟩
  · have : n ∈ [(0 : Int), 0] := hn
    simp at this
    rw [this]
    exact Int.le_refl _
  · intro s hs; cases hs
  · intro f hf; cases hf
end Go.Proofs.YtchcelodeepjdaaGreatDoor.Ln

namespace Go.Proofs.YtchcelodeepjdaaGreatDoor.Ln
open Go.RowKit Go.Shelf Go.Herb

def zeroR : Rv := ⟨0, 0, 0, none, 0, [], none, 0, [], none, 0, [], none, 0, []⟩
theorem zero_in (w : World) : RtIn w zeroR := by
  have u0 : U64 0 := u64_len (n := 0) (by decide)
  have m0 : (0 : Nat) ≤ maxLen := Nat.zero_le _
  exact ⟨u0, u0, u0, ⟨Els.nil _ _ _ _, fun _ => rfl, Nat.le_refl _, m0, fun x hx => by cases hx⟩, ⟨Els.nil _ _ _ _, fun _ => rfl, Nat.le_refl _, m0, fun x hx => by cases hx⟩, ⟨Els.nil _ _ _ _, (fun x hx => by cases hx), (fun x hx => by cases hx), m0, (fun x hx => by cases hx)⟩, ⟨Els.nil _ _ _ _, fun x hx => by cases hx⟩, Nat.le_refl _, m0, fun _ => rfl, ⟨Nat.le_refl _, m0⟩⟩
theorem zero_small : SmallR zeroR := ⟨(show 0 < 1000000 by decide), (show 0 < 1000000 by decide), (show 0 < 1000000 by decide), (show 0 < 1000000 by decide), (show 0 ≤ 1000000 by decide), (show 0 ≤ 1000000 by decide), fun s hs => by cases hs⟩
theorem zero_bad : ¬ GoodR zeroR := fun h => by
  have h1 : 1 ≤ 0 := h.1.b1
  omega
theorem checkZero_any (w : World) : Calls Tryz.prog (16) #[.agg #[.int .u64 0, .int .u64 0, .int .u64 0, .slice none 0 0, .slice none 0 0, .slice none 0 0, .slice none 0 0]] w fun e w' => e = .returned (.int .i64 4) ∧ Below w.heap.size w w' :=
  (check_any zeroR w (zero_in w) zero_small).mono (by
    rintro e w' ⟨n, rfl, ⟨-, h⟩ | ⟨rfl, -⟩, hb⟩
    · exact absurd h zero_bad
    · exact ⟨rfl, hb⟩)
theorem putFirst_any (g : Nat) (w : World) (h : FirstAt w g) : Calls Tryz.prog (17) #[rtV (firstR g), .pointer none] w (WholePost firstL w) := by
  have hw := first_whole g
  have hh : (headL (firstR g).says).length < 19 := by
    have h1 : (wholeL (firstR g).says).length = 19 := by rw [hw]; rfl
    have h2 : (shL (firstR g).says.sh).length = 1 := by
      show (shL []).length = 1
      simp [shL, numsL, putN_small]
    unfold wholeL at h1
    rw [List.length_cons, List.length_append, h2] at h1
    omega
  rw [← hw]
  refine putWhole_any (firstR g) w h.laid (first_small g) (first_good g) (by rw [hw]; decide) (fun p acc u hL hl hb hp => ?_) (by unfold shBound; omega)
  have e : shL (firstR g).says.sh = numsL [0] := by show shL [] = numsL [0]; simp [shL]
  rw [e]
  exact shelves_none p acc u hL (by unfold shBound at hl; omega)
/-- A literal's bytes. -/
theorem own_lit {w : World} {g B n : Nat} {xs : List Int} {cs : Array Value} (h : w.heap[g]? = some (.cells cs (5) (0, 0))) (hc : cs.toList = xs.flatMap nb) (hn : xs.length = n) (hB : B ≤ g) (hm : n ≤ maxLen) : OwnB B w (.slice (some ⟨g, 0, none⟩) n n) xs := by
  subst hn
  have hl : cs.size = xs.length := by
    rw [← Array.length_toList, hc, flatMap_len nb_len, Nat.mul_one]
  refine ⟨by rw [flatMap_len nb_len], .inr ⟨g, xs.length, cs, rfl, hB, h, Nat.le_refl _, hm, by rw [hl, Nat.mul_one], ?_⟩⟩
  rw [hc]
  exact List.take_of_length_le (by rw [flatMap_len nb_len]; exact Nat.le_refl _)
theorem els_cells {w : World} {g : Nat} {xs : List Int} {cs : Array Value} {t : TypeId} {fr : Nat × Nat} (h : w.heap[g]? = some (.cells cs t fr)) (hc : cs.toList = xs.flatMap nb) : Byt w (some ⟨g, 0, none⟩) xs :=
  ⟨fun i hi => by
    refine ⟨g, 0, rfl, lt_of_blk h, fun j c hj => ?_⟩
    rw [cell_of_blk h, ← Array.getElem?_toList, hc]
    have hj0 : j = 0 := by
      rcases Nat.eq_zero_or_pos j with h | h
      · exact h
      · rw [List.getElem?_eq_none (by rw [nb_len]; omega)] at hj; cases hj
    subst hj0
    have hfg := flatMap_get nb_len xs i 0 hi (by omega)
    rw [hj] at hfg
    rw [← hfg]
    congr 1
    omega⟩
theorem run_append_x (bd ad : Addr) (n k c : Nat) (ys xs : List Int) (w : World) (hb : Byt w (some bd) ys) (hn : ys.length = n) (hx : Byt w (some ad) xs) (hk : xs.length = k) (h0 : 0 < k) (hl : n + k < 1000000000) (ty : TypeId) :
    ∃ v' w', (Builtin.append_ #[(24), (24)] ty #[.slice (some bd) n n, .slice (some ad) k c]).run Tryz.prog w = .ok v' w' ∧ OwnB w.heap.size w' v' (ys ++ xs) ∧ Below w.heap.size w w' := by
  obtain ⟨i0, hin, hz0, hz1, hz2⟩ := info_parts infoB8
  have hyl : (ys.flatMap nb).length = n := by rw [flatMap_len nb_len, hn, Nat.mul_one]
  have hxl : (xs.flatMap nb).length = k := by rw [flatMap_len nb_len, hk, Nat.mul_one]
  have hr := run_append_grow (P := Tryz.prog) w (24) ty (5) i0 _ Tryz.underlying24 hin hz0 bd n n (ys.flatMap nb) (by rw [hyl, hz1, Nat.mul_one]) (hb.flat nb_len (by decide)) ad k c (xs.flatMap nb) (by rw [hxl, hz1, Nat.mul_one]) (hx.flat nb_len (by decide)) (by omega) (by omega) (growslice_fits (by omega) (by rw [hz2]; omega))
  have hge := grownCap_ge w (n + k) n (5)
  have hcm : grownCap w (n + k) n (5) ≤ maxLen := grownCap_le_maxLen w (n + k) n (5) (by unfold maxLen; omega)
  have hlen : (ys ++ xs).length = n + k := by rw [List.length_append, hn, hk]
  refine ⟨_, _, hr, ?_, ((Below.refl w.heap.size w).drew).alloc (by simp) _⟩
  unfold OwnB
  rw [hlen]
  refine ⟨by rw [flatMap_len nb_len, hlen], .inr ⟨w.heap.size, _, _, rfl, Nat.le_refl _, heap_alloc_new w.drew _, hge, hcm, ?_, ?_⟩⟩
  · have hz : ((Value.int IntKind.u8 0).cells).size = 1 := rfl
    simp only [Array.size_append, List.size_toArray, size_zeroCells, hz, hyl, hxl]
    omega
  · simp only [Array.toList_append, List.append_assoc]
    rw [List.flatMap_append, ← List.append_assoc]
    have e : (n + k) * 1 = (ys.flatMap nb ++ xs.flatMap nb).length := by rw [List.length_append, hyl, hxl, Nat.mul_one]
    rw [e]
    exact List.take_left
theorem wpList_append_w {P : Program} (w : World) {ops : Array Oper} {rest : List Oper} {o : Oper} {a : Act} {Q : Exit → Act → World → Prop} (hw : Region.wanted o (yielded ops a.tmps) = true) (s x : Operand) (t tn : TypeId)
    (ho : o.op = .call { callee := .builtin .append, args := #[s, x], argTypes := #[t, tn] }) (vs vx : Value) (hs : a.eval s = vs) (hx : a.eval x = vx)
    (v' : Value) (w' : World) (hr : (Builtin.append_ #[t, tn] o.type #[vs, vx]).run P w = .ok v' w') (h : wpList P ops Q rest (a.put o.dst v') w') : wpList P ops Q (o :: rest) a w := by
  show (if _ then _ else _)
  rw [if_pos hw]
  exact Or.inl (Lib.wp_append_run w s x t tn ho vs vx hs hx v' w' hr h)
def LivesPost (w : World) (e : Ending) (w' : World) : Prop := e = .returned (.bool true) ∧ Below w.heap.size w w'
set_option maxRecDepth 100000 in
set_option maxHeartbeats 2000000 in
theorem lives_any (w : World) : Calls Tryz.prog (9) #[] w (LivesPost w) := by
  have HB0 := Lib.hid (Below.refl w.heap.size w)
  have HF := Lib.hid foldNone_any
  have HP := Lib.hid putFirst_any
  go_enter Tryz.func9, Tryz.ntmps9
  go_upto_region 3 with (first
    | (go_at_call 23; refine (first_any _).mono ?_; rintro e w1 ⟨rfl, hF, hb⟩; have HF1 := Lib.hid hF; have HB1 := Lib.hid hb; clear hF hb)
    | (go_at_call 17; refine (HP.out _ _ HF1.out).mono ?_; rintro e w2 ⟨a, n, rfl, hn, hE, hb, -⟩; have HN := Lib.hid hn; have HE := Lib.hid hE; have HB2 := Lib.hid (HB1.out.trans (hb.mono HB1.out.size)); clear hn hE hb)
    | (go_at_call 11; refine (HF.out _).mono ?_; rintro e w3 ⟨rfl, hb⟩; have HE3 := Lib.hid (HE.out.ext hb); have HB3 := Lib.hid (HB2.out.trans (hb.mono HB2.out.size)); clear hb))
  obtain ⟨V, hV⟩ : ∃ V : World, V = w3.alloc (.cells #[.int .u64 0, .int .u64 0, .int .u64 0, .slice none 0 0, .slice none 0 0, .slice none 0 0, .slice none 0 0] (32)) := ⟨_, rfl⟩
  rw [← hV]
  have HBV := Lib.hid (show Below w.heap.size w V from by rw [hV]; exact HB3.out.alloc HB3.out.size _)
  have HEV := Lib.hid (show Byt V a firstL from by rw [hV]; exact HE3.out.ext ((Below.refl _ _).alloc (Nat.le_refl _) _))
  clear hV HE3 HB3 HE HB2 HF1 HB1
  obtain ⟨A1, hA1⟩ : ∃ A : World, A = V.alloc (.cells #[.int .u8 1, .int .u8 0, .int .u8 1, .int .u8 2, .int .u8 1, .int .u8 4] (5)) := ⟨_, rfl⟩
  obtain ⟨A2, hA2⟩ : ∃ A : World, A = A1.alloc (.cells #[.int .u8 109, .int .u8 97, .int .u8 105, .int .u8 110] (5) (4, 5)) := ⟨_, rfl⟩
  obtain ⟨A3, hA3⟩ : ∃ A : World, A = A2.alloc (.cells #[.int .u8 0, .int .u8 0, .int .u8 1, .int .u8 0, .int .u8 0, .int .u8 1, .int .u8 0, .int .u8 0, .int .u8 0] (5)) := ⟨_, rfl⟩
  have z1 : A1.heap.size = V.heap.size + 1 := by rw [hA1]; simp
  have z2 : A2.heap.size = V.heap.size + 1 + 1 := by rw [hA2]; simp [z1]
  have z3 : A3.heap.size = V.heap.size + 1 + 1 + 1 := by rw [hA3]; simp [z2]
  have hBA1 : Below V.heap.size V A1 := by rw [hA1]; exact (Below.refl _ _).alloc (Nat.le_refl _) _
  have hBA2 : Below A1.heap.size A1 A2 := by rw [hA2]; exact (Below.refl _ _).alloc (Nat.le_refl _) _
  have hBA3 : Below A2.heap.size A2 A3 := by rw [hA3]; exact (Below.refl _ _).alloc (Nat.le_refl _) _
  have hx1 : A1.heap[V.heap.size]? = some (.cells #[.int .u8 1, .int .u8 0, .int .u8 1, .int .u8 2, .int .u8 1, .int .u8 4] (5) (0, 0)) := by rw [hA1]; exact blk_new_at rfl _
  have hx2 : A2.heap[V.heap.size + 1]? = some (.cells #[.int .u8 109, .int .u8 97, .int .u8 105, .int .u8 110] (5) (4, 5)) := by rw [hA2]; exact blk_new_at z1.symm _
  have hx3 : A3.heap[V.heap.size + 1 + 1]? = some (.cells #[.int .u8 0, .int .u8 0, .int .u8 1, .int .u8 0, .int .u8 0, .int .u8 1, .int .u8 0, .int .u8 0, .int .u8 0] (5) (0, 0)) := by rw [hA3]; exact blk_new_at z2.symm _
  have hx1' := blk_below (blk_below hx1 hBA2 (by omega)) hBA3 (by omega)
  have hx2' := blk_below hx2 hBA3 (by omega)
  have mx : (10 : Nat) ≤ maxLen := by unfold maxLen; decide
  have hO1 : OwnB V.heap.size A3 (.slice (some ⟨V.heap.size, 0, none⟩) 6 6) [(1 : Int), (0 : Int), (1 : Int), (2 : Int), (1 : Int), (4 : Int)] := own_lit hx1' rfl rfl (Nat.le_refl _) (Nat.le_trans (by decide) mx)
  have hE2 : Byt A3 (some ⟨V.heap.size + 1, 0, none⟩) [(109 : Int), (97 : Int), (105 : Int), (110 : Int)] := els_cells hx2' rfl
  have hE3 : Byt A3 (some ⟨V.heap.size + 1 + 1, 0, none⟩) [(0 : Int), (0 : Int), (1 : Int), (0 : Int), (0 : Int), (1 : Int), (0 : Int), (0 : Int), (0 : Int)] := els_cells hx3 rfl
  obtain ⟨v1, B1, hr1, hP1, hg1⟩ := run_append_x ⟨V.heap.size + 1, 0, none⟩ ⟨V.heap.size + 1 + 1, 0, none⟩ 4 9 9 [(109 : Int), (97 : Int), (105 : Int), (110 : Int)] [(0 : Int), (0 : Int), (1 : Int), (0 : Int), (0 : Int), (1 : Int), (0 : Int), (0 : Int), (0 : Int)] A3 hE2 rfl hE3 rfl (by decide) (by decide) (24)
  have hQ1 : OwnB V.heap.size B1 (.slice (some ⟨V.heap.size, 0, none⟩) 6 6) [(1 : Int), (0 : Int), (1 : Int), (2 : Int), (1 : Int), (4 : Int)] := ownsRow_below hO1 hg1 (Nat.le_refl _)
  obtain ⟨a1, c1, hv1, -, hF1⟩ := els_of_owns nb_len hP1
  obtain ⟨ad1, had1⟩ : ∃ ad, a1 = some ad := by
    obtain ⟨b, o, h, -⟩ := hF1.get 0 (by decide)
    exact ⟨_, h⟩
  subst had1
  have hv1' : v1 = .slice (some ad1) 13 c1 := hv1
  subst hv1'
  have hz4 : V.heap.size ≤ B1.heap.size := by have := hg1.size; omega
  obtain ⟨v2, B2, hr2, hP2, hg2⟩ := run_append_b B1 V.heap.size _ [(1 : Int), (0 : Int), (1 : Int), (2 : Int), (1 : Int), (4 : Int)] ad1 13 c1 ([(109 : Int), (97 : Int), (105 : Int), (110 : Int)] ++ [(0 : Int), (0 : Int), (1 : Int), (0 : Int), (0 : Int), (1 : Int), (0 : Int), (0 : Int), (0 : Int)]) rfl hQ1 hF1 (by decide) hz4 (24)
  obtain ⟨a2, c2, hv2, -, hF2⟩ := els_of_owns nb_len hP2
  have hv2' : v2 = .slice a2 19 c2 := hv2
  subst hv2'
  have hBB : Below V.heap.size V B2 := by
    have hA : Below V.heap.size V A3 := (hBA1.trans (hBA2.mono (by omega))).trans (hBA3.mono (by omega))
    have hB : Below V.heap.size V B1 := hA.trans (hg1.mono (by omega))
    exact hB.grown hg2 hB.size (fun k e => by simp [Value.ownBlock] at e; omega)
  have HSB := Lib.hid (sameBytes_any a a2 n c2 n 19 firstL firstL B2 (HEV.out.ext hBB) hF2 HN.out.symm rfl (by rw [HN.out]; decide))
  have HBB := Lib.hid (HBV.out.trans (hBB.mono HBV.out.size))
  have hcv := Lib.run_convert_bytes_const (P := Tryz.prog) A1 (24) (5) #[.int .u8 109, .int .u8 97, .int .u8 105, .int .u8 110] 4 4 Tryz.underlying24 Tryz.underlying5
  rw [z1, hA1] at hcv
  have hcs : (#[.int .u8 109, .int .u8 97, .int .u8 105, .int .u8 110] : Array Value).size = 4 := rfl
  rw [hcs] at hcv
  rw [hA3, hA2, hA1] at hr1
  clear hA1 hA2 hA3 z1 z2 z3 hBA1 hBA2 hBA3 hx1 hx2 hx3 hx1' hx2' hO1 hE2 hE3 hP1 hcs hg1 hQ1 hF1 hz4 hP2 hg2 hF2 hBB hv1 hv2 mx
  go_wp2_with (first
    | (at_builtin; refine wpList_append_w _ (by rfl) _ _ _ _ rfl _ _ rfl rfl _ _ hr1 ?_; clear hr1 hcv)
    | (at_builtin; refine wpList_append_w _ (by rfl) _ _ _ _ rfl _ _ rfl rfl _ _ hr2 ?_; clear hr2)
    | (go_at_call 18; refine HSB.out.mono ?_; rintro e w4 ⟨q, rfl, hq, hb⟩; have hq1 : q = true := hq.2 rfl; subst hq1; have HB4 := Lib.hid (HBB.out.trans (hb.mono HBB.out.size)); clear hq hb)
    | (go_at_call 16; refine (checkZero_any _).mono ?_; rintro e w5 ⟨rfl, hb⟩; have HB5 := Lib.hid (HB4.out.trans (hb.mono HB4.out.size)); clear hb))
  go_ret
  exact ⟨rfl, HB5.out⟩
end Go.Proofs.YtchcelodeepjdaaGreatDoor.Ln

namespace Go.Proofs.YtchcelodeepjdaaGreatDoor.Ln
open Go.RowKit Go.Shelf Go.Herb

/-- What is gone through. -/
structure NotGreat (r : Rv) : Prop where
  bs : r.bs.length ≤ 30
  ls : r.ls.length ≤ 80
  vs : r.vs.length ≤ 30
  sh : r.sh.length ≤ 30
  pts : ∀ x ∈ r.vs, x.ps.length ≤ 60
  lev : ∀ s ∈ r.sh, ∀ l ∈ s.lv, l.ts.length ≤ 30
def GreatRP (r : Rv) (w : World) (e : Ending) (w' : World) : Prop := ∃ q : Bool, e = .returned (.bool q) ∧ (q = false → NotGreat r) ∧ Below w.heap.size w w'
set_option maxRecDepth 100000 in
set_option maxHeartbeats 4000000 in
theorem greatR_any (r : Rv) (w : World) (h : RtIn w r) : Calls Tryz.prog (15) #[rtV r] w (GreatRP r w) := by
  obtain ⟨nb, hnb⟩ : ∃ n, n = r.bs.length := ⟨_, rfl⟩
  obtain ⟨nl, hnl⟩ : ∃ n, n = r.ls.length := ⟨_, rfl⟩
  obtain ⟨nv, hnv⟩ : ∃ n, n = r.vs.length := ⟨_, rfl⟩
  obtain ⟨ns, hns⟩ : ∃ n, n = r.sh.length := ⟨_, rfl⟩
  have hrt : rtV r = .agg #[.int .u64 r.seq, .int .u64 r.log, .int .u64 r.next, .slice r.ba nb r.bc, .slice r.la nl r.lc, .slice r.va nv r.vc, .slice r.sa ns r.sc] := by rw [hnb, hnl, hnv, hns]
  obtain ⟨W, hW⟩ : ∃ W : World, W = w.alloc (.cells #[.int .u64 r.seq, .int .u64 r.log, .int .u64 r.next, .slice r.ba nb r.bc, .slice r.la nl r.lc, .slice r.va nv r.vc, .slice r.sa ns r.sc] (32)) := ⟨_, rfl⟩
  have hB : Below w.heap.size w W := by rw [hW]; exact (Below.refl _ _).alloc (Nat.le_refl _) _
  have hx0 : W.heap[w.heap.size]? = some (.cells #[.int .u64 r.seq, .int .u64 r.log, .int .u64 r.next, .slice r.ba nb r.bc, .slice r.la nl r.lc, .slice r.va nv r.vc, .slice r.sa ns r.sc] (32) (0, 0)) := by rw [hW]; exact blk_new_at rfl _
  have HB := Lib.hid hB
  have HW := Lib.hid hW
  have HN := Lib.hid (show nb = r.bs.length ∧ nl = r.ls.length ∧ nv = r.vs.length ∧ ns = r.sh.length from ⟨hnb, hnl, hnv, hns⟩)
  have HVC := Lib.hid (vinE h.vcs hB)
  have HSC := Lib.hid (h.shs.ext hB)
  have HVL := Lib.hid (show nv ≤ maxLen from by rw [hnv]; exact h.vcs.len)
  have HSL := Lib.hid (show ns ≤ maxLen from by rw [hns]; exact Nat.le_trans h.sl h.sm)
  have HYES := Lib.hid (show ∀ u, Below W.heap.size W u → GreatRP r w (.returned (.bool true)) u from fun u hu => ⟨true, rfl, (fun h => by cases h), hB.trans (hu.mono hB.size)⟩)
  have HC : Hid (∀ u, Below W.heap.size W u → u.cell? ⟨w.heap.size, 3, none⟩ = some (.slice r.ba nb r.bc) ∧ u.cell? ⟨w.heap.size, 4, none⟩ = some (.slice r.la nl r.lc) ∧ u.cell? ⟨w.heap.size, 5, none⟩ = some (.slice r.va nv r.vc) ∧ u.cell? ⟨w.heap.size, 6, none⟩ = some (.slice r.sa ns r.sc)) := Lib.hid (fun u hu => by
    have hq := blk_below hx0 hu (lt_of_blk hx0)
    have q3 := cell_of_blk hq 3
    have q4 := cell_of_blk hq 4
    have q5 := cell_of_blk hq 5
    have q6 := cell_of_blk hq 6
    simp at q3 q4 q5 q6
    exact ⟨q3, q4, q5, q6⟩)
  have hRB := Lib.hid (Below.refl W.heap.size W)
  rw [hrt]
  obtain ⟨c3, c4, c5, c6⟩ := HC.out W (Below.refl _ _)
  clear h hB hx0 hnb hnl hnv hns hrt hW
  go_enter Tryz.func15, Tryz.ntmps15
  by_cases h1 : 30 < nb
  · have h1' : (nb : Int) > 30 := by omega
    have hd : decide ((30 : Int) < (nb : Int)) = true := decide_eq_true (by omega)
    go_wp2_with fail
    go_ret
    rw [← HW.out]
    exact HYES.out _ hRB.out
  have h1' : ¬ (nb : Int) > 30 := by omega
  have e1 : decide ((30 : Int) < (nb : Int)) = false := decide_eq_false (by omega)
  by_cases h2 : 80 < nl
  · have h2' : (nl : Int) > 80 := by omega
    have hd : decide ((80 : Int) < (nl : Int)) = true := decide_eq_true (by omega)
    go_wp2_with fail
    go_ret
    rw [← HW.out]
    exact HYES.out _ hRB.out
  have h2' : ¬ (nl : Int) > 80 := by omega
  have e2 : decide ((80 : Int) < (nl : Int)) = false := decide_eq_false (by omega)
  by_cases h3 : 30 < nv
  · have h3' : (nv : Int) > 30 := by omega
    have hd : decide ((30 : Int) < (nv : Int)) = true := decide_eq_true (by omega)
    go_wp2_with fail
    go_ret
    rw [← HW.out]
    exact HYES.out _ hRB.out
  have h3' : ¬ (nv : Int) > 30 := by omega
  have e3 : decide ((30 : Int) < (nv : Int)) = false := decide_eq_false (by omega)
  by_cases h4 : 30 < ns
  · have h4' : (ns : Int) > 30 := by omega
    have hd : decide ((30 : Int) < (ns : Int)) = true := decide_eq_true (by omega)
    go_wp2_with fail
    go_ret
    rw [← HW.out]
    exact HYES.out _ hRB.out
  have h4' : ¬ (ns : Int) > 30 := by omega
  have e4 : decide ((30 : Int) < (ns : Int)) = false := decide_eq_false (by omega)
  go_wp2_with fail
  rw [← HW.out]
  have HNN := Lib.hid (show nb ≤ 30 ∧ nl ≤ 80 ∧ nv ≤ 30 ∧ ns ≤ 30 from ⟨by omega, by omega, by omega, by omega⟩)
  clear HW e1 e2 e3 e4 h1' h2' h3' h4' h1 h2
  go_loopg [3] nv (fun gk iv wr => ∃ i : Nat, i + gk = nv ∧ iv = .int .i64 i ∧ wr = W ∧ Hid (∀ x ∈ r.vs.take i, x.ps.length ≤ 60))
  case atStart => exact ⟨0, by omega, rfl, rfl, Lib.hid (by simp)⟩
  case round =>
    obtain ⟨i, hi, rfl, rfl, HA⟩ := hrel
    by_cases hlt : i < nv
    · have hil : i < r.vs.length := by have := HN.out.2.2.1; omega
      obtain ⟨b, o, hva, hlb, hc⟩ := HVC.out.els.get i hil
      have HTK := Lib.hid (List.take_succ_eq_append_getElem hil)
      have HLN := Lib.hid (HVC.out.lens _ (List.getElem_mem hil))
      generalize r.vs[i] = x at hc HTK HLN
      have g1 := hc 1 _ rfl
      obtain ⟨q, hq⟩ : ∃ q, q = x.ps.length := ⟨_, rfl⟩
      rw [← hq] at g1
      have HQ := Lib.hid hq
      clear hc hq
      have i0 : (0 : Int) ≤ (i : Int) := by omega
      have i1 : (i : Int) < (nv : Int) := by omega
      have hw1 : IntKind.i64.wrap ((i : Int) + 1) = (i : Int) + 1 := IntWalk.i64_in _ (by omega)
      have c5' := c5
      rw [hva] at c5'
      by_cases h6 : 60 < q
      · have h6' : (q : Int) > 60 := by omega
        have hd : decide ((60 : Int) < (q : Int)) = true := decide_eq_true (by omega)
        clear c5
        go_wp2_with fail
        go_ret
        exact HYES.out _ hRB.out
      · have h6' : ¬ (q : Int) > 60 := by omega
        have hd : decide ((60 : Int) < (q : Int)) = false := decide_eq_false (by omega)
        have HA2 := Lib.hid (show ∀ x ∈ r.vs.take (i + 1), x.ps.length ≤ 60 from by
          rw [HTK.out]
          intro y hy
          rcases List.mem_append.1 hy with h | h
          · exact HA.out y h
          · rw [List.mem_singleton.1 h, ← HQ.out]; omega)
        clear c5
        go_wp2_with fail
        rw [← hva]
        go_roundg (gk - 1)
        case measure => omega
        case rel => exact ⟨i + 1, by omega, by go_num, rfl, HA2⟩
    have i1 : ¬ (i : Int) < (nv : Int) := by omega
    have HPT := Lib.hid (show ∀ x ∈ r.vs, x.ps.length ≤ 60 from by
      have := HA.out
      rwa [List.take_of_length_le (by have := HN.out.2.2.1; omega)] at this)
    clear HA
    go_wp2_with fail
    go_loopg [4] ns (fun gk iv w9 => ∃ j : Nat, j + gk = ns ∧ iv = .int .i64 j ∧ w9 = wr ∧ Hid (∀ s ∈ r.sh.take j, ∀ l ∈ s.lv, l.ts.length ≤ 30))
    case atStart => exact ⟨0, by omega, rfl, rfl, Lib.hid (by simp)⟩
    case round =>
      obtain ⟨j, hj, rfl, rfl, HS⟩ := hrel
      by_cases hltj : j < ns
      · have hjl : j < r.sh.length := by have := HN.out.2.2.2; omega
        obtain ⟨b, o, hsa, hlb, hc⟩ := HSC.out.els.get j hjl
        have HTK := Lib.hid (List.take_succ_eq_append_getElem hjl)
        generalize r.sh[j] = s at hc HTK
        have HG := Lib.hid (show ∀ (k : Nat), k < 3 → ∃ l, s.lv[k]? = some l ∧ wr.cell? ⟨b, o + j * 4 + 1 + k, none⟩ = some (lvV l) from fun k hk => by
          match k, hk with
          | 0, _ => exact ⟨_, rfl, hc 1 _ rfl⟩
          | 1, _ => exact ⟨_, rfl, hc 2 _ rfl⟩
          | 2, _ => exact ⟨_, rfl, hc 3 _ rfl⟩)
        have HSA := Lib.hid hsa
        rw [hsa] at c6 ⊢
        clear hc hsa
        have j0 : (0 : Int) ≤ (j : Int) := by omega
        have j1 : (j : Int) < (ns : Int) := by omega
        have hw1 : IntKind.i64.wrap ((j : Int) + 1) = (j : Int) + 1 := IntWalk.i64_in _ (by omega)
        obtain ⟨g9, hg9⟩ : ∃ g9, g9 = gk := ⟨_, rfl⟩
        rw [← hg9] at hj
        have HG9 := Lib.hid hg9
        clear hg9
        go_wp2_with fail
        go_loopg [5] 3 (fun gk kv w9 => ∃ k : Nat, k + gk = 3 ∧ kv = .int .i64 k ∧ w9 = wr ∧ Hid (∀ q l, q < k → s.lv[q]? = some l → l.ts.length ≤ 30))
        case atStart => exact ⟨0, rfl, rfl, rfl, Lib.hid (fun q l h => by omega)⟩
        case round =>
          obtain ⟨k, hk, rfl, rfl, HK⟩ := hrel
          by_cases hltk : k < 3
          · obtain ⟨l, hl, hlc⟩ := HG.out k hltk
            have HL := Lib.hid hl
            clear hl
            obtain ⟨q, hq⟩ : ∃ q, q = l.ts.length := ⟨_, rfl⟩
            have hlc2 : wr.cell? ⟨b, o + j * 4 + 1 + k, none⟩ = some (.slice l.a q l.cap) := by rw [hq]; exact hlc
            have HQ := Lib.hid hq
            clear hq hlc
            have k0 : (0 : Int) ≤ (k : Int) := by omega
            have k1 : (k : Int) < 3 := by omega
            have hw2 : IntKind.i64.wrap ((k : Int) + 1) = (k : Int) + 1 := IntWalk.i64_in _ (by omega)
            by_cases h6 : 30 < q
            · have h6' : (q : Int) > 30 := by omega
              have hd : decide ((30 : Int) < (q : Int)) = true := decide_eq_true (by omega)
              go_wp2_with fail
              go_ret
              exact HYES.out _ hRB.out
            · have h6' : ¬ (q : Int) > 30 := by omega
              have hd : decide ((30 : Int) < (q : Int)) = false := decide_eq_false (by omega)
              have HK2 := Lib.hid (show ∀ p l, p < k + 1 → s.lv[p]? = some l → l.ts.length ≤ 30 from fun p x hp hx => by
                rcases Nat.lt_or_eq_of_le (Nat.le_of_lt_succ hp) with h | h
                · exact HK.out p x h hx
                · subst h
                  rw [HL.out] at hx
                  cases hx
                  rw [← HQ.out]
                  omega)
              go_wp2_with fail
              go_roundg (gk - 1)
              case measure => omega
              case rel => exact ⟨k + 1, by omega, by go_num, rfl, HK2⟩
          · have k1 : ¬ (k : Int) < 3 := by omega
            have HS2 := Lib.hid (show ∀ s ∈ r.sh.take (j + 1), ∀ l ∈ s.lv, l.ts.length ≤ 30 from by
              rw [HTK.out]
              intro y hy l hl
              rcases List.mem_append.1 hy with h | h
              · exact HS.out y h l hl
              · rw [List.mem_singleton.1 h] at hl
                obtain ⟨q, hq, rfl⟩ := List.getElem_of_mem hl
                exact HK.out q _ (by have h3 : s.lv.length = 3 := rfl; omega) (List.getElem?_eq_getElem hq))
            go_wp2_with fail
            rw [← HSA.out]
            go_roundg (g9 - 1)
            case measure => have := HG9.out; omega
            case rel => exact ⟨j + 1, by omega, by go_num, rfl, HS2⟩
      · have j1 : ¬ (j : Int) < (ns : Int) := by omega
        have HE := Lib.hid (show GreatRP r w (.returned (.bool false)) wr from ⟨false, rfl, fun _ => ⟨by have := HN.out.1; have := HNN.out.1; omega, by have := HN.out.2.1; have := HNN.out.2.1; omega, by have := HN.out.2.2.1; have := HNN.out.2.2.1; omega, by have := HN.out.2.2.2; have := HNN.out.2.2.2; omega, HPT.out, by
          have := HS.out
          rwa [List.take_of_length_le (by have := HN.out.2.2.2; omega)] at this⟩, HB.out⟩)
        go_wp2_with fail
        go_ret
        exact HE.out
end Go.Proofs.YtchcelodeepjdaaGreatDoor.Ln

namespace Go.Proofs.YtchcelodeepjdaaGreatDoor.Ln
open Go.RowKit Go.Shelf Go.Herb

/-- Nearly what is gone through. -/
structure Few (r : Rv) : Prop where
  bs : r.bs.length ≤ 30
  ls : r.ls.length ≤ 80
  vs : r.vs.length ≤ 30
  sh : r.sh.length ≤ 31
  pts : ∀ x ∈ r.vs, x.ps.length ≤ 60
  lev : ∀ s ∈ r.sh, ∀ l ∈ s.lv, l.ts.length ≤ 30
theorem NotGreat.few {r : Rv} (h : NotGreat r) : Few r := ⟨h.bs, h.ls, h.vs, Nat.le_trans h.sh (by decide), h.pts, h.lev⟩
theorem filesS_len {s : Sv} (h : ∀ l ∈ s.lv, l.ts.length ≤ 30) : (filesS s.says).length ≤ 90 := by
  have h0 := h s.l0 (by simp [Sv.lv])
  have h1 := h s.l1 (by simp [Sv.lv])
  have h2 := h s.l2 (by simp [Sv.lv])
  unfold filesS Sv.says
  simp only [List.length_map, List.flatten_cons, List.flatten_nil, List.append_nil, List.length_append]
  omega
theorem Few.small {r : Rv} (h : Few r) : SmallR r := by
  refine ⟨by have := h.bs; omega, by have := h.ls; omega, by have := h.vs; omega, ?_, by have := h.sh; omega, ?_, fun s hs l hl => by have := h.lev s hs l hl; omega⟩
  · have e := flat_len (f := fun v : Vx.Vc => v.ps.map (·.2)) (M := 60) (l := r.vs) (fun x hx => by rw [List.length_map]; exact h.pts x hx)
    have h1 := h.bs
    have h2 := h.ls
    have h3 : r.vs.length * 60 ≤ 30 * 60 := Nat.mul_le_mul_right _ h.vs
    unfold numsR
    simp only [List.length_append, List.length_map] at e ⊢
    omega
  · have e := flat_len (f := filesS) (M := 90) (l := r.sh.map Sv.says) (fun x hx => by obtain ⟨s, hs, rfl⟩ := List.mem_map.1 hx; exact filesS_len (h.lev s hs))
    have h3 : (r.sh.map Sv.says).length * 90 ≤ 31 * 90 := Nat.mul_le_mul_right _ (by rw [List.length_map]; exact h.sh)
    unfold filesL
    omega
theorem RtIn.ext {w w' : World} {r : Rv} (h : RtIn w r) (hB : Below w.heap.size w w') : RtIn w' r :=
  ⟨h.seq, h.log, h.next, ⟨h.brs.els.ext hB, h.brs.nil, h.brs.le, h.brs.max, h.brs.all⟩, ⟨h.lns.els.ext hB, h.lns.nil, h.lns.le, h.lns.max, h.lns.all⟩, vinE h.vcs hB, h.shs.ext hB, h.sl, h.sm, h.sn, h.vl⟩
end Go.Proofs.YtchcelodeepjdaaGreatDoor.Ln
