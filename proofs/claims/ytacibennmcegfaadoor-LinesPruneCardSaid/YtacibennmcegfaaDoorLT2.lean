/- slices.IndexFunc, DeleteFunc at lines, in a row of one's own. Condition: fewer than 1000000 lines. -/
import Derived.Test.YtacibennmcegfaaDoorLT1
namespace Go.Herb
open Go.RowKit
theorem set_two {α : Type} (A M T : List α) (k : Nat) (a b : α) (hA : A.length = k) (hM : 2 ≤ M.length) : (((A ++ (M ++ T)).toArray.setIfInBounds k a).setIfInBounds (k + 1) b) = (A ++ (a :: b :: (M.drop 2 ++ T))).toArray := by
  match M, hM with
  | m0 :: m1 :: M, _ =>
    subst hA
    simp
theorem filter_take_succ {α : Type} (p : α → Bool) (ls : List α) (k : Nat) (h : k < ls.length) : (ls.take (k + 1)).filter p = (ls.take k).filter p ++ if p ls[k] then [ls[k]] else [] := by
  rw [List.take_succ_eq_append_getElem h, List.filter_append]
  congr 1
  cases hp : p ls[k] <;> simp [hp]
end Go.Herb
namespace Go.Proofs.YtacibennmcegfaaDoor
open Go.RowKit Go.Shelf Go.Herb

/-- A predicate, as a function value, in whatever world in which but one row has turned. -/
def PredL (h kb : Nat) (p : Ln → Bool) (w : World) : Prop := ∀ (u : World) (x : Ln), TurnI h w u → Calls Tryd.prog 43 #[.agg #[.int .u64 x.1, .int .u64 x.2], .pointer (some ⟨kb, 0, none⟩)] u fun e w' => e = .returned (.bool (p x)) ∧ Below u.heap.size u w'
def IdxPost (ls : List Ln) (p : Ln → Bool) (w : World) (e : Ending) (w' : World) : Prop :=
  ∃ r : Int, e = .returned (.int .i64 r) ∧ Hid ((r = -1 ∧ ∀ x ∈ ls, p x = false) ∨ (∃ (i : Nat) (x : Ln), r = i ∧ ls[i]? = some x ∧ p x = true ∧ ∀ y ∈ ls.take i, p y = false)) ∧ Below w.heap.size w w'
set_option maxRecDepth 100000 in
theorem indexFunc_any (h kb c n : Nat) (p : Ln → Bool) (ls : List Ln) (w : World) (hh : w.heap[h]? = some (.cells (ls.flatMap lnc).toArray (36) (0, 0))) (hn : ls.length = n) (hn1 : n < 1000000) (hp : PredL h kb p w) :
    Calls Tryd.prog 52 #[.slice (some ⟨h, 0, none⟩) n c, .func (.func 43) #[] #[.pointer (some ⟨kb, 0, none⟩)]] w (IdxPost ls p w) := by
  have HE := Lib.hid (show Lns w (some ⟨h, 0, none⟩) ls from els_of_blk lnc_len hh)
  have HP := Lib.hid hp
  have HN := Lib.hid hn
  clear hh hn hp
  go_enter Tryd.func52, Tryd.ntmps52
  go_wp2_with fail
  go_loopg [8] n (fun gk iv wr => ∃ i : Nat, i + gk = n ∧ iv = .int .i64 i ∧ Hid (∀ y ∈ ls.take i, p y = false) ∧ Hid (Below w.heap.size w wr))
  case atStart => exact ⟨0, by omega, rfl, Lib.hid (by simp), Lib.hid (Below.refl _ _)⟩
  case round =>
    obtain ⟨i, hi, rfl, HX, HB⟩ := hrel
    by_cases hlt : i < n
    · have hil : i < ls.length := by have := HN.out; omega
      obtain ⟨b, o, he, hlb, hcx⟩ := HE.out.get i hil
      injection he with he
      injection he with e1 e2
      subst e1 e2
      have HTK := Lib.hid (List.take_succ_eq_append_getElem hil)
      have HMM := Lib.hid (List.getElem?_eq_getElem hil)
      generalize ls[i] = x at hcx HTK HMM
      have g0 := (HB.out.cell (p := ⟨_, _, none⟩) hlb).trans (hcx 0 _ rfl)
      have g1 := (HB.out.cell (p := ⟨_, _, none⟩) hlb).trans (hcx 1 _ rfl)
      simp only [Nat.zero_add, Nat.add_zero] at g0 g1
      have i0 : (0 : Int) ≤ (i : Int) := by omega
      have i1 : (i : Int) < (n : Int) := by omega
      have iw : IntKind.i64.wrap ((i : Int) + 1) = (i : Int) + 1 := IntWalk.i64_in _ (by omega)
      have HCP := Lib.hid (HP.out wr x (TurnI.of_below (by exact ⟨HB.out.os, HB.out.tape, HB.out.output, HB.out.size, HB.out.block⟩)))
      clear hcx
      cases hq : p x with
      | true =>
        have HR := Lib.hid (show ((i : Int) = -1 ∧ ∀ x ∈ ls, p x = false) ∨ (∃ (j : Nat) (x : Ln), (i : Int) = j ∧ ls[j]? = some x ∧ p x = true ∧ ∀ y ∈ ls.take j, p y = false) from .inr ⟨i, x, rfl, HMM.out, hq, HX.out⟩)
        rw [hq] at HCP
        clear hq
        go_wp2_with (go_at_call 43; refine HCP.out.mono ?_; rintro e w3 ⟨rfl, hB3⟩; have HB3 := Lib.hid (HB.out.trans (hB3.mono HB.out.size)); clear hB3)
        go_ret
        exact ⟨_, rfl, HR, HB3.out⟩
      | false =>
        have HX2 := Lib.hid (show ∀ y ∈ ls.take (i + 1), p y = false from by
          rw [HTK.out]
          intro y hy
          rcases List.mem_append.1 hy with h1 | h1
          · exact HX.out y h1
          · rw [List.mem_singleton.1 h1]; exact hq)
        rw [hq] at HCP
        clear hq
        go_wp2_with (go_at_call 43; refine HCP.out.mono ?_; rintro e w3 ⟨rfl, hB3⟩; have HB3 := Lib.hid (HB.out.trans (hB3.mono HB.out.size)); clear hB3)
        go_roundg (gk - 1)
        case measure => omega
        case rel => exact ⟨i + 1, by omega, by go_num, HX2, HB3⟩
    · have h1 : ¬ (i : Int) < (n : Int) := by omega
      have HA := Lib.hid (show ∀ x ∈ ls, p x = false from by have := HX.out; rwa [List.take_of_length_le (by have := HN.out; omega)] at this)
      go_wp2_with fail
      go_ret
      exact ⟨_, rfl, Lib.hid (.inl ⟨rfl, HA.out⟩), HB.out⟩
def DelPost (h c : Nat) (ls : List Ln) (p : Ln → Bool) (w : World) (e : Ending) (w' : World) : Prop :=
  ∃ R : List Value, e = .returned (.slice (some ⟨h, 0, none⟩) (ls.filter (fun x => !p x)).length c) ∧ w'.heap[h]? = some (.cells ((ls.filter (fun x => !p x)).flatMap lnc ++ R).toArray (36) (0, 0)) ∧ TurnI h w w'
theorem zeroL : ∀ w, (zeroValue (36)).run Tryd.prog w = .ok (.agg #[.int .u64 0, .int .u64 0]) w := Tryd.zeroValue36
/-- The row as the loop has it. -/
structure DelRow (h : Nat) (ls : List Ln) (p : Ln → Bool) (i j : Nat) (w wr : World) : Prop where
  row : ∃ M : List Value, M.length = (j - i) * 2 ∧ wr.heap[h]? = some (.cells (((ls.take j).filter (fun x => !p x)).flatMap lnc ++ (M ++ (ls.drop j).flatMap lnc)).toArray (36) (0, 0))
  len : ((ls.take j).filter (fun x => !p x)).length = i
  lt : i < j
  le : j ≤ ls.length
  turn : TurnI h w wr
theorem slice_loLn {g n c k : Nat} (hk : k ≤ c) (h0 : 0 < c) : ∀ W, (Instr.slice (23) (.slice (some ⟨g, 0, none⟩) n c) none (some (.int .i64 (k : Int))) none).run Tryd.prog W = .ok (.slice (some ⟨g, 0, none⟩) k c) W := fun W => by
  have h1 : c ≠ 0 := by omega
  rw [run_slice_h (P := Tryd.prog) W (23) (some ⟨g, 0, none⟩) n c (by kernel_rfl) .i64 k (by omega) (by omega)]
  rw [show Tryd.prog.elem (23) = (36) from by kernel_rfl, Tryd.sizeOf36]
  simp [sliced, Result.andThen, addr_add, h1]
theorem slice_hiLn {g n c i : Nat} (hi : i ≤ n) (hc : i < c) : ∀ W, (Instr.slice (23) (.slice (some ⟨g, 0, none⟩) n c) (some (.int .i64 (i : Int))) none none).run Tryd.prog W = .ok (.slice (some ⟨g, i * 2, none⟩) (n - i) (c - i)) W := fun W => by
  rw [run_slice_l (P := Tryd.prog) W (23) (some ⟨g, 0, none⟩) n c (by kernel_rfl) .i64 i (by omega) (by omega)]
  rw [show Tryd.prog.elem (23) = (36) from by kernel_rfl, Tryd.sizeOf36]
  have e2 : ¬ c = i := by omega
  simp [sliced, Result.andThen, addr_add, e2]
set_option maxRecDepth 100000 in
set_option maxHeartbeats 1000000 in
theorem deleteFunc_any (h kb n : Nat) (p : Ln → Bool) (ls : List Ln) (w : World) (hh : w.heap[h]? = some (.cells (ls.flatMap lnc).toArray (36) (0, 0))) (hn : ls.length = n) (hn1 : n < 1000000) (hp : PredL h kb p w) :
    Calls Tryd.prog 42 #[.slice (some ⟨h, 0, none⟩) n n, .func (.func 43) #[] #[.pointer (some ⟨kb, 0, none⟩)]] w (DelPost h n ls p w) := by
  have HI := Lib.hid (indexFunc_any h kb n n p ls w hh hn hn1 hp)
  have HH := Lib.hid hh
  have HP := Lib.hid hp
  have HN := Lib.hid hn
  clear hh hn hp
  go_enter Tryd.func42, Tryd.ntmps42
  go_wp2_with fail
  refine HI.out.mono ?_
  rintro e w1 ⟨r, rfl, HR, hB1⟩
  have HB1 := Lib.hid hB1
  clear HI hB1
  rcases HR.out with ⟨rfl, hall⟩ | ⟨i0, x0, rfl, hx0, hp0, hpre⟩
  · have HK := Lib.hid (show ls.filter (fun x => !p x) = ls from List.filter_eq_self.2 (fun x hx => by rw [hall x hx]; rfl))
    clear hall HR
    go_wp2_with fail
    go_ret
    exact ⟨[], by rw [HK.out, HN.out]; rfl, by rw [HK.out, List.append_nil]; exact blk_below HH.out HB1.out (lt_of_blk HH.out), TurnI.of_below HB1.out⟩
  have hil0 : i0 < n := by obtain ⟨h1, -⟩ := List.getElem?_eq_some_iff.1 hx0; have := HN.out; omega
  have HD0 := Lib.hid (show DelRow h ls p i0 (i0 + 1) w w1 from by
    obtain ⟨h1, h2⟩ := List.getElem?_eq_some_iff.1 hx0
    have e1 : (ls.take i0).filter (fun x => !p x) = ls.take i0 := List.filter_eq_self.2 (fun x hx => by rw [hpre x hx]; rfl)
    have e2 : (ls.take (i0 + 1)).filter (fun x => !p x) = ls.take i0 := by
      rw [filter_take_succ _ ls i0 h1, e1, h2, hp0]
      simp
    refine ⟨⟨lnc x0, by rw [lnc_len]; omega, ?_⟩, by rw [e2, List.length_take]; omega, by omega, by omega, TurnI.of_below HB1.out⟩
    rw [e2, ← List.flatMap_cons, ← h2, ← List.drop_eq_getElem_cons h1, ← List.flatMap_append, List.take_append_drop]
    exact blk_below HH.out HB1.out (lt_of_blk HH.out))
  have q1 : ((i0 : Int) == -1) = false := beq_eq_false_iff_ne.2 (by omega)
  have q2 : IntKind.i64.wrap ((i0 : Int) + 1) = (i0 : Int) + 1 := IntWalk.i64_in _ (by omega)
  clear HR hx0 hp0 hpre HB1
  go_wp2_with fail
  go_loopg [5, 6] n (fun gk iv jv wr => ∃ i j : Nat, n ≤ j + gk ∧ iv = .int .i64 i ∧ jv = .int .i64 j ∧ Hid (DelRow h ls p i j w wr))
  case atStart => exact ⟨i0, i0 + 1, by omega, rfl, by rw [Int.natCast_add]; rfl, HD0⟩
  case round =>
    obtain ⟨i, j, hj, rfl, rfl, HD⟩ := hrel
    obtain ⟨M, hM, hrow⟩ := HD.out.row
    have hij := HD.out.lt
    have hKl : (((ls.take j).filter (fun x => !p x)).flatMap lnc).length = i * 2 := by rw [flatMap_len lnc_len, HD.out.len]
    by_cases hlt : j < n
    · have hjl : j < ls.length := by have := HN.out; omega
      have hdrop : (ls.drop j).flatMap lnc = lnc ls[j] ++ (ls.drop (j + 1)).flatMap lnc := by rw [List.drop_eq_getElem_cons hjl, List.flatMap_cons]
      have HFT := Lib.hid (filter_take_succ (fun x => !p x) ls j hjl)
      rw [hdrop] at hrow
      generalize ls[j] = x at hrow HFT hdrop
      have c0 : wr.cell? ⟨h, j * 2, none⟩ = some (.int .u64 x.1) := by
        rw [cell_of_blk hrow, List.getElem?_toArray, List.getElem?_append_right (by omega), List.getElem?_append_right (by omega), show j * 2 - (((ls.take j).filter (fun x => !p x)).flatMap lnc).length - M.length = 0 by omega]; rfl
      have c1 : wr.cell? ⟨h, j * 2 + 1, none⟩ = some (.int .u64 x.2) := by
        rw [cell_of_blk hrow, List.getElem?_toArray, List.getElem?_append_right (by omega), List.getElem?_append_right (by omega), show j * 2 + 1 - (((ls.take j).filter (fun x => !p x)).flatMap lnc).length - M.length = 1 by omega]; rfl
      obtain ⟨W2, hW2⟩ : ∃ W2 : World, W2 = wr.alloc (.cells #[.int .u64 x.1, .int .u64 x.2] (36)) := ⟨_, rfl⟩
      have hB2 : Below wr.heap.size wr W2 := by rw [hW2]; exact balc (Below.refl _ _)
      have hv2 : W2.heap[wr.heap.size]? = some (.cells #[.int .u64 x.1, .int .u64 x.2] (36) (0, 0)) := by rw [hW2]; exact blk_new_at rfl _
      have HT2 := Lib.hid (HD.out.turn.trans (TurnI.of_below hB2))
      have HCP := Lib.hid (HP.out W2 x HT2.out)
      have HV2 := Lib.hid hv2
      have HROW2 := Lib.hid (blk_below hrow hB2 (lt_of_blk hrow))
      have v0 := cell_of_blk hv2 0
      have v1 := cell_of_blk hv2 1
      simp at v0 v1
      have HW2 := Lib.hid hW2
      have j0 : (0 : Int) ≤ (j : Int) := by omega
      have j1 : (j : Int) < (n : Int) := by omega
      have jw : IntKind.i64.wrap ((j : Int) + 1) = (j : Int) + 1 := IntWalk.i64_in _ (by omega)
      have HM := Lib.hid hM
      have HKL := Lib.hid hKl
      clear hrow hdrop hB2 hv2 hW2 hM hKl q1 q2
      go_upto_region 8 with fail
      rw [← HW2.out]
      clear c0 c1
      cases hq : p x with
      | true =>
        have HE := Lib.hid (show (ls.take (j + 1)).filter (fun x => !p x) = (ls.take j).filter (fun x => !p x) from by rw [HFT.out, hq]; simp)
        rw [hq] at HCP
        clear hq
        go_wp2_with (go_at_call 43; refine HCP.out.mono ?_; rintro e w3 ⟨rfl, hB3⟩; have HB3 := Lib.hid hB3; clear hB3)
        go_roundg (gk - 1)
        case measure => omega
        case rel =>
          exact ⟨i, j + 1, by omega, rfl, by go_num, Lib.hid ⟨⟨M ++ lnc x, by rw [List.length_append, HM.out, lnc_len]; omega, by
            rw [HE.out, List.append_assoc]
            exact blk_below HROW2.out HB3.out (lt_of_blk HROW2.out)⟩, by rw [HE.out]; exact HD.out.len, by omega, by omega, HT2.out.trans (TurnI.of_below HB3.out)⟩⟩
      | false =>
        have HE := Lib.hid (show (ls.take (j + 1)).filter (fun x => !p x) = (ls.take j).filter (fun x => !p x) ++ [x] from by rw [HFT.out, hq]; simp)
        rw [hq] at HCP
        clear hq
        have i0' : (0 : Int) ≤ (i : Int) := by omega
        have i1' : (i : Int) < (n : Int) := by omega
        have iw' : IntKind.i64.wrap ((i : Int) + 1) = (i : Int) + 1 := IntWalk.i64_in _ (by omega)
        go_upto_region 9 with (go_at_call 43; refine HCP.out.mono ?_; rintro e w3 ⟨rfl, hB3⟩)
        have HROW3 := Lib.hid (blk_below HROW2.out hB3 (lt_of_blk HROW2.out))
        have v3 := blk_below HV2.out hB3 (lt_of_blk HV2.out)
        have u0 := cell_of_blk v3 0
        have u1 := cell_of_blk v3 1
        simp at u0 u1
        have HB3 := Lib.hid hB3
        obtain ⟨m0, m1, M', hMM⟩ : ∃ m0 m1 M', M = m0 :: m1 :: M' := by
          have hl : 2 ≤ M.length := by have := HM.out; omega
          match M, hl with
          | m0 :: m1 :: M', _ => exact ⟨m0, m1, M', rfl⟩
        have e0 : w3.cell? ⟨h, i * 2, none⟩ = some m0 := by
          rw [cell_of_blk HROW3.out, List.getElem?_toArray, List.getElem?_append_right (by have := HKL.out; omega), hMM, show i * 2 - (((ls.take j).filter (fun x => !p x)).flatMap lnc).length = 0 by have := HKL.out; omega]; rfl
        have e1 : w3.cell? ⟨h, i * 2 + 1, none⟩ = some m1 := by
          rw [cell_of_blk HROW3.out, List.getElem?_toArray, List.getElem?_append_right (by have := HKL.out; omega), hMM, show i * 2 + 1 - (((ls.take j).filter (fun x => !p x)).flatMap lnc).length = 1 by have := HKL.out; omega]; rfl
        have f0 := frozen_of_blk HROW3.out (i * 2)
        have f1 := frozen_of_blk HROW3.out (i * 2 + 1)
        obtain ⟨W4, hW4⟩ : ∃ W4 : World, W4 = (w3.setCell ⟨h, i * 2, none⟩ (.int .u64 x.1)).setCell ⟨h, i * 2 + 1, none⟩ (.int .u64 x.2) := ⟨_, rfl⟩
        have HROW4 := Lib.hid (show W4.heap[h]? = some (.cells (((ls.take j).filter (fun x => !p x) ++ [x]).flatMap lnc ++ ((M.drop 2 ++ lnc x) ++ (ls.drop (j + 1)).flatMap lnc)).toArray (36) (0, 0)) from by
          have h1 := blk_setCell (j := i * 2 + 1) (blk_setCell (j := i * 2) HROW3.out (.int .u64 x.1)) (.int .u64 x.2)
          rw [hW4, h1, set_two _ M _ _ _ _ HKL.out (by have := HM.out; omega)]
          rw [List.flatMap_append]
          simp [lnc])
        have HT4 := Lib.hid (show TurnI h w W4 from by rw [hW4]; exact (HT2.out.trans (TurnI.of_below HB3.out)).trans ((TurnI.setCell _).trans (TurnI.setCell _)))
        have HW4 := Lib.hid hW4
        clear hB3 v3 hMM HCP
        go_wp2_with fail
        go_roundg (gk - 1)
        case measure => omega
        case rel =>
          rw [← HW4.out]
          exact ⟨i + 1, j + 1, by omega, by go_num, by go_num, Lib.hid ⟨⟨M.drop 2 ++ lnc x, by rw [List.length_append, List.length_drop, HM.out, lnc_len]; omega, by
            rw [HE.out]
            exact HROW4.out⟩, by rw [HE.out, List.length_append, HD.out.len]; rfl, by omega, by omega, HT4.out⟩⟩
    · have hjn : j = n := by have := HD.out.le; have := HN.out; omega
      have h1 : ¬ (j : Int) < (n : Int) := by omega
      have hin : i < n := by omega
      have e1 : (ls.take j).filter (fun x => !p x) = ls.filter (fun x => !p x) := by rw [List.take_of_length_le (by have := HN.out; omega)]
      have e2 : (ls.drop j).flatMap lnc = [] := by rw [List.drop_eq_nil_of_le (by have := HN.out; omega)]; rfl
      have hlen := HD.out.len
      rw [e1] at hrow hKl hlen
      rw [e2, List.append_nil] at hrow
      have hcl := fun ty => run_clear_row (P := Tryd.prog) wr (23) (36) _ Tryd.underlying23 zeroL h (i * 2) (n - i) (n - i) _ (36) hrow (by omega) (by simp [Value.cells, hKl, hM]; omega) (by simp [Value.cells, Value.oneCell']) ty
      obtain ⟨Z, hZ⟩ : ∃ Z : List Value, Z = (Builtin.zeroCells (Value.agg #[.int .u64 0, .int .u64 0]).cells (n - i)).toList ++ (((ls.filter (fun x => !p x)).flatMap lnc ++ M).toArray.toList.drop (i * 2 + (n - i) * (Value.agg #[.int .u64 0, .int .u64 0]).cells.size)) := ⟨_, rfl⟩
      have e3 : ((ls.filter (fun x => !p x)).flatMap lnc ++ M).toArray.toList.take (i * 2) = (ls.filter (fun x => !p x)).flatMap lnc := by rw [← hKl]; exact List.take_left
      rw [e3, List.append_assoc, ← hZ] at hcl
      obtain ⟨W3, hW3⟩ : ∃ W3 : World, W3 = wr.setRow h ((ls.filter (fun x => !p x)).flatMap lnc ++ Z).toArray := ⟨_, rfl⟩
      rw [← hW3] at hcl
      have HE := Lib.hid (show W3.heap[h]? = some (.cells ((ls.filter (fun x => !p x)).flatMap lnc ++ Z).toArray (36) (0, 0)) ∧ TurnI h w W3 from ⟨by rw [hW3]; exact setRow_heap wr _ _ _ _ _ hrow, by
        rw [hW3]
        exact HD.out.turn.trans ⟨rfl, rfl, rfl, by simp [World.setRow], fun k o ho hk => (setRow_other wr h k _ hk).trans ho⟩⟩)
      have s1 := @slice_hiLn h n n i (by omega) hin
      have s2 := @slice_loLn h n n i (by omega) (by omega)
      obtain ⟨m, hm⟩ : ∃ m, m = n - i := ⟨_, rfl⟩
      obtain ⟨o, ho⟩ : ∃ o, o = i * 2 := ⟨_, rfl⟩
      rw [← hm, ← ho] at s1 hcl
      have HLEN := Lib.hid hlen
      clear hrow hKl hlen e1 e2 e3 hZ hW3 hM hij q1 q2 hm ho hin hj
      go_wp2_with (at_builtin; refine wpList_clear_eq _ rfl _ _ rfl _ rfl (hcl _) ?_)
      go_ret
      exact ⟨Z, by rw [HLEN.out]; rfl, HE.out.1, HE.out.2⟩
end Go.Proofs.YtacibennmcegfaaDoor
