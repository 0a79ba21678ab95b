/- Contracts of slices.Insert at tables, no table or one being put in, and of slices.SortStableFunc at no tables. Condition: fewer than 1000000 tables, and room for one more. -/
import Derived.Test.YthdjokcjajlnnaaA3
import Derived.Shelf.Spec.SlicesInsert
namespace Go.Proofs.Ythdjokcjajlnnaa
open Go.RowKit Go.Herb

/-- 'copy' at elements of s cells: all is read before anything is written. -/
theorem run_copy_wide (w : World) (dT sT ty elem s : Nat) (b o dLen dCap : Nat) (a : Addr) (sLen sCap : Nat) (cs : List Value)
    (hu : Try.prog.underlying dT = some (.slice elem)) (hs : (Try.prog.info? elem).map (·.size) = some s) (hn : cs.length = Nat.min sLen dLen * s)
    (hsrc : ∀ j v, cs[j]? = some v → w.cell? (a.add j) = some v) (hc : ∀ j, j < cs.length → (w.cell? ⟨b, o + j, none⟩).isSome = true) (hf : ∀ j, j < cs.length → w.frozen? ⟨b, o + j, none⟩ = false) (h1 : ∀ v ∈ cs, v.oneCell' = true) :
    (Builtin.copy_ #[dT, sT] ty #[.slice (some ⟨b, o, none⟩) dLen dCap, .slice (some a) sLen sCap]).run Try.prog w = .ok (goInt (Nat.min sLen dLen)) (w.setCells b o cs) := by
  have hl := run_loadCells_list (P := Try.prog) w a cs hsrc
  have hst := run_storeCells_cells (P := Try.prog) b o cs 0 w (by simpa using hc) (by simpa using hf) h1
  cases hq : Try.prog.info? elem with
  | none => simp [hq] at hs
  | some i =>
    have hi : i.size = s := by simpa [hq] using hs
    simp [Builtin.copy_, run_underlying hu, Builtin.lenOf, Builtin.firstCells, sizeOf, typeInfo, hq, hi, ← hn, hl, hst]

set_option maxHeartbeats 400000 in
theorem insert0 (a : Option Addr) (n cap : Nat) (p : Int) (w : World) (hn : a = none → n = 0 ∧ cap = 0) (hle : n ≤ cap) (hl : n < 1000000) (h0 : 0 ≤ p) (h1 : p ≤ n) :
    Calls Try.prog 24 #[.slice a n cap, .int .i64 p, .slice none 0 0] w fun e w' => e = .returned (.slice a n cap) ∧ w = w' := by
  obtain ⟨i, rfl⟩ : ∃ i : Nat, p = i := ⟨p.toNat, by omega⟩
  have hin : i ≤ n := by omega
  cases a with
  | none =>
    obtain ⟨rfl, rfl⟩ := hn rfl
    have : i = 0 := by omega
    subst this
    clear hn h0 h1
    go_enter Try.func24, Try.ntmps24
    go_wp2
    go_ret
    exact ⟨rfl, rfl⟩
  | some ad =>
    obtain ⟨b, o, sp⟩ := ad
    clear hn h0 h1
    go_enter Try.func24, Try.ntmps24
    go_wp2
    all_goals (go_ret; exact ⟨rfl, rfl⟩)

theorem stable_nil (w : World) : Calls Try.prog 21 #[.slice none 0 0, .func (.func 22) #[] #[]] w fun e w' => e = .returned (.tuple #[]) ∧ w = w' := by
  have h38 : Calls Try.prog 38 #[.slice none 0 0, .int .i64 0, .int .i64 0, .func (.func 22) #[] #[]] w fun e w' => e = .returned (.tuple #[]) ∧ w = w' := by
    go_enter Try.func38, Try.ntmps38
    go_wp2
    go_loopg [8] 0 (fun gk iv wr => iv = .int .i64 1 ∧ w = wr)
    case atStart => exact ⟨rfl, rfl⟩
    case round =>
      obtain ⟨rfl, rfl⟩ := hrel
      go_wp2
      go_end0
      exact ⟨rfl, rfl⟩
  have h33 : Calls Try.prog 33 #[.slice none 0 0, .int .i64 0, .func (.func 22) #[] #[]] w fun e w' => e = .returned (.tuple #[]) ∧ w = w' := by
    have H := Lib.hid h38
    clear h38
    go_enter Try.func33, Try.ntmps33
    go_wp2_with fail
    go_loopg [7, 8] 0 (fun gk av bv wr => av = .int .i64 0 ∧ bv = .int .i64 20 ∧ w = wr)
    case atStart => exact ⟨rfl, rfl, rfl⟩
    case round =>
      obtain ⟨rfl, rfl, rfl⟩ := hrel
      go_wp2_with fail
      refine H.out.mono ?_
      rintro e w1 ⟨rfl, rfl⟩
      clear H
      go_wp2_with fail
      go_loopg [6] 0 (fun gk bv wr => bv = .int .i64 20 ∧ w = wr)
      case atStart => exact ⟨rfl, rfl⟩
      case round =>
        obtain ⟨rfl, rfl⟩ := hrel
        go_wp2
        go_end0
        exact ⟨rfl, rfl⟩
  go_enter Try.func21, Try.ntmps21
  go_wp2_with fail
  refine h33.mono ?_
  rintro e w1 ⟨rfl, rfl⟩
  go_wp2
  go_end0
  exact ⟨rfl, rfl⟩

theorem shape_of_blk {w : World} {b : Nat} {cs : Array Value} {t : TypeId} {fr : Nat × Nat} (h : w.heap[b]? = some (.cells cs t fr)) : w.shape? b = some (t, cs.size) := by
  simp [World.shape?, h]

/-- What one table put in leaves. -/
def PutIn (g cap : Nat) (xs : List T) (x : T) (w : World) (e : Ending) (w' : World) : Prop :=
  e = .returned (.slice (some ⟨g, 0, none⟩) (xs.length + 1) cap) ∧ ∃ ys : List T, ys.Perm (x :: xs) ∧ TRow w' g cap ys ∧ w.grownBy w' (some g)

set_option maxHeartbeats 1000000 in
set_option maxRecDepth 100000 in
theorem insert1_end (g cap : Nat) (xs : List T) (x : T) (vb : Nat) (vc : Nat) (w : World) (h : TRow w g cap xs) (hl : xs.length < 1000000) (hr : xs.length + 1 ≤ cap) (hv : Els tc 4 w (some ⟨vb, 0, none⟩) [x]) :
    Calls Try.prog 24 #[.slice (some ⟨g, 0, none⟩) xs.length cap, .int .i64 xs.length, .slice (some ⟨vb, 0, none⟩) 1 vc] w (PutIn g cap xs x w) := by
  obtain ⟨i0, hin, hz0, hz1, hz2⟩ := info_parts Try.info45
  have hmax := h.max
  simp only [maxLen] at hmax
  have hR : TRow (w.setCells g (xs.length * 4) (tc x)) g cap (xs ++ [x]) := by
    have := Row.lay h tc_len xs.length [x] (Nat.le_refl _) (by simpa using hr)
    rw [List.take_length] at this
    simpa using this
  have hG : w.grownBy (w.setCells g (xs.length * 4) (tc x)) (some g) := grown_setCells _ _ _ (grown_refl _ _)
  have hrun : ∀ ty, (Builtin.append_ #[23, 23] ty #[.slice (some ⟨g, 0, none⟩) xs.length cap, .slice (some ⟨vb, 0, none⟩) 1 vc]).run Try.prog w = .ok (.slice (some ⟨g, 0, none⟩) (xs.length + 1) cap) (w.setCells g (xs.length * 4) (tc x)) := by
    intro ty
    have := run_append_room_cells (P := Try.prog) w 23 ty 45 i0 Try.underlying23 hin g 0 xs.length cap ⟨vb, 0, none⟩ 1 vc (tc x) (by rw [hz1]; rfl) (by have := hv.flat tc_len (by decide); simpa using this) (tc_one x) hr
      (fun j hj => h.isSome _ (by rw [hz1]; simp [tc] at hj; omega)) (fun j hj => h.frozen _)
    rw [hz1, Nat.zero_add] at this
    exact this
  have HR := Lib.hid hR
  have HG := Lib.hid hG
  generalize w.setCells g (xs.length * 4) (tc x) = W1 at *
  clear h hv hR hG
  go_enter Try.func24, Try.ntmps24
  go_wp2_with (at_builtin; refine Lib.wpList_append_run _ rfl _ _ _ _ rfl _ _ rfl rfl _ _ (hrun _) ?_)
  all_goals (go_ret; exact ⟨rfl, xs ++ [x], by simp, HR.out, HG.out⟩)

theorem els_of_blk1 {w : World} {vb : Nat} {x : T} (hb : w.heap[vb]? = some (.cells (tc x).toArray 45 (0, 0))) : Els tc 4 w (some ⟨vb, 0, none⟩) [x] := by
  refine ⟨fun i hi => ⟨vb, 0, rfl, lt_of_blk hb, fun j c hj => ?_⟩⟩
  have : i = 0 := by simpa using hi
  subst this
  rw [cell_of_blk hb]
  simpa using hj

theorem put_middle (xs : List T) (i : Nat) (x : T) (hi : i < xs.length) : (xs.take (i + 1) ++ xs.drop i).set i x = xs.take i ++ x :: xs.drop i := by
  rw [List.set_append, if_pos (by simp; omega), List.take_succ_eq_append_getElem hi, List.set_append, if_neg (by simp; omega)]
  have : (xs.take i).length = i := by simp; omega
  rw [this, Nat.sub_self]
  simp

set_option maxHeartbeats 2000000 in
set_option maxRecDepth 100000 in
theorem insert1_shift (g cap : Nat) (xs : List T) (i : Nat) (x : T) (vb : Nat) (vc : Nat) (w : World) (h : TRow w g cap xs) (hl : xs.length < 1000000) (hr : xs.length + 1 ≤ cap) (hb : w.heap[vb]? = some (.cells (tc x).toArray 45 (0, 0))) (hne : vb ≠ g) (hi : i < xs.length) :
    Calls Try.prog 24 #[.slice (some ⟨g, 0, none⟩) xs.length cap, .int .i64 i, .slice (some ⟨vb, 0, none⟩) 1 vc] w (PutIn g cap xs x w) := by
  obtain ⟨i0, hin, hz0, hz1, hz2⟩ := info_parts Try.info45
  have hmax := h.max
  simp only [maxLen] at hmax
  have hv := els_of_blk1 hb
  obtain ⟨cur, hcur, hcsz, -⟩ := h.blk
  have hsz : (Try.prog.info? 45).map (·.size) = some 4 := by rw [hin]; simp [hz1]
  have hov : ∀ lb cb, (callFunc 35 #[.slice (some ⟨vb, 0, none⟩) 1 vc, .slice (some ⟨g, (i + 1) * 4, none⟩) lb cb]).run Try.prog w = .ok (.value (.bool false)) w := fun lb cb => by
    rw [run_callFunc_extern Try.func35 (by kernel_rfl) (by kernel_rfl) (by kernel_rfl) (e := Extern.SlicesOverlaps.overlaps #[23, 23] #[4]) (by kernel_rfl),
      Lib.run_overlaps_apart w 23 4 45 Try.underlying23 4 (fun w => by simp [Go.sizeOf, typeInfo, hin, hz1]) ⟨vb, 0, none⟩ ⟨g, (i + 1) * 4, none⟩ 1 vc lb cb hne _ _ _ _ (shape_of_blk hb) (shape_of_blk hcur) (by rw [hcsz]; omega) (frozen_of_blk hb _) (frozen_of_blk hb _)]
    rfl
  have hdl : (xs.drop i).length = xs.length - i := by simp
  have hE : Els tc 4 w (some ⟨g, i * 4, none⟩) (xs.drop i) := by
    refine ⟨fun k hk => ⟨g, i * 4, rfl, h.lt, fun j c hj => ?_⟩⟩
    have hk' : i + k < xs.length := by simp at hk; omega
    have := h.cell tc_len (i + k) hk' j c (by simpa using hj)
    rw [show i * 4 + k * 4 + j = (i + k) * 4 + j by omega]
    exact this
  have hmn : Nat.min (xs.length + 1 - i) (xs.length - i) = xs.length - i := by simp only [Nat.min_def]; split <;> omega
  have hcp1 : ∀ ty dc sc, (Builtin.copy_ #[23, 23] ty #[.slice (some ⟨g, (i + 1) * 4, none⟩) (xs.length - i) dc, .slice (some ⟨g, i * 4, none⟩) (xs.length + 1 - i) sc]).run Try.prog w.drew = .ok (goInt (Nat.min (xs.length + 1 - i) (xs.length - i))) (w.drew.setCells g ((i + 1) * 4) ((xs.drop i).flatMap tc)) := fun ty dc sc =>
    run_copy_wide w.drew _ _ ty 45 4 g ((i + 1) * 4) (xs.length - i) dc ⟨g, i * 4, none⟩ (xs.length + 1 - i) sc ((xs.drop i).flatMap tc) Try.underlying23 hsz (by rw [flatMap_len tc_len, hdl, hmn])
      (hE.flat tc_len (by decide))
      (fun j hj => by rw [flatMap_len tc_len, hdl] at hj; exact h.isSome _ (by omega)) (fun j hj => h.frozen _) (tc_flat_one _)
  have hR1 : TRow (w.drew.setCells g ((i + 1) * 4) ((xs.drop i).flatMap tc)) g cap (xs.take (i + 1) ++ xs.drop i) := Row.lay h.drew tc_len (i + 1) _ (by omega) (by rw [hdl]; omega)
  have hG1 : w.grownBy (w.drew.setCells g ((i + 1) * 4) ((xs.drop i).flatMap tc)) (some g) := grown_setCells _ _ _ (grown_drew (grown_refl _ _))
  have hV1 : Els tc 4 (w.drew.setCells g ((i + 1) * 4) ((xs.drop i).flatMap tc)) (some ⟨vb, 0, none⟩) [x] := els_of_blk1 ((hG1.block vb (lt_of_blk hb) (fun e => hne (by injection e))).trans hb)
  generalize w.drew.setCells g ((i + 1) * 4) ((xs.drop i).flatMap tc) = W1 at *
  have hcp2 : ∀ ty dc, (Builtin.copy_ #[23, 23] ty #[.slice (some ⟨g, i * 4, none⟩) (xs.length + 1 - i) dc, .slice (some ⟨vb, 0, none⟩) 1 vc]).run Try.prog W1 = .ok (goInt (Nat.min 1 (xs.length + 1 - i))) (W1.setCells g (i * 4) (tc x)) := fun ty dc =>
    run_copy_wide W1 _ _ ty 45 4 g (i * 4) (xs.length + 1 - i) dc ⟨vb, 0, none⟩ 1 vc (tc x) Try.underlying23 hsz (by rw [show Nat.min 1 (xs.length + 1 - i) = 1 by simp only [Nat.min_def]; split <;> omega]; rfl)
      (by have := hV1.flat tc_len (by decide); simpa using this)
      (fun j hj => by simp [tc] at hj; exact hR1.isSome _ (by omega)) (fun j hj => hR1.frozen _) (tc_one x)
  have hR2 : TRow (W1.setCells g (i * 4) (tc x)) g cap (xs.take i ++ x :: xs.drop i) := by
    have := TRow.set hR1 i x
    rw [put_middle xs i x hi] at this
    exact this
  have hG2 : w.grownBy (W1.setCells g (i * 4) (tc x)) (some g) := grown_setCells _ _ _ hG1
  have hperm : (xs.take i ++ x :: xs.drop i).Perm (x :: xs) := by
    refine List.perm_middle.trans ?_
    rw [List.take_append_drop]
  have HR := Lib.hid hR2
  have HG := Lib.hid hG2
  have HP := Lib.hid hperm
  generalize W1.setCells g (i * 4) (tc x) = W2 at *
  clear h hb hv hcur hcsz hE hR1 hG1 hV1 hR2 hG2 hperm hdl hsz hmn
  obtain ⟨N, hN⟩ : ∃ N, N = xs.length := ⟨_, rfl⟩
  rw [← hN] at hl hi hr hcp1 hcp2 ⊢
  have HN := Lib.hid hN
  clear hN
  have hz1' : ¬ ((i : Int) = (N : Int)) := by omega
  have hw1 : IntKind.i64.wrap ((i : Int) + 1) = (i : Int) + 1 := IntWalk.i64_in _ (by omega)
  have hw2 : IntKind.i64.wrap ((N : Int) + 1) = (N : Int) + 1 := IntWalk.i64_in _ (by omega)
  have hb1 : (0 : Int) ≤ (i : Int) + 1 := by omega
  have hin' : i ≤ N := by omega
  have htn : ((i : Int) + 1).toNat = i + 1 := by omega
  have hb2 : ¬ (cap = i + 1) := by omega
  have hb3 : (i : Int) ≤ (N : Int) + 1 := by omega
  have hb4 : ¬ (cap = i) := by omega
  have hb5 : ((N : Int) + 1).toNat = N + 1 := by omega
  go_enter Try.func24, Try.ntmps24
  go_wp2_with (simp only [hov])
  have hb6 : (i : Int) + 1 ≤ (N : Int) + 1 := by omega
  go_region_law (refine step_copy_runI rfl _ _ 23 23 rfl _ _ (by simp [Act.eval, Act.put]) (by simp [Act.eval, Act.put]) (hcp1 _ _ _) ?_)
  go_wp2_with (at_builtin; refine wpList_copy_runI _ rfl _ _ 23 23 rfl _ _ rfl rfl (hcp2 _ _) ?_)
  go_ret
  exact ⟨by rw [HN.out]; rfl, _, HP.out, HR.out, HG.out⟩
end Go.Proofs.Ythdjokcjajlnnaa
