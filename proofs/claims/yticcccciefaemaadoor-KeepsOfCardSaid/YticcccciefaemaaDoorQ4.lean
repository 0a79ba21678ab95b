/- Contracts of keeps.look's order of facts by commits, and of slices.swapRangeCmpFunc, rotateCmpFunc and insertionSortCmpFunc at places. Condition: fewer than 1000000 places. -/
import Derived.Test.YticcccciefaemaaDoorQ3
import Derived.Test.YticcccciefaemaaDoorK5
import Derived.IntWalk
import Derived.Deep.RegionHeld3
namespace Go.Proofs.YticcccciefaemaaDoor
open Go.RowKit Go.Shelf Go.Herb

def ic (n : Nat) : List Value := [.int .i64 n]
theorem ic_one (n : Nat) : ic n = [(fun m : Nat => Value.int .i64 m) n] := rfl
theorem ic_len (n : Nat) : (ic n).length = 1 := rfl
abbrev IRow (w : World) (g cap : Nat) (xs : List Nat) : Prop := Row ic 1 (3) w g cap xs
theorem irow_cell {w : World} {g cap : Nat} {xs : List Nat} (h : IRow w g cap xs) (i x : Nat) (hx : xs[i]? = some x) : w.cell? ⟨g, i, none⟩ = some (.int .i64 x) := by
  obtain ⟨hi, rfl⟩ := List.getElem?_eq_some_iff.1 hx
  have := h.cell ic_len i hi 0 _ rfl
  simpa using this
theorem irow_set {w : World} {g cap : Nat} {xs : List Nat} (h : IRow w g cap xs) (i x : Nat) : IRow (w.setCell ⟨g, i, none⟩ (.int .i64 x)) g cap (xs.set i x) := h.set1 ic_one i x
theorem irow_drew {w : World} {g cap : Nat} {xs : List Nat} (h : IRow w g cap xs) : IRow w.drew g cap xs := h.same rfl
theorem irow_drewN {w : World} {g cap : Nat} {xs : List Nat} (h : IRow w g cap xs) (n : Nat) : IRow (w.drewN n) g cap xs := h.same rfl
theorem grown_drewN {a b : World} {row : Option Nat} (h : a.grownBy b row) (n : Nat) : a.grownBy (b.drewN n) row := ⟨h.os, h.tape, h.output, h.size, h.block⟩
theorem at_some {xs : List Nat} (i : Nat) (hi : i < xs.length) : ∃ x, xs[i]? = some x := ⟨_, List.getElem?_eq_getElem hi⟩
theorem mem_some {xs : List Nat} {i x : Nat} (h : xs[i]? = some x) : x ∈ xs := by
  obtain ⟨hi, rfl⟩ := List.getElem?_eq_some_iff.1 h
  exact List.getElem_mem hi

/-- The commit of a fact, by its place. -/
def sqF (xs : List Fc) (i : Nat) : Int := match xs[i]? with | some x => x.seq | none => 0
theorem sqF_at (xs : List Fc) (i : Nat) (h : i < xs.length) : sqF xs i = xs[i].seq := by unfold sqF; rw [List.getElem?_eq_getElem h]

/-- What the order has captured, apart from the row g. -/
structure CEnv (g : Nat) (w : World) (bl : Nat) (al : Option Addr) (cl : Nat) (xs : List Fc) : Prop where
  box : w.heap[bl]? = some (.cells #[.slice al xs.length cl] (22) (0, 0))
  ne : bl ≠ g
  els : Facts w al xs
  ane : ∀ ad, al = some ad → ad.block ≠ g
theorem CEnv.grown {g bl cl : Nat} {w w' : World} {al : Option Addr} {xs : List Fc} (h : CEnv g w bl al cl xs) (hg : w.grownBy w' (some g)) : CEnv g w' bl al cl xs :=
  ⟨(hg.block _ (lt_of_blk h.box) (fun e => h.ne (by cases e; rfl))).trans h.box, h.ne, ⟨fun i hi => by
    obtain ⟨b, o, ha, hlt, hc⟩ := h.els.get i hi
    refine ⟨b, o, ha, Nat.lt_of_lt_of_le hlt hg.size, fun j c hj => ?_⟩
    have hb : b ≠ g := h.ane _ ha
    exact (World.cell?_of_block (hg.block b hlt (fun e => hb (by cases e; rfl)))).trans (hc j c hj)⟩, h.ane⟩

theorem cmpI_lt0 {a b : Int} (h : a < b) : ∃ c : Int, cmpI a b = c ∧ decide (c < 0) = true := ⟨-1, by unfold cmpI; rw [if_pos h], rfl⟩
theorem cmpI_ge0 {a b : Int} (h : ¬ a < b) : ∃ c : Int, cmpI a b = c ∧ decide (c < 0) = false := by
  by_cases h2 : b < a
  · exact ⟨1, by unfold cmpI; rw [if_neg h, if_pos h2], rfl⟩
  · exact ⟨0, by unfold cmpI; rw [if_neg h, if_neg h2], rfl⟩

set_option maxHeartbeats 400000 in
/-- The order. -/
theorem ord_any {g bl cl : Nat} {w : World} {al : Option Addr} {xs : List Fc} (hE : CEnv g w bl al cl xs) (i j : Nat) (hi : i < xs.length) (hj : j < xs.length) (c : Int) (hc : cmpI (sqF xs i) (sqF xs j) = c) :
    Calls Tryd.prog (28) #[.int .i64 i, .int .i64 j, .pointer (some ⟨bl, 0, none⟩)] w fun e w' => e = .returned (.int .i64 c) ∧ ∃ n, w' = w.drewN n := by
  rw [sqF_at xs i hi, sqF_at xs j hj] at hc
  have t0 := cell_of_blk hE.box 0
  simp at t0
  obtain ⟨b, o, hal, hlt, hci⟩ := hE.els.get i hi
  have hcj := (show Facts w (some ⟨b, o, none⟩) xs from hal ▸ hE.els).get j hj
  obtain ⟨b', o', hal', hlt', hcj⟩ := hcj
  injection hal' with e1
  injection e1 with e2 e3
  subst e2 e3
  have c2 := hci 2 _ rfl
  have d2 := hcj 2 _ rfl
  generalize xs[i].seq = p at *
  generalize xs[j].seq = q at *
  have hi0 : (0 : Int) ≤ (i : Int) := by omega
  have hi1 : (i : Int) < (xs.length : Int) := by omega
  have hj0 : (0 : Int) ≤ (j : Int) := by omega
  have hj1 : (j : Int) < (xs.length : Int) := by omega
  have hcm := Lib.hid hc
  subst hal
  clear hci hcj hE hc
  go_enter Tryd.func28, Tryd.ntmps28
  go_wp2_with fail
  go_quiet ((go_at_call 29; exact Calls.quiet_of_same ((cmp_64 p q _).mono fun _ _ ⟨he, hw⟩ => ⟨by rw [he, hcm.out], hw.symm⟩)))
  go_wp2
  go_ret
  exact ⟨rfl, nq, rfl⟩

/-- Nothing is answered; a part is sorted. -/
def SegPost (sq : Nat → Int) (g cap : Nat) (A S C : List Nat) (w : World) (e : Ending) (w' : World) : Prop :=
  e = .returned (.tuple #[]) ∧ ∃ P, P.Perm S ∧ SrtI sq P ∧ IRow w' g cap (A ++ (P ++ C)) ∧ w.grownBy w' (some g)
/-- Nothing is answered; the row is this one. -/
def RowPost (g cap : Nat) (ys : List Nat) (w : World) (e : Ending) (w' : World) : Prop :=
  e = .returned (.tuple #[]) ∧ IRow w' g cap ys ∧ w.grownBy w' (some g)

set_option maxHeartbeats 1000000 in
theorem swapRange_any (g cap : Nat) (A X M Y C : List Nat) (N : Nat) (hN : (A ++ (X ++ (M ++ (Y ++ C)))).length = N) (f : Value) (w : World) (h : IRow w g cap (A ++ (X ++ (M ++ (Y ++ C))))) (hl : N < 1000000) (hXY : X.length = Y.length) :
    Calls Tryd.prog (50) #[.slice (some ⟨g, 0, none⟩) N cap, .int .i64 A.length, .int .i64 (A.length + X.length + M.length : Nat), .int .i64 X.length, f] w (RowPost g cap (A ++ (Y ++ (M ++ (X ++ C)))) w) := by
  have H := Lib.hid h
  obtain ⟨a, ha⟩ : ∃ a, a = A.length := ⟨_, rfl⟩
  obtain ⟨n, hn⟩ : ∃ n, n = X.length := ⟨_, rfl⟩
  obtain ⟨b, hb⟩ : ∃ b, b = A.length + X.length + M.length := ⟨_, rfl⟩
  have hbn : b + n ≤ N := by rw [← hN]; simp only [List.length_append]; omega
  have hab : a + n ≤ b := by omega
  have hYn : Y.length = n := by omega
  rw [← hb, ← ha, ← hn]
  have HN := Lib.hid hN
  have HA := Lib.hid ha
  have HXn := Lib.hid hn
  have HB := Lib.hid hb
  have HYn := Lib.hid hYn
  clear h hN ha hn hb hYn hXY
  go_enter Tryd.func50, Tryd.ntmps50
  go_wp2
  go_loopg [10] n (fun gk iv wr => ∃ i : Nat, i + gk = n ∧ iv = .int .i64 i ∧ IRow wr g cap (swp A X M Y C i) ∧ w.grownBy wr (some g))
  case atStart => exact ⟨0, by omega, rfl, by rw [swp_zero]; exact H.out, grown_refl _ _⟩
  case round =>
    obtain ⟨i, hi, rfl, hR, hg⟩ := hrel
    have HR := Lib.hid hR
    have HG := Lib.hid hg
    clear hR hg
    by_cases hlt : i < n
    · obtain ⟨s1, s2, s3⟩ := swp_step A X M Y C i (by have := HXn.out; omega) (by have := HYn.out; omega)
      rw [← HA.out] at s1
      rw [← HB.out] at s2
      rw [← HB.out, ← HA.out] at s3
      have c0 := irow_cell HR.out _ _ s1
      have d0 := irow_cell HR.out _ _ s2
      have f0 := HR.out.frozen (a + i)
      have g0 := HR.out.frozen (b + i)
      have HS := Lib.hid s3
      generalize X[i]'(by have := HXn.out; omega) = x at *
      generalize Y[i]'(by have := HYn.out; omega) = y at *
      clear s1 s2 s3
      go_wp2
      have hw1 : IntKind.i64.wrap ((a : Int) + i) = (a : Int) + i := IntWalk.i64_in _ (by omega)
      have hw2 : IntKind.i64.wrap ((b : Int) + i) = (b : Int) + i := IntWalk.i64_in _ (by omega)
      have hp1 : (0 : Int) ≤ (a : Int) + i := by omega
      have hp2 : (0 : Int) ≤ (b : Int) + i := by omega
      have hq1 : ((a : Int) + i).toNat = a + i := by omega
      have hq2 : ((b : Int) + i).toNat = b + i := by omega
      have hr1 : (a : Int) + i < (N : Int) := by omega
      have hr2 : (b : Int) + i < (N : Int) := by omega
      have hne : ¬ a + i = b + i := by omega
      go_region
      clear hw1 hw2 hp1 hp2 hq1 hq2 hr1 hr2
      go_wp2
      go_roundg (gk - 1)
      case measure => omega
      case rel =>
        refine ⟨i + 1, by omega, by go_num, ?_, ?_⟩
        · rw [← HS.out]
          exact irow_drew (irow_set (irow_set HR.out (a + i) y) (b + i) x)
        · exact grown_drew (grown_set (grown_set HG.out _ _) _ _)
    · have hin : i = n := by omega
      subst hin
      go_wp2
      go_end0
      exact ⟨rfl, by rw [← swp_end A X M Y C i HXn.out.symm HYn.out]; exact HR.out, HG.out⟩
end Go.Proofs.YticcccciefaemaaDoor
