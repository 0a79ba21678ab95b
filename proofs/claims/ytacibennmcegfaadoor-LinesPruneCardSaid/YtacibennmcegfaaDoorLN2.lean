/- lines.byID; slices.BinarySearchFunc at lines. Condition: fewer than 1000000 lines, sorted. -/
import Derived.Test.YtacibennmcegfaaDoorLN1
import Derived.Test.YtacibennmcegfaaDoorRow
import Derived.Test.YtacibennmcegfaaDoorMp
import Derived.Test.YtacibennmcegfaaDoorRd
import Derived.Test.YtacibennmcegfaaDoorProg
import Derived.Outline
import Derived.Deep.DeepCutAuto
namespace Go.Proofs.YtacibennmcegfaaDoor
open Go.RowKit Go.Herb

def lnc (x : Ln) : List Value := [.int .u64 x.1, .int .u64 x.2]
theorem lnc_len (x : Ln) : (lnc x).length = 2 := rfl
abbrev Lns (w : World) (a : Option Addr) (xs : List Ln) : Prop := Els lnc 2 w a xs
def cmpI (a b : Int) : Int := if a < b then -1 else if b < a then 1 else 0
theorem isNaN_u (a : Int) (w : World) : Calls Tryd.prog (70) #[.int .u64 a] w fun e w' => e = .returned (.bool false) ∧ w = w' := by
  go_enter Tryd.func70, Tryd.ntmps70
  go_wp2
  go_ret
  exact ⟨by simp, rfl⟩
theorem cmp_64 (a b : Int) (w : World) : Calls Tryd.prog (63) #[.int .u64 a, .int .u64 b] w fun e w' => e = .returned (.int .i64 (cmpI a b)) ∧ w = w' := by
  go_enter Tryd.func63, Tryd.ntmps63
  go_wp2_with (go_at_call 70; refine (isNaN_u _ _).mono ?_; rintro e w' ⟨rfl, rfl⟩)
  all_goals
    go_ret
    refine ⟨?_, rfl⟩
    unfold cmpI
    first | (rw [if_pos (by omega)]; rfl) | (rw [if_neg (by omega), if_pos (by omega)]; rfl) | (rw [if_neg (by omega), if_neg (by omega)]; rfl)
theorem byID_any (x : Ln) (k : Int) (w : World) : Calls Tryd.prog (51) #[.agg #[.int .u64 x.1, .int .u64 x.2], .int .u64 k] w fun e w' => e = .returned (.int .i64 (cmpI x.1 k)) ∧ Below w.heap.size w w' := by
  have HB := Lib.hid (show Below w.heap.size w (w.alloc (.cells #[.int .u64 x.1, .int .u64 x.2] (36))) from (Below.refl _ _).alloc (Nat.le_refl _) _)
  go_enter Tryd.func51, Tryd.ntmps51
  go_wp2_with (go_at_call 63; refine (cmp_64 _ _ _).mono ?_; rintro e w' ⟨rfl, rfl⟩)
  go_ret
  exact ⟨rfl, HB.out⟩
theorem lnc_srt {xs : List Ln} (h : SrtL xs) {i j : Nat} (hi : i ≤ j) {y x : Ln} (hy : xs[i]? = some y) (hx : xs[j]? = some x) : y.1 ≤ x.1 := by
  obtain ⟨h1, e1⟩ := List.getElem?_eq_some_iff.1 hy
  obtain ⟨h2, e2⟩ := List.getElem?_eq_some_iff.1 hx
  rcases Nat.lt_or_eq_of_le hi with hl | rfl
  · have := List.pairwise_iff_getElem.1 h i j h1 h2 hl
    rw [e1, e2] at this
    omega
  · rw [e1] at e2; rw [e2]; exact Int.le_refl _

def BsPost (xs : List Ln) (k : Int) (n : Nat) (w : World) (e : Ending) (w' : World) : Prop :=
  ∃ (i : Nat) (b : Bool), e = .returned (.tuple #[.int .i64 i, .bool b]) ∧ i ≤ n ∧ (∀ (j : Nat) (x : Ln), j < i → xs[j]? = some x → x.1 < k) ∧ (∀ (j : Nat) (x : Ln), i ≤ j → xs[j]? = some x → k ≤ x.1) ∧ (b = true ↔ ∃ p, xs[i]? = some (k, p)) ∧ Below w.heap.size w w'

set_option maxRecDepth 100000 in
set_option maxHeartbeats 1000000 in
theorem bsL_any (a : Option Addr) (cap n : Nat) (xs : List Ln) (k : Int) (w : World) (hE : Lns w a xs) (hn : xs.length = n) (hm : n < 1000000) (hs : SrtL xs) :
    Calls Tryd.prog (50) #[.slice a n cap, .int .u64 k, .func (.func (51)) #[] #[]] w (BsPost xs k n w) := by
  have HE := Lib.hid hE
  have HN := Lib.hid hn
  have HS := Lib.hid hs
  clear hE hn hs
  go_enter Tryd.func50, Tryd.ntmps50
  go_wp2_with fail
  go_loopg [9, 10] n (fun gk iv jv wr => ∃ i j : Nat, i + gk = j ∧ j ≤ n ∧ iv = .int .i64 i ∧ jv = .int .i64 j ∧ Hid (∀ (m : Nat) (x : Ln), m < i → xs[m]? = some x → x.1 < k) ∧ Hid (∀ (m : Nat) (x : Ln), j ≤ m → xs[m]? = some x → k ≤ x.1) ∧ Hid (Below w.heap.size w wr))
  case atStart => exact ⟨0, n, by omega, Nat.le_refl _, rfl, rfl, Lib.hid (fun m x h => by omega), Lib.hid (fun m x h hx => by obtain ⟨h1, _⟩ := List.getElem?_eq_some_iff.1 hx; have := HN.out; omega), Lib.hid (Below.refl _ _)⟩
  case round =>
    obtain ⟨i, j, hij, hjn, rfl, rfl, HLO, HHI, HB⟩ := hrel
    by_cases hlt : i < j
    · have h1 : (i : Int) < (j : Int) := by omega
      have hw1 : IntKind.i64.wrap ((i : Int) + (j : Int)) = (i : Int) + (j : Int) := IntWalk.i64_in _ (by omega)
      obtain ⟨h, hh⟩ : ∃ h : Nat, h = (i + j) / 2 := ⟨_, rfl⟩
      have hdiv : ((i : Int) + (j : Int)) / 2 = (h : Int) := by omega
      have hih : i ≤ h := by omega
      have hhj : h < j := by omega
      have hh0 : (0 : Int) ≤ (h : Int) := by omega
      have hh1 : (h : Int) < (n : Int) := by omega
      have hw2 : IntKind.i64.wrap ((h : Int) + 1) = (h : Int) + 1 := IntWalk.i64_in _ (by omega)
      have hhl : h < xs.length := by have := HN.out; omega
      obtain ⟨b, o, rfl, hlb, hcell⟩ := HE.out.get h hhl
      have x0 := (HB.out.cell (p := ⟨b, _, none⟩) hlb).trans (hcell 0 _ rfl)
      have x1 := (HB.out.cell (p := ⟨b, _, none⟩) hlb).trans (hcell 1 _ rfl)
      simp only [Nat.add_zero] at x0 x1
      have HX := Lib.hid (List.getElem?_eq_getElem hhl)
      generalize xs[h] = x at x0 x1 HX
      clear hcell hh
      by_cases hc : x.1 < k
      · have hcmp : cmpI x.1 k = -1 := by unfold cmpI; rw [if_pos hc]
        have HLO2 := Lib.hid (show ∀ (m : Nat) (y : Ln), m < h + 1 → xs[m]? = some y → y.1 < k from fun m y hm hy => by
          have := lnc_srt HS.out (show m ≤ h by omega) hy HX.out
          omega)
        have HBY := Lib.hid (fun u => byID_any x k u)
        rw [hcmp] at HBY
        clear hc hcmp
        go_wp2_with fail
        refine (HBY.out wr).mono ?_
        rintro e w1 ⟨rfl, hb1⟩
        have HB1 := Lib.hid (HB.out.trans (hb1.mono HB.out.size))
        clear hb1 x0 x1
        go_wp2_with fail
        go_roundg (j - (h + 1))
        case measure => omega
        case rel => exact ⟨h + 1, j, by omega, hjn, by go_num, rfl, HLO2, HHI, HB1⟩
      · have hcmp : ¬ cmpI x.1 k < 0 := by unfold cmpI; rw [if_neg hc]; split <;> omega
        have HHI2 := Lib.hid (show ∀ (m : Nat) (y : Ln), h ≤ m → xs[m]? = some y → k ≤ y.1 from fun m y hm hy => by
          have := lnc_srt HS.out hm HX.out hy
          omega)
        have HBY := Lib.hid (fun u => byID_any x k u)
        obtain ⟨cv, hcv⟩ : ∃ cv, cv = cmpI x.1 k := ⟨_, rfl⟩
        rw [← hcv] at HBY hcmp
        clear hc hcv
        go_wp2_with fail
        refine (HBY.out wr).mono ?_
        rintro e w1 ⟨rfl, hb1⟩
        have HB1 := Lib.hid (HB.out.trans (hb1.mono HB.out.size))
        clear hb1 x0 x1
        go_wp2_with fail
        go_roundg (h - i)
        case measure => omega
        case rel => exact ⟨i, h, by omega, by omega, rfl, by go_num, HLO, HHI2, HB1⟩
    · have hij2 : i = j := by omega
      subst hij2
      by_cases hin : i < n
      · have h0 : (0 : Int) ≤ (i : Int) := by omega
        have h1 : (i : Int) < (n : Int) := by omega
        have hhl : i < xs.length := by have := HN.out; omega
        obtain ⟨b, o, rfl, hlb, hcell⟩ := HE.out.get i hhl
        have x0 := (HB.out.cell (p := ⟨b, _, none⟩) hlb).trans (hcell 0 _ rfl)
        have x1 := (HB.out.cell (p := ⟨b, _, none⟩) hlb).trans (hcell 1 _ rfl)
        simp only [Nat.add_zero] at x0 x1
        have HX := Lib.hid (List.getElem?_eq_getElem hhl)
        generalize xs[i] = x at x0 x1 HX
        clear hcell
        have HBY := Lib.hid (fun u => byID_any x k u)
        obtain ⟨cv, hcv⟩ : ∃ cv, cv = cmpI x.1 k := ⟨_, rfl⟩
        rw [← hcv] at HBY
        have HBB := Lib.hid (show (decide (cv = 0) = true ↔ ∃ p, xs[i]? = some (k, p)) ∧ ((cv == 0) = decide (cv = 0)) from by
          refine ⟨?_, by by_cases h : cv = 0 <;> simp [h]⟩
          rw [decide_eq_true_eq, hcv, HX.out]
          unfold cmpI
          constructor
          · intro h
            refine ⟨x.2, ?_⟩
            have : x.1 = k := by
              by_cases g1 : x.1 < k
              · rw [if_pos g1] at h; cases h
              · rw [if_neg g1] at h
                by_cases g2 : k < x.1
                · rw [if_pos g2] at h; cases h
                · omega
            rw [← this]
          · rintro ⟨p, h⟩
            injection h with h
            rw [h]
            simp)
        have hbq := HBB.out.2
        clear hcv
        go_wp2_with fail
        refine (HBY.out wr).mono ?_
        rintro e w1 ⟨rfl, hb1⟩
        have HB1 := Lib.hid (HB.out.trans (hb1.mono HB.out.size))
        clear hb1 x0 x1
        go_wp2_with fail
        go_ret2
        unfold BsPost
        exact ⟨i, decide (cv = 0), by first | rfl | (rw [← hbq]; done) | (rw [← hbq]; rfl) | (simp [hbq]; done), hjn, HLO.out, HHI.out, HBB.out.1, HB1.out⟩
      · have hin2 : ¬ (i : Int) < (n : Int) := by omega
        go_wp2_with fail
        go_ret2
        unfold BsPost
        exact ⟨i, false, rfl, hjn, HLO.out, HHI.out, ⟨(fun h => by cases h), fun ⟨p, h⟩ => by
          obtain ⟨h1, _⟩ := List.getElem?_eq_some_iff.1 h
          have := HN.out
          omega⟩, HB.out⟩
end Go.Proofs.YtacibennmcegfaaDoor
