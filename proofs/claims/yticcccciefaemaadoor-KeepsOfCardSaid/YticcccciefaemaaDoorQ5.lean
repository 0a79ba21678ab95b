/- Contracts of slices.rotateCmpFunc and insertionSortCmpFunc at places. Condition: fewer than 1000000 places. -/
import Derived.Test.YticcccciefaemaaDoorQ4
namespace Go.Proofs.YticcccciefaemaaDoor
open Go.RowKit Go.Shelf Go.Herb

theorem swapRange_at (g cap : Nat) (A X M Y C : List Nat) (N : Nat) (hN : (A ++ (X ++ (M ++ (Y ++ C)))).length = N) (a b n : Int) (ha : a = A.length) (hb : b = A.length + X.length + M.length) (hn : n = X.length) (f : Value) (w : World) (h : IRow w g cap (A ++ (X ++ (M ++ (Y ++ C))))) (hl : N < 1000000) (hXY : X.length = Y.length) :
    Calls Tryd.prog (50) #[.slice (some ⟨g, 0, none⟩) N cap, .int .i64 a, .int .i64 b, .int .i64 n, f] w (RowPost g cap (A ++ (Y ++ (M ++ (X ++ C)))) w) := by
  subst ha hn
  have : b = ((A.length + X.length + M.length : Nat) : Int) := by omega
  subst this
  exact swapRange_any g cap A X M Y C N hN f w h hl hXY

/-- Rotation, between two rounds: two neighbouring parts are left to be exchanged. -/
def Rot (A B C : List Nat) (m i j : Nat) (T ys : List Nat) : Prop := ∃ P X Y Q, ys = A ++ (P ++ (X ++ (Y ++ (Q ++ C)))) ∧ X.length = i ∧ Y.length = j ∧ A.length + P.length + i = m ∧ A ++ (P ++ (Y ++ (X ++ (Q ++ C)))) = T ∧ P.length + (i + (j + Q.length)) = B.length
theorem Rot.start (A L R C : List Nat) : Rot A (L ++ R) C (A.length + L.length) L.length R.length (A ++ (R ++ (L ++ C))) (A ++ (L ++ (R ++ C))) :=
  ⟨[], L, R, [], by simp, rfl, rfl, by simp, by simp, by simp⟩

set_option maxHeartbeats 2000000 in
theorem rotate_any (g cap : Nat) (A L R C : List Nat) (N : Nat) (hN : (A ++ (L ++ (R ++ C))).length = N) (a m b : Int) (ha : a = A.length) (hm : m = A.length + L.length) (hb : b = A.length + L.length + R.length) (hL : 0 < L.length) (hR : 0 < R.length) (f : Value) (w : World) (h : IRow w g cap (A ++ (L ++ (R ++ C)))) (hl : N < 1000000) :
    Calls Tryd.prog (45) #[.slice (some ⟨g, 0, none⟩) N cap, .int .i64 a, .int .i64 m, .int .i64 b, f] w (RowPost g cap (A ++ (R ++ (L ++ C))) w) := by
  have H := Lib.hid h
  have hN2 := hN
  simp only [List.length_append] at hN2
  have hst := Rot.start A L R C
  obtain ⟨T, hT⟩ : ∃ T, T = A ++ (R ++ (L ++ C)) := ⟨_, rfl⟩
  obtain ⟨xs, hxs⟩ : ∃ xs, xs = A ++ (L ++ (R ++ C)) := ⟨_, rfl⟩
  obtain ⟨BB, hBB⟩ : ∃ BB, BB = L ++ R := ⟨_, rfl⟩
  have hBl : BB.length = L.length + R.length := by rw [hBB, List.length_append]
  rw [← hT, ← hxs, ← hBB] at hst
  rw [← hxs] at H
  rw [← hT]
  obtain ⟨mm, hmm⟩ : ∃ mm, mm = A.length + L.length := ⟨_, rfl⟩
  rw [← hmm] at hst
  have hmI : m = (mm : Int) := by omega
  subst hmI
  have hi0 : ((mm : Int) - a) = (L.length : Int) := by omega
  have hj0 : (b - (mm : Int)) = (R.length : Int) := by omega
  obtain ⟨li, hli⟩ : ∃ li, li = L.length := ⟨_, rfl⟩
  obtain ⟨rj, hrj⟩ : ∃ rj, rj = R.length := ⟨_, rfl⟩
  rw [← hli, ← hrj] at hst
  rw [← hli] at hi0 hL
  rw [← hrj] at hj0 hR
  have hbnd : A.length + BB.length + C.length = N := by omega
  have hmn : mm ≤ N := by omega
  have HST := Lib.hid hst
  have HI := Lib.hid hi0
  have HJ := Lib.hid hj0
  have HBN := Lib.hid hbnd
  have ha1 : 0 ≤ a := by omega
  have ha2 : a ≤ (mm : Int) := by omega
  have hb1 : (mm : Int) ≤ b := by omega
  have hb2 : b ≤ (N : Int) := by omega
  clear h hN hN2 hst hT hxs hBB hBl hmm hi0 hj0 hli hrj hbnd ha hm hb
  go_enter Tryd.func45, Tryd.ntmps45
  go_wp2_with fail
  rw [HI.out, HJ.out]
  go_loopg [10, 11] (li + rj) (fun gk iv jv wr => ∃ (i j : Nat) (ys : List Nat), i + j = gk ∧ 0 < i ∧ 0 < j ∧ iv = .int .i64 i ∧ jv = .int .i64 j ∧ Rot A BB C mm i j T ys ∧ IRow wr g cap ys ∧ w.grownBy wr (some g))
  case atStart => exact ⟨li, rj, xs, rfl, by omega, by omega, rfl, rfl, HST.out, H.out, grown_refl _ _⟩
  case round =>
    obtain ⟨i, j, ys, hij, hi, hj, rfl, rfl, hrot, hR, hg⟩ := hrel
    have HR := Lib.hid hR
    have HG := Lib.hid hg
    obtain ⟨P, X, Y, Q, hys, hX, hY, hP, hTT, hPB⟩ := hrot
    have hbd := HBN.out
    have hi1 : i < 1000000 := by omega
    have hj1 : j < 1000000 := by omega
    have hmi : i ≤ mm := by omega
    have HYS := Lib.hid hys
    have HX := Lib.hid hX
    have HY := Lib.hid hY
    have HP := Lib.hid hP
    have HPB := Lib.hid hPB
    have HT := Lib.hid hTT
    clear hR hg hys hX hY hP hTT hPB hbd
    by_cases he : i = j
    · have hbe : ((i : Int) != (j : Int)) = false := by simp [he]
      have HE := Lib.hid he
      have hle : i ≤ j := by omega
      clear he
      have hR2 : IRow wr g cap ((A ++ P) ++ (X ++ ([] ++ (Y ++ (Q ++ C))))) := by have := HR.out; rw [HYS.out] at this; simpa using this
      have HR2 := Lib.hid hR2
      clear hR2
      go_wp2_with fail
      refine (swapRange_at g cap (A ++ P) X [] Y (Q ++ C) N (by have := HX.out; have := HY.out; have := HP.out; have := HPB.out; have := HBN.out; simp only [List.length_append, List.length_nil]; omega) _ _ _ (by have := HX.out; have := HP.out; simp only [List.length_append]; omega) (by have := HX.out; have := HP.out; simp only [List.length_append, List.length_nil]; omega) (by have := HX.out; omega) f _ HR2.out hl (by have := HX.out; have := HY.out; have := HE.out; omega)).mono ?_
      rintro e w1 ⟨rfl, hR1, hg1⟩
      have HF := Lib.hid (show IRow w1 g cap T by rw [← HT.out]; simpa using hR1)
      have HG1 := Lib.hid (grown_trans HG.out hg1)
      clear hR1 hg1
      go_wp2
      go_end0
      exact ⟨rfl, HF.out, HG1.out⟩
    · have hbe : ((i : Int) != (j : Int)) = true := bne_iff_ne.2 (by omega)
      by_cases hgt : j < i
      · have hXs : X = X.take j ++ X.drop j := (List.take_append_drop j X).symm
        have hl1 : (X.take j).length = j := by rw [List.length_take]; have := HX.out; omega
        have hl2 : (X.drop j).length = i - j := by rw [List.length_drop]; have := HX.out; omega
        generalize X.take j = X1 at *
        generalize X.drop j = X2 at *
        have hR2 : IRow wr g cap ((A ++ P) ++ (X1 ++ (X2 ++ (Y ++ (Q ++ C))))) := by have := HR.out; rw [HYS.out, hXs] at this; simpa using this
        have HR2 := Lib.hid hR2
        have HXS := Lib.hid hXs
        have HL1 := Lib.hid hl1
        have HL2 := Lib.hid hl2
        clear hR2 he hXs hl1 hl2
        go_wp2_with fail
        refine (swapRange_at g cap (A ++ P) X1 X2 Y (Q ++ C) N (by have := HL1.out; have := HL2.out; have := HY.out; have := HP.out; have := HPB.out; have := HBN.out; simp only [List.length_append]; omega) _ _ _ (by have := HP.out; simp only [List.length_append]; omega) (by have := HP.out; have := HL1.out; have := HL2.out; simp only [List.length_append]; omega) (by have := HL1.out; omega) f _ HR2.out hl (by have := HL1.out; have := HY.out; omega)).mono ?_
        rintro e w1 ⟨rfl, hR1, hg1⟩
        have HR1 := Lib.hid hR1
        have HG1 := Lib.hid (grown_trans HG.out hg1)
        clear hR1 hg1
        go_wp2
        go_roundg (i - j + j)
        case measure => omega
        case rel =>
          refine ⟨i - j, j, _, rfl, by omega, hj, by congr 1; omega, rfl, ⟨P ++ Y, X2, X1, Q, rfl, HL2.out, HL1.out, ?_, ?_, ?_⟩, ?_, HG1.out⟩
          · have := HP.out; have := HY.out; simp only [List.length_append]; omega
          · rw [← HT.out, HXS.out]; simp
          · have := HPB.out; have := HY.out; simp only [List.length_append]; omega
          · simpa using HR1.out
      · have hb1' := hb1
        have hYs : Y = Y.take (j - i) ++ Y.drop (j - i) := (List.take_append_drop (j - i) Y).symm
        have hl1 : (Y.take (j - i)).length = j - i := by rw [List.length_take]; have := HY.out; omega
        have hl2 : (Y.drop (j - i)).length = i := by rw [List.length_drop]; have := HY.out; omega
        generalize Y.take (j - i) = Y1 at *
        generalize Y.drop (j - i) = Y2 at *
        have hR2 : IRow wr g cap ((A ++ P) ++ (X ++ (Y1 ++ (Y2 ++ (Q ++ C))))) := by have := HR.out; rw [HYS.out, hYs] at this; simpa using this
        have HR2 := Lib.hid hR2
        have HYSS := Lib.hid hYs
        have HL1 := Lib.hid hl1
        have HL2 := Lib.hid hl2
        have hlt : i < j := by omega
        clear hR2 he hYs hl1 hl2
        go_wp2_with fail
        refine (swapRange_at g cap (A ++ P) X Y1 Y2 (Q ++ C) N (by have := HL1.out; have := HL2.out; have := HX.out; have := HP.out; have := HPB.out; have := HBN.out; simp only [List.length_append]; omega) _ _ _ (by have := HP.out; simp only [List.length_append]; omega) (by have := HP.out; have := HX.out; have := HL1.out; have := HL2.out; simp only [List.length_append]; omega) (by have := HX.out; omega) f _ HR2.out hl (by have := HL2.out; have := HX.out; omega)).mono ?_
        rintro e w1 ⟨rfl, hR1, hg1⟩
        have HR1 := Lib.hid hR1
        have HG1 := Lib.hid (grown_trans HG.out hg1)
        clear hR1 hg1
        go_wp2
        go_roundg (i + (j - i))
        case measure => omega
        case rel =>
          refine ⟨i, j - i, _, rfl, hi, by omega, rfl, by congr 1; omega, ⟨P, Y2, Y1, X ++ Q, rfl, HL2.out, HL1.out, HP.out, ?_, ?_⟩, ?_, HG1.out⟩
          · rw [← HT.out, HYSS.out]; simp
          · have := HPB.out; have := HX.out; simp only [List.length_append]; omega
          · simpa using HR1.out
end Go.Proofs.YticcccciefaemaaDoor
