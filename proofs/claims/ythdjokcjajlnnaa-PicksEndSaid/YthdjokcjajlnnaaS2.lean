/- Contracts of slices.rotateCmpFunc, symMergeCmpFunc, stableCmpFunc and SortStableFunc at tables: a permutation comes of it. Condition: fewer than 1000000 tables. -/
import Derived.Test.YthdjokcjajlnnaaS1
namespace Go.Proofs.Ythdjokcjajlnnaa
open Go.RowKit Go.Herb

/-- Nothing is answered; the row is a permutation of what it was; nothing else that was there has turned. -/
def Mixed (g cap : Nat) (xs : List T) (w : World) (e : Ending) (w' : World) : Prop :=
  e = .returned (.tuple #[]) ∧ ∃ ys : List T, ys.Perm xs ∧ TRow w' g cap ys ∧ w.grownBy w' (some g)

theorem swapRange_at (g cap N : Nat) (xs : List T) (hN : xs.length = N) (a b n : Int) (f : Value) (w : World) (h : TRow w g cap xs) (hl : N < 1000000) (ha : 0 ≤ a) (hn : 0 ≤ n) (hab : a + n ≤ b) (hb : b + n ≤ N) :
    Calls Try.prog 44 #[.slice (some ⟨g, 0, none⟩) N cap, .int .i64 a, .int .i64 b, .int .i64 n, f] w (Mixed g cap xs w) := by
  subst hN
  obtain ⟨a, rfl⟩ := Int.eq_ofNat_of_zero_le ha
  obtain ⟨n, rfl⟩ := Int.eq_ofNat_of_zero_le hn
  obtain ⟨b, rfl⟩ := Int.eq_ofNat_of_zero_le (show 0 ≤ b by omega)
  exact swapRange_any g cap xs a b n f w h hl (by omega) (by omega)

theorem insertion_at (g cap N : Nat) (xs : List T) (hN : xs.length = N) (a b : Int) (w : World) (h : TRow w g cap xs) (hl : N < 1000000) (ha : 0 ≤ a) (hab : a ≤ b) (hb : b ≤ N) :
    Calls Try.prog 38 #[.slice (some ⟨g, 0, none⟩) N cap, .int .i64 a, .int .i64 b, .func (.func 22) #[] #[]] w (Mixed g cap xs w) := by
  subst hN
  obtain ⟨a, rfl⟩ := Int.eq_ofNat_of_zero_le ha
  obtain ⟨b, rfl⟩ := Int.eq_ofNat_of_zero_le (show 0 ≤ b by omega)
  exact insertion_any g cap xs a b w h hl (by omega) (by omega)

set_option maxHeartbeats 1000000 in
theorem rotate_at (g cap N : Nat) (xs : List T) (hN : xs.length = N) (a m b : Int) (f : Value) (w : World) (h : TRow w g cap xs) (hl : N < 1000000) (ha : 0 ≤ a) (ham : a < m) (hmb : m < b) (hb : b ≤ N) :
    Calls Try.prog 42 #[.slice (some ⟨g, 0, none⟩) N cap, .int .i64 a, .int .i64 m, .int .i64 b, f] w (Mixed g cap xs w) := by
  have H := Lib.hid h
  have HN := Lib.hid hN
  clear h hN
  go_enter Try.func42, Try.ntmps42
  go_wp2_with fail
  go_loopg [10, 11] (b - a).toNat (fun gk iv jv wr => ∃ (i j : Int) (ys : List T), (i + j).toNat = gk ∧ 0 < i ∧ 0 < j ∧ a + i ≤ m ∧ m + j ≤ b ∧ iv = .int .i64 i ∧ jv = .int .i64 j ∧ ys.Perm xs ∧ TRow wr g cap ys ∧ w.grownBy wr (some g))
  case atStart => exact ⟨m - a, b - m, xs, by omega, by omega, by omega, by omega, by omega, rfl, rfl, .refl _, H.out, grown_refl _ _⟩
  case round =>
    obtain ⟨i, j, ys, hij, hi, hj, hai, hmj, rfl, rfl, hp, hR, hg⟩ := hrel
    have hyl : ys.length = N := by rw [hp.length_eq]; exact HN.out
    have HYL := Lib.hid hyl
    have HP := Lib.hid hp
    have HR := Lib.hid hR
    have HG := Lib.hid hg
    clear hyl hp hR hg
    by_cases he : i = j
    · have hb1 : (i != j) = false := by simp [he]
      have HE := Lib.hid he
      have hle : i ≤ j := by omega
      clear he
      go_wp2_with fail
      refine (swapRange_at g cap N ys HYL.out _ _ _ f _ HR.out hl (by omega) (by omega) (by omega) (by omega)).mono ?_
      rintro e w1 ⟨rfl, zs, hp1, hR1, hg1⟩
      have HF := Lib.hid (⟨zs, hp1.trans HP.out, hR1, grown_trans HG.out hg1⟩ : ∃ zs : List T, zs.Perm xs ∧ TRow w1 g cap zs ∧ w.grownBy w1 (some g))
      clear hp1 hR1 hg1
      go_wp2
      go_end0
      exact ⟨rfl, HF.out⟩
    · have hb1 : (i != j) = true := by simp [he]
      clear he
      by_cases hgt : j < i
      · go_wp2_with fail
        refine (swapRange_at g cap N ys HYL.out _ _ _ f _ HR.out hl (by omega) (by omega) (by omega) (by omega)).mono ?_
        rintro e w1 ⟨rfl, zs, hp1, hR1, hg1⟩
        have HP1 := Lib.hid (hp1.trans HP.out)
        have HR1 := Lib.hid hR1
        have HG1 := Lib.hid (grown_trans HG.out hg1)
        clear hp1 hR1 hg1
        go_wp2
        go_roundg (i - j + j).toNat
        case measure => omega
        case rel => exact ⟨i - j, j, zs, rfl, by omega, hj, by omega, by omega, rfl, rfl, HP1.out, HR1.out, HG1.out⟩
      · have hb1' := hb1
        simp at hb1'
        go_wp2_with fail
        refine (swapRange_at g cap N ys HYL.out _ _ _ f _ HR.out hl (by omega) (by omega) (by omega) (by omega)).mono ?_
        rintro e w1 ⟨rfl, zs, hp1, hR1, hg1⟩
        have HP1 := Lib.hid (hp1.trans HP.out)
        have HR1 := Lib.hid hR1
        have HG1 := Lib.hid (grown_trans HG.out hg1)
        clear hp1 hR1 hg1
        go_wp2
        go_roundg (i + (j - i)).toNat
        case measure => omega
        case rel => exact ⟨i, j - i, zs, rfl, hi, by omega, by omega, by omega, rfl, rfl, HP1.out, HR1.out, HG1.out⟩
end Go.Proofs.Ythdjokcjajlnnaa
