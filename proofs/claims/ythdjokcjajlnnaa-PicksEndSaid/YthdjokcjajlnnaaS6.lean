/- Contract of slices.SortStableFunc at tables: a permutation of what was. Condition: fewer than 1000000 tables. -/
import Derived.Test.YthdjokcjajlnnaaS5
namespace Go.Proofs.Ythdjokcjajlnnaa
open Go.RowKit Go.Herb

theorem symOk (g cap N : Nat) (hl : N < 1000000) : ∀ k, SymOk g cap N k := by
  intro k
  induction k with
  | zero => intro xs w a m b _ _ h0 h1 h2 h3 h4; omega
  | succ k ih =>
    intro xs w a m b hN hR h0 h1 h2 h3 h4
    obtain ⟨a, rfl⟩ := Int.eq_ofNat_of_zero_le h0
    obtain ⟨m, rfl⟩ := Int.eq_ofNat_of_zero_le (show 0 ≤ m by omega)
    obtain ⟨b, rfl⟩ := Int.eq_ofNat_of_zero_le (show 0 ≤ b by omega)
    by_cases hm : m = a + 1
    · subst hm
      exact symA g cap N xs hN a b w hR hl (by omega) (by omega)
    · by_cases hb : b = m + 1
      · subst hb
        exact symB g cap N xs hN a m w hR hl (by omega) (by omega)
      · exact symC g cap N xs hN a m b w hR hl (by omega) (by omega) (by omega) (fun xs w a' m' b' q1 q2 q3 q4 q5 q6 q7 => ih xs w a' m' b' q1 q2 q3 q4 q5 q6 (by omega))

theorem sym_at (g cap N : Nat) (xs : List T) (hN : xs.length = N) (a m b : Int) (w : World) (h : TRow w g cap xs) (hl : N < 1000000) (ha : 0 ≤ a) (ham : a < m) (hmb : m < b) (hb : b ≤ N) :
    Calls Try.prog 39 #[.slice (some ⟨g, 0, none⟩) N cap, .int .i64 a, .int .i64 m, .int .i64 b, .func (.func 22) #[] #[]] w (Mixed g cap xs w) :=
  symOk g cap N hl N xs w a m b hN h ha ham hmb hb (by omega)

set_option maxHeartbeats 2000000 in
theorem stable_at (g cap N : Nat) (xs : List T) (hN : xs.length = N) (w : World) (h : TRow w g cap xs) (hl : N < 1000000) :
    Calls Try.prog 33 #[.slice (some ⟨g, 0, none⟩) N cap, .int .i64 N, .func (.func 22) #[] #[]] w (Mixed g cap xs w) := by
  have H := Lib.hid h
  have HN := Lib.hid hN
  clear h hN
  go_enter Try.func33, Try.ntmps33
  go_wp2_with fail
  go_loopg [7, 8] (N + 20) (fun gk av bv wr => ∃ (a : Nat) (ys : List T), a + gk = N + 20 ∧ a ≤ N ∧ av = .int .i64 a ∧ bv = .int .i64 ((a : Int) + 20) ∧ ys.Perm xs ∧ TRow wr g cap ys ∧ w.grownBy wr (some g))
  case atStart => exact ⟨0, xs, by omega, by omega, rfl, by go_num, .refl _, H.out, grown_refl _ _⟩
  case round =>
    obtain ⟨a, ys, hgk, haN, rfl, rfl, hp, hR, hg⟩ := hrel
    have hyl : ys.length = N := by rw [hp.length_eq]; exact HN.out
    have HYL := Lib.hid hyl
    have HP := Lib.hid hp
    have HR := Lib.hid hR
    have HG := Lib.hid hg
    clear hyl hp hR hg
    by_cases hlt : a + 20 ≤ N
    · go_wp2_with fail
      refine (insertion_at g cap N ys HYL.out _ _ _ HR.out hl (by omega) (by omega) (by omega)).mono ?_
      rintro e w1 ⟨rfl, zs, hp1, hR1, hg1⟩
      have HP1 := Lib.hid (hp1.trans HP.out)
      have HR1 := Lib.hid hR1
      have HG1 := Lib.hid (grown_trans HG.out hg1)
      clear hp1 hR1 hg1
      go_wp2
      go_roundg (gk - 20)
      case measure => omega
      case rel => exact ⟨a + 20, zs, by omega, by omega, by go_num, by go_num, HP1.out, HR1.out, HG1.out⟩
    · go_wp2_with fail
      refine (insertion_at g cap N ys HYL.out _ _ _ HR.out hl (by omega) (by omega) (by omega)).mono ?_
      rintro e w1 ⟨rfl, zs, hp1, hR1, hg1⟩
      have HP1 := Lib.hid (hp1.trans HP.out)
      have HR1 := Lib.hid hR1
      have HG1 := Lib.hid (grown_trans HG.out hg1)
      clear hp1 hR1 hg1 HYL HP HR HG
      go_wp2_with fail
      go_loopg [6] (N + 1) (fun gk sv wr => ∃ (bs : Nat) (ys : List T), (N + 1 ≤ bs + gk) ∧ 1 ≤ bs ∧ bs ≤ 2 * N + 20 ∧ sv = .int .i64 bs ∧ ys.Perm xs ∧ TRow wr g cap ys ∧ w.grownBy wr (some g))
      case atStart => exact ⟨20, zs, by omega, by omega, by omega, rfl, HP1.out, HR1.out, HG1.out⟩
      case round =>
        obtain ⟨bs, ys, hgk2, hbs1, hbs2, rfl, hp, hR, hg⟩ := hrel
        have HP := Lib.hid hp
        have HR := Lib.hid hR
        have HG := Lib.hid hg
        clear hp hR hg HP1 HR1 HG1
        by_cases hlt2 : bs < N
        · obtain ⟨gi, hgi⟩ : ∃ gi : Nat, gi = gk := ⟨_, rfl⟩
          have hgi1 : gi ≤ gk := by omega
          have hgi2 : gk ≤ gi := by omega
          clear hgi
          obtain ⟨wo, rfl⟩ : ∃ wo : World, wo = wr := ⟨_, rfl⟩
          go_wp2_with fail
          go_loopg [7, 8] (N + 2 * bs) (fun gk av bv wr => ∃ (a : Nat) (ys : List T), a + gk = N + 2 * bs ∧ a ≤ N ∧ av = .int .i64 a ∧ bv = .int .i64 ((a : Int) + 2 * bs) ∧ ys.Perm xs ∧ TRow wr g cap ys ∧ w.grownBy wr (some g))
          case atStart => exact ⟨0, ys, by omega, by omega, rfl, by go_num, HP.out, HR.out, HG.out⟩
          case round =>
            obtain ⟨a2, y2, hgk3, haN2, rfl, rfl, hp, hR, hg⟩ := hrel
            have hyl : y2.length = N := by rw [hp.length_eq]; exact HN.out
            have HYL := Lib.hid hyl
            have HP2 := Lib.hid hp
            have HR2 := Lib.hid hR
            have HG2 := Lib.hid hg
            clear hyl hp hR hg
            by_cases hlt3 : a2 + 2 * bs ≤ N
            · go_wp2_with fail
              refine (sym_at g cap N y2 HYL.out _ _ _ _ HR2.out hl (by omega) (by omega) (by omega) (by omega)).mono ?_
              rintro e w1 ⟨rfl, zs, hp1, hR1, hg1⟩
              have HP1 := Lib.hid (hp1.trans HP2.out)
              have HR1 := Lib.hid hR1
              have HG1 := Lib.hid (grown_trans HG2.out hg1)
              clear hp1 hR1 hg1
              go_wp2
              go_roundg (gk - 2 * bs)
              case measure => omega
              case rel => exact ⟨a2 + 2 * bs, zs, by omega, by omega, by go_num, by go_num, HP1.out, HR1.out, HG1.out⟩
            · by_cases hm : a2 + bs < N
              · go_wp2_with fail
                refine (sym_at g cap N y2 HYL.out _ _ _ _ HR2.out hl (by omega) (by omega) (by omega) (by omega)).mono ?_
                rintro e w1 ⟨rfl, zs, hp1, hR1, hg1⟩
                have HP1 := Lib.hid (hp1.trans HP2.out)
                have HR1 := Lib.hid hR1
                have HG1 := Lib.hid (grown_trans HG2.out hg1)
                clear hp1 hR1 hg1
                go_wp2
                go_roundg (N + 1 - 2 * bs)
                case measure => omega
                case rel => exact ⟨bs * 2, zs, by omega, by omega, by omega, by go_num, HP1.out, HR1.out, HG1.out⟩
              · go_wp2
                go_roundg (N + 1 - 2 * bs)
                case measure => omega
                case rel => exact ⟨bs * 2, y2, by omega, by omega, by omega, by go_num, HP2.out, HR2.out, HG2.out⟩
        · go_wp2
          go_end0
          exact ⟨rfl, ys, HP.out, HR.out, HG.out⟩

set_option maxHeartbeats 400000 in
theorem sortStable_at (g cap N : Nat) (xs : List T) (hN : xs.length = N) (w : World) (h : TRow w g cap xs) (hl : N < 1000000) :
    Calls Try.prog 21 #[.slice (some ⟨g, 0, none⟩) N cap, .func (.func 22) #[] #[]] w (Mixed g cap xs w) := by
  go_enter Try.func21, Try.ntmps21
  go_wp2_with fail
  refine (stable_at g cap N xs hN w h hl).mono ?_
  rintro e w1 ⟨rfl, zs, hp1, hR1, hg1⟩
  have HF := Lib.hid (⟨zs, hp1, hR1, hg1⟩ : ∃ zs : List T, zs.Perm xs ∧ TRow w1 g cap zs ∧ w.grownBy w1 (some g))
  clear hp1 hR1 hg1 h hN
  go_wp2
  go_end0
  exact ⟨rfl, HF.out⟩
end Go.Proofs.Ythdjokcjajlnnaa
