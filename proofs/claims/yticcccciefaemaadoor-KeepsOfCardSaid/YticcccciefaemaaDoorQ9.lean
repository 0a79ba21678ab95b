/- Contract of slices.SortStableFunc at places, by commits. Condition: fewer than 1000000 places. -/
import Derived.Test.YticcccciefaemaaDoorQ8
namespace Go.Proofs.YticcccciefaemaaDoor
open Go.RowKit Go.Shelf Go.Herb

theorem symOk (g cap bl cl : Nat) (al : Option Addr) (xs : List Fc) (N : Nat) (hl : N < 1000000) : ∀ k, SymOk g cap bl cl al xs N k := by
  intro k
  induction k with
  | zero => intro A L R C w a m b _ _ _ _ _ _ _ _ _ _ h1 h2 h3; omega
  | succ k ih =>
    intro A L R C w a m b hN ha hm hb hR hE hx hL hRs hLR h1 h2 h3
    subst ha
    have em : m = ((A.length + L.length : Nat) : Int) := by omega
    have eb : b = ((A.length + L.length + R.length : Nat) : Int) := by omega
    subst em eb
    by_cases c1 : L.length = 1
    · obtain ⟨z, rfl⟩ := List.length_eq_one_iff.1 c1
      have e : ((A.length + [z].length : Nat) : Int) = (A.length : Int) + 1 := by simp
      rw [e]
      exact symA g cap bl cl al xs A z R C N (by simpa using hN) A.length _ rfl (by simp) w (by simpa using hR) hE hl (by simpa using hx) hRs (by simpa using hLR) h2
    · by_cases c2 : R.length = 1
      · obtain ⟨z, rfl⟩ := List.length_eq_one_iff.1 c2
        have e : ((A.length + L.length + [z].length : Nat) : Int) = ((A.length + L.length : Nat) : Int) + 1 := by simp
        rw [e]
        exact symB g cap bl cl al xs A L z C N (by simpa using hN) A.length _ rfl rfl w (by simpa using hR) hE hl (by simpa using hx) hL (by simpa using hLR) (by omega)
      · exact symC g cap bl cl al xs A L R C N hN A.length _ _ rfl rfl rfl w hR hE hl hx hL hRs hLR (by omega) (by omega) (fun A L R C w a m b q1 q2 q3 q4 q5 q6 q7 q8 q9 q10 q11 q12 q13 => ih A L R C w a m b q1 q2 q3 q4 q5 q6 q7 q8 q9 q10 q11 q12 (by omega))

theorem sym_at (g cap bl cl : Nat) (al : Option Addr) (xs : List Fc) (N : Nat) (A L R C : List Nat) (w : World) (a m b : Int) (hN : (A ++ (L ++ (R ++ C))).length = N) (ha : a = A.length) (hm : m = A.length + L.length) (hb : b = A.length + L.length + R.length)
    (h : IRow w g cap (A ++ (L ++ (R ++ C)))) (hE : CEnv g w bl al cl xs) (hx : ∀ i ∈ A ++ (L ++ (R ++ C)), i < xs.length) (hL : SrtI (sqF xs) L) (hR : SrtI (sqF xs) R) (hLR : ∀ x ∈ L, ∀ y ∈ R, x < y) (h0 : 0 < L.length) (h1 : 0 < R.length) (hl : N < 1000000) :
    Calls Tryd.prog (43) #[.slice (some ⟨g, 0, none⟩) N cap, .int .i64 a, .int .i64 m, .int .i64 b, ordV bl] w (SegPost (sqF xs) g cap A (L ++ R) C w) :=
  symOk g cap bl cl al xs N hl _ A L R C w a m b hN ha hm hb h hE hx hL hR hLR h0 h1 (Nat.le_refl _)

/-- Between two blocks: what is done, what stays. -/
def PassI (sq : Nat → Int) (n k : Nat) (is : List Nat) (a : Nat) (ys : List Nat) : Prop := ∃ X xr D rest, is = X ++ xr ∧ ys = D ++ rest ∧ D.length = a ∧ D.Perm X ∧ Pre sq n X D ∧ Chk sq k xr rest
theorem PassI.start {sq : Nat → Int} {n k : Nat} {is ys : List Nat} (h : Chk sq k is ys) : PassI sq n k is 0 ys := ⟨[], is, [], ys, rfl, rfl, rfl, .refl _, Pre.nil, h⟩
theorem PassI.perm {sq : Nat → Int} {n k a : Nat} {is ys : List Nat} (h : PassI sq n k is a ys) : ys.Perm is := by
  obtain ⟨X, xr, D, rest, rfl, rfl, _, hp, _, hc⟩ := h
  exact hp.append hc.perm
/-- Two blocks are merged. -/
theorem PassI.two {sq : Nat → Int} {n a : Nat} {is ys : List Nat} (h : PassI sq (2 * n) n is a ys) (hl : a + 2 * n ≤ ys.length) (hS : Asc is) :
    ∃ A L R C, ys = A ++ (L ++ (R ++ C)) ∧ A.length = a ∧ L.length = n ∧ R.length = n ∧ SrtI sq L ∧ SrtI sq R ∧ (∀ x ∈ L, ∀ y ∈ R, x < y) ∧ ∀ P, P.Perm (L ++ R) → SrtI sq P → PassI sq (2 * n) n is (a + 2 * n) (A ++ (P ++ C)) := by
  obtain ⟨X, xr, D, rest, rfl, rfl, hD, hp, hpre, hc⟩ := h
  rw [List.length_append] at hl
  obtain ⟨X1, x2, L, r2, rfl, rfl, hX1, hL, hpL, hsL, hc2⟩ := hc.head (by omega)
  rw [List.length_append] at hl
  obtain ⟨X2, x3, R, r3, rfl, rfl, hX2, hR, hpR, hsR, hc3⟩ := hc2.head (by omega)
  refine ⟨D, L, R, r3, rfl, hD, hL, hR, hsL, hsR, ?_, ?_⟩
  · have h1 := hS.app.2.1
    rw [← List.append_assoc] at h1
    exact h1.app.1.across hpL hpR
  · intro P hP hs
    have hP2 : P.Perm (X1 ++ X2) := hP.trans (hpL.append hpR)
    refine ⟨X ++ (X1 ++ X2), x3, D ++ P, r3, by simp, by simp, ?_, hp.append hP2, hpre.snoc (by rw [List.length_append]; omega) hP2 hs, hc3⟩
    have := hP.length_eq
    rw [List.length_append] at this ⊢
    omega

/-- A last block and a shorter one are merged. -/
theorem PassI.tail {sq : Nat → Int} {n a : Nat} {is ys : List Nat} (h : PassI sq (2 * n) n is a ys) (h1 : a + n < ys.length) (h2 : ys.length < a + 2 * n) (hS : Asc is) :
    ∃ A L R, ys = A ++ (L ++ (R ++ [])) ∧ A.length = a ∧ L.length = n ∧ 0 < R.length ∧ SrtI sq L ∧ SrtI sq R ∧ (∀ x ∈ L, ∀ y ∈ R, x < y) ∧ ∀ P, P.Perm (L ++ R) → SrtI sq P → Chk sq (2 * n) is (A ++ (P ++ [])) := by
  obtain ⟨X, xr, D, rest, rfl, rfl, hD, hp, hpre, hc⟩ := h
  rw [List.length_append] at h1 h2
  obtain ⟨X1, x2, L, r2, rfl, rfl, hX1, hL, hpL, hsL, hc2⟩ := hc.head (by omega)
  rw [List.length_append] at h1 h2
  refine ⟨D, L, r2, by simp, hD, hL, by omega, hsL, hc2.one (by omega), hS.app.2.1.across hpL hc2.perm, ?_⟩
  intro P hP hs
  rw [List.append_nil]
  have hP2 : P.Perm (X1 ++ x2) := hP.trans (hpL.append hc2.perm)
  refine hpre _ _ (.last _ _ ?_ hP2 hs)
  have h4 := hc2.len
  rw [List.length_append]
  omega

/-- A last block alone stays. -/
theorem PassI.stay {sq : Nat → Int} {n k a : Nat} {is ys : List Nat} (h : PassI sq n k is a ys) (h1 : ys.length ≤ a + k) (hk : k ≤ n) : Chk sq n is ys := by
  obtain ⟨X, xr, D, rest, rfl, rfl, hD, hp, hpre, hc⟩ := h
  rw [List.length_append] at h1
  refine hpre _ _ (.last _ _ ?_ hc.perm (hc.one (by omega)))
  have := hc.len
  omega

/-- Between two blocks that are sorted by insertion. -/
def InsP (sq : Nat → Int) (n : Nat) (is : List Nat) (a : Nat) (ys : List Nat) : Prop := ∃ X D xr, is = X ++ xr ∧ ys = D ++ xr ∧ D.length = a ∧ D.Perm X ∧ Pre sq n X D
theorem InsP.start {sq : Nat → Int} {n : Nat} (is : List Nat) : InsP sq n is 0 is := ⟨[], [], is, rfl, rfl, rfl, .refl _, Pre.nil⟩
theorem InsP.perm {sq : Nat → Int} {n a : Nat} {is ys : List Nat} (h : InsP sq n is a ys) : ys.Perm is := by
  obtain ⟨X, D, xr, rfl, rfl, _, hp, _⟩ := h
  exact hp.append_right _
theorem InsP.block {sq : Nat → Int} {n a : Nat} {is ys : List Nat} (h : InsP sq n is a ys) (hl : a + n ≤ ys.length) (hS : Asc is) :
    ∃ A S C, ys = A ++ (S ++ C) ∧ A.length = a ∧ S.length = n ∧ Asc S ∧ ∀ P, P.Perm S → SrtI sq P → InsP sq n is (a + n) (A ++ (P ++ C)) := by
  obtain ⟨X, D, xr, rfl, rfl, hD, hp, hpre⟩ := h
  rw [List.length_append] at hl
  have h1 : (xr.take n).length = n := by rw [List.length_take]; omega
  refine ⟨D, xr.take n, xr.drop n, by rw [List.take_append_drop], hD, h1, List.Pairwise.sublist (List.take_sublist _ _) hS.app.2.1, ?_⟩
  intro P hP hs
  refine ⟨X ++ xr.take n, D ++ P, xr.drop n, by rw [List.append_assoc, List.take_append_drop], by simp, ?_, hp.append hP, hpre.snoc h1 hP hs⟩
  rw [List.length_append, hP.length_eq]
  omega
theorem InsP.last {sq : Nat → Int} {n a : Nat} {is ys : List Nat} (h : InsP sq n is a ys) (hl : ys.length ≤ a + n) (hS : Asc is) :
    ∃ A S, ys = A ++ (S ++ []) ∧ A.length = a ∧ Asc S ∧ ∀ P, P.Perm S → SrtI sq P → Chk sq n is (A ++ (P ++ [])) := by
  obtain ⟨X, D, xr, rfl, rfl, hD, hp, hpre⟩ := h
  rw [List.length_append] at hl
  refine ⟨D, xr, by simp, hD, hS.app.2.1, ?_⟩
  intro P hP hs
  rw [List.append_nil]
  exact hpre _ _ (.last _ _ (by omega) hP hs)

/-- Nothing is answered; the row is sorted. -/
def AllPost (sq : Nat → Int) (g cap : Nat) (is : List Nat) (w : World) (e : Ending) (w' : World) : Prop :=
  e = .returned (.tuple #[]) ∧ ∃ P, P.Perm is ∧ SrtI sq P ∧ IRow w' g cap P ∧ w.grownBy w' (some g)

set_option maxHeartbeats 4000000 in
theorem stable_any (g cap bl cl : Nat) (al : Option Addr) (xs : List Fc) (is : List Nat) (N : Nat) (hN : is.length = N) (w : World) (h : IRow w g cap is) (hE : CEnv g w bl al cl xs) (hl : N < 1000000) (hx : ∀ i ∈ is, i < xs.length) (hS : Asc is) :
    Calls Tryd.prog (37) #[.slice (some ⟨g, 0, none⟩) N cap, .int .i64 N, ordV bl] w (AllPost (sqF xs) g cap is w) := by
  have H := Lib.hid h
  have HE := Lib.hid hE
  have HN := Lib.hid hN
  have HX := Lib.hid hx
  have HS := Lib.hid hS
  clear h hE hN hx hS
  go_enter Tryd.func37, Tryd.ntmps37
  go_wp2_with fail
  go_loopg [7, 8] (N + 20) (fun gk av bv wr => ∃ (a : Nat) (ys : List Nat), a + gk = N + 20 ∧ a ≤ N ∧ av = .int .i64 a ∧ bv = .int .i64 ((a : Int) + 20) ∧ InsP (sqF xs) 20 is a ys ∧ IRow wr g cap ys ∧ w.grownBy wr (some g))
  case atStart => exact ⟨0, is, by omega, by omega, rfl, by go_num, InsP.start is, H.out, grown_refl _ _⟩
  case round =>
    obtain ⟨a, ys, hgk, haN, rfl, rfl, hp, hR, hg⟩ := hrel
    have hyl : ys.length = N := by rw [hp.perm.length_eq]; exact HN.out
    have HYL := Lib.hid hyl
    have HP := Lib.hid hp
    have HR := Lib.hid hR
    have HG := Lib.hid hg
    clear hyl hp hR hg
    by_cases hlt : a + 20 ≤ N
    · obtain ⟨A, S, C, hys, hA, hSl, hSa, hnext⟩ := HP.out.block (by have := HYL.out; omega) HS.out
      have HYS := Lib.hid hys
      have HA := Lib.hid hA
      have HSL := Lib.hid hSl
      have HSA := Lib.hid hSa
      have HNX := Lib.hid hnext
      clear hys hA hSl hSa hnext
      go_wp2_with fail
      refine (insertion_any g cap bl cl al xs A S C N (by rw [← HYS.out]; exact HYL.out) _ _ (by have := HA.out; omega) (by have := HA.out; have := HSL.out; omega) _ (by rw [← HYS.out]; exact HR.out) (HE.out.grown HG.out) hl (by rw [← HYS.out]; exact fun i hi => HX.out i (HP.out.perm.mem_iff.1 hi)) HSA.out).mono ?_
      rintro e w1 ⟨rfl, P, hp1, hs1, hR1, hg1⟩
      have HP1 := Lib.hid (HNX.out P hp1 hs1)
      have HR1 := Lib.hid hR1
      have HG1 := Lib.hid (grown_trans HG.out hg1)
      clear hp1 hs1 hR1 hg1
      go_wp2
      go_roundg (gk - 20)
      case measure => omega
      case rel => exact ⟨a + 20, _, by omega, by omega, by go_num, by go_num, HP1.out, HR1.out, HG1.out⟩
    · obtain ⟨A, S, hys, hA, hSa, hnext⟩ := HP.out.last (by have := HYL.out; omega) HS.out
      have hAS : A.length + S.length = N := by have := HYL.out; rw [hys] at this; simpa using this
      have HYS := Lib.hid hys
      have HA := Lib.hid hA
      have HAS := Lib.hid hAS
      have HSA := Lib.hid hSa
      have HNX := Lib.hid hnext
      clear hys hA hAS hSa hnext
      go_wp2_with fail
      refine (insertion_any g cap bl cl al xs A S [] N (by rw [← HYS.out]; exact HYL.out) _ _ (by have := HA.out; omega) (by have := HAS.out; omega) _ (by rw [← HYS.out]; exact HR.out) (HE.out.grown HG.out) hl (by rw [← HYS.out]; exact fun i hi => HX.out i (HP.out.perm.mem_iff.1 hi)) HSA.out).mono ?_
      rintro e w1 ⟨rfl, P, hp1, hs1, hR1, hg1⟩
      have HP1 := Lib.hid (HNX.out P hp1 hs1)
      have HR1 := Lib.hid hR1
      have HG1 := Lib.hid (grown_trans HG.out hg1)
      clear hp1 hs1 hR1 hg1 HYL HP HR HG
      go_wp2_with fail
      go_loopg [6] (N + 1) (fun gk sv wr => ∃ (bs : Nat) (ys : List Nat), (N + 1 ≤ bs + gk) ∧ 1 ≤ bs ∧ bs ≤ 2 * N + 20 ∧ sv = .int .i64 bs ∧ Chk (sqF xs) bs is ys ∧ IRow wr g cap ys ∧ w.grownBy wr (some g))
      case atStart => exact ⟨20, _, by omega, by omega, by omega, rfl, HP1.out, HR1.out, HG1.out⟩
      case round =>
        obtain ⟨bs, ys, hgk2, hbs1, hbs2, rfl, hp, hR, hg⟩ := hrel
        have HP := Lib.hid hp
        have HR := Lib.hid hR
        have HG := Lib.hid hg
        clear hp hR hg HP1 HR1 HG1
        by_cases hlt2 : bs < N
        · obtain ⟨gi, hgi⟩ : ∃ gi : Nat, gi = gk := ⟨_, rfl⟩
          have hgi1 : gi ≤ gk := by omega
          have hgi2 : gk ≤ gi := by omega
          clear hgi
          obtain ⟨wo, rfl⟩ : ∃ wo : World, wo = wr := ⟨_, rfl⟩
          go_wp2_with fail
          go_loopg [7, 8] (N + 2 * bs) (fun gk av bv wr => ∃ (a : Nat) (ys : List Nat), a + gk = N + 2 * bs ∧ a ≤ N ∧ av = .int .i64 a ∧ bv = .int .i64 ((a : Int) + 2 * bs) ∧ PassI (sqF xs) (2 * bs) bs is a ys ∧ IRow wr g cap ys ∧ w.grownBy wr (some g))
          case atStart => exact ⟨0, ys, by omega, by omega, rfl, by go_num, PassI.start HP.out, HR.out, HG.out⟩
          case round =>
            obtain ⟨a2, y2, hgk3, haN2, rfl, rfl, hp, hR, hg⟩ := hrel
            have hyl : y2.length = N := by rw [hp.perm.length_eq]; exact HN.out
            have HYL := Lib.hid hyl
            have HP2 := Lib.hid hp
            have HR2 := Lib.hid hR
            have HG2 := Lib.hid hg
            clear hyl hp hR hg
            by_cases hlt3 : a2 + 2 * bs ≤ N
            · obtain ⟨A2, L, R, C, hys, hA2, hL, hRl, hsL, hsR, hLR, hnext⟩ := HP2.out.two (by have := HYL.out; omega) HS.out
              have HYS2 := Lib.hid hys
              have HA2 := Lib.hid hA2
              have HLL := Lib.hid hL
              have HRL := Lib.hid hRl
              have HSL2 := Lib.hid hsL
              have HSR2 := Lib.hid hsR
              have HLR := Lib.hid hLR
              have HNX2 := Lib.hid hnext
              clear hys hA2 hL hRl hsL hsR hLR hnext
              go_wp2_with fail
              refine (sym_at g cap bl cl al xs N A2 L R C _ _ _ _ (by rw [← HYS2.out]; exact HYL.out) (by have := HA2.out; omega) (by have := HA2.out; have := HLL.out; omega) (by have := HA2.out; have := HLL.out; have := HRL.out; omega) (by rw [← HYS2.out]; exact HR2.out) (HE.out.grown HG2.out) (by rw [← HYS2.out]; exact fun i hi => HX.out i (HP2.out.perm.mem_iff.1 hi)) HSL2.out HSR2.out HLR.out (by have := HLL.out; omega) (by have := HRL.out; omega) hl).mono ?_
              rintro e w1 ⟨rfl, P, hp1, hs1, hR1, hg1⟩
              have HP1 := Lib.hid (HNX2.out P hp1 hs1)
              have HR1 := Lib.hid hR1
              have HG1 := Lib.hid (grown_trans HG2.out hg1)
              clear hp1 hs1 hR1 hg1
              go_wp2
              go_roundg (gk - 2 * bs)
              case measure => omega
              case rel => exact ⟨a2 + 2 * bs, _, by omega, by omega, by go_num, by go_num, HP1.out, HR1.out, HG1.out⟩
            · by_cases hm : a2 + bs < N
              · obtain ⟨A2, L, R, hys, hA2, hL, hRl, hsL, hsR, hLR, hnext⟩ := HP2.out.tail (by have := HYL.out; omega) (by have := HYL.out; omega) HS.out
                have hAS2 : A2.length + L.length + R.length = N := by have := HYL.out; rw [hys] at this; simp only [List.length_append, List.length_nil] at this; omega
                have HYS2 := Lib.hid hys
                have HA2 := Lib.hid hA2
                have HLL := Lib.hid hL
                have HRL := Lib.hid hRl
                have HSL2 := Lib.hid hsL
                have HSR2 := Lib.hid hsR
                have HLR := Lib.hid hLR
                have HNX2 := Lib.hid hnext
                have HAS2 := Lib.hid hAS2
                clear hys hA2 hL hRl hsL hsR hLR hnext hAS2
                go_wp2_with fail
                refine (sym_at g cap bl cl al xs N A2 L R [] _ _ _ _ (by rw [← HYS2.out]; exact HYL.out) (by have := HA2.out; omega) (by have := HA2.out; have := HLL.out; omega) (by have := HAS2.out; omega) (by rw [← HYS2.out]; exact HR2.out) (HE.out.grown HG2.out) (by rw [← HYS2.out]; exact fun i hi => HX.out i (HP2.out.perm.mem_iff.1 hi)) HSL2.out HSR2.out HLR.out (by have := HLL.out; omega) HRL.out hl).mono ?_
                rintro e w1 ⟨rfl, P, hp1, hs1, hR1, hg1⟩
                have HP1 := Lib.hid (show Chk (sqF xs) (bs * 2) is (A2 ++ (P ++ [])) by rw [Nat.mul_comm]; exact HNX2.out P hp1 hs1)
                have HR1 := Lib.hid hR1
                have HG1 := Lib.hid (grown_trans HG2.out hg1)
                clear hp1 hs1 hR1 hg1
                go_wp2
                go_roundg (N + 1 - 2 * bs)
                case measure => omega
                case rel => exact ⟨bs * 2, _, by omega, by omega, by omega, by go_num, HP1.out, HR1.out, HG1.out⟩
              · have HP1 := Lib.hid (show Chk (sqF xs) (bs * 2) is y2 by rw [Nat.mul_comm]; exact HP2.out.stay (by have := HYL.out; omega) (by omega))
                go_wp2
                go_roundg (N + 1 - 2 * bs)
                case measure => omega
                case rel => exact ⟨bs * 2, y2, by omega, by omega, by omega, by go_num, HP1.out, HR2.out, HG2.out⟩
        · go_wp2
          go_end0
          exact ⟨rfl, ys, HP.out.perm, HP.out.one (by rw [HP.out.perm.length_eq, HN.out]; omega), HR.out, HG.out⟩

set_option maxHeartbeats 400000 in
theorem sortStable_any (g cap bl cl : Nat) (al : Option Addr) (xs : List Fc) (is : List Nat) (w : World) (h : IRow w g cap is) (hE : CEnv g w bl al cl xs) (hl : is.length < 1000000) (hx : ∀ i ∈ is, i < xs.length) (hS : Asc is) :
    Calls Tryd.prog (27) #[.slice (some ⟨g, 0, none⟩) is.length cap, ordV bl] w (AllPost (sqF xs) g cap is w) := by
  go_enter Tryd.func27, Tryd.ntmps27
  go_wp2_with fail
  refine (stable_any g cap bl cl al xs is is.length rfl w h hE hl hx hS).mono ?_
  rintro e w1 ⟨rfl, zs, hp1, hs1, hR1, hg1⟩
  have HF := Lib.hid (⟨zs, hp1, hs1, hR1, hg1⟩ : ∃ P, P.Perm is ∧ SrtI (sqF xs) P ∧ IRow w1 g cap P ∧ w.grownBy w1 (some g))
  clear hp1 hs1 hR1 hg1 h hE hx hS
  go_wp2
  go_end0
  exact ⟨rfl, HF.out⟩
end Go.Proofs.YticcccciefaemaaDoor
