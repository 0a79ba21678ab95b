/- Contract of slices.SortStableFunc at places, by commits. Condition: fewer than 1000000 places. · Contract of slices.CompactFunc at places, by commits: of one commit the first stays. Condition: fewer than 1000000 places. · Contracts of keeps.watching and of what it makes: who sees a span of commits. No condition. -/
import Derived.Test.YticcccciefaemaaGreatDoorQ8
import Derived.Lib.SliceRun
import Derived.Outline
namespace Go.Proofs.YticcccciefaemaaGreatDoor
open Go.RowKit Go.Shelf Go.Herb

theorem symOk (g cap bl cl : Nat) (al : Option Addr) (xs : List Fc) (N : Nat) (hl : N < 1000000) : ∀ k, SymOk g cap bl cl al xs N k := by
  intro k
  induction k with
  | zero => intro A L R C w a m b _ _ _ _ _ _ _ _ _ _ h1 h2 h3; omega
  | succ k ih =>
    intro A L R C w a m b hN ha hm hb hR hE hx hL hRs hLR h1 h2 h3
    subst ha
    have em : m = ((A.length + L.length : Nat) : Int) := by omega
    have eb : b = ((A.length + L.length + R.length : Nat) : Int) := by omega
    subst em eb
    by_cases c1 : L.length = 1
    · obtain ⟨z, rfl⟩ := List.length_eq_one_iff.1 c1
      have e : ((A.length + [z].length : Nat) : Int) = (A.length : Int) + 1 := by simp
      rw [e]
      exact symA g cap bl cl al xs A z R C N (by simpa using hN) A.length _ rfl (by simp) w (by simpa using hR) hE hl (by simpa using hx) hRs (by simpa using hLR) h2
    · by_cases c2 : R.length = 1
      · obtain ⟨z, rfl⟩ := List.length_eq_one_iff.1 c2
        have e : ((A.length + L.length + [z].length : Nat) : Int) = ((A.length + L.length : Nat) : Int) + 1 := by simp
        rw [e]
        exact symB g cap bl cl al xs A L z C N (by simpa using hN) A.length _ rfl rfl w (by simpa using hR) hE hl (by simpa using hx) hL (by simpa using hLR) (by omega)
      · exact symC g cap bl cl al xs A L R C N hN A.length _ _ rfl rfl rfl w hR hE hl hx hL hRs hLR (by omega) (by omega) (fun A L R C w a m b q1 q2 q3 q4 q5 q6 q7 q8 q9 q10 q11 q12 q13 => ih A L R C w a m b q1 q2 q3 q4 q5 q6 q7 q8 q9 q10 q11 q12 (by omega))

theorem sym_at (g cap bl cl : Nat) (al : Option Addr) (xs : List Fc) (N : Nat) (A L R C : List Nat) (w : World) (a m b : Int) (hN : (A ++ (L ++ (R ++ C))).length = N) (ha : a = A.length) (hm : m = A.length + L.length) (hb : b = A.length + L.length + R.length)
    (h : IRow w g cap (A ++ (L ++ (R ++ C)))) (hE : CEnv g w bl al cl xs) (hx : ∀ i ∈ A ++ (L ++ (R ++ C)), i < xs.length) (hL : SrtI (sqF xs) L) (hR : SrtI (sqF xs) R) (hLR : ∀ x ∈ L, ∀ y ∈ R, x < y) (h0 : 0 < L.length) (h1 : 0 < R.length) (hl : N < 1000000) :
    Calls Tryz.prog (100) #[.slice (some ⟨g, 0, none⟩) N cap, .int .i64 a, .int .i64 m, .int .i64 b, ordV bl] w (SegPost (sqF xs) g cap A (L ++ R) C w) :=
  symOk g cap bl cl al xs N hl _ A L R C w a m b hN ha hm hb h hE hx hL hR hLR h0 h1 (Nat.le_refl _)

/-- Between two blocks: what is done, what stays. -/
def PassI (sq : Nat → Int) (n k : Nat) (is : List Nat) (a : Nat) (ys : List Nat) : Prop := ∃ X xr D rest, is = X ++ xr ∧ ys = D ++ rest ∧ D.length = a ∧ D.Perm X ∧ Pre sq n X D ∧ Chk sq k xr rest
theorem PassI.start {sq : Nat → Int} {n k : Nat} {is ys : List Nat} (h : Chk sq k is ys) : PassI sq n k is 0 ys := ⟨[], is, [], ys, rfl, rfl, rfl, .refl _, Pre.nil, h⟩
theorem PassI.perm {sq : Nat → Int} {n k a : Nat} {is ys : List Nat} (h : PassI sq n k is a ys) : ys.Perm is := by
  obtain ⟨X, xr, D, rest, rfl, rfl, _, hp, _, hc⟩ := h
  exact hp.append hc.perm
/-- Two blocks are merged. -/
theorem PassI.two {sq : Nat → Int} {n a : Nat} {is ys : List Nat} (h : PassI sq (2 * n) n is a ys) (hl : a + 2 * n ≤ ys.length) (hS : Asc is) :
    ∃ A L R C, ys = A ++ (L ++ (R ++ C)) ∧ A.length = a ∧ L.length = n ∧ R.length = n ∧ SrtI sq L ∧ SrtI sq R ∧ (∀ x ∈ L, ∀ y ∈ R, x < y) ∧ ∀ P, P.Perm (L ++ R) → SrtI sq P → PassI sq (2 * n) n is (a + 2 * n) (A ++ (P ++ C)) := by
  obtain ⟨X, xr, D, rest, rfl, rfl, hD, hp, hpre, hc⟩ := h
  rw [List.length_append] at hl
  obtain ⟨X1, x2, L, r2, rfl, rfl, hX1, hL, hpL, hsL, hc2⟩ := hc.head (by omega)
  rw [List.length_append] at hl
  obtain ⟨X2, x3, R, r3, rfl, rfl, hX2, hR, hpR, hsR, hc3⟩ := hc2.head (by omega)
  refine ⟨D, L, R, r3, rfl, hD, hL, hR, hsL, hsR, ?_, ?_⟩
  · have h1 := hS.app.2.1
    rw [← List.append_assoc] at h1
    exact h1.app.1.across hpL hpR
  · intro P hP hs
    have hP2 : P.Perm (X1 ++ X2) := hP.trans (hpL.append hpR)
    refine ⟨X ++ (X1 ++ X2), x3, D ++ P, r3, by simp, by simp, ?_, hp.append hP2, hpre.snoc (by rw [List.length_append]; omega) hP2 hs, hc3⟩
    have := hP.length_eq
    rw [List.length_append] at this ⊢
    omega

/-- A last block and a shorter one are merged. -/
theorem PassI.tail {sq : Nat → Int} {n a : Nat} {is ys : List Nat} (h : PassI sq (2 * n) n is a ys) (h1 : a + n < ys.length) (h2 : ys.length < a + 2 * n) (hS : Asc is) :
    ∃ A L R, ys = A ++ (L ++ (R ++ [])) ∧ A.length = a ∧ L.length = n ∧ 0 < R.length ∧ SrtI sq L ∧ SrtI sq R ∧ (∀ x ∈ L, ∀ y ∈ R, x < y) ∧ ∀ P, P.Perm (L ++ R) → SrtI sq P → Chk sq (2 * n) is (A ++ (P ++ [])) := by
  obtain ⟨X, xr, D, rest, rfl, rfl, hD, hp, hpre, hc⟩ := h
  rw [List.length_append] at h1 h2
  obtain ⟨X1, x2, L, r2, rfl, rfl, hX1, hL, hpL, hsL, hc2⟩ := hc.head (by omega)
  rw [List.length_append] at h1 h2
  refine ⟨D, L, r2, by simp, hD, hL, by omega, hsL, hc2.one (by omega), hS.app.2.1.across hpL hc2.perm, ?_⟩
  intro P hP hs
  rw [List.append_nil]
  have hP2 : P.Perm (X1 ++ x2) := hP.trans (hpL.append hc2.perm)
  refine hpre _ _ (.last _ _ ?_ hP2 hs)
  have h4 := hc2.len
  rw [List.length_append]
  omega

/-- A last block alone stays. -/
theorem PassI.stay {sq : Nat → Int} {n k a : Nat} {is ys : List Nat} (h : PassI sq n k is a ys) (h1 : ys.length ≤ a + k) (hk : k ≤ n) : Chk sq n is ys := by
  obtain ⟨X, xr, D, rest, rfl, rfl, hD, hp, hpre, hc⟩ := h
  rw [List.length_append] at h1
  refine hpre _ _ (.last _ _ ?_ hc.perm (hc.one (by omega)))
  have := hc.len
  omega

/-- Between two blocks that are sorted by insertion. -/
def InsP (sq : Nat → Int) (n : Nat) (is : List Nat) (a : Nat) (ys : List Nat) : Prop := ∃ X D xr, is = X ++ xr ∧ ys = D ++ xr ∧ D.length = a ∧ D.Perm X ∧ Pre sq n X D
theorem InsP.start {sq : Nat → Int} {n : Nat} (is : List Nat) : InsP sq n is 0 is := ⟨[], [], is, rfl, rfl, rfl, .refl _, Pre.nil⟩
theorem InsP.perm {sq : Nat → Int} {n a : Nat} {is ys : List Nat} (h : InsP sq n is a ys) : ys.Perm is := by
  obtain ⟨X, D, xr, rfl, rfl, _, hp, _⟩ := h
  exact hp.append_right _
theorem InsP.block {sq : Nat → Int} {n a : Nat} {is ys : List Nat} (h : InsP sq n is a ys) (hl : a + n ≤ ys.length) (hS : Asc is) :
    ∃ A S C, ys = A ++ (S ++ C) ∧ A.length = a ∧ S.length = n ∧ Asc S ∧ ∀ P, P.Perm S → SrtI sq P → InsP sq n is (a + n) (A ++ (P ++ C)) := by
  obtain ⟨X, D, xr, rfl, rfl, hD, hp, hpre⟩ := h
  rw [List.length_append] at hl
  have h1 : (xr.take n).length = n := by rw [List.length_take]; omega
  refine ⟨D, xr.take n, xr.drop n, by rw [List.take_append_drop], hD, h1, List.Pairwise.sublist (List.take_sublist _ _) hS.app.2.1, ?_⟩
  intro P hP hs
  refine ⟨X ++ xr.take n, D ++ P, xr.drop n, by rw [List.append_assoc, List.take_append_drop], by simp, ?_, hp.append hP, hpre.snoc h1 hP hs⟩
  rw [List.length_append, hP.length_eq]
  omega
theorem InsP.last {sq : Nat → Int} {n a : Nat} {is ys : List Nat} (h : InsP sq n is a ys) (hl : ys.length ≤ a + n) (hS : Asc is) :
    ∃ A S, ys = A ++ (S ++ []) ∧ A.length = a ∧ Asc S ∧ ∀ P, P.Perm S → SrtI sq P → Chk sq n is (A ++ (P ++ [])) := by
  obtain ⟨X, D, xr, rfl, rfl, hD, hp, hpre⟩ := h
  rw [List.length_append] at hl
  refine ⟨D, xr, by simp, hD, hS.app.2.1, ?_⟩
  intro P hP hs
  rw [List.append_nil]
  exact hpre _ _ (.last _ _ (by omega) hP hs)

/-- Nothing is answered; the row is sorted. -/
def AllPost (sq : Nat → Int) (g cap : Nat) (is : List Nat) (w : World) (e : Ending) (w' : World) : Prop :=
  e = .returned (.tuple #[]) ∧ ∃ P, P.Perm is ∧ SrtI sq P ∧ IRow w' g cap P ∧ w.grownBy w' (some g)

set_option maxHeartbeats 4000000 in
theorem stable_any (g cap bl cl : Nat) (al : Option Addr) (xs : List Fc) (is : List Nat) (N : Nat) (hN : is.length = N) (w : World) (h : IRow w g cap is) (hE : CEnv g w bl al cl xs) (hl : N < 1000000) (hx : ∀ i ∈ is, i < xs.length) (hS : Asc is) :
    Calls Tryz.prog (77) #[.slice (some ⟨g, 0, none⟩) N cap, .int .i64 N, ordV bl] w (AllPost (sqF xs) g cap is w) := by
  have H := Lib.hid h
  have HE := Lib.hid hE
  have HN := Lib.hid hN
  have HX := Lib.hid hx
  have HS := Lib.hid hS
  clear h hE hN hx hS
  go_enter Tryz.func77, Tryz.ntmps77
  go_wp2_with fail
  go_loopg [7, 8] (N + 20) (fun gk av bv wr => ∃ (a : Nat) (ys : List Nat), a + gk = N + 20 ∧ a ≤ N ∧ av = .int .i64 a ∧ bv = .int .i64 ((a : Int) + 20) ∧ InsP (sqF xs) 20 is a ys ∧ IRow wr g cap ys ∧ w.grownBy wr (some g))
  case atStart => exact ⟨0, is, by omega, by omega, rfl, by go_num, InsP.start is, H.out, grown_refl _ _⟩
  case round =>
    obtain ⟨a, ys, hgk, haN, rfl, rfl, hp, hR, hg⟩ := hrel
    have hyl : ys.length = N := by rw [hp.perm.length_eq]; exact HN.out
    have HYL := Lib.hid hyl
    have HP := Lib.hid hp
    have HR := Lib.hid hR
    have HG := Lib.hid hg
    clear hyl hp hR hg
    by_cases hlt : a + 20 ≤ N
    · obtain ⟨A, S, C, hys, hA, hSl, hSa, hnext⟩ := HP.out.block (by have := HYL.out; omega) HS.out
      have HYS := Lib.hid hys
      have HA := Lib.hid hA
      have HSL := Lib.hid hSl
      have HSA := Lib.hid hSa
      have HNX := Lib.hid hnext
      clear hys hA hSl hSa hnext
      go_wp2_with fail
      refine (insertion_any g cap bl cl al xs A S C N (by rw [← HYS.out]; exact HYL.out) _ _ (by have := HA.out; omega) (by have := HA.out; have := HSL.out; omega) _ (by rw [← HYS.out]; exact HR.out) (HE.out.grown HG.out) hl (by rw [← HYS.out]; exact fun i hi => HX.out i (HP.out.perm.mem_iff.1 hi)) HSA.out).mono ?_
      rintro e w1 ⟨rfl, P, hp1, hs1, hR1, hg1⟩
      have HP1 := Lib.hid (HNX.out P hp1 hs1)
      have HR1 := Lib.hid hR1
      have HG1 := Lib.hid (grown_trans HG.out hg1)
      clear hp1 hs1 hR1 hg1
      go_wp2
      go_roundg (gk - 20)
      case measure => omega
      case rel => exact ⟨a + 20, _, by omega, by omega, by go_num, by go_num, HP1.out, HR1.out, HG1.out⟩
    · obtain ⟨A, S, hys, hA, hSa, hnext⟩ := HP.out.last (by have := HYL.out; omega) HS.out
      have hAS : A.length + S.length = N := by have := HYL.out; rw [hys] at this; simpa using this
      have HYS := Lib.hid hys
      have HA := Lib.hid hA
      have HAS := Lib.hid hAS
      have HSA := Lib.hid hSa
      have HNX := Lib.hid hnext
      clear hys hA hAS hSa hnext
      go_wp2_with fail
      refine (insertion_any g cap bl cl al xs A S [] N (by rw [← HYS.out]; exact HYL.out) _ _ (by have := HA.out; omega) (by have := HAS.out; omega) _ (by rw [← HYS.out]; exact HR.out) (HE.out.grown HG.out) hl (by rw [← HYS.out]; exact fun i hi => HX.out i (HP.out.perm.mem_iff.1 hi)) HSA.out).mono ?_
      rintro e w1 ⟨rfl, P, hp1, hs1, hR1, hg1⟩
      have HP1 := Lib.hid (HNX.out P hp1 hs1)
      have HR1 := Lib.hid hR1
      have HG1 := Lib.hid (grown_trans HG.out hg1)
      clear hp1 hs1 hR1 hg1 HYL HP HR HG
      go_wp2_with fail
      go_loopg [6] (N + 1) (fun gk sv wr => ∃ (bs : Nat) (ys : List Nat), (N + 1 ≤ bs + gk) ∧ 1 ≤ bs ∧ bs ≤ 2 * N + 20 ∧ sv = .int .i64 bs ∧ Chk (sqF xs) bs is ys ∧ IRow wr g cap ys ∧ w.grownBy wr (some g))
      case atStart => exact ⟨20, _, by omega, by omega, by omega, rfl, HP1.out, HR1.out, HG1.out⟩
      case round =>
        obtain ⟨bs, ys, hgk2, hbs1, hbs2, rfl, hp, hR, hg⟩ := hrel
        have HP := Lib.hid hp
        have HR := Lib.hid hR
        have HG := Lib.hid hg
        clear hp hR hg HP1 HR1 HG1
        by_cases hlt2 : bs < N
        · obtain ⟨gi, hgi⟩ : ∃ gi : Nat, gi = gk := ⟨_, rfl⟩
          have hgi1 : gi ≤ gk := by omega
          have hgi2 : gk ≤ gi := by omega
          clear hgi
          obtain ⟨wo, rfl⟩ : ∃ wo : World, wo = wr := ⟨_, rfl⟩
          go_wp2_with fail
          go_loopg [7, 8] (N + 2 * bs) (fun gk av bv wr => ∃ (a : Nat) (ys : List Nat), a + gk = N + 2 * bs ∧ a ≤ N ∧ av = .int .i64 a ∧ bv = .int .i64 ((a : Int) + 2 * bs) ∧ PassI (sqF xs) (2 * bs) bs is a ys ∧ IRow wr g cap ys ∧ w.grownBy wr (some g))
          case atStart => exact ⟨0, ys, by omega, by omega, rfl, by go_num, PassI.start HP.out, HR.out, HG.out⟩
          case round =>
            obtain ⟨a2, y2, hgk3, haN2, rfl, rfl, hp, hR, hg⟩ := hrel
            have hyl : y2.length = N := by rw [hp.perm.length_eq]; exact HN.out
            have HYL := Lib.hid hyl
            have HP2 := Lib.hid hp
            have HR2 := Lib.hid hR
            have HG2 := Lib.hid hg
            clear hyl hp hR hg
            by_cases hlt3 : a2 + 2 * bs ≤ N
            · obtain ⟨A2, L, R, C, hys, hA2, hL, hRl, hsL, hsR, hLR, hnext⟩ := HP2.out.two (by have := HYL.out; omega) HS.out
              have HYS2 := Lib.hid hys
              have HA2 := Lib.hid hA2
              have HLL := Lib.hid hL
              have HRL := Lib.hid hRl
              have HSL2 := Lib.hid hsL
              have HSR2 := Lib.hid hsR
              have HLR := Lib.hid hLR
              have HNX2 := Lib.hid hnext
              clear hys hA2 hL hRl hsL hsR hLR hnext
              go_wp2_with fail
              refine (sym_at g cap bl cl al xs N A2 L R C _ _ _ _ (by rw [← HYS2.out]; exact HYL.out) (by have := HA2.out; omega) (by have := HA2.out; have := HLL.out; omega) (by have := HA2.out; have := HLL.out; have := HRL.out; omega) (by rw [← HYS2.out]; exact HR2.out) (HE.out.grown HG2.out) (by rw [← HYS2.out]; exact fun i hi => HX.out i (HP2.out.perm.mem_iff.1 hi)) HSL2.out HSR2.out HLR.out (by have := HLL.out; omega) (by have := HRL.out; omega) hl).mono ?_
              rintro e w1 ⟨rfl, P, hp1, hs1, hR1, hg1⟩
              have HP1 := Lib.hid (HNX2.out P hp1 hs1)
              have HR1 := Lib.hid hR1
              have HG1 := Lib.hid (grown_trans HG2.out hg1)
              clear hp1 hs1 hR1 hg1
              go_wp2
              go_roundg (gk - 2 * bs)
              case measure => omega
              case rel => exact ⟨a2 + 2 * bs, _, by omega, by omega, by go_num, by go_num, HP1.out, HR1.out, HG1.out⟩
            · by_cases hm : a2 + bs < N
              · obtain ⟨A2, L, R, hys, hA2, hL, hRl, hsL, hsR, hLR, hnext⟩ := HP2.out.tail (by have := HYL.out; omega) (by have := HYL.out; omega) HS.out
                have hAS2 : A2.length + L.length + R.length = N := by have := HYL.out; rw [hys] at this; simp only [List.length_append, List.length_nil] at this; omega
                have HYS2 := Lib.hid hys
                have HA2 := Lib.hid hA2
                have HLL := Lib.hid hL
                have HRL := Lib.hid hRl
                have HSL2 := Lib.hid hsL
                have HSR2 := Lib.hid hsR
                have HLR := Lib.hid hLR
                have HNX2 := Lib.hid hnext
                have HAS2 := Lib.hid hAS2
                clear hys hA2 hL hRl hsL hsR hLR hnext hAS2
                go_wp2_with fail
                refine (sym_at g cap bl cl al xs N A2 L R [] _ _ _ _ (by rw [← HYS2.out]; exact HYL.out) (by have := HA2.out; omega) (by have := HA2.out; have := HLL.out; omega) (by have := HAS2.out; omega) (by rw [← HYS2.out]; exact HR2.out) (HE.out.grown HG2.out) (by rw [← HYS2.out]; exact fun i hi => HX.out i (HP2.out.perm.mem_iff.1 hi)) HSL2.out HSR2.out HLR.out (by have := HLL.out; omega) HRL.out hl).mono ?_
                rintro e w1 ⟨rfl, P, hp1, hs1, hR1, hg1⟩
                have HP1 := Lib.hid (show Chk (sqF xs) (bs * 2) is (A2 ++ (P ++ [])) by rw [Nat.mul_comm]; exact HNX2.out P hp1 hs1)
                have HR1 := Lib.hid hR1
                have HG1 := Lib.hid (grown_trans HG2.out hg1)
                clear hp1 hs1 hR1 hg1
                go_wp2
                go_roundg (N + 1 - 2 * bs)
                case measure => omega
                case rel => exact ⟨bs * 2, _, by omega, by omega, by omega, by go_num, HP1.out, HR1.out, HG1.out⟩
              · have HP1 := Lib.hid (show Chk (sqF xs) (bs * 2) is y2 by rw [Nat.mul_comm]; exact HP2.out.stay (by have := HYL.out; omega) (by omega))
                go_wp2
                go_roundg (N + 1 - 2 * bs)
                case measure => omega
                case rel => exact ⟨bs * 2, y2, by omega, by omega, by omega, by go_num, HP1.out, HR2.out, HG2.out⟩
        · go_wp2
          go_end0
          exact ⟨rfl, ys, HP.out.perm, HP.out.one (by rw [HP.out.perm.length_eq, HN.out]; omega), HR.out, HG.out⟩

set_option maxHeartbeats 400000 in
theorem sortStable_any (g cap bl cl : Nat) (al : Option Addr) (xs : List Fc) (is : List Nat) (w : World) (h : IRow w g cap is) (hE : CEnv g w bl al cl xs) (hl : is.length < 1000000) (hx : ∀ i ∈ is, i < xs.length) (hS : Asc is) :
    Calls Tryz.prog (55) #[.slice (some ⟨g, 0, none⟩) is.length cap, ordV bl] w (AllPost (sqF xs) g cap is w) := by
  go_enter Tryz.func55, Tryz.ntmps55
  go_wp2_with fail
  refine (stable_any g cap bl cl al xs is is.length rfl w h hE hl hx hS).mono ?_
  rintro e w1 ⟨rfl, zs, hp1, hs1, hR1, hg1⟩
  have HF := Lib.hid (⟨zs, hp1, hs1, hR1, hg1⟩ : ∃ P, P.Perm is ∧ SrtI (sqF xs) P ∧ IRow w1 g cap P ∧ w.grownBy w1 (some g))
  clear hp1 hs1 hR1 hg1 h hE hx hS
  go_wp2
  go_end0
  exact ⟨rfl, HF.out⟩
end Go.Proofs.YticcccciefaemaaGreatDoor

namespace Go.Herb

/-- Of neighbours with one key the first one: of the first k. -/
def ddT (sq : Nat → Int) (is : List Nat) (k : Nat) : List Nat := (List.range k).filterMap (fun i => if i = 0 ∨ ¬ sq (is.getD (i - 1) 0) = sq (is.getD i 0) then some (is.getD i 0) else none)
theorem ddT_succ (sq : Nat → Int) (is : List Nat) (k : Nat) : ddT sq is (k + 1) = ddT sq is k ++ if k = 0 ∨ ¬ sq (is.getD (k - 1) 0) = sq (is.getD k 0) then [is.getD k 0] else [] := by
  unfold ddT
  rw [List.range_succ, List.filterMap_append]
  congr 1
  by_cases h : k = 0 ∨ ¬ sq (is.getD (k - 1) 0) = sq (is.getD k 0)
  · simp only [List.filterMap_cons, if_pos h, List.filterMap_nil]
  · simp only [List.filterMap_cons, if_neg h, List.filterMap_nil]
theorem ddT_len (sq : Nat → Int) (is : List Nat) (k : Nat) : (ddT sq is k).length ≤ k := by
  have := List.length_filterMap_le (fun i => if i = 0 ∨ ¬ sq (is.getD (i - 1) 0) = sq (is.getD i 0) then some (is.getD i 0) else none) (List.range k)
  simpa [ddT] using this
theorem getD_of {is : List Nat} {k x : Nat} (h : is[k]? = some x) : is.getD k 0 = x := by rw [List.getD_eq_getElem?_getD, h]; rfl
theorem ddT_keep {sq : Nat → Int} {is : List Nat} {k x y : Nat} (hx : is[k]? = some x) (hy : is[k - 1]? = some y) (h : ¬ sq x = sq y) : ddT sq is (k + 1) = ddT sq is k ++ [x] := by
  rw [ddT_succ, getD_of hx, getD_of hy, if_pos (.inr (fun e => h e.symm))]
theorem ddT_drop {sq : Nat → Int} {is : List Nat} {k x y : Nat} (hk : 0 < k) (hx : is[k]? = some x) (hy : is[k - 1]? = some y) (h : sq x = sq y) : ddT sq is (k + 1) = ddT sq is k := by
  rw [ddT_succ, getD_of hx, getD_of hy, if_neg (by omega), List.append_nil]
theorem ddT_first {sq : Nat → Int} {is : List Nat} {x : Nat} (hx : is[0]? = some x) : ddT sq is 1 = [x] := by
  rw [ddT_succ, getD_of hx, if_pos (.inl rfl)]
  rfl

theorem mem_ddT {sq : Nat → Int} {is : List Nat} (hs : SrtI sq is) (x : Nat) : x ∈ ddT sq is is.length ↔ x ∈ is ∧ ∀ y ∈ is, sq y = sq x → x ≤ y := by
  unfold ddT
  rw [List.mem_filterMap]
  constructor
  · rintro ⟨i, hi, h⟩
    rw [List.mem_range] at hi
    split at h
    · rename_i hc
      injection h with h
      rw [List.getD_eq_getElem?_getD, List.getElem?_eq_getElem hi] at h
      simp only [Option.getD_some] at h
      subst h
      refine ⟨List.getElem_mem hi, ?_⟩
      intro y hy he
      obtain ⟨j, hj, rfl⟩ := List.getElem_of_mem hy
      rcases Nat.lt_trichotomy j i with h1 | h1 | h1
      · exfalso
        rcases hc with hc | hc
        · omega
        · rw [List.getD_eq_getElem?_getD, List.getD_eq_getElem?_getD, List.getElem?_eq_getElem hi, List.getElem?_eq_getElem (show i - 1 < is.length by omega)] at hc
          simp only [Option.getD_some] at hc
          have g1 := hs.getle (show j ≤ i - 1 by omega) (by omega)
          have g2 := hs.getle (show i - 1 ≤ i by omega) hi
          omega
      · subst h1; omega
      · have := hs.get h1 hj
        unfold LtI at this
        omega
    · cases h
  · rintro ⟨hx, hmin⟩
    obtain ⟨i, hi, rfl⟩ := List.getElem_of_mem hx
    refine ⟨i, by rw [List.mem_range]; exact hi, ?_⟩
    rw [List.getD_eq_getElem?_getD, List.getD_eq_getElem?_getD, List.getElem?_eq_getElem hi]
    simp only [Option.getD_some]
    rw [if_pos]
    rcases Nat.eq_zero_or_pos i with h0 | h0
    · exact .inl h0
    · refine .inr ?_
      rw [List.getElem?_eq_getElem (show i - 1 < is.length by omega)]
      simp only [Option.getD_some]
      intro he
      have g1 := hs.get (show i - 1 < i by omega) hi
      have g2 := hmin _ (List.getElem_mem (show i - 1 < is.length by omega)) he
      unfold LtI at g1
      omega

theorem ddT_rise {sq : Nat → Int} {is : List Nat} (hs : SrtI sq is) : ∀ k, k ≤ is.length → (ddT sq is k).Pairwise (fun a b => sq a < sq b) ∧ ∀ x ∈ ddT sq is k, ∃ j, j < k ∧ is[j]? = some x := by
  intro k
  induction k with
  | zero => intro _; exact ⟨List.Pairwise.nil, by simp [ddT]⟩
  | succ k ih =>
    intro hk
    obtain ⟨h1, h2⟩ := ih (by omega)
    have hx := List.getElem?_eq_getElem (show k < is.length by omega)
    rw [ddT_succ, getD_of hx]
    split
    · rename_i hc
      constructor
      · rw [List.pairwise_append]
        refine ⟨h1, List.pairwise_singleton _ _, ?_⟩
        intro a ha b hb
        rw [List.mem_singleton] at hb
        subst hb
        obtain ⟨j, hj, he⟩ := h2 a ha
        obtain ⟨hj2, rfl⟩ := List.getElem?_eq_some_iff.1 he
        rcases hc with hc | hc
        · omega
        · rw [getD_of (List.getElem?_eq_getElem (show k - 1 < is.length by omega))] at hc
          have g1 := hs.getle (show j ≤ k - 1 by omega) (by omega)
          have g2 := hs.getle (show k - 1 ≤ k by omega) (by omega)
          omega
      · intro x hx2
        rcases List.mem_append.1 hx2 with hx2 | hx2
        · obtain ⟨j, hj, he⟩ := h2 x hx2
          exact ⟨j, by omega, he⟩
        · rw [List.mem_singleton.1 hx2]
          exact ⟨k, by omega, hx⟩
    · rw [List.append_nil]
      exact ⟨h1, fun x hx2 => by obtain ⟨j, hj, he⟩ := h2 x hx2; exact ⟨j, by omega, he⟩⟩
end Go.Herb

namespace Go.Proofs.YticcccciefaemaaGreatDoor
open Go.RowKit Go.Shelf Go.Herb

theorem irow_wipe {g cap : Nat} : ∀ (m o : Nat) (w : World) (zs : List Nat), IRow w g cap zs → o + m ≤ zs.length → ∃ ys : List Nat, ys.length = zs.length ∧ (∀ k, k ≤ o → ys.take k = zs.take k) ∧ IRow (w.setCells g o (List.replicate m (.int .i64 0))) g cap ys
  | 0, _, w, zs, h, _ => ⟨zs, rfl, fun _ _ => rfl, h⟩
  | m + 1, o, w, zs, h, hl => by
    obtain ⟨ys, h1, h2, h3⟩ := irow_wipe m (o + 1) (w.setCell ⟨g, o, none⟩ (.int .i64 ((0 : Nat) : Int))) (zs.set o 0) (irow_set h o 0) (by rw [List.length_set]; omega)
    refine ⟨ys, by rw [h1, List.length_set], fun k hk => ?_, h3⟩
    rw [h2 k (by omega), List.take_set, List.set_eq_of_length_le (by rw [List.length_take]; omega)]
theorem irow_clear {w : World} {g cap : Nat} {zs : List Nat} (h : IRow w g cap zs) (k m : Nat) (hk : k + m ≤ zs.length) : IRow (w.setCells g k (List.replicate m (.int .i64 0))) g cap (zs.take k) := by
  obtain ⟨ys, h1, h2, h3⟩ := irow_wipe m k w zs h hk
  rw [← h2 k (Nat.le_refl _)]
  exact h3.take ic_len k
theorem grown_cells {a b : World} {g : Nat} (h : a.grownBy b (some g)) : ∀ (vs : List Value) (o : Nat), a.grownBy (b.setCells g o vs) (some g)
  | vs, o => by
    induction vs generalizing b o with
    | nil => exact h
    | cons v vs ih => exact ih (grown_set h o v) (o + 1)

set_option maxHeartbeats 400000 in
/-- Are two of one commit? -/
theorem same_any {g bl cl : Nat} {w : World} {al : Option Addr} {xs : List Fc} (hE : CEnv g w bl al cl xs) (i j : Nat) (hi : i < xs.length) (hj : j < xs.length) (c : Bool) (hc : decide (sqF xs i = sqF xs j) = c) :
    Calls Tryz.prog (59) #[.int .i64 i, .int .i64 j, .pointer (some ⟨bl, 0, none⟩)] w fun e w' => e = .returned (.bool c) ∧ ∃ n, w' = w.drewN n := by
  rw [sqF_at xs i hi, sqF_at xs j hj] at hc
  have t0 := cell_of_blk hE.box 0
  simp at t0
  obtain ⟨b, o, hal, hlt, hci⟩ := hE.els.get i hi
  have hcj := (show Facts w (some ⟨b, o, none⟩) xs from hal ▸ hE.els).get j hj
  obtain ⟨b', o', hal', hlt', hcj⟩ := hcj
  injection hal' with e1
  injection e1 with e2 e3
  subst e2 e3
  have c2 := hci 2 _ rfl
  have d2 := hcj 2 _ rfl
  generalize xs[i].seq = p at *
  generalize xs[j].seq = q at *
  have hi0 : (0 : Int) ≤ (i : Int) := by omega
  have hi1 : (i : Int) < (xs.length : Int) := by omega
  have hj0 : (0 : Int) ≤ (j : Int) := by omega
  have hj1 : (j : Int) < (xs.length : Int) := by omega
  have hcb : (p == q) = c := hc
  subst hal
  clear hci hcj hE
  go_enter Tryz.func59, Tryz.ntmps59
  go_wp2_with fail
  go_quiet (fail)
  go_wp2
  go_ret
  exact ⟨rfl, nq, rfl⟩

abbrev sameV (bl : Nat) : Value := .func (.func (59)) #[] #[.pointer (some ⟨bl, 0, none⟩)]

/-- The first ones of each commit are answered. -/
def CompPost (sq : Nat → Int) (g cap : Nat) (is : List Nat) (w : World) (e : Ending) (w' : World) : Prop :=
  e = .returned (.slice (some ⟨g, 0, none⟩) (ddT sq is is.length).length cap) ∧ IRow w' g cap (ddT sq is is.length) ∧ w.grownBy w' (some g)

theorem zero3 : ∀ w : World, (zeroValue (3)).run Tryz.prog w = .ok (.int .i64 0) w := fun _ => by kernel_rfl

set_option maxHeartbeats 4000000 in
theorem compact_any (g cap bl cl : Nat) (al : Option Addr) (xs : List Fc) (is : List Nat) (N : Nat) (hN : is.length = N) (w : World) (h : IRow w g cap is) (hE : CEnv g w bl al cl xs) (hl : N < 1000000) (hx : ∀ i ∈ is, i < xs.length) :
    Calls Tryz.prog (58) #[.slice (some ⟨g, 0, none⟩) N cap, sameV bl] w (CompPost (sqF xs) g cap is w) := by
  have hcap : N ≤ cap := by rw [← hN]; exact h.le
  have hmx : cap ≤ maxLen := h.max
  unfold maxLen at hmx
  have H := Lib.hid h
  have HE := Lib.hid hE
  have HN := Lib.hid hN
  have HX := Lib.hid hx
  clear h hE hN hx
  by_cases h2 : N < 2
  · have hdd : ddT (sqF xs) is is.length = is := by
      rw [HN.out]
      rcases is with _ | ⟨x, is⟩
      · have := HN.out; simp at this; subst this; rfl
      · have h3 := HN.out
        rw [List.length_cons] at h3
        have : is = [] := List.length_eq_zero_iff.1 (by omega)
        subst this
        have : N = 1 := by simp at h3; omega
        subst this
        exact ddT_first rfl
    have HD := Lib.hid hdd
    clear hdd
    go_enter Tryz.func58, Tryz.ntmps58
    go_wp2
    go_ret
    exact ⟨by rw [HD.out, HN.out]; rfl, by rw [HD.out]; exact H.out, grown_refl _ _⟩
  · go_enter Tryz.func58, Tryz.ntmps58
    go_wp2_with fail
    go_loopg [5] N (fun gk kv wr => ∃ k : Nat, k + gk = N + 1 ∧ 1 ≤ k ∧ k ≤ N ∧ kv = .int .i64 k ∧ ddT (sqF xs) is k = is.take k ∧ IRow wr g cap is ∧ w.grownBy wr (some g))
    case atStart =>
      obtain ⟨x, hx⟩ := at_some (xs := is) 0 (by have := HN.out; omega)
      refine ⟨1, by omega, by omega, by omega, rfl, ?_, H.out, grown_refl _ _⟩
      rw [ddT_first hx]
      obtain ⟨h0, rfl⟩ := List.getElem?_eq_some_iff.1 hx
      rw [List.take_succ_eq_append_getElem h0]
      rfl
    case round =>
      obtain ⟨k, hk, hk1, hkn, rfl, hd, hR, hg⟩ := hrel
      have HD := Lib.hid hd
      have HR := Lib.hid hR
      have HG := Lib.hid hg
      clear hd hR hg
      by_cases hlt : k < N
      · obtain ⟨x, hx⟩ := at_some (xs := is) k (by have := HN.out; omega)
        obtain ⟨y, hy⟩ := at_some (xs := is) (k - 1) (by have := HN.out; omega)
        have c0 := irow_cell HR.out k x hx
        have d0 := irow_cell HR.out (k - 1) y hy
        have hxl := HX.out x (mem_some hx)
        have hyl := HX.out y (mem_some hy)
        have HXX := Lib.hid hx
        have HYY := Lib.hid hy
        clear hx hy
        have hw1 : IntKind.i64.wrap ((k : Int) - 1) = (k : Int) - 1 := IntWalk.i64_in _ (by omega)
        have hp1 : (0 : Int) ≤ (k : Int) - 1 := by omega
        have hp2 : (1 : Int) ≤ (k : Int) := by omega
        have hq1 : ((k : Int) - 1).toNat = k - 1 := by omega
        have hr1 : (k : Int) - 1 < (N : Int) := by omega
        have hr2 : (k : Int) < (N : Int) := by omega
        cases hs : decide (sqF xs x = sqF xs y) with
        | false =>
          have HS := Lib.hid hs
          clear hs
          go_wp2_with fail
          go_quiet ((go_at_call 59; exact Calls.quiet_of (same_any ((HE.out.grown HG.out).drewN _) x y hxl hyl false HS.out)))
          have HRQ := Lib.hid (irow_drewN HR.out nq)
          have HGQ := Lib.hid (grown_drewN HG.out nq)
          clear c0 d0 hw1 hp1 hp2 hq1 hr1 hr2
          go_wp2
          go_roundg (gk - 1)
          case measure => omega
          case rel =>
            refine ⟨k + 1, by omega, by omega, by omega, by go_num, ?_, HRQ.out, HGQ.out⟩
            rw [ddT_keep HXX.out HYY.out (of_decide_eq_false HS.out), HD.out]
            obtain ⟨h0, rfl⟩ := List.getElem?_eq_some_iff.1 HXX.out
            rw [List.take_succ_eq_append_getElem h0]
        | true =>
          have HS := Lib.hid hs
          clear hs
          go_wp2_with fail
          go_quiet ((go_at_call 59; exact Calls.quiet_of (same_any ((HE.out.grown HG.out).drewN _) x y hxl hyl true HS.out)))
          have HRQ := Lib.hid (irow_drewN HR.out nq)
          have HGQ := Lib.hid (grown_drewN HG.out nq)
          have hdd : ddT (sqF xs) is (k + 1) = is.take k := by rw [ddT_drop (by omega) HXX.out HYY.out (of_decide_eq_true HS.out), HD.out]
          have HDD := Lib.hid hdd
          clear c0 d0 hw1 hp1 hp2 hq1 hr1 hr2 hdd HD HXX HYY HS
          generalize wr.drewN nq = wq at *
          have hkc : ¬ k = cap := by omega
          have hkc2 : (k : Int) ≤ (cap : Int) := by omega
          go_wp2_with fail
          obtain ⟨gko, rfl⟩ : ∃ g : Nat, g = gk := ⟨_, rfl⟩
          go_loopg [5, 7] (N - k) (fun gk kv k2v wr => ∃ (kk k2 : Nat) (zs : List Nat), k2 + gk = N - k + 1 ∧ 1 ≤ k2 ∧ k2 ≤ N - k ∧ kk < k + k2 ∧ kv = .int .i64 kk ∧ k2v = .int .i64 k2 ∧ zs.length = N ∧ zs.take kk = ddT (sqF xs) is (k + k2) ∧ (∀ i, k + k2 ≤ i + 1 → zs[i]? = is[i]?) ∧ IRow wr g cap zs ∧ w.grownBy wr (some g))
          case atStart => exact ⟨k, 1, is, by omega, by omega, by omega, by omega, rfl, rfl, HN.out, HDD.out.symm, fun _ _ => rfl, HRQ.out, HGQ.out⟩
          case round =>
            obtain ⟨kk, k2, zs, hk2, hk21, hk22, hkk, rfl, rfl, hzl, hzt, hzi, hR2, hg2⟩ := hrel
            have HZL := Lib.hid hzl
            have HZT := Lib.hid hzt
            have HZI := Lib.hid hzi
            have HR2 := Lib.hid hR2
            have HG2 := Lib.hid hg2
            clear hzl hzt hzi hR2 hg2
            by_cases hlt2 : k2 < N - k
            · obtain ⟨u, hu⟩ := at_some (xs := is) (k + k2) (by have := HN.out; omega)
              obtain ⟨v, hv⟩ := at_some (xs := is) (k + (k2 - 1)) (by have := HN.out; omega)
              have c0 := irow_cell HR2.out (k + k2) u (by rw [HZI.out _ (by omega)]; exact hu)
              have d0 := irow_cell HR2.out (k + (k2 - 1)) v (by rw [HZI.out _ (by omega)]; exact hv)
              have hul := HX.out u (mem_some hu)
              have hvl := HX.out v (mem_some hv)
              have HU := Lib.hid hu
              have HV := Lib.hid (show is[k + k2 - 1]? = some v by rw [show k + k2 - 1 = k + (k2 - 1) from by omega]; exact hv)
              clear hu hv
              have hw1 : IntKind.i64.wrap ((k2 : Int) - 1) = (k2 : Int) - 1 := IntWalk.i64_in _ (by omega)
              have hp1 : (0 : Int) ≤ (k2 : Int) - 1 := by omega
              have hp2 : (1 : Int) ≤ (k2 : Int) := by omega
              have hq1 : ((k2 : Int) - 1).toNat = k2 - 1 := by omega
              have hr1 : (k2 : Int) - 1 < ((N - k : Nat) : Int) := by omega
              have hr2 : (k2 : Int) < ((N - k : Nat) : Int) := by omega
              cases hs : decide (sqF xs u = sqF xs v) with
              | false =>
                have HS := Lib.hid hs
                clear hs
                go_wp2_with fail
                go_quiet ((go_at_call 59; exact Calls.quiet_of (same_any ((HE.out.grown HG2.out).drewN _) u v hul hvl false HS.out)))
                have HRQ2 := Lib.hid (irow_drewN HR2.out nq)
                have HGQ2 := Lib.hid (grown_drewN HG2.out nq)
                have c1 := irow_cell HRQ2.out (k + k2) u (by rw [HZI.out _ (by omega)]; exact HU.out)
                have f1 := HRQ2.out.frozen kk
                obtain ⟨o1, ho1⟩ := at_some (xs := zs) kk (by have := HZL.out; omega)
                have e1 := irow_cell HRQ2.out kk o1 ho1
                clear c0 d0 hw1 hp1 hp2 hq1 hr1 ho1
                generalize wr.drewN nq = wq2 at *
                have hr3 : (kk : Int) < (N : Int) := by omega
                go_wp2
                go_roundg (gk - 1)
                case measure => omega
                case rel =>
                  refine ⟨kk + 1, k2 + 1, zs.set kk u, by omega, by omega, by omega, by omega, by go_num, by go_num, by rw [List.length_set]; exact HZL.out, ?_, ?_, irow_set HRQ2.out kk u, grown_set HGQ2.out _ _⟩
                  · rw [← Nat.add_assoc, ddT_keep HU.out HV.out (of_decide_eq_false HS.out), ← HZT.out]
                    have h0 : kk < (zs.set kk u).length := by rw [List.length_set, HZL.out]; omega
                    rw [List.take_succ_eq_append_getElem h0, List.getElem_set_self, List.take_set, List.set_eq_of_length_le (by rw [List.length_take]; omega)]
                  · intro i hi
                    rw [List.getElem?_set_ne (by omega)]
                    exact HZI.out i (by omega)
              | true =>
                have HS := Lib.hid hs
                clear hs
                go_wp2_with fail
                go_quiet ((go_at_call 59; exact Calls.quiet_of (same_any ((HE.out.grown HG2.out).drewN _) u v hul hvl true HS.out)))
                have HRQ2 := Lib.hid (irow_drewN HR2.out nq)
                have HGQ2 := Lib.hid (grown_drewN HG2.out nq)
                clear c0 d0 hw1 hp1 hp2 hq1 hr1 hr2
                go_wp2
                go_roundg (gk - 1)
                case measure => omega
                case rel =>
                  refine ⟨kk, k2 + 1, zs, by omega, by omega, by omega, by omega, rfl, by go_num, HZL.out, ?_, fun i hi => HZI.out i (by omega), HRQ2.out, HGQ2.out⟩
                  rw [← Nat.add_assoc, ddT_drop (by omega) HU.out HV.out (of_decide_eq_true HS.out), ← HZT.out]
            · have hend : k + k2 = N := by omega
              have hkN : kk < N := by omega
              have hcl : ∀ ty, (Builtin.clear_ #[(90)] ty #[.slice (some ⟨g, kk, none⟩) (N - kk) (cap - kk)]).run Tryz.prog wr = .ok (.tuple #[]) (wr.setCells g kk (List.replicate (N - kk) (.int .i64 0))) :=
                fun ty => Lib.run_clear_slice wr (90) (3) ty _ Tryz.underlying90 zero3 rfl rfl g kk _ _ (by omega) (fun j hj => by
                  obtain ⟨o1, ho1⟩ := at_some (xs := zs) (kk + j) (by have := HZL.out; omega)
                  rw [irow_cell HR2.out (kk + j) o1 ho1]; rfl) (fun j hj => HR2.out.frozen _)
              have hdl : (ddT (sqF xs) is N).length = kk := by
                rw [← hend, ← HZT.out, List.length_take, HZL.out]; omega
              have HDL := Lib.hid hdl
              have HRC := Lib.hid (irow_clear HR2.out kk (N - kk) (by have := HZL.out; omega))
              have HTK := Lib.hid (show zs.take kk = ddT (sqF xs) is N by rw [HZT.out, hend])
              have HGC := Lib.hid (grown_cells HG2.out (List.replicate (N - kk) (.int .i64 0)) kk)
              have hkc3 : ¬ kk = cap := by omega
              have hkc4 : (kk : Int) ≤ (cap : Int) := by omega
              clear hend hdl
              go_wp2
              go_ret
              refine ⟨?_, ?_, HGC.out⟩
              · rw [HN.out, HDL.out]; rfl
              · rw [HN.out, ← HTK.out]; exact HRC.out
      · have hkN : k = N := by omega
        have hdd : ddT (sqF xs) is is.length = is := by rw [HN.out, ← hkN, HD.out, hkN, ← HN.out, List.take_length]
        have HDD := Lib.hid hdd
        clear hdd hkN
        go_wp2
        go_ret
        exact ⟨by rw [HDD.out, HN.out]; rfl, by rw [HDD.out]; exact HR.out, HG.out⟩
end Go.Proofs.YticcccciefaemaaGreatDoor

namespace Go.Proofs.YticcccciefaemaaGreatDoor
open Go.RowKit Go.Shelf Go.Herb

def whoV (on : Bool) (at_ : Int) : Value := if on then .iface (151) (.agg #[.int .u64 at_]) else .iface (153) (.agg #[.int .u64 at_])

theorem watching_any (v : Value) (at_ : Int) (on : Bool) (w : World) : Calls Tryz.prog (60) #[.agg #[v, .int .u64 at_, .bool on]] w fun e w' => e = .returned (whoV on at_) ∧ Below w.heap.size w w' := by
  cases on
  · go_enter Tryz.func60, Tryz.ntmps60
    go_wp2
    go_ret
    exact ⟨rfl, by go_grown⟩
  · go_enter Tryz.func60, Tryz.ntmps60
    go_wp2
    go_ret
    exact ⟨rfl, by go_grown⟩

def seesB (on : Bool) (at_ frm next : Int) (last : Bool) : Bool := (on || decide (frm ≤ at_)) && (last || decide (at_ < next))

theorem goingSees_any (at_ frm next : Int) (last : Bool) (w : World) : Calls Tryz.prog (154) #[.agg #[.int .u64 at_], .agg #[.int .u64 frm, .int .u64 next, .bool last]] w fun e w' => e = .returned (.bool (seesB true at_ frm next last)) ∧ Below w.heap.size w w' := by
  cases last
  · by_cases h : at_ < next
    · have hd : decide (at_ < next) = true := decide_eq_true h
      have hb : seesB true at_ frm next false = true := by simp [seesB, h]
      rw [hb]
      clear h hb
      go_enter Tryz.func154, Tryz.ntmps154
      go_wp2
      go_ret
      exact ⟨rfl, by go_grown⟩
    · have hd : decide (at_ < next) = false := decide_eq_false h
      have hb : seesB true at_ frm next false = false := by simp [seesB, h]
      rw [hb]
      clear h hb
      go_enter Tryz.func154, Tryz.ntmps154
      go_wp2
      go_ret
      exact ⟨rfl, by go_grown⟩
  · have hb : seesB true at_ frm next true = true := by simp [seesB]
    rw [hb]
    clear hb
    go_enter Tryz.func154, Tryz.ntmps154
    go_wp2
    go_ret
    exact ⟨rfl, by go_grown⟩

theorem stillSees_any (at_ frm next : Int) (last : Bool) (w : World) : Calls Tryz.prog (155) #[.agg #[.int .u64 at_], .agg #[.int .u64 frm, .int .u64 next, .bool last]] w fun e w' => e = .returned (.bool (seesB false at_ frm next last)) ∧ Below w.heap.size w w' := by
  by_cases h0 : frm ≤ at_
  · have hd0 : decide (frm ≤ at_) = true := decide_eq_true h0
    cases last
    · by_cases h : at_ < next
      · have hd : decide (at_ < next) = true := decide_eq_true h
        have hb : seesB false at_ frm next false = true := by simp [seesB, h, h0]
        rw [hb]
        clear h hb h0
        go_enter Tryz.func155, Tryz.ntmps155
        go_wp2
        go_ret
        exact ⟨rfl, by go_grown⟩
      · have hd : decide (at_ < next) = false := decide_eq_false h
        have hb : seesB false at_ frm next false = false := by simp [seesB, h]
        rw [hb]
        clear h hb h0
        go_enter Tryz.func155, Tryz.ntmps155
        go_wp2
        go_ret
        exact ⟨rfl, by go_grown⟩
    · have hb : seesB false at_ frm next true = true := by simp [seesB, h0]
      rw [hb]
      clear hb h0
      go_enter Tryz.func155, Tryz.ntmps155
      go_wp2
      go_ret
      exact ⟨rfl, by go_grown⟩
  · have hd0 : decide (frm ≤ at_) = false := decide_eq_false h0
    have hb : seesB false at_ frm next last = false := by simp [seesB, h0]
    rw [hb]
    clear hb h0
    go_enter Tryz.func155, Tryz.ntmps155
    go_wp2
    go_ret
    exact ⟨rfl, by go_grown⟩
end Go.Proofs.YticcccciefaemaaGreatDoor
