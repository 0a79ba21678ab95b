/- slices.partitionOrdered, partitionEqualOrdered at uint64. Condition: fewer than 1000000 numbers. -/
import Derived.Test.YtchcelodeepjdaaGreatDoorO5
import Derived.Deep.Cut
import Derived.Deep.CutBlock
import Derived.Deep.DeepCutAuto
namespace Go.Herb
open Go.RowKit
theorem PartR.up {lt : Int → Int → Prop} {a b i j : Nat} {p : Int} {xs : List Int} (h : PartR lt a b i j p xs) (hl : lt (at_ xs i) p) : PartR lt a b (i + 1) j p xs :=
  ⟨h.at0, fun k h1 h2 => by
    rcases Nat.lt_or_eq_of_le (Nat.le_of_lt_succ h2) with h3 | h3
    · exact h.low k h1 h3
    · rw [h3]; exact hl, h.high⟩
theorem PartR.down {lt : Int → Int → Prop} {a b i j : Nat} {p : Int} {xs : List Int} (h : PartR lt a b i j p xs) (hl : ¬ lt (at_ xs j) p) : PartR lt a b i (j - 1) p xs :=
  ⟨h.at0, h.low, fun k h1 h2 => by
    rcases Nat.lt_or_ge j k with h3 | h3
    · exact h.high k h3 h2
    · rw [show k = j by omega]; exact hl⟩
theorem PartR.start {lt : Int → Int → Prop} {a b : Nat} {xs : List Int} : PartR lt a b (a + 1) (b - 1) (at_ xs a) xs :=
  ⟨rfl, fun k h1 h2 => by omega, fun k h1 h2 => by omega⟩
end Go.Herb
namespace Go.Proofs.YtchcelodeepjdaaGreatDoor.Vx
open Go.RowKit Go.Herb


def PartPost (g cap a b : Nat) (p : Int) (xs : List Int) (w : World) (e : Ending) (w' : World) : Prop :=
  ∃ (m : Nat) (fl : Bool) (ys : List Int), e = .returned (.tuple #[.int .i64 m, .bool fl]) ∧ a ≤ m ∧ m < b ∧ InR a b xs ys ∧ at_ ys m = p ∧ (∀ k, a ≤ k → k < m → at_ ys k < p) ∧ (∀ k, m < k → k < b → ¬ at_ ys k < p) ∧ RowU w' g cap ys ∧ w.grownBy w' (some g)
set_option maxRecDepth 100000 in
set_option maxHeartbeats 8000000 in
theorem partition_any (g cap a b pv N : Nat) (p : Int) (xs : List Int) (hN : xs.length = N) (hb : b ≤ N) (hpa : a < pv) (hpb : pv < b) (hp : p = at_ xs pv) (w : World) (h : RowU w g cap xs) (hl : N < 1000000) :
    Calls Tryz.prog (125) #[.slice (some ⟨g, 0, none⟩) N cap, .int .i64 a, .int .i64 b, .int .i64 pv] w (PartPost g cap a b p xs w) := by
  have H : Hid (RowSt g cap w w xs) := Lib.hid ⟨h, grown_refl _ _⟩
  have HN := Lib.hid hN
  have c0 := rowU_cell h a (by omega)
  have d0 : w.cell? ⟨g, pv, none⟩ = some (.int .u64 p) := by rw [hp]; exact rowU_cell h pv (by omega)
  have f0 := h.frozen a
  have g0 := h.frozen pv
  have r1 : (a : Int) < (N : Int) := by omega
  have r2 : (pv : Int) < (N : Int) := by omega
  have hne : ¬ a = pv := by omega
  have hst0 := H.out.swap a pv
  rw [← hp] at hst0
  have HST := Lib.hid hst0
  clear hst0
  have HI := Lib.hid (InR.swq (a := a) (b := b) (i := a) (j := pv) (xs := xs) (by omega) (by omega) (by omega) (by omega) (by omega))
  have HYL := Lib.hid (show (swq xs a pv).length = N from by rw [swq_len]; exact hN)
  have hpv : at_ (swq xs a pv) a = p := by rw [hp, at_swq (by omega) (by omega), if_neg (by omega), if_pos rfl]
  have HPV := Lib.hid hpv
  clear h hN hpv hp
  go_enter Tryz.func125, Tryz.ntmps125
  go_wp2_with fail
  go_region
  clear c0 d0 f0 g0 r1 r2 hne H
  obtain ⟨i, hi⟩ : ∃ i, i = a + 1 := ⟨_, rfl⟩
  obtain ⟨j, hj⟩ : ∃ j, j = b - 1 := ⟨_, rfl⟩
  have ei : (a : Int) + 1 = (i : Int) := by omega
  have ej : (b : Int) - 1 = (j : Int) := by omega
  have hps : PartR (fun x y : Int => x < y) a b i j p (swq xs a pv) := by
    have := PartR.start (lt := (fun x y : Int => x < y)) (a := a) (b := b) (xs := swq xs a pv)
    rw [HPV.out, ← hi, ← hj] at this
    exact this
  have HP := Lib.hid hps
  generalize swq xs a pv = ys at *
  clear hps HPV
  have hai : a < i := by omega
  have hjb : j < b := by omega
  have hij : i ≤ j := by omega
  clear hi hj
  go_upto_block 0 with fail
  go_cut [10] (fun iv wx => ∃ i2 : Nat, iv = .int .i64 i2 ∧ i ≤ i2 ∧ i2 ≤ j + 1 ∧ Hid (PartR (fun x y : Int => x < y) a b i2 j p ys) ∧ Hid (j < i2 ∨ ¬ (fun x y : Int => x < y) (at_ ys i2) p) ∧ RowSt g cap w wx ys)
  case first =>
    go_wp2_with fail
    go_loopg [10] (j + 1 - i) (fun gk iv wr => ∃ i2 : Nat, i2 + gk = j + 1 ∧ i ≤ i2 ∧ iv = .int .i64 i2 ∧ Hid (PartR (fun x y : Int => x < y) a b i2 j p ys) ∧ RowSt g cap w wr ys)
    case atStart => exact ⟨i, by omega, Nat.le_refl _, rfl, HP, HST.out⟩
    case round =>
      obtain ⟨i2, hk, hii, rfl, HP2, hst⟩ := hrel
      have HST2 := Lib.hid hst
      clear hst HST HP
      by_cases hle : i2 ≤ j
      · have hle' : (i2 : Int) ≤ (j : Int) := by omega
        have c0 := rowU_cell HST2.out.row i2 (by have := HYL.out; omega)
        have d0 := rowU_cell HST2.out.row a (by have := HYL.out; omega)
        have r1 : (i2 : Int) < (N : Int) := by omega
        have r2 : (a : Int) < (N : Int) := by omega
        by_cases hs : at_ ys i2 < at_ ys a
        · have HL := Lib.hid hs
          clear hs
          go_wp2_with fail
          go_quiet ((go_at_call 123; exact Calls.quiet_of_same (less_t HL.out _)))
          clear c0 d0 r1 r2
          have HST3 := Lib.hid (HST2.out.drewN nq)
          go_wp2
          go_roundg (gk - 1)
          case measure => omega
          case rel => exact ⟨i2 + 1, by omega, by omega, by go_num, Lib.hid (HP2.out.up (by have := HP2.out.at0; rw [← this]; exact HL.out)), HST3.out⟩
        · have HL := Lib.hid (Int.not_lt.1 hs)
          clear hs
          go_wp2_with fail
          go_quiet ((go_at_call 123; exact Calls.quiet_of_same (less_f HL.out _)))
          clear c0 d0 r1 r2
          have HST3 := Lib.hid (HST2.out.drewN nq)
          go_wp2_with fail
          go_meet
          exact ⟨i2, rfl, hii, by omega, HP2, Lib.hid (.inr (by have := HP2.out.at0; rw [← this]; first | exact HL.out | exact Int.not_lt.2 HL.out | exact Int.not_le.2 HL.out)), HST3.out⟩
      · have hle' : ¬ (i2 : Int) ≤ (j : Int) := by omega
        go_wp2_with fail
        go_quiet (fail)
        have HST3 := Lib.hid (HST2.out.drewN nq)
        go_wp2_with fail
        go_meet
        exact ⟨i2, rfl, hii, by omega, HP2, Lib.hid (.inl (by omega)), HST3.out⟩
  case rest =>
  obtain ⟨i2, rfl, hii, hij2, HP2, HX, hst⟩ := hcut
  have HST2 := Lib.hid hst
  clear hst HST HP
  go_upto_block 2 with fail
  go_cut [11] (fun jv wx => ∃ j2 : Nat, jv = .int .i64 j2 ∧ j2 ≤ j ∧ i2 ≤ j2 + 1 ∧ Hid (PartR (fun x y : Int => x < y) a b i2 j2 p ys) ∧ Hid (j2 < i2 ∨ (fun x y : Int => x < y) (at_ ys j2) p) ∧ RowSt g cap w wx ys)
  case first =>
    go_wp2_with fail
    go_loopg [11] j (fun gk jv wr => ∃ j2 : Nat, gk = j2 ∧ j2 ≤ j ∧ i2 ≤ j2 + 1 ∧ jv = .int .i64 j2 ∧ Hid (PartR (fun x y : Int => x < y) a b i2 j2 p ys) ∧ RowSt g cap w wr ys)
    case atStart => exact ⟨j, rfl, Nat.le_refl _, by omega, rfl, HP2, HST2.out⟩
    case round =>
      obtain ⟨j2, hk, hjj, hij3, rfl, HP3, hst⟩ := hrel
      have HST3 := Lib.hid hst
      clear hst HST2 HP2
      by_cases hle : i2 ≤ j2
      · have hle' : (i2 : Int) ≤ (j2 : Int) := by omega
        have c0 := rowU_cell HST3.out.row j2 (by have := HYL.out; omega)
        have d0 := rowU_cell HST3.out.row a (by have := HYL.out; omega)
        have r1 : (j2 : Int) < (N : Int) := by omega
        have r2 : (a : Int) < (N : Int) := by omega
        by_cases hs : at_ ys a ≤ at_ ys j2
        · have HL := Lib.hid hs
          clear hs
          go_wp2_with fail
          go_quiet ((go_at_call 123; exact Calls.quiet_of_same (less_f HL.out _)))
          clear c0 d0 r1 r2
          have HST4 := Lib.hid (HST3.out.drewN nq)
          go_wp2
          go_roundg (j2 - 1)
          case measure => omega
          case rel => exact ⟨j2 - 1, rfl, by omega, by omega, by first | rfl | go_num, Lib.hid (HP3.out.down (by have := HP3.out.at0; rw [← this]; exact (fun h => by have h1 := HL.out; have h2 : at_ ys j2 < at_ ys a := h; omega))), HST4.out⟩
        · have HL := Lib.hid (Int.not_le.1 hs)
          clear hs
          go_wp2_with fail
          go_quiet ((go_at_call 123; exact Calls.quiet_of_same (less_t HL.out _)))
          clear c0 d0 r1 r2
          have HST4 := Lib.hid (HST3.out.drewN nq)
          go_wp2_with fail
          go_meet
          exact ⟨j2, rfl, hjj, hij3, HP3, Lib.hid (.inr (by have := HP3.out.at0; rw [← this]; exact HL.out)), HST4.out⟩
      · have hle' : ¬ (i2 : Int) ≤ (j2 : Int) := by omega
        go_wp2_with fail
        go_quiet (fail)
        have HST4 := Lib.hid (HST3.out.drewN nq)
        go_wp2_with fail
        go_meet
        exact ⟨j2, rfl, hjj, hij3, HP3, Lib.hid (.inl (by omega)), HST4.out⟩
  case rest =>
  obtain ⟨j2, rfl, hjj, hij3, HP3, HX3, hst⟩ := hcut
  have HST3 := Lib.hid hst
  clear hst HST2 HP2
  by_cases hle : i2 ≤ j2
  · have hle' : ¬ (j2 : Int) < (i2 : Int) := by omega
    have hni : ¬ (fun x y : Int => x < y) (at_ ys i2) p := by rcases HX.out with h | h; omega; exact h
    have hlj : (fun x y : Int => x < y) (at_ ys j2) p := by rcases HX3.out with h | h; omega; exact h
    obtain ⟨hne, hps⟩ := PartR.swap HP3.out (by have := HYL.out; omega) (by omega) hle (by omega) hni hlj
    have HPS := Lib.hid hps
    have c0 := rowU_cell HST3.out.row i2 (by have := HYL.out; omega)
    have d0 := rowU_cell HST3.out.row j2 (by have := HYL.out; omega)
    have f0 := HST3.out.row.frozen i2
    have g0 := HST3.out.row.frozen j2
    have r1 : (i2 : Int) < (N : Int) := by omega
    have r2 : (j2 : Int) < (N : Int) := by omega
    have HST4 := Lib.hid (HST3.out.swap i2 j2)
    have HI4 := Lib.hid (HI.out.trans (InR.swq (a := a) (b := b) (i := i2) (j := j2) (by have := HYL.out; omega) (by omega) (by omega) (by omega) (by omega)))
    have HY4 := Lib.hid (show (swq ys i2 j2).length = N from by rw [swq_len]; exact HYL.out)
    clear hni hlj hps HP3 HX HX3
    go_wp2_with fail
    go_region
    clear c0 d0 f0 g0 r1 r2 HST3 HI HYL
    obtain ⟨i, hi⟩ : ∃ i, i = i2 + 1 := ⟨_, rfl⟩
    obtain ⟨j, hj⟩ : ∃ j, j = j2 - 1 := ⟨_, rfl⟩
    rw [← hi, ← hj] at HPS
    generalize swq ys i2 j2 = zs at *
    have ei2 : (i2 : Int) + 1 = (i : Int) := by omega
    have ej2 : (j2 : Int) - 1 = (j : Int) := by omega
    have hai2 : a < i := by omega
    have hjb2 : j < b := by omega
    have hij2 : i ≤ j + 1 := by omega
    have hdec : j < j2 := by omega
    clear hi hj
    go_wp2_with fail
    clear ei2 ej2
    go_loopg [10, 11] (j + 1) (fun gk iv jv wr => ∃ (i0 j0 : Nat) (us : List Int), gk = j0 + 1 ∧ a < i0 ∧ j0 < b ∧ i0 ≤ j0 + 1 ∧ iv = .int .i64 i0 ∧ jv = .int .i64 j0 ∧ Hid (PartR (fun x y : Int => x < y) a b i0 j0 p us) ∧ Hid (InR a b xs us) ∧ RowSt g cap w wr us)
    case atStart => exact ⟨i, j, zs, rfl, hai2, hjb2, hij2, rfl, rfl, HPS, HI4, HST4.out⟩
    case round =>
      clear HPS HI4 HST4 HY4
      clear hai2 hjb2 hij2
      clear hne hle' hle hjj hij3 hii
      clear hai hjb hij
      obtain ⟨i, j, ys, hgk, hai, hjb, hij, rfl, rfl, HP, HI, hst⟩ := hrel
      have HST := Lib.hid hst
      have HYL := Lib.hid (show ys.length = N from by rw [HI.out.len]; exact HN.out)
      clear hst
      go_upto_block 6 with fail
      go_cut [10] (fun iv wx => ∃ i2 : Nat, iv = .int .i64 i2 ∧ i ≤ i2 ∧ i2 ≤ j + 1 ∧ Hid (PartR (fun x y : Int => x < y) a b i2 j p ys) ∧ Hid (j < i2 ∨ ¬ (fun x y : Int => x < y) (at_ ys i2) p) ∧ RowSt g cap w wx ys)
      case first =>
        go_wp2_with fail
        go_loopg [10] (j + 1 - i) (fun gk iv wr => ∃ i2 : Nat, i2 + gk = j + 1 ∧ i ≤ i2 ∧ iv = .int .i64 i2 ∧ Hid (PartR (fun x y : Int => x < y) a b i2 j p ys) ∧ RowSt g cap w wr ys)
        case atStart => exact ⟨i, by omega, Nat.le_refl _, rfl, HP, HST.out⟩
        case round =>
          obtain ⟨i2, hk, hii, rfl, HP2, hst⟩ := hrel
          have HST2 := Lib.hid hst
          clear hst HST HP
          by_cases hle : i2 ≤ j
          · have hle' : (i2 : Int) ≤ (j : Int) := by omega
            have c0 := rowU_cell HST2.out.row i2 (by have := HYL.out; omega)
            have d0 := rowU_cell HST2.out.row a (by have := HYL.out; omega)
            have r1 : (i2 : Int) < (N : Int) := by omega
            have r2 : (a : Int) < (N : Int) := by omega
            by_cases hs : at_ ys i2 < at_ ys a
            · have HL := Lib.hid hs
              clear hs
              go_wp2_with fail
              go_quiet ((go_at_call 123; exact Calls.quiet_of_same (less_t HL.out _)))
              clear c0 d0 r1 r2
              have HST3 := Lib.hid (HST2.out.drewN nq)
              go_wp2
              go_roundg (gk - 1)
              case measure => omega
              case rel => exact ⟨i2 + 1, by omega, by omega, by go_num, Lib.hid (HP2.out.up (by have := HP2.out.at0; rw [← this]; exact HL.out)), HST3.out⟩
            · have HL := Lib.hid (Int.not_lt.1 hs)
              clear hs
              go_wp2_with fail
              go_quiet ((go_at_call 123; exact Calls.quiet_of_same (less_f HL.out _)))
              clear c0 d0 r1 r2
              have HST3 := Lib.hid (HST2.out.drewN nq)
              go_wp2_with fail
              go_meet
              exact ⟨i2, rfl, hii, by omega, HP2, Lib.hid (.inr (by have := HP2.out.at0; rw [← this]; first | exact HL.out | exact Int.not_lt.2 HL.out | exact Int.not_le.2 HL.out)), HST3.out⟩
          · have hle' : ¬ (i2 : Int) ≤ (j : Int) := by omega
            go_wp2_with fail
            go_quiet (fail)
            have HST3 := Lib.hid (HST2.out.drewN nq)
            go_wp2_with fail
            go_meet
            exact ⟨i2, rfl, hii, by omega, HP2, Lib.hid (.inl (by omega)), HST3.out⟩
      case rest =>
      obtain ⟨i2, rfl, hii, hij2, HP2, HX, hst⟩ := hcut
      have HST2 := Lib.hid hst
      clear hst HST HP
      go_upto_block 8 with fail
      go_cut [11] (fun jv wx => ∃ j2 : Nat, jv = .int .i64 j2 ∧ j2 ≤ j ∧ i2 ≤ j2 + 1 ∧ Hid (PartR (fun x y : Int => x < y) a b i2 j2 p ys) ∧ Hid (j2 < i2 ∨ (fun x y : Int => x < y) (at_ ys j2) p) ∧ RowSt g cap w wx ys)
      case first =>
        go_wp2_with fail
        go_loopg [11] j (fun gk jv wr => ∃ j2 : Nat, gk = j2 ∧ j2 ≤ j ∧ i2 ≤ j2 + 1 ∧ jv = .int .i64 j2 ∧ Hid (PartR (fun x y : Int => x < y) a b i2 j2 p ys) ∧ RowSt g cap w wr ys)
        case atStart => exact ⟨j, rfl, Nat.le_refl _, by omega, rfl, HP2, HST2.out⟩
        case round =>
          obtain ⟨j2, hk, hjj, hij3, rfl, HP3, hst⟩ := hrel
          have HST3 := Lib.hid hst
          clear hst HST2 HP2
          by_cases hle : i2 ≤ j2
          · have hle' : (i2 : Int) ≤ (j2 : Int) := by omega
            have c0 := rowU_cell HST3.out.row j2 (by have := HYL.out; omega)
            have d0 := rowU_cell HST3.out.row a (by have := HYL.out; omega)
            have r1 : (j2 : Int) < (N : Int) := by omega
            have r2 : (a : Int) < (N : Int) := by omega
            by_cases hs : at_ ys a ≤ at_ ys j2
            · have HL := Lib.hid hs
              clear hs
              go_wp2_with fail
              go_quiet ((go_at_call 123; exact Calls.quiet_of_same (less_f HL.out _)))
              clear c0 d0 r1 r2
              have HST4 := Lib.hid (HST3.out.drewN nq)
              go_wp2
              go_roundg (j2 - 1)
              case measure => omega
              case rel => exact ⟨j2 - 1, rfl, by omega, by omega, by first | rfl | go_num, Lib.hid (HP3.out.down (by have := HP3.out.at0; rw [← this]; exact (fun h => by have h1 := HL.out; have h2 : at_ ys j2 < at_ ys a := h; omega))), HST4.out⟩
            · have HL := Lib.hid (Int.not_le.1 hs)
              clear hs
              go_wp2_with fail
              go_quiet ((go_at_call 123; exact Calls.quiet_of_same (less_t HL.out _)))
              clear c0 d0 r1 r2
              have HST4 := Lib.hid (HST3.out.drewN nq)
              go_wp2_with fail
              go_meet
              exact ⟨j2, rfl, hjj, hij3, HP3, Lib.hid (.inr (by have := HP3.out.at0; rw [← this]; exact HL.out)), HST4.out⟩
          · have hle' : ¬ (i2 : Int) ≤ (j2 : Int) := by omega
            go_wp2_with fail
            go_quiet (fail)
            have HST4 := Lib.hid (HST3.out.drewN nq)
            go_wp2_with fail
            go_meet
            exact ⟨j2, rfl, hjj, hij3, HP3, Lib.hid (.inl (by omega)), HST4.out⟩
      case rest =>
      obtain ⟨j2, rfl, hjj, hij3, HP3, HX3, hst⟩ := hcut
      have HST3 := Lib.hid hst
      clear hst HST2 HP2
      by_cases hle : i2 ≤ j2
      · have hle' : ¬ (j2 : Int) < (i2 : Int) := by omega
        have hni : ¬ (fun x y : Int => x < y) (at_ ys i2) p := by rcases HX.out with h | h; omega; exact h
        have hlj : (fun x y : Int => x < y) (at_ ys j2) p := by rcases HX3.out with h | h; omega; exact h
        obtain ⟨hne, hps⟩ := PartR.swap HP3.out (by have := HYL.out; omega) (by omega) hle (by omega) hni hlj
        have HPS := Lib.hid hps
        have c0 := rowU_cell HST3.out.row i2 (by have := HYL.out; omega)
        have d0 := rowU_cell HST3.out.row j2 (by have := HYL.out; omega)
        have f0 := HST3.out.row.frozen i2
        have g0 := HST3.out.row.frozen j2
        have r1 : (i2 : Int) < (N : Int) := by omega
        have r2 : (j2 : Int) < (N : Int) := by omega
        have HST4 := Lib.hid (HST3.out.swap i2 j2)
        have HI4 := Lib.hid (HI.out.trans (InR.swq (a := a) (b := b) (i := i2) (j := j2) (by have := HYL.out; omega) (by omega) (by omega) (by omega) (by omega)))
        have HY4 := Lib.hid (show (swq ys i2 j2).length = N from by rw [swq_len]; exact HYL.out)
        clear hni hlj hps HP3 HX HX3
        go_wp2_with fail
        go_region
        clear c0 d0 f0 g0 r1 r2 HST3 HI HYL
        obtain ⟨i, hi⟩ : ∃ i, i = i2 + 1 := ⟨_, rfl⟩
        obtain ⟨j, hj⟩ : ∃ j, j = j2 - 1 := ⟨_, rfl⟩
        rw [← hi, ← hj] at HPS
        generalize swq ys i2 j2 = zs at *
        have ei2 : (i2 : Int) + 1 = (i : Int) := by omega
        have ej2 : (j2 : Int) - 1 = (j : Int) := by omega
        have hai2 : a < i := by omega
        have hjb2 : j < b := by omega
        have hij2 : i ≤ j + 1 := by omega
        have hdec : j < j2 := by omega
        clear hi hj
        go_wp2_with fail
        clear ei2 ej2
        go_roundg (j + 1)
        case measure => omega
        case rel => exact ⟨i, j, zs, rfl, hai2, hjb2, hij2, rfl, rfl, HPS, HI4, HST4.out⟩
      · have hle' : (j2 : Int) < (i2 : Int) := by omega
        have hij4 : i2 = j2 + 1 := by omega
        obtain ⟨f1, f2, f3⟩ := PartR.fin (a := a) (b := b) (j := j2) (by have := HP3.out; rwa [hij4] at this) (by have := HYL.out; omega) (by omega) (by omega)
        have HF1 := Lib.hid f1
        have HF2 := Lib.hid (show ∀ k, a ≤ k → k < j2 → at_ (swq ys j2 a) k < p from f2)
        have HF3 := Lib.hid (show ∀ k, j2 < k → k < b → ¬ at_ (swq ys j2 a) k < p from f3)
        have c0 := rowU_cell HST3.out.row j2 (by have := HYL.out; omega)
        have d0 := rowU_cell HST3.out.row a (by have := HYL.out; omega)
        have f0 := HST3.out.row.frozen j2
        have g0 := HST3.out.row.frozen a
        have r1 : (j2 : Int) < (N : Int) := by omega
        have r2 : (a : Int) < (N : Int) := by omega
        have HST4 := Lib.hid (HST3.out.swap j2 a)
        have HI4 := Lib.hid (HI.out.trans (InR.swq (a := a) (b := b) (i := j2) (j := a) (by have := HYL.out; omega) (by omega) (by omega) (by omega) (by omega)))
        clear f1 f2 f3 HP3 HX HX3 hij4
        rcases Nat.eq_or_lt_of_le (show a ≤ j2 by omega) with hja | hja
        · obtain rfl : j2 = a := hja.symm
          clear d0 g0 r2
          go_wp2_with fail
          go_region
          clear c0 f0 r1 HST3
          go_wp2_with fail
          go_ret2
          exact ⟨j2, false, swq ys j2 j2, rfl, Nat.le_refl _, by omega, HI4.out, HF1.out, HF2.out, fun k h1 h2 => Int.not_lt.2 (by simpa using HF3.out k h1 h2), HST4.out.row, HST4.out.grown⟩
        · have hne : ¬ j2 = a := by omega
          go_wp2_with fail
          go_region
          clear c0 d0 f0 g0 r1 r2 HST3
          go_wp2_with fail
          go_ret2
          exact ⟨j2, false, swq ys j2 a, rfl, by omega, by omega, HI4.out, HF1.out, HF2.out, fun k h1 h2 => Int.not_lt.2 (by simpa using HF3.out k h1 h2), HST4.out.row, HST4.out.grown⟩
  · have hle' : (j2 : Int) < (i2 : Int) := by omega
    have hij4 : i2 = j2 + 1 := by omega
    obtain ⟨f1, f2, f3⟩ := PartR.fin (a := a) (b := b) (j := j2) (by have := HP3.out; rwa [hij4] at this) (by have := HYL.out; omega) (by omega) (by omega)
    have HF1 := Lib.hid f1
    have HF2 := Lib.hid (show ∀ k, a ≤ k → k < j2 → at_ (swq ys j2 a) k < p from f2)
    have HF3 := Lib.hid (show ∀ k, j2 < k → k < b → ¬ at_ (swq ys j2 a) k < p from f3)
    have c0 := rowU_cell HST3.out.row j2 (by have := HYL.out; omega)
    have d0 := rowU_cell HST3.out.row a (by have := HYL.out; omega)
    have f0 := HST3.out.row.frozen j2
    have g0 := HST3.out.row.frozen a
    have r1 : (j2 : Int) < (N : Int) := by omega
    have r2 : (a : Int) < (N : Int) := by omega
    have HST4 := Lib.hid (HST3.out.swap j2 a)
    have HI4 := Lib.hid (HI.out.trans (InR.swq (a := a) (b := b) (i := j2) (j := a) (by have := HYL.out; omega) (by omega) (by omega) (by omega) (by omega)))
    clear f1 f2 f3 HP3 HX HX3 hij4
    rcases Nat.eq_or_lt_of_le (show a ≤ j2 by omega) with hja | hja
    · obtain rfl : j2 = a := hja.symm
      clear d0 g0 r2
      go_wp2_with fail
      go_region
      clear c0 f0 r1 HST3
      go_wp2_with fail
      go_ret2
      exact ⟨j2, true, swq ys j2 j2, rfl, Nat.le_refl _, by omega, HI4.out, HF1.out, HF2.out, fun k h1 h2 => Int.not_lt.2 (by simpa using HF3.out k h1 h2), HST4.out.row, HST4.out.grown⟩
    · have hne : ¬ j2 = a := by omega
      go_wp2_with fail
      go_region
      clear c0 d0 f0 g0 r1 r2 HST3
      go_wp2_with fail
      go_ret2
      exact ⟨j2, true, swq ys j2 a, rfl, by omega, by omega, HI4.out, HF1.out, HF2.out, fun k h1 h2 => Int.not_lt.2 (by simpa using HF3.out k h1 h2), HST4.out.row, HST4.out.grown⟩

def PartEqPost (g cap a b : Nat) (p : Int) (xs : List Int) (w : World) (e : Ending) (w' : World) : Prop :=
  ∃ (m : Nat) (ys : List Int), e = .returned (.int .i64 m) ∧ a < m ∧ m ≤ b ∧ InR a b xs ys ∧ (∀ k, a ≤ k → k < m → at_ ys k ≤ p) ∧ (∀ k, m ≤ k → k < b → ¬ at_ ys k ≤ p) ∧ RowU w' g cap ys ∧ w.grownBy w' (some g)
set_option maxRecDepth 100000 in
set_option maxHeartbeats 8000000 in
theorem partitionEq_any (g cap a b pv N : Nat) (p : Int) (xs : List Int) (hN : xs.length = N) (hb : b ≤ N) (hpa : a < pv) (hpb : pv < b) (hp : p = at_ xs pv) (w : World) (h : RowU w g cap xs) (hl : N < 1000000) :
    Calls Tryz.prog (124) #[.slice (some ⟨g, 0, none⟩) N cap, .int .i64 a, .int .i64 b, .int .i64 pv] w (PartEqPost g cap a b p xs w) := by
  have H : Hid (RowSt g cap w w xs) := Lib.hid ⟨h, grown_refl _ _⟩
  have HN := Lib.hid hN
  have c0 := rowU_cell h a (by omega)
  have d0 : w.cell? ⟨g, pv, none⟩ = some (.int .u64 p) := by rw [hp]; exact rowU_cell h pv (by omega)
  have f0 := h.frozen a
  have g0 := h.frozen pv
  have r1 : (a : Int) < (N : Int) := by omega
  have r2 : (pv : Int) < (N : Int) := by omega
  have hne : ¬ a = pv := by omega
  have hst0 := H.out.swap a pv
  rw [← hp] at hst0
  have HST := Lib.hid hst0
  clear hst0
  have HI := Lib.hid (InR.swq (a := a) (b := b) (i := a) (j := pv) (xs := xs) (by omega) (by omega) (by omega) (by omega) (by omega))
  have HYL := Lib.hid (show (swq xs a pv).length = N from by rw [swq_len]; exact hN)
  have hpv : at_ (swq xs a pv) a = p := by rw [hp, at_swq (by omega) (by omega), if_neg (by omega), if_pos rfl]
  have HPV := Lib.hid hpv
  clear h hN hpv hp
  go_enter Tryz.func124, Tryz.ntmps124
  go_wp2_with fail
  go_region
  clear c0 d0 f0 g0 r1 r2 hne H
  obtain ⟨i, hi⟩ : ∃ i, i = a + 1 := ⟨_, rfl⟩
  obtain ⟨j, hj⟩ : ∃ j, j = b - 1 := ⟨_, rfl⟩
  have ei : (a : Int) + 1 = (i : Int) := by omega
  have ej : (b : Int) - 1 = (j : Int) := by omega
  have hps : PartR (fun x y : Int => x ≤ y) a b i j p (swq xs a pv) := by
    have := PartR.start (lt := (fun x y : Int => x ≤ y)) (a := a) (b := b) (xs := swq xs a pv)
    rw [HPV.out, ← hi, ← hj] at this
    exact this
  have HP := Lib.hid hps
  generalize swq xs a pv = ys at *
  clear hps HPV
  have hai : a < i := by omega
  have hjb : j < b := by omega
  have hij : i ≤ j := by omega
  clear hi hj
  go_wp2_with fail
  clear ei ej
  go_loopg [9, 10] (j + 1) (fun gk iv jv wr => ∃ (i0 j0 : Nat) (us : List Int), gk = j0 + 1 ∧ a < i0 ∧ j0 < b ∧ i0 ≤ j0 + 1 ∧ iv = .int .i64 i0 ∧ jv = .int .i64 j0 ∧ Hid (PartR (fun x y : Int => x ≤ y) a b i0 j0 p us) ∧ Hid (InR a b xs us) ∧ RowSt g cap w wr us)
  case atStart => exact ⟨i, j, ys, rfl, hai, hjb, by omega, rfl, rfl, HP, HI, HST.out⟩
  case round =>
    clear HP HI HST HYL
    clear hai hjb hij
    obtain ⟨i, j, ys, hgk, hai, hjb, hij, rfl, rfl, HP, HI, hst⟩ := hrel
    have HST := Lib.hid hst
    have HYL := Lib.hid (show ys.length = N from by rw [HI.out.len]; exact HN.out)
    clear hst
    go_upto_block 2 with fail
    go_cut [9] (fun iv wx => ∃ i2 : Nat, iv = .int .i64 i2 ∧ i ≤ i2 ∧ i2 ≤ j + 1 ∧ Hid (PartR (fun x y : Int => x ≤ y) a b i2 j p ys) ∧ Hid (j < i2 ∨ ¬ (fun x y : Int => x ≤ y) (at_ ys i2) p) ∧ RowSt g cap w wx ys)
    case first =>
      go_wp2_with fail
      go_loopg [9] (j + 1 - i) (fun gk iv wr => ∃ i2 : Nat, i2 + gk = j + 1 ∧ i ≤ i2 ∧ iv = .int .i64 i2 ∧ Hid (PartR (fun x y : Int => x ≤ y) a b i2 j p ys) ∧ RowSt g cap w wr ys)
      case atStart => exact ⟨i, by omega, Nat.le_refl _, rfl, HP, HST.out⟩
      case round =>
        obtain ⟨i2, hk, hii, rfl, HP2, hst⟩ := hrel
        have HST2 := Lib.hid hst
        clear hst HST HP
        by_cases hle : i2 ≤ j
        · have hle' : (i2 : Int) ≤ (j : Int) := by omega
          have c0 := rowU_cell HST2.out.row i2 (by have := HYL.out; omega)
          have d0 := rowU_cell HST2.out.row a (by have := HYL.out; omega)
          have r1 : (i2 : Int) < (N : Int) := by omega
          have r2 : (a : Int) < (N : Int) := by omega
          by_cases hs : at_ ys i2 ≤ at_ ys a
          · have HL := Lib.hid hs
            clear hs
            go_wp2_with fail
            go_quiet ((go_at_call 123; exact Calls.quiet_of_same (less_f HL.out _)))
            clear c0 d0 r1 r2
            have HST3 := Lib.hid (HST2.out.drewN nq)
            go_wp2
            go_roundg (gk - 1)
            case measure => omega
            case rel => exact ⟨i2 + 1, by omega, by omega, by go_num, Lib.hid (HP2.out.up (by have := HP2.out.at0; rw [← this]; exact HL.out)), HST3.out⟩
          · have HL := Lib.hid (Int.not_le.1 hs)
            clear hs
            go_wp2_with fail
            go_quiet ((go_at_call 123; exact Calls.quiet_of_same (less_t HL.out _)))
            clear c0 d0 r1 r2
            have HST3 := Lib.hid (HST2.out.drewN nq)
            go_wp2_with fail
            go_meet
            exact ⟨i2, rfl, hii, by omega, HP2, Lib.hid (.inr (by have := HP2.out.at0; rw [← this]; first | exact HL.out | exact Int.not_lt.2 HL.out | exact Int.not_le.2 HL.out)), HST3.out⟩
        · have hle' : ¬ (i2 : Int) ≤ (j : Int) := by omega
          go_wp2_with fail
          go_quiet (fail)
          have HST3 := Lib.hid (HST2.out.drewN nq)
          go_wp2_with fail
          go_meet
          exact ⟨i2, rfl, hii, by omega, HP2, Lib.hid (.inl (by omega)), HST3.out⟩
    case rest =>
    obtain ⟨i2, rfl, hii, hij2, HP2, HX, hst⟩ := hcut
    have HST2 := Lib.hid hst
    clear hst HST HP
    go_upto_block 4 with fail
    go_cut [10] (fun jv wx => ∃ j2 : Nat, jv = .int .i64 j2 ∧ j2 ≤ j ∧ i2 ≤ j2 + 1 ∧ Hid (PartR (fun x y : Int => x ≤ y) a b i2 j2 p ys) ∧ Hid (j2 < i2 ∨ (fun x y : Int => x ≤ y) (at_ ys j2) p) ∧ RowSt g cap w wx ys)
    case first =>
      go_wp2_with fail
      go_loopg [10] j (fun gk jv wr => ∃ j2 : Nat, gk = j2 ∧ j2 ≤ j ∧ i2 ≤ j2 + 1 ∧ jv = .int .i64 j2 ∧ Hid (PartR (fun x y : Int => x ≤ y) a b i2 j2 p ys) ∧ RowSt g cap w wr ys)
      case atStart => exact ⟨j, rfl, Nat.le_refl _, by omega, rfl, HP2, HST2.out⟩
      case round =>
        obtain ⟨j2, hk, hjj, hij3, rfl, HP3, hst⟩ := hrel
        have HST3 := Lib.hid hst
        clear hst HST2 HP2
        by_cases hle : i2 ≤ j2
        · have hle' : (i2 : Int) ≤ (j2 : Int) := by omega
          have c0 := rowU_cell HST3.out.row j2 (by have := HYL.out; omega)
          have d0 := rowU_cell HST3.out.row a (by have := HYL.out; omega)
          have r1 : (j2 : Int) < (N : Int) := by omega
          have r2 : (a : Int) < (N : Int) := by omega
          by_cases hs : at_ ys a < at_ ys j2
          · have HL := Lib.hid hs
            clear hs
            go_wp2_with fail
            go_quiet ((go_at_call 123; exact Calls.quiet_of_same (less_t HL.out _)))
            clear c0 d0 r1 r2
            have HST4 := Lib.hid (HST3.out.drewN nq)
            go_wp2
            go_roundg (j2 - 1)
            case measure => omega
            case rel => exact ⟨j2 - 1, rfl, by omega, by omega, by first | rfl | go_num, Lib.hid (HP3.out.down (by have := HP3.out.at0; rw [← this]; exact (fun h => by have h1 := HL.out; have h2 : at_ ys j2 ≤ at_ ys a := h; omega))), HST4.out⟩
          · have HL := Lib.hid (Int.not_lt.1 hs)
            clear hs
            go_wp2_with fail
            go_quiet ((go_at_call 123; exact Calls.quiet_of_same (less_f HL.out _)))
            clear c0 d0 r1 r2
            have HST4 := Lib.hid (HST3.out.drewN nq)
            go_wp2_with fail
            go_meet
            exact ⟨j2, rfl, hjj, hij3, HP3, Lib.hid (.inr (by have := HP3.out.at0; rw [← this]; exact HL.out)), HST4.out⟩
        · have hle' : ¬ (i2 : Int) ≤ (j2 : Int) := by omega
          go_wp2_with fail
          go_quiet (fail)
          have HST4 := Lib.hid (HST3.out.drewN nq)
          go_wp2_with fail
          go_meet
          exact ⟨j2, rfl, hjj, hij3, HP3, Lib.hid (.inl (by omega)), HST4.out⟩
    case rest =>
    obtain ⟨j2, rfl, hjj, hij3, HP3, HX3, hst⟩ := hcut
    have HST3 := Lib.hid hst
    clear hst HST2 HP2
    by_cases hle : i2 ≤ j2
    · have hle' : ¬ (j2 : Int) < (i2 : Int) := by omega
      have hni : ¬ (fun x y : Int => x ≤ y) (at_ ys i2) p := by rcases HX.out with h | h; omega; exact h
      have hlj : (fun x y : Int => x ≤ y) (at_ ys j2) p := by rcases HX3.out with h | h; omega; exact h
      obtain ⟨hne, hps⟩ := PartR.swap HP3.out (by have := HYL.out; omega) (by omega) hle (by omega) hni hlj
      have HPS := Lib.hid hps
      have c0 := rowU_cell HST3.out.row i2 (by have := HYL.out; omega)
      have d0 := rowU_cell HST3.out.row j2 (by have := HYL.out; omega)
      have f0 := HST3.out.row.frozen i2
      have g0 := HST3.out.row.frozen j2
      have r1 : (i2 : Int) < (N : Int) := by omega
      have r2 : (j2 : Int) < (N : Int) := by omega
      have HST4 := Lib.hid (HST3.out.swap i2 j2)
      have HI4 := Lib.hid (HI.out.trans (InR.swq (a := a) (b := b) (i := i2) (j := j2) (by have := HYL.out; omega) (by omega) (by omega) (by omega) (by omega)))
      have HY4 := Lib.hid (show (swq ys i2 j2).length = N from by rw [swq_len]; exact HYL.out)
      clear hni hlj hps HP3 HX HX3
      go_wp2_with fail
      go_region
      clear c0 d0 f0 g0 r1 r2 HST3 HI HYL
      obtain ⟨i, hi⟩ : ∃ i, i = i2 + 1 := ⟨_, rfl⟩
      obtain ⟨j, hj⟩ : ∃ j, j = j2 - 1 := ⟨_, rfl⟩
      rw [← hi, ← hj] at HPS
      generalize swq ys i2 j2 = zs at *
      have ei2 : (i2 : Int) + 1 = (i : Int) := by omega
      have ej2 : (j2 : Int) - 1 = (j : Int) := by omega
      have hai2 : a < i := by omega
      have hjb2 : j < b := by omega
      have hij2 : i ≤ j + 1 := by omega
      have hdec : j < j2 := by omega
      clear hi hj
      go_wp2_with fail
      clear ei2 ej2
      go_roundg (j + 1)
      case measure => omega
      case rel => exact ⟨i, j, zs, rfl, hai2, hjb2, hij2, rfl, rfl, HPS, HI4, HST4.out⟩
    · have hle' : (j2 : Int) < (i2 : Int) := by omega
      go_wp2_with fail
      go_ret
      exact ⟨i2, ys, rfl, by omega, by omega, HI.out, fun k h1 h2 => (by
        rcases Nat.eq_or_lt_of_le h1 with h | h
        · rw [← h, HP3.out.at0]; exact Int.le_refl _
        · exact HP3.out.low k h h2), fun k h1 h2 => HP3.out.high k (by omega) h2, HST3.out.row, HST3.out.grown⟩
end Go.Proofs.YtchcelodeepjdaaGreatDoor.Vx
