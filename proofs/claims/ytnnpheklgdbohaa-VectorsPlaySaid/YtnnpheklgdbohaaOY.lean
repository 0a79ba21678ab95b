/- law16.samePoints, sameVectors, where they are the same. No condition. -/
import Derived.Test.YtnnpheklgdbohaaOW
namespace Go.Herb
theorem drewN_two (w : World) (n m : Nat) : ∃ k, (w.drewN n).drewN m = w.drewN k := ⟨n + m, by simp [World.drewN, Nat.add_assoc]⟩
theorem els_drewN {α : Type} {enc : α → List Value} {s : Nat} {w : World} {a : Option Addr} {xs : List α} (h : Els enc s w a xs) (n : Nat) : Els enc s (w.drewN n) a xs := ⟨h.get⟩
end Go.Herb
namespace Go.Proofs.Ytnnpheklgdbohaa
open Go.RowKit Go.Shelf Go.Herb

theorem samePts_any (a b : Option Addr) (ca cb N : Nat) (xs : Bh) (hN : xs.length = N) (w : World) (ha : Pts w a xs) (hb : Pts w b xs) (hl : N ≤ maxLen) :
    Calls Try.prog (29) #[.slice a N ca, .slice b N cb] w fun e w' => e = .returned (.bool true) ∧ ∃ n, w' = w.drewN n := by
  have HA := Lib.hid ha
  have HB := Lib.hid hb
  have HN := Lib.hid hN
  unfold maxLen at hl
  clear ha hb hN
  go_enter Try.func29, Try.ntmps29
  go_wp2_with fail
  go_loopg [5] N (fun gk iv wr => ∃ i : Nat, i + gk = N ∧ iv = .int .i64 i ∧ Hid (∃ n, wr = w.drewN n))
  case atStart => exact ⟨0, by omega, rfl, Lib.hid ⟨0, rfl⟩⟩
  case round =>
    obtain ⟨i, hi, rfl, HW⟩ := hrel
    by_cases hlt : i < N
    · obtain ⟨b1, o1, rfl, hl1, hc1⟩ := HA.out.get i (by have := HN.out; omega)
      obtain ⟨b2, o2, rfl, hl2, hc2⟩ := HB.out.get i (by have := HN.out; omega)
      have HCW : ∀ p, wr.cell? p = w.cell? p := fun p => by obtain ⟨n, h⟩ := HW.out; rw [h]; rfl
      have x0 := (HCW _).trans (hc1 0 _ rfl)
      have x1 := (HCW _).trans (hc1 1 _ rfl)
      have y0 := (HCW _).trans (hc2 0 _ rfl)
      have y1 := (HCW _).trans (hc2 1 _ rfl)
      simp only [Nat.add_zero] at x0 x1 y0 y1
      clear hc1 hc2 HCW
      generalize xs[i]'(by have := HN.out; omega) = q at *
      have hk0 : (0 : Int) ≤ (i : Int) := by omega
      have hk1 : (i : Int) < (N : Int) := by omega
      have hE : ∀ W, (binOp .neq (34) (.agg #[.int .u64 q.1, .int .u64 q.2]) (.agg #[.int .u64 q.1, .int .u64 q.2])).run Try.prog W = .ok (.bool false) W := fun W => by rw [run_neqP]; simp
      go_wp2_with fail
      go_quiet (fail)
      have HD := Lib.hid (show ∃ k, wr.drewN nq = w.drewN k by obtain ⟨n, h⟩ := HW.out; rw [h]; exact drewN_two w n nq)
      clear x0 x1 y0 y1 hk0 hk1 hE
      go_wp2
      go_roundg (gk - 1)
      case measure => omega
      case rel => exact ⟨i + 1, by omega, by go_num, HD⟩
    · go_wp2
      go_ret
      exact ⟨rfl, HW.out⟩

set_option maxRecDepth 100000 in
set_option maxHeartbeats 1000000 in
theorem sameVec_any (a b : Option Addr) (ca cb N : Nat) (xs ys : List Vc) (hN : xs.length = N) (he : vsOf xs = vsOf ys) (w : World) (ha : VIn w a xs) (hb : VIn w b ys) :
    Calls Try.prog (28) #[.slice a N ca, .slice b N cb] w fun e w' => e = .returned (.bool true) ∧ ∃ n, w' = w.drewN n := by
  have HA := Lib.hid ha
  have HB := Lib.hid hb
  have HE := Lib.hid he
  have hl : N ≤ maxLen := by rw [← hN]; exact ha.len
  have HN := Lib.hid hN
  have HN2 := Lib.hid (show ys.length = N by rw [← hN, ← vsOf_len xs, he, vsOf_len])
  unfold maxLen at hl
  clear ha hb he hN
  go_enter Try.func28, Try.ntmps28
  go_wp2_with fail
  go_loopg [5] N (fun gk iv wr => ∃ i : Nat, i + gk = N ∧ iv = .int .i64 i ∧ Hid (∃ n, wr = w.drewN n))
  case atStart => exact ⟨0, by omega, rfl, Lib.hid ⟨0, rfl⟩⟩
  case round =>
    obtain ⟨i, hi, rfl, HW⟩ := hrel
    by_cases hlt : i < N
    · have h1 : i < xs.length := by have := HN.out; omega
      have h2 : i < ys.length := by have := HN2.out; omega
      obtain ⟨b1, o1, rfl, hl1, hc1⟩ := HA.out.els.get i h1
      obtain ⟨b2, o2, rfl, hl2, hc2⟩ := HB.out.els.get i h2
      have HCW : ∀ p, wr.cell? p = w.cell? p := fun p => by obtain ⟨n, h⟩ := HW.out; rw [h]; rfl
      have x0 := (HCW _).trans (hc1 0 _ rfl)
      have x1 := (HCW _).trans (hc1 1 _ rfl)
      have y0 := (HCW _).trans (hc2 0 _ rfl)
      have y1 := (HCW _).trans (hc2 1 _ rfl)
      simp only [Nat.add_zero] at x0 x1 y0 y1
      have hxy : (xs[i].line, xs[i].ps) = (ys[i].line, ys[i].ps) := by
        have g1 := vsOf_get xs i h1
        have g2 := vsOf_get ys i h2
        rw [← g1, ← g2]
        simp only [HE.out]
      have HPX := Lib.hid (show Pts wr _ _ by obtain ⟨n, h⟩ := HW.out; rw [h]; exact els_drewN (HA.out.inn _ (List.getElem_mem h1)) n)
      have HPY := Lib.hid (show Pts wr _ _ by obtain ⟨n, h⟩ := HW.out; rw [h]; exact els_drewN (HB.out.inn _ (List.getElem_mem h2)) n)
      have HPL := Lib.hid (HA.out.lens _ (List.getElem_mem h1))
      clear hc1 hc2 HCW
      generalize xs[i] = x at *
      generalize ys[i] = y at *
      obtain ⟨xl, xa, xc, xp⟩ := x
      obtain ⟨yl, ya, yc, yp⟩ := y
      simp only [Prod.mk.injEq] at hxy x0 x1 y0 y1 HPX HPY HPL
      obtain ⟨rfl, rfl⟩ := hxy
      obtain ⟨pn, hpn⟩ : ∃ pn, pn = xp.length := ⟨_, rfl⟩
      rw [← hpn] at x1 y1 HPL
      have hk0 : (0 : Int) ≤ (i : Int) := by omega
      have hk1 : (i : Int) < (N : Int) := by omega
      have HS := Lib.hid (fun m => samePts_any xa ya xc yc pn xp hpn.symm (wr.drewN m) (els_drewN HPX.out m) (els_drewN HPY.out m) HPL.out)
      clear hpn
      go_wp2_with fail
      go_quiet ((go_at_call 29; exact Calls.quiet_of (HS.out _)))
      have HD := Lib.hid (show ∃ k, wr.drewN nq = w.drewN k by obtain ⟨n, h⟩ := HW.out; rw [h]; exact drewN_two w n nq)
      clear x0 x1 y0 y1 hk0 hk1
      go_wp2
      go_roundg (gk - 1)
      case measure => omega
      case rel => exact ⟨i + 1, by omega, by go_num, HD⟩
    · go_wp2
      go_ret
      exact ⟨rfl, HW.out⟩
end Go.Proofs.Ytnnpheklgdbohaa
