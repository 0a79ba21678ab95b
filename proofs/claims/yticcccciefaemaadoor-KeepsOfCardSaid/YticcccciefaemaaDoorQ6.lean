/- Contract of slices.insertionSortCmpFunc at places, by commits. Condition: fewer than 1000000 places. -/
import Derived.Test.YticcccciefaemaaDoorQ5
namespace Go.Proofs.YticcccciefaemaaDoor
open Go.RowKit Go.Shelf Go.Herb

abbrev ordV (bl : Nat) : Value := .func (.func (28)) #[] #[.pointer (some ⟨bl, 0, none⟩)]

theorem CEnv.drew {g bl cl : Nat} {w : World} {al : Option Addr} {xs : List Fc} (h : CEnv g w bl al cl xs) : CEnv g w.drew bl al cl xs := h.grown (grown_drew (grown_refl _ _))
theorem CEnv.drewN {g bl cl : Nat} {w : World} {al : Option Addr} {xs : List Fc} (h : CEnv g w bl al cl xs) (n : Nat) : CEnv g (w.drewN n) bl al cl xs := h.grown (grown_drewN (grown_refl _ _) n)

set_option maxHeartbeats 2000000 in
theorem insertion_any (g cap bl cl : Nat) (al : Option Addr) (xs : List Fc) (A S C : List Nat) (N : Nat) (hN : (A ++ (S ++ C)).length = N) (ai bi : Int) (ha : ai = A.length) (hb : bi = A.length + S.length) (w : World) (h : IRow w g cap (A ++ (S ++ C))) (hE : CEnv g w bl al cl xs) (hl : N < 1000000) (hx : ∀ i ∈ A ++ (S ++ C), i < xs.length) (hS : Asc S) :
    Calls Tryd.prog (42) #[.slice (some ⟨g, 0, none⟩) N cap, .int .i64 ai, .int .i64 bi, ordV bl] w (SegPost (sqF xs) g cap A S C w) := by
  obtain ⟨a, haN⟩ : ∃ a, a = A.length := ⟨_, rfl⟩
  obtain ⟨b, hbN⟩ : ∃ b, b = A.length + S.length := ⟨_, rfl⟩
  have ea : ai = (a : Int) := by omega
  have eb : bi = (b : Int) := by omega
  subst ea eb
  have hbn : b ≤ N := by rw [← hN]; simp only [List.length_append]; omega
  have hab : a ≤ b := by omega
  have hst : OutI (sqF xs) A S C (min (a + 1) b) (A ++ (S ++ C)) := by
    rcases Nat.eq_zero_or_pos S.length with h0 | h0
    · have hSn := List.length_eq_zero_iff.1 h0
      subst hSn
      exact OutI.none _ (by simp at hbN; omega)
    · have : min (a + 1) b = A.length + 1 := by omega
      rw [this]
      exact OutI.start h0
  have H := Lib.hid h
  have HE := Lib.hid hE
  have HN := Lib.hid hN
  have HX := Lib.hid hx
  have HS := Lib.hid hS
  have HST := Lib.hid hst
  have HA := Lib.hid haN
  have HB := Lib.hid hbN
  clear h hN hx hS hE hst haN hbN ha hb
  go_enter Tryd.func42, Tryd.ntmps42
  go_wp2
  go_loopg [8] (b + 1 - a) (fun gk iv wr => ∃ (i : Nat) (ys : List Nat), i + gk = b + 1 + 1 ∧ a < i ∧ i ≤ b + 1 ∧ iv = .int .i64 i ∧ OutI (sqF xs) A S C (min i b) ys ∧ IRow wr g cap ys ∧ w.grownBy wr (some g))
  case atStart => exact ⟨a + 1, _, by omega, by omega, by omega, by go_num, HST.out, H.out, grown_refl _ _⟩
  case round =>
    obtain ⟨i, ys, hi, hai, hib, rfl, ho, hR, hg⟩ := hrel
    have HO := Lib.hid ho
    have HR := Lib.hid hR
    have HG := Lib.hid hg
    clear ho hR hg
    by_cases hlt : i < b
    · obtain ⟨gi, rfl⟩ : ∃ gi : Nat, gi = gk := ⟨_, rfl⟩
      obtain ⟨wo, rfl⟩ : ∃ wo : World, wo = wr := ⟨_, rfl⟩
      have hin : InsI (sqF xs) A S C i i ys := by
        have := HO.out
        rw [show min i b = i from by omega] at this
        exact this.enter (by have := HB.out; omega)
      have HIN := Lib.hid hin
      clear hin
      go_wp2
      go_loopg [9] i (fun gk jv wr => ∃ (j : Nat) (zs : List Nat), gk = j ∧ a ≤ j ∧ j ≤ i ∧ jv = .int .i64 j ∧ InsI (sqF xs) A S C i j zs ∧ IRow wr g cap zs ∧ w.grownBy wr (some g))
      case atStart => exact ⟨i, ys, rfl, by omega, by omega, rfl, HIN.out, HR.out, HG.out⟩
      case round =>
        obtain ⟨j, zs, hj, haj, hji, rfl, hins, hR2, hg2⟩ := hrel
        have HI2 := Lib.hid hins
        have HR2 := Lib.hid hR2
        have HG2 := Lib.hid hg2
        have hzl : zs.length = N := by rw [hins.len]; exact HN.out
        have hmem : ∀ v ∈ zs, v < xs.length := fun v hv => HX.out v (hins.perm.mem_iff.1 hv)
        by_cases hja : a < j
        · obtain ⟨x, hx⟩ := at_some (xs := zs) j (by omega)
          obtain ⟨y, hy⟩ := at_some (xs := zs) (j - 1) (by omega)
          have c0 := irow_cell hR2 j x hx
          have d0 := irow_cell hR2 (j - 1) y hy
          have hxl := hmem x (mem_some hx)
          have hyl := hmem y (mem_some hy)
          have HX2 := Lib.hid hx
          have HY2 := Lib.hid hy
          clear hins hR2 hg2 hx hy hmem
          have hjb : decide (a < j) = true := by simp; omega
          have hw1 : IntKind.i64.wrap ((j : Int) - 1) = (j : Int) - 1 := IntWalk.i64_in _ (by omega)
          have hp1 : (0 : Int) ≤ (j : Int) - 1 := by omega
          have hp1' : (1 : Int) ≤ (j : Int) := by omega
          have hq1 : ((j : Int) - 1).toNat = j - 1 := by omega
          have hr1 : (j : Int) - 1 < (N : Int) := by omega
          have hr2 : (j : Int) < (N : Int) := by omega
          by_cases hs : sqF xs x < sqF xs y
          · obtain ⟨c, hc, hneg⟩ := cmpI_lt0 hs
            have HS2 := Lib.hid hs
            have HCM := Lib.hid hc
            have HZL := Lib.hid hzl
            clear hs hc hzl
            go_wp2_with fail
            go_quiet ((go_at_call 28; exact Calls.quiet_of (ord_any ((HE.out.grown HG2.out).drewN _) x y hxl hyl c HCM.out)))
            have HRQ := Lib.hid (irow_drewN HR2.out nq)
            have HGQ := Lib.hid (grown_drewN HG2.out nq)
            have c1 := irow_cell HRQ.out j x HX2.out
            have d1 := irow_cell HRQ.out (j - 1) y HY2.out
            have f0 := HRQ.out.frozen j
            have g0 := HRQ.out.frozen (j - 1)
            generalize wr.drewN nq = wq at *
            clear c0 d0
            have hne : ¬ j = j - 1 := by omega
            go_wp2
            go_region
            clear hw1 hp1 hp1' hq1 hr1 hr2 f0 g0 c1 d1
            go_wp2
            go_roundg (j - 1)
            case measure => omega
            case rel =>
              refine ⟨j - 1, (zs.set j y).set (j - 1) x, rfl, by omega, by omega, by go_num, (InsI.swap HI2.out (by have := HA.out; omega) HX2.out HY2.out HS2.out).1, ?_, ?_⟩
              · exact irow_drew (irow_set (irow_set HRQ.out j y) (j - 1) x)
              · exact grown_drew (grown_set (grown_set HGQ.out _ _) _ _)
          · obtain ⟨c, hc, hneg⟩ := cmpI_ge0 hs
            have HS2 := Lib.hid hs
            have HCM := Lib.hid hc
            have HZL := Lib.hid hzl
            clear hs hc hzl
            go_wp2_with fail
            go_quiet ((go_at_call 28; exact Calls.quiet_of (ord_any ((HE.out.grown HG2.out).drewN _) x y hxl hyl c HCM.out)))
            have HRQ := Lib.hid (irow_drewN HR2.out nq)
            have HGQ := Lib.hid (grown_drewN HG2.out nq)
            clear hw1 hp1 hp1' hq1 hr1 hr2 c0 d0
            go_wp2
            go_roundg (gi - 1)
            case measure => omega
            case rel => exact ⟨i + 1, zs, by omega, by omega, by omega, by go_num, by rw [show min (i + 1) b = i + 1 from by omega]; exact HI2.out.leave HS.out (.inr ⟨x, y, HX2.out, HY2.out, by have := HA.out; omega, by have := HS2.out; omega⟩), HRQ.out, HGQ.out⟩
        · have hjb : decide (a < j) = false := by simp; omega
          clear hins hR2 hg2 hmem
          have hje : j = a := by omega
          have HJE := Lib.hid hje
          clear hje
          go_wp2_with fail
          go_quiet (fail)
          have HRQ := Lib.hid (irow_drewN HR2.out nq)
          have HGQ := Lib.hid (grown_drewN HG2.out nq)
          go_wp2
          go_roundg (gi - 1)
          case measure => omega
          case rel => exact ⟨i + 1, zs, by omega, by omega, by omega, by go_num, by rw [show min (i + 1) b = i + 1 from by omega]; exact HI2.out.leave HS.out (.inl (by rw [HJE.out]; exact HA.out)), HRQ.out, HGQ.out⟩
    · go_wp2
      go_end0
      obtain ⟨P, h1, h2, h3⟩ := OutI.stop HO.out (by have := HB.out; omega)
      exact ⟨rfl, P, h1, h2, h3 ▸ HR.out, HG.out⟩
end Go.Proofs.YticcccciefaemaaDoor
