/- Contract of slices.symMergeCmpFunc at places, by commits, where one part has one place alone. Condition: fewer than 1000000 places. -/
import Derived.Test.YticcccciefaemaaDoorQ6
namespace Go.Proofs.YticcccciefaemaaDoor
open Go.RowKit Go.Shelf Go.Herb

set_option maxRecDepth 100000 in
set_option maxHeartbeats 2000000 in
theorem symA (g cap bl cl : Nat) (al : Option Addr) (xs : List Fc) (A : List Nat) (z : Nat) (R C : List Nat) (N : Nat) (hN : (A ++ (z :: (R ++ C))).length = N) (a b : Nat) (ha : a = A.length) (hb : b = A.length + 1 + R.length) (w : World) (h : IRow w g cap (A ++ (z :: (R ++ C)))) (hE : CEnv g w bl al cl xs) (hl : N < 1000000) (hx : ∀ i ∈ A ++ (z :: (R ++ C)), i < xs.length) (hR : SrtI (sqF xs) R) (hz : ∀ y ∈ R, z < y) (hR0 : 0 < R.length) :
    Calls Tryd.prog (43) #[.slice (some ⟨g, 0, none⟩) N cap, .int .i64 a, .int .i64 ((a : Int) + 1), .int .i64 b, ordV bl] w (SegPost (sqF xs) g cap A ([z] ++ R) C w) := by
  obtain ⟨ks, hks⟩ : ∃ ks, ks = A ++ (z :: (R ++ C)) := ⟨_, rfl⟩
  have hza : ks[a]? = some z := by rw [hks, get_app _ _ _ 0 (by omega)]; rfl
  have hRk : ∀ i, a + 1 ≤ i → i < b → ks[i]? = R[i - a - 1]? := fun i h1 h2 => by
    rw [hks, get_app _ _ _ (i - a) (by omega), show i - a = (i - a - 1) + 1 from by omega, List.getElem?_cons_succ, List.getElem?_append_left (by omega)]
    congr 1
  have hkl : ks.length = N := by rw [hks]; exact hN
  have hbN : b ≤ N := by rw [← hN]; simp only [List.length_append, List.length_cons]; omega
  rw [← hks] at h hx
  have H := Lib.hid h
  have HE := Lib.hid hE
  have HN := Lib.hid hkl
  have HX := Lib.hid hx
  have HZA := Lib.hid hza
  have HRK := Lib.hid hRk
  have HRS := Lib.hid hR
  have HZ := Lib.hid hz
  have HKS := Lib.hid hks
  have HA := Lib.hid ha
  have HB := Lib.hid hb
  have hab : a + 1 < b := by omega
  have h1 : ((a : Int) + 1 - a == 1) = true := by simp; omega
  clear h hN hkl hx hE hza hRk hR hz hks ha hb hR0
  go_enter Tryd.func43, Tryd.ntmps43
  go_wp2_with fail
  go_loopg [10, 11] (b - (a + 1)) (fun gk iv jv wr => ∃ (i j : Nat), i + gk = j ∧ a + 1 ≤ i ∧ i ≤ j ∧ j ≤ b ∧ iv = .int .i64 i ∧ jv = .int .i64 j ∧ (∀ y, a + 1 < i → ks[i - 1]? = some y → sqF xs y < sqF xs z) ∧ (∀ y, j < b → ks[j]? = some y → sqF xs z ≤ sqF xs y) ∧ w.grownBy wr (some g) ∧ IRow wr g cap ks)
  case atStart => exact ⟨a + 1, b, by omega, by omega, by omega, by omega, by go_num, rfl, fun _ h => by omega, fun _ h => by omega, grown_refl _ _, H.out⟩
  case round =>
    obtain ⟨i, j, hij, hi, hle, hj, rfl, rfl, hlo, hhi, hg, hR⟩ := hrel
    have HLO := Lib.hid hlo
    have HHI := Lib.hid hhi
    have HG := Lib.hid hg
    have HR := Lib.hid hR
    clear hlo hhi hg hR
    by_cases hlt : i < j
    · go_wp2_with fail
      obtain ⟨h, hh⟩ : ∃ h : Nat, ((i : Int) + j) / 2 = h := ⟨(i + j) / 2, by omega⟩
      rw [hh]
      have hih : i ≤ h := by omega
      have hhj : h < j := by omega
      clear hh
      obtain ⟨x, hx⟩ := at_some (xs := ks) h (by have := HN.out; omega)
      have HXX := Lib.hid hx
      have c0 := irow_cell HR.out h x hx
      have d0 := irow_cell HR.out a z HZA.out
      have hxl := HX.out x (mem_some hx)
      have hzl := HX.out z (mem_some HZA.out)
      clear hx
      have hp1 : (0 : Int) ≤ (h : Int) := by omega
      have hr1 : (h : Int) < (N : Int) := by omega
      have hr2 : (a : Int) < (N : Int) := by omega
      by_cases hs : sqF xs x < sqF xs z
      · obtain ⟨c, hc, hneg⟩ := cmpI_lt0 hs
        have HS := Lib.hid hs
        have HCM := Lib.hid hc
        clear hs hc
        go_quiet ((go_at_call 28; exact Calls.quiet_of (ord_any ((HE.out.grown HG.out).drewN _) x z hxl hzl c HCM.out)))
        have HRQ := Lib.hid (irow_drewN HR.out nq)
        have HGQ := Lib.hid (grown_drewN HG.out nq)
        clear c0 d0 hp1 hr1 hr2
        go_wp2
        go_roundg (j - (h + 1))
        case measure => omega
        case rel =>
          refine ⟨h + 1, j, by omega, by omega, by omega, by omega, by go_num, rfl, fun y _ hy => ?_, HHI.out, HGQ.out, HRQ.out⟩
          rw [Nat.add_sub_cancel, HXX.out] at hy
          injection hy with hy
          subst hy
          exact HS.out
      · obtain ⟨c, hc, hneg⟩ := cmpI_ge0 hs
        have HS := Lib.hid hs
        have HCM := Lib.hid hc
        clear hs hc
        go_quiet ((go_at_call 28; exact Calls.quiet_of (ord_any ((HE.out.grown HG.out).drewN _) x z hxl hzl c HCM.out)))
        have HRQ := Lib.hid (irow_drewN HR.out nq)
        have HGQ := Lib.hid (grown_drewN HG.out nq)
        clear c0 d0 hp1 hr1 hr2
        go_wp2
        go_roundg (h - i)
        case measure => omega
        case rel =>
          refine ⟨i, h, by omega, by omega, by omega, by omega, rfl, rfl, HLO.out, fun y _ hy => ?_, HGQ.out, HRQ.out⟩
          rw [HXX.out] at hy
          injection hy with hy
          subst hy
          have := HS.out
          omega
    · have hji : j = i := by omega
      subst hji
      have hfin := srt_left (sq := sqF xs) (R := R) (x := z) (u := j - (a + 1)) HRS.out HZ.out (by have := HA.out; have := HB.out; omega)
        (fun y h0 hy => HLO.out y (by omega) (by rw [HRK.out (j - 1) (by omega) (by omega), show j - 1 - a - 1 = j - (a + 1) - 1 from by omega]; exact hy))
        (fun y hy => by
          have hjb : j < b := by
            rcases Nat.lt_or_ge j b with h' | h'
            · exact h'
            · rw [List.getElem?_eq_none (by have := HA.out; have := HB.out; omega)] at hy; cases hy
          exact HHI.out y hjb (by rw [HRK.out j (by omega) hjb, show j - a - 1 = j - (a + 1) from by omega]; exact hy))
      have HF := Lib.hid hfin
      have hmv : MvR A z R C a ks := by
        have := MvR.start A z R C
        rw [← HA.out, ← HKS.out] at this
        exact this
      have HMV := Lib.hid hmv
      clear hfin hmv HLO HHI
      obtain ⟨wo, rfl⟩ : ∃ wo : World, wo = wr := ⟨_, rfl⟩
      go_wp2_with fail
      go_loopg [13] N (fun gk kv wr => ∃ (k : Nat) (ys : List Nat), k + gk = N + a ∧ a ≤ k ∧ k + 1 ≤ j ∧ kv = .int .i64 k ∧ MvR A z R C k ys ∧ IRow wr g cap ys ∧ w.grownBy wr (some g))
      case atStart => exact ⟨a, ks, by omega, by omega, by omega, rfl, HMV.out, HR.out, HG.out⟩
      case round =>
        obtain ⟨k, ys, hk, hak, hkj, rfl, hm, hR, hg⟩ := hrel
        have hyl : ys.length = N := by rw [hm.len, ← HKS.out]; exact HN.out
        have HYL := Lib.hid hyl
        have HM := Lib.hid hm
        have HR2 := Lib.hid hR
        have HG2 := Lib.hid hg
        clear hyl hm hR hg
        by_cases hki : k + 1 < j
        · obtain ⟨x, hx⟩ := at_some (xs := ys) k (by have := HYL.out; omega)
          obtain ⟨y, hy⟩ := at_some (xs := ys) (k + 1) (by have := HYL.out; omega)
          have c0 := irow_cell HR2.out k x hx
          have d0 := irow_cell HR2.out (k + 1) y hy
          have HX2 := Lib.hid hx
          have HY2 := Lib.hid hy
          clear hx hy
          have f0 := HR2.out.frozen k
          have g0 := HR2.out.frozen (k + 1)
          have hne : ¬ k = (k + 1) := by omega
          go_wp2_with fail
          have hw1 : IntKind.i64.wrap ((k : Int) + 1) = (k : Int) + 1 := IntWalk.i64_in _ (by omega)
          have hp1 : (0 : Int) ≤ (k : Int) + 1 := by omega
          have hq1 : ((k : Int) + 1).toNat = k + 1 := by omega
          have hr1 : (k : Int) + 1 < (N : Int) := by omega
          have hr2 : (k : Int) < (N : Int) := by omega
          go_region
          clear c0 d0 f0 g0 hne hw1 hp1 hq1 hr1 hr2
          go_wp2
          go_roundg (gk - 1)
          case measure => omega
          case rel =>
            refine ⟨k + 1, (ys.set k y).set (k + 1) x, by omega, by omega, by omega, by go_num, (MvR.up HM.out (by have := HA.out; have := HB.out; omega) HX2.out HY2.out).1, ?_, ?_⟩
            · exact irow_drew (irow_set (irow_set HR2.out k y) (k + 1) x)
            · exact grown_drew (grown_set (grown_set HG2.out _ _) _ _)
        · go_wp2
          refine bodyPost_ret (results_none rfl _ _ _) rfl ?_
          have hkk : k - A.length = j - (a + 1) := by have := HA.out; omega
          obtain ⟨-, -, hys⟩ := HM.out
          rw [hkk] at hys
          refine ⟨rfl, _, HF.out.1, HF.out.2, ?_, HG2.out⟩
          have := HR2.out
          rw [hys] at this
          simpa using this

set_option maxRecDepth 100000 in
set_option maxHeartbeats 2000000 in
theorem symB (g cap bl cl : Nat) (al : Option Addr) (xs : List Fc) (A L : List Nat) (z : Nat) (C : List Nat) (N : Nat) (hN : (A ++ (L ++ (z :: C))).length = N) (a m : Nat) (ha : a = A.length) (hm : m = A.length + L.length) (w : World) (h : IRow w g cap (A ++ (L ++ (z :: C)))) (hE : CEnv g w bl al cl xs) (hl : N < 1000000) (hx : ∀ i ∈ A ++ (L ++ (z :: C)), i < xs.length) (hL : SrtI (sqF xs) L) (hz : ∀ y ∈ L, y < z) (hL0 : 1 < L.length) :
    Calls Tryd.prog (43) #[.slice (some ⟨g, 0, none⟩) N cap, .int .i64 a, .int .i64 m, .int .i64 ((m : Int) + 1), ordV bl] w (SegPost (sqF xs) g cap A (L ++ [z]) C w) := by
  obtain ⟨ks, hks⟩ : ∃ ks, ks = A ++ (L ++ (z :: C)) := ⟨_, rfl⟩
  have hzm : ks[m]? = some z := by rw [hks, get_app _ _ _ L.length (by omega), get_app _ _ _ 0 (by omega)]; rfl
  have hLk : ∀ i, a ≤ i → i < m → ks[i]? = L[i - a]? := fun i h1 h2 => by
    rw [hks, get_app _ _ _ (i - a) (by omega), List.getElem?_append_left (by omega)]
  have hkl : ks.length = N := by rw [hks]; exact hN
  have hmN : m + 1 ≤ N := by rw [← hN]; simp only [List.length_append, List.length_cons]; omega
  rw [← hks] at h hx
  have hmvs : MvR A z L C m ks := ⟨by omega, by omega, by rw [hks, show m - A.length = L.length from by omega, List.take_length, List.drop_length]; simp⟩
  have H := Lib.hid h
  have HE := Lib.hid hE
  have HN := Lib.hid hkl
  have HX := Lib.hid hx
  have HZM := Lib.hid hzm
  have HLK := Lib.hid hLk
  have HLS := Lib.hid hL
  have HZ := Lib.hid hz
  have HMV := Lib.hid hmvs
  have HA := Lib.hid ha
  have HM0 := Lib.hid hm
  have ham : a + 1 < m := by omega
  have h1 : ((m : Int) - a == 1) = false := by simp; omega
  have h2 : ((m : Int) + 1 - m == 1) = true := by simp; omega
  clear h hN hkl hx hE hzm hLk hL hz hks ha hm hL0 hmvs
  go_enter Tryd.func43, Tryd.ntmps43
  go_wp2_with fail
  go_loopg [14, 15] (m - a) (fun gk iv jv wr => ∃ (i j : Nat), i + gk = j ∧ a ≤ i ∧ i ≤ j ∧ j ≤ m ∧ iv = .int .i64 i ∧ jv = .int .i64 j ∧ (∀ y, a < i → ks[i - 1]? = some y → sqF xs y ≤ sqF xs z) ∧ (∀ y, j < m → ks[j]? = some y → sqF xs z < sqF xs y) ∧ w.grownBy wr (some g) ∧ IRow wr g cap ks)
  case atStart => exact ⟨a, m, by omega, by omega, by omega, by omega, rfl, rfl, fun _ h => by omega, fun _ h => by omega, grown_refl _ _, H.out⟩
  case round =>
    obtain ⟨i, j, hij, hi, hle, hj, rfl, rfl, hlo, hhi, hg, hR⟩ := hrel
    have HLO := Lib.hid hlo
    have HHI := Lib.hid hhi
    have HG := Lib.hid hg
    have HR := Lib.hid hR
    clear hlo hhi hg hR
    by_cases hlt : i < j
    · go_wp2_with fail
      obtain ⟨h, hh⟩ : ∃ h : Nat, ((i : Int) + j) / 2 = h := ⟨(i + j) / 2, by omega⟩
      rw [hh]
      have hih : i ≤ h := by omega
      have hhj : h < j := by omega
      clear hh
      obtain ⟨x, hx⟩ := at_some (xs := ks) h (by have := HN.out; omega)
      have HXX := Lib.hid hx
      have c0 := irow_cell HR.out h x hx
      have d0 := irow_cell HR.out m z HZM.out
      have hxl := HX.out x (mem_some hx)
      have hzl := HX.out z (mem_some HZM.out)
      clear hx
      have hp1 : (0 : Int) ≤ (h : Int) := by omega
      have hr1 : (h : Int) < (N : Int) := by omega
      have hr2 : (m : Int) < (N : Int) := by omega
      by_cases hs : sqF xs z < sqF xs x
      · obtain ⟨c, hc, hneg⟩ := cmpI_lt0 hs
        have HS := Lib.hid hs
        have HCM := Lib.hid hc
        clear hs hc
        go_quiet ((go_at_call 28; exact Calls.quiet_of (ord_any ((HE.out.grown HG.out).drewN _) z x hzl hxl c HCM.out)))
        have HRQ := Lib.hid (irow_drewN HR.out nq)
        have HGQ := Lib.hid (grown_drewN HG.out nq)
        clear c0 d0 hp1 hr1 hr2
        try simp only [hneg, Bool.not_true]
        go_wp2
        go_roundg (h - i)
        case measure => omega
        case rel =>
          refine ⟨i, h, by omega, by omega, by omega, by omega, rfl, rfl, HLO.out, fun y _ hy => ?_, HGQ.out, HRQ.out⟩
          rw [HXX.out] at hy
          injection hy with hy
          subst hy
          exact HS.out
      · obtain ⟨c, hc, hneg⟩ := cmpI_ge0 hs
        have HS := Lib.hid hs
        have HCM := Lib.hid hc
        clear hs hc
        go_quiet ((go_at_call 28; exact Calls.quiet_of (ord_any ((HE.out.grown HG.out).drewN _) z x hzl hxl c HCM.out)))
        have HRQ := Lib.hid (irow_drewN HR.out nq)
        have HGQ := Lib.hid (grown_drewN HG.out nq)
        clear c0 d0 hp1 hr1 hr2
        try simp only [hneg, Bool.not_false]
        go_wp2
        go_roundg (j - (h + 1))
        case measure => omega
        case rel =>
          refine ⟨h + 1, j, by omega, by omega, by omega, by omega, by go_num, rfl, fun y _ hy => ?_, HHI.out, HGQ.out, HRQ.out⟩
          rw [Nat.add_sub_cancel, HXX.out] at hy
          injection hy with hy
          subst hy
          have := HS.out
          omega
    · have hji : j = i := by omega
      subst hji
      have hfin := srt_right (sq := sqF xs) (L := L) (y := z) (u := j - a) HLS.out HZ.out (by have := HA.out; have := HM0.out; omega)
        (fun x h0 hx => HLO.out x (by omega) (by rw [HLK.out (j - 1) (by omega) (by omega), show j - 1 - a = j - a - 1 from by omega]; exact hx))
        (fun x hx => by
          have hjm : j < m := by
            rcases Nat.lt_or_ge j m with h' | h'
            · exact h'
            · rw [List.getElem?_eq_none (by have := HA.out; have := HM0.out; omega)] at hx; cases hx
          exact HHI.out x hjm (by rw [HLK.out j (by omega) hjm]; exact hx))
      have HF := Lib.hid hfin
      clear hfin HLO HHI
      obtain ⟨wo, rfl⟩ : ∃ wo : World, wo = wr := ⟨_, rfl⟩
      go_wp2_with fail
      go_loopg [17] m (fun gk kv wr => ∃ (k : Nat) (ys : List Nat), gk = k ∧ k ≤ m ∧ j ≤ k ∧ kv = .int .i64 k ∧ MvR A z L C k ys ∧ IRow wr g cap ys ∧ w.grownBy wr (some g))
      case atStart => exact ⟨m, ks, rfl, by omega, by omega, rfl, HMV.out, HR.out, HG.out⟩
      case round =>
        obtain ⟨k, ys, hk, hkm, hjk, rfl, hm, hR, hg⟩ := hrel
        have hyl : ys.length = N := by have h1 := hm.len; have h2 := HMV.out.len; have h3 := HN.out; omega
        have HYL := Lib.hid hyl
        have HM := Lib.hid hm
        have HR2 := Lib.hid hR
        have HG2 := Lib.hid hg
        clear hyl hm hR hg
        by_cases hki : j < k
        · obtain ⟨x, hx⟩ := at_some (xs := ys) k (by have := HYL.out; omega)
          obtain ⟨y, hy⟩ := at_some (xs := ys) (k - 1) (by have := HYL.out; omega)
          have c0 := irow_cell HR2.out k x hx
          have d0 := irow_cell HR2.out (k - 1) y hy
          have HX2 := Lib.hid hx
          have HY2 := Lib.hid hy
          clear hx hy
          have f0 := HR2.out.frozen k
          have g0 := HR2.out.frozen (k - 1)
          have hne : ¬ k = (k - 1) := by omega
          go_wp2_with fail
          have hw1 : IntKind.i64.wrap ((k : Int) - 1) = (k : Int) - 1 := IntWalk.i64_in _ (by omega)
          have hp1 : (0 : Int) ≤ (k : Int) - 1 := by omega
          have hp2 : (1 : Int) ≤ (k : Int) := by omega
          have hq1 : ((k : Int) - 1).toNat = k - 1 := by omega
          have hr1 : (k : Int) - 1 < (N : Int) := by omega
          have hr2 : (k : Int) < (N : Int) := by omega
          go_region
          clear c0 d0 f0 g0 hne hw1 hp1 hp2 hq1 hr1 hr2
          go_wp2
          go_roundg (k - 1)
          case measure => omega
          case rel =>
            refine ⟨k - 1, (ys.set k y).set (k - 1) x, rfl, by omega, by omega, by go_num, (MvR.down HM.out (by have := HA.out; omega) HX2.out HY2.out).1, ?_, ?_⟩
            · exact irow_drew (irow_set (irow_set HR2.out k y) (k - 1) x)
            · exact grown_drew (grown_set (grown_set HG2.out _ _) _ _)
        · go_wp2
          refine bodyPost_ret (results_none rfl _ _ _) rfl ?_
          have hkk : k - A.length = j - a := by have := HA.out; omega
          obtain ⟨-, -, hys⟩ := HM.out
          rw [hkk] at hys
          refine ⟨rfl, _, HF.out.1, HF.out.2, ?_, HG2.out⟩
          have := HR2.out
          rw [hys] at this
          simpa using this
end Go.Proofs.YticcccciefaemaaDoor
