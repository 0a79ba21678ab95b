/- Contract of slices.symMergeCmpFunc at places, by commits, where one part has one place alone. Condition: fewer than 1000000 places. · Contract of slices.symMergeCmpFunc at places, by commits. Condition: fewer than 1000000 places. -/
import Derived.Test.YticcccciefaemaaGreatDoorQ6
import Derived.Deep.DeepCutAuto
namespace Go.Proofs.YticcccciefaemaaGreatDoor
open Go.RowKit Go.Shelf Go.Herb

set_option maxRecDepth 100000 in
set_option maxHeartbeats 2000000 in
theorem symA (g cap bl cl : Nat) (al : Option Addr) (xs : List Fc) (A : List Nat) (z : Nat) (R C : List Nat) (N : Nat) (hN : (A ++ (z :: (R ++ C))).length = N) (a b : Nat) (ha : a = A.length) (hb : b = A.length + 1 + R.length) (w : World) (h : IRow w g cap (A ++ (z :: (R ++ C)))) (hE : CEnv g w bl al cl xs) (hl : N < 1000000) (hx : ∀ i ∈ A ++ (z :: (R ++ C)), i < xs.length) (hR : SrtI (sqF xs) R) (hz : ∀ y ∈ R, z < y) (hR0 : 0 < R.length) :
    Calls Tryz.prog (100) #[.slice (some ⟨g, 0, none⟩) N cap, .int .i64 a, .int .i64 ((a : Int) + 1), .int .i64 b, ordV bl] w (SegPost (sqF xs) g cap A ([z] ++ R) C w) := by
  obtain ⟨ks, hks⟩ : ∃ ks, ks = A ++ (z :: (R ++ C)) := ⟨_, rfl⟩
  have hza : ks[a]? = some z := by rw [hks, get_app _ _ _ 0 (by omega)]; rfl
  have hRk : ∀ i, a + 1 ≤ i → i < b → ks[i]? = R[i - a - 1]? := fun i h1 h2 => by
    rw [hks, get_app _ _ _ (i - a) (by omega), show i - a = (i - a - 1) + 1 from by omega, List.getElem?_cons_succ, List.getElem?_append_left (by omega)]
    congr 1
  have hkl : ks.length = N := by rw [hks]; exact hN
  have hbN : b ≤ N := by rw [← hN]; simp only [List.length_append, List.length_cons]; omega
  rw [← hks] at h hx
  have H := Lib.hid h
  have HE := Lib.hid hE
  have HN := Lib.hid hkl
  have HX := Lib.hid hx
  have HZA := Lib.hid hza
  have HRK := Lib.hid hRk
  have HRS := Lib.hid hR
  have HZ := Lib.hid hz
  have HKS := Lib.hid hks
  have HA := Lib.hid ha
  have HB := Lib.hid hb
  have hab : a + 1 < b := by omega
  have h1 : ((a : Int) + 1 - a == 1) = true := by simp; omega
  clear h hN hkl hx hE hza hRk hR hz hks ha hb hR0
  go_enter Tryz.func100, Tryz.ntmps100
  go_wp2_with fail
  go_loopg [10, 11] (b - (a + 1)) (fun gk iv jv wr => ∃ (i j : Nat), i + gk = j ∧ a + 1 ≤ i ∧ i ≤ j ∧ j ≤ b ∧ iv = .int .i64 i ∧ jv = .int .i64 j ∧ (∀ y, a + 1 < i → ks[i - 1]? = some y → sqF xs y < sqF xs z) ∧ (∀ y, j < b → ks[j]? = some y → sqF xs z ≤ sqF xs y) ∧ w.grownBy wr (some g) ∧ IRow wr g cap ks)
  case atStart => exact ⟨a + 1, b, by omega, by omega, by omega, by omega, by go_num, rfl, fun _ h => by omega, fun _ h => by omega, grown_refl _ _, H.out⟩
  case round =>
    obtain ⟨i, j, hij, hi, hle, hj, rfl, rfl, hlo, hhi, hg, hR⟩ := hrel
    have HLO := Lib.hid hlo
    have HHI := Lib.hid hhi
    have HG := Lib.hid hg
    have HR := Lib.hid hR
    clear hlo hhi hg hR
    by_cases hlt : i < j
    · go_wp2_with fail
      obtain ⟨h, hh⟩ : ∃ h : Nat, ((i : Int) + j) / 2 = h := ⟨(i + j) / 2, by omega⟩
      rw [hh]
      have hih : i ≤ h := by omega
      have hhj : h < j := by omega
      clear hh
      obtain ⟨x, hx⟩ := at_some (xs := ks) h (by have := HN.out; omega)
      have HXX := Lib.hid hx
      have c0 := irow_cell HR.out h x hx
      have d0 := irow_cell HR.out a z HZA.out
      have hxl := HX.out x (mem_some hx)
      have hzl := HX.out z (mem_some HZA.out)
      clear hx
      have hp1 : (0 : Int) ≤ (h : Int) := by omega
      have hr1 : (h : Int) < (N : Int) := by omega
      have hr2 : (a : Int) < (N : Int) := by omega
      by_cases hs : sqF xs x < sqF xs z
      · obtain ⟨c, hc, hneg⟩ := cmpI_lt0 hs
        have HS := Lib.hid hs
        have HCM := Lib.hid hc
        clear hs hc
        go_quiet ((go_at_call 56; exact Calls.quiet_of (ord_any ((HE.out.grown HG.out).drewN _) x z hxl hzl c HCM.out)))
        have HRQ := Lib.hid (irow_drewN HR.out nq)
        have HGQ := Lib.hid (grown_drewN HG.out nq)
        clear c0 d0 hp1 hr1 hr2
        go_wp2
        go_roundg (j - (h + 1))
        case measure => omega
        case rel =>
          refine ⟨h + 1, j, by omega, by omega, by omega, by omega, by go_num, rfl, fun y _ hy => ?_, HHI.out, HGQ.out, HRQ.out⟩
          rw [Nat.add_sub_cancel, HXX.out] at hy
          injection hy with hy
          subst hy
          exact HS.out
      · obtain ⟨c, hc, hneg⟩ := cmpI_ge0 hs
        have HS := Lib.hid hs
        have HCM := Lib.hid hc
        clear hs hc
        go_quiet ((go_at_call 56; exact Calls.quiet_of (ord_any ((HE.out.grown HG.out).drewN _) x z hxl hzl c HCM.out)))
        have HRQ := Lib.hid (irow_drewN HR.out nq)
        have HGQ := Lib.hid (grown_drewN HG.out nq)
        clear c0 d0 hp1 hr1 hr2
        go_wp2
        go_roundg (h - i)
        case measure => omega
        case rel =>
          refine ⟨i, h, by omega, by omega, by omega, by omega, rfl, rfl, HLO.out, fun y _ hy => ?_, HGQ.out, HRQ.out⟩
          rw [HXX.out] at hy
          injection hy with hy
          subst hy
          have := HS.out
          omega
    · have hji : j = i := by omega
      subst hji
      have hfin := srt_left (sq := sqF xs) (R := R) (x := z) (u := j - (a + 1)) HRS.out HZ.out (by have := HA.out; have := HB.out; omega)
        (fun y h0 hy => HLO.out y (by omega) (by rw [HRK.out (j - 1) (by omega) (by omega), show j - 1 - a - 1 = j - (a + 1) - 1 from by omega]; exact hy))
        (fun y hy => by
          have hjb : j < b := by
            rcases Nat.lt_or_ge j b with h' | h'
            · exact h'
            · rw [List.getElem?_eq_none (by have := HA.out; have := HB.out; omega)] at hy; cases hy
          exact HHI.out y hjb (by rw [HRK.out j (by omega) hjb, show j - a - 1 = j - (a + 1) from by omega]; exact hy))
      have HF := Lib.hid hfin
      have hmv : MvR A z R C a ks := by
        have := MvR.start A z R C
        rw [← HA.out, ← HKS.out] at this
        exact this
      have HMV := Lib.hid hmv
      clear hfin hmv HLO HHI
      obtain ⟨wo, rfl⟩ : ∃ wo : World, wo = wr := ⟨_, rfl⟩
      go_wp2_with fail
      go_loopg [13] N (fun gk kv wr => ∃ (k : Nat) (ys : List Nat), k + gk = N + a ∧ a ≤ k ∧ k + 1 ≤ j ∧ kv = .int .i64 k ∧ MvR A z R C k ys ∧ IRow wr g cap ys ∧ w.grownBy wr (some g))
      case atStart => exact ⟨a, ks, by omega, by omega, by omega, rfl, HMV.out, HR.out, HG.out⟩
      case round =>
        obtain ⟨k, ys, hk, hak, hkj, rfl, hm, hR, hg⟩ := hrel
        have hyl : ys.length = N := by rw [hm.len, ← HKS.out]; exact HN.out
        have HYL := Lib.hid hyl
        have HM := Lib.hid hm
        have HR2 := Lib.hid hR
        have HG2 := Lib.hid hg
        clear hyl hm hR hg
        by_cases hki : k + 1 < j
        · obtain ⟨x, hx⟩ := at_some (xs := ys) k (by have := HYL.out; omega)
          obtain ⟨y, hy⟩ := at_some (xs := ys) (k + 1) (by have := HYL.out; omega)
          have c0 := irow_cell HR2.out k x hx
          have d0 := irow_cell HR2.out (k + 1) y hy
          have HX2 := Lib.hid hx
          have HY2 := Lib.hid hy
          clear hx hy
          have f0 := HR2.out.frozen k
          have g0 := HR2.out.frozen (k + 1)
          have hne : ¬ k = (k + 1) := by omega
          go_wp2_with fail
          have hw1 : IntKind.i64.wrap ((k : Int) + 1) = (k : Int) + 1 := IntWalk.i64_in _ (by omega)
          have hp1 : (0 : Int) ≤ (k : Int) + 1 := by omega
          have hq1 : ((k : Int) + 1).toNat = k + 1 := by omega
          have hr1 : (k : Int) + 1 < (N : Int) := by omega
          have hr2 : (k : Int) < (N : Int) := by omega
          go_region
          clear c0 d0 f0 g0 hne hw1 hp1 hq1 hr1 hr2
          go_wp2
          go_roundg (gk - 1)
          case measure => omega
          case rel =>
            refine ⟨k + 1, (ys.set k y).set (k + 1) x, by omega, by omega, by omega, by go_num, (MvR.up HM.out (by have := HA.out; have := HB.out; omega) HX2.out HY2.out).1, ?_, ?_⟩
            · exact irow_drew (irow_set (irow_set HR2.out k y) (k + 1) x)
            · exact grown_drew (grown_set (grown_set HG2.out _ _) _ _)
        · go_wp2
          refine bodyPost_ret (results_none rfl _ _ _) rfl ?_
          have hkk : k - A.length = j - (a + 1) := by have := HA.out; omega
          obtain ⟨-, -, hys⟩ := HM.out
          rw [hkk] at hys
          refine ⟨rfl, _, HF.out.1, HF.out.2, ?_, HG2.out⟩
          have := HR2.out
          rw [hys] at this
          simpa using this

set_option maxRecDepth 100000 in
set_option maxHeartbeats 2000000 in
theorem symB (g cap bl cl : Nat) (al : Option Addr) (xs : List Fc) (A L : List Nat) (z : Nat) (C : List Nat) (N : Nat) (hN : (A ++ (L ++ (z :: C))).length = N) (a m : Nat) (ha : a = A.length) (hm : m = A.length + L.length) (w : World) (h : IRow w g cap (A ++ (L ++ (z :: C)))) (hE : CEnv g w bl al cl xs) (hl : N < 1000000) (hx : ∀ i ∈ A ++ (L ++ (z :: C)), i < xs.length) (hL : SrtI (sqF xs) L) (hz : ∀ y ∈ L, y < z) (hL0 : 1 < L.length) :
    Calls Tryz.prog (100) #[.slice (some ⟨g, 0, none⟩) N cap, .int .i64 a, .int .i64 m, .int .i64 ((m : Int) + 1), ordV bl] w (SegPost (sqF xs) g cap A (L ++ [z]) C w) := by
  obtain ⟨ks, hks⟩ : ∃ ks, ks = A ++ (L ++ (z :: C)) := ⟨_, rfl⟩
  have hzm : ks[m]? = some z := by rw [hks, get_app _ _ _ L.length (by omega), get_app _ _ _ 0 (by omega)]; rfl
  have hLk : ∀ i, a ≤ i → i < m → ks[i]? = L[i - a]? := fun i h1 h2 => by
    rw [hks, get_app _ _ _ (i - a) (by omega), List.getElem?_append_left (by omega)]
  have hkl : ks.length = N := by rw [hks]; exact hN
  have hmN : m + 1 ≤ N := by rw [← hN]; simp only [List.length_append, List.length_cons]; omega
  rw [← hks] at h hx
  have hmvs : MvR A z L C m ks := ⟨by omega, by omega, by rw [hks, show m - A.length = L.length from by omega, List.take_length, List.drop_length]; simp⟩
  have H := Lib.hid h
  have HE := Lib.hid hE
  have HN := Lib.hid hkl
  have HX := Lib.hid hx
  have HZM := Lib.hid hzm
  have HLK := Lib.hid hLk
  have HLS := Lib.hid hL
  have HZ := Lib.hid hz
  have HMV := Lib.hid hmvs
  have HA := Lib.hid ha
  have HM0 := Lib.hid hm
  have ham : a + 1 < m := by omega
  have h1 : ((m : Int) - a == 1) = false := by simp; omega
  have h2 : ((m : Int) + 1 - m == 1) = true := by simp; omega
  clear h hN hkl hx hE hzm hLk hL hz hks ha hm hL0 hmvs
  go_enter Tryz.func100, Tryz.ntmps100
  go_wp2_with fail
  go_loopg [14, 15] (m - a) (fun gk iv jv wr => ∃ (i j : Nat), i + gk = j ∧ a ≤ i ∧ i ≤ j ∧ j ≤ m ∧ iv = .int .i64 i ∧ jv = .int .i64 j ∧ (∀ y, a < i → ks[i - 1]? = some y → sqF xs y ≤ sqF xs z) ∧ (∀ y, j < m → ks[j]? = some y → sqF xs z < sqF xs y) ∧ w.grownBy wr (some g) ∧ IRow wr g cap ks)
  case atStart => exact ⟨a, m, by omega, by omega, by omega, by omega, rfl, rfl, fun _ h => by omega, fun _ h => by omega, grown_refl _ _, H.out⟩
  case round =>
    obtain ⟨i, j, hij, hi, hle, hj, rfl, rfl, hlo, hhi, hg, hR⟩ := hrel
    have HLO := Lib.hid hlo
    have HHI := Lib.hid hhi
    have HG := Lib.hid hg
    have HR := Lib.hid hR
    clear hlo hhi hg hR
    by_cases hlt : i < j
    · go_wp2_with fail
      obtain ⟨h, hh⟩ : ∃ h : Nat, ((i : Int) + j) / 2 = h := ⟨(i + j) / 2, by omega⟩
      rw [hh]
      have hih : i ≤ h := by omega
      have hhj : h < j := by omega
      clear hh
      obtain ⟨x, hx⟩ := at_some (xs := ks) h (by have := HN.out; omega)
      have HXX := Lib.hid hx
      have c0 := irow_cell HR.out h x hx
      have d0 := irow_cell HR.out m z HZM.out
      have hxl := HX.out x (mem_some hx)
      have hzl := HX.out z (mem_some HZM.out)
      clear hx
      have hp1 : (0 : Int) ≤ (h : Int) := by omega
      have hr1 : (h : Int) < (N : Int) := by omega
      have hr2 : (m : Int) < (N : Int) := by omega
      by_cases hs : sqF xs z < sqF xs x
      · obtain ⟨c, hc, hneg⟩ := cmpI_lt0 hs
        have HS := Lib.hid hs
        have HCM := Lib.hid hc
        clear hs hc
        go_quiet ((go_at_call 56; exact Calls.quiet_of (ord_any ((HE.out.grown HG.out).drewN _) z x hzl hxl c HCM.out)))
        have HRQ := Lib.hid (irow_drewN HR.out nq)
        have HGQ := Lib.hid (grown_drewN HG.out nq)
        clear c0 d0 hp1 hr1 hr2
        try simp only [hneg, Bool.not_true]
        go_wp2
        go_roundg (h - i)
        case measure => omega
        case rel =>
          refine ⟨i, h, by omega, by omega, by omega, by omega, rfl, rfl, HLO.out, fun y _ hy => ?_, HGQ.out, HRQ.out⟩
          rw [HXX.out] at hy
          injection hy with hy
          subst hy
          exact HS.out
      · obtain ⟨c, hc, hneg⟩ := cmpI_ge0 hs
        have HS := Lib.hid hs
        have HCM := Lib.hid hc
        clear hs hc
        go_quiet ((go_at_call 56; exact Calls.quiet_of (ord_any ((HE.out.grown HG.out).drewN _) z x hzl hxl c HCM.out)))
        have HRQ := Lib.hid (irow_drewN HR.out nq)
        have HGQ := Lib.hid (grown_drewN HG.out nq)
        clear c0 d0 hp1 hr1 hr2
        try simp only [hneg, Bool.not_false]
        go_wp2
        go_roundg (j - (h + 1))
        case measure => omega
        case rel =>
          refine ⟨h + 1, j, by omega, by omega, by omega, by omega, by go_num, rfl, fun y _ hy => ?_, HHI.out, HGQ.out, HRQ.out⟩
          rw [Nat.add_sub_cancel, HXX.out] at hy
          injection hy with hy
          subst hy
          have := HS.out
          omega
    · have hji : j = i := by omega
      subst hji
      have hfin := srt_right (sq := sqF xs) (L := L) (y := z) (u := j - a) HLS.out HZ.out (by have := HA.out; have := HM0.out; omega)
        (fun x h0 hx => HLO.out x (by omega) (by rw [HLK.out (j - 1) (by omega) (by omega), show j - 1 - a = j - a - 1 from by omega]; exact hx))
        (fun x hx => by
          have hjm : j < m := by
            rcases Nat.lt_or_ge j m with h' | h'
            · exact h'
            · rw [List.getElem?_eq_none (by have := HA.out; have := HM0.out; omega)] at hx; cases hx
          exact HHI.out x hjm (by rw [HLK.out j (by omega) hjm]; exact hx))
      have HF := Lib.hid hfin
      clear hfin HLO HHI
      obtain ⟨wo, rfl⟩ : ∃ wo : World, wo = wr := ⟨_, rfl⟩
      go_wp2_with fail
      go_loopg [17] m (fun gk kv wr => ∃ (k : Nat) (ys : List Nat), gk = k ∧ k ≤ m ∧ j ≤ k ∧ kv = .int .i64 k ∧ MvR A z L C k ys ∧ IRow wr g cap ys ∧ w.grownBy wr (some g))
      case atStart => exact ⟨m, ks, rfl, by omega, by omega, rfl, HMV.out, HR.out, HG.out⟩
      case round =>
        obtain ⟨k, ys, hk, hkm, hjk, rfl, hm, hR, hg⟩ := hrel
        have hyl : ys.length = N := by have h1 := hm.len; have h2 := HMV.out.len; have h3 := HN.out; omega
        have HYL := Lib.hid hyl
        have HM := Lib.hid hm
        have HR2 := Lib.hid hR
        have HG2 := Lib.hid hg
        clear hyl hm hR hg
        by_cases hki : j < k
        · obtain ⟨x, hx⟩ := at_some (xs := ys) k (by have := HYL.out; omega)
          obtain ⟨y, hy⟩ := at_some (xs := ys) (k - 1) (by have := HYL.out; omega)
          have c0 := irow_cell HR2.out k x hx
          have d0 := irow_cell HR2.out (k - 1) y hy
          have HX2 := Lib.hid hx
          have HY2 := Lib.hid hy
          clear hx hy
          have f0 := HR2.out.frozen k
          have g0 := HR2.out.frozen (k - 1)
          have hne : ¬ k = (k - 1) := by omega
          go_wp2_with fail
          have hw1 : IntKind.i64.wrap ((k : Int) - 1) = (k : Int) - 1 := IntWalk.i64_in _ (by omega)
          have hp1 : (0 : Int) ≤ (k : Int) - 1 := by omega
          have hp2 : (1 : Int) ≤ (k : Int) := by omega
          have hq1 : ((k : Int) - 1).toNat = k - 1 := by omega
          have hr1 : (k : Int) - 1 < (N : Int) := by omega
          have hr2 : (k : Int) < (N : Int) := by omega
          go_region
          clear c0 d0 f0 g0 hne hw1 hp1 hp2 hq1 hr1 hr2
          go_wp2
          go_roundg (k - 1)
          case measure => omega
          case rel =>
            refine ⟨k - 1, (ys.set k y).set (k - 1) x, rfl, by omega, by omega, by go_num, (MvR.down HM.out (by have := HA.out; omega) HX2.out HY2.out).1, ?_, ?_⟩
            · exact irow_drew (irow_set (irow_set HR2.out k y) (k - 1) x)
            · exact grown_drew (grown_set (grown_set HG2.out _ _) _ _)
        · go_wp2
          refine bodyPost_ret (results_none rfl _ _ _) rfl ?_
          have hkk : k - A.length = j - a := by have := HA.out; omega
          obtain ⟨-, -, hys⟩ := HM.out
          rw [hkk] at hys
          refine ⟨rfl, _, HF.out.1, HF.out.2, ?_, HG2.out⟩
          have := HR2.out
          rw [hys] at this
          simpa using this
end Go.Proofs.YticcccciefaemaaGreatDoor

namespace Go.Proofs.YticcccciefaemaaGreatDoor
open Go.RowKit Go.Shelf Go.Herb

/-- What symMerge does to parts that together have at most k places. -/
def SymOk (g cap bl cl : Nat) (al : Option Addr) (xs : List Fc) (N k : Nat) : Prop := ∀ (A L R C : List Nat) (w : World) (a m b : Int), (A ++ (L ++ (R ++ C))).length = N → a = A.length → m = A.length + L.length → b = A.length + L.length + R.length →
  IRow w g cap (A ++ (L ++ (R ++ C))) → CEnv g w bl al cl xs → (∀ i ∈ A ++ (L ++ (R ++ C)), i < xs.length) → SrtI (sqF xs) L → SrtI (sqF xs) R → (∀ x ∈ L, ∀ y ∈ R, x < y) → 0 < L.length → 0 < R.length → L.length + R.length ≤ k →
  Calls Tryz.prog (100) #[.slice (some ⟨g, 0, none⟩) N cap, .int .i64 a, .int .i64 m, .int .i64 b, ordV bl] w (SegPost (sqF xs) g cap A (L ++ R) C w)

theorem perm4 (A L1 L2 R1 R2 C : List Nat) : (A ++ (L1 ++ (R1 ++ (L2 ++ (R2 ++ C))))).Perm (A ++ ((L1 ++ L2) ++ ((R1 ++ R2) ++ C))) := by
  rw [List.append_assoc, List.append_assoc]
  have h : (R1 ++ (L2 ++ (R2 ++ C))).Perm (L2 ++ (R1 ++ (R2 ++ C))) := by
    rw [← List.append_assoc, ← List.append_assoc L2]
    exact List.Perm.append_right _ List.perm_append_comm
  exact List.Perm.append_left A (List.Perm.append_left L1 h)
theorem perm4' (L1 L2 R1 R2 : List Nat) : ((L1 ++ R1) ++ (L2 ++ R2)).Perm ((L1 ++ L2) ++ (R1 ++ R2)) := by
  have h := perm4 [] L1 L2 R1 R2 []
  simpa using h

set_option maxRecDepth 100000 in
set_option maxHeartbeats 8000000 in
theorem symC (g cap bl cl : Nat) (al : Option Addr) (xs : List Fc) (A L R C : List Nat) (N : Nat) (hN : (A ++ (L ++ (R ++ C))).length = N) (a m b : Nat) (ha : a = A.length) (hm : m = A.length + L.length) (hb : b = A.length + L.length + R.length) (w : World) (h : IRow w g cap (A ++ (L ++ (R ++ C)))) (hE : CEnv g w bl al cl xs) (hl : N < 1000000) (hx : ∀ i ∈ A ++ (L ++ (R ++ C)), i < xs.length) (hL : SrtI (sqF xs) L) (hR : SrtI (sqF xs) R) (hLR : ∀ x ∈ L, ∀ y ∈ R, x < y) (hL0 : 1 < L.length) (hR0 : 1 < R.length) (ih : SymOk g cap bl cl al xs N (L.length + R.length - 1)) :
    Calls Tryz.prog (100) #[.slice (some ⟨g, 0, none⟩) N cap, .int .i64 a, .int .i64 m, .int .i64 b, ordV bl] w (SegPost (sqF xs) g cap A (L ++ R) C w) := by
  obtain ⟨ks, hks⟩ : ∃ ks, ks = A ++ (L ++ (R ++ C)) := ⟨_, rfl⟩
  have hLk : ∀ i, a ≤ i → i < m → ks[i]? = L[i - a]? := fun i h1 h2 => by
    rw [hks, get_app _ _ _ (i - a) (by omega), List.getElem?_append_left (by omega)]
  have hRk : ∀ i, m ≤ i → i < b → ks[i]? = R[i - m]? := fun i h1 h2 => by
    rw [hks, get_app _ _ _ (i - a) (by omega), get_app _ _ _ (i - m) (by omega), List.getElem?_append_left (by omega)]
  have hkl : ks.length = N := by rw [hks]; exact hN
  have hbN : b ≤ N := by rw [← hN]; simp only [List.length_append]; omega
  have ham : a + 1 < m := by omega
  have hmb : m + 1 < b := by omega
  rw [← hks] at h hx
  have H := Lib.hid h
  have HE := Lib.hid hE
  have HN := Lib.hid hkl
  have HX := Lib.hid hx
  have HLK := Lib.hid hLk
  have HRK := Lib.hid hRk
  have HLS := Lib.hid hL
  have HRS := Lib.hid hR
  have HLR := Lib.hid hLR
  have HKS := Lib.hid hks
  have HA := Lib.hid ha
  have HM := Lib.hid hm
  have HB := Lib.hid hb
  have IH := Lib.hid ih
  clear h hN hkl hx hE hLk hRk hL hR hLR hks ha hm hb hL0 hR0 ih
  have h1 : ((m : Int) - a == 1) = false := by simp; omega
  have h2 : ((b : Int) - m == 1) = false := by simp; omega
  obtain ⟨mid, hmid⟩ : ∃ mid : Nat, mid = (a + b) / 2 := ⟨_, rfl⟩
  have hm1 : a < mid := by omega
  have hm2 : mid < b := by omega
  have hm3 : a + b ≤ 2 * mid + 1 := by omega
  have hm4 : 2 * mid ≤ a + b := by omega
  have hdiv : ((a : Int) + b) / 2 = mid := by omega
  clear hmid
  go_enter Tryz.func100, Tryz.ntmps100
  go_upto_if 140 with (fail)
  clear hdiv
  go_cut [20, 21] (fun sv rv wx => ∃ s0 r0 : Nat, sv = .int .i64 s0 ∧ rv = .int .i64 r0 ∧ (s0 = a ∧ r0 = m ∧ m ≤ mid ∨ s0 + b = mid + m ∧ r0 = mid ∧ mid < m) ∧ w = wx)
  case first =>
    as_aux_lemma =>
      by_cases hgt : mid < m
      · go_wp2_with fail
        go_meet
        exact ⟨mid + m - b, mid, by go_num, rfl, .inr ⟨by omega, rfl, hgt⟩, rfl⟩
      · go_wp2_with fail
        go_meet
        exact ⟨a, m, rfl, rfl, .inl ⟨rfl, rfl, by omega⟩, rfl⟩
  case rest =>
  obtain ⟨s0, r0, rfl, rfl, hsr0, rfl⟩ := hcut
  have k1 : a ≤ s0 := by omega
  have k2 : s0 ≤ r0 := by omega
  have k3 : r0 ≤ mid := by omega
  have k4 : mid + m ≤ b + s0 := by omega
  have k5 : r0 ≤ m := by omega
  have HSR := Lib.hid hsr0
  clear hsr0
  go_wp2_with fail
  obtain ⟨p, hp⟩ : ∃ p : Nat, (mid : Int) + m - 1 = (p : Int) := ⟨mid + m - 1, by omega⟩
  rw [hp]
  have k7 : p + 1 ≤ mid + m := by omega
  have k8 : mid + m ≤ p + 1 := by omega
  clear hp
  go_loopg [20, 21] (r0 - s0) (fun gk sv rv wr => ∃ (st r : Nat), st + gk = r ∧ s0 ≤ st ∧ st ≤ r ∧ r ≤ r0 ∧ sv = .int .i64 st ∧ rv = .int .i64 r ∧ (∀ x y, s0 < st → ks[st - 1]? = some x → ks[p - (st - 1)]? = some y → sqF xs x ≤ sqF xs y) ∧ (∀ x y, r < r0 → ks[p - r]? = some y → ks[r]? = some x → sqF xs y < sqF xs x) ∧ w.grownBy wr (some g) ∧ IRow wr g cap ks)
  case atStart => exact ⟨s0, r0, by omega, by omega, by omega, by omega, rfl, rfl, fun _ _ h => by omega, fun _ _ h => by omega, grown_refl _ _, H.out⟩
  case round =>
    obtain ⟨st, r, hsr, hst, hle, hr, rfl, rfl, hlo, hhi, hg, hR⟩ := hrel
    have HLO := Lib.hid hlo
    have HHI := Lib.hid hhi
    have HR := Lib.hid hR
    have HG := Lib.hid hg
    clear hlo hhi hR hg
    by_cases hlt : st < r
    · as_aux_lemma =>
        go_wp2_with fail
        obtain ⟨c, hc⟩ : ∃ c : Nat, ((st : Int) + r) / 2 = c := ⟨(st + r) / 2, by omega⟩
        rw [hc]
        have hih : st ≤ c := by omega
        have hhj : c < r := by omega
        clear hc
        obtain ⟨y, hy⟩ := at_some (xs := ks) (p - c) (by have := HN.out; omega)
        obtain ⟨x, hx⟩ := at_some (xs := ks) c (by have := HN.out; omega)
        have c0 := irow_cell HR.out (p - c) y hy
        have d0 := irow_cell HR.out c x hx
        have hxl := HX.out x (mem_some hx)
        have hyl := HX.out y (mem_some hy)
        have HXX := Lib.hid hx
        have HYY := Lib.hid hy
        clear hx hy
        have hw1 : IntKind.i64.wrap ((p : Int) - c) = (p : Int) - c := IntWalk.i64_in _ (by omega)
        have hq1 : ((p : Int) - c).toNat = p - c := by omega
        have hp0 : (0 : Int) ≤ (p : Int) - c := by omega
        have hp1 : (0 : Int) ≤ (c : Int) := by omega
        have hp2 : (c : Int) ≤ (p : Int) := by omega
        have hp3 : c ≤ p := by omega
        have hr1 : (c : Int) < (N : Int) := by omega
        have hr2 : (p : Int) - c < (N : Int) := by omega
        by_cases hs : sqF xs y < sqF xs x
        · obtain ⟨cc, hcc, hneg⟩ := cmpI_lt0 hs
          have HS := Lib.hid hs
          have HCM := Lib.hid hcc
          clear hs hcc
          go_quiet ((go_at_call 56; exact Calls.quiet_of (ord_any ((HE.out.grown HG.out).drewN _) y x hyl hxl cc HCM.out)))
          have HRQ := Lib.hid (irow_drewN HR.out nq)
          have HGQ := Lib.hid (grown_drewN HG.out nq)
          clear c0 d0 hw1 hq1 hp0 hp1 hp2 hp3 hr1 hr2
          go_wp2
          go_roundg (c - st)
          case measure => omega
          case rel =>
            refine ⟨st, c, by omega, by omega, by omega, by omega, rfl, rfl, HLO.out, fun x' y' _ hy' hx' => ?_, HGQ.out, HRQ.out⟩
            rw [HXX.out] at hx'
            rw [HYY.out] at hy'
            injection hx' with hx'
            injection hy' with hy'
            subst hx' hy'
            exact HS.out
        · obtain ⟨cc, hcc, hneg⟩ := cmpI_ge0 hs
          have HS := Lib.hid hs
          have HCM := Lib.hid hcc
          clear hs hcc
          go_quiet ((go_at_call 56; exact Calls.quiet_of (ord_any ((HE.out.grown HG.out).drewN _) y x hyl hxl cc HCM.out)))
          have HRQ := Lib.hid (irow_drewN HR.out nq)
          have HGQ := Lib.hid (grown_drewN HG.out nq)
          clear c0 d0 hw1 hq1 hp0 hp1 hp2 hp3 hr1 hr2
          go_wp2
          go_roundg (r - (c + 1))
          case measure => omega
          case rel =>
            refine ⟨c + 1, r, by omega, by omega, by omega, by omega, by go_num, rfl, fun x' y' _ hx' hy' => ?_, HHI.out, HGQ.out, HRQ.out⟩
            rw [Nat.add_sub_cancel, HXX.out] at hx'
            rw [Nat.add_sub_cancel, HYY.out] at hy'
            injection hx' with hx'
            injection hy' with hy'
            subst hx' hy'
            have := HS.out
            omega
    · have hrs : r = st := by omega
      subst hrs
      obtain ⟨en, hen⟩ : ∃ en : Nat, (mid : Int) + m - r = (en : Int) := ⟨mid + m - r, by omega⟩
      have e1 : en + r ≤ mid + m := by omega
      have e2 : mid + m ≤ en + r := by omega
      have hst0 : a ≤ r := by omega
      have hstm : r ≤ m := by omega
      have hen0 : en ≤ b := by omega
      have henm : m ≤ en := by omega
      obtain ⟨L1, hL1⟩ : ∃ L1, L1 = L.take (r - a) := ⟨_, rfl⟩
      obtain ⟨L2, hL2⟩ : ∃ L2, L2 = L.drop (r - a) := ⟨_, rfl⟩
      obtain ⟨R1, hR1⟩ : ∃ R1, R1 = R.take (en - m) := ⟨_, rfl⟩
      obtain ⟨R2, hR2⟩ : ∃ R2, R2 = R.drop (en - m) := ⟨_, rfl⟩
      have hLe : L = L1 ++ L2 := by rw [hL1, hL2, List.take_append_drop]
      have hRe : R = R1 ++ R2 := by rw [hR1, hR2, List.take_append_drop]
      have hAl := HA.out
      have hMl := HM.out
      have hBl := HB.out
      have l1 : L1.length = r - a := by rw [hL1, List.length_take]; omega
      have l2 : L2.length = m - r := by rw [hL2, List.length_drop]; omega
      have l3 : R1.length = en - m := by rw [hR1, List.length_take]; omega
      have l4 : R2.length = b - en := by rw [hR2, List.length_drop]; omega
      have sL := hLe ▸ HLS.out
      have sR := hRe ▸ HRS.out
      have sL1 : SrtI (sqF xs) L1 := List.Pairwise.sublist (List.sublist_append_left _ _) sL
      have sL2 : SrtI (sqF xs) L2 := List.Pairwise.sublist (List.sublist_append_right _ _) sL
      have sR1 : SrtI (sqF xs) R1 := List.Pairwise.sublist (List.sublist_append_left _ _) sR
      have sR2 : SrtI (sqF xs) R2 := List.Pairwise.sublist (List.sublist_append_right _ _) sR
      have hmrg : ∀ S1 S2 : List Nat, S1.Perm (L1 ++ R1) → S2.Perm (L2 ++ R2) → SrtI (sqF xs) S1 → SrtI (sqF xs) S2 → SrtI (sqF xs) (S1 ++ S2) := by
        intro S1 S2 p1 p2 s1 s2
        rw [hL1, hR1] at p1
        rw [hL2, hR2] at p2
        refine srt_merge (sq := sqF xs) HLS.out HRS.out HLR.out ?_ ?_ (by omega) (by omega) p1 p2 s1 s2
        · intro x y h0 hx hy
          rcases HSR.out with ⟨q1, q2, q3⟩ | ⟨q1, q2, q3⟩
          · refine HLO.out x y (by omega) ?_ ?_
            · rw [HLK.out (r - 1) (by omega) (by omega), show r - 1 - a = r - a - 1 from by omega]; exact hx
            · have hv : en < b := by
                rcases Nat.lt_or_ge en b with h' | h'
                · exact h'
                · rw [List.getElem?_eq_none (by omega)] at hy; cases hy
              rw [HRK.out (p - (r - 1)) (by omega) (by omega), show p - (r - 1) - m = en - m from by omega]; exact hy
          · have hv : en < b := by
              rcases Nat.lt_or_ge en b with h' | h'
              · exact h'
              · rw [List.getElem?_eq_none (by omega)] at hy; cases hy
            refine HLO.out x y (by omega) ?_ ?_
            · rw [HLK.out (r - 1) (by omega) (by omega), show r - 1 - a = r - a - 1 from by omega]; exact hx
            · rw [HRK.out (p - (r - 1)) (by omega) (by omega), show p - (r - 1) - m = en - m from by omega]; exact hy
        · intro x y h0 hx hy
          have hu : r < m := by
            rcases Nat.lt_or_ge r m with h' | h'
            · exact h'
            · rw [List.getElem?_eq_none (by omega)] at hy; cases hy
          rcases HSR.out with ⟨q1, q2, q3⟩ | ⟨q1, q2, q3⟩
          · refine HHI.out y x (by omega) ?_ ?_
            · rw [HRK.out (p - r) (by omega) (by omega), show p - r - m = en - m - 1 from by omega]; exact hx
            · rw [HLK.out r (by omega) (by omega)]; exact hy
          · refine HHI.out y x (by omega) ?_ ?_
            · rw [HRK.out (p - r) (by omega) (by omega), show p - r - m = en - m - 1 from by omega]; exact hx
            · rw [HLK.out r (by omega) (by omega)]; exact hy
      have hlr1 : ∀ x ∈ L1, ∀ y ∈ R1, x < y := fun x hx y hy => HLR.out x (by rw [hLe]; exact List.mem_append_left _ hx) y (by rw [hRe]; exact List.mem_append_left _ hy)
      have hlr2 : ∀ x ∈ L2, ∀ y ∈ R2, x < y := fun x hx y hy => HLR.out x (by rw [hLe]; exact List.mem_append_right _ hx) y (by rw [hRe]; exact List.mem_append_right _ hy)
      have hlen : A.length + (r - a) + (m - r) + (en - m) + (b - en) + C.length = N := by
        have h1 := HN.out
        rw [HKS.out, hLe, hRe] at h1
        simp only [List.length_append] at h1
        omega
      have hks2 : ks = A ++ (L1 ++ (L2 ++ (R1 ++ (R2 ++ C)))) := by rw [HKS.out, hLe, hRe]; simp
      have hxm : ∀ l : List Nat, l.Perm (A ++ (L1 ++ (R1 ++ (L2 ++ (R2 ++ C))))) → ∀ i ∈ l, i < xs.length := by
        intro l hl i hi
        have h3 := (perm4 A L1 L2 R1 R2 C).mem_iff.1 (hl.mem_iff.1 hi)
        rw [← hLe, ← hRe, ← HKS.out] at h3
        exact HX.out i h3
      have hfinal : ∀ S1 S2 : List Nat, S1.Perm (L1 ++ R1) → S2.Perm (L2 ++ R2) → (S1 ++ S2).Perm (L ++ R) := by
        intro S1 S2 p1 p2
        rw [hLe, hRe]
        exact (p1.append p2).trans (perm4' L1 L2 R1 R2)
      have hkk : L1.length + R1.length ≤ L.length + R.length - 1 ∨ mid = b := by omega
      have hk2 : L2.length + R2.length ≤ L.length + R.length - 1 := by omega
      have hR' : IRow wr g cap (A ++ (L1 ++ (L2 ++ (R1 ++ (R2 ++ C))))) := by rw [← hks2]; exact HR.out
      have HR := Lib.hid hR'
      have HMRG := Lib.hid hmrg
      have HLR1 := Lib.hid hlr1
      have HLR2 := Lib.hid hlr2
      have HLEN := Lib.hid hlen
      have HXM := Lib.hid hxm
      have HFIN := Lib.hid hfinal
      have HK1 := Lib.hid hkk
      have HK2 := Lib.hid hk2
      have N1 := Lib.hid l1
      have N2 := Lib.hid l2
      have N3 := Lib.hid l3
      have N4 := Lib.hid l4
      have SL1 := Lib.hid sL1
      have SL2 := Lib.hid sL2
      have SR1 := Lib.hid sR1
      have SR2 := Lib.hid sR2
      clear hL1 hL2 hR1 hR2 hLe hRe hAl hMl hBl l1 l2 l3 l4 sL sR sL1 sL2 sR1 sR2 hmrg hlr1 hlr2 hlen hks2 hxm hfinal hkk hk2 hR'
      obtain ⟨wo, rfl⟩ : ∃ wo : World, wo = wr := ⟨_, rfl⟩
      go_upto_region 38 with (fail)
      go_cut [24] (fun v wx => v = .int .i64 en ∧ wo = wx)
      case first =>
        as_aux_lemma =>
          go_wp2_with fail
          go_meet
          exact ⟨rfl, rfl⟩
      case rest =>
      obtain ⟨rfl, rfl⟩ := hcut
      clear hen
      go_step
      go_step
      go_cut [] (fun wx => IRow wx g cap (A ++ (L1 ++ (R1 ++ (L2 ++ (R2 ++ C))))) ∧ w.grownBy wx (some g))
      case first =>
        as_aux_lemma =>
          by_cases b1 : r < m <;> by_cases b2 : m < en
          · go_wp2_with fail
            refine (rotate_any g cap (A ++ L1) L2 R1 (R2 ++ C) N (by have := HLEN.out; have := N1.out; have := N2.out; have := N3.out; have := N4.out; simp only [List.length_append]; omega) _ _ _ (by have := HA.out; have := N1.out; simp only [List.length_append]; omega) (by have := HA.out; have := N1.out; have := N2.out; simp only [List.length_append]; omega) (by have := HA.out; have := N1.out; have := N2.out; have := N3.out; simp only [List.length_append]; omega) (by have := N2.out; omega) (by have := N3.out; omega) _ _ (by have := HR.out; simpa using this) hl).mono ?_
            rintro e wz ⟨rfl, hR1, hg1⟩
            have HF := Lib.hid (show IRow wz g cap (A ++ (L1 ++ (R1 ++ (L2 ++ (R2 ++ C))))) ∧ w.grownBy wz (some g) from ⟨by simpa using hR1, grown_trans HG.out hg1⟩)
            clear hR1 hg1
            go_wp2_with fail
            go_meet
            exact HF.out
          · have hz : R1 = [] := List.length_eq_zero_iff.1 (by have := N3.out; omega)
            have HF := Lib.hid (show IRow wo g cap (A ++ (L1 ++ (R1 ++ (L2 ++ (R2 ++ C))))) ∧ w.grownBy wo (some g) from ⟨by have := HR.out; rw [hz] at this ⊢; simpa using this, HG.out⟩)
            clear hz
            go_wp2_with fail
            go_meet
            exact HF.out
          · have hz : L2 = [] := List.length_eq_zero_iff.1 (by have := N2.out; omega)
            have HF := Lib.hid (show IRow wo g cap (A ++ (L1 ++ (R1 ++ (L2 ++ (R2 ++ C))))) ∧ w.grownBy wo (some g) from ⟨by have := HR.out; rw [hz] at this ⊢; simpa using this, HG.out⟩)
            clear hz
            go_wp2_with fail
            go_meet
            exact HF.out
          · have hz : L2 = [] := List.length_eq_zero_iff.1 (by have := N2.out; omega)
            have HF := Lib.hid (show IRow wo g cap (A ++ (L1 ++ (R1 ++ (L2 ++ (R2 ++ C))))) ∧ w.grownBy wo (some g) from ⟨by have := HR.out; rw [hz] at this ⊢; simpa using this, HG.out⟩)
            clear hz
            go_wp2_with fail
            go_meet
            exact HF.out
      case rest =>
      obtain ⟨R1', G1'⟩ := hcut
      have HR1 := Lib.hid R1'
      have HG1 := Lib.hid G1'
      clear R1' G1'
      go_step
      go_step
      go_cut [] (fun wx => ∃ S1 : List Nat, S1.Perm (L1 ++ R1) ∧ SrtI (sqF xs) S1 ∧ IRow wx g cap (A ++ (S1 ++ (L2 ++ (R2 ++ C)))) ∧ w.grownBy wx (some g))
      case first =>
        as_aux_lemma =>
          by_cases b1 : a < r <;> by_cases b2 : r < mid
          · go_wp2_with fail
            refine (IH.out A L1 R1 (L2 ++ (R2 ++ C)) _ _ _ _ (by have := HLEN.out; have := N1.out; have := N2.out; have := N3.out; have := N4.out; simp only [List.length_append]; omega) (by have := HA.out; omega) (by have := HA.out; have := N1.out; omega) (by have := HA.out; have := N1.out; have := N3.out; omega) HR1.out (HE.out.grown HG1.out) (HXM.out _ (.refl _)) SL1.out SR1.out HLR1.out (by have := N1.out; omega) (by have := N3.out; omega) (by have := HK1.out; omega)).mono ?_
            rintro e wz ⟨rfl, S1, hp1, hs1, hR1, hg1⟩
            have HF := Lib.hid (⟨S1, hp1, hs1, hR1, grown_trans HG1.out hg1⟩ : ∃ S1 : List Nat, S1.Perm (L1 ++ R1) ∧ SrtI (sqF xs) S1 ∧ IRow wz g cap (A ++ (S1 ++ (L2 ++ (R2 ++ C)))) ∧ w.grownBy wz (some g))
            clear hp1 hs1 hR1 hg1
            go_wp2_with fail
            go_meet
            exact HF.out
          · have hz : R1 = [] := List.length_eq_zero_iff.1 (by have := N3.out; omega)
            have HF := Lib.hid (⟨L1, by rw [hz, List.append_nil], SL1.out, by have := HR1.out; rw [hz] at this; simpa using this, HG1.out⟩ : ∃ S1 : List Nat, S1.Perm (L1 ++ R1) ∧ SrtI (sqF xs) S1 ∧ IRow _ g cap (A ++ (S1 ++ (L2 ++ (R2 ++ C)))) ∧ w.grownBy _ (some g))
            clear hz
            go_wp2_with fail
            go_meet
            exact HF.out
          · have hz : L1 = [] := List.length_eq_zero_iff.1 (by have := N1.out; omega)
            have HF := Lib.hid (⟨R1, by rw [hz, List.nil_append], SR1.out, by have := HR1.out; rw [hz] at this; simpa using this, HG1.out⟩ : ∃ S1 : List Nat, S1.Perm (L1 ++ R1) ∧ SrtI (sqF xs) S1 ∧ IRow _ g cap (A ++ (S1 ++ (L2 ++ (R2 ++ C)))) ∧ w.grownBy _ (some g))
            clear hz
            go_wp2_with fail
            go_meet
            exact HF.out
          · have hz : L1 = [] := List.length_eq_zero_iff.1 (by have := N1.out; omega)
            have HF := Lib.hid (⟨R1, by rw [hz, List.nil_append], SR1.out, by have := HR1.out; rw [hz] at this; simpa using this, HG1.out⟩ : ∃ S1 : List Nat, S1.Perm (L1 ++ R1) ∧ SrtI (sqF xs) S1 ∧ IRow _ g cap (A ++ (S1 ++ (L2 ++ (R2 ++ C)))) ∧ w.grownBy _ (some g))
            clear hz
            go_wp2_with fail
            go_meet
            exact HF.out
      case rest =>
      obtain ⟨S1, p1, s1, R2', G2'⟩ := hcut
      have HS1 := Lib.hid (show S1.length = L1.length + R1.length by rw [p1.length_eq, List.length_append])
      have HP1 := Lib.hid p1
      have HSS1 := Lib.hid s1
      have HR2 := Lib.hid R2'
      have HG2 := Lib.hid G2'
      clear p1 s1 R2' G2'
      by_cases b1 : mid < en <;> by_cases b2 : en < b
      · as_aux_lemma =>
          go_wp2_with fail
          refine (IH.out (A ++ S1) L2 R2 C _ _ _ _ (by have := HLEN.out; have := HS1.out; have := N1.out; have := N2.out; have := N3.out; have := N4.out; simp only [List.length_append]; omega) (by have := HA.out; have := HS1.out; have := N1.out; have := N3.out; simp only [List.length_append]; omega) (by have := HA.out; have := HS1.out; have := N1.out; have := N2.out; have := N3.out; simp only [List.length_append]; omega) (by have := HA.out; have := HS1.out; have := N1.out; have := N2.out; have := N3.out; have := N4.out; simp only [List.length_append]; omega) (by have := HR2.out; simpa using this) (HE.out.grown HG2.out) (HXM.out _ (by rw [List.append_assoc]; refine List.Perm.append_left A ?_; rw [← List.append_assoc L1]; exact HP1.out.append_right _)) SL2.out SR2.out HLR2.out (by have := N2.out; omega) (by have := N4.out; omega) HK2.out).mono ?_
          rintro e wz ⟨rfl, S2, hp2, hs2, hR2, hg2⟩
          have HF := Lib.hid (⟨S1 ++ S2, HFIN.out S1 S2 HP1.out hp2, HMRG.out S1 S2 HP1.out hp2 HSS1.out hs2, by simpa using hR2, grown_trans HG2.out hg2⟩ : ∃ P : List Nat, P.Perm (L ++ R) ∧ SrtI (sqF xs) P ∧ IRow wz g cap (A ++ (P ++ C)) ∧ w.grownBy wz (some g))
          clear hp2 hs2 hR2 hg2
          go_wp2_with fail
          go_end0
          exact ⟨rfl, HF.out⟩
      · as_aux_lemma =>
          have hz : R2 = [] := List.length_eq_zero_iff.1 (by have := N4.out; omega)
          have HF := Lib.hid (⟨S1 ++ L2, HFIN.out S1 L2 HP1.out (by rw [hz, List.append_nil]), HMRG.out S1 L2 HP1.out (by rw [hz, List.append_nil]) HSS1.out SL2.out, by have := HR2.out; rw [hz] at this; simpa using this, HG2.out⟩ : ∃ P : List Nat, P.Perm (L ++ R) ∧ SrtI (sqF xs) P ∧ IRow _ g cap (A ++ (P ++ C)) ∧ w.grownBy _ (some g))
          clear hz
          go_wp2_with fail
          go_end0
          exact ⟨rfl, HF.out⟩
      · as_aux_lemma =>
          have hz : L2 = [] := List.length_eq_zero_iff.1 (by have := N2.out; omega)
          have HF := Lib.hid (⟨S1 ++ R2, HFIN.out S1 R2 HP1.out (by rw [hz, List.nil_append]), HMRG.out S1 R2 HP1.out (by rw [hz, List.nil_append]) HSS1.out SR2.out, by have := HR2.out; rw [hz] at this; simpa using this, HG2.out⟩ : ∃ P : List Nat, P.Perm (L ++ R) ∧ SrtI (sqF xs) P ∧ IRow _ g cap (A ++ (P ++ C)) ∧ w.grownBy _ (some g))
          clear hz
          go_wp2_with fail
          go_end0
          exact ⟨rfl, HF.out⟩
      · as_aux_lemma =>
          have hz : L2 = [] := List.length_eq_zero_iff.1 (by have := N2.out; omega)
          have HF := Lib.hid (⟨S1 ++ R2, HFIN.out S1 R2 HP1.out (by rw [hz, List.nil_append]), HMRG.out S1 R2 HP1.out (by rw [hz, List.nil_append]) HSS1.out SR2.out, by have := HR2.out; rw [hz] at this; simpa using this, HG2.out⟩ : ∃ P : List Nat, P.Perm (L ++ R) ∧ SrtI (sqF xs) P ∧ IRow _ g cap (A ++ (P ++ C)) ∧ w.grownBy _ (some g))
          clear hz
          go_wp2_with fail
          go_end0
          exact ⟨rfl, HF.out⟩
end Go.Proofs.YticcccciefaemaaGreatDoor
