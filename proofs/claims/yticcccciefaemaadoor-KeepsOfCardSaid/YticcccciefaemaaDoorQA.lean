/- Contract of slices.CompactFunc at places, by commits: of one commit the first stays. Condition: fewer than 1000000 places. -/
import Derived.Test.YticcccciefaemaaDoorQ9
import Derived.Lib.SliceRun
namespace Go.Herb

/-- Of neighbours with one key the first one: of the first k. -/
def ddT (sq : Nat → Int) (is : List Nat) (k : Nat) : List Nat := (List.range k).filterMap (fun i => if i = 0 ∨ ¬ sq (is.getD (i - 1) 0) = sq (is.getD i 0) then some (is.getD i 0) else none)
theorem ddT_succ (sq : Nat → Int) (is : List Nat) (k : Nat) : ddT sq is (k + 1) = ddT sq is k ++ if k = 0 ∨ ¬ sq (is.getD (k - 1) 0) = sq (is.getD k 0) then [is.getD k 0] else [] := by
  unfold ddT
  rw [List.range_succ, List.filterMap_append]
  congr 1
  by_cases h : k = 0 ∨ ¬ sq (is.getD (k - 1) 0) = sq (is.getD k 0)
  · simp only [List.filterMap_cons, if_pos h, List.filterMap_nil]
  · simp only [List.filterMap_cons, if_neg h, List.filterMap_nil]
theorem ddT_len (sq : Nat → Int) (is : List Nat) (k : Nat) : (ddT sq is k).length ≤ k := by
  have := List.length_filterMap_le (fun i => if i = 0 ∨ ¬ sq (is.getD (i - 1) 0) = sq (is.getD i 0) then some (is.getD i 0) else none) (List.range k)
  simpa [ddT] using this
theorem getD_of {is : List Nat} {k x : Nat} (h : is[k]? = some x) : is.getD k 0 = x := by rw [List.getD_eq_getElem?_getD, h]; rfl
theorem ddT_keep {sq : Nat → Int} {is : List Nat} {k x y : Nat} (hx : is[k]? = some x) (hy : is[k - 1]? = some y) (h : ¬ sq x = sq y) : ddT sq is (k + 1) = ddT sq is k ++ [x] := by
  rw [ddT_succ, getD_of hx, getD_of hy, if_pos (.inr (fun e => h e.symm))]
theorem ddT_drop {sq : Nat → Int} {is : List Nat} {k x y : Nat} (hk : 0 < k) (hx : is[k]? = some x) (hy : is[k - 1]? = some y) (h : sq x = sq y) : ddT sq is (k + 1) = ddT sq is k := by
  rw [ddT_succ, getD_of hx, getD_of hy, if_neg (by omega), List.append_nil]
theorem ddT_first {sq : Nat → Int} {is : List Nat} {x : Nat} (hx : is[0]? = some x) : ddT sq is 1 = [x] := by
  rw [ddT_succ, getD_of hx, if_pos (.inl rfl)]
  rfl

theorem mem_ddT {sq : Nat → Int} {is : List Nat} (hs : SrtI sq is) (x : Nat) : x ∈ ddT sq is is.length ↔ x ∈ is ∧ ∀ y ∈ is, sq y = sq x → x ≤ y := by
  unfold ddT
  rw [List.mem_filterMap]
  constructor
  · rintro ⟨i, hi, h⟩
    rw [List.mem_range] at hi
    split at h
    · rename_i hc
      injection h with h
      rw [List.getD_eq_getElem?_getD, List.getElem?_eq_getElem hi] at h
      simp only [Option.getD_some] at h
      subst h
      refine ⟨List.getElem_mem hi, ?_⟩
      intro y hy he
      obtain ⟨j, hj, rfl⟩ := List.getElem_of_mem hy
      rcases Nat.lt_trichotomy j i with h1 | h1 | h1
      · exfalso
        rcases hc with hc | hc
        · omega
        · rw [List.getD_eq_getElem?_getD, List.getD_eq_getElem?_getD, List.getElem?_eq_getElem hi, List.getElem?_eq_getElem (show i - 1 < is.length by omega)] at hc
          simp only [Option.getD_some] at hc
          have g1 := hs.getle (show j ≤ i - 1 by omega) (by omega)
          have g2 := hs.getle (show i - 1 ≤ i by omega) hi
          omega
      · subst h1; omega
      · have := hs.get h1 hj
        unfold LtI at this
        omega
    · cases h
  · rintro ⟨hx, hmin⟩
    obtain ⟨i, hi, rfl⟩ := List.getElem_of_mem hx
    refine ⟨i, by rw [List.mem_range]; exact hi, ?_⟩
    rw [List.getD_eq_getElem?_getD, List.getD_eq_getElem?_getD, List.getElem?_eq_getElem hi]
    simp only [Option.getD_some]
    rw [if_pos]
    rcases Nat.eq_zero_or_pos i with h0 | h0
    · exact .inl h0
    · refine .inr ?_
      rw [List.getElem?_eq_getElem (show i - 1 < is.length by omega)]
      simp only [Option.getD_some]
      intro he
      have g1 := hs.get (show i - 1 < i by omega) hi
      have g2 := hmin _ (List.getElem_mem (show i - 1 < is.length by omega)) he
      unfold LtI at g1
      omega

theorem ddT_rise {sq : Nat → Int} {is : List Nat} (hs : SrtI sq is) : ∀ k, k ≤ is.length → (ddT sq is k).Pairwise (fun a b => sq a < sq b) ∧ ∀ x ∈ ddT sq is k, ∃ j, j < k ∧ is[j]? = some x := by
  intro k
  induction k with
  | zero => intro _; exact ⟨List.Pairwise.nil, by simp [ddT]⟩
  | succ k ih =>
    intro hk
    obtain ⟨h1, h2⟩ := ih (by omega)
    have hx := List.getElem?_eq_getElem (show k < is.length by omega)
    rw [ddT_succ, getD_of hx]
    split
    · rename_i hc
      constructor
      · rw [List.pairwise_append]
        refine ⟨h1, List.pairwise_singleton _ _, ?_⟩
        intro a ha b hb
        rw [List.mem_singleton] at hb
        subst hb
        obtain ⟨j, hj, he⟩ := h2 a ha
        obtain ⟨hj2, rfl⟩ := List.getElem?_eq_some_iff.1 he
        rcases hc with hc | hc
        · omega
        · rw [getD_of (List.getElem?_eq_getElem (show k - 1 < is.length by omega))] at hc
          have g1 := hs.getle (show j ≤ k - 1 by omega) (by omega)
          have g2 := hs.getle (show k - 1 ≤ k by omega) (by omega)
          omega
      · intro x hx2
        rcases List.mem_append.1 hx2 with hx2 | hx2
        · obtain ⟨j, hj, he⟩ := h2 x hx2
          exact ⟨j, by omega, he⟩
        · rw [List.mem_singleton.1 hx2]
          exact ⟨k, by omega, hx⟩
    · rw [List.append_nil]
      exact ⟨h1, fun x hx2 => by obtain ⟨j, hj, he⟩ := h2 x hx2; exact ⟨j, by omega, he⟩⟩
end Go.Herb

namespace Go.Proofs.YticcccciefaemaaDoor
open Go.RowKit Go.Shelf Go.Herb

theorem irow_wipe {g cap : Nat} : ∀ (m o : Nat) (w : World) (zs : List Nat), IRow w g cap zs → o + m ≤ zs.length → ∃ ys : List Nat, ys.length = zs.length ∧ (∀ k, k ≤ o → ys.take k = zs.take k) ∧ IRow (w.setCells g o (List.replicate m (.int .i64 0))) g cap ys
  | 0, _, w, zs, h, _ => ⟨zs, rfl, fun _ _ => rfl, h⟩
  | m + 1, o, w, zs, h, hl => by
    obtain ⟨ys, h1, h2, h3⟩ := irow_wipe m (o + 1) (w.setCell ⟨g, o, none⟩ (.int .i64 ((0 : Nat) : Int))) (zs.set o 0) (irow_set h o 0) (by rw [List.length_set]; omega)
    refine ⟨ys, by rw [h1, List.length_set], fun k hk => ?_, h3⟩
    rw [h2 k (by omega), List.take_set, List.set_eq_of_length_le (by rw [List.length_take]; omega)]
theorem irow_clear {w : World} {g cap : Nat} {zs : List Nat} (h : IRow w g cap zs) (k m : Nat) (hk : k + m ≤ zs.length) : IRow (w.setCells g k (List.replicate m (.int .i64 0))) g cap (zs.take k) := by
  obtain ⟨ys, h1, h2, h3⟩ := irow_wipe m k w zs h hk
  rw [← h2 k (Nat.le_refl _)]
  exact h3.take ic_len k
theorem grown_cells {a b : World} {g : Nat} (h : a.grownBy b (some g)) : ∀ (vs : List Value) (o : Nat), a.grownBy (b.setCells g o vs) (some g)
  | vs, o => by
    induction vs generalizing b o with
    | nil => exact h
    | cons v vs ih => exact ih (grown_set h o v) (o + 1)

set_option maxHeartbeats 400000 in
/-- Are two of one commit? -/
theorem same_any {g bl cl : Nat} {w : World} {al : Option Addr} {xs : List Fc} (hE : CEnv g w bl al cl xs) (i j : Nat) (hi : i < xs.length) (hj : j < xs.length) (c : Bool) (hc : decide (sqF xs i = sqF xs j) = c) :
    Calls Tryd.prog (31) #[.int .i64 i, .int .i64 j, .pointer (some ⟨bl, 0, none⟩)] w fun e w' => e = .returned (.bool c) ∧ ∃ n, w' = w.drewN n := by
  rw [sqF_at xs i hi, sqF_at xs j hj] at hc
  have t0 := cell_of_blk hE.box 0
  simp at t0
  obtain ⟨b, o, hal, hlt, hci⟩ := hE.els.get i hi
  have hcj := (show Facts w (some ⟨b, o, none⟩) xs from hal ▸ hE.els).get j hj
  obtain ⟨b', o', hal', hlt', hcj⟩ := hcj
  injection hal' with e1
  injection e1 with e2 e3
  subst e2 e3
  have c2 := hci 2 _ rfl
  have d2 := hcj 2 _ rfl
  generalize xs[i].seq = p at *
  generalize xs[j].seq = q at *
  have hi0 : (0 : Int) ≤ (i : Int) := by omega
  have hi1 : (i : Int) < (xs.length : Int) := by omega
  have hj0 : (0 : Int) ≤ (j : Int) := by omega
  have hj1 : (j : Int) < (xs.length : Int) := by omega
  have hcb : (p == q) = c := hc
  subst hal
  clear hci hcj hE
  go_enter Tryd.func31, Tryd.ntmps31
  go_wp2_with fail
  go_quiet (fail)
  go_wp2
  go_ret
  exact ⟨rfl, nq, rfl⟩

abbrev sameV (bl : Nat) : Value := .func (.func (31)) #[] #[.pointer (some ⟨bl, 0, none⟩)]

/-- The first ones of each commit are answered. -/
def CompPost (sq : Nat → Int) (g cap : Nat) (is : List Nat) (w : World) (e : Ending) (w' : World) : Prop :=
  e = .returned (.slice (some ⟨g, 0, none⟩) (ddT sq is is.length).length cap) ∧ IRow w' g cap (ddT sq is is.length) ∧ w.grownBy w' (some g)

theorem zero3 : ∀ w : World, (zeroValue (3)).run Tryd.prog w = .ok (.int .i64 0) w := fun _ => by kernel_rfl

set_option maxHeartbeats 4000000 in
theorem compact_any (g cap bl cl : Nat) (al : Option Addr) (xs : List Fc) (is : List Nat) (N : Nat) (hN : is.length = N) (w : World) (h : IRow w g cap is) (hE : CEnv g w bl al cl xs) (hl : N < 1000000) (hx : ∀ i ∈ is, i < xs.length) :
    Calls Tryd.prog (30) #[.slice (some ⟨g, 0, none⟩) N cap, sameV bl] w (CompPost (sqF xs) g cap is w) := by
  have hcap : N ≤ cap := by rw [← hN]; exact h.le
  have hmx : cap ≤ maxLen := h.max
  unfold maxLen at hmx
  have H := Lib.hid h
  have HE := Lib.hid hE
  have HN := Lib.hid hN
  have HX := Lib.hid hx
  clear h hE hN hx
  by_cases h2 : N < 2
  · have hdd : ddT (sqF xs) is is.length = is := by
      rw [HN.out]
      rcases is with _ | ⟨x, is⟩
      · have := HN.out; simp at this; subst this; rfl
      · have h3 := HN.out
        rw [List.length_cons] at h3
        have : is = [] := List.length_eq_zero_iff.1 (by omega)
        subst this
        have : N = 1 := by simp at h3; omega
        subst this
        exact ddT_first rfl
    have HD := Lib.hid hdd
    clear hdd
    go_enter Tryd.func30, Tryd.ntmps30
    go_wp2
    go_ret
    exact ⟨by rw [HD.out, HN.out]; rfl, by rw [HD.out]; exact H.out, grown_refl _ _⟩
  · go_enter Tryd.func30, Tryd.ntmps30
    go_wp2_with fail
    go_loopg [5] N (fun gk kv wr => ∃ k : Nat, k + gk = N + 1 ∧ 1 ≤ k ∧ k ≤ N ∧ kv = .int .i64 k ∧ ddT (sqF xs) is k = is.take k ∧ IRow wr g cap is ∧ w.grownBy wr (some g))
    case atStart =>
      obtain ⟨x, hx⟩ := at_some (xs := is) 0 (by have := HN.out; omega)
      refine ⟨1, by omega, by omega, by omega, rfl, ?_, H.out, grown_refl _ _⟩
      rw [ddT_first hx]
      obtain ⟨h0, rfl⟩ := List.getElem?_eq_some_iff.1 hx
      rw [List.take_succ_eq_append_getElem h0]
      rfl
    case round =>
      obtain ⟨k, hk, hk1, hkn, rfl, hd, hR, hg⟩ := hrel
      have HD := Lib.hid hd
      have HR := Lib.hid hR
      have HG := Lib.hid hg
      clear hd hR hg
      by_cases hlt : k < N
      · obtain ⟨x, hx⟩ := at_some (xs := is) k (by have := HN.out; omega)
        obtain ⟨y, hy⟩ := at_some (xs := is) (k - 1) (by have := HN.out; omega)
        have c0 := irow_cell HR.out k x hx
        have d0 := irow_cell HR.out (k - 1) y hy
        have hxl := HX.out x (mem_some hx)
        have hyl := HX.out y (mem_some hy)
        have HXX := Lib.hid hx
        have HYY := Lib.hid hy
        clear hx hy
        have hw1 : IntKind.i64.wrap ((k : Int) - 1) = (k : Int) - 1 := IntWalk.i64_in _ (by omega)
        have hp1 : (0 : Int) ≤ (k : Int) - 1 := by omega
        have hp2 : (1 : Int) ≤ (k : Int) := by omega
        have hq1 : ((k : Int) - 1).toNat = k - 1 := by omega
        have hr1 : (k : Int) - 1 < (N : Int) := by omega
        have hr2 : (k : Int) < (N : Int) := by omega
        cases hs : decide (sqF xs x = sqF xs y) with
        | false =>
          have HS := Lib.hid hs
          clear hs
          go_wp2_with fail
          go_quiet ((go_at_call 31; exact Calls.quiet_of (same_any ((HE.out.grown HG.out).drewN _) x y hxl hyl false HS.out)))
          have HRQ := Lib.hid (irow_drewN HR.out nq)
          have HGQ := Lib.hid (grown_drewN HG.out nq)
          clear c0 d0 hw1 hp1 hp2 hq1 hr1 hr2
          go_wp2
          go_roundg (gk - 1)
          case measure => omega
          case rel =>
            refine ⟨k + 1, by omega, by omega, by omega, by go_num, ?_, HRQ.out, HGQ.out⟩
            rw [ddT_keep HXX.out HYY.out (of_decide_eq_false HS.out), HD.out]
            obtain ⟨h0, rfl⟩ := List.getElem?_eq_some_iff.1 HXX.out
            rw [List.take_succ_eq_append_getElem h0]
        | true =>
          have HS := Lib.hid hs
          clear hs
          go_wp2_with fail
          go_quiet ((go_at_call 31; exact Calls.quiet_of (same_any ((HE.out.grown HG.out).drewN _) x y hxl hyl true HS.out)))
          have HRQ := Lib.hid (irow_drewN HR.out nq)
          have HGQ := Lib.hid (grown_drewN HG.out nq)
          have hdd : ddT (sqF xs) is (k + 1) = is.take k := by rw [ddT_drop (by omega) HXX.out HYY.out (of_decide_eq_true HS.out), HD.out]
          have HDD := Lib.hid hdd
          clear c0 d0 hw1 hp1 hp2 hq1 hr1 hr2 hdd HD HXX HYY HS
          generalize wr.drewN nq = wq at *
          have hkc : ¬ k = cap := by omega
          have hkc2 : (k : Int) ≤ (cap : Int) := by omega
          go_wp2_with fail
          obtain ⟨gko, rfl⟩ : ∃ g : Nat, g = gk := ⟨_, rfl⟩
          go_loopg [5, 7] (N - k) (fun gk kv k2v wr => ∃ (kk k2 : Nat) (zs : List Nat), k2 + gk = N - k + 1 ∧ 1 ≤ k2 ∧ k2 ≤ N - k ∧ kk < k + k2 ∧ kv = .int .i64 kk ∧ k2v = .int .i64 k2 ∧ zs.length = N ∧ zs.take kk = ddT (sqF xs) is (k + k2) ∧ (∀ i, k + k2 ≤ i + 1 → zs[i]? = is[i]?) ∧ IRow wr g cap zs ∧ w.grownBy wr (some g))
          case atStart => exact ⟨k, 1, is, by omega, by omega, by omega, by omega, rfl, rfl, HN.out, HDD.out.symm, fun _ _ => rfl, HRQ.out, HGQ.out⟩
          case round =>
            obtain ⟨kk, k2, zs, hk2, hk21, hk22, hkk, rfl, rfl, hzl, hzt, hzi, hR2, hg2⟩ := hrel
            have HZL := Lib.hid hzl
            have HZT := Lib.hid hzt
            have HZI := Lib.hid hzi
            have HR2 := Lib.hid hR2
            have HG2 := Lib.hid hg2
            clear hzl hzt hzi hR2 hg2
            by_cases hlt2 : k2 < N - k
            · obtain ⟨u, hu⟩ := at_some (xs := is) (k + k2) (by have := HN.out; omega)
              obtain ⟨v, hv⟩ := at_some (xs := is) (k + (k2 - 1)) (by have := HN.out; omega)
              have c0 := irow_cell HR2.out (k + k2) u (by rw [HZI.out _ (by omega)]; exact hu)
              have d0 := irow_cell HR2.out (k + (k2 - 1)) v (by rw [HZI.out _ (by omega)]; exact hv)
              have hul := HX.out u (mem_some hu)
              have hvl := HX.out v (mem_some hv)
              have HU := Lib.hid hu
              have HV := Lib.hid (show is[k + k2 - 1]? = some v by rw [show k + k2 - 1 = k + (k2 - 1) from by omega]; exact hv)
              clear hu hv
              have hw1 : IntKind.i64.wrap ((k2 : Int) - 1) = (k2 : Int) - 1 := IntWalk.i64_in _ (by omega)
              have hp1 : (0 : Int) ≤ (k2 : Int) - 1 := by omega
              have hp2 : (1 : Int) ≤ (k2 : Int) := by omega
              have hq1 : ((k2 : Int) - 1).toNat = k2 - 1 := by omega
              have hr1 : (k2 : Int) - 1 < ((N - k : Nat) : Int) := by omega
              have hr2 : (k2 : Int) < ((N - k : Nat) : Int) := by omega
              cases hs : decide (sqF xs u = sqF xs v) with
              | false =>
                have HS := Lib.hid hs
                clear hs
                go_wp2_with fail
                go_quiet ((go_at_call 31; exact Calls.quiet_of (same_any ((HE.out.grown HG2.out).drewN _) u v hul hvl false HS.out)))
                have HRQ2 := Lib.hid (irow_drewN HR2.out nq)
                have HGQ2 := Lib.hid (grown_drewN HG2.out nq)
                have c1 := irow_cell HRQ2.out (k + k2) u (by rw [HZI.out _ (by omega)]; exact HU.out)
                have f1 := HRQ2.out.frozen kk
                obtain ⟨o1, ho1⟩ := at_some (xs := zs) kk (by have := HZL.out; omega)
                have e1 := irow_cell HRQ2.out kk o1 ho1
                clear c0 d0 hw1 hp1 hp2 hq1 hr1 ho1
                generalize wr.drewN nq = wq2 at *
                have hr3 : (kk : Int) < (N : Int) := by omega
                go_wp2
                go_roundg (gk - 1)
                case measure => omega
                case rel =>
                  refine ⟨kk + 1, k2 + 1, zs.set kk u, by omega, by omega, by omega, by omega, by go_num, by go_num, by rw [List.length_set]; exact HZL.out, ?_, ?_, irow_set HRQ2.out kk u, grown_set HGQ2.out _ _⟩
                  · rw [← Nat.add_assoc, ddT_keep HU.out HV.out (of_decide_eq_false HS.out), ← HZT.out]
                    have h0 : kk < (zs.set kk u).length := by rw [List.length_set, HZL.out]; omega
                    rw [List.take_succ_eq_append_getElem h0, List.getElem_set_self, List.take_set, List.set_eq_of_length_le (by rw [List.length_take]; omega)]
                  · intro i hi
                    rw [List.getElem?_set_ne (by omega)]
                    exact HZI.out i (by omega)
              | true =>
                have HS := Lib.hid hs
                clear hs
                go_wp2_with fail
                go_quiet ((go_at_call 31; exact Calls.quiet_of (same_any ((HE.out.grown HG2.out).drewN _) u v hul hvl true HS.out)))
                have HRQ2 := Lib.hid (irow_drewN HR2.out nq)
                have HGQ2 := Lib.hid (grown_drewN HG2.out nq)
                clear c0 d0 hw1 hp1 hp2 hq1 hr1 hr2
                go_wp2
                go_roundg (gk - 1)
                case measure => omega
                case rel =>
                  refine ⟨kk, k2 + 1, zs, by omega, by omega, by omega, by omega, rfl, by go_num, HZL.out, ?_, fun i hi => HZI.out i (by omega), HRQ2.out, HGQ2.out⟩
                  rw [← Nat.add_assoc, ddT_drop (by omega) HU.out HV.out (of_decide_eq_true HS.out), ← HZT.out]
            · have hend : k + k2 = N := by omega
              have hkN : kk < N := by omega
              have hcl : ∀ ty, (Builtin.clear_ #[(45)] ty #[.slice (some ⟨g, kk, none⟩) (N - kk) (cap - kk)]).run Tryd.prog wr = .ok (.tuple #[]) (wr.setCells g kk (List.replicate (N - kk) (.int .i64 0))) :=
                fun ty => Lib.run_clear_slice wr (45) (3) ty _ Tryd.underlying45 zero3 rfl rfl g kk _ _ (by omega) (fun j hj => by
                  obtain ⟨o1, ho1⟩ := at_some (xs := zs) (kk + j) (by have := HZL.out; omega)
                  rw [irow_cell HR2.out (kk + j) o1 ho1]; rfl) (fun j hj => HR2.out.frozen _)
              have hdl : (ddT (sqF xs) is N).length = kk := by
                rw [← hend, ← HZT.out, List.length_take, HZL.out]; omega
              have HDL := Lib.hid hdl
              have HRC := Lib.hid (irow_clear HR2.out kk (N - kk) (by have := HZL.out; omega))
              have HTK := Lib.hid (show zs.take kk = ddT (sqF xs) is N by rw [HZT.out, hend])
              have HGC := Lib.hid (grown_cells HG2.out (List.replicate (N - kk) (.int .i64 0)) kk)
              have hkc3 : ¬ kk = cap := by omega
              have hkc4 : (kk : Int) ≤ (cap : Int) := by omega
              clear hend hdl
              go_wp2
              go_ret
              refine ⟨?_, ?_, HGC.out⟩
              · rw [HN.out, HDL.out]; rfl
              · rw [HN.out, ← HTK.out]; exact HRC.out
      · have hkN : k = N := by omega
        have hdd : ddT (sqF xs) is is.length = is := by rw [HN.out, ← hkN, HD.out, hkN, ← HN.out, List.take_length]
        have HDD := Lib.hid hdd
        clear hdd hkN
        go_wp2
        go_ret
        exact ⟨by rw [HDD.out, HN.out]; rfl, by rw [HDD.out]; exact HR.out, HG.out⟩
end Go.Proofs.YticcccciefaemaaDoor
