/- slices.Compact at points. Condition: fewer than 1000000 points. · How vectors and acts are read. No condition. · law16.VectorsTurned's walk. No condition. · slices.SortFunc, slices.Compact of no points. No condition. -/
import Derived.Test.YticcccciefaemaaGreatDoorON
import Derived.Lib.SliceRun
import Derived.Test.YticcccciefaemaaGreatDoorRd
import Derived.Test.YticcccciefaemaaGreatDoorProg
import Derived.Deep.RegionHeld3
namespace Go.Herb
open Go.RowKit

theorem flat_set2 {α : Type} {enc : α → List Value} (hs : ∀ x, (enc x).length = 2) (xs : List α) (i : Nat) (x : α) (c0 c1 : Value) (hx : enc x = [c0, c1]) (l : List Value) (hl : l.take (xs.length * 2) = xs.flatMap enc) :
    ((l.set (i * 2) c0).set (i * 2 + 1) c1).take ((xs.set i x).length * 2) = (xs.set i x).flatMap enc := by
  have hlen : xs.length * 2 ≤ l.length := by
    have := congrArg List.length hl
    rw [flatMap_len hs, List.length_take] at this
    omega
  apply List.ext_getElem?
  intro j
  rw [List.length_set]
  rcases Nat.lt_or_ge j (xs.length * 2) with hj | hj
  · rw [List.getElem?_take_of_lt hj]
    have hij : j / 2 < xs.length := (Nat.div_lt_iff_lt_mul (by decide)).2 hj
    have he : j = j / 2 * 2 + j % 2 := by rw [Nat.mul_comm]; exact (Nat.div_add_mod j 2).symm
    have hr : j % 2 < 2 := Nat.mod_lt _ (by decide)
    have h1 := flatMap_get hs (xs.set i x) (j / 2) (j % 2) (by simpa using hij) hr
    rw [← he] at h1
    rw [h1]
    have h2 := flatMap_get hs xs (j / 2) (j % 2) hij hr
    rw [← he, ← hl, List.getElem?_take_of_lt hj] at h2
    by_cases hjk : j / 2 = i
    · have e1 : (xs.set i x)[j / 2]'(by simpa using hij) = x := by simp [hjk]
      rw [e1, hx]
      have : j % 2 = 0 ∨ j % 2 = 1 := by omega
      rcases this with h | h
      · have e : j = i * 2 := by omega
        rw [h, e]
        rw [List.getElem?_set_ne (by omega), List.getElem?_set_self (by omega)]; rfl
      · have e : j = i * 2 + 1 := by omega
        rw [h, e]
        rw [List.getElem?_set_self (by simp; omega)]; rfl
    · have e1 : (xs.set i x)[j / 2]'(by simpa using hij) = xs[j / 2] := by
        rw [List.getElem_set_ne (by omega)]
      rw [e1, ← h2]
      rw [List.getElem?_set_ne (by omega), List.getElem?_set_ne (by omega)]
  · rw [List.getElem?_eq_none (by rw [List.length_take]; omega), List.getElem?_eq_none (by rw [flatMap_len hs]; simpa using hj)]
theorem Row.set2 {α : Type} {enc : α → List Value} {e : Nat} {w : World} {g cap : Nat} {xs : List α} (h : Row enc 2 e w g cap xs) (hs : ∀ x, (enc x).length = 2) (i : Nat) (x : α) (c0 c1 : Value) (hx : enc x = [c0, c1]) :
    Row enc 2 e ((w.setCell ⟨g, i * 2, none⟩ c0).setCell ⟨g, i * 2 + 1, none⟩ c1) g cap (xs.set i x) := by
  obtain ⟨cur, hc, hsz, htk⟩ := h.blk
  refine ⟨⟨_, blk_setCell (blk_setCell hc _) _, by simpa using hsz, ?_⟩, by simpa using h.le, h.max⟩
  have := flat_set2 hs xs i x c0 c1 hx cur.toList htk
  simpa using this
theorem Row.past {α : Type} {enc : α → List Value} {s e : Nat} {w : World} {g cap : Nat} {xs : List α} (h : Row enc s e w g cap xs) (o : Nat) (ho : xs.length * s ≤ o) (c : Value) :
    Row enc s e (w.setCell ⟨g, o, none⟩ c) g cap xs := by
  obtain ⟨cur, hc, hsz, htk⟩ := h.blk
  refine ⟨⟨_, blk_setCell hc _, by simpa using hsz, ?_⟩, h.le, h.max⟩
  simp only [Array.toList_setIfInBounds]
  rw [List.take_set, List.set_eq_of_length_le (by rw [List.length_take]; omega), htk]
theorem Row.pasts {α : Type} {enc : α → List Value} {s e : Nat} {g cap : Nat} {xs : List α} : ∀ (vs : List Value) (o : Nat) (w : World), Row enc s e w g cap xs → xs.length * s ≤ o → Row enc s e (w.setCells g o vs) g cap xs
  | [], _, _, h, _ => h
  | v :: vs, o, w, h, ho => Row.pasts vs (o + 1) _ (h.past o ho v) (by omega)
theorem grown_cells {a : World} {g : Nat} : ∀ (vs : List Value) (o : Nat) (b : World), a.grownBy b (some g) → a.grownBy (b.setCells g o vs) (some g)
  | [], _, _, h => h
  | v :: vs, o, _, h => grown_cells vs (o + 1) _ (grown_set h o v)
theorem run_clear_two {P : Program} (w : World) (t e ty : TypeId) (z u : Value) (ht : P.underlying t = some (.slice e)) (hv : ∀ w, (zeroValue e).run P w = .ok z w) (hz : z.cells = #[u, u]) (h1 : u.oneCell' = true) (b o n c : Nat) (hn : 0 < n)
    (hc : ∀ j, j < n * 2 → (w.cell? ⟨b, o + j, none⟩).isSome = true) (hf : ∀ j, j < n * 2 → w.frozen? ⟨b, o + j, none⟩ = false) :
    (Builtin.clear_ #[t] ty #[.slice (some ⟨b, o, none⟩) n c]).run P w = .ok (.tuple #[]) (w.setCells b o (List.replicate (n * 2) u)) := by
  have hzc : (Builtin.zeroCells z.cells n).toList = List.replicate (n * 2) u := by
    rw [hz]
    simp [Builtin.zeroCells]
    apply List.ext_getElem
    · simp
    · intro i h1 h2
      have : i % 2 = 0 ∨ i % 2 = 1 := by omega
      rcases this with h | h <;> simp [h]
  have hst := run_storeCells_cells (P := P) b o (List.replicate (n * 2) u) 0 w (by simpa using hc) (by simpa using hf) (by intro v hv'; rw [List.eq_of_mem_replicate hv']; exact h1)
  simp only [Nat.add_zero] at hst
  obtain ⟨m, rfl⟩ : ∃ m, n = m + 1 := ⟨n - 1, by omega⟩
  simp [Builtin.clear_, run_underlying ht, hv, hzc, hst]

/-- Of equal neighbours the first one: of the first k. -/
def ddP (xs : List (Int × Int)) (k : Nat) : List (Int × Int) := (List.range k).filterMap (fun i => if i = 0 ∨ ¬ xs.getD (i - 1) (0, 0) = xs.getD i (0, 0) then some (xs.getD i (0, 0)) else none)
theorem ddP_succ (xs : List (Int × Int)) (k : Nat) : ddP xs (k + 1) = ddP xs k ++ if k = 0 ∨ ¬ xs.getD (k - 1) (0, 0) = xs.getD k (0, 0) then [xs.getD k (0, 0)] else [] := by
  unfold ddP
  rw [List.range_succ, List.filterMap_append]
  congr 1
  by_cases h : k = 0 ∨ ¬ xs.getD (k - 1) (0, 0) = xs.getD k (0, 0)
  · simp only [List.filterMap_cons, if_pos h, List.filterMap_nil]
  · simp only [List.filterMap_cons, if_neg h, List.filterMap_nil]
theorem getDP_of {xs : List (Int × Int)} {k : Nat} {x : Int × Int} (h : xs[k]? = some x) : xs.getD k (0, 0) = x := by rw [List.getD_eq_getElem?_getD, h]; rfl
theorem ddP_keep {xs : List (Int × Int)} {k : Nat} {x y : Int × Int} (hx : xs[k]? = some x) (hy : xs[k - 1]? = some y) (h : ¬ x = y) : ddP xs (k + 1) = ddP xs k ++ [x] := by
  rw [ddP_succ, getDP_of hx, getDP_of hy, if_pos (.inr (fun e => h e.symm))]
theorem ddP_drop {xs : List (Int × Int)} {k : Nat} {x y : Int × Int} (hk : 0 < k) (hx : xs[k]? = some x) (hy : xs[k - 1]? = some y) (h : x = y) : ddP xs (k + 1) = ddP xs k := by
  rw [ddP_succ, getDP_of hx, getDP_of hy, if_neg (by simp [h]; omega), List.append_nil]
theorem ddP_first {xs : List (Int × Int)} {x : Int × Int} (hx : xs[0]? = some x) : ddP xs 1 = [x] := by
  rw [ddP_succ, getDP_of hx, if_pos (.inl rfl)]
  rfl
end Go.Herb

namespace Go.Proofs.YticcccciefaemaaGreatDoor.Vx
open Go.RowKit Go.Shelf Go.Herb Go.Sort

abbrev RowP (w : World) (g cap : Nat) (xs : Bh) : Prop := Row pc 2 (72) w g cap xs
theorem rp_cells {w : World} {g cap : Nat} {xs : Bh} (h : RowP w g cap xs) (i : Nat) (x : Int × Int) (hx : xs[i]? = some x) : w.cell? ⟨g, i * 2, none⟩ = some (.int .u64 x.1) ∧ w.cell? ⟨g, i * 2 + 1, none⟩ = some (.int .u64 x.2) := by
  obtain ⟨hi, rfl⟩ := List.getElem?_eq_some_iff.1 hx
  exact ⟨h.cell pc_len i hi 0 _ rfl, h.cell pc_len i hi 1 _ rfl⟩
theorem rp_drewN {w : World} {g cap : Nat} {xs : Bh} (h : RowP w g cap xs) (n : Nat) : RowP (w.drewN n) g cap xs := h.same rfl
theorem rp_set {w : World} {g cap : Nat} {xs : Bh} (h : RowP w g cap xs) (i : Nat) (x : Int × Int) : RowP ((w.setCell ⟨g, i * 2, none⟩ (.int .u64 x.1)).setCell ⟨g, i * 2 + 1, none⟩ (.int .u64 x.2)) g cap (xs.set i x) := h.set2 pc_len i x _ _ rfl
theorem at_someP {xs : Bh} (i : Nat) (h : i < xs.length) : ∃ x, xs[i]? = some x := ⟨_, List.getElem?_eq_getElem h⟩
theorem zeroP3 : ∀ w : World, (zeroValue (72)).run Tryz.prog w = .ok (.agg #[.int .u64 0, .int .u64 0]) w := fun _ => by kernel_rfl

/-- The first ones of equal neighbours are answered. -/
def CompPostP (g cap : Nat) (xs : Bh) (w : World) (e : Ending) (w' : World) : Prop :=
  e = .returned (.slice (some ⟨g, 0, none⟩) (ddP xs xs.length).length cap) ∧ RowP w' g cap (ddP xs xs.length) ∧ w.grownBy w' (some g)

set_option maxHeartbeats 4000000 in
theorem compactP_any (g cap : Nat) (xs : Bh) (N : Nat) (hN : xs.length = N) (w : World) (h : RowP w g cap xs) (hl : N < 1000000) :
    Calls Tryz.prog (50) #[.slice (some ⟨g, 0, none⟩) N cap] w (CompPostP g cap xs w) := by
  have hcap : N ≤ cap := by rw [← hN]; exact h.le
  have hmx : cap ≤ maxLen := h.max
  unfold maxLen at hmx
  have H := Lib.hid h
  have HN := Lib.hid hN
  clear h hN
  by_cases h2 : N < 2
  · have hdd : ddP xs xs.length = xs := by
      rw [HN.out]
      rcases xs with _ | ⟨x, xs⟩
      · have := HN.out; simp at this; subst this; rfl
      · have h3 := HN.out
        rw [List.length_cons] at h3
        have : xs = [] := List.length_eq_zero_iff.1 (by omega)
        subst this
        have : N = 1 := by simp at h3; omega
        subst this
        exact ddP_first rfl
    have HD := Lib.hid hdd
    clear hdd
    go_enter Tryz.func50, Tryz.ntmps50
    go_wp2
    go_ret
    exact ⟨by rw [HD.out, HN.out]; rfl, by rw [HD.out]; exact H.out, grown_refl _ _⟩
  · have eqs := fun a b c d w => run_eqlP a b c d w
    have nes := fun a b c d w => run_neqP a b c d w
    have EQ := Lib.hid eqs
    have NE := Lib.hid nes
    clear eqs nes
    go_enter Tryz.func50, Tryz.ntmps50
    go_wp2_with fail
    go_loopg [3] N (fun gk kv wr => ∃ k : Nat, k + gk = N + 1 ∧ 1 ≤ k ∧ k ≤ N ∧ kv = .int .i64 k ∧ ddP xs k = xs.take k ∧ RowP wr g cap xs ∧ w.grownBy wr (some g))
    case atStart =>
      obtain ⟨x, hx⟩ := at_someP (xs := xs) 0 (by have := HN.out; omega)
      refine ⟨1, by omega, by omega, by omega, rfl, ?_, H.out, grown_refl _ _⟩
      rw [ddP_first hx]
      obtain ⟨h0, rfl⟩ := List.getElem?_eq_some_iff.1 hx
      rw [List.take_succ_eq_append_getElem h0]
      rfl
    case round =>
      obtain ⟨k, hk, hk1, hkn, rfl, hd, hR, hg⟩ := hrel
      have HD := Lib.hid hd
      have HR := Lib.hid hR
      have HG := Lib.hid hg
      clear hd hR hg
      by_cases hlt : k < N
      · obtain ⟨x, hx⟩ := at_someP (xs := xs) k (by have := HN.out; omega)
        obtain ⟨y, hy⟩ := at_someP (xs := xs) (k - 1) (by have := HN.out; omega)
        obtain ⟨c0, c1⟩ := rp_cells HR.out k x hx
        obtain ⟨d0, d1⟩ := rp_cells HR.out (k - 1) y hy
        have HXX := Lib.hid hx
        have HYY := Lib.hid hy
        clear hx hy
        have hw1 : IntKind.i64.wrap ((k : Int) - 1) = (k : Int) - 1 := IntWalk.i64_in _ (by omega)
        have hp1 : (0 : Int) ≤ (k : Int) - 1 := by omega
        have hp2 : (1 : Int) ≤ (k : Int) := by omega
        have hq1 : ((k : Int) - 1).toNat = k - 1 := by omega
        have hr1 : (k : Int) - 1 < (N : Int) := by omega
        have hr2 : (k : Int) < (N : Int) := by omega
        have hE := fun w => run_eqlP x.1 x.2 y.1 y.2 w
        cases hs : decide (x.1 = y.1 ∧ x.2 = y.2) with
        | false =>
          have HS := Lib.hid hs
          rw [hs] at hE
          clear hs
          go_wp2_with fail
          go_quiet (fail)
          have HRQ := Lib.hid (rp_drewN HR.out nq)
          have HGQ := Lib.hid (grown_drewN HG.out nq)
          clear c0 c1 d0 d1 hw1 hp1 hp2 hq1 hr1 hr2 hE
          go_wp2
          go_roundg (gk - 1)
          case measure => omega
          case rel =>
            refine ⟨k + 1, by omega, by omega, by omega, by go_num, ?_, HRQ.out, HGQ.out⟩
            rw [ddP_keep HXX.out HYY.out (by intro e; have := of_decide_eq_false HS.out; exact this (by rw [e]; exact ⟨rfl, rfl⟩)), HD.out]
            obtain ⟨h0, rfl⟩ := List.getElem?_eq_some_iff.1 HXX.out
            rw [List.take_succ_eq_append_getElem h0]
        | true =>
          have HS := Lib.hid hs
          rw [hs] at hE
          clear hs
          go_wp2_with fail
          go_quiet (fail)
          have HRQ := Lib.hid (rp_drewN HR.out nq)
          have HGQ := Lib.hid (grown_drewN HG.out nq)
          have hdd : ddP xs (k + 1) = xs.take k := by rw [ddP_drop (by omega) HXX.out HYY.out (Prod.ext (of_decide_eq_true HS.out).1 (of_decide_eq_true HS.out).2), HD.out]
          have HDD := Lib.hid hdd
          clear c0 c1 d0 d1 hw1 hp1 hp2 hq1 hr1 hr2 hE hdd HD HXX HYY HS
          generalize wr.drewN nq = wq at *
          have hkc : ¬ k = cap := by omega
          have hkc2 : (k : Int) ≤ (cap : Int) := by omega
          go_wp2_with fail
          obtain ⟨gko, rfl⟩ : ∃ g : Nat, g = gk := ⟨_, rfl⟩
          go_loopg [3, 5] (N - k) (fun gk kv k2v wr => ∃ (kk k2 : Nat) (zs : Bh), k2 + gk = N - k + 1 ∧ 1 ≤ k2 ∧ k2 ≤ N - k ∧ kk < k + k2 ∧ kv = .int .i64 kk ∧ k2v = .int .i64 k2 ∧ zs.length = N ∧ zs.take kk = ddP xs (k + k2) ∧ (∀ i, k + k2 ≤ i + 1 → zs[i]? = xs[i]?) ∧ RowP wr g cap zs ∧ w.grownBy wr (some g))
          case atStart => exact ⟨k, 1, xs, by omega, by omega, by omega, by omega, rfl, rfl, HN.out, HDD.out.symm, fun _ _ => rfl, HRQ.out, HGQ.out⟩
          case round =>
            obtain ⟨kk, k2, zs, hk2, hk21, hk22, hkk, rfl, rfl, hzl, hzt, hzi, hR2, hg2⟩ := hrel
            have HZL := Lib.hid hzl
            have HZT := Lib.hid hzt
            have HZI := Lib.hid hzi
            have HR2 := Lib.hid hR2
            have HG2 := Lib.hid hg2
            clear hzl hzt hzi hR2 hg2
            by_cases hlt2 : k2 < N - k
            · obtain ⟨u, hu⟩ := at_someP (xs := xs) (k + k2) (by have := HN.out; omega)
              obtain ⟨v, hv⟩ := at_someP (xs := xs) (k + (k2 - 1)) (by have := HN.out; omega)
              obtain ⟨c0, c1⟩ := rp_cells HR2.out (k + k2) u (by rw [HZI.out _ (by omega)]; exact hu)
              obtain ⟨d0, d1⟩ := rp_cells HR2.out (k + (k2 - 1)) v (by rw [HZI.out _ (by omega)]; exact hv)
              rw [Nat.add_mul] at c0 c1 d0 d1
              have HU := Lib.hid hu
              have HV := Lib.hid (show xs[k + k2 - 1]? = some v by rw [show k + k2 - 1 = k + (k2 - 1) from by omega]; exact hv)
              clear hu hv
              have hw1 : IntKind.i64.wrap ((k2 : Int) - 1) = (k2 : Int) - 1 := IntWalk.i64_in _ (by omega)
              have hp1 : (0 : Int) ≤ (k2 : Int) - 1 := by omega
              have hp2 : (1 : Int) ≤ (k2 : Int) := by omega
              have hq1 : ((k2 : Int) - 1).toNat = k2 - 1 := by omega
              have hr1 : (k2 : Int) - 1 < ((N - k : Nat) : Int) := by omega
              have hr2 : (k2 : Int) < ((N - k : Nat) : Int) := by omega
              have hE2 := fun w => run_neqP u.1 u.2 v.1 v.2 w
              cases hs : decide (u.1 = v.1 ∧ u.2 = v.2) with
              | false =>
                have HS := Lib.hid hs
                rw [hs] at hE2
                clear hs
                go_wp2_with fail
                go_quiet (fail)
                have HRQ2 := Lib.hid (rp_drewN HR2.out nq)
                have HGQ2 := Lib.hid (grown_drewN HG2.out nq)
                obtain ⟨c2, c3⟩ := rp_cells HRQ2.out (k + k2) u (by rw [HZI.out _ (by omega)]; exact HU.out)
                rw [Nat.add_mul] at c2 c3
                have f1 := HRQ2.out.frozen (kk * 2)
                have f2 := HRQ2.out.frozen (kk * 2 + 1)
                obtain ⟨o1, ho1⟩ := at_someP (xs := zs) kk (by have := HZL.out; omega)
                obtain ⟨e1, e2⟩ := rp_cells HRQ2.out kk o1 ho1
                clear c0 c1 d0 d1 hw1 hp1 hp2 hq1 hr1 ho1 hE2
                generalize wr.drewN nq = wq2 at *
                have hr3 : (kk : Int) < (N : Int) := by omega
                go_wp2
                go_roundg (gk - 1)
                case measure => omega
                case rel =>
                  refine ⟨kk + 1, k2 + 1, zs.set kk u, by omega, by omega, by omega, by omega, by go_num, by go_num, by rw [List.length_set]; exact HZL.out, ?_, ?_, rp_set HRQ2.out kk u, grown_set (grown_set HGQ2.out _ _) _ _⟩
                  · rw [← Nat.add_assoc, ddP_keep HU.out HV.out (by intro e; have := of_decide_eq_false HS.out; exact this (by rw [e]; exact ⟨rfl, rfl⟩)), ← HZT.out]
                    have h0 : kk < (zs.set kk u).length := by rw [List.length_set, HZL.out]; omega
                    rw [List.take_succ_eq_append_getElem h0, List.getElem_set_self, List.take_set, List.set_eq_of_length_le (by rw [List.length_take]; omega)]
                  · intro i hi
                    rw [List.getElem?_set_ne (by omega)]
                    exact HZI.out i (by omega)
              | true =>
                have HS := Lib.hid hs
                rw [hs] at hE2
                clear hs
                go_wp2_with fail
                go_quiet (fail)
                have HRQ2 := Lib.hid (rp_drewN HR2.out nq)
                have HGQ2 := Lib.hid (grown_drewN HG2.out nq)
                clear c0 c1 d0 d1 hw1 hp1 hp2 hq1 hr1 hr2 hE2
                go_wp2
                go_roundg (gk - 1)
                case measure => omega
                case rel =>
                  refine ⟨kk, k2 + 1, zs, by omega, by omega, by omega, by omega, rfl, by go_num, HZL.out, ?_, fun i hi => HZI.out i (by omega), HRQ2.out, HGQ2.out⟩
                  rw [← Nat.add_assoc, ddP_drop (by omega) HU.out HV.out (Prod.ext (of_decide_eq_true HS.out).1 (of_decide_eq_true HS.out).2), ← HZT.out]
            · have hend : k + k2 = N := by omega
              have hkN : kk < N := by omega
              have hcl : ∀ ty, (Builtin.clear_ #[(66)] ty #[.slice (some ⟨g, kk * 2, none⟩) (N - kk) (cap - kk)]).run Tryz.prog wr = .ok (.tuple #[]) (wr.setCells g (kk * 2) (List.replicate ((N - kk) * 2) (.int .u64 0))) :=
                fun ty => run_clear_two wr (66) (72) ty _ (.int .u64 0) Tryz.underlying66 zeroP3 rfl rfl g (kk * 2) _ _ (by omega) (fun j hj => by
                  obtain ⟨o1, ho1⟩ := at_someP (xs := zs) (kk + j / 2) (by have := HZL.out; omega)
                  obtain ⟨e1, e2⟩ := rp_cells HR2.out (kk + j / 2) o1 ho1
                  rcases Nat.mod_two_eq_zero_or_one j with hj2 | hj2
                  · rw [show kk * 2 + j = (kk + j / 2) * 2 by omega, e1]; rfl
                  · rw [show kk * 2 + j = (kk + j / 2) * 2 + 1 by omega, e2]; rfl) (fun j hj => HR2.out.frozen _)
              have hdl : (ddP xs N).length = kk := by
                rw [← hend, ← HZT.out, List.length_take, HZL.out]; omega
              have HDL := Lib.hid hdl
              have HRC := Lib.hid (Row.pasts (List.replicate ((N - kk) * 2) (.int .u64 0)) (kk * 2) wr (HR2.out.take pc_len kk) (by rw [List.length_take]; omega))
              have HTK := Lib.hid (show zs.take kk = ddP xs N by rw [HZT.out, hend])
              have HGC := Lib.hid (grown_cells (List.replicate ((N - kk) * 2) (.int .u64 0)) (kk * 2) wr HG2.out)
              have hkc3 : ¬ kk = cap := by omega
              have hkc4 : (kk : Int) ≤ (cap : Int) := by omega
              clear hend hdl
              go_wp2
              go_ret
              refine ⟨?_, ?_, HGC.out⟩
              · rw [HN.out, HDL.out]; rfl
              · rw [HN.out, ← HTK.out]; exact HRC.out
      · have hkN : k = N := by omega
        have hdd : ddP xs xs.length = xs := by rw [HN.out, ← hkN, HD.out, hkN, ← HN.out, List.take_length]
        have HDD := Lib.hid hdd
        clear hdd hkN
        go_wp2
        go_ret
        exact ⟨by rw [HDD.out, HN.out]; rfl, by rw [HDD.out]; exact HR.out, HG.out⟩
end Go.Proofs.YticcccciefaemaaGreatDoor.Vx

namespace Go.Proofs.YticcccciefaemaaGreatDoor.Vx
open Go.ChangeShapes Go.WideShapes Go.ChangeAt Go.RowKit Go.Herb Go.Deep

section
variable {H : Type} {enc : TypeId × Value → H} {w : World}

theorem fieldAt {fs : Array Field} {Q : Nat → TypeId → Prop} (h : ∀ (j : Nat) (f : Field), fs[j]? = some f → Q j f.type) (j : Nat) (t : TypeId) (ht : (fs[j]?).map (·.type) = some t) : Q j t := by
  obtain ⟨f, hf, rfl⟩ := Option.map_eq_some_iff.1 ht
  exact h j f hf

/-- The fields of a struct, each where it lies. -/
theorem rd_struct {t : TypeId} {fuel : Nat} {cs : List Value} {x : DataW H × List MemPlace} (ht : Tryz.prog.underlying t = some (.struct (Tryz.prog.fieldsOf t))) (h : DataW.trod enc Tryz.prog w 0 (fun _ => true) true fuel t cs = some x) :
    cs.length = Tryz.prog.cellsOf t ∧ ∃ n, ∀ (i o u : Nat), ((Tryz.prog.fieldsOf t)[i]?).map (fun f => (f.offset, f.type)) = some (o, u) → ∃ y, DataW.trod enc Tryz.prog w 0 (fun _ => true) true n u ((cs.drop o).take (Tryz.prog.cellsOf u)) = some y := by
  obtain ⟨ys, n, _, _, hlen, hyl, hf⟩ := DataW.trod_struct ht h
  refine ⟨hlen, n, fun i o u hi => ?_⟩
  obtain ⟨f, hf', he⟩ := Option.map_eq_some_iff.1 hi
  simp only [Prod.mk.injEq] at he
  obtain ⟨rfl, rfl⟩ := he
  have hil : i < (Tryz.prog.fieldsOf t).size := (Array.getElem?_eq_some_iff.1 hf').1
  exact ⟨_, (hf i f hf').trans (List.getElem?_eq_getElem (by omega))⟩

theorem rd_points {fuel : Nat} {cs : List Value} {x : DataW H × List MemPlace} (h : DataW.trod enc Tryz.prog w 0 (fun _ => true) true fuel (66) cs = some x) :
    ∃ (a : Option Addr) (cap : Nat) (xs : Bh), cs = [.slice a xs.length cap] ∧ Pts w a xs ∧ xs.length ≤ maxLen ∧ ∀ q ∈ xs, U64 q.1 ∧ U64 q.2 := by
  have hfs : Tryz.prog.underlying (72) = some (.struct (Tryz.prog.fieldsOf (72))) := by kernel_rfl
  rcases open_slice_fields Tryz.underlying66 hfs (by kernel_rfl) (by kernel_rfl) h with h0 | ⟨a, len, cap, hcs, hl, hm, hi⟩
  · exact ⟨none, 0, [], h0, Els.nil _ _ _ _, by simp, by simp⟩
  · obtain ⟨xs, hlen, hq, hE⟩ := els_of_cells (enc := pc) (s := 2) (w := w) (a := a) (Q := fun q : Int × Int => U64 q.1 ∧ U64 q.2) len (fun _ => by simp [pc]) (fun i hil => by
      obtain ⟨n, hj⟩ := hi i hil
      have hsz : (Tryz.prog.fieldsOf (72)).size = 2 := by kernel_rfl
      rw [hsz] at hj
      obtain ⟨v0, y0, c0, e0⟩ := fieldAt (Q := fun j t => ∃ v y, w.cell? (a.add (i * 2 + j)) = some v ∧ DataW.trod enc Tryz.prog w 0 (fun _ => true) true n t [v] = some y) hj 0 (52) (by kernel_rfl)
      obtain ⟨v1, y1, c1, e1⟩ := fieldAt (Q := fun j t => ∃ v y, w.cell? (a.add (i * 2 + j)) = some v ∧ DataW.trod enc Tryz.prog w 0 (fun _ => true) true n t [v] = some y) hj 1 (52) (by kernel_rfl)
      obtain ⟨n0, hn0, _, w0⟩ := DataW.trod_int Tryz.underlying52 e0
      obtain ⟨n1, hn1, _, w1⟩ := DataW.trod_int Tryz.underlying52 e1
      simp only [List.cons.injEq, and_true] at hn0 hn1
      subst hn0 hn1
      refine ⟨(n0, n1), ⟨w0, w1⟩, fun j c hj => ?_⟩
      match j, hj with
      | 0, hj => simp [pc] at hj; subst hj; exact c0
      | 1, hj => simp [pc] at hj; subst hj; exact c1
      | j + 2, hj => simp [pc] at hj)
    subst hlen
    exact ⟨some a, cap, xs, hcs, hE, Nat.le_trans hl hm, hq⟩

set_option maxRecDepth 100000 in
theorem rd_vectors {fuel : Nat} {cs : List Value} {x : DataW H × List MemPlace} (h : DataW.trod enc Tryz.prog w 0 (fun _ => true) true fuel (24) cs = some x) :
    ∃ (a : Option Addr) (cap : Nat) (xs : List Vc), cs = [.slice a xs.length cap] ∧ VIn w a xs := by
  have hfs : Tryz.prog.underlying (68) = some (.struct (Tryz.prog.fieldsOf (68))) := by kernel_rfl
  rcases open_slice_fields Tryz.underlying24 hfs (by kernel_rfl) (by kernel_rfl) h with h0 | ⟨a, len, cap, hcs, hl, hm, hi⟩
  · exact ⟨none, 0, [], h0, ⟨Els.nil _ _ _ _, by simp, by simp, by simp, by simp⟩⟩
  · obtain ⟨xs, hlen, hq, hE⟩ := els_of_cells (enc := vc) (s := 2) (w := w) (a := a) (Q := fun y : Vc => Pts w y.a y.ps ∧ (U64 y.line ∧ ∀ q ∈ y.ps, U64 q.1 ∧ U64 q.2) ∧ y.ps.length ≤ maxLen) len (fun _ => by simp [vc]) (fun i hil => by
      obtain ⟨n, hj⟩ := hi i hil
      have hsz : (Tryz.prog.fieldsOf (68)).size = 2 := by kernel_rfl
      rw [hsz] at hj
      obtain ⟨v0, y0, c0, e0⟩ := fieldAt (Q := fun j t => ∃ v y, w.cell? (a.add (i * 2 + j)) = some v ∧ DataW.trod enc Tryz.prog w 0 (fun _ => true) true n t [v] = some y) hj 0 (52) (by kernel_rfl)
      obtain ⟨v1, y1, c1, e1⟩ := fieldAt (Q := fun j t => ∃ v y, w.cell? (a.add (i * 2 + j)) = some v ∧ DataW.trod enc Tryz.prog w 0 (fun _ => true) true n t [v] = some y) hj 1 (66) (by kernel_rfl)
      obtain ⟨n0, hn0, _, w0⟩ := DataW.trod_int Tryz.underlying52 e0
      obtain ⟨pa, pcap, ps, h1, hp, hpl, hpw⟩ := rd_points e1
      simp only [List.cons.injEq, and_true] at hn0 h1
      subst hn0 h1
      refine ⟨⟨n0, pa, pcap, ps⟩, ⟨hp, ⟨w0, hpw⟩, hpl⟩, fun j c hj => ?_⟩
      match j, hj with
      | 0, hj => simp [vc] at hj; subst hj; exact c0
      | 1, hj => simp [vc] at hj; subst hj; exact c1
      | j + 2, hj => simp [vc] at hj)
    subst hlen
    exact ⟨some a, cap, xs, hcs, ⟨hE, fun y hy => (hq y hy).1, fun y hy => (hq y hy).2.1, Nat.le_trans hl hm, fun y hy => (hq y hy).2.2⟩⟩

/-- Acts, as they may come in. -/
structure AIn (w : World) (a : Option Addr) (xs : List Ac) : Prop where
  els : Els acc 4 w a xs
  len : xs.length ≤ maxLen
end
end Go.Proofs.YticcccciefaemaaGreatDoor.Vx

namespace Go.Herb
open Go
def mostOf (b : Bh) : Int := b.foldl (fun m q => max m q.2) 0
theorem most_snoc (b : Bh) (q : Int × Int) : mostOf (b ++ [q]) = max (mostOf b) q.2 := by simp [mostOf]
theorem most_ge : ∀ {b : Bh} {q : Int × Int}, q ∈ b → q.2 ≤ mostOf b := by
  have key : ∀ (b : Bh) (z : Int), z ≤ b.foldl (fun m q => max m q.2) z ∧ ∀ q ∈ b, q.2 ≤ b.foldl (fun m q => max m q.2) z := by
    intro b
    induction b with
    | nil => intro z; exact ⟨Int.le_refl _, by simp⟩
    | cons p b ih =>
      intro z
      have := ih (max z p.2)
      refine ⟨by have := this.1; simp only [List.foldl_cons]; omega, fun q hq => ?_⟩
      rcases List.mem_cons.1 hq with rfl | hq
      · have := this.1; simp only [List.foldl_cons]; omega
      · exact this.2 q hq
  intro b q hq
  exact (key b 0).2 q hq
theorem most_nn (b : Bh) : 0 ≤ mostOf b := by
  have key : ∀ (b : Bh) (z : Int), z ≤ b.foldl (fun m q => max m q.2) z := by
    intro b
    induction b with
    | nil => intro z; exact Int.le_refl _
    | cons p b ih => intro z; have := ih (max z p.2); simp only [List.foldl_cons]; omega
  exact key b 0
theorem most_at (b : Bh) : mostOf b = 0 ∨ ∃ q ∈ b, q.2 = mostOf b := by
  have key : ∀ (b : Bh) (z : Int), b.foldl (fun m q => max m q.2) z = z ∨ ∃ q ∈ b, q.2 = b.foldl (fun m q => max m q.2) z := by
    intro b
    induction b with
    | nil => intro z; exact .inl rfl
    | cons p b ih =>
      intro z
      rw [List.foldl_cons]
      rcases ih (max z p.2) with h | ⟨q, hq, h⟩
      · by_cases e : z ≤ p.2
        · exact .inr ⟨p, by simp, by rw [h]; omega⟩
        · left; rw [h]; omega
      · exact .inr ⟨q, by simp [hq], h⟩
  exact key b 0
theorem IsBase.le {b c : Bh} {p : Int × Int} (h : IsBase b c p) (hb : Okm b) : p.2 ≤ mostOf b := by
  rcases Int.lt_or_eq_of_le h.nn with h0 | h0
  · have h1 := h.at_ h0
    have h2 : g0 b p.1 ≠ 0 := by omega
    have := most_ge (hb.mem_of h2)
    simp only at this
    omega
  · have := most_nn b; omega
theorem IsBase.own {b : Bh} {p : Int × Int} (h : IsBase b b p) (hb : Okm b) : p.2 = mostOf b := by
  have h1 := h.le hb
  rcases most_at b with h2 | ⟨q, hq, h2⟩
  · have := h.nn; omega
  · have := h.top q.1
    rw [g0_mem hb.nodup hq] at this
    omega
end Go.Herb
namespace Go.Proofs.YticcccciefaemaaGreatDoor.Vx
open Go.RowKit Go.Shelf Go.Herb

/-- A base, in a box of its own. -/
def BoxAt (y1 y2 : Bh) (w : World) (pv ev : Value) (wx : World) : Prop :=
  ∃ (bx : Nat) (q : Int × Int), pv = .pointer (some ⟨bx, 0, none⟩) ∧ ev = .int .i64 0 ∧ wx.heap[bx]? = some (.cells #[.int .u64 q.1, .int .u64 q.2] (72) (0, 0)) ∧ IsBase y1 y2 q ∧ Below w.heap.size w wx ∧ w.heap.size ≤ bx
abbrev boxW (w : World) : World := (w.alloc (.cells #[.int .u64 0, .int .u64 0] (72))).drew
theorem boxW_below (w : World) : Below w.heap.size w (boxW w) := ((Below.refl _ w).alloc (Nat.le_refl _) _).drew
theorem boxA {y1 y2 : Bh} {w w5 : World} {q : Int × Int} (hb : Below w.heap.size w w5) (hB : IsBase y1 y2 q) : Hid (BoxAt y1 y2 w (.pointer (some ⟨w5.heap.size, 0, none⟩)) (.int .i64 0) (w5.alloc (.cells #[.int .u64 q.1, .int .u64 q.2] (72)))) :=
  Lib.hid ⟨_, q, rfl, rfl, blk_new_at rfl _, hB, hb.alloc hb.size _, hb.size⟩
theorem boxW_size (w : World) : (boxW w).heap.size = w.heap.size + 1 := by show (w.alloc (.cells #[.int .u64 0, .int .u64 0] (72))).heap.size = _; simp
theorem bset {w u : World} (h : Below w.heap.size w u) (n o : Nat) (v : Value) (hn : w.heap.size ≤ n) : Below w.heap.size w (u.setCell ⟨n, o, none⟩ v) := h.grown (grown_set (grown_refl _ _) _ _ : u.grownBy _ (some n)) h.size (fun k e => by injection e with e; omega)
theorem boxBlk {w w5 : World} (hb : Below (boxW w).heap.size (boxW w) w5) : w5.heap[w.heap.size]? = some (.cells #[.int .u64 0, .int .u64 0] (72) (0, 0)) := by
  have h0 : (boxW w).heap[w.heap.size]? = some (.cells #[.int .u64 0, .int .u64 0] (72) (0, 0)) := blk_new_at (w := w) rfl _
  exact blk_below h0 hb (by rw [boxW_size]; omega)
theorem boxB {y1 y2 : Bh} {w w5 : World} {q : Int × Int} (hb : Below (boxW w).heap.size (boxW w) w5) (hB : IsBase y1 y2 q) : Hid (BoxAt y1 y2 w (.pointer (some ⟨w.heap.size, 0, none⟩)) (.int .i64 0) ((w5.setCell ⟨w.heap.size, 0, none⟩ (.int .u64 q.1)).setCell ⟨w.heap.size, 1, none⟩ (.int .u64 q.2))) := by
  have h1 := boxBlk hb
  have h2 := blk_setCell (j := 1) (blk_setCell (j := 0) h1 (.int .u64 q.1)) (.int .u64 q.2)
  have h3 : Below w.heap.size w w5 := (boxW_below w).trans (hb.mono (by rw [boxW_size]; omega))
  exact Lib.hid ⟨_, q, rfl, rfl, by simpa using h2, hB, h3.grown (grown_set (grown_set (grown_refl _ _) _ _) _ _ : w5.grownBy _ (some w.heap.size)) h3.size (fun k e => by injection e with e; omega), Nat.le_refl _⟩
theorem boxCells {w w5 : World} (hb : Below (boxW w).heap.size (boxW w) w5) : w5.cell? ⟨w.heap.size, 0, none⟩ = some (.int .u64 0) ∧ w5.cell? ⟨w.heap.size, 1, none⟩ = some (.int .u64 0) ∧ w5.frozen? ⟨w.heap.size, 0, none⟩ = false ∧ w5.frozen? ⟨w.heap.size, 1, none⟩ = false := by
  have h1 := boxBlk hb
  exact ⟨by have := cell_of_blk h1 0; simpa using this, by have := cell_of_blk h1 1; simpa using this, frozen_of_blk h1 _, frozen_of_blk h1 _⟩
/-- The call, in whatever world. -/
theorem base_call {p mb : Nat} {M : List (Int × Nat)} {L : Vs} {l1 l2 : Int} {y1 y2 : Bh} {w : World} (hv : VecIs w p mb M L) (hG : GoodV L) (hS : Small L) (h1 : getL L l1 = some y1) (h2 : getL L l2 = some y2) :
    Hid (∀ u : World, Below w.heap.size w u → Calls Tryz.prog (46) #[.pointer (some ⟨p, 0, none⟩), .int .u64 l1, .int .u64 l2] u (fun e w5 => ∃ q : Int × Int, e = .returned (.tuple #[.agg #[.int .u64 q.1, .int .u64 q.2], .int .i64 0]) ∧ IsBase y1 y2 q ∧ Below u.heap.size u w5)) := Lib.hid (fun u hu => by
  refine (base_any p mb M L l1 l2 u (hv.below hu) hG hS (hG.get h1).2 (hG.get h2).2).mono ?_
  rintro e w5 ⟨q, er, rfl, hb5, ⟨rfl, x', y', hx', hy', hB⟩ | ⟨_, _, h⟩⟩
  · rw [h1] at hx'
    rw [h2] at hy'
    cases hx'
    cases hy'
    exact ⟨q, rfl, hB, hb5⟩
  · rcases h with h | h
    · rw [h1] at h; cases h
    · rw [h2] at h; cases h)

end Go.Proofs.YticcccciefaemaaGreatDoor.Vx

namespace Go.Proofs.YticcccciefaemaaGreatDoor.Vx
open Go.RowKit Go.Shelf Go.Herb

set_option maxRecDepth 100000 in
theorem len64_none (w : World) : Calls Tryz.prog 98 #[.int .u64 0] w fun e w' => e = .returned (.int .i64 0) ∧ w = w' := by
  go_enter Tryz.func98, Tryz.ntmps98
  go_wp2
  go_ret
  refine ⟨?_, rfl⟩
  kernel_rfl
theorem len_none (w : World) : Calls Tryz.prog 71 #[.int .u64 0] w fun e w' => e = .returned (.int .i64 0) ∧ w = w' := by
  go_enter Tryz.func71, Tryz.ntmps71
  go_wp2_with (go_at_call 98; refine (len64_none _).mono ?_; rintro e w' ⟨rfl, rfl⟩)
  go_ret
  exact ⟨rfl, rfl⟩
theorem insertion_none (p : Option Addr) (cap : Nat) (fv : Value) (w : World) : Calls Tryz.prog 89 #[.slice p 0 cap, .int .i64 0, .int .i64 0, fv] w fun e w' => e = .returned (.tuple #[]) ∧ w = w' := by
  go_enter Tryz.func89, Tryz.ntmps89
  go_wp2
  go_loopg [8] 1 (fun gk iv wr => iv = .int .i64 1 ∧ w = wr)
  case atStart => exact ⟨rfl, rfl⟩
  case round =>
    obtain ⟨rfl, rfl⟩ := hrel
    go_wp2
    go_end0
    exact ⟨rfl, rfl⟩
set_option maxRecDepth 100000 in
theorem pdq_none (p : Option Addr) (cap : Nat) (fv : Value) (L : Int) (w : World) : Calls Tryz.prog 70 #[.slice p 0 cap, .int .i64 0, .int .i64 0, .int .i64 L, fv] w fun e w' => e = .returned (.tuple #[]) ∧ w = w' := by
  go_enter Tryz.func70, Tryz.ntmps70
  go_wp2
  refine wp_loop_rounds 1 ?_
  rw [rounds_succ]
  go_wp2_with (go_at_call 89; refine (insertion_none _ _ _ _).mono ?_; rintro e w' ⟨rfl, rfl⟩)
  refine bodyPost_ret (results_none rfl _ _ _) rfl ?_
  exact ⟨rfl, rfl⟩
theorem sortFunc_none (p : Option Addr) (cap : Nat) (fv : Value) (w : World) : Calls Tryz.prog 47 #[.slice p 0 cap, fv] w fun e w' => e = .returned (.tuple #[]) ∧ w' = w := by
  go_enter Tryz.func47, Tryz.ntmps47
  go_wp2_with (first | (go_at_call 71; refine (len_none _).mono ?_; rintro e w' ⟨rfl, rfl⟩) | (go_at_call 70; refine (pdq_none _ _ _ _ _).mono ?_; rintro e w' ⟨rfl, rfl⟩))
  go_end0
  exact ⟨rfl, rfl⟩
theorem compact_none (w : World) : Calls Tryz.prog 50 #[.slice none 0 0] w fun e w' => e = .returned (.slice none 0 0) ∧ w' = w := by
  go_enter Tryz.func50, Tryz.ntmps50
  go_wp2
  go_ret
  exact ⟨rfl, rfl⟩
end Go.Proofs.YticcccciefaemaaGreatDoor.Vx
