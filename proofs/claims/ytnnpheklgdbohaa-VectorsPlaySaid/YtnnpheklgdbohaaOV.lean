/- slices.Compact at points. Condition: fewer than 1000000 points. -/
import Derived.Test.YtnnpheklgdbohaaOU
import Derived.Test.YtnnpheklgdbohaaON
import Derived.Lib.SliceRun
namespace Go.Herb
open Go.RowKit

theorem flat_set2 {α : Type} {enc : α → List Value} (hs : ∀ x, (enc x).length = 2) (xs : List α) (i : Nat) (x : α) (c0 c1 : Value) (hx : enc x = [c0, c1]) (l : List Value) (hl : l.take (xs.length * 2) = xs.flatMap enc) :
    ((l.set (i * 2) c0).set (i * 2 + 1) c1).take ((xs.set i x).length * 2) = (xs.set i x).flatMap enc := by
  have hlen : xs.length * 2 ≤ l.length := by
    have := congrArg List.length hl
    rw [flatMap_len hs, List.length_take] at this
    omega
  apply List.ext_getElem?
  intro j
  rw [List.length_set]
  rcases Nat.lt_or_ge j (xs.length * 2) with hj | hj
  · rw [List.getElem?_take_of_lt hj]
    have hij : j / 2 < xs.length := (Nat.div_lt_iff_lt_mul (by decide)).2 hj
    have he : j = j / 2 * 2 + j % 2 := by rw [Nat.mul_comm]; exact (Nat.div_add_mod j 2).symm
    have hr : j % 2 < 2 := Nat.mod_lt _ (by decide)
    have h1 := flatMap_get hs (xs.set i x) (j / 2) (j % 2) (by simpa using hij) hr
    rw [← he] at h1
    rw [h1]
    have h2 := flatMap_get hs xs (j / 2) (j % 2) hij hr
    rw [← he, ← hl, List.getElem?_take_of_lt hj] at h2
    by_cases hjk : j / 2 = i
    · have e1 : (xs.set i x)[j / 2]'(by simpa using hij) = x := by simp [hjk]
      rw [e1, hx]
      have : j % 2 = 0 ∨ j % 2 = 1 := by omega
      rcases this with h | h
      · have e : j = i * 2 := by omega
        rw [h, e]
        rw [List.getElem?_set_ne (by omega), List.getElem?_set_self (by omega)]; rfl
      · have e : j = i * 2 + 1 := by omega
        rw [h, e]
        rw [List.getElem?_set_self (by simp; omega)]; rfl
    · have e1 : (xs.set i x)[j / 2]'(by simpa using hij) = xs[j / 2] := by
        rw [List.getElem_set_ne (by omega)]
      rw [e1, ← h2]
      rw [List.getElem?_set_ne (by omega), List.getElem?_set_ne (by omega)]
  · rw [List.getElem?_eq_none (by rw [List.length_take]; omega), List.getElem?_eq_none (by rw [flatMap_len hs]; simpa using hj)]
theorem Row.set2 {α : Type} {enc : α → List Value} {e : Nat} {w : World} {g cap : Nat} {xs : List α} (h : Row enc 2 e w g cap xs) (hs : ∀ x, (enc x).length = 2) (i : Nat) (x : α) (c0 c1 : Value) (hx : enc x = [c0, c1]) :
    Row enc 2 e ((w.setCell ⟨g, i * 2, none⟩ c0).setCell ⟨g, i * 2 + 1, none⟩ c1) g cap (xs.set i x) := by
  obtain ⟨cur, hc, hsz, htk⟩ := h.blk
  refine ⟨⟨_, blk_setCell (blk_setCell hc _) _, by simpa using hsz, ?_⟩, by simpa using h.le, h.max⟩
  have := flat_set2 hs xs i x c0 c1 hx cur.toList htk
  simpa using this
theorem Row.past {α : Type} {enc : α → List Value} {s e : Nat} {w : World} {g cap : Nat} {xs : List α} (h : Row enc s e w g cap xs) (o : Nat) (ho : xs.length * s ≤ o) (c : Value) :
    Row enc s e (w.setCell ⟨g, o, none⟩ c) g cap xs := by
  obtain ⟨cur, hc, hsz, htk⟩ := h.blk
  refine ⟨⟨_, blk_setCell hc _, by simpa using hsz, ?_⟩, h.le, h.max⟩
  simp only [Array.toList_setIfInBounds]
  rw [List.take_set, List.set_eq_of_length_le (by rw [List.length_take]; omega), htk]
theorem Row.pasts {α : Type} {enc : α → List Value} {s e : Nat} {g cap : Nat} {xs : List α} : ∀ (vs : List Value) (o : Nat) (w : World), Row enc s e w g cap xs → xs.length * s ≤ o → Row enc s e (w.setCells g o vs) g cap xs
  | [], _, _, h, _ => h
  | v :: vs, o, w, h, ho => Row.pasts vs (o + 1) _ (h.past o ho v) (by omega)
theorem grown_cells {a : World} {g : Nat} : ∀ (vs : List Value) (o : Nat) (b : World), a.grownBy b (some g) → a.grownBy (b.setCells g o vs) (some g)
  | [], _, _, h => h
  | v :: vs, o, _, h => grown_cells vs (o + 1) _ (grown_set h o v)
theorem run_clear_two {P : Program} (w : World) (t e ty : TypeId) (z u : Value) (ht : P.underlying t = some (.slice e)) (hv : ∀ w, (zeroValue e).run P w = .ok z w) (hz : z.cells = #[u, u]) (h1 : u.oneCell' = true) (b o n c : Nat) (hn : 0 < n)
    (hc : ∀ j, j < n * 2 → (w.cell? ⟨b, o + j, none⟩).isSome = true) (hf : ∀ j, j < n * 2 → w.frozen? ⟨b, o + j, none⟩ = false) :
    (Builtin.clear_ #[t] ty #[.slice (some ⟨b, o, none⟩) n c]).run P w = .ok (.tuple #[]) (w.setCells b o (List.replicate (n * 2) u)) := by
  have hzc : (Builtin.zeroCells z.cells n).toList = List.replicate (n * 2) u := by
    rw [hz]
    simp [Builtin.zeroCells]
    apply List.ext_getElem
    · simp
    · intro i h1 h2
      have : i % 2 = 0 ∨ i % 2 = 1 := by omega
      rcases this with h | h <;> simp [h]
  have hst := run_storeCells_cells (P := P) b o (List.replicate (n * 2) u) 0 w (by simpa using hc) (by simpa using hf) (by intro v hv'; rw [List.eq_of_mem_replicate hv']; exact h1)
  simp only [Nat.add_zero] at hst
  obtain ⟨m, rfl⟩ : ∃ m, n = m + 1 := ⟨n - 1, by omega⟩
  simp [Builtin.clear_, run_underlying ht, hv, hzc, hst]

/-- Of equal neighbours the first one: of the first k. -/
def ddP (xs : List (Int × Int)) (k : Nat) : List (Int × Int) := (List.range k).filterMap (fun i => if i = 0 ∨ ¬ xs.getD (i - 1) (0, 0) = xs.getD i (0, 0) then some (xs.getD i (0, 0)) else none)
theorem ddP_succ (xs : List (Int × Int)) (k : Nat) : ddP xs (k + 1) = ddP xs k ++ if k = 0 ∨ ¬ xs.getD (k - 1) (0, 0) = xs.getD k (0, 0) then [xs.getD k (0, 0)] else [] := by
  unfold ddP
  rw [List.range_succ, List.filterMap_append]
  congr 1
  by_cases h : k = 0 ∨ ¬ xs.getD (k - 1) (0, 0) = xs.getD k (0, 0)
  · simp only [List.filterMap_cons, if_pos h, List.filterMap_nil]
  · simp only [List.filterMap_cons, if_neg h, List.filterMap_nil]
theorem getDP_of {xs : List (Int × Int)} {k : Nat} {x : Int × Int} (h : xs[k]? = some x) : xs.getD k (0, 0) = x := by rw [List.getD_eq_getElem?_getD, h]; rfl
theorem ddP_keep {xs : List (Int × Int)} {k : Nat} {x y : Int × Int} (hx : xs[k]? = some x) (hy : xs[k - 1]? = some y) (h : ¬ x = y) : ddP xs (k + 1) = ddP xs k ++ [x] := by
  rw [ddP_succ, getDP_of hx, getDP_of hy, if_pos (.inr (fun e => h e.symm))]
theorem ddP_drop {xs : List (Int × Int)} {k : Nat} {x y : Int × Int} (hk : 0 < k) (hx : xs[k]? = some x) (hy : xs[k - 1]? = some y) (h : x = y) : ddP xs (k + 1) = ddP xs k := by
  rw [ddP_succ, getDP_of hx, getDP_of hy, if_neg (by simp [h]; omega), List.append_nil]
theorem ddP_first {xs : List (Int × Int)} {x : Int × Int} (hx : xs[0]? = some x) : ddP xs 1 = [x] := by
  rw [ddP_succ, getDP_of hx, if_pos (.inl rfl)]
  rfl
end Go.Herb

namespace Go.Proofs.Ytnnpheklgdbohaa
open Go.RowKit Go.Shelf Go.Herb Go.Sort

abbrev RowP (w : World) (g cap : Nat) (xs : Bh) : Prop := Row pc 2 (34) w g cap xs
theorem rp_cells {w : World} {g cap : Nat} {xs : Bh} (h : RowP w g cap xs) (i : Nat) (x : Int × Int) (hx : xs[i]? = some x) : w.cell? ⟨g, i * 2, none⟩ = some (.int .u64 x.1) ∧ w.cell? ⟨g, i * 2 + 1, none⟩ = some (.int .u64 x.2) := by
  obtain ⟨hi, rfl⟩ := List.getElem?_eq_some_iff.1 hx
  exact ⟨h.cell pc_len i hi 0 _ rfl, h.cell pc_len i hi 1 _ rfl⟩
theorem rp_drewN {w : World} {g cap : Nat} {xs : Bh} (h : RowP w g cap xs) (n : Nat) : RowP (w.drewN n) g cap xs := h.same rfl
theorem rp_set {w : World} {g cap : Nat} {xs : Bh} (h : RowP w g cap xs) (i : Nat) (x : Int × Int) : RowP ((w.setCell ⟨g, i * 2, none⟩ (.int .u64 x.1)).setCell ⟨g, i * 2 + 1, none⟩ (.int .u64 x.2)) g cap (xs.set i x) := h.set2 pc_len i x _ _ rfl
theorem at_someP {xs : Bh} (i : Nat) (h : i < xs.length) : ∃ x, xs[i]? = some x := ⟨_, List.getElem?_eq_getElem h⟩
theorem zeroP3 : ∀ w : World, (zeroValue (34)).run Try.prog w = .ok (.agg #[.int .u64 0, .int .u64 0]) w := fun _ => by kernel_rfl

/-- The first ones of equal neighbours are answered. -/
def CompPostP (g cap : Nat) (xs : Bh) (w : World) (e : Ending) (w' : World) : Prop :=
  e = .returned (.slice (some ⟨g, 0, none⟩) (ddP xs xs.length).length cap) ∧ RowP w' g cap (ddP xs xs.length) ∧ w.grownBy w' (some g)

set_option maxHeartbeats 4000000 in
theorem compactP_any (g cap : Nat) (xs : Bh) (N : Nat) (hN : xs.length = N) (w : World) (h : RowP w g cap xs) (hl : N < 1000000) :
    Calls Try.prog (49) #[.slice (some ⟨g, 0, none⟩) N cap] w (CompPostP g cap xs w) := by
  have hcap : N ≤ cap := by rw [← hN]; exact h.le
  have hmx : cap ≤ maxLen := h.max
  unfold maxLen at hmx
  have H := Lib.hid h
  have HN := Lib.hid hN
  clear h hN
  by_cases h2 : N < 2
  · have hdd : ddP xs xs.length = xs := by
      rw [HN.out]
      rcases xs with _ | ⟨x, xs⟩
      · have := HN.out; simp at this; subst this; rfl
      · have h3 := HN.out
        rw [List.length_cons] at h3
        have : xs = [] := List.length_eq_zero_iff.1 (by omega)
        subst this
        have : N = 1 := by simp at h3; omega
        subst this
        exact ddP_first rfl
    have HD := Lib.hid hdd
    clear hdd
    go_enter Try.func49, Try.ntmps49
    go_wp2
    go_ret
    exact ⟨by rw [HD.out, HN.out]; rfl, by rw [HD.out]; exact H.out, grown_refl _ _⟩
  · have eqs := fun a b c d w => run_eqlP a b c d w
    have nes := fun a b c d w => run_neqP a b c d w
    have EQ := Lib.hid eqs
    have NE := Lib.hid nes
    clear eqs nes
    go_enter Try.func49, Try.ntmps49
    go_wp2_with fail
    go_loopg [3] N (fun gk kv wr => ∃ k : Nat, k + gk = N + 1 ∧ 1 ≤ k ∧ k ≤ N ∧ kv = .int .i64 k ∧ ddP xs k = xs.take k ∧ RowP wr g cap xs ∧ w.grownBy wr (some g))
    case atStart =>
      obtain ⟨x, hx⟩ := at_someP (xs := xs) 0 (by have := HN.out; omega)
      refine ⟨1, by omega, by omega, by omega, rfl, ?_, H.out, grown_refl _ _⟩
      rw [ddP_first hx]
      obtain ⟨h0, rfl⟩ := List.getElem?_eq_some_iff.1 hx
      rw [List.take_succ_eq_append_getElem h0]
      rfl
    case round =>
      obtain ⟨k, hk, hk1, hkn, rfl, hd, hR, hg⟩ := hrel
      have HD := Lib.hid hd
      have HR := Lib.hid hR
      have HG := Lib.hid hg
      clear hd hR hg
      by_cases hlt : k < N
      · obtain ⟨x, hx⟩ := at_someP (xs := xs) k (by have := HN.out; omega)
        obtain ⟨y, hy⟩ := at_someP (xs := xs) (k - 1) (by have := HN.out; omega)
        obtain ⟨c0, c1⟩ := rp_cells HR.out k x hx
        obtain ⟨d0, d1⟩ := rp_cells HR.out (k - 1) y hy
        have HXX := Lib.hid hx
        have HYY := Lib.hid hy
        clear hx hy
        have hw1 : IntKind.i64.wrap ((k : Int) - 1) = (k : Int) - 1 := IntWalk.i64_in _ (by omega)
        have hp1 : (0 : Int) ≤ (k : Int) - 1 := by omega
        have hp2 : (1 : Int) ≤ (k : Int) := by omega
        have hq1 : ((k : Int) - 1).toNat = k - 1 := by omega
        have hr1 : (k : Int) - 1 < (N : Int) := by omega
        have hr2 : (k : Int) < (N : Int) := by omega
        have hE := fun w => run_eqlP x.1 x.2 y.1 y.2 w
        cases hs : decide (x.1 = y.1 ∧ x.2 = y.2) with
        | false =>
          have HS := Lib.hid hs
          rw [hs] at hE
          clear hs
          go_wp2_with fail
          go_quiet (fail)
          have HRQ := Lib.hid (rp_drewN HR.out nq)
          have HGQ := Lib.hid (grown_drewN HG.out nq)
          clear c0 c1 d0 d1 hw1 hp1 hp2 hq1 hr1 hr2 hE
          go_wp2
          go_roundg (gk - 1)
          case measure => omega
          case rel =>
            refine ⟨k + 1, by omega, by omega, by omega, by go_num, ?_, HRQ.out, HGQ.out⟩
            rw [ddP_keep HXX.out HYY.out (by intro e; have := of_decide_eq_false HS.out; exact this (by rw [e]; exact ⟨rfl, rfl⟩)), HD.out]
            obtain ⟨h0, rfl⟩ := List.getElem?_eq_some_iff.1 HXX.out
            rw [List.take_succ_eq_append_getElem h0]
        | true =>
          have HS := Lib.hid hs
          rw [hs] at hE
          clear hs
          go_wp2_with fail
          go_quiet (fail)
          have HRQ := Lib.hid (rp_drewN HR.out nq)
          have HGQ := Lib.hid (grown_drewN HG.out nq)
          have hdd : ddP xs (k + 1) = xs.take k := by rw [ddP_drop (by omega) HXX.out HYY.out (Prod.ext (of_decide_eq_true HS.out).1 (of_decide_eq_true HS.out).2), HD.out]
          have HDD := Lib.hid hdd
          clear c0 c1 d0 d1 hw1 hp1 hp2 hq1 hr1 hr2 hE hdd HD HXX HYY HS
          generalize wr.drewN nq = wq at *
          have hkc : ¬ k = cap := by omega
          have hkc2 : (k : Int) ≤ (cap : Int) := by omega
          go_wp2_with fail
          obtain ⟨gko, rfl⟩ : ∃ g : Nat, g = gk := ⟨_, rfl⟩
          go_loopg [3, 5] (N - k) (fun gk kv k2v wr => ∃ (kk k2 : Nat) (zs : Bh), k2 + gk = N - k + 1 ∧ 1 ≤ k2 ∧ k2 ≤ N - k ∧ kk < k + k2 ∧ kv = .int .i64 kk ∧ k2v = .int .i64 k2 ∧ zs.length = N ∧ zs.take kk = ddP xs (k + k2) ∧ (∀ i, k + k2 ≤ i + 1 → zs[i]? = xs[i]?) ∧ RowP wr g cap zs ∧ w.grownBy wr (some g))
          case atStart => exact ⟨k, 1, xs, by omega, by omega, by omega, by omega, rfl, rfl, HN.out, HDD.out.symm, fun _ _ => rfl, HRQ.out, HGQ.out⟩
          case round =>
            obtain ⟨kk, k2, zs, hk2, hk21, hk22, hkk, rfl, rfl, hzl, hzt, hzi, hR2, hg2⟩ := hrel
            have HZL := Lib.hid hzl
            have HZT := Lib.hid hzt
            have HZI := Lib.hid hzi
            have HR2 := Lib.hid hR2
            have HG2 := Lib.hid hg2
            clear hzl hzt hzi hR2 hg2
            by_cases hlt2 : k2 < N - k
            · obtain ⟨u, hu⟩ := at_someP (xs := xs) (k + k2) (by have := HN.out; omega)
              obtain ⟨v, hv⟩ := at_someP (xs := xs) (k + (k2 - 1)) (by have := HN.out; omega)
              obtain ⟨c0, c1⟩ := rp_cells HR2.out (k + k2) u (by rw [HZI.out _ (by omega)]; exact hu)
              obtain ⟨d0, d1⟩ := rp_cells HR2.out (k + (k2 - 1)) v (by rw [HZI.out _ (by omega)]; exact hv)
              rw [Nat.add_mul] at c0 c1 d0 d1
              have HU := Lib.hid hu
              have HV := Lib.hid (show xs[k + k2 - 1]? = some v by rw [show k + k2 - 1 = k + (k2 - 1) from by omega]; exact hv)
              clear hu hv
              have hw1 : IntKind.i64.wrap ((k2 : Int) - 1) = (k2 : Int) - 1 := IntWalk.i64_in _ (by omega)
              have hp1 : (0 : Int) ≤ (k2 : Int) - 1 := by omega
              have hp2 : (1 : Int) ≤ (k2 : Int) := by omega
              have hq1 : ((k2 : Int) - 1).toNat = k2 - 1 := by omega
              have hr1 : (k2 : Int) - 1 < ((N - k : Nat) : Int) := by omega
              have hr2 : (k2 : Int) < ((N - k : Nat) : Int) := by omega
              have hE2 := fun w => run_neqP u.1 u.2 v.1 v.2 w
              cases hs : decide (u.1 = v.1 ∧ u.2 = v.2) with
              | false =>
                have HS := Lib.hid hs
                rw [hs] at hE2
                clear hs
                go_wp2_with fail
                go_quiet (fail)
                have HRQ2 := Lib.hid (rp_drewN HR2.out nq)
                have HGQ2 := Lib.hid (grown_drewN HG2.out nq)
                obtain ⟨c2, c3⟩ := rp_cells HRQ2.out (k + k2) u (by rw [HZI.out _ (by omega)]; exact HU.out)
                rw [Nat.add_mul] at c2 c3
                have f1 := HRQ2.out.frozen (kk * 2)
                have f2 := HRQ2.out.frozen (kk * 2 + 1)
                obtain ⟨o1, ho1⟩ := at_someP (xs := zs) kk (by have := HZL.out; omega)
                obtain ⟨e1, e2⟩ := rp_cells HRQ2.out kk o1 ho1
                clear c0 c1 d0 d1 hw1 hp1 hp2 hq1 hr1 ho1 hE2
                generalize wr.drewN nq = wq2 at *
                have hr3 : (kk : Int) < (N : Int) := by omega
                go_wp2
                go_roundg (gk - 1)
                case measure => omega
                case rel =>
                  refine ⟨kk + 1, k2 + 1, zs.set kk u, by omega, by omega, by omega, by omega, by go_num, by go_num, by rw [List.length_set]; exact HZL.out, ?_, ?_, rp_set HRQ2.out kk u, grown_set (grown_set HGQ2.out _ _) _ _⟩
                  · rw [← Nat.add_assoc, ddP_keep HU.out HV.out (by intro e; have := of_decide_eq_false HS.out; exact this (by rw [e]; exact ⟨rfl, rfl⟩)), ← HZT.out]
                    have h0 : kk < (zs.set kk u).length := by rw [List.length_set, HZL.out]; omega
                    rw [List.take_succ_eq_append_getElem h0, List.getElem_set_self, List.take_set, List.set_eq_of_length_le (by rw [List.length_take]; omega)]
                  · intro i hi
                    rw [List.getElem?_set_ne (by omega)]
                    exact HZI.out i (by omega)
              | true =>
                have HS := Lib.hid hs
                rw [hs] at hE2
                clear hs
                go_wp2_with fail
                go_quiet (fail)
                have HRQ2 := Lib.hid (rp_drewN HR2.out nq)
                have HGQ2 := Lib.hid (grown_drewN HG2.out nq)
                clear c0 c1 d0 d1 hw1 hp1 hp2 hq1 hr1 hr2 hE2
                go_wp2
                go_roundg (gk - 1)
                case measure => omega
                case rel =>
                  refine ⟨kk, k2 + 1, zs, by omega, by omega, by omega, by omega, rfl, by go_num, HZL.out, ?_, fun i hi => HZI.out i (by omega), HRQ2.out, HGQ2.out⟩
                  rw [← Nat.add_assoc, ddP_drop (by omega) HU.out HV.out (Prod.ext (of_decide_eq_true HS.out).1 (of_decide_eq_true HS.out).2), ← HZT.out]
            · have hend : k + k2 = N := by omega
              have hkN : kk < N := by omega
              have hcl : ∀ ty, (Builtin.clear_ #[(30)] ty #[.slice (some ⟨g, kk * 2, none⟩) (N - kk) (cap - kk)]).run Try.prog wr = .ok (.tuple #[]) (wr.setCells g (kk * 2) (List.replicate ((N - kk) * 2) (.int .u64 0))) :=
                fun ty => run_clear_two wr (30) (34) ty _ (.int .u64 0) Try.underlying30 zeroP3 rfl rfl g (kk * 2) _ _ (by omega) (fun j hj => by
                  obtain ⟨o1, ho1⟩ := at_someP (xs := zs) (kk + j / 2) (by have := HZL.out; omega)
                  obtain ⟨e1, e2⟩ := rp_cells HR2.out (kk + j / 2) o1 ho1
                  rcases Nat.mod_two_eq_zero_or_one j with hj2 | hj2
                  · rw [show kk * 2 + j = (kk + j / 2) * 2 by omega, e1]; rfl
                  · rw [show kk * 2 + j = (kk + j / 2) * 2 + 1 by omega, e2]; rfl) (fun j hj => HR2.out.frozen _)
              have hdl : (ddP xs N).length = kk := by
                rw [← hend, ← HZT.out, List.length_take, HZL.out]; omega
              have HDL := Lib.hid hdl
              have HRC := Lib.hid (Row.pasts (List.replicate ((N - kk) * 2) (.int .u64 0)) (kk * 2) wr (HR2.out.take pc_len kk) (by rw [List.length_take]; omega))
              have HTK := Lib.hid (show zs.take kk = ddP xs N by rw [HZT.out, hend])
              have HGC := Lib.hid (grown_cells (List.replicate ((N - kk) * 2) (.int .u64 0)) (kk * 2) wr HG2.out)
              have hkc3 : ¬ kk = cap := by omega
              have hkc4 : (kk : Int) ≤ (cap : Int) := by omega
              clear hend hdl
              go_wp2
              go_ret
              refine ⟨?_, ?_, HGC.out⟩
              · rw [HN.out, HDL.out]; rfl
              · rw [HN.out, ← HTK.out]; exact HRC.out
      · have hkN : k = N := by omega
        have hdd : ddP xs xs.length = xs := by rw [HN.out, ← hkN, HD.out, hkN, ← HN.out, List.take_length]
        have HDD := Lib.hid hdd
        clear hdd hkN
        go_wp2
        go_ret
        exact ⟨by rw [HDD.out, HN.out]; rfl, by rw [HDD.out]; exact HR.out, HG.out⟩
end Go.Proofs.Ytnnpheklgdbohaa
