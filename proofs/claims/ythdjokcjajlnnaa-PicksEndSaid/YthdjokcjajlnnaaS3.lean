/- Contract of slices.symMergeCmpFunc at tables where the left part has one table. Condition: fewer than 1000000 tables. -/
import Derived.Test.YthdjokcjajlnnaaS2
namespace Go.Proofs.Ythdjokcjajlnnaa
open Go.RowKit Go.Herb

set_option maxRecDepth 100000 in
set_option maxHeartbeats 2000000 in
theorem symA (g cap N : Nat) (xs : List T) (hN : xs.length = N) (a b : Nat) (w : World) (h : TRow w g cap xs) (hl : N < 1000000) (hab : a + 1 < b) (hb : b ≤ N) :
    Calls Try.prog 39 #[.slice (some ⟨g, 0, none⟩) N cap, .int .i64 a, .int .i64 ((a : Int) + 1), .int .i64 b, .func (.func 22) #[] #[]] w (Mixed g cap xs w) := by
  have H := Lib.hid h
  have HN := Lib.hid hN
  clear h hN
  have h1 : ((a : Int) + 1 - a == 1) = true := by simp; omega
  go_enter Try.func39, Try.ntmps39
  go_wp2_with fail
  go_loopg [10, 11] (b - (a + 1)) (fun gk iv jv wr => ∃ (i j : Nat), i + gk = j ∧ a + 1 ≤ i ∧ i ≤ j ∧ j ≤ b ∧ iv = .int .i64 i ∧ jv = .int .i64 j ∧ Below w.heap.size w wr)
  case atStart => exact ⟨a + 1, b, by omega, by omega, by omega, by omega, by go_num, rfl, Below.refl _ _⟩
  case round =>
    obtain ⟨i, j, hij, hi, hle, hj, rfl, rfl, hB⟩ := hrel
    have HR := Lib.hid (H.out.below hB)
    have HBr := Lib.hid hB
    clear hB
    by_cases hlt : i < j
    · go_wp2_with fail
      obtain ⟨h, hh⟩ : ∃ h : Nat, ((i : Int) + j) / 2 = h := ⟨(i + j) / 2, by omega⟩
      rw [hh]
      have hih : i ≤ h := by omega
      have hhj : h < j := by omega
      clear hh
      obtain ⟨x, hx⟩ := TRow.at xs h (by have := HN.out; omega)
      obtain ⟨y, hy⟩ := TRow.at xs a (by have := HN.out; omega)
      have HX := Lib.hid hx
      have HY := Lib.hid hy
      clear hx hy
      obtain ⟨c0, c1, c2, c3⟩ := TRow.cellsAt HR.out h x HX.out
      obtain ⟨d0, d1, d2, d3⟩ := TRow.cellsAt HR.out a y HY.out
      have hltg := HR.out.lt
      have hp1 : (0 : Int) ≤ (h : Int) := by omega
      have hr1 : (h : Int) < (N : Int) := by omega
      have hr2 : (a : Int) < (N : Int) := by omega
      go_region_held3 (fun w' => w'.cell? ⟨g, h * 4, none⟩ = some (.int .u64 x.file) ∧ w'.cell? ⟨g, h * 4 + 1, none⟩ = some (.int .u32 x.bytes) ∧ w'.cell? ⟨g, h * 4 + 2, none⟩ = some (.string x.low) ∧ w'.cell? ⟨g, h * 4 + 3, none⟩ = some (.string x.high) ∧ w'.cell? ⟨g, a * 4, none⟩ = some (.int .u64 y.file) ∧ w'.cell? ⟨g, a * 4 + 1, none⟩ = some (.int .u32 y.bytes) ∧ w'.cell? ⟨g, a * 4 + 2, none⟩ = some (.string y.low) ∧ w'.cell? ⟨g, a * 4 + 3, none⟩ = some (.string y.high)) (go_keep)
        (first | (go_at_call 22; refine (byLow_any x y _).mono ?_; rintro e w1 hcm; obtain ⟨n, rfl, hb1⟩ := hcm; have hb1' : Below wr.heap.size wr w1 := (Below.refl _ _).drew.trans hb1; obtain ⟨q0, q1, q2, q3⟩ := TRow.cellsAt (HR.out.below hb1') h x HX.out; obtain ⟨r0, r1, r2, r3⟩ := TRow.cellsAt (HR.out.below hb1') a y HY.out))
      rename_i hheld
      have HB1 := Lib.hid hb1'
      clear hheld c0 c1 c2 c3 d0 d1 d2 d3 q0 q1 q2 q3 r0 r1 r2 r3 hb1 hb1' hltg
      by_cases hn : n < 0
      · go_wp2
        go_roundg (j - (h + 1))
        case measure => omega
        case rel => exact ⟨h + 1, j, by omega, by omega, by omega, by omega, by go_num, rfl, HBr.out.trans (HB1.out.mono HBr.out.size)⟩
      · go_wp2
        go_roundg (h - i)
        case measure => omega
        case rel => exact ⟨i, h, by omega, by omega, by omega, by omega, rfl, rfl, HBr.out.trans (HB1.out.mono HBr.out.size)⟩
    · obtain ⟨wo, rfl⟩ : ∃ wo : World, wo = wr := ⟨_, rfl⟩
      go_wp2_with fail
      go_loopg [13] N (fun gk kv wr => ∃ (k : Nat) (ys : List T), k + gk = N + a ∧ a ≤ k ∧ kv = .int .i64 k ∧ ys.Perm xs ∧ TRow wr g cap ys ∧ w.grownBy wr (some g))
      case atStart => exact ⟨a, xs, by omega, by omega, rfl, .refl _, HR.out, grown_of_below HBr.out⟩
      case round =>
        obtain ⟨k, ys, hk, hak, rfl, hp, hR, hg⟩ := hrel
        have hyl : ys.length = N := by rw [hp.length_eq]; exact HN.out
        have HYL := Lib.hid hyl
        have HP := Lib.hid hp
        have HR2 := Lib.hid hR
        have HG := Lib.hid hg
        clear hyl hp hR hg
        by_cases hki : k + 1 < i
        · obtain ⟨x, hx⟩ := TRow.at ys k (by have := HYL.out; omega)
          obtain ⟨y, hy⟩ := TRow.at ys (k + 1) (by have := HYL.out; omega)
          have HX := Lib.hid hx
          have HY := Lib.hid hy
          clear hx hy
          obtain ⟨c0, c1, c2, c3⟩ := TRow.cellsAt HR2.out k x HX.out
          obtain ⟨d0, d1, d2, d3⟩ := TRow.cellsAt HR2.out (k + 1) y HY.out
          have f0 := HR2.out.frozen (k * 4)
          have f1 := HR2.out.frozen (k * 4 + 1)
          have f2 := HR2.out.frozen (k * 4 + 2)
          have f3 := HR2.out.frozen (k * 4 + 3)
          have g0 := HR2.out.frozen ((k + 1) * 4)
          have g1 := HR2.out.frozen ((k + 1) * 4 + 1)
          have g2 := HR2.out.frozen ((k + 1) * 4 + 2)
          have g3 := HR2.out.frozen ((k + 1) * 4 + 3)
          have hne : ¬ k = (k + 1) := by omega
          go_wp2_with fail
          have hw1 : IntKind.i64.wrap ((k : Int) + 1) = (k : Int) + 1 := IntWalk.i64_in _ (by omega)
          have hp1 : (0 : Int) ≤ (k : Int) + 1 := by omega
          have hq1 : ((k : Int) + 1).toNat = k + 1 := by omega
          have hr1 : (k : Int) + 1 < (N : Int) := by omega
          have hr2 : (k : Int) < (N : Int) := by omega
          go_region
          clear c0 c1 c2 c3 d0 d1 d2 d3 f0 f1 f2 f3 g0 g1 g2 g3 hne hw1 hp1 hq1 hr1 hr2
          go_wp2
          go_roundg (gk - 1)
          case measure => omega
          case rel =>
            refine ⟨k + 1, (ys.set k y).set (k + 1) x, by omega, by omega, by go_num, (swap_perm' ys k (k + 1) x y HX.out HY.out).trans HP.out, ?_, ?_⟩
            · exact TRow.drew (TRow.set (TRow.set HR2.out k y) (k + 1) x)
            · exact grown_drew (grown_set4 (grown_set4 HG.out _ _ _ _ _) _ _ _ _ _)
        · go_wp2
          refine bodyPost_ret (results_none rfl _ _ _) rfl ?_
          exact ⟨rfl, ys, HP.out, HR2.out, HG.out⟩
end Go.Proofs.Ythdjokcjajlnnaa
