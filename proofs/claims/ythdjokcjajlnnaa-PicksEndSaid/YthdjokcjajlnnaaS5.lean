/- Contract of slices.symMergeCmpFunc at tables. Condition: fewer than 1000000 tables. -/
import Derived.Test.YthdjokcjajlnnaaS3
import Derived.Test.YthdjokcjajlnnaaS4
import Derived.Deep.DeepCutAuto
namespace Go.Proofs.Ythdjokcjajlnnaa
open Go.RowKit Go.Herb

/-- What symMerge does to parts that together have at most k tables. -/
def SymOk (g cap N k : Nat) : Prop := ∀ (xs : List T) (w : World) (a m b : Int), xs.length = N → TRow w g cap xs → 0 ≤ a → a < m → m < b → b ≤ N → b - a ≤ k →
  Calls Try.prog 39 #[.slice (some ⟨g, 0, none⟩) N cap, .int .i64 a, .int .i64 m, .int .i64 b, .func (.func 22) #[] #[]] w (Mixed g cap xs w)

set_option maxRecDepth 100000 in
set_option maxHeartbeats 4000000 in
theorem symC (g cap N : Nat) (xs : List T) (hN : xs.length = N) (a m b : Nat) (w : World) (h : TRow w g cap xs) (hl : N < 1000000) (ham : a + 1 < m) (hmb : m + 1 < b) (hb : b ≤ N) (ih : SymOk g cap N (b - a - 1)) :
    Calls Try.prog 39 #[.slice (some ⟨g, 0, none⟩) N cap, .int .i64 a, .int .i64 m, .int .i64 b, .func (.func 22) #[] #[]] w (Mixed g cap xs w) := by
  have H := Lib.hid h
  have HN := Lib.hid hN
  have IH := Lib.hid ih
  clear h hN ih
  have h1 : ((m : Int) - a == 1) = false := by simp; omega
  have h2 : ((b : Int) - m == 1) = false := by simp; omega
  obtain ⟨mid, hmid⟩ : ∃ mid : Nat, mid = (a + b) / 2 := ⟨_, rfl⟩
  have hm1 : a < mid := by omega
  have hm2 : mid < b := by omega
  have hm3 : a + b ≤ 2 * mid + 1 := by omega
  have hm4 : 2 * mid ≤ a + b := by omega
  have hdiv : ((a : Int) + b) / 2 = mid := by omega
  clear hmid
  go_enter Try.func39, Try.ntmps39
  go_upto_if 140 with (fail)
  clear hdiv
  go_cut [20, 21] (fun sv rv wx => ∃ s0 r0 : Nat, sv = .int .i64 s0 ∧ rv = .int .i64 r0 ∧ a ≤ s0 ∧ s0 ≤ r0 ∧ r0 ≤ mid ∧ mid + m ≤ b + s0 ∧ r0 ≤ m ∧ w = wx)
  case first =>
    as_aux_lemma =>
      by_cases hgt : mid < m
      · go_wp2_with fail
        go_meet
        exact ⟨mid + m - b, mid, by go_num, rfl, by omega, by omega, by omega, by omega, by omega, rfl⟩
      · go_wp2_with fail
        go_meet
        exact ⟨a, m, rfl, rfl, by omega, by omega, by omega, by omega, by omega, rfl⟩
  case rest =>
  obtain ⟨s0, r0, rfl, rfl, k1, k2, k3, k4, k5, rfl⟩ := hcut
  go_wp2_with fail
  obtain ⟨p, hp⟩ : ∃ p : Nat, (mid : Int) + m - 1 = (p : Int) := ⟨mid + m - 1, by omega⟩
  rw [hp]
  have k7 : p + 1 ≤ mid + m := by omega
  have k8 : mid + m ≤ p + 1 := by omega
  clear hp
  go_loopg [20, 21] (r0 - s0) (fun gk sv rv wr => ∃ (st r : Nat), st + gk = r ∧ s0 ≤ st ∧ st ≤ r ∧ r ≤ r0 ∧ sv = .int .i64 st ∧ rv = .int .i64 r ∧ Below w.heap.size w wr)
  case atStart => exact ⟨s0, r0, by omega, by omega, by omega, by omega, rfl, rfl, Below.refl _ _⟩
  case round =>
    obtain ⟨st, r, hsr, hst, hle, hr, rfl, rfl, hB⟩ := hrel
    have HR := Lib.hid (H.out.below hB)
    have HBr := Lib.hid hB
    clear hB
    by_cases hlt : st < r
    · as_aux_lemma =>
        go_wp2_with fail
        obtain ⟨c, hc⟩ : ∃ c : Nat, ((st : Int) + r) / 2 = c := ⟨(st + r) / 2, by omega⟩
        rw [hc]
        have hih : st ≤ c := by omega
        have hhj : c < r := by omega
        clear hc
        obtain ⟨x, hx⟩ := TRow.at xs (p - c) (by have := HN.out; omega)
        obtain ⟨y, hy⟩ := TRow.at xs c (by have := HN.out; omega)
        have HX := Lib.hid hx
        have HY := Lib.hid hy
        clear hx hy
        obtain ⟨c0, c1, c2, c3⟩ := TRow.cellsAt HR.out (p - c) x HX.out
        obtain ⟨d0, d1, d2, d3⟩ := TRow.cellsAt HR.out c y HY.out
        have hltg := HR.out.lt
        have hw1 : IntKind.i64.wrap ((p : Int) - c) = (p : Int) - c := IntWalk.i64_in _ (by omega)
        have hq1 : ((p : Int) - c).toNat = p - c := by omega
        have hp0 : (0 : Int) ≤ (p : Int) - c := by omega
        have hp1 : (0 : Int) ≤ (c : Int) := by omega
        have hp2 : (c : Int) ≤ (p : Int) := by omega
        have hp3 : c ≤ p := by omega
        have hr1 : (c : Int) < (N : Int) := by omega
        have hr2 : (p : Int) - c < (N : Int) := by omega
        go_region_held3 (fun w' => w'.cell? ⟨g, (p - c) * 4, none⟩ = some (.int .u64 x.file) ∧ w'.cell? ⟨g, (p - c) * 4 + 1, none⟩ = some (.int .u32 x.bytes) ∧ w'.cell? ⟨g, (p - c) * 4 + 2, none⟩ = some (.string x.low) ∧ w'.cell? ⟨g, (p - c) * 4 + 3, none⟩ = some (.string x.high) ∧ w'.cell? ⟨g, c * 4, none⟩ = some (.int .u64 y.file) ∧ w'.cell? ⟨g, c * 4 + 1, none⟩ = some (.int .u32 y.bytes) ∧ w'.cell? ⟨g, c * 4 + 2, none⟩ = some (.string y.low) ∧ w'.cell? ⟨g, c * 4 + 3, none⟩ = some (.string y.high)) (go_keep)
          (first | (go_at_call 22; refine (byLow_any x y _).mono ?_; rintro e w1 hcm; obtain ⟨n, rfl, hb1⟩ := hcm; have hb1' : Below wr.heap.size wr w1 := (Below.refl _ _).drew.trans hb1; obtain ⟨q0, q1, q2, q3⟩ := TRow.cellsAt (HR.out.below hb1') (p - c) x HX.out; obtain ⟨r0, r1, r2, r3⟩ := TRow.cellsAt (HR.out.below hb1') c y HY.out))
        rename_i hheld
        have HB1 := Lib.hid hb1'
        clear hheld c0 c1 c2 c3 d0 d1 d2 d3 q0 q1 q2 q3 r0 r1 r2 r3 hb1 hb1' hltg
        clear hw1 hq1 hp0 hp1 hp2 hp3 hr1 hr2
        by_cases hn : n < 0
        · have hnb : decide (n < 0) = true := by simp [hn]
          simp only [hnb, Bool.not_true]
          clear hn
          go_wp2
          go_roundg (c - st)
          case measure => omega
          case rel => exact ⟨st, c, by omega, by omega, by omega, by omega, rfl, rfl, HBr.out.trans (HB1.out.mono HBr.out.size)⟩
        · have hnb : decide (n < 0) = false := by simp [hn]
          simp only [hnb, Bool.not_false]
          clear hn
          go_wp2
          go_roundg (r - (c + 1))
          case measure => omega
          case rel => exact ⟨c + 1, r, by omega, by omega, by omega, by omega, by go_num, rfl, HBr.out.trans (HB1.out.mono HBr.out.size)⟩
    · obtain ⟨en, hen⟩ : ∃ en : Nat, (mid : Int) + m - st = (en : Int) := ⟨mid + m - st, by omega⟩
      have e1 : en + st ≤ mid + m := by omega
      have e2 : mid + m ≤ en + st := by omega
      have hst0 : a ≤ st := by omega
      have hen0 : en ≤ b := by omega
      obtain ⟨wo, rfl⟩ : ∃ wo : World, wo = wr := ⟨_, rfl⟩
      have HG := Lib.hid (grown_of_below (row := some g) HBr.out)
      go_upto_region 38 with (fail)
      go_cut [24] (fun v wx => v = .int .i64 en ∧ wo = wx)
      case first =>
        as_aux_lemma =>
          go_wp2_with fail
          go_meet
          exact ⟨rfl, rfl⟩
      case rest =>
      obtain ⟨rfl, rfl⟩ := hcut
      clear hen
      go_step
      go_step
      go_cut [] (fun wx => ∃ zs : List T, zs.Perm xs ∧ TRow wx g cap zs ∧ w.grownBy wx (some g))
      case first =>
        as_aux_lemma =>
          by_cases b1 : st < m <;> by_cases b2 : m < en
          all_goals
            go_wp2_with fail
            first
              | (refine (rotate_at g cap N xs HN.out _ _ _ _ _ HR.out hl (by omega) (by omega) (by omega) (by omega)).mono ?_
                 rintro e wz ⟨rfl, zs, hp1, hR1, hg1⟩
                 have HF := Lib.hid (⟨zs, hp1, hR1, grown_trans HG.out hg1⟩ : ∃ zs : List T, zs.Perm xs ∧ TRow wz g cap zs ∧ w.grownBy wz (some g))
                 clear hp1 hR1 hg1
                 go_wp2_with fail
                 go_meet
                 exact HF.out)
              | (go_meet
                 exact ⟨xs, .refl _, HR.out, HG.out⟩)
      case rest =>
      obtain ⟨z1, p1, R1, G1⟩ := hcut
      have hz1 : z1.length = N := by rw [p1.length_eq]; exact HN.out
      have HZ1 := Lib.hid hz1
      have HP1 := Lib.hid p1
      have HR1 := Lib.hid R1
      have HG1 := Lib.hid G1
      clear p1 R1 G1 hz1
      go_step
      go_step
      go_cut [] (fun wx => ∃ zs : List T, zs.Perm xs ∧ TRow wx g cap zs ∧ w.grownBy wx (some g))
      case first =>
        as_aux_lemma =>
          by_cases b1 : a < st <;> by_cases b2 : st < mid
          all_goals
            go_wp2_with fail
            first
              | (refine (IH.out z1 _ _ _ _ HZ1.out HR1.out (by omega) (by omega) (by omega) (by omega) (by omega)).mono ?_
                 rintro e wz ⟨rfl, zs, hp1, hR1, hg1⟩
                 have HF := Lib.hid (⟨zs, hp1.trans HP1.out, hR1, grown_trans HG1.out hg1⟩ : ∃ zs : List T, zs.Perm xs ∧ TRow wz g cap zs ∧ w.grownBy wz (some g))
                 clear hp1 hR1 hg1
                 go_wp2_with fail
                 go_meet
                 exact HF.out)
              | (go_meet
                 exact ⟨z1, HP1.out, HR1.out, HG1.out⟩)
      case rest =>
      obtain ⟨z2, p2, R2, G2⟩ := hcut
      have hz2 : z2.length = N := by rw [p2.length_eq]; exact HN.out
      have HZ2 := Lib.hid hz2
      have HP2 := Lib.hid p2
      have HR2 := Lib.hid R2
      have HG2 := Lib.hid G2
      clear p2 R2 G2 hz2
      by_cases b1 : mid < en <;> by_cases b2 : en < b
      all_goals
        as_aux_lemma =>
          go_wp2_with fail
          first
            | (refine (IH.out z2 _ _ _ _ HZ2.out HR2.out (by omega) (by omega) (by omega) (by omega) (by omega)).mono ?_
               rintro e wz ⟨rfl, zs, hp1, hR1, hg1⟩
               have HF := Lib.hid (⟨zs, hp1.trans HP2.out, hR1, grown_trans HG2.out hg1⟩ : ∃ zs : List T, zs.Perm xs ∧ TRow wz g cap zs ∧ w.grownBy wz (some g))
               clear hp1 hR1 hg1
               go_wp2_with fail
               go_end0
               exact ⟨rfl, HF.out⟩)
            | (go_end0
               exact ⟨rfl, z2, HP2.out, HR2.out, HG2.out⟩)
end Go.Proofs.Ythdjokcjajlnnaa
