/- Contracts of strings.Compare, of the order by Low, and of slices.swapRangeCmpFunc and slices.insertionSortCmpFunc at tables. Condition: fewer than 1000000 tables. -/
import Derived.Test.YthdjokcjajlnnaaRow
import Derived.Test.YthdjokcjajlnnaaW4
import Derived.Lib.Bytealg
namespace Go.Proofs.Ythdjokcjajlnnaa
open Go.RowKit Go.Herb

set_option maxHeartbeats 400000 in
theorem scmp_any (x y : ByteArray) (w : World) :
    Calls Try.prog 23 #[.string x, .string y] w fun e w' => e = .returned (.int .i64 (Lib.compareBytes x.data.toList y.data.toList)) ∧ w = w' := by
  have hcf : ∀ W, (callFunc 40 #[.string x, .string y]).run Try.prog W = .ok (.value (.int .i64 (Lib.compareBytes x.data.toList y.data.toList))) W := by
    intro W
    rw [run_callFunc_extern Try.func40 (by kernel_rfl) (by kernel_rfl) (by kernel_rfl) (e := Extern.BytealgCompare.compare) (by kernel_rfl), Lib.run_compareString]
    rfl
  generalize Lib.compareBytes x.data.toList y.data.toList = n at *
  go_enter Try.func23, Try.ntmps23
  go_wp2
  go_ret
  exact ⟨rfl, rfl⟩

/-- Some number is answered. -/
def SomeInt (w : World) (e : Ending) (w' : World) : Prop := ∃ n : Int, e = .returned (.int .i64 n) ∧ Below w.heap.size w w'

set_option maxHeartbeats 400000 in
theorem byLow_any (x y : T) (w : World) : Calls Try.prog 22 #[tv x, tv y] w (SomeInt w) := by
  go_enter Try.func22, Try.ntmps22
  go_wp2_with fail
  refine (scmp_any x.low y.low _).mono ?_
  rintro e w1 ⟨rfl, rfl⟩
  go_wp2
  go_ret
  exact ⟨_, rfl, by go_grown⟩

abbrev TRow (w : World) (g cap : Nat) (xs : List T) : Prop := Row tc 4 45 w g cap xs

theorem TRow.cells {w : World} {g cap : Nat} {xs : List T} (h : TRow w g cap xs) (i : Nat) (hi : i < xs.length) :
    w.cell? ⟨g, i * 4, none⟩ = some (.int .u64 xs[i].file) ∧ w.cell? ⟨g, i * 4 + 1, none⟩ = some (.int .u32 xs[i].bytes) ∧ w.cell? ⟨g, i * 4 + 2, none⟩ = some (.string xs[i].low) ∧ w.cell? ⟨g, i * 4 + 3, none⟩ = some (.string xs[i].high) :=
  ⟨h.cell tc_len i hi 0 _ rfl, h.cell tc_len i hi 1 _ rfl, h.cell tc_len i hi 2 _ rfl, h.cell tc_len i hi 3 _ rfl⟩

theorem TRow.cellsAt {w : World} {g cap : Nat} {xs : List T} (h : TRow w g cap xs) (i : Nat) (x : T) (hx : xs[i]? = some x) :
    w.cell? ⟨g, i * 4, none⟩ = some (.int .u64 x.file) ∧ w.cell? ⟨g, i * 4 + 1, none⟩ = some (.int .u32 x.bytes) ∧ w.cell? ⟨g, i * 4 + 2, none⟩ = some (.string x.low) ∧ w.cell? ⟨g, i * 4 + 3, none⟩ = some (.string x.high) := by
  obtain ⟨hi, rfl⟩ := List.getElem?_eq_some_iff.1 hx
  exact h.cells i hi

theorem TRow.drew {w : World} {g cap : Nat} {xs : List T} (h : TRow w g cap xs) : TRow w.drew g cap xs := h.same rfl

theorem TRow.set {w : World} {g cap : Nat} {xs : List T} (h : TRow w g cap xs) (i : Nat) (x : T) :
    TRow ((((w.setCell ⟨g, i * 4, none⟩ (.int .u64 x.file)).setCell ⟨g, i * 4 + 1, none⟩ (.int .u32 x.bytes)).setCell ⟨g, i * 4 + 2, none⟩ (.string x.low)).setCell ⟨g, i * 4 + 3, none⟩ (.string x.high)) g cap (xs.set i x) :=
  h.set4 tc_len i x _ _ _ _ rfl

theorem TRow.at (xs : List T) (i : Nat) (hi : i < xs.length) : ∃ x, xs[i]? = some x := ⟨_, List.getElem?_eq_getElem hi⟩

set_option maxHeartbeats 1000000 in
theorem swapRange_any (g cap : Nat) (xs : List T) (a b n : Nat) (f : Value) (w : World) (h : TRow w g cap xs) (hl : xs.length < 1000000) (hab : a + n ≤ b) (hb : b + n ≤ xs.length) :
    Calls Try.prog 44 #[.slice (some ⟨g, 0, none⟩) xs.length cap, .int .i64 a, .int .i64 b, .int .i64 n, f] w fun e w' =>
      e = .returned (.tuple #[]) ∧ ∃ ys : List T, ys.Perm xs ∧ TRow w' g cap ys ∧ w.grownBy w' (some g) := by
  have H := Lib.hid h
  obtain ⟨N, hN⟩ : ∃ N, N = xs.length := ⟨_, rfl⟩
  rw [← hN] at hl hb ⊢
  have HN := Lib.hid hN
  clear h hN
  go_enter Try.func44, Try.ntmps44
  go_wp2
  go_loopg [10] n (fun gk iv wr => ∃ (i : Nat) (ys : List T), i + gk = n ∧ iv = .int .i64 i ∧ ys.Perm xs ∧ TRow wr g cap ys ∧ w.grownBy wr (some g))
  case atStart => exact ⟨0, xs, by omega, rfl, .refl _, H.out, grown_refl _ _⟩
  case round =>
    obtain ⟨i, ys, hi, rfl, hp, hR, hg⟩ := hrel
    have hyl : ys.length = N := by rw [hp.length_eq, HN.out]
    have HP := Lib.hid hp
    have HR := Lib.hid hR
    have HG := Lib.hid hg
    by_cases hlt : i < n
    · obtain ⟨x, hx⟩ := TRow.at ys (a + i) (by omega)
      obtain ⟨y, hy⟩ := TRow.at ys (b + i) (by omega)
      obtain ⟨c0, c1, c2, c3⟩ := hR.cellsAt (a + i) x hx
      obtain ⟨d0, d1, d2, d3⟩ := hR.cellsAt (b + i) y hy
      have f0 := hR.frozen ((a + i) * 4)
      have f1 := hR.frozen ((a + i) * 4 + 1)
      have f2 := hR.frozen ((a + i) * 4 + 2)
      have f3 := hR.frozen ((a + i) * 4 + 3)
      have g0 := hR.frozen ((b + i) * 4)
      have g1 := hR.frozen ((b + i) * 4 + 1)
      have g2 := hR.frozen ((b + i) * 4 + 2)
      have g3 := hR.frozen ((b + i) * 4 + 3)
      have HX := Lib.hid hx
      have HY := Lib.hid hy
      have HYL := Lib.hid hyl
      clear hx hy hp hR hg hyl
      go_wp2
      have hw1 : IntKind.i64.wrap ((a : Int) + i) = (a : Int) + i := IntWalk.i64_in _ (by omega)
      have hw2 : IntKind.i64.wrap ((b : Int) + i) = (b : Int) + i := IntWalk.i64_in _ (by omega)
      have hp1 : (0 : Int) ≤ (a : Int) + i := by omega
      have hp2 : (0 : Int) ≤ (b : Int) + i := by omega
      have hq1 : ((a : Int) + i).toNat = a + i := by omega
      have hq2 : ((b : Int) + i).toNat = b + i := by omega
      have hr1 : (a : Int) + i < (N : Int) := by omega
      have hr2 : (b : Int) + i < (N : Int) := by omega
      have hne : ¬ a + i = b + i := by omega
      go_region
      clear hw1 hw2 hp1 hp2 hq1 hq2 hr1 hr2
      go_wp2
      go_roundg (gk - 1)
      case measure => omega
      case rel =>
        have hyl := HYL.out
        refine ⟨i + 1, (ys.set (a + i) y).set (b + i) x, by omega, by go_num, (swap_perm' ys (a + i) (b + i) x y HX.out HY.out).trans HP.out, ?_, ?_⟩
        · exact ((HR.out.set (a + i) y).set (b + i) x).drew
        · exact grown_drew (grown_set4 (grown_set4 HG.out _ _ _ _ _) _ _ _ _ _)
    · go_wp2
      go_end0
      exact ⟨rfl, ys, hp, hR, hg⟩

set_option maxHeartbeats 1000000 in
theorem insertion_any (g cap : Nat) (xs : List T) (a b : Nat) (w : World) (h : TRow w g cap xs) (hl : xs.length < 1000000) (hb : b ≤ xs.length) (ha : a ≤ b) :
    Calls Try.prog 38 #[.slice (some ⟨g, 0, none⟩) xs.length cap, .int .i64 a, .int .i64 b, .func (.func 22) #[] #[]] w fun e w' =>
      e = .returned (.tuple #[]) ∧ ∃ ys : List T, ys.Perm xs ∧ TRow w' g cap ys ∧ w.grownBy w' (some g) := by
  have H := Lib.hid h
  obtain ⟨N, hN⟩ : ∃ N, N = xs.length := ⟨_, rfl⟩
  rw [← hN] at hl hb ⊢
  have HN := Lib.hid hN
  clear h hN
  go_enter Try.func38, Try.ntmps38
  go_wp2
  go_loopg [8] (b - a) (fun gk iv wr => ∃ (i : Nat) (ys : List T), i + gk = b + 1 ∧ a < i ∧ iv = .int .i64 i ∧ ys.Perm xs ∧ TRow wr g cap ys ∧ w.grownBy wr (some g))
  case atStart => exact ⟨a + 1, xs, by omega, by omega, by go_num, .refl _, H.out, grown_refl _ _⟩
  case round =>
    obtain ⟨i, ys, hi, hai, rfl, hp, hR, hg⟩ := hrel
    by_cases hlt : i < b
    · obtain ⟨gi, rfl⟩ : ∃ gi : Nat, gi = gk := ⟨_, rfl⟩
      obtain ⟨wo, rfl⟩ : ∃ wo : World, wo = wr := ⟨_, rfl⟩
      have HP := Lib.hid hp
      have HR := Lib.hid hR
      have HG := Lib.hid hg
      clear hp hR hg
      go_wp2
      go_loopg [9] i (fun gk jv wr => ∃ (j : Nat) (zs : List T), gk = j ∧ a ≤ j ∧ j ≤ i ∧ jv = .int .i64 j ∧ zs.Perm xs ∧ TRow wr g cap zs ∧ w.grownBy wr (some g))
      case atStart => exact ⟨i, ys, rfl, by omega, by omega, rfl, HP.out, HR.out, HG.out⟩
      case round =>
        obtain ⟨j, zs, hj, haj, hji, rfl, hp, hR, hg⟩ := hrel
        have hzl : zs.length = N := by rw [hp.length_eq, HN.out]
        by_cases hja : a < j
        · obtain ⟨x, hx⟩ := TRow.at zs j (by omega)
          obtain ⟨y, hy⟩ := TRow.at zs (j - 1) (by omega)
          obtain ⟨c0, c1, c2, c3⟩ := hR.cellsAt j x hx
          obtain ⟨d0, d1, d2, d3⟩ := hR.cellsAt (j - 1) y hy
          have hlt' := hR.lt
          have HP2 := Lib.hid hp
          have HR2 := Lib.hid hR
          have HG2 := Lib.hid hg
          have HX := Lib.hid hx
          have HY := Lib.hid hy
          have HZL := Lib.hid hzl
          clear hp hR hg hx hy hzl
          go_wp2_with fail
          have hjb : decide (a < j) = true := by simp; omega
          have hw1 : IntKind.i64.wrap ((j : Int) - 1) = (j : Int) - 1 := IntWalk.i64_in _ (by omega)
          have hp1 : (0 : Int) ≤ (j : Int) - 1 := by omega
          have hp1' : (1 : Int) ≤ (j : Int) := by omega
          have hq1 : ((j : Int) - 1).toNat = j - 1 := by omega
          have hr1 : (j : Int) - 1 < (N : Int) := by omega
          have hr2 : (j : Int) < (N : Int) := by omega
          go_region_held3 (fun w' => w'.cell? ⟨g, j * 4, none⟩ = some (.int .u64 x.file) ∧ w'.cell? ⟨g, j * 4 + 1, none⟩ = some (.int .u32 x.bytes) ∧ w'.cell? ⟨g, j * 4 + 2, none⟩ = some (.string x.low) ∧ w'.cell? ⟨g, j * 4 + 3, none⟩ = some (.string x.high) ∧
              w'.cell? ⟨g, (j - 1) * 4, none⟩ = some (.int .u64 y.file) ∧ w'.cell? ⟨g, (j - 1) * 4 + 1, none⟩ = some (.int .u32 y.bytes) ∧ w'.cell? ⟨g, (j - 1) * 4 + 2, none⟩ = some (.string y.low) ∧ w'.cell? ⟨g, (j - 1) * 4 + 3, none⟩ = some (.string y.high)) (go_keep)
            (first | (go_at_call 22; refine (byLow_any x y _).mono ?_; rintro e w1 hcm; obtain ⟨n, rfl, hb1⟩ := hcm; have hb1' : Below wr.heap.size wr w1 := (Below.refl _ _).drew.trans hb1; obtain ⟨q0, q1, q2, q3⟩ := TRow.cellsAt (HR2.out.below hb1') j x HX.out; obtain ⟨r0, r1, r2, r3⟩ := TRow.cellsAt (HR2.out.below hb1') (j - 1) y HY.out))
          rename_i hheld
          have HR3 := Lib.hid (HR2.out.below hb1')
          have HG3 := Lib.hid (grown_trans HG2.out (grown_of_below hb1'))
          have hlt1 := HR3.out.lt
          clear hheld c0 c1 c2 c3 d0 d1 d2 d3 hb1 hb1'
          by_cases hn : n < 0
          · have f0 := HR3.out.frozen (j * 4)
            have f1 := HR3.out.frozen (j * 4 + 1)
            have f2 := HR3.out.frozen (j * 4 + 2)
            have f3 := HR3.out.frozen (j * 4 + 3)
            have g0 := HR3.out.frozen ((j - 1) * 4)
            have g1 := HR3.out.frozen ((j - 1) * 4 + 1)
            have g2 := HR3.out.frozen ((j - 1) * 4 + 2)
            have g3 := HR3.out.frozen ((j - 1) * 4 + 3)
            have hne : ¬ j = j - 1 := by omega
            go_wp2
            go_region
            clear hw1 hp1 hp1' hq1 hr1 hr2 f0 f1 f2 f3 g0 g1 g2 g3 q0 q1 q2 q3 r0 r1 r2 r3
            go_wp2
            go_roundg (j - 1)
            case measure => omega
            case rel =>
              refine ⟨j - 1, (zs.set j y).set (j - 1) x, rfl, by omega, by omega, by go_num, (swap_perm' zs j (j - 1) x y HX.out HY.out).trans HP2.out, ?_, ?_⟩
              · exact TRow.drew (TRow.set (TRow.set HR3.out j y) (j - 1) x)
              · exact grown_drew (grown_set4 (grown_set4 HG3.out _ _ _ _ _) _ _ _ _ _)
          · clear hw1 hp1 hp1' hq1 hr1 hr2 q0 q1 q2 q3 r0 r1 r2 r3
            go_wp2
            go_roundg (gi - 1)
            case measure => omega
            case rel => exact ⟨i + 1, zs, by omega, by omega, by go_num, HP2.out, HR3.out, HG3.out⟩
        · have hjb : decide (a < j) = false := by simp; omega
          have HP2 := Lib.hid hp
          have HR2 := Lib.hid hR
          have HG2 := Lib.hid hg
          clear hp hR hg
          go_wp2_with fail
          go_quiet (fail)
          go_wp2
          go_roundg (gi - 1)
          case measure => omega
          case rel => exact ⟨i + 1, zs, by omega, by omega, by go_num, HP2.out, Row.same HR2.out rfl, grown_trans HG2.out ⟨rfl, rfl, rfl, Nat.le_refl _, fun _ _ _ => rfl⟩⟩
    · go_wp2
      go_end0
      exact ⟨rfl, ys, hp, hR, hg⟩
end Go.Proofs.Ythdjokcjajlnnaa
