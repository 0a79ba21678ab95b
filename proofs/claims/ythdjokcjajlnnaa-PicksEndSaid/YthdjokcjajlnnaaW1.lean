import Derived.Test.YthdjokcjajlnnaaRows
import Derived.Test.YthdjokcjajlnnaaBase
namespace Go.Proofs.Ythdjokcjajlnnaa
open Go.RowKit Go.Herb

structure T where
  file : Int
  bytes : Int
  low : ByteArray
  high : ByteArray

def tc (t : T) : List Value := [.int .u64 t.file, .int .u32 t.bytes, .string t.low, .string t.high]
abbrev tv (t : T) : Value := .agg #[.int .u64 t.file, .int .u32 t.bytes, .string t.low, .string t.high]
theorem tc_len (t : T) : (tc t).length = 4 := rfl

theorem tc_one (t : T) : ∀ u ∈ tc t, u.oneCell' = true := by
  intro u hu; simp [tc] at hu; rcases hu with rfl | rfl | rfl | rfl <;> rfl

abbrev Tabs (w : World) (a : Option Addr) (xs : List T) : Prop := Els tc 4 w a xs

def meetB (a b : T) : Bool := !Op.bytesLess a.high.toList b.low.toList && !Op.bytesLess b.high.toList a.low.toList

theorem Try.info45 : (Try.prog.info? 45).map (fun i => (i.zero, i.size, i.bytes)) = some (some (.agg #[.int .u64 0, .int .u32 0, .string ⟨#[]⟩, .string ⟨#[]⟩]), 4, 48) := by kernel_rfl

set_option maxHeartbeats 400000 in
theorem meet_any (x y : T) (w : World) :
    Calls Try.prog 28 #[tv x, tv y] w fun e w' => e = .returned (.bool (meetB x y)) ∧ Below w.heap.size w w' := by
  go_enter Try.func28, Try.ntmps28
  go_wp2
  all_goals
    go_ret
    refine ⟨?_, ((Below.refl _ _).alloc (Nat.le_refl _) _).alloc (by simp) _⟩
    simp_all [meetB]

set_option maxHeartbeats 400000 in
theorem among_any (a : Option Addr) (cap : Nat) (xs : List T) (t : T) (w : World) (hx : Tabs w a xs) (hl : xs.length < 1000000) :
    Calls Try.prog 26 #[.slice a xs.length cap, tv t, .func (.func 28) #[] #[]] w fun e w' =>
      ∃ v, e = .returned v ∧ w'.ownsRow w.heap.size 45 4 v (xs.filter (meetB · t)).length ((xs.filter (meetB · t)).flatMap tc) ∧ Below w.heap.size w w' := by
  obtain ⟨i0, hi, hz0, hz1, hz2⟩ := info_parts Try.info45
  have HX := Lib.hid hx
  clear hx
  go_enter Try.func26, Try.ntmps26
  go_wp2
  obtain ⟨W0, hW0⟩ : ∃ W0 : World, W0 = w.alloc (Obj.cells #[.int .u64 t.file, .int .u32 t.bytes, .string t.low, .string t.high] 45) := ⟨_, rfl⟩
  have hz : W0.heap.size = w.heap.size + 1 := by rw [hW0]; simp
  have t0 : W0.cell? ⟨w.heap.size, 0, none⟩ = some (.int .u64 t.file) := by rw [hW0, cell_new]; rfl
  have t1 : W0.cell? ⟨w.heap.size, 1, none⟩ = some (.int .u32 t.bytes) := by rw [hW0, cell_new]; rfl
  have t2 : W0.cell? ⟨w.heap.size, 2, none⟩ = some (.string t.low) := by rw [hW0, cell_new]; rfl
  have t3 : W0.cell? ⟨w.heap.size, 3, none⟩ = some (.string t.high) := by rw [hW0, cell_new]; rfl
  have HB0 : Below w.heap.size w W0 := hW0 ▸ (Below.refl _ _).alloc (Nat.le_refl _) _
  go_loopg [6, 11] xs.length (fun gk v i wr => ∃ k : Nat, k + gk = xs.length ∧ i = .int .i64 k ∧ Below (w.heap.size + 1) W0 wr ∧ wr.ownsRow (w.heap.size + 1) 45 4 v ((xs.take k).filter (meetB · t)).length (((xs.take k).filter (meetB · t)).flatMap tc))
  case atStart => exact ⟨0, by omega, rfl, hW0 ▸ Below.refl _ _, World.ownsRow_nil _ _ _ _⟩
  case round =>
    obtain ⟨k, hk, rfl, hB, hO⟩ := hrel
    clear hW0
    by_cases hlt : k < xs.length
    · obtain ⟨b, o, rfl, hb, hc⟩ := HX.out.get k hlt
      have hsnoc : xs.take (k + 1) = xs.take k ++ [xs[k]] := by rw [List.take_succ_eq_append_getElem hlt]
      have HS := Lib.hid hsnoc
      clear hsnoc
      have hwB : Below w.heap.size w wr := HB0.trans (hB.mono (by omega))
      have e0 := (hwB.cell (p := ⟨b, _, none⟩) hb).trans (hc 0 _ rfl)
      have e1 := (hwB.cell (p := ⟨b, _, none⟩) hb).trans (hc 1 _ rfl)
      have e2 := (hwB.cell (p := ⟨b, _, none⟩) hb).trans (hc 2 _ rfl)
      have e3 := (hwB.cell (p := ⟨b, _, none⟩) hb).trans (hc 3 _ rfl)
      simp only [Nat.add_zero] at e0
      have t0' := (hB.cell (p := ⟨w.heap.size, 0, none⟩) (by simp)).trans t0
      have t1' := (hB.cell (p := ⟨w.heap.size, 1, none⟩) (by simp)).trans t1
      have t2' := (hB.cell (p := ⟨w.heap.size, 2, none⟩) (by simp)).trans t2
      have t3' := (hB.cell (p := ⟨w.heap.size, 3, none⟩) (by simp)).trans t3
      clear t0 t1 t2 t3 hc HX
      generalize xs[k] = x at *
      have hsz : w.heap.size < wr.heap.size := by have := hB.size; omega
      clear hz
      go_wp2_with fail
      refine (meet_any x t _).mono ?_
      rintro e w1 ⟨rfl, hb1⟩
      have hb1' : Below (wr.heap.size + 1) (wr.alloc (Obj.cells #[.int .u64 x.file, .int .u32 x.bytes, .string x.low, .string x.high] 45)) w1 := hb1.mono (by simp)
      have hr1 : Below wr.heap.size wr w1 := ((Below.refl _ _).alloc (Nat.le_refl _) _).trans (hb1'.mono (by omega))
      have hB1 : Below (w.heap.size + 1) W0 w1 := hB.trans (hr1.mono hsz)
      have hO1 := ownsRow_below hO hr1 (Nat.le_refl _)
      have x0 := (hb1'.cell (p := ⟨wr.heap.size, 0, none⟩) (by simp)).trans (cell_new _ _ _ _ _)
      have x1 := (hb1'.cell (p := ⟨wr.heap.size, 1, none⟩) (by simp)).trans (cell_new _ _ _ _ _)
      have x2 := (hb1'.cell (p := ⟨wr.heap.size, 2, none⟩) (by simp)).trans (cell_new _ _ _ _ _)
      have x3 := (hb1'.cell (p := ⟨wr.heap.size, 3, none⟩) (by simp)).trans (cell_new _ _ _ _ _)
      simp at x0 x1 x2 x3
      have hlen : ((xs.take k).filter (meetB · t)).length ≤ k := Nat.le_trans (List.length_filter_le _ _) (List.length_take_le _ _)
      have hsz1 : w.heap.size + 1 ≤ w1.heap.size := by have := hr1.size; omega
      clear e0 e1 e2 e3 t0' t1' t2' t3' hb1 hr1 hb1' hB hO HB0
      cases hm : meetB x t
      · go_wp2
        go_roundg (gk - 1)
        case measure => omega
        case rel => exact ⟨k + 1, by omega, by go_num, hB1, by rw [HS.out]; simpa [hm] using hO1⟩
      · have HM := Lib.hid hm
        clear hm
        go_wp2_with ((at_builtin; refine wpList_append_own _ rfl _ _ 23 rfl (w.heap.size + 1) 45 i0 _ 4 48 Try.underlying23 hi hz0 hz1 hz2 rfl (by decide) _ _ _ rfl (hO1.alloc _) ⟨w1.heap.size, 0, none⟩ 1 1 (tc x) rfl rfl ?c1 ?c2 ?c3 ?c4 ?c5 ?_))
        case c1 => exact news_cells w1 (tc x) 45
        case c2 => exact tc_one x
        case c3 => unfold maxLen; omega
        case c4 => omega
        case c5 => simp; omega
        intro v' w2 hO2 hg _
        have hB2 : Below (w.heap.size + 1) W0 w2 := Below.appended (hB1.alloc hsz1 _) (hO1.alloc _) (Nat.le_refl _) (by simp; omega) hg
        clear hg hO1 hB1
        go_wp2
        go_roundg (gk - 1)
        case measure => omega
        case rel => exact ⟨k + 1, by omega, by go_num, hB2, by rw [HS.out]; simpa [HM.out] using hO2⟩
    · have : k = xs.length := by omega
      subst this
      go_wp2
      go_ret
      simp only [List.take_length] at hO
      exact ⟨_, rfl, ownsRow_mono hO (by omega), HB0.trans (hB.mono (by omega))⟩
end Go.Proofs.Ythdjokcjajlnnaa
