import Derived.Test.YthdjokcjajlnnaaW1
import Derived.RegionTactic
namespace Go.Proofs.Ythdjokcjajlnnaa
open Go.RowKit Go.Herb

def minB (x y : ByteArray) : ByteArray := if Op.bytesLess x.toList y.toList || x.toList == y.toList then x else y
def maxB (x y : ByteArray) : ByteArray := if !Op.bytesLess x.toList y.toList then x else y

theorem run_min_str {P : Program} (w : World) (ts : Array TypeId) (t : TypeId) (x y : ByteArray) : (Builtin.min_ ts t #[.string x, .string y]).run P w = .ok (.string (minB x y)) w := by
  simp [Builtin.min_, Builtin.min2, Op.stringOp, asBool, minB]
theorem run_max_str {P : Program} (w : World) (ts : Array TypeId) (t : TypeId) (x y : ByteArray) : (Builtin.max_ ts t #[.string x, .string y]).run P w = .ok (.string (maxB x y)) w := by
  simp [Builtin.max_, Builtin.max2, Op.stringOp, asBool, maxB]

attribute [local go_sem] run_min_str run_max_str

def spanStep (t x : T) : T := { t with low := minB t.low x.low, high := maxB t.high x.high }
def spanL : List T → T
  | [] => ⟨0, 0, ⟨#[]⟩, ⟨#[]⟩⟩
  | x :: xs => (x :: xs).foldl spanStep x

theorem spanL_take_succ (xs : List T) (k : Nat) (h : k + 1 < xs.length) : spanL (xs.take (k + 2)) = spanStep (spanL (xs.take (k + 1))) xs[k + 1] := by
  cases xs with
  | nil => simp at h
  | cons x xs =>
    simp only [List.take_succ_cons, spanL, List.getElem_cons_succ]
    rw [List.take_succ_eq_append_getElem (by simpa using h)]
    rw [← List.cons_append, List.foldl_append]
    rfl

theorem spanL_take_one (xs : List T) (h : 0 < xs.length) : spanL (xs.take 1) = spanStep xs[0] xs[0] := by
  cases xs with
  | nil => simp at h
  | cons x xs => rfl

set_option maxHeartbeats 400000 in
theorem span_any (a : Option Addr) (cap : Nat) (xs : List T) (w : World) (hx : Tabs w a xs) (hl : xs.length < 1000000) :
    Calls Try.prog 27 #[.slice a xs.length cap] w fun e w' => e = .returned (tv (spanL xs)) ∧ Below w.heap.size w w' := by
  have HX := Lib.hid hx
  clear hx
  go_enter Try.func27, Try.ntmps27
  go_wp2
  go_loopg [7] xs.length (fun gk i wr => ∃ k : Nat, k + gk = xs.length ∧ i = .int .i64 k ∧ Below w.heap.size w wr ∧ wr.heap[w.heap.size]? = some (.cells (tc (spanL (xs.take k))).toArray 45 (0, 0)))
  case atStart => exact ⟨0, by omega, rfl, (Below.refl _ _).alloc (Nat.le_refl _) _, blk_new _ _⟩
  case round =>
    obtain ⟨k, hk, rfl, hB, hO⟩ := hrel
    by_cases hlt : k < xs.length
    · obtain ⟨b, o, rfl, hb, hc⟩ := HX.out.get k hlt
      have e0 := (hB.cell (p := ⟨b, _, none⟩) hb).trans (hc 0 _ rfl)
      have e1 := (hB.cell (p := ⟨b, _, none⟩) hb).trans (hc 1 _ rfl)
      have e2 := (hB.cell (p := ⟨b, _, none⟩) hb).trans (hc 2 _ rfl)
      have e3 := (hB.cell (p := ⟨b, _, none⟩) hb).trans (hc 3 _ rfl)
      simp only [Nat.add_zero] at e0
      have hsz : w.heap.size < wr.heap.size := lt_of_blk hO
      obtain ⟨t, ht⟩ : ∃ t, t = spanL (xs.take k) := ⟨_, rfl⟩
      rw [← ht] at hO
      have hO0 := Lib.hid hO
      have t0 := cell_of_blk hO 0
      have t1 := cell_of_blk hO 1
      have t2 := cell_of_blk hO 2
      have t3 := cell_of_blk hO 3
      have f0 := frozen_of_blk hO 0
      have f1 := frozen_of_blk hO 1
      have f2 := frozen_of_blk hO 2
      have f3 := frozen_of_blk hO 3
      simp only [tc, List.getElem?_toArray, List.getElem?_cons_zero, List.getElem?_cons_succ] at t0 t1 t2 t3
      have HT := Lib.hid ht
      clear ht hO
      have HO := hO0
      clear hO0
      generalize hx : xs[k] = x at *
      have HXK := Lib.hid hx
      clear hx hc HX
      by_cases hk0 : k = 0
      · have hb0 : ((k : Int) == 0) = true := by simp [hk0]
        have HK0 := Lib.hid hk0
        clear hk0
        go_wp2_with fail
        go_region
        go_wp2
        go_roundg (gk - 1)
        case measure => omega
        case rel =>
          refine ⟨k + 1, by omega, by go_num, ((((((((hB.setCell (by simp) _).setCell (by simp) _).setCell (by simp) _).setCell (by simp) _).setCell (by simp) _).setCell (by simp) _).alloc (by simp [World.setCell]; omega) _).drew), ?_⟩
          have h := blk_alloc (o' := Obj.cells #[.int .u64 x.file, .int .u32 x.bytes, .string x.low, .string x.high] 45) (blk_setCell (j := 3) (blk_setCell (j := 2) (blk_setCell (j := 3) (blk_setCell (j := 2) (blk_setCell (j := 1) (blk_setCell (j := 0) HO.out (.int .u64 x.file)) (.int .u32 x.bytes)) (.string x.low)) (.string x.high)) (.string (minB x.low x.low))) (.string (maxB x.high x.high)))
          refine h.trans ?_
          have := HK0.out
          subst this
          rw [spanL_take_one xs (by omega), HXK.out]
          simp [tc, spanStep]
      · have hb0 : ((k : Int) == 0) = false := by simp [hk0]
        have HK0 := Lib.hid hk0
        clear hk0
        go_wp2_with fail
        go_region
        go_wp2
        go_roundg (gk - 1)
        case measure => omega
        case rel =>
          refine ⟨k + 1, by omega, by go_num, ((((hB.setCell (by simp) _).setCell (by simp) _).alloc (by simp [World.setCell]; omega) _).drew), ?_⟩
          have h := blk_alloc (o' := Obj.cells #[.int .u64 x.file, .int .u32 x.bytes, .string x.low, .string x.high] 45) (blk_setCell (j := 3) (blk_setCell (j := 2) HO.out (.string (minB t.low x.low))) (.string (maxB t.high x.high)))
          refine h.trans ?_
          obtain ⟨j, rfl⟩ : ∃ j, k = j + 1 := ⟨k - 1, by have := HK0.out; omega⟩
          rw [spanL_take_succ xs j (by omega), HXK.out, ← HT.out]
          simp [tc, spanStep]
    · have hkl : k = xs.length := by omega
      subst hkl
      simp only [List.take_length] at hO
      have t0 := cell_of_blk hO 0
      have t1 := cell_of_blk hO 1
      have t2 := cell_of_blk hO 2
      have t3 := cell_of_blk hO 3
      have f0 := frozen_of_blk hO 0
      have f1 := frozen_of_blk hO 1
      have f2 := frozen_of_blk hO 2
      have f3 := frozen_of_blk hO 3
      simp only [tc, List.getElem?_toArray, List.getElem?_cons_zero, List.getElem?_cons_succ] at t0 t1 t2 t3
      clear hO
      obtain ⟨t, ht⟩ : ∃ t, t = spanL xs := ⟨_, rfl⟩
      rw [← ht] at t0 t1 t2 t3
      have HT := Lib.hid ht
      clear ht
      go_wp2
      refine bodyPost_ret (v := tv t) ?_ rfl ⟨by rw [HT.out], (((hB.setCell (by simp) _).setCell (by simp) _).setCell (by simp) _).setCell (by simp) _⟩
      simp [results, Try.results27, go_sem, *]
end Go.Proofs.Ythdjokcjajlnnaa
