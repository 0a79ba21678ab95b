import Derived.Test.YthdjokcjajlnnaaWD
namespace Go.Proofs.Ythdjokcjajlnnaa
open Go.RowKit Go.Herb Go.Fl

def greatB (n0 n1 n2 nd ni nb nl : Nat) : Bool := decide (40 < n0 ∨ 40 < n1 ∨ 40 < n2 ∨ 60 < nd ∨ 40 < ni ∨ 40 < nb ∨ 40 < nl)

theorem ret_bool {a b : Bool} (h : a = b) : Ending.returned (.bool a) = .returned (.bool b) := by rw [h]

set_option maxHeartbeats 1000000 in
theorem great_any (line fr to : Int) (a0 a1 a2 ad ai ab al : Option Addr) (n0 n1 n2 nd ni nb nl c0 c1 c2 cd ci cb cl : Nat) (w : World) :
    Calls Try.prog 6 #[.agg #[.int .u64 line, .slice a0 n0 c0, .slice a1 n1 c1, .slice a2 n2 c2, .slice ad nd cd, .int .i64 fr, .int .i64 to, .slice ai ni ci, .slice ab nb cb, .slice al nl cl]] w
      fun e w' => e = .returned (.bool (greatB n0 n1 n2 nd ni nb nl)) ∧ Below w.heap.size w w' := by
  go_enter Try.func6, Try.ntmps6
  go_wp2_with fail
  refine wp_loop_rounds 4 ?_
  rw [rounds_succ]
  by_cases h0 : 40 < n0
  · have h0' : decide ((40 : Int) < (n0 : Int)) = true := by simp; omega
    go_wp2
    go_ret
    exact ⟨by simp [greatB, h0], by go_grown⟩
  · have h0' : decide ((40 : Int) < (n0 : Int)) = false := by simp; omega
    go_wp2
    rw [rounds_succ]
    by_cases h1 : 40 < n1
    · have h1' : decide ((40 : Int) < (n1 : Int)) = true := by simp; omega
      go_wp2
      go_ret
      exact ⟨by simp [greatB, h1], by go_grown⟩
    · have h1' : decide ((40 : Int) < (n1 : Int)) = false := by simp; omega
      go_wp2
      rw [rounds_succ]
      by_cases h2 : 40 < n2
      · have h2' : decide ((40 : Int) < (n2 : Int)) = true := by simp; omega
        go_wp2
        go_ret
        exact ⟨by simp [greatB, h2], by go_grown⟩
      · have h2' : decide ((40 : Int) < (n2 : Int)) = false := by simp; omega
        go_wp2
        rw [rounds_succ]
        go_wp2
        all_goals
          go_ret
          refine ⟨?_, by go_grown⟩
        all_goals
          refine ret_bool ?_
          rw [greatB, Bool.eq_iff_iff]
          simp
          omega

set_option maxHeartbeats 400000 in
theorem table_any (f : Int) (lo hi : ByteArray) (w : World) :
    Calls Try.prog 14 #[.int .u64 f, .string lo, .string hi] w fun e w' => e = .returned (tv ⟨f, 100, lo, hi⟩) ∧ Below w.heap.size w w' := by
  go_enter Try.func14, Try.ntmps14
  go_wp2
  refine bodyPost_ret (v := tv ⟨f, 100, lo, hi⟩) (by simp [results, Try.results14, go_sem, *]) rfl ⟨rfl, by go_grown⟩

set_option maxRecDepth 100000 in
set_option maxHeartbeats 400000 in
theorem after_early (line : Int) (a : Option Addr) (n c : Nat) (w : World) :
    Calls Try.prog 11 #[.agg #[.int .u64 line, .slice a n c, .slice none 0 0, .slice none 0 0], .agg #[.int .i64 1, .int .i64 0, .slice none 0 0, .slice none 0 0], .slice none 0 0] w fun e w' =>
      e = .returned (.tuple #[.agg #[.int .u64 0, .slice none 0 0, .slice none 0 0, .slice none 0 0], .int .i64 1]) ∧ Below w.heap.size w w' := by
  go_enter Try.func11, Try.ntmps11
  go_wp2
  refine bodyPost_ret (v := .tuple #[.agg #[.int .u64 0, .slice none 0 0, .slice none 0 0, .slice none 0 0], .int .i64 1]) (by simp [results, Try.results11, go_sem, *]) rfl ⟨rfl, by go_grown⟩
end Go.Proofs.Ythdjokcjajlnnaa
