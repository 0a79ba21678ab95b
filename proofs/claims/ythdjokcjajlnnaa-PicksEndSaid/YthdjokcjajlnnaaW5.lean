import Derived.Test.YthdjokcjajlnnaaBase
import Derived.Test.YthdjokcjajlnnaaRows
namespace Go.Proofs.Ythdjokcjajlnnaa
open Go.RowKit Go.Herb

abbrev uc (x : Int) : List Value := [.int .u64 x]
abbrev U64s (w : World) (a : Option Addr) (xs : List Int) : Prop := Els uc 1 w a xs

def indexOf (xs : List Int) (x : Int) : Int := if x ∈ xs then (xs.idxOf x : Int) else -1

set_option maxHeartbeats 400000 in
theorem index64_any (a : Option Addr) (cap : Nat) (xs : List Int) (x : Int) (w : World) (hx : U64s w a xs) (hl : xs.length < 1000000) :
    Calls Try.prog 37 #[.slice a xs.length cap, .int .u64 x] w fun e w' => (∃ n : Int, e = .returned (.int .i64 n) ∧ (0 ≤ n ↔ x ∈ xs)) ∧ w = w' := by
  have HX := Lib.hid hx
  clear hx
  go_enter Try.func37, Try.ntmps37
  go_wp2
  go_loopg [8] xs.length (fun gk i wr => ∃ k : Nat, k + gk = xs.length ∧ i = .int .i64 k ∧ w = wr ∧ x ∉ xs.take k)
  case atStart => exact ⟨0, by omega, rfl, rfl, by simp⟩
  case round =>
    obtain ⟨k, hk, rfl, rfl, hnot⟩ := hrel
    have HN := Lib.hid hnot
    clear hnot
    by_cases hlt : k < xs.length
    · obtain ⟨b, o, rfl, hb, hc⟩ := HX.out.get k hlt
      have e0 := hc 0 _ rfl
      simp only [Nat.add_zero, Nat.mul_one] at e0
      have hsn : xs.take (k + 1) = xs.take k ++ [xs[k]] := by rw [List.take_succ_eq_append_getElem hlt]
      have hmem : xs[k] ∈ xs := List.getElem_mem hlt
      generalize xs[k] = y at *
      have HS := Lib.hid hsn
      have HM := Lib.hid hmem
      clear hsn hc HX hmem
      by_cases hxy : x = y
      · have hq : (x == y) = true := by simp [hxy]
        have HQ := Lib.hid hxy
        clear hxy
        go_wp2
        go_ret
        exact ⟨⟨_, rfl, by constructor <;> intro _ <;> first | (rw [HQ.out]; exact HM.out) | omega⟩, rfl⟩
      · have hq : (x == y) = false := by simp [hxy]
        have HQ := Lib.hid hxy
        clear hxy
        go_wp2
        go_roundg (gk - 1)
        case measure => omega
        case rel => exact ⟨k + 1, by omega, by go_num, rfl, by rw [HS.out]; simp; exact ⟨HN.out, HQ.out⟩⟩
    · go_wp2
      go_ret
      refine ⟨⟨-1, rfl, ?_⟩, rfl⟩
      have := HN.out
      rw [List.take_of_length_le (by omega)] at this
      simp [this]

set_option maxHeartbeats 400000 in
theorem contains64_any (a : Option Addr) (cap : Nat) (xs : List Int) (x : Int) (w : World) (hx : U64s w a xs) (hl : xs.length < 1000000) :
    Calls Try.prog 29 #[.slice a xs.length cap, .int .u64 x] w fun e w' => e = .returned (.bool (decide (x ∈ xs))) ∧ w = w' := by
  go_enter Try.func29, Try.ntmps29
  go_wp2_with fail
  refine (index64_any a cap xs x w hx hl).mono ?_
  rintro e w1 ⟨⟨n, rfl, hn⟩, rfl⟩
  have HN := Lib.hid hn
  clear hn hx
  go_wp2
  go_ret
  refine ⟨?_, rfl⟩
  simp [HN.out]
end Go.Proofs.Ythdjokcjajlnnaa
