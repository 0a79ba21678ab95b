/- The document's answer for what differs: Find, Within, Same. Condition: fewer than 1000000 facts. -/
import Derived.Test.YtenocakpipppiaaM6
namespace Go.Proofs.Ytenocakpipppiaa
open Go.RowKit Go.Shelf Go.Herb

def isAt (key : ByteArray) (v : Int) (x : Fc) : Bool := x.key.toList == key.toList && x.valid == v
def findF (key : ByteArray) (v : Int) (xs : List Fc) : Option Fc := xs.find? (isAt key v)
def fvO : Option Fc → Value
  | some x => fv x
  | none => .agg #[.string .empty, .int .u32 0, .int .u64 0, .int .u64 0, .int .u8 0, .string .empty]

theorem findF_at {key : ByteArray} {v : Int} {xs : List Fc} {k : Nat} (hk : k < xs.length) (h : ∀ x ∈ xs.take k, isAt key v x = false) (he : isAt key v xs[k] = true) : findF key v xs = some xs[k] := by
  unfold findF
  rw [show xs.find? (isAt key v) = (xs.take k ++ xs.drop k).find? (isAt key v) from by rw [List.take_append_drop], List.find?_append]
  have h1 : (xs.take k).find? (isAt key v) = none := by
    rw [List.find?_eq_none]
    intro x hx
    simp [h x hx]
  rw [h1, List.drop_eq_getElem_cons hk, List.find?_cons]
  simp only [he, Option.none_or]
theorem findF_none {key : ByteArray} {v : Int} {xs : List Fc} (h : ∀ x ∈ xs, isAt key v x = false) : findF key v xs = none := by
  unfold findF
  rw [List.find?_eq_none]
  intro x hx
  simp [h x hx]

def FindPost (o : Option Fc) (w : World) (e : Ending) (w' : World) : Prop := e = .returned (.tuple #[fvO o, .bool o.isSome]) ∧ Below w.heap.size w w'

set_option maxRecDepth 100000 in
set_option maxHeartbeats 1000000 in
theorem find_any (a : Option Addr) (c : Nat) (xs : List Fc) (key : ByteArray) (v : Int) (w : World) (hL : Facts w a xs) (hlen : xs.length < 1000000) :
    Calls Try.prog 68 #[.slice a xs.length c, .string key, .int .u32 v] w (FindPost (findF key v xs) w) := by
  have HL := Lib.hid hL
  clear hL
  go_enter Try.func68, Try.ntmps68
  go_wp2_with fail
  go_loopg [8] xs.length (fun gk iv wr => ∃ k : Nat, k + gk = xs.length ∧ iv = .int .i64 k ∧ Hid (∀ x ∈ xs.take k, isAt key v x = false) ∧ wr = w.alloc (.cells #[.string .empty, .int .u32 0, .int .u64 0, .int .u64 0, .int .u8 0, .string .empty] 34))
  case atStart => exact ⟨0, by omega, rfl, Lib.hid (by simp), rfl⟩
  case round =>
    obtain ⟨k, hk, rfl, HNO, rfl⟩ := hrel
    by_cases hlt : k < xs.length
    · obtain ⟨b, o, rfl, hlb, hcell⟩ := HL.out.get k hlt
      have hi0 : (0 : Int) ≤ (k : Int) := by omega
      have hi1 : (k : Int) < (xs.length : Int) := by omega
      have e0 := hcell 0 _ rfl
      have e1 := hcell 1 _ rfl
      have e2 := hcell 2 _ rfl
      have e3 := hcell 3 _ rfl
      have e4 := hcell 4 _ rfl
      have e5 := hcell 5 _ rfl
      simp only [Nat.add_zero] at e0 e1 e2 e3 e4 e5
      have hat := findF_at (key := key) (v := v) hlt HNO.out
      have hno : isAt key v xs[k] = false → ∀ x ∈ xs.take (k + 1), isAt key v x = false := by
        intro h x hx
        rw [List.take_succ_eq_append_getElem hlt] at hx
        rcases List.mem_append.1 hx with hx | hx
        · exact HNO.out x hx
        · rw [List.mem_singleton.1 hx]; exact h
      generalize xs[k] = x at *
      have HAT := Lib.hid hat
      have HNN := Lib.hid hno
      clear hcell hat hno
      by_cases g1 : x.key.toList = key.toList
      · have d1 : (x.key.toList == key.toList) = true := beq_iff_eq.2 g1
        by_cases g2 : x.valid = v
        · have d2 : (x.valid == v) = true := by simp [g2]
          have hf := HAT.out (by simp [isAt, g1, g2])
          have HF := Lib.hid hf
          clear hf g1 g2
          go_wp2
          refine bodyPost_ret (v := .tuple #[fv x, .bool true]) (by simp [results, Try.results68, go_sem, *]) rfl ?_
          refine ⟨by rw [HF.out]; rfl, (Below.refl _ _).alloc (Nat.le_refl _) _⟩
        · have d2 : (x.valid == v) = false := beq_eq_false_iff_ne.2 g2
          have HN := Lib.hid (HNN.out (by simp [isAt, g2]))
          clear g1 g2
          go_wp2
          go_roundg (gk - 1)
          case measure => omega
          case rel => exact ⟨k + 1, by omega, by go_num, HN, rfl⟩
      · have d1 : (x.key.toList == key.toList) = false := beq_eq_false_iff_ne.2 g1
        have HN := Lib.hid (HNN.out (by simp [isAt, g1]))
        clear g1
        go_wp2
        go_roundg (gk - 1)
        case measure => omega
        case rel => exact ⟨k + 1, by omega, by go_num, HN, rfl⟩
    · have hke : k = xs.length := by omega
      subst hke
      have hf : findF key v xs = none := findF_none (by have := HNO.out; rwa [List.take_length] at this)
      have HF := Lib.hid hf
      clear hf
      go_wp2
      refine bodyPost_ret (v := .tuple #[fvO none, .bool false]) (by simp [results, Try.results68, go_sem, fvO]; rfl) rfl ?_
      exact ⟨by rw [HF.out]; rfl, (Below.refl _ _).alloc (Nat.le_refl _) _⟩
end Go.Proofs.Ytenocakpipppiaa
