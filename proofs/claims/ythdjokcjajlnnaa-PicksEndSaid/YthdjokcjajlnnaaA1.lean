/- Contracts of slices.Index, slices.Delete and slices.Clip at tables, and of slices.SortStableFunc at no tables. Condition: fewer than 1000000 tables. -/
import Derived.Test.YthdjokcjajlnnaaS6
import Derived.Test.YthdjokcjajlnnaaWD
namespace Go.Proofs.Ythdjokcjajlnnaa
open Go.RowKit Go.Herb

theorem bytes_ext {a b : ByteArray} (h : a.toList = b.toList) : a = b := by
  rw [ByteArray.toList_eq, ByteArray.toList_eq] at h
  obtain ⟨⟨x⟩⟩ := a
  obtain ⟨⟨y⟩⟩ := b
  simp at h
  rw [h]

def eqT (x y : T) : Bool := x.file == y.file && x.bytes == y.bytes && x.low.toList == y.low.toList && x.high.toList == y.high.toList

theorem eqT_iff (x y : T) : eqT x y = true ↔ x = y := by
  obtain ⟨a, b, c, d⟩ := x
  obtain ⟨a', b', c', d'⟩ := y
  simp only [eqT, Bool.and_eq_true, beq_iff_eq, T.mk.injEq]
  constructor
  · rintro ⟨⟨⟨h1, h2⟩, h3⟩, h4⟩
    exact ⟨h1, h2, bytes_ext h3, bytes_ext h4⟩
  · rintro ⟨h1, h2, h3, h4⟩
    exact ⟨⟨⟨h1, h2⟩, by rw [h3]⟩, by rw [h4]⟩

theorem run_eqlT (x y : T) (w : World) : (binOp .eql 45 (.agg #[.int .u64 x.file, .int .u32 x.bytes, .string x.low, .string x.high]) (.agg #[.int .u64 y.file, .int .u32 y.bytes, .string y.low, .string y.high])).run Try.prog w = .ok (.bool (eqT x y)) w := by
  rw [run_eql_struct]
  have := run_eqT x y w
  simp only [tv] at this
  rw [this]
  rfl

/-- The place of the first table that is the same, or -1. -/
def Placed (xs : List T) (v : T) (w : World) (e : Ending) (w' : World) : Prop :=
  ∃ n : Int, e = .returned (.int .i64 n) ∧ Below w.heap.size w w' ∧ ((n = -1 ∧ v ∉ xs) ∨ ∃ i : Nat, n = i ∧ xs[i]? = some v ∧ v ∉ xs.take i)

set_option maxHeartbeats 1000000 in
theorem index_any (a : Option Addr) (cap : Nat) (xs : List T) (v : T) (w : World) (hx : Tabs w a xs) (hl : xs.length < 1000000) :
    Calls Try.prog 31 #[.slice a xs.length cap, tv v] w (Placed xs v w) := by
  have HX := Lib.hid hx
  clear hx
  go_enter Try.func31, Try.ntmps31
  go_wp2
  obtain ⟨W0, hW0⟩ : ∃ W0 : World, W0 = w.alloc (Obj.cells #[.int .u64 v.file, .int .u32 v.bytes, .string v.low, .string v.high] 45) := ⟨_, rfl⟩
  have HB0 : Below w.heap.size w W0 := by rw [hW0]; go_grown
  have s0 : W0.heap[w.heap.size]? = some (.cells #[.int .u64 v.file, .int .u32 v.bytes, .string v.low, .string v.high] 45 (0, 0)) := by rw [hW0]; exact blk_new_at rfl _
  rw [← hW0]
  clear hW0
  go_loopg [8] xs.length (fun gk iv wr => ∃ k : Nat, k + gk = xs.length ∧ iv = .int .i64 k ∧ Below W0.heap.size W0 wr ∧ v ∉ xs.take k)
  case atStart => exact ⟨0, by omega, rfl, Below.refl _ _, by simp⟩
  case round =>
    obtain ⟨k, hk, rfl, hB, hnot⟩ := hrel
    have HN := Lib.hid hnot
    have hz := lt_of_blk s0
    obtain ⟨c0, c1, c2, c3, -⟩ := blk_cells4 (blk_below s0 hB hz)
    have HBr := Lib.hid (HB0.trans (hB.mono (by omega)))
    have HB := Lib.hid hB
    clear hnot hB
    by_cases hlt : k < xs.length
    · obtain ⟨b, o, rfl, hb, hc⟩ := HX.out.get k hlt
      have e0 := (HBr.out.cell (p := ⟨b, _, none⟩) hb).trans (hc 0 _ rfl)
      have e1 := (HBr.out.cell (p := ⟨b, _, none⟩) hb).trans (hc 1 _ rfl)
      have e2 := (HBr.out.cell (p := ⟨b, _, none⟩) hb).trans (hc 2 _ rfl)
      have e3 := (HBr.out.cell (p := ⟨b, _, none⟩) hb).trans (hc 3 _ rfl)
      simp only [Nat.add_zero] at e0
      have hsn : xs.take (k + 1) = xs.take k ++ [xs[k]] := by rw [List.take_succ_eq_append_getElem hlt]
      have hgx : xs[k]? = some xs[k] := List.getElem?_eq_getElem hlt
      generalize xs[k] = x at *
      have HS := Lib.hid hsn
      have HGX := Lib.hid hgx
      have heq := run_eqlT v x
      have hgt := guardT
      clear hsn hc hgx
      cases hq : eqT v x
      · rw [hq] at heq
        have hne : ¬ v = x := fun h => by rw [(eqT_iff v x).2 h] at hq; cases hq
        have HNE := Lib.hid hne
        clear hq hne
        go_wp2
        go_quiet (fail)
        go_wp2
        go_roundg (gk - 1)
        case measure => omega
        case rel => exact ⟨k + 1, by omega, by go_num, HB.out.trans ⟨rfl, rfl, rfl, Nat.le_refl _, fun _ _ => rfl⟩, by rw [HS.out]; simp only [List.mem_append, List.mem_singleton, not_or]; exact ⟨HN.out, HNE.out⟩⟩
      · rw [hq] at heq
        have HE := Lib.hid ((eqT_iff v x).1 hq)
        clear hq
        go_wp2
        go_quiet (fail)
        go_wp2
        go_ret
        exact ⟨_, rfl, HBr.out.trans ⟨rfl, rfl, rfl, Nat.le_refl _, fun _ _ => rfl⟩, .inr ⟨k, rfl, by rw [HGX.out, HE.out], HN.out⟩⟩
    · go_wp2
      go_ret
      refine ⟨-1, rfl, HBr.out, .inl ⟨rfl, ?_⟩⟩
      have := HN.out
      rw [List.take_of_length_le (by omega)] at this
      exact this
end Go.Proofs.Ythdjokcjajlnnaa
