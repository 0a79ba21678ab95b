/- The reference's in. Condition: fewer than 1000000 facts. -/
import Derived.Test.YticcccciefaemaaDoorR2
import Derived.Test.YticcccciefaemaaDoorQU
namespace Go.Proofs.YticcccciefaemaaDoor
open Go.RowKit Go.Shelf Go.Herb

def LikeF (y f : Fc) : Prop := y.key.toList = f.key.toList ∧ y.valid = f.valid ∧ y.seq = f.seq ∧ y.line = f.line
theorem inL_iff (f : Fc) (xs : List Fc) : InL f xs ↔ ∃ y ∈ xs, LikeF y f := by
  unfold InL LikeF
  constructor
  · rintro ⟨y, hy, h1, h2, h3⟩
    injection h1 with e1 e2
    exact ⟨y, hy, by rw [e1], e2, h2, h3⟩
  · rintro ⟨y, hy, h1, h2, h3, h4⟩
    exact ⟨y, hy, Prod.ext (bytes_ext h1) h2, h3, h4⟩

set_option maxRecDepth 100000 in
set_option maxHeartbeats 2000000 in
theorem in_any (f : Fc) (al : Option Addr) (cl : Nat) (xs : List Fc) (w : World) (hL : Facts w al xs) (hl : xs.length < 1000000) :
    Calls Tryd.prog (19) #[.agg #[.string f.key, .int .u32 f.valid, .int .u64 f.seq, .int .u64 f.line, .int .u8 f.kind, .string f.val], .slice al xs.length cl] w fun e w' => ∃ b : Bool, e = .returned (.bool b) ∧ (b = true ↔ InL f xs) ∧ Below w.heap.size w w' := by
  have HL := Lib.hid hL
  clear hL
  go_enter Tryd.func19, Tryd.ntmps19
  go_wp2_with fail
  go_loopg [5] xs.length (fun gk iv wr => ∃ k n : Nat, k + gk = xs.length ∧ iv = .int .i64 k ∧ (∀ (q : Nat) (hq : q < xs.length), q < k → ¬ LikeF xs[q] f) ∧ wr = (w.alloc (.cells #[.string f.key, .int .u32 f.valid, .int .u64 f.seq, .int .u64 f.line, .int .u8 f.kind, .string f.val] (41))).drewN n)
  case atStart => exact ⟨0, 0, by omega, rfl, fun _ _ h => by omega, rfl⟩
  case round =>
    obtain ⟨k, n, hk, rfl, hno, rfl⟩ := hrel
    have HNO := Lib.hid hno
    obtain ⟨X, hX⟩ : ∃ X : World, X = (w.alloc (.cells #[.string f.key, .int .u32 f.valid, .int .u64 f.seq, .int .u64 f.line, .int .u8 f.kind, .string f.val] (41))).drewN n := ⟨_, rfl⟩
    have hBX : Below w.heap.size w X := by rw [hX]; exact below_drewN ((Below.refl _ _).alloc (Nat.le_refl _) _) n
    have hX0 : X.heap[w.heap.size]? = some (.cells (fc f).toArray (41) (0, 0)) := by rw [hX]; exact blk_new_at rfl _
    have x0 := cell_of_blk hX0 0
    have x1 := cell_of_blk hX0 1
    have x2 := cell_of_blk hX0 2
    have x3 := cell_of_blk hX0 3
    simp [fc] at x0 x1 x2 x3
    have hstep : ∀ m, X.drewN m = (w.alloc (.cells #[.string f.key, .int .u32 f.valid, .int .u64 f.seq, .int .u64 f.line, .int .u8 f.kind, .string f.val] (41))).drewN (n + m) := fun m => by rw [hX]; exact drewN_drewN' _ _ _
    rw [← hX]
    have HST := Lib.hid hstep
    have HBX := Lib.hid hBX
    have HLX := Lib.hid (HL.out.ext hBX)
    clear hX hBX hX0 hstep hno
    by_cases hlt : k < xs.length
    · obtain ⟨b, o, rfl, hlb, hc⟩ := HLX.out.get k hlt
      have hnext : ¬ LikeF xs[k] f → ∀ (q : Nat) (hq : q < xs.length), q < k + 1 → ¬ LikeF xs[q] f := fun h q hq hqk => by
        rcases Nat.lt_or_eq_of_le (Nat.le_of_lt_succ hqk) with h2 | h2
        · exact HNO.out q hq h2
        · subst h2; exact h
      have hyes : LikeF xs[k] f → InL f xs := fun h => (inL_iff f xs).2 ⟨_, List.getElem_mem _, h⟩
      have HN := Lib.hid hnext
      have HY := Lib.hid hyes
      clear hnext hyes
      obtain ⟨y, hy⟩ : ∃ y, y = xs[k] := ⟨_, rfl⟩
      rw [← hy] at hc HN HY
      have e0 := hc 0 _ rfl
      have e1 := hc 1 _ rfl
      have e2 := hc 2 _ rfl
      have e3 := hc 3 _ rfl
      simp only [Nat.add_zero] at e0 e1 e2 e3
      have hk0 : (0 : Int) ≤ (k : Int) := by omega
      have hk1 : (k : Int) < (xs.length : Int) := by omega
      clear hc hy
      by_cases h1 : y.key.toList = f.key.toList
      · have d1 : (y.key.toList == f.key.toList) = true := beq_iff_eq.2 h1
        by_cases h2 : y.valid = f.valid
        · have d2 : (y.valid == f.valid) = true := beq_iff_eq.2 h2
          by_cases h3 : y.seq = f.seq
          · have d3 : (y.seq == f.seq) = true := beq_iff_eq.2 h3
            by_cases h4 : y.line = f.line
            · have d4 : (y.line == f.line) = true := beq_iff_eq.2 h4
              have HR := Lib.hid (HY.out ⟨h1, h2, h3, h4⟩)
              clear h1 h2 h3 h4
              go_wp2_with fail
              go_quiet (fail)
              go_wp2
              go_ret
              exact ⟨true, rfl, ⟨fun _ => HR.out, fun _ => rfl⟩, below_drewN HBX.out _⟩
            · have d4 : (y.line == f.line) = false := beq_eq_false_iff_ne.2 h4
              have HR := Lib.hid (HN.out (fun h => h4 h.2.2.2))
              clear h1 h2 h3 h4
              go_wp2_with fail
              go_quiet (fail)
              go_wp2
              go_roundg (gk - 1)
              case measure => omega
              case rel => exact ⟨k + 1, _, by omega, by go_num, HR.out, HST.out _⟩
          · have d3 : (y.seq == f.seq) = false := beq_eq_false_iff_ne.2 h3
            have HR := Lib.hid (HN.out (fun h => h3 h.2.2.1))
            clear h1 h2 h3
            go_wp2_with fail
            go_quiet (fail)
            go_wp2
            go_roundg (gk - 1)
            case measure => omega
            case rel => exact ⟨k + 1, _, by omega, by go_num, HR.out, HST.out _⟩
        · have d2 : (y.valid == f.valid) = false := beq_eq_false_iff_ne.2 h2
          have HR := Lib.hid (HN.out (fun h => h2 h.2.1))
          clear h1 h2
          go_wp2_with fail
          go_quiet (fail)
          go_wp2
          go_roundg (gk - 1)
          case measure => omega
          case rel => exact ⟨k + 1, _, by omega, by go_num, HR.out, HST.out _⟩
      · have d1 : (y.key.toList == f.key.toList) = false := beq_eq_false_iff_ne.2 h1
        have HR := Lib.hid (HN.out (fun h => h1 h.1))
        clear h1
        go_wp2_with fail
        go_quiet (fail)
        go_wp2
        go_roundg (gk - 1)
        case measure => omega
        case rel => exact ⟨k + 1, _, by omega, by go_num, HR.out, HST.out _⟩
    · have hke : k = xs.length := by omega
      subst hke
      have hn : ¬ InL f xs := fun h => by
        obtain ⟨y, hy, hlk⟩ := (inL_iff f xs).1 h
        obtain ⟨q, hq, rfl⟩ := List.getElem_of_mem hy
        exact HNO.out q hq hq hlk
      have HN := Lib.hid hn
      clear hn
      go_wp2
      go_ret
      exact ⟨false, rfl, ⟨fun h => by simp at h, fun h => absurd h HN.out⟩, HBX.out⟩
end Go.Proofs.YticcccciefaemaaDoor
