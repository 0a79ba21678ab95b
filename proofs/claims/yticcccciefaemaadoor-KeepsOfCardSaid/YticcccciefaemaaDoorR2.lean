/- Which facts are seen, as the reference asks it. Condition: fewer than 1000000 links. -/
import Derived.Test.YticcccciefaemaaDoorR1
namespace Go.Proofs.YticcccciefaemaaDoor
open Go.RowKit Go.Shelf Go.Herb

/-- Is a fact seen: by the first link of its line. -/
def seenC (cs : List Lk) (at_ : Int) (x : Fc) : Bool :=
  match cs.find? (fun l => decide (l.line = x.line)) with
  | some l => decide (x.seq ≤ l.upto) && decide (x.seq ≤ at_)
  | none => false

theorem seenB_eq (cs : List Lk) (at_ : Int) (x : Fc) : seenB (uptoM (backs cs cs.length)) at_ x = seenC cs at_ x := by
  unfold seenB seenC
  rw [uptoM_get]
  cases cs.find? (fun l => decide (l.line = x.line)) <;> rfl

theorem seenL_eq (xs : List Fc) (cs : List Lk) (at_ : Int) : seenL xs cs at_ = xs.filter (seenC cs at_) := by
  unfold seenL
  congr 1
  funext x
  exact seenB_eq cs at_ x

theorem seenC_none {cs : List Lk} {at_ : Int} {x : Fc} (h : ∀ l ∈ cs, l.line ≠ x.line) : seenC cs at_ x = false := by
  unfold seenC
  have : cs.find? (fun l => decide (l.line = x.line)) = none := by
    rw [List.find?_eq_none]
    intro l hl e
    exact h l hl (by simpa using e)
  rw [this]
theorem seenC_at {cs : List Lk} {at_ : Int} {x : Fc} {k : Nat} (hk : k < cs.length) (h : ∀ l ∈ cs.take k, l.line ≠ x.line) (he : cs[k].line = x.line) : seenC cs at_ x = (decide (x.seq ≤ cs[k].upto) && decide (x.seq ≤ at_)) := by
  unfold seenC
  have : cs.find? (fun l => decide (l.line = x.line)) = some cs[k] := by
    rw [show cs.find? (fun l => decide (l.line = x.line)) = (cs.take k ++ cs.drop k).find? (fun l => decide (l.line = x.line)) from by rw [List.take_append_drop], List.find?_append]
    have h1 : (cs.take k).find? (fun l => decide (l.line = x.line)) = none := by
      rw [List.find?_eq_none]
      intro l hl e
      exact h l hl (by simpa using e)
    rw [h1, List.drop_eq_getElem_cons hk, List.find?_cons]
    simp only [he, decide_true, Option.none_or]
  rw [this]

set_option maxRecDepth 100000 in
set_option maxHeartbeats 1000000 in
theorem seenRef_any (f : Fc) (a : Option Addr) (c : Nat) (cs : List Lk) (at_ : Int) (w : World) (hC : Links w a cs) (hlen : cs.length < 1000000) :
    Calls Tryd.prog 39 #[fv f, .slice a cs.length c, .int .u64 at_] w fun e w' => e = .returned (.bool (seenC cs at_ f)) ∧ Below w.heap.size w w' := by
  have HC := Lib.hid hC
  clear hC
  go_enter Tryd.func39, Tryd.ntmps39
  go_wp2_with fail
  go_loopg [7] cs.length (fun gk iv wr => ∃ k n : Nat, k + gk = cs.length ∧ iv = .int .i64 k ∧ Hid (∀ l ∈ cs.take k, l.line ≠ f.line) ∧ wr = (w.alloc (.cells #[.string f.key, .int .u32 f.valid, .int .u64 f.seq, .int .u64 f.line, .int .u8 f.kind, .string f.val] 41)).drewN n)
  case atStart => exact ⟨0, 0, by omega, rfl, Lib.hid (by simp), rfl⟩
  case round =>
    obtain ⟨k, n, hk, rfl, hno, rfl⟩ := hrel
    obtain ⟨X, hX⟩ : ∃ X : World, X = (w.alloc (.cells #[.string f.key, .int .u32 f.valid, .int .u64 f.seq, .int .u64 f.line, .int .u8 f.kind, .string f.val] 41)).drewN n := ⟨_, rfl⟩
    have hBX : Below w.heap.size w X := by rw [hX]; exact below_drewN ((Below.refl _ _).alloc (Nat.le_refl _) _) n
    have hX0 : X.heap[w.heap.size]? = some (.cells (fc f).toArray 41 (0, 0)) := by rw [hX]; exact blk_new_at rfl _
    have x2 := cell_of_blk hX0 2
    have x3 := cell_of_blk hX0 3
    simp [fc] at x2 x3
    have hstep : ∀ m, X.drewN m = (w.alloc (.cells #[.string f.key, .int .u32 f.valid, .int .u64 f.seq, .int .u64 f.line, .int .u8 f.kind, .string f.val] 41)).drewN (n + m) := fun m => by rw [hX]; exact drewN_drewN' _ _ _
    rw [← hX]
    have HST := Lib.hid hstep
    have HBX := Lib.hid hBX
    clear hX hBX hX0 hstep
    by_cases hlt : k < cs.length
    · obtain ⟨b, o, rfl, hlb, hcell⟩ := HC.out.get k hlt
      have e0 := (HBX.out.cell (p := ⟨b, _, none⟩) hlb).trans (hcell 0 _ rfl)
      have e1 := (HBX.out.cell (p := ⟨b, _, none⟩) hlb).trans (hcell 1 _ rfl)
      simp only [Nat.add_zero] at e0 e1
      have hk0 : (0 : Int) ≤ (k : Int) := by omega
      have hk1 : (k : Int) < (cs.length : Int) := by omega
      by_cases g : cs[k].line = f.line
      · have hs := seenC_at (at_ := at_) hlt hno.out g
        have d : (cs[k].line == f.line) = true := by simp [g]
        obtain ⟨l, hl⟩ : ∃ l, l = cs[k] := ⟨_, rfl⟩
        rw [← hl] at e0 e1 d hs
        by_cases g2 : f.seq ≤ l.upto
        · have d2 : decide (f.seq ≤ l.upto) = true := decide_eq_true g2
          rw [d2, Bool.true_and] at hs
          have HS := Lib.hid hs
          clear hs g hcell hl g2
          go_wp2_with fail
          go_quiet (fail)
          go_wp2_with fail
          go_quiet (fail)
          go_wp2
          go_ret
          exact ⟨by rw [HS.out]; rfl, below_drewN (below_drewN HBX.out _) _⟩
        · have d2 : decide (f.seq ≤ l.upto) = false := decide_eq_false g2
          rw [d2, Bool.false_and] at hs
          have HS := Lib.hid hs
          clear hs g hcell hl g2
          go_wp2_with fail
          go_quiet (fail)
          go_wp2_with fail
          go_quiet (fail)
          go_wp2
          go_ret
          exact ⟨by rw [HS.out]; rfl, below_drewN (below_drewN HBX.out _) _⟩
      · have hno' : ∀ l ∈ cs.take (k + 1), l.line ≠ f.line := by
          intro l hl
          rw [List.take_succ_eq_append_getElem hlt] at hl
          rcases List.mem_append.1 hl with hl | hl
          · exact hno.out l hl
          · rw [List.mem_singleton.1 hl]; exact g
        have d : (cs[k].line == f.line) = false := beq_eq_false_iff_ne.2 g
        have HNO := Lib.hid hno'
        obtain ⟨l, hl⟩ : ∃ l, l = cs[k] := ⟨_, rfl⟩
        rw [← hl] at e0 e1 d
        clear hno' g hcell hl
        go_wp2_with fail
        go_quiet (fail)
        go_wp2
        go_roundg (gk - 1)
        case measure => omega
        case rel => exact ⟨k + 1, _, by omega, by go_num, HNO, HST.out _⟩
    · have hke : k = cs.length := by omega
      subst hke
      have hs : seenC cs at_ f = false := seenC_none (by have := hno.out; rwa [List.take_length] at this)
      have HS := Lib.hid hs
      clear hs
      go_wp2
      go_ret
      exact ⟨by rw [HS.out]; rfl, HBX.out⟩
end Go.Proofs.YticcccciefaemaaDoor
