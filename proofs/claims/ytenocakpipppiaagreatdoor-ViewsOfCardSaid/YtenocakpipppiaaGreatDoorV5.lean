/- Which facts are seen, as the statements ask it. Condition: fewer than 1000000 links. -/
import Derived.Test.YtenocakpipppiaaGreatDoorV3
namespace Go.Proofs.YtenocakpipppiaaGreatDoor
open Go.RowKit Go.Shelf Go.Herb

/-- Is a fact seen: by the first link of its line. -/
def seenC (cs : List Lk) (at_ : Int) (x : Fc) : Bool :=
  match cs.find? (fun l => decide (l.line = x.line)) with
  | some l => decide (x.seq ≤ l.upto) && decide (x.seq ≤ at_)
  | none => false

theorem seenB_eq (cs : List Lk) (at_ : Int) (x : Fc) : seenB (uptoM (backs cs cs.length)) at_ x = seenC cs at_ x := by
  unfold seenB seenC
  rw [uptoM_get]
  cases cs.find? (fun l => decide (l.line = x.line)) <;> rfl

theorem seenL_eq (xs : List Fc) (cs : List Lk) (at_ : Int) : seenL xs cs at_ = xs.filter (seenC cs at_) := by
  unfold seenL
  congr 1
  funext x
  exact seenB_eq cs at_ x

theorem seenC_none {cs : List Lk} {at_ : Int} {x : Fc} (h : ∀ l ∈ cs, l.line ≠ x.line) : seenC cs at_ x = false := by
  unfold seenC
  have : cs.find? (fun l => decide (l.line = x.line)) = none := by
    rw [List.find?_eq_none]
    intro l hl e
    exact h l hl (by simpa using e)
  rw [this]
theorem seenC_at {cs : List Lk} {at_ : Int} {x : Fc} {k : Nat} (hk : k < cs.length) (h : ∀ l ∈ cs.take k, l.line ≠ x.line) (he : cs[k].line = x.line) : seenC cs at_ x = (decide (x.seq ≤ cs[k].upto) && decide (x.seq ≤ at_)) := by
  unfold seenC
  have : cs.find? (fun l => decide (l.line = x.line)) = some cs[k] := by
    rw [show cs.find? (fun l => decide (l.line = x.line)) = (cs.take k ++ cs.drop k).find? (fun l => decide (l.line = x.line)) from by rw [List.take_append_drop], List.find?_append]
    have h1 : (cs.take k).find? (fun l => decide (l.line = x.line)) = none := by
      rw [List.find?_eq_none]
      intro l hl e
      exact h l hl (by simpa using e)
    rw [h1, List.drop_eq_getElem_cons hk, List.find?_cons]
    simp only [he, decide_true, Option.none_or]
  rw [this]

end Go.Proofs.YtenocakpipppiaaGreatDoor
