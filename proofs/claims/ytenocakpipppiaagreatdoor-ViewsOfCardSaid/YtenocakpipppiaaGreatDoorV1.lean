/- The chapter's example of views. No condition. -/
import Derived.Test.YtenocakpipppiaaGreatDoorL2
namespace Go.Proofs.YtenocakpipppiaaGreatDoor
open Go.RowKit Go.Shelf Go.Herb

/-- A list is the view of facts along a chain, at a commit. -/
structure IsView (xs : List Fc) (cs : List Lk) (at_ : Int) (ys : List Fc) : Prop where
  perm : ys.Perm (lastL (seenL xs cs at_))
  sorted : ys.Pairwise (fun x y => ¬ LtF y x)

theorem IsView.uniq {xs : List Fc} {cs : List Lk} {at_ : Int} {ys zs : List Fc} (h : IsView xs cs at_ ys) (k : IsView xs cs at_ zs) : ys = zs :=
  view_one h.perm k.perm h.sorted k.sorted (lastL_spots _)

def xF1 : Fc := ⟨⟨#[97]⟩, 5, 1, 0, 0, ⟨#[120]⟩, by unfold maxLen; decide, rfl, rfl, rfl, rfl⟩
def xF2 : Fc := ⟨⟨#[97]⟩, 5, 2, 0, 0, ⟨#[121]⟩, by unfold maxLen; decide, rfl, rfl, rfl, rfl⟩
def xF3 : Fc := ⟨⟨#[97]⟩, 9, 3, 0, 1, ⟨#[]⟩, by unfold maxLen; decide, rfl, rfl, rfl, rfl⟩
def xLk : Lk := ⟨0, 18446744073709551615, rfl, rfl⟩

theorem x_one : IsView [xF1, xF2, xF3] [xLk] 1 [xF1] :=
  ⟨by rw [show lastL (seenL [xF1, xF2, xF3] [xLk] 1) = [xF1] from by decide +kernel], by simp⟩

theorem x_lt : ¬ LtF xF2 xF3 := by
  unfold LtF
  rintro (h | ⟨_, h⟩)
  · exact List.lt_irrefl _ h
  · simp [xF2, xF3] at h

theorem x_three : IsView [xF1, xF2, xF3] [xLk] 3 [xF3, xF2] :=
  ⟨by rw [show lastL (seenL [xF1, xF2, xF3] [xLk] 3) = [xF2, xF3] from by decide +kernel]; exact List.Perm.swap _ _ _, by simp [x_lt]⟩

theorem x_val7 : valueL ⟨#[97]⟩ 7 [xF3, xF2] = (⟨#[121]⟩, true) := by decide +kernel
theorem x_val9 : valueL ⟨#[97]⟩ 9 [xF3, xF2] = (⟨#[]⟩, false) := by decide +kernel

theorem viewsOf_is (al : Option Addr) (cl : Nat) (xs : List Fc) (ac : Option Addr) (cc : Nat) (cs : List Lk) (at_ : Int) (ys : List Fc) (hy : IsView xs cs at_ ys) (w : World) (hL : Facts w al xs) (hC : Links w ac cs) (hx : xs.length < 1000000) (hc : cs.length < 1000000) :
    Calls Tryz.prog 7 #[.slice al xs.length cl, .slice ac cs.length cc, .int .u64 at_] w fun e w' => ∃ a : Option Addr, e = .returned (.slice a ys.length ys.length) ∧ Facts w' a ys ∧ (a = none → ys = []) ∧ Below w.heap.size w w' := by
  refine (viewsOf_any al cl xs ac cc cs at_ w hL hC hx hc).mono ?_
  rintro e w' ⟨a, zs, rfl, hp, hs, hF, hn, hB⟩
  obtain rfl : zs = ys := (IsView.mk hp hs).uniq hy
  exact ⟨a, rfl, hF, hn, hB⟩
end Go.Proofs.YtenocakpipppiaaGreatDoor
