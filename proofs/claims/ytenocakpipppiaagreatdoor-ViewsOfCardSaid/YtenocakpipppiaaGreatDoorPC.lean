/- ViewsOf, tied to the program's text. Conditions: none. -/
import Derived.Test.YtenocakpipppiaaGreatDoorPR
import Derived.Test.YtenocakpipppiaaGreatDoorCards
import Derived.Test.YtenocakpipppiaaGreatDoorTie
import Derived.SevenTiedAt
namespace Go.Proofs.YtenocakpipppiaaGreatDoor
open Go

theorem viewsOfCard_holds : Rows.ViewsOfCardSaid :=
  Claim7.holds_tied_plain_at .later [] [.data, .data, .data] true (true, "3dce3275b1bd9840a4074e959a98863e8a254adae5f7d2d27ec61f3548de852c") false
    viewsOf_holds (fun _ h => by cases h) (by kernel_rfl) (fun _ h => by cases h) viewsOf_row_tie rfl ⟨rfl, rfl⟩ (by kernel_rfl) rfl
    (fun f fn hf hfn => by
      obtain rfl : f = 3 := Option.some.inj ((show Tryz.prog.funcNamed "herbarium/herbariumlaw17.ViewsOf" = some 3 by kernel_rfl).symm.trans hf) |>.symm
      obtain rfl : fn = Tryz.f3 := (Option.some.inj (Tryz.func3.symm.trans hfn)).symm
      exact ⟨by kernel_rfl, fun j t ht => by
        rw [Tryz.params3] at ht
        have hm : t ∈ [22, 29] := by simpa using Array.mem_of_getElem? ht
        have hall : ([22, 29].all fun u => !Tryz.prog.wantsStandIn u) = true := by kernel_rfl
        exact (show Tryz.prog.wantsStandIn t = false by simpa using List.all_eq_true.1 hall t hm)⟩)
    (by kernel_rfl)
#print axioms viewsOfCard_holds
end Go.Proofs.YtenocakpipppiaaGreatDoor
