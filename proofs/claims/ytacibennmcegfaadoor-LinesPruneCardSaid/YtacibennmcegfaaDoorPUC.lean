/- LinesPrune, tied to the program's text. Conditions: none. -/
import Derived.Test.YtacibennmcegfaaDoorPUR
import Derived.Test.YtacibennmcegfaaDoorCards
import Derived.Test.YtacibennmcegfaaDoorTie
import Derived.SevenTiedAt
namespace Go.Proofs.YtacibennmcegfaaDoor
open Go

theorem linesPruneCard_holds : Rows.LinesPruneCardSaid :=
  Claim7.holds_tied_plain_at .later [] [.data, .pinned] true (true, "c128d51ece45d283ee59a61f942ba57746b62864f1212ba2fe6fc111e8df7d5d") false
    linesPrune_holds (fun _ h => by cases h) (by kernel_rfl) (fun _ h => by cases h) linesPrune_row_tie rfl ⟨rfl, rfl⟩ (by kernel_rfl) rfl
    (fun f fn hf hfn => by
      obtain rfl : f = 6 := Option.some.inj ((show Tryd.prog.funcNamed "herbarium/herbariumlaw15.LinesPrune" = some 6 by kernel_rfl).symm.trans hf) |>.symm
      obtain rfl : fn = Tryd.f6 := (Option.some.inj (Tryd.func6.symm.trans hfn)).symm
      exact ⟨by kernel_rfl, fun j t ht => by
        rw [Tryd.params6] at ht
        have hm : t ∈ [25, 46] := by simpa using Array.mem_of_getElem? ht
        have hall : ([25, 46].all fun u => !Tryd.prog.wantsStandIn u) = true := by kernel_rfl
        exact (show Tryd.prog.wantsStandIn t = false by simpa using List.all_eq_true.1 hall t hm)⟩)
    (by kernel_rfl)
#print axioms linesPruneCard_holds
end Go.Proofs.YtacibennmcegfaaDoor
