/- LinesFork, tied to the program's text. Conditions: none. -/
import Derived.Test.YtacibennmcegfaaDoorFKR
import Derived.Test.YtacibennmcegfaaDoorCards
import Derived.Test.YtacibennmcegfaaDoorTie
import Derived.SevenTiedAt
namespace Go.Proofs.YtacibennmcegfaaDoor
open Go

theorem linesForkCard_holds : Rows.LinesForkCardSaid :=
  Claim7.holds_tied_plain_at .later [] [.data, .pinned] true (true, "c128d51ece45d283ee59a61f942ba57746b62864f1212ba2fe6fc111e8df7d5d") false
    linesFork_holds (fun _ h => by cases h) (by kernel_rfl) (fun _ h => by cases h) linesFork_row_tie rfl ⟨rfl, rfl⟩ (by kernel_rfl) rfl
    (fun f fn hf hfn => by
      obtain rfl : f = 5 := Option.some.inj ((show Tryd.prog.funcNamed "herbarium/herbariumlaw15.LinesFork" = some 5 by kernel_rfl).symm.trans hf) |>.symm
      obtain rfl : fn = Tryd.f5 := (Option.some.inj (Tryd.func5.symm.trans hfn)).symm
      exact ⟨by kernel_rfl, fun j t ht => by
        rw [Tryd.params5] at ht
        have hm : t ∈ [25, 48] := by simpa using Array.mem_of_getElem? ht
        have hall : ([25, 48].all fun u => !Tryd.prog.wantsStandIn u) = true := by kernel_rfl
        exact (show Tryd.prog.wantsStandIn t = false by simpa using List.all_eq_true.1 hall t hm)⟩)
    (by kernel_rfl)
#print axioms linesForkCard_holds
end Go.Proofs.YtacibennmcegfaaDoor
