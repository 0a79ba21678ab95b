/- ManifestsOnly, tied to the program's text. Conditions: none. -/
import Derived.Test.YtchcelodeepjdaaGreatDoorMOR
import Derived.Test.YtchcelodeepjdaaGreatDoorCards
import Derived.Test.YtchcelodeepjdaaGreatDoorTie
import Derived.SevenTiedAt
namespace Go.Proofs.YtchcelodeepjdaaGreatDoor
open Go

theorem manifestsOnlyCard_holds : Rows.ManifestsOnlyCardSaid :=
  Claim7.holds_tied_plain_at .later [] [.data, .pinned] true (true, "95fc46678fb088ba6ab933a46db07f399003b5e2d0f3f98d893b356c3ac8f371") true
    manifestsOnly_holds (fun _ h => by cases h) (by kernel_rfl) (fun _ h => by cases h) manifestsOnly_row_tie rfl ⟨rfl, rfl⟩ (by kernel_rfl) rfl
    (fun f fn hf hfn => by
      obtain rfl : f = 5 := Option.some.inj ((show Tryz.prog.funcNamed "herbarium/herbariumlaw20.ManifestsOnly" = some 5 by kernel_rfl).symm.trans hf) |>.symm
      obtain rfl : fn = Tryz.f5 := (Option.some.inj (Tryz.func5.symm.trans hfn)).symm
      exact ⟨by kernel_rfl, fun j t ht => by
        rw [Tryz.params5] at ht
        have hm : t ∈ [32,32,46] := by simpa using Array.mem_of_getElem? ht
        have hall : ([32,32,46].all fun u => !Tryz.prog.wantsStandIn u) = true := by kernel_rfl
        exact (show Tryz.prog.wantsStandIn t = false by simpa using List.all_eq_true.1 hall t hm)⟩)
    (by kernel_rfl)
#print axioms manifestsOnlyCard_holds
end Go.Proofs.YtchcelodeepjdaaGreatDoor
