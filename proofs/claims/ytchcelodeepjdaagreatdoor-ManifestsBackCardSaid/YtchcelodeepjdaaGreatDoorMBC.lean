/- ManifestsBack, tied to the program's text. Conditions: none. -/
import Derived.Test.YtchcelodeepjdaaGreatDoorMBR
import Derived.Test.YtchcelodeepjdaaGreatDoorCards
import Derived.Test.YtchcelodeepjdaaGreatDoorTie
import Derived.SevenTiedAt
namespace Go.Proofs.YtchcelodeepjdaaGreatDoor
open Go

theorem manifestsBackCard_holds : Rows.ManifestsBackCardSaid :=
  Claim7.holds_tied_plain_at .later [] [.data, .pinned] true (true, "95fc46678fb088ba6ab933a46db07f399003b5e2d0f3f98d893b356c3ac8f371") true
    manifestsBack_holds (fun _ h => by cases h) (by kernel_rfl) (fun _ h => by cases h) manifestsBack_row_tie rfl ⟨rfl, rfl⟩ (by kernel_rfl) rfl
    (fun f fn hf hfn => by
      obtain rfl : f = 4 := Option.some.inj ((show Tryz.prog.funcNamed "herbarium/herbariumlaw20.ManifestsBack" = some 4 by kernel_rfl).symm.trans hf) |>.symm
      obtain rfl : fn = Tryz.f4 := (Option.some.inj (Tryz.func4.symm.trans hfn)).symm
      exact ⟨by kernel_rfl, fun j t ht => by
        rw [Tryz.params4] at ht
        have hm : t ∈ [39,32] := by simpa using Array.mem_of_getElem? ht
        have hall : ([39,32].all fun u => !Tryz.prog.wantsStandIn u) = true := by kernel_rfl
        exact (show Tryz.prog.wantsStandIn t = false by simpa using List.all_eq_true.1 hall t hm)⟩)
    (by kernel_rfl)
#print axioms manifestsBackCard_holds
end Go.Proofs.YtchcelodeepjdaaGreatDoor
