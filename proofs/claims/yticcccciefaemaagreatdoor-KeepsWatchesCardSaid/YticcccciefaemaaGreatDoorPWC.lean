/- KeepsWatches, tied to the program's text. Conditions: none. -/
import Derived.Test.YticcccciefaemaaGreatDoorPWR
import Derived.Test.YticcccciefaemaaGreatDoorCards
import Derived.Test.YticcccciefaemaaGreatDoorTie
import Derived.SevenTiedAt
namespace Go.Proofs.YticcccciefaemaaGreatDoor
open Go

theorem keepsWatchesCard_holds : Rows.KeepsWatchesCardSaid :=
  Claim7.holds_tied_plain_at .later [] [.data, .pinned] true (true, "06d5eb9509b3d8d9f279fb866a1973fca13ccd3bc88ff418c10c26bc8396bb13") true
    keepsWatches_holds (fun _ h => by cases h) (by kernel_rfl) (fun _ h => by cases h) keepsWatches_row_tie rfl ⟨rfl, rfl⟩ (by kernel_rfl) rfl
    (fun f fn hf hfn => by
      obtain rfl : f = 3 := Option.some.inj ((show Tryz.prog.funcNamed "herbarium/herbariumlaw18.KeepsWatches" = some 3 by kernel_rfl).symm.trans hf) |>.symm
      obtain rfl : fn = Tryz.f3 := (Option.some.inj (Tryz.func3.symm.trans hfn)).symm
      exact ⟨by kernel_rfl, fun j t ht => by
        rw [Tryz.params3] at ht
        have hm : t ∈ [22,23,24] := by simpa using Array.mem_of_getElem? ht
        have hall : ([22,23,24].all fun u => !Tryz.prog.wantsStandIn u) = true := by kernel_rfl
        exact (show Tryz.prog.wantsStandIn t = false by simpa using List.all_eq_true.1 hall t hm)⟩)
    (by kernel_rfl)
#print axioms keepsWatchesCard_holds
end Go.Proofs.YticcccciefaemaaGreatDoor
