/- KeepsOf, tied to the program's text. Conditions: none. -/
import Derived.Test.YticcccciefaemaaDoorPR
import Derived.Test.YticcccciefaemaaDoorCards
import Derived.Test.YticcccciefaemaaDoorTie
import Derived.SevenTiedAt
namespace Go.Proofs.YticcccciefaemaaDoor
open Go

theorem keepsOfCard_holds : Rows.KeepsOfCardSaid :=
  Claim7.holds_tied_plain_at .later [] [.data, .data, .data] true (true, "5a5a12ea2e54f2efa0df6df2db077dbffe502c225272f089009ab5a8bb6e74d0") false
    keepsOf_holds (fun _ h => by cases h) (by kernel_rfl) (fun _ h => by cases h) keepsOf_row_tie rfl ⟨rfl, rfl⟩ (by kernel_rfl) rfl
    (fun f fn hf hfn => by
      obtain rfl : f = 3 := Option.some.inj ((show Tryd.prog.funcNamed "herbarium/herbariumlaw18.KeepsOf" = some 3 by kernel_rfl).symm.trans hf) |>.symm
      obtain rfl : fn = Tryd.f3 := (Option.some.inj (Tryd.func3.symm.trans hfn)).symm
      exact ⟨by kernel_rfl, fun j t ht => by
        rw [Tryd.params3] at ht
        have hm : t ∈ [22, 23] := by simpa using Array.mem_of_getElem? ht
        have hall : ([22, 23].all fun u => !Tryd.prog.wantsStandIn u) = true := by kernel_rfl
        exact (show Tryd.prog.wantsStandIn t = false by simpa using List.all_eq_true.1 hall t hm)⟩)
    (by kernel_rfl)
#print axioms keepsOfCard_holds
end Go.Proofs.YticcccciefaemaaDoor
