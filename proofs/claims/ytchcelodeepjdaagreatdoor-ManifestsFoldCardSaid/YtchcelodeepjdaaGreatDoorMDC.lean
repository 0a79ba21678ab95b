/- ManifestsFold, tied to the program's text. Conditions: none. -/
import Derived.Test.YtchcelodeepjdaaGreatDoorMDR
import Derived.Test.YtchcelodeepjdaaGreatDoorCards
import Derived.Test.YtchcelodeepjdaaGreatDoorTie
import Derived.SevenTiedAt
namespace Go.Proofs.YtchcelodeepjdaaGreatDoor
open Go

theorem manifestsFoldCard_holds:Rows.ManifestsFoldCardSaid:=
 Claim7.holds_tied_plain_at .later [] [.data, .pinned] true (true, "95fc46678fb088ba6ab933a46db07f399003b5e2d0f3f98d893b356c3ac8f371") true
  manifestsFold_holds (fun _ h=>by cases h) (by kernel_rfl) (fun _ h=>by cases h) manifestsFold_row_tie rfl ⟨rfl,rfl⟩ (by kernel_rfl) rfl
  (fun f fn hf hfn=>by
   obtain rfl:f=3:=Option.some.inj ((show Tryz.prog.funcNamed "herbarium/herbariumlaw20.ManifestsFold" =some 3 by kernel_rfl).symm.trans hf)|>.symm
   obtain rfl:fn=Tryz.f3:=(Option.some.inj (Tryz.func3.symm.trans hfn)).symm
   exact⟨by kernel_rfl,fun j t ht=>by
    rw [Tryz.params3] at ht
    have hm:t∈ [22] :=by simpa using Array.mem_of_getElem? ht
    have hall:([22].all fun u=> !Tryz.prog.wantsStandIn u)=true:=by kernel_rfl
    exact(show Tryz.prog.wantsStandIn t=false by simpa using List.all_eq_true.1 hall t hm)⟩)
  (by kernel_rfl)
#print axioms manifestsFoldCard_holds
end Go.Proofs.YtchcelodeepjdaaGreatDoor
