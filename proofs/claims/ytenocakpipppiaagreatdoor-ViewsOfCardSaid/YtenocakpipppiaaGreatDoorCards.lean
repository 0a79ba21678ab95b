/-
  DERIVED. GIVEN WITH THE SEED: THE CARDS: each row of YtenocakpipppiaaGreatDoorRows.lean that lists a variable, with what it lists TIED to the program's text (the seventh form; the later family's looks); each row that meets fmt, with fmt's text TOLD by the authors' own Lean function (tested against real Go, not proved from fmt's source: count such statements apart). THE CARD IS WHAT COUNTS. Prove the row's statement (the work); the ties are given (YtenocakpipppiaaGreatDoorTie.lean); close each card by the builder's one call (the guide's Derived/Test/ToyasCard.lean, 'card_holds'). Laid BY PROGRAM, IN A SANDBOX (cutbox-door.mjs). By AI agents, Wed Nov 11 2026. No macro, syntax, notation, axiom, sorry.
-/
import Derived.Test.YtenocakpipppiaaGreatDoorRows
import GoSem.ClaimSeven
namespace Go.Proofs.YtenocakpipppiaaGreatDoor
namespace Rows

/-- THE TIED CARD OF 'herbariumlaw17.ViewsOf'. -/
def viewsOfCard : Claim7 := { stood := { row := viewsOfRow, standIns := [], harness := (true, "3dce3275b1bd9840a4074e959a98863e8a254adae5f7d2d27ec61f3548de852c"), looks := false }, kinds := [], alts := [], laidByText := true, laidKinds := [.data, .data, .data], laidTests := true, laidLooks := .later }
def ViewsOfCardSaid : Prop := Claim7.holds Tryz.pinned (.plain (OpenSpec.ofChange viewsOfSpec)) viewsOfCard

/-- THE SECOND FORM's CARD OF 'herbariumlaw17.ViewsOf'. -/
def viewsOfUptoCard : Claim7 := { stood := { row := viewsOfUptoRow, standIns := [], harness := (true, "3dce3275b1bd9840a4074e959a98863e8a254adae5f7d2d27ec61f3548de852c"), looks := false }, kinds := [], alts := [], laidByText := true, laidKinds := [.data, .data, .data], laidTests := true, laidLooks := .later }
def ViewsOfUptoCardSaid : Prop := Claim7.holds Tryz.pinned (.plain (OpenSpec.upto viewsOfSpec)) viewsOfUptoCard
end Rows
end Go.Proofs.YtenocakpipppiaaGreatDoor
