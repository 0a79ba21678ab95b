/-
  DERIVED. GIVEN WITH THE SEED: THE CARDS: each row of YticcccciefaemaaGreatDoorRows.lean that lists a variable, with what it lists TIED to the program's text (the seventh form; the later family's looks); each row that meets fmt, with fmt's text TOLD by the authors' own Lean function (tested against real Go, not proved from fmt's source: count such statements apart). THE CARD IS WHAT COUNTS. Prove the row's statement (the work); the ties are given (YticcccciefaemaaGreatDoorTie.lean); close each card by the builder's one call (the guide's Derived/Test/ToyasCard.lean, 'card_holds'). Laid BY PROGRAM, IN A SANDBOX (cutbox-door.mjs). By AI agents, Wed Nov 11 2026. No macro, syntax, notation, axiom, sorry.
-/
import Derived.Test.YticcccciefaemaaGreatDoorRows
import GoSem.ClaimSeven
namespace Go.Proofs.YticcccciefaemaaGreatDoor
namespace Rows

/-- THE TIED CARD OF 'herbariumlaw18.KeepsWatches'. -/
def keepsWatchesCard : Claim7 := { stood := { row := keepsWatchesRow, standIns := [], harness := (true, "06d5eb9509b3d8d9f279fb866a1973fca13ccd3bc88ff418c10c26bc8396bb13"), looks := true }, kinds := [], alts := [], laidByText := true, laidKinds := [.data, .pinned], laidTests := true, laidLooks := .later }
def KeepsWatchesCardSaid : Prop := Claim7.holds Tryz.pinned (.plain (OpenSpec.ofChange keepsWatchesSpec)) keepsWatchesCard

/-- THE SECOND FORM's CARD OF 'herbariumlaw18.KeepsWatches'. -/
def keepsWatchesUptoCard : Claim7 := { stood := { row := keepsWatchesUptoRow, standIns := [], harness := (true, "06d5eb9509b3d8d9f279fb866a1973fca13ccd3bc88ff418c10c26bc8396bb13"), looks := true }, kinds := [], alts := [], laidByText := true, laidKinds := [.data, .pinned], laidTests := true, laidLooks := .later }
def KeepsWatchesUptoCardSaid : Prop := Claim7.holds Tryz.pinned (.plain (OpenSpec.upto keepsWatchesSpec)) keepsWatchesUptoCard
end Rows
end Go.Proofs.YticcccciefaemaaGreatDoor
