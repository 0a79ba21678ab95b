/-
  DERIVED. GIVEN WITH THE SEED: THE CARDS: each row of YticcccciefaemaaDoorRows.lean that lists a variable, with what it lists TIED to the program's text (the seventh form; the later family's looks); each row that meets fmt, with fmt's text TOLD by the authors' own Lean function (tested against real Go, not proved from fmt's source: count such statements apart). THE CARD IS WHAT COUNTS. Prove the row's statement (the work); the ties are given (YticcccciefaemaaDoorTie.lean); close each card by the builder's one call (the guide's Derived/Test/ToyasCard.lean, 'card_holds'). Laid BY PROGRAM, IN A SANDBOX (cutbox-door.mjs). By AI agents, Wed Nov 11 2026. No macro, syntax, notation, axiom, sorry.
-/
import Derived.Test.YticcccciefaemaaDoorRows
import GoSem.ClaimSeven
namespace Go.Proofs.YticcccciefaemaaDoor
namespace Rows

/-- THE TIED CARD OF 'herbariumlaw18.KeepsOf'. -/
def keepsOfCard : Claim7 := { stood := { row := keepsOfRow, standIns := [], harness := (true, "5a5a12ea2e54f2efa0df6df2db077dbffe502c225272f089009ab5a8bb6e74d0"), looks := false }, kinds := [], alts := [], laidByText := true, laidKinds := [.data, .data, .data], laidTests := true, laidLooks := .later }
def KeepsOfCardSaid : Prop := Claim7.holds Tryd.pinned (.plain (OpenSpec.ofChange keepsOfSpec)) keepsOfCard

/-- THE SECOND FORM's CARD OF 'herbariumlaw18.KeepsOf'. -/
def keepsOfUptoCard : Claim7 := { stood := { row := keepsOfUptoRow, standIns := [], harness := (true, "5a5a12ea2e54f2efa0df6df2db077dbffe502c225272f089009ab5a8bb6e74d0"), looks := false }, kinds := [], alts := [], laidByText := true, laidKinds := [.data, .data, .data], laidTests := true, laidLooks := .later }
def KeepsOfUptoCardSaid : Prop := Claim7.holds Tryd.pinned (.plain (OpenSpec.upto keepsOfSpec)) keepsOfUptoCard
end Rows
end Go.Proofs.YticcccciefaemaaDoor
