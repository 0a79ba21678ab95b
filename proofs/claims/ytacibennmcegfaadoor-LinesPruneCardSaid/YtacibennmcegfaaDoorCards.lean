/-
  DERIVED. GIVEN WITH THE SEED: THE CARDS: each row of YtacibennmcegfaaDoorRows.lean that lists a variable, with what it lists TIED to the program's text (the seventh form; the later family's looks); each row that meets fmt, with fmt's text TOLD by the authors' own Lean function (tested against real Go, not proved from fmt's source: count such statements apart). THE CARD IS WHAT COUNTS. Prove the row's statement (the work); the ties are given (YtacibennmcegfaaDoorTie.lean); close each card by the builder's one call (the guide's Derived/Test/ToyasCard.lean, 'card_holds'). Laid BY PROGRAM, IN A SANDBOX (cutbox-door.mjs). By AI agents, Wed Nov 11 2026. No macro, syntax, notation, axiom, sorry.
-/
import Derived.Test.YtacibennmcegfaaDoorRows
import GoSem.ClaimSeven
namespace Go.Proofs.YtacibennmcegfaaDoor
namespace Rows

/-- THE TIED CARD OF 'herbariumlaw15.LinesChain'. -/
def linesChainCard : Claim7 := { stood := { row := linesChainRow, standIns := [], harness := (true, "c128d51ece45d283ee59a61f942ba57746b62864f1212ba2fe6fc111e8df7d5d"), looks := false }, kinds := [], alts := [], laidByText := true, laidKinds := [.data, .pinned], laidTests := true, laidLooks := .later }
def LinesChainCardSaid : Prop := Claim7.holds Tryd.pinned (.plain (OpenSpec.ofChange linesChainSpec)) linesChainCard

/-- THE TIED CARD OF 'herbariumlaw15.LinesAgain'. -/
def linesAgainCard : Claim7 := { stood := { row := linesAgainRow, standIns := [], harness := (true, "c128d51ece45d283ee59a61f942ba57746b62864f1212ba2fe6fc111e8df7d5d"), looks := false }, kinds := [], alts := [], laidByText := true, laidKinds := [.data, .pinned], laidTests := true, laidLooks := .later }
def LinesAgainCardSaid : Prop := Claim7.holds Tryd.pinned (.plain (OpenSpec.ofChange linesAgainSpec)) linesAgainCard

/-- THE TIED CARD OF 'herbariumlaw15.LinesFork'. -/
def linesForkCard : Claim7 := { stood := { row := linesForkRow, standIns := [], harness := (true, "c128d51ece45d283ee59a61f942ba57746b62864f1212ba2fe6fc111e8df7d5d"), looks := false }, kinds := [], alts := [], laidByText := true, laidKinds := [.data, .pinned], laidTests := true, laidLooks := .later }
def LinesForkCardSaid : Prop := Claim7.holds Tryd.pinned (.plain (OpenSpec.ofChange linesForkSpec)) linesForkCard

/-- THE TIED CARD OF 'herbariumlaw15.LinesPrune'. -/
def linesPruneCard : Claim7 := { stood := { row := linesPruneRow, standIns := [], harness := (true, "c128d51ece45d283ee59a61f942ba57746b62864f1212ba2fe6fc111e8df7d5d"), looks := false }, kinds := [], alts := [], laidByText := true, laidKinds := [.data, .pinned], laidTests := true, laidLooks := .later }
def LinesPruneCardSaid : Prop := Claim7.holds Tryd.pinned (.plain (OpenSpec.ofChange linesPruneSpec)) linesPruneCard

/-- THE TIED CARD OF 'herbariumlaw15.LinesNone'. -/
def linesNoneCard : Claim7 := { stood := { row := linesNoneRow, standIns := [], harness := (true, "c128d51ece45d283ee59a61f942ba57746b62864f1212ba2fe6fc111e8df7d5d"), looks := false }, kinds := [], alts := [], laidByText := true, laidKinds := [.data, .pinned], laidTests := true, laidLooks := .later }
def LinesNoneCardSaid : Prop := Claim7.holds Tryd.pinned (.plain (OpenSpec.ofChange linesNoneSpec)) linesNoneCard

/-- THE SECOND FORM's CARD OF 'herbariumlaw15.LinesChain'. -/
def linesChainUptoCard : Claim7 := { stood := { row := linesChainUptoRow, standIns := [], harness := (true, "c128d51ece45d283ee59a61f942ba57746b62864f1212ba2fe6fc111e8df7d5d"), looks := false }, kinds := [], alts := [], laidByText := true, laidKinds := [.data, .pinned], laidTests := true, laidLooks := .later }
def LinesChainUptoCardSaid : Prop := Claim7.holds Tryd.pinned (.plain (OpenSpec.upto linesChainSpec)) linesChainUptoCard

/-- THE SECOND FORM's CARD OF 'herbariumlaw15.LinesAgain'. -/
def linesAgainUptoCard : Claim7 := { stood := { row := linesAgainUptoRow, standIns := [], harness := (true, "c128d51ece45d283ee59a61f942ba57746b62864f1212ba2fe6fc111e8df7d5d"), looks := false }, kinds := [], alts := [], laidByText := true, laidKinds := [.data, .pinned], laidTests := true, laidLooks := .later }
def LinesAgainUptoCardSaid : Prop := Claim7.holds Tryd.pinned (.plain (OpenSpec.upto linesAgainSpec)) linesAgainUptoCard

/-- THE SECOND FORM's CARD OF 'herbariumlaw15.LinesFork'. -/
def linesForkUptoCard : Claim7 := { stood := { row := linesForkUptoRow, standIns := [], harness := (true, "c128d51ece45d283ee59a61f942ba57746b62864f1212ba2fe6fc111e8df7d5d"), looks := false }, kinds := [], alts := [], laidByText := true, laidKinds := [.data, .pinned], laidTests := true, laidLooks := .later }
def LinesForkUptoCardSaid : Prop := Claim7.holds Tryd.pinned (.plain (OpenSpec.upto linesForkSpec)) linesForkUptoCard

/-- THE SECOND FORM's CARD OF 'herbariumlaw15.LinesPrune'. -/
def linesPruneUptoCard : Claim7 := { stood := { row := linesPruneUptoRow, standIns := [], harness := (true, "c128d51ece45d283ee59a61f942ba57746b62864f1212ba2fe6fc111e8df7d5d"), looks := false }, kinds := [], alts := [], laidByText := true, laidKinds := [.data, .pinned], laidTests := true, laidLooks := .later }
def LinesPruneUptoCardSaid : Prop := Claim7.holds Tryd.pinned (.plain (OpenSpec.upto linesPruneSpec)) linesPruneUptoCard

/-- THE SECOND FORM's CARD OF 'herbariumlaw15.LinesNone'. -/
def linesNoneUptoCard : Claim7 := { stood := { row := linesNoneUptoRow, standIns := [], harness := (true, "c128d51ece45d283ee59a61f942ba57746b62864f1212ba2fe6fc111e8df7d5d"), looks := false }, kinds := [], alts := [], laidByText := true, laidKinds := [.data, .pinned], laidTests := true, laidLooks := .later }
def LinesNoneUptoCardSaid : Prop := Claim7.holds Tryd.pinned (.plain (OpenSpec.upto linesNoneSpec)) linesNoneUptoCard
end Rows
end Go.Proofs.YtacibennmcegfaaDoor
