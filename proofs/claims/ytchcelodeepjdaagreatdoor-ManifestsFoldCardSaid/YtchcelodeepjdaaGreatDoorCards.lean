/-
  DERIVED. GIVEN WITH THE SEED: THE CARDS: each row of YtchcelodeepjdaaGreatDoorRows.lean that lists a variable, with what it lists TIED to the program's text (the seventh form; the later family's looks); each row that meets fmt, with fmt's text TOLD by the authors' own Lean function (tested against real Go, not proved from fmt's source: count such statements apart). THE CARD IS WHAT COUNTS. Prove the row's statement (the work); the ties are given (YtchcelodeepjdaaGreatDoorTie.lean); close each card by the builder's one call (the guide's Derived/Test/ToyasCard.lean, 'card_holds'). Laid BY PROGRAM, IN A SANDBOX (cutbox-door.mjs). By AI agents, Wed Nov 11 2026. No macro, syntax, notation, axiom, sorry.
-/
import Derived.Test.YtchcelodeepjdaaGreatDoorRows
import GoSem.ClaimSeven
namespace Go.Proofs.YtchcelodeepjdaaGreatDoor
namespace Rows

/-- THE TIED CARD OF 'herbariumlaw20.ManifestsFold'. -/
def manifestsFoldCard : Claim7 := { stood := { row := manifestsFoldRow, standIns := [], harness := (true, "95fc46678fb088ba6ab933a46db07f399003b5e2d0f3f98d893b356c3ac8f371"), looks := true }, kinds := [], alts := [], laidByText := true, laidKinds := [.data, .pinned], laidTests := true, laidLooks := .later }
def ManifestsFoldCardSaid : Prop := Claim7.holds Tryz.pinned (.plain (OpenSpec.ofChange manifestsFoldSpec)) manifestsFoldCard

/-- THE TIED CARD OF 'herbariumlaw20.ManifestsBack'. -/
def manifestsBackCard : Claim7 := { stood := { row := manifestsBackRow, standIns := [], harness := (true, "95fc46678fb088ba6ab933a46db07f399003b5e2d0f3f98d893b356c3ac8f371"), looks := true }, kinds := [], alts := [], laidByText := true, laidKinds := [.data, .pinned], laidTests := true, laidLooks := .later }
def ManifestsBackCardSaid : Prop := Claim7.holds Tryz.pinned (.plain (OpenSpec.ofChange manifestsBackSpec)) manifestsBackCard

/-- THE TIED CARD OF 'herbariumlaw20.ManifestsOnly'. -/
def manifestsOnlyCard : Claim7 := { stood := { row := manifestsOnlyRow, standIns := [], harness := (true, "95fc46678fb088ba6ab933a46db07f399003b5e2d0f3f98d893b356c3ac8f371"), looks := true }, kinds := [], alts := [], laidByText := true, laidKinds := [.data, .pinned], laidTests := true, laidLooks := .later }
def ManifestsOnlyCardSaid : Prop := Claim7.holds Tryz.pinned (.plain (OpenSpec.ofChange manifestsOnlySpec)) manifestsOnlyCard

/-- THE TIED CARD OF 'herbariumlaw20.ManifestsTurned'. -/
def manifestsTurnedCard : Claim7 := { stood := { row := manifestsTurnedRow, standIns := [], harness := (true, "95fc46678fb088ba6ab933a46db07f399003b5e2d0f3f98d893b356c3ac8f371"), looks := true }, kinds := [], alts := [], laidByText := true, laidKinds := [.data, .pinned], laidTests := true, laidLooks := .later }
def ManifestsTurnedCardSaid : Prop := Claim7.holds Tryz.pinned (.plain (OpenSpec.ofChange manifestsTurnedSpec)) manifestsTurnedCard

/-- THE TIED CARD OF 'herbariumlaw20.ManifestsForm'. -/
def manifestsFormCard : Claim7 := { stood := { row := manifestsFormRow, standIns := [], harness := (true, "95fc46678fb088ba6ab933a46db07f399003b5e2d0f3f98d893b356c3ac8f371"), looks := true }, kinds := [], alts := [], laidByText := true, laidKinds := [.data, .pinned], laidTests := true, laidLooks := .later }
def ManifestsFormCardSaid : Prop := Claim7.holds Tryz.pinned (.plain (OpenSpec.ofChange manifestsFormSpec)) manifestsFormCard

/-- THE TIED CARD OF 'herbariumlaw20.ManifestsPut'. -/
def manifestsPutCard : Claim7 := { stood := { row := manifestsPutRow, standIns := [], harness := (true, "95fc46678fb088ba6ab933a46db07f399003b5e2d0f3f98d893b356c3ac8f371"), looks := true }, kinds := [], alts := [], laidByText := true, laidKinds := [.data, .data, .data, .data, .pinned], laidTests := true, laidLooks := .later }
def ManifestsPutCardSaid : Prop := Claim7.holds Tryz.pinned (.plain (OpenSpec.ofChange manifestsPutSpec)) manifestsPutCard

/-- THE SECOND FORM's CARD OF 'herbariumlaw20.ManifestsFold'. -/
def manifestsFoldUptoCard : Claim7 := { stood := { row := manifestsFoldUptoRow, standIns := [], harness := (true, "95fc46678fb088ba6ab933a46db07f399003b5e2d0f3f98d893b356c3ac8f371"), looks := true }, kinds := [], alts := [], laidByText := true, laidKinds := [.data, .pinned], laidTests := true, laidLooks := .later }
def ManifestsFoldUptoCardSaid : Prop := Claim7.holds Tryz.pinned (.plain (OpenSpec.upto manifestsFoldSpec)) manifestsFoldUptoCard

/-- THE SECOND FORM's CARD OF 'herbariumlaw20.ManifestsBack'. -/
def manifestsBackUptoCard : Claim7 := { stood := { row := manifestsBackUptoRow, standIns := [], harness := (true, "95fc46678fb088ba6ab933a46db07f399003b5e2d0f3f98d893b356c3ac8f371"), looks := true }, kinds := [], alts := [], laidByText := true, laidKinds := [.data, .pinned], laidTests := true, laidLooks := .later }
def ManifestsBackUptoCardSaid : Prop := Claim7.holds Tryz.pinned (.plain (OpenSpec.upto manifestsBackSpec)) manifestsBackUptoCard

/-- THE SECOND FORM's CARD OF 'herbariumlaw20.ManifestsOnly'. -/
def manifestsOnlyUptoCard : Claim7 := { stood := { row := manifestsOnlyUptoRow, standIns := [], harness := (true, "95fc46678fb088ba6ab933a46db07f399003b5e2d0f3f98d893b356c3ac8f371"), looks := true }, kinds := [], alts := [], laidByText := true, laidKinds := [.data, .pinned], laidTests := true, laidLooks := .later }
def ManifestsOnlyUptoCardSaid : Prop := Claim7.holds Tryz.pinned (.plain (OpenSpec.upto manifestsOnlySpec)) manifestsOnlyUptoCard

/-- THE SECOND FORM's CARD OF 'herbariumlaw20.ManifestsTurned'. -/
def manifestsTurnedUptoCard : Claim7 := { stood := { row := manifestsTurnedUptoRow, standIns := [], harness := (true, "95fc46678fb088ba6ab933a46db07f399003b5e2d0f3f98d893b356c3ac8f371"), looks := true }, kinds := [], alts := [], laidByText := true, laidKinds := [.data, .pinned], laidTests := true, laidLooks := .later }
def ManifestsTurnedUptoCardSaid : Prop := Claim7.holds Tryz.pinned (.plain (OpenSpec.upto manifestsTurnedSpec)) manifestsTurnedUptoCard

/-- THE SECOND FORM's CARD OF 'herbariumlaw20.ManifestsForm'. -/
def manifestsFormUptoCard : Claim7 := { stood := { row := manifestsFormUptoRow, standIns := [], harness := (true, "95fc46678fb088ba6ab933a46db07f399003b5e2d0f3f98d893b356c3ac8f371"), looks := true }, kinds := [], alts := [], laidByText := true, laidKinds := [.data, .pinned], laidTests := true, laidLooks := .later }
def ManifestsFormUptoCardSaid : Prop := Claim7.holds Tryz.pinned (.plain (OpenSpec.upto manifestsFormSpec)) manifestsFormUptoCard

/-- THE SECOND FORM's CARD OF 'herbariumlaw20.ManifestsPut'. -/
def manifestsPutUptoCard : Claim7 := { stood := { row := manifestsPutUptoRow, standIns := [], harness := (true, "95fc46678fb088ba6ab933a46db07f399003b5e2d0f3f98d893b356c3ac8f371"), looks := true }, kinds := [], alts := [], laidByText := true, laidKinds := [.data, .data, .data, .data, .pinned], laidTests := true, laidLooks := .later }
def ManifestsPutUptoCardSaid : Prop := Claim7.holds Tryz.pinned (.plain (OpenSpec.upto manifestsPutSpec)) manifestsPutUptoCard
end Rows
end Go.Proofs.YtchcelodeepjdaaGreatDoor
