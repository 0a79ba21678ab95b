/-
  No cell of these rows narrows 'for every input' (looked for: loops, veiled, ifaces, maps, wideKeys, modest, calm, conditions, laid).
  DERIVED. THE GIVEN ROWS OF THIS SEAT. 6 by the template 'for every input the law returns true; each argument reads behind the call as it read before'; 0 by the template 'total and deterministic' (their statements: YtnnpheklgdbohaaTotals.lean).
  GIVEN WITH THE SEED: the statements are not yours to turn. If you find one false, say at which input.
  Laid BY PROGRAM, IN A SANDBOX (cutbox-rows.mjs): the forced cells as the released guide's own fill.sh prints them over the translation 6ac3aa469447d469… (all of the seat's roots in one cut). By AI agents, Wed Nov 11 2026. No macro, syntax, notation, axiom, sorry.
-/
import Derived.Test.YtnnpheklgdbohaaChecked
import GoSem.Claim
import GoSem.ClaimJoined
import GoSem.ClaimMapViews
import Derived.JoinedTies
import Derived.KernelRfl
namespace Go.Proofs.Ytnnpheklgdbohaa
/- THE CELL 'sum', in the pinned program and in every row, IS THE sha256 OF THE DUMP (.gsa) THAT YtnnpheklgdbohaaProg.lean LOADS. Nothing in Lean hashes anything: it is a label: what it is worth is what the hold of that sum in a sandbox is worth. -/
noncomputable def Try.pinned : Pinned := { name := "ytnnpheklgdbohaa", sum := "6ac3aa469447d469df5bc71852f3d8953562453b0c64f2fd134781d00564a4d3", checked := Try.checked }
namespace Rows
def none {H : Type} : Left H := { results := [], args := [] }

/-- 'herbariumlaw16.VectorsTurned': WHATEVER THE INPUT: true; the input reads as it did. -/
def vectorsTurnedSpec : ChangeSpec := { name := "vectorsTurned", fn := fun _ => fun
  | [d1, d2] => { results := [.lit (.bool true)], args := [d1, d2] }
  | _ => none }
def vectorsTurnedRow : OpenClaim := { program := "ytnnpheklgdbohaa", sum := "6ac3aa469447d469df5bc71852f3d8953562453b0c64f2fd134781d00564a4d3", func := "herbarium/herbariumlaw16.VectorsTurned", spec := "vectorsTurned", inPlace := ["maps.clone"], unfollowed := true, recurses := true, apart := false }
def VectorsTurnedSaid : Prop := vectorsTurnedRow.holds Try.pinned (OpenSpec.ofChange vectorsTurnedSpec)

/-- ITS FALSE NEIGHBOUR: 'it returns false'. Refute it at one input. -/
def vectorsTurnedWrong : ChangeSpec := { name := "vectorsTurned", fn := fun _ => fun
  | [d1, d2] => { results := [.lit (.bool false)], args := [d1, d2] }
  | _ => none }
def VectorsTurnedWrongFalsely : Prop := vectorsTurnedRow.holds Try.pinned (OpenSpec.ofChange vectorsTurnedWrong)

/-- 'herbariumlaw16.VectorsRise': WHATEVER THE INPUT: true; the input reads as it did. -/
def vectorsRiseSpec : ChangeSpec := { name := "vectorsRise", fn := fun _ => fun
  | [d1, d2, d3] => { results := [.lit (.bool true)], args := [d1, d2, d3] }
  | _ => none }
def vectorsRiseRow : OpenClaim := { program := "ytnnpheklgdbohaa", sum := "6ac3aa469447d469df5bc71852f3d8953562453b0c64f2fd134781d00564a4d3", func := "herbarium/herbariumlaw16.VectorsRise", spec := "vectorsRise", inPlace := ["maps.clone"], unfollowed := true, recurses := true, apart := false }
def VectorsRiseSaid : Prop := vectorsRiseRow.holds Try.pinned (OpenSpec.ofChange vectorsRiseSpec)

/-- ITS FALSE NEIGHBOUR: 'it returns false'. Refute it at one input. -/
def vectorsRiseWrong : ChangeSpec := { name := "vectorsRise", fn := fun _ => fun
  | [d1, d2, d3] => { results := [.lit (.bool false)], args := [d1, d2, d3] }
  | _ => none }
def VectorsRiseWrongFalsely : Prop := vectorsRiseRow.holds Try.pinned (OpenSpec.ofChange vectorsRiseWrong)

/-- 'herbariumlaw16.VectorsMerged': WHATEVER THE INPUT: true; the input reads as it did. -/
def vectorsMergedSpec : ChangeSpec := { name := "vectorsMerged", fn := fun _ => fun
  | [d1, d2, d3] => { results := [.lit (.bool true)], args := [d1, d2, d3] }
  | _ => none }
def vectorsMergedRow : OpenClaim := { program := "ytnnpheklgdbohaa", sum := "6ac3aa469447d469df5bc71852f3d8953562453b0c64f2fd134781d00564a4d3", func := "herbarium/herbariumlaw16.VectorsMerged", spec := "vectorsMerged", inPlace := ["maps.clone"], unfollowed := true, recurses := true, apart := false }
def VectorsMergedSaid : Prop := vectorsMergedRow.holds Try.pinned (OpenSpec.ofChange vectorsMergedSpec)

/-- ITS FALSE NEIGHBOUR: 'it returns false'. Refute it at one input. -/
def vectorsMergedWrong : ChangeSpec := { name := "vectorsMerged", fn := fun _ => fun
  | [d1, d2, d3] => { results := [.lit (.bool false)], args := [d1, d2, d3] }
  | _ => none }
def VectorsMergedWrongFalsely : Prop := vectorsMergedRow.holds Try.pinned (OpenSpec.ofChange vectorsMergedWrong)

/-- 'herbariumlaw16.VectorsPlay': WHATEVER THE INPUT: true; the input reads as it did. -/
def vectorsPlaySpec : ChangeSpec := { name := "vectorsPlay", fn := fun _ => fun
  | [d1, d2] => { results := [.lit (.bool true)], args := [d1, d2] }
  | _ => none }
def vectorsPlayRow : OpenClaim := { program := "ytnnpheklgdbohaa", sum := "6ac3aa469447d469df5bc71852f3d8953562453b0c64f2fd134781d00564a4d3", func := "herbarium/herbariumlaw16.VectorsPlay", spec := "vectorsPlay", inPlace := ["maps.clone"], unfollowed := true, recurses := true, apart := false }
def VectorsPlaySaid : Prop := vectorsPlayRow.holds Try.pinned (OpenSpec.ofChange vectorsPlaySpec)

/-- ITS FALSE NEIGHBOUR: 'it returns false'. Refute it at one input. -/
def vectorsPlayWrong : ChangeSpec := { name := "vectorsPlay", fn := fun _ => fun
  | [d1, d2] => { results := [.lit (.bool false)], args := [d1, d2] }
  | _ => none }
def VectorsPlayWrongFalsely : Prop := vectorsPlayRow.holds Try.pinned (OpenSpec.ofChange vectorsPlayWrong)

/-- 'herbariumlaw16.VectorsNone': WHATEVER THE INPUT: true; the input reads as it did. -/
def vectorsNoneSpec : ChangeSpec := { name := "vectorsNone", fn := fun _ => fun
  | [d] => { results := [.lit (.bool true)], args := [d] }
  | _ => none }
def vectorsNoneRow : OpenClaim := { program := "ytnnpheklgdbohaa", sum := "6ac3aa469447d469df5bc71852f3d8953562453b0c64f2fd134781d00564a4d3", func := "herbarium/herbariumlaw16.VectorsNone", spec := "vectorsNone", inPlace := ["maps.clone"], unfollowed := true, recurses := true, apart := false }
def VectorsNoneSaid : Prop := vectorsNoneRow.holds Try.pinned (OpenSpec.ofChange vectorsNoneSpec)

/-- ITS FALSE NEIGHBOUR: 'it returns false'. Refute it at one input. -/
def vectorsNoneWrong : ChangeSpec := { name := "vectorsNone", fn := fun _ => fun
  | [d] => { results := [.lit (.bool false)], args := [d] }
  | _ => none }
def VectorsNoneWrongFalsely : Prop := vectorsNoneRow.holds Try.pinned (OpenSpec.ofChange vectorsNoneWrong)

/-- 'herbariumlaw16.VectorsAgain': WHATEVER THE INPUT: true; the input reads as it did. -/
def vectorsAgainSpec : ChangeSpec := { name := "vectorsAgain", fn := fun _ => fun
  | [d1, d2] => { results := [.lit (.bool true)], args := [d1, d2] }
  | _ => none }
def vectorsAgainRow : OpenClaim := { program := "ytnnpheklgdbohaa", sum := "6ac3aa469447d469df5bc71852f3d8953562453b0c64f2fd134781d00564a4d3", func := "herbarium/herbariumlaw16.VectorsAgain", spec := "vectorsAgain", inPlace := ["maps.clone"], unfollowed := true, recurses := true, apart := false }
def VectorsAgainSaid : Prop := vectorsAgainRow.holds Try.pinned (OpenSpec.ofChange vectorsAgainSpec)

/-- ITS FALSE NEIGHBOUR: 'it returns false'. Refute it at one input. -/
def vectorsAgainWrong : ChangeSpec := { name := "vectorsAgain", fn := fun _ => fun
  | [d1, d2] => { results := [.lit (.bool false)], args := [d1, d2] }
  | _ => none }
def VectorsAgainWrongFalsely : Prop := vectorsAgainRow.holds Try.pinned (OpenSpec.ofChange vectorsAgainWrong)

/- THE SECOND FORM. 'bulk': how many values and letters a reading holds, each counted each time it is reached (what is shared counts as often as it is met; a slice's spare places count too). A statement '..UptoSaid' is the law's where the arguments, and the package variables that the reading takes, are together of bulk at most 1048576: NARROWER than '..Said'. Prove '..Said' where nothing that the law and all that it calls make is longer than what came in: it says more and counts as full. Else prove '..UptoSaid'. A law counts once. -/
mutual
def uptoBulk {H : Type} : DataW H → Nat
  | .lit (.string bytes) => bytes.length + 1
  | .lit _ => 1
  | .nil => 1
  | .ptr d => uptoBulk d + 1
  | .slice elems spare => uptoBulkAll elems + uptoBulkAll spare + 1
  | .agg parts => uptoBulkAll parts + 1
  | .iface _ d => uptoBulk d + 1
  | .map entries => uptoBulkEntries entries + 1
  | .held _ => 1
def uptoBulkAll {H : Type} : List (DataW H) → Nat
  | [] => 0
  | d :: r => uptoBulk d + uptoBulkAll r
def uptoBulkEntries {H : Type} : List (Lit × DataW H) → Nat
  | [] => 0
  | x :: r => uptoBulkEntry x + uptoBulkEntries r
def uptoBulkEntry {H : Type} : Lit × DataW H → Nat
  | (.string bytes, d) => bytes.length + uptoBulk d + 1
  | (_, d) => uptoBulk d + 1
 end
def uptoSmall : (H : Type) → List (DataW H) → Bool := fun _ ds => decide (uptoBulkAll ds ≤ 1048576)
def OpenSpec.upto (s : _root_.Go.ChangeSpec) : _root_.Go.OpenSpec := { _root_.Go.OpenSpec.ofChange s with cond := some uptoSmall }

/-- 'herbariumlaw16.VectorsTurned', WHERE WHAT IT READS IS OF BULK AT MOST 1048576: true; the input reads as it did. -/
def vectorsTurnedUptoRow : OpenClaim := { program := "ytnnpheklgdbohaa", sum := "6ac3aa469447d469df5bc71852f3d8953562453b0c64f2fd134781d00564a4d3", func := "herbarium/herbariumlaw16.VectorsTurned", spec := "vectorsTurned", inPlace := ["maps.clone"], unfollowed := true, recurses := true, apart := false, narrowed := true }
def VectorsTurnedUptoSaid : Prop := vectorsTurnedUptoRow.holds Try.pinned (OpenSpec.upto vectorsTurnedSpec)

/-- 'herbariumlaw16.VectorsRise', WHERE WHAT IT READS IS OF BULK AT MOST 1048576: true; the input reads as it did. -/
def vectorsRiseUptoRow : OpenClaim := { program := "ytnnpheklgdbohaa", sum := "6ac3aa469447d469df5bc71852f3d8953562453b0c64f2fd134781d00564a4d3", func := "herbarium/herbariumlaw16.VectorsRise", spec := "vectorsRise", inPlace := ["maps.clone"], unfollowed := true, recurses := true, apart := false, narrowed := true }
def VectorsRiseUptoSaid : Prop := vectorsRiseUptoRow.holds Try.pinned (OpenSpec.upto vectorsRiseSpec)

/-- 'herbariumlaw16.VectorsMerged', WHERE WHAT IT READS IS OF BULK AT MOST 1048576: true; the input reads as it did. -/
def vectorsMergedUptoRow : OpenClaim := { program := "ytnnpheklgdbohaa", sum := "6ac3aa469447d469df5bc71852f3d8953562453b0c64f2fd134781d00564a4d3", func := "herbarium/herbariumlaw16.VectorsMerged", spec := "vectorsMerged", inPlace := ["maps.clone"], unfollowed := true, recurses := true, apart := false, narrowed := true }
def VectorsMergedUptoSaid : Prop := vectorsMergedUptoRow.holds Try.pinned (OpenSpec.upto vectorsMergedSpec)

/-- 'herbariumlaw16.VectorsPlay', WHERE WHAT IT READS IS OF BULK AT MOST 1048576: true; the input reads as it did. -/
def vectorsPlayUptoRow : OpenClaim := { program := "ytnnpheklgdbohaa", sum := "6ac3aa469447d469df5bc71852f3d8953562453b0c64f2fd134781d00564a4d3", func := "herbarium/herbariumlaw16.VectorsPlay", spec := "vectorsPlay", inPlace := ["maps.clone"], unfollowed := true, recurses := true, apart := false, narrowed := true }
def VectorsPlayUptoSaid : Prop := vectorsPlayUptoRow.holds Try.pinned (OpenSpec.upto vectorsPlaySpec)

/-- 'herbariumlaw16.VectorsNone', WHERE WHAT IT READS IS OF BULK AT MOST 1048576: true; the input reads as it did. -/
def vectorsNoneUptoRow : OpenClaim := { program := "ytnnpheklgdbohaa", sum := "6ac3aa469447d469df5bc71852f3d8953562453b0c64f2fd134781d00564a4d3", func := "herbarium/herbariumlaw16.VectorsNone", spec := "vectorsNone", inPlace := ["maps.clone"], unfollowed := true, recurses := true, apart := false, narrowed := true }
def VectorsNoneUptoSaid : Prop := vectorsNoneUptoRow.holds Try.pinned (OpenSpec.upto vectorsNoneSpec)

/-- 'herbariumlaw16.VectorsAgain', WHERE WHAT IT READS IS OF BULK AT MOST 1048576: true; the input reads as it did. -/
def vectorsAgainUptoRow : OpenClaim := { program := "ytnnpheklgdbohaa", sum := "6ac3aa469447d469df5bc71852f3d8953562453b0c64f2fd134781d00564a4d3", func := "herbarium/herbariumlaw16.VectorsAgain", spec := "vectorsAgain", inPlace := ["maps.clone"], unfollowed := true, recurses := true, apart := false, narrowed := true }
def VectorsAgainUptoSaid : Prop := vectorsAgainUptoRow.holds Try.pinned (OpenSpec.upto vectorsAgainSpec)

end Rows
end Go.Proofs.Ytnnpheklgdbohaa
