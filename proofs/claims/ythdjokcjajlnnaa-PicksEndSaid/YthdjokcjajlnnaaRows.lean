/-
  No cell of these rows narrows 'for every input' (looked for: loops, veiled, ifaces, maps, wideKeys, modest, calm, conditions, laid).
  DERIVED. THE GIVEN ROWS OF THIS SEAT. 3 by the template 'for every input the law returns true; each argument reads behind the call as it read before'; 0 by the template 'total and deterministic' (their statements: YthdjokcjajlnnaaTotals.lean).
  GIVEN WITH THE SEED: the statements are not yours to turn. If you find one false, say at which input.
  Laid BY PROGRAM, IN A SANDBOX (cutbox-rows.mjs): the forced cells as the released guide's own fill.sh prints them over the translation 1c7354e45b45f698… (all of the seat's roots in one cut). By AI agents, Wed Nov 11 2026. No macro, syntax, notation, axiom, sorry.
-/
import Derived.Test.YthdjokcjajlnnaaChecked
import GoSem.Claim
import GoSem.ClaimJoined
import GoSem.ClaimMapViews
import Derived.JoinedTies
import Derived.KernelRfl
namespace Go.Proofs.Ythdjokcjajlnnaa
/- THE CELL 'sum', in the pinned program and in every row, IS THE sha256 OF THE DUMP (.gsa) THAT YthdjokcjajlnnaaProg.lean LOADS. Nothing in Lean hashes anything: it is a label: what it is worth is what the hold of that sum in a sandbox is worth. -/
noncomputable def Try.pinned : Pinned := { name := "ythdjokcjajlnnaa", sum := "1c7354e45b45f698602dddaedc2b25068b9b20b08a3f313751890f06c48abcde", checked := Try.checked }
namespace Rows
def none {H : Type} : Left H := { results := [], args := [] }

/-- 'herbariumlaw22.PicksOf': WHATEVER THE INPUT: true; the input reads as it did. -/
def picksOfSpec : ChangeSpec := { name := "picksOf", fn := fun _ => fun
  | [d] => { results := [.lit (.bool true)], args := [d] }
  | _ => none }
def picksOfRow : OpenClaim := { program := "ythdjokcjajlnnaa", sum := "1c7354e45b45f698602dddaedc2b25068b9b20b08a3f313751890f06c48abcde", func := "herbarium/herbariumlaw22.PicksOf", spec := "picksOf", inPlace := ["internal/bytealg.abigen_runtime_cmpstring", "slices.overlaps[herbarium/api.Table]"], unfollowed := true, recurses := true, apart := false }
def PicksOfSaid : Prop := picksOfRow.holds Try.pinned (OpenSpec.ofChange picksOfSpec)

/-- ITS FALSE NEIGHBOUR: 'it returns false'. Refute it at one input. -/
def picksOfWrong : ChangeSpec := { name := "picksOf", fn := fun _ => fun
  | [d] => { results := [.lit (.bool false)], args := [d] }
  | _ => none }
def PicksOfWrongFalsely : Prop := picksOfRow.holds Try.pinned (OpenSpec.ofChange picksOfWrong)

/-- 'herbariumlaw22.PicksHeld': WHATEVER THE INPUT: true; the input reads as it did. -/
def picksHeldSpec : ChangeSpec := { name := "picksHeld", fn := fun _ => fun
  | [d] => { results := [.lit (.bool true)], args := [d] }
  | _ => none }
def picksHeldRow : OpenClaim := { program := "ythdjokcjajlnnaa", sum := "1c7354e45b45f698602dddaedc2b25068b9b20b08a3f313751890f06c48abcde", func := "herbarium/herbariumlaw22.PicksHeld", spec := "picksHeld", inPlace := ["internal/bytealg.abigen_runtime_cmpstring", "slices.overlaps[herbarium/api.Table]"], unfollowed := true, recurses := true, apart := false }
def PicksHeldSaid : Prop := picksHeldRow.holds Try.pinned (OpenSpec.ofChange picksHeldSpec)

/-- ITS FALSE NEIGHBOUR: 'it returns false'. Refute it at one input. -/
def picksHeldWrong : ChangeSpec := { name := "picksHeld", fn := fun _ => fun
  | [d] => { results := [.lit (.bool false)], args := [d] }
  | _ => none }
def PicksHeldWrongFalsely : Prop := picksHeldRow.holds Try.pinned (OpenSpec.ofChange picksHeldWrong)

/-- 'herbariumlaw22.PicksEnd': WHATEVER THE INPUT: true; the input reads as it did. -/
def picksEndSpec : ChangeSpec := { name := "picksEnd", fn := fun _ => fun
  | [d1, d2] => { results := [.lit (.bool true)], args := [d1, d2] }
  | _ => none }
def picksEndRow : OpenClaim := { program := "ythdjokcjajlnnaa", sum := "1c7354e45b45f698602dddaedc2b25068b9b20b08a3f313751890f06c48abcde", func := "herbarium/herbariumlaw22.PicksEnd", spec := "picksEnd", inPlace := ["internal/bytealg.abigen_runtime_cmpstring", "slices.overlaps[herbarium/api.Table]"], unfollowed := true, recurses := true, apart := false }
def PicksEndSaid : Prop := picksEndRow.holds Try.pinned (OpenSpec.ofChange picksEndSpec)

/-- ITS FALSE NEIGHBOUR: 'it returns false'. Refute it at one input. -/
def picksEndWrong : ChangeSpec := { name := "picksEnd", fn := fun _ => fun
  | [d1, d2] => { results := [.lit (.bool false)], args := [d1, d2] }
  | _ => none }
def PicksEndWrongFalsely : Prop := picksEndRow.holds Try.pinned (OpenSpec.ofChange picksEndWrong)

/- THE SECOND FORM. 'bulk': how many values and letters a reading holds, each counted each time it is reached (what is shared counts as often as it is met; a slice's spare places count too). A statement '..UptoSaid' is the law's where the arguments, and the package variables that the reading takes, are together of bulk at most 1048576: NARROWER than '..Said'. Prove '..Said' where nothing that the law and all that it calls make is longer than what came in: it says more and counts as full. Else prove '..UptoSaid'. A law counts once. -/
mutual
def uptoBulk {H : Type} : DataW H → Nat
  | .lit (.string bytes) => bytes.length + 1
  | .lit _ => 1
  | .nil => 1
  | .ptr d => uptoBulk d + 1
  | .slice elems spare => uptoBulkAll elems + uptoBulkAll spare + 1
  | .agg parts => uptoBulkAll parts + 1
  | .iface _ d => uptoBulk d + 1
  | .map entries => uptoBulkEntries entries + 1
  | .held _ => 1
def uptoBulkAll {H : Type} : List (DataW H) → Nat
  | [] => 0
  | d :: r => uptoBulk d + uptoBulkAll r
def uptoBulkEntries {H : Type} : List (Lit × DataW H) → Nat
  | [] => 0
  | x :: r => uptoBulkEntry x + uptoBulkEntries r
def uptoBulkEntry {H : Type} : Lit × DataW H → Nat
  | (.string bytes, d) => bytes.length + uptoBulk d + 1
  | (_, d) => uptoBulk d + 1
 end
def uptoSmall : (H : Type) → List (DataW H) → Bool := fun _ ds => decide (uptoBulkAll ds ≤ 1048576)
def OpenSpec.upto (s : _root_.Go.ChangeSpec) : _root_.Go.OpenSpec := { _root_.Go.OpenSpec.ofChange s with cond := some uptoSmall }

/-- 'herbariumlaw22.PicksOf', WHERE WHAT IT READS IS OF BULK AT MOST 1048576: true; the input reads as it did. -/
def picksOfUptoRow : OpenClaim := { program := "ythdjokcjajlnnaa", sum := "1c7354e45b45f698602dddaedc2b25068b9b20b08a3f313751890f06c48abcde", func := "herbarium/herbariumlaw22.PicksOf", spec := "picksOf", inPlace := ["internal/bytealg.abigen_runtime_cmpstring", "slices.overlaps[herbarium/api.Table]"], unfollowed := true, recurses := true, apart := false, narrowed := true }
def PicksOfUptoSaid : Prop := picksOfUptoRow.holds Try.pinned (OpenSpec.upto picksOfSpec)

/-- 'herbariumlaw22.PicksHeld', WHERE WHAT IT READS IS OF BULK AT MOST 1048576: true; the input reads as it did. -/
def picksHeldUptoRow : OpenClaim := { program := "ythdjokcjajlnnaa", sum := "1c7354e45b45f698602dddaedc2b25068b9b20b08a3f313751890f06c48abcde", func := "herbarium/herbariumlaw22.PicksHeld", spec := "picksHeld", inPlace := ["internal/bytealg.abigen_runtime_cmpstring", "slices.overlaps[herbarium/api.Table]"], unfollowed := true, recurses := true, apart := false, narrowed := true }
def PicksHeldUptoSaid : Prop := picksHeldUptoRow.holds Try.pinned (OpenSpec.upto picksHeldSpec)

/-- 'herbariumlaw22.PicksEnd', WHERE WHAT IT READS IS OF BULK AT MOST 1048576: true; the input reads as it did. -/
def picksEndUptoRow : OpenClaim := { program := "ythdjokcjajlnnaa", sum := "1c7354e45b45f698602dddaedc2b25068b9b20b08a3f313751890f06c48abcde", func := "herbarium/herbariumlaw22.PicksEnd", spec := "picksEnd", inPlace := ["internal/bytealg.abigen_runtime_cmpstring", "slices.overlaps[herbarium/api.Table]"], unfollowed := true, recurses := true, apart := false, narrowed := true }
def PicksEndUptoSaid : Prop := picksEndUptoRow.holds Try.pinned (OpenSpec.upto picksEndSpec)

end Rows
end Go.Proofs.Ythdjokcjajlnnaa
