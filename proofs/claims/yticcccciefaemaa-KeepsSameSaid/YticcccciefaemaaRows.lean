/-
  No cell of these rows narrows 'for every input' (looked for: loops, veiled, ifaces, maps, wideKeys, modest, calm, conditions, laid).
  DERIVED. THE GIVEN ROWS OF THIS SEAT. 3 by the template 'for every input the law returns true; each argument reads behind the call as it read before'; 0 by the template 'total and deterministic' (their statements: YticcccciefaemaaTotals.lean).
  GIVEN WITH THE SEED: the statements are not yours to turn. If you find one false, say at which input.
  Laid BY PROGRAM, IN A SANDBOX (cutbox-rows.mjs): the forced cells as the released guide's own fill.sh prints them over the translation 8fde4216c6d6e02f… (all of the seat's roots in one cut). By AI agents, Wed Nov 11 2026. No macro, syntax, notation, axiom, sorry.
-/
import Derived.Test.YticcccciefaemaaChecked
import GoSem.Claim
import GoSem.ClaimJoined
import GoSem.ClaimMapViews
import Derived.JoinedTies
import Derived.KernelRfl
namespace Go.Proofs.Yticcccciefaemaa
/- THE CELL 'sum', in the pinned program and in every row, IS THE sha256 OF THE DUMP (.gsa) THAT YticcccciefaemaaProg.lean LOADS. Nothing in Lean hashes anything: it is a label: what it is worth is what the hold of that sum in a sandbox is worth. -/
noncomputable def Try.pinned : Pinned := { name := "yticcccciefaemaa", sum := "8fde4216c6d6e02f4cc5337410feceefe8a099b801825baa2af4e93220c657d4", checked := Try.checked }
namespace Rows
def none {H : Type} : Left H := { results := [], args := [] }

/-- 'herbariumlaw18.KeepsMore': WHATEVER THE INPUT: true; the input reads as it did. -/
def keepsMoreSpec : ChangeSpec := { name := "keepsMore", fn := fun _ => fun
  | [d1, d2, d3] => { results := [.lit (.bool true)], args := [d1, d2, d3] }
  | _ => none }
def keepsMoreRow : OpenClaim := { program := "yticcccciefaemaa", sum := "8fde4216c6d6e02f4cc5337410feceefe8a099b801825baa2af4e93220c657d4", func := "herbarium/herbariumlaw18.KeepsMore", spec := "keepsMore", unfollowed := true, recurses := true, plainKeys := false, apart := false }
def KeepsMoreSaid : Prop := keepsMoreRow.holds Try.pinned (OpenSpec.ofChange keepsMoreSpec)

/-- ITS FALSE NEIGHBOUR: 'it returns false'. Refute it at one input. -/
def keepsMoreWrong : ChangeSpec := { name := "keepsMore", fn := fun _ => fun
  | [d1, d2, d3] => { results := [.lit (.bool false)], args := [d1, d2, d3] }
  | _ => none }
def KeepsMoreWrongFalsely : Prop := keepsMoreRow.holds Try.pinned (OpenSpec.ofChange keepsMoreWrong)

/-- 'herbariumlaw18.KeepsSame': WHATEVER THE INPUT: true; the input reads as it did. -/
def keepsSameSpec : ChangeSpec := { name := "keepsSame", fn := fun _ => fun
  | [d1, d2] => { results := [.lit (.bool true)], args := [d1, d2] }
  | _ => none }
def keepsSameRow : OpenClaim := { program := "yticcccciefaemaa", sum := "8fde4216c6d6e02f4cc5337410feceefe8a099b801825baa2af4e93220c657d4", func := "herbarium/herbariumlaw18.KeepsSame", spec := "keepsSame", unfollowed := true, recurses := true, plainKeys := false, apart := false }
def KeepsSameSaid : Prop := keepsSameRow.holds Try.pinned (OpenSpec.ofChange keepsSameSpec)

/-- ITS FALSE NEIGHBOUR: 'it returns false'. Refute it at one input. -/
def keepsSameWrong : ChangeSpec := { name := "keepsSame", fn := fun _ => fun
  | [d1, d2] => { results := [.lit (.bool false)], args := [d1, d2] }
  | _ => none }
def KeepsSameWrongFalsely : Prop := keepsSameRow.holds Try.pinned (OpenSpec.ofChange keepsSameWrong)

/-- 'herbariumlaw18.KeepsNeeded': WHATEVER THE INPUT: true; the input reads as it did. -/
def keepsNeededSpec : ChangeSpec := { name := "keepsNeeded", fn := fun _ => fun
  | [d1, d2] => { results := [.lit (.bool true)], args := [d1, d2] }
  | _ => none }
def keepsNeededRow : OpenClaim := { program := "yticcccciefaemaa", sum := "8fde4216c6d6e02f4cc5337410feceefe8a099b801825baa2af4e93220c657d4", func := "herbarium/herbariumlaw18.KeepsNeeded", spec := "keepsNeeded", unfollowed := true, recurses := true, plainKeys := false, apart := false }
def KeepsNeededSaid : Prop := keepsNeededRow.holds Try.pinned (OpenSpec.ofChange keepsNeededSpec)

/-- ITS FALSE NEIGHBOUR: 'it returns false'. Refute it at one input. -/
def keepsNeededWrong : ChangeSpec := { name := "keepsNeeded", fn := fun _ => fun
  | [d1, d2] => { results := [.lit (.bool false)], args := [d1, d2] }
  | _ => none }
def KeepsNeededWrongFalsely : Prop := keepsNeededRow.holds Try.pinned (OpenSpec.ofChange keepsNeededWrong)

/- THE SECOND FORM. 'bulk': how many values and letters a reading holds, each counted each time it is reached (what is shared counts as often as it is met; a slice's spare places count too). A statement '..UptoSaid' is the law's where the arguments, and the package variables that the reading takes, are together of bulk at most 1048576: NARROWER than '..Said'. Prove '..Said' where nothing that the law and all that it calls make is longer than what came in: it says more and counts as full. Else prove '..UptoSaid'. A law counts once. -/
mutual
def uptoBulk {H : Type} : DataW H → Nat
  | .lit (.string bytes) => bytes.length + 1
  | .lit _ => 1
  | .nil => 1
  | .ptr d => uptoBulk d + 1
  | .slice elems spare => uptoBulkAll elems + uptoBulkAll spare + 1
  | .agg parts => uptoBulkAll parts + 1
  | .iface _ d => uptoBulk d + 1
  | .map entries => uptoBulkEntries entries + 1
  | .held _ => 1
def uptoBulkAll {H : Type} : List (DataW H) → Nat
  | [] => 0
  | d :: r => uptoBulk d + uptoBulkAll r
def uptoBulkEntries {H : Type} : List (Lit × DataW H) → Nat
  | [] => 0
  | x :: r => uptoBulkEntry x + uptoBulkEntries r
def uptoBulkEntry {H : Type} : Lit × DataW H → Nat
  | (.string bytes, d) => bytes.length + uptoBulk d + 1
  | (_, d) => uptoBulk d + 1
 end
def uptoSmall : (H : Type) → List (DataW H) → Bool := fun _ ds => decide (uptoBulkAll ds ≤ 1048576)
def OpenSpec.upto (s : _root_.Go.ChangeSpec) : _root_.Go.OpenSpec := { _root_.Go.OpenSpec.ofChange s with cond := some uptoSmall }

/-- 'herbariumlaw18.KeepsMore', WHERE WHAT IT READS IS OF BULK AT MOST 1048576: true; the input reads as it did. -/
def keepsMoreUptoRow : OpenClaim := { program := "yticcccciefaemaa", sum := "8fde4216c6d6e02f4cc5337410feceefe8a099b801825baa2af4e93220c657d4", func := "herbarium/herbariumlaw18.KeepsMore", spec := "keepsMore", unfollowed := true, recurses := true, plainKeys := false, apart := false, narrowed := true }
def KeepsMoreUptoSaid : Prop := keepsMoreUptoRow.holds Try.pinned (OpenSpec.upto keepsMoreSpec)

/-- 'herbariumlaw18.KeepsSame', WHERE WHAT IT READS IS OF BULK AT MOST 1048576: true; the input reads as it did. -/
def keepsSameUptoRow : OpenClaim := { program := "yticcccciefaemaa", sum := "8fde4216c6d6e02f4cc5337410feceefe8a099b801825baa2af4e93220c657d4", func := "herbarium/herbariumlaw18.KeepsSame", spec := "keepsSame", unfollowed := true, recurses := true, plainKeys := false, apart := false, narrowed := true }
def KeepsSameUptoSaid : Prop := keepsSameUptoRow.holds Try.pinned (OpenSpec.upto keepsSameSpec)

/-- 'herbariumlaw18.KeepsNeeded', WHERE WHAT IT READS IS OF BULK AT MOST 1048576: true; the input reads as it did. -/
def keepsNeededUptoRow : OpenClaim := { program := "yticcccciefaemaa", sum := "8fde4216c6d6e02f4cc5337410feceefe8a099b801825baa2af4e93220c657d4", func := "herbarium/herbariumlaw18.KeepsNeeded", spec := "keepsNeeded", unfollowed := true, recurses := true, plainKeys := false, apart := false, narrowed := true }
def KeepsNeededUptoSaid : Prop := keepsNeededUptoRow.holds Try.pinned (OpenSpec.upto keepsNeededSpec)

end Rows
end Go.Proofs.Yticcccciefaemaa
