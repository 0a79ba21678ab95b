/-
  No cell of these rows narrows 'for every input' (looked for: loops, veiled, ifaces, maps, wideKeys, modest, calm, conditions, laid).
  DERIVED. THE GIVEN ROWS OF THIS SEAT. 7 by the template 'for every input the law returns true; each argument reads behind the call as it read before'; 0 by the template 'total and deterministic' (their statements: YtenocakpipppiaaTotals.lean).
  GIVEN WITH THE SEED: the statements are not yours to turn. If you find one false, say at which input.
  Laid BY PROGRAM, IN A SANDBOX (cutbox-rows.mjs): the forced cells as the released guide's own fill.sh prints them over the translation 1bdef252d57aa84d… (all of the seat's roots in one cut). By AI agents, Wed Nov 11 2026. No macro, syntax, notation, axiom, sorry.
-/
import Derived.Test.YtenocakpipppiaaChecked
import GoSem.Claim
import GoSem.ClaimJoined
import GoSem.ClaimMapViews
import Derived.JoinedTies
import Derived.KernelRfl
namespace Go.Proofs.Ytenocakpipppiaa
/- THE CELL 'sum', in the pinned program and in every row, IS THE sha256 OF THE DUMP (.gsa) THAT YtenocakpipppiaaProg.lean LOADS. Nothing in Lean hashes anything: it is a label: what it is worth is what the hold of that sum in a sandbox is worth. -/
noncomputable def Try.pinned : Pinned := { name := "ytenocakpipppiaa", sum := "1bdef252d57aa84df5cd7f550cb2df8147c772676ffbde0f4f438f740d54dafe", checked := Try.checked }
namespace Rows
def none {H : Type} : Left H := { results := [], args := [] }

/-- 'herbariumlaw17.ViewsAgain': WHATEVER THE INPUT: true; the input reads as it did. -/
def viewsAgainSpec : ChangeSpec := { name := "viewsAgain", fn := fun _ => fun
  | [d1, d2] => { results := [.lit (.bool true)], args := [d1, d2] }
  | _ => none }
def viewsAgainRow : OpenClaim := { program := "ytenocakpipppiaa", sum := "1bdef252d57aa84df5cd7f550cb2df8147c772676ffbde0f4f438f740d54dafe", func := "herbarium/herbariumlaw17.ViewsAgain", spec := "viewsAgain", unfollowed := true, recurses := true, plainKeys := false, apart := false }
def ViewsAgainSaid : Prop := viewsAgainRow.holds Try.pinned (OpenSpec.ofChange viewsAgainSpec)

/-- ITS FALSE NEIGHBOUR: 'it returns false'. Refute it at one input. -/
def viewsAgainWrong : ChangeSpec := { name := "viewsAgain", fn := fun _ => fun
  | [d1, d2] => { results := [.lit (.bool false)], args := [d1, d2] }
  | _ => none }
def ViewsAgainWrongFalsely : Prop := viewsAgainRow.holds Try.pinned (OpenSpec.ofChange viewsAgainWrong)

/-- 'herbariumlaw17.ViewsLast': WHATEVER THE INPUT: true; the input reads as it did. -/
def viewsLastSpec : ChangeSpec := { name := "viewsLast", fn := fun _ => fun
  | [d1, d2] => { results := [.lit (.bool true)], args := [d1, d2] }
  | _ => none }
def viewsLastRow : OpenClaim := { program := "ytenocakpipppiaa", sum := "1bdef252d57aa84df5cd7f550cb2df8147c772676ffbde0f4f438f740d54dafe", func := "herbarium/herbariumlaw17.ViewsLast", spec := "viewsLast", unfollowed := true, recurses := true, plainKeys := false, apart := false }
def ViewsLastSaid : Prop := viewsLastRow.holds Try.pinned (OpenSpec.ofChange viewsLastSpec)

/-- ITS FALSE NEIGHBOUR: 'it returns false'. Refute it at one input. -/
def viewsLastWrong : ChangeSpec := { name := "viewsLast", fn := fun _ => fun
  | [d1, d2] => { results := [.lit (.bool false)], args := [d1, d2] }
  | _ => none }
def ViewsLastWrongFalsely : Prop := viewsLastRow.holds Try.pinned (OpenSpec.ofChange viewsLastWrong)

/-- 'herbariumlaw17.ViewsTime': WHATEVER THE INPUT: true; the input reads as it did. -/
def viewsTimeSpec : ChangeSpec := { name := "viewsTime", fn := fun _ => fun
  | [d1, d2] => { results := [.lit (.bool true)], args := [d1, d2] }
  | _ => none }
def viewsTimeRow : OpenClaim := { program := "ytenocakpipppiaa", sum := "1bdef252d57aa84df5cd7f550cb2df8147c772676ffbde0f4f438f740d54dafe", func := "herbarium/herbariumlaw17.ViewsTime", spec := "viewsTime", unfollowed := true, recurses := true, plainKeys := false, apart := false }
def ViewsTimeSaid : Prop := viewsTimeRow.holds Try.pinned (OpenSpec.ofChange viewsTimeSpec)

/-- ITS FALSE NEIGHBOUR: 'it returns false'. Refute it at one input. -/
def viewsTimeWrong : ChangeSpec := { name := "viewsTime", fn := fun _ => fun
  | [d1, d2] => { results := [.lit (.bool false)], args := [d1, d2] }
  | _ => none }
def ViewsTimeWrongFalsely : Prop := viewsTimeRow.holds Try.pinned (OpenSpec.ofChange viewsTimeWrong)

/-- 'herbariumlaw17.ViewsHistory': WHATEVER THE INPUT: true; the input reads as it did. -/
def viewsHistorySpec : ChangeSpec := { name := "viewsHistory", fn := fun _ => fun
  | [d1, d2, d3] => { results := [.lit (.bool true)], args := [d1, d2, d3] }
  | _ => none }
def viewsHistoryRow : OpenClaim := { program := "ytenocakpipppiaa", sum := "1bdef252d57aa84df5cd7f550cb2df8147c772676ffbde0f4f438f740d54dafe", func := "herbarium/herbariumlaw17.ViewsHistory", spec := "viewsHistory", unfollowed := true, recurses := true, plainKeys := false, apart := false }
def ViewsHistorySaid : Prop := viewsHistoryRow.holds Try.pinned (OpenSpec.ofChange viewsHistorySpec)

/-- ITS FALSE NEIGHBOUR: 'it returns false'. Refute it at one input. -/
def viewsHistoryWrong : ChangeSpec := { name := "viewsHistory", fn := fun _ => fun
  | [d1, d2, d3] => { results := [.lit (.bool false)], args := [d1, d2, d3] }
  | _ => none }
def ViewsHistoryWrongFalsely : Prop := viewsHistoryRow.holds Try.pinned (OpenSpec.ofChange viewsHistoryWrong)

/-- 'herbariumlaw17.ViewsScan': WHATEVER THE INPUT: true; the input reads as it did. -/
def viewsScanSpec : ChangeSpec := { name := "viewsScan", fn := fun _ => fun
  | [d1, d2] => { results := [.lit (.bool true)], args := [d1, d2] }
  | _ => none }
def viewsScanRow : OpenClaim := { program := "ytenocakpipppiaa", sum := "1bdef252d57aa84df5cd7f550cb2df8147c772676ffbde0f4f438f740d54dafe", func := "herbarium/herbariumlaw17.ViewsScan", spec := "viewsScan", inPlace := ["internal/bytealg.abigen_runtime_cmpstring"], unfollowed := true, recurses := true, plainKeys := false, apart := false }
def ViewsScanSaid : Prop := viewsScanRow.holds Try.pinned (OpenSpec.ofChange viewsScanSpec)

/-- ITS FALSE NEIGHBOUR: 'it returns false'. Refute it at one input. -/
def viewsScanWrong : ChangeSpec := { name := "viewsScan", fn := fun _ => fun
  | [d1, d2] => { results := [.lit (.bool false)], args := [d1, d2] }
  | _ => none }
def ViewsScanWrongFalsely : Prop := viewsScanRow.holds Try.pinned (OpenSpec.ofChange viewsScanWrong)

/-- 'herbariumlaw17.ViewsDiff': WHATEVER THE INPUT: true; the input reads as it did. -/
def viewsDiffSpec : ChangeSpec := { name := "viewsDiff", fn := fun _ => fun
  | [d1, d2] => { results := [.lit (.bool true)], args := [d1, d2] }
  | _ => none }
def viewsDiffRow : OpenClaim := { program := "ytenocakpipppiaa", sum := "1bdef252d57aa84df5cd7f550cb2df8147c772676ffbde0f4f438f740d54dafe", func := "herbarium/herbariumlaw17.ViewsDiff", spec := "viewsDiff", unfollowed := true, recurses := true, plainKeys := false, apart := false }
def ViewsDiffSaid : Prop := viewsDiffRow.holds Try.pinned (OpenSpec.ofChange viewsDiffSpec)

/-- ITS FALSE NEIGHBOUR: 'it returns false'. Refute it at one input. -/
def viewsDiffWrong : ChangeSpec := { name := "viewsDiff", fn := fun _ => fun
  | [d1, d2] => { results := [.lit (.bool false)], args := [d1, d2] }
  | _ => none }
def ViewsDiffWrongFalsely : Prop := viewsDiffRow.holds Try.pinned (OpenSpec.ofChange viewsDiffWrong)

/-- 'herbariumlaw17.ViewsSame': WHATEVER THE INPUT: true; the input reads as it did. -/
def viewsSameSpec : ChangeSpec := { name := "viewsSame", fn := fun _ => fun
  | [d1, d2, d3] => { results := [.lit (.bool true)], args := [d1, d2, d3] }
  | _ => none }
def viewsSameRow : OpenClaim := { program := "ytenocakpipppiaa", sum := "1bdef252d57aa84df5cd7f550cb2df8147c772676ffbde0f4f438f740d54dafe", func := "herbarium/herbariumlaw17.ViewsSame", spec := "viewsSame", unfollowed := true, recurses := true, plainKeys := false, apart := false }
def ViewsSameSaid : Prop := viewsSameRow.holds Try.pinned (OpenSpec.ofChange viewsSameSpec)

/-- ITS FALSE NEIGHBOUR: 'it returns false'. Refute it at one input. -/
def viewsSameWrong : ChangeSpec := { name := "viewsSame", fn := fun _ => fun
  | [d1, d2, d3] => { results := [.lit (.bool false)], args := [d1, d2, d3] }
  | _ => none }
def ViewsSameWrongFalsely : Prop := viewsSameRow.holds Try.pinned (OpenSpec.ofChange viewsSameWrong)

/- THE SECOND FORM. 'bulk': how many values and letters a reading holds, each counted each time it is reached (what is shared counts as often as it is met; a slice's spare places count too). A statement '..UptoSaid' is the law's where the arguments, and the package variables that the reading takes, are together of bulk at most 1048576: NARROWER than '..Said'. Prove '..Said' where nothing that the law and all that it calls make is longer than what came in: it says more and counts as full. Else prove '..UptoSaid'. A law counts once. -/
mutual
def uptoBulk {H : Type} : DataW H → Nat
  | .lit (.string bytes) => bytes.length + 1
  | .lit _ => 1
  | .nil => 1
  | .ptr d => uptoBulk d + 1
  | .slice elems spare => uptoBulkAll elems + uptoBulkAll spare + 1
  | .agg parts => uptoBulkAll parts + 1
  | .iface _ d => uptoBulk d + 1
  | .map entries => uptoBulkEntries entries + 1
  | .held _ => 1
def uptoBulkAll {H : Type} : List (DataW H) → Nat
  | [] => 0
  | d :: r => uptoBulk d + uptoBulkAll r
def uptoBulkEntries {H : Type} : List (Lit × DataW H) → Nat
  | [] => 0
  | x :: r => uptoBulkEntry x + uptoBulkEntries r
def uptoBulkEntry {H : Type} : Lit × DataW H → Nat
  | (.string bytes, d) => bytes.length + uptoBulk d + 1
  | (_, d) => uptoBulk d + 1
 end
def uptoSmall : (H : Type) → List (DataW H) → Bool := fun _ ds => decide (uptoBulkAll ds ≤ 1048576)
def OpenSpec.upto (s : _root_.Go.ChangeSpec) : _root_.Go.OpenSpec := { _root_.Go.OpenSpec.ofChange s with cond := some uptoSmall }

/-- 'herbariumlaw17.ViewsAgain', WHERE WHAT IT READS IS OF BULK AT MOST 1048576: true; the input reads as it did. -/
def viewsAgainUptoRow : OpenClaim := { program := "ytenocakpipppiaa", sum := "1bdef252d57aa84df5cd7f550cb2df8147c772676ffbde0f4f438f740d54dafe", func := "herbarium/herbariumlaw17.ViewsAgain", spec := "viewsAgain", unfollowed := true, recurses := true, plainKeys := false, apart := false, narrowed := true }
def ViewsAgainUptoSaid : Prop := viewsAgainUptoRow.holds Try.pinned (OpenSpec.upto viewsAgainSpec)

/-- 'herbariumlaw17.ViewsLast', WHERE WHAT IT READS IS OF BULK AT MOST 1048576: true; the input reads as it did. -/
def viewsLastUptoRow : OpenClaim := { program := "ytenocakpipppiaa", sum := "1bdef252d57aa84df5cd7f550cb2df8147c772676ffbde0f4f438f740d54dafe", func := "herbarium/herbariumlaw17.ViewsLast", spec := "viewsLast", unfollowed := true, recurses := true, plainKeys := false, apart := false, narrowed := true }
def ViewsLastUptoSaid : Prop := viewsLastUptoRow.holds Try.pinned (OpenSpec.upto viewsLastSpec)

/-- 'herbariumlaw17.ViewsTime', WHERE WHAT IT READS IS OF BULK AT MOST 1048576: true; the input reads as it did. -/
def viewsTimeUptoRow : OpenClaim := { program := "ytenocakpipppiaa", sum := "1bdef252d57aa84df5cd7f550cb2df8147c772676ffbde0f4f438f740d54dafe", func := "herbarium/herbariumlaw17.ViewsTime", spec := "viewsTime", unfollowed := true, recurses := true, plainKeys := false, apart := false, narrowed := true }
def ViewsTimeUptoSaid : Prop := viewsTimeUptoRow.holds Try.pinned (OpenSpec.upto viewsTimeSpec)

/-- 'herbariumlaw17.ViewsHistory', WHERE WHAT IT READS IS OF BULK AT MOST 1048576: true; the input reads as it did. -/
def viewsHistoryUptoRow : OpenClaim := { program := "ytenocakpipppiaa", sum := "1bdef252d57aa84df5cd7f550cb2df8147c772676ffbde0f4f438f740d54dafe", func := "herbarium/herbariumlaw17.ViewsHistory", spec := "viewsHistory", unfollowed := true, recurses := true, plainKeys := false, apart := false, narrowed := true }
def ViewsHistoryUptoSaid : Prop := viewsHistoryUptoRow.holds Try.pinned (OpenSpec.upto viewsHistorySpec)

/-- 'herbariumlaw17.ViewsScan', WHERE WHAT IT READS IS OF BULK AT MOST 1048576: true; the input reads as it did. -/
def viewsScanUptoRow : OpenClaim := { program := "ytenocakpipppiaa", sum := "1bdef252d57aa84df5cd7f550cb2df8147c772676ffbde0f4f438f740d54dafe", func := "herbarium/herbariumlaw17.ViewsScan", spec := "viewsScan", inPlace := ["internal/bytealg.abigen_runtime_cmpstring"], unfollowed := true, recurses := true, plainKeys := false, apart := false, narrowed := true }
def ViewsScanUptoSaid : Prop := viewsScanUptoRow.holds Try.pinned (OpenSpec.upto viewsScanSpec)

/-- 'herbariumlaw17.ViewsDiff', WHERE WHAT IT READS IS OF BULK AT MOST 1048576: true; the input reads as it did. -/
def viewsDiffUptoRow : OpenClaim := { program := "ytenocakpipppiaa", sum := "1bdef252d57aa84df5cd7f550cb2df8147c772676ffbde0f4f438f740d54dafe", func := "herbarium/herbariumlaw17.ViewsDiff", spec := "viewsDiff", unfollowed := true, recurses := true, plainKeys := false, apart := false, narrowed := true }
def ViewsDiffUptoSaid : Prop := viewsDiffUptoRow.holds Try.pinned (OpenSpec.upto viewsDiffSpec)

/-- 'herbariumlaw17.ViewsSame', WHERE WHAT IT READS IS OF BULK AT MOST 1048576: true; the input reads as it did. -/
def viewsSameUptoRow : OpenClaim := { program := "ytenocakpipppiaa", sum := "1bdef252d57aa84df5cd7f550cb2df8147c772676ffbde0f4f438f740d54dafe", func := "herbarium/herbariumlaw17.ViewsSame", spec := "viewsSame", unfollowed := true, recurses := true, plainKeys := false, apart := false, narrowed := true }
def ViewsSameUptoSaid : Prop := viewsSameUptoRow.holds Try.pinned (OpenSpec.upto viewsSameSpec)

end Rows
end Go.Proofs.Ytenocakpipppiaa
