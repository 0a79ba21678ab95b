/- slices.SortFunc of no facts. No condition. -/
import Derived.Test.YticcccciefaemaaDoorK5
namespace Go.Proofs.YticcccciefaemaaDoor
open Go.RowKit Go.Shelf Go.Herb

set_option maxRecDepth 100000 in
theorem len64_none (w : World) : Calls Tryd.prog 52 #[.int .u64 0] w fun e w' => e = .returned (.int .i64 0) ∧ w = w' := by
  go_enter Tryd.func52, Tryd.ntmps52
  go_wp2
  go_ret
  refine ⟨?_, rfl⟩
  kernel_rfl
end Go.Proofs.YticcccciefaemaaDoor
