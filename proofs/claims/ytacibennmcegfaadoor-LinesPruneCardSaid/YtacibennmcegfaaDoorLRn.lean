/- How a slice of numbers is read. No condition. -/
import Derived.Test.YtacibennmcegfaaDoorLR
namespace Go.Proofs.YtacibennmcegfaaDoor
open Go.ChangeShapes Go.WideShapes Go.ChangeAt Go.RowKit Go.Herb Go.Deep

section
variable {H : Type} {enc : TypeId × Value → H} {w : World}
theorem rd_nums {fuel : Nat} {cs : List Value} {x : DataW H × List MemPlace} (h : DataW.trod enc Tryd.prog w 0 (fun _ => true) true fuel (46) cs = some x) :
    ∃ (a : Option Addr) (cap : Nat) (xs : List Int), cs = [.slice a xs.length cap] ∧ SIn uc 1 U64 w a cap xs := by
  obtain ⟨a, cap, xs, hcs, h1, h2, h3, h4, h5⟩ := open_slice_ints Tryd.underlying46 Tryd.underlying34 (by kernel_rfl) h
  exact ⟨a, cap, xs, hcs, ⟨h5, h1, h2, h3, h4⟩⟩
end
end Go.Proofs.YtacibennmcegfaaDoor
