/- The library's slices.SortFunc at facts, laid (the kit's lay-plain wrote this text). No condition. -/
import Derived.Shelf.SlSortCmp.WholeK
import Derived.Test.YticcccciefaemaaDoorProg
namespace Go.Proofs
open Go.Shelf
end Go.Proofs
