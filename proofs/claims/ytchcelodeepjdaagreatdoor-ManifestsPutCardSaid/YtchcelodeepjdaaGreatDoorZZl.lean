/- herbariumlaw20: SameRoot. Condition: fewer than 1000000 of each. -/
import Derived.Test.YtchcelodeepjdaaGreatDoorZZU
namespace Go.Proofs.YtchcelodeepjdaaGreatDoor.Ln
open Go.RowKit Go.Shelf Go.Herb

/-- Not too many to be compared. -/
structure Cmp (r : Rv) : Prop where
  bs : r.bs.length < 1000000
  ls : r.ls.length < 1000000
  vs : r.vs.length < 1000000
  pts : ∀ v ∈ r.vs, v.ps.length < 1000000
  sh : r.sh.length < 1000000
  lev : ∀ s ∈ r.sh, ∀ l ∈ s.lv, l.ts.length ≤ 1000000
end Go.Proofs.YtchcelodeepjdaaGreatDoor.Ln
