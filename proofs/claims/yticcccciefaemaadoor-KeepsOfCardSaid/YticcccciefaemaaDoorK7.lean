/- views.sorted and views.Of. Condition: fewer than 1000000 facts. -/
import Derived.Test.YticcccciefaemaaDoorK5
import Derived.Test.YticcccciefaemaaDoorK6
import Derived.Test.YticcccciefaemaaDoorSh
import Derived.Test.YticcccciefaemaaDoorK6b
namespace Go.Proofs.YticcccciefaemaaDoor
open Go.RowKit Go.Shelf Go.Herb Go.Sort

instance : Inhabited Fc := ⟨⟨.empty, 0, 0, 0, 0, .empty, by unfold maxLen; decide, rfl, rfl, rfl, rfl⟩⟩

theorem ltOf_cmpF (x y : Fc) : ltOf cmpF x y = true ↔ LtF x y := by
  unfold ltOf
  rw [decide_eq_true_iff]
  exact cmpF_neg x y
theorem ltOf_cmpF' (x y : Fc) : ltOf cmpF x y = false ↔ ¬ LtF x y := by
  rw [← ltOf_cmpF]
  cases ltOf cmpF x y <;> simp

theorem swoF : SWO (ltOf cmpF) :=
  ⟨fun x => (ltOf_cmpF' x x).2 (LtF.irrefl x), fun x y z h1 h2 => (ltOf_cmpF x z).2 (((ltOf_cmpF x y).1 h1).trans ((ltOf_cmpF y z).1 h2)), fun x y z h1 h2 => (ltOf_cmpF' x z).2 (LtF.ntrans ((ltOf_cmpF' x y).1 h1) ((ltOf_cmpF' y z).1 h2))⟩

theorem fc_one (x : Fc) : ∀ v ∈ fc x, v.oneCell' = true := by
  intro v hv
  simp [fc] at hv
  rcases hv with rfl | rfl | rfl | rfl | rfl | rfl <;> rfl

end Go.Proofs.YticcccciefaemaaDoor
