/- views.sorted and views.Of. Condition: fewer than 1000000 facts. -/
import Derived.Test.YticcccciefaemaaK5
import Derived.Test.YticcccciefaemaaK6
import Derived.Test.YticcccciefaemaaSh
import Derived.Test.YticcccciefaemaaK6b
namespace Go.Proofs.Yticcccciefaemaa
open Go.RowKit Go.Shelf Go.Herb Go.Sort

instance : Inhabited Fc := ⟨⟨.empty, 0, 0, 0, 0, .empty, by unfold maxLen; decide, rfl, rfl, rfl, rfl⟩⟩

theorem ltOf_cmpF (x y : Fc) : ltOf cmpF x y = true ↔ LtF x y := by
  unfold ltOf
  rw [decide_eq_true_iff]
  exact cmpF_neg x y
theorem ltOf_cmpF' (x y : Fc) : ltOf cmpF x y = false ↔ ¬ LtF x y := by
  rw [← ltOf_cmpF]
  cases ltOf cmpF x y <;> simp

theorem swoF : SWO (ltOf cmpF) :=
  ⟨fun x => (ltOf_cmpF' x x).2 (LtF.irrefl x), fun x y z h1 h2 => (ltOf_cmpF x z).2 (((ltOf_cmpF x y).1 h1).trans ((ltOf_cmpF y z).1 h2)), fun x y z h1 h2 => (ltOf_cmpF' x z).2 (LtF.ntrans ((ltOf_cmpF' x y).1 h1) ((ltOf_cmpF' y z).1 h2))⟩

theorem fc_one (x : Fc) : ∀ v ∈ fc x, v.oneCell' = true := by
  intro v hv
  simp [fc] at hv
  rcases hv with rfl | rfl | rfl | rfl | rfl | rfl <;> rfl

theorem sortFunc_any (g cap : Nat) (xs : List Fc) (w : World) (hR : Row fc 6 38 w g cap xs) (hx : xs.length < 1000000) :
    Calls Try.prog 31 #[.slice (some ⟨g, 0, none⟩) xs.length cap, .func (.func 32) #[] #[]] w fun e w' => e = .returned (.tuple #[]) ∧ ∃ ys : List Fc, ys.Perm xs ∧ ys.Pairwise (fun a b => ¬ LtF b a) ∧ Row fc 6 38 w' g cap ys ∧ w.grownBy w' (some g) := by
  have eg : ∀ args w, (callFunc 32 args).run Try.prog w = .ok (.enter 32 args) w := enters_of Try.func32 (by kernel_rfl) rfl
  have hcmp : CmpLays Try.prog 32 #[] fc 6 cmpF g 0 xs.toArray.size w := fun _ _ _ _ x y => cmpF_any x y _
  have hcon := AnyQ.slices_SortFunc Try.sortFact 6 Try.isAgg38 Try.sizeOf38 fc fc_len fc_one cmpF swoF 32 #[] g 0 cap xs.toArray w eg hcmp (hR.holdsK fc_len (by decide)) hR.lt (by simp; omega)
  change Calls Try.prog 31 _ _ _ at hcon
  have hsz : xs.toArray.size = xs.length := by simp
  rw [hsz] at hcon
  refine hcon.mono ?_
  rintro e w' ⟨he, d', n, os, hp, hs, hw⟩
  obtain ⟨hp1, _, hp3⟩ := hp
  have hd : d'.size = xs.length := by rw [hp1]; simp
  obtain ⟨h1, h2⟩ := sorted_row hR fc_len (by decide) n d' os hd
  rw [← hw] at h1 h2
  refine ⟨he, d'.toList, ?_, ?_, h1, h2⟩
  · have e1 : (d'.extract 0 xs.length) = d' := by rw [← hd]; simp
    have e2 : (xs.toArray.extract 0 xs.length) = xs.toArray := by rw [← hsz]; simp
    rw [e1, e2] at hp3
    exact hp3
  · rw [List.pairwise_iff_getElem]
    intro i j hi hj hij
    have h3 := hs i j (Nat.zero_le _) hij (by simp at hj; omega)
    rw [getElem!_pos d' j (by simpa using hj), getElem!_pos d' i (by simpa using hi)] at h3
    exact (ltOf_cmpF' _ _).1 h3
end Go.Proofs.Yticcccciefaemaa
