/- slices.SortFunc of no facts. No condition. · views.sorted and views.Of. Condition: fewer than 1000000 facts. -/
import Derived.Test.YtenocakpipppiaaGreatDoorK5
import Derived.Test.YtenocakpipppiaaGreatDoorK6
import Derived.Test.YtenocakpipppiaaGreatDoorSh
namespace Go.Proofs.YtenocakpipppiaaGreatDoor
open Go.RowKit Go.Shelf Go.Herb

set_option maxRecDepth 100000 in
theorem len64_none (w : World) : Calls Tryz.prog 66 #[.int .u64 0] w fun e w' => e = .returned (.int .i64 0) ∧ w = w' := by
  go_enter Tryz.func66, Tryz.ntmps66
  go_wp2
  go_ret
  refine ⟨?_, rfl⟩
  kernel_rfl
theorem len_none (w : World) : Calls Tryz.prog 47 #[.int .u64 0] w fun e w' => e = .returned (.int .i64 0) ∧ w = w' := by
  go_enter Tryz.func47, Tryz.ntmps47
  go_wp2_with (go_at_call 66; refine (len64_none _).mono ?_; rintro e w' ⟨rfl, rfl⟩)
  go_ret
  exact ⟨rfl, rfl⟩
theorem insertion_none (p : Option Addr) (cap : Nat) (fv : Value) (w : World) : Calls Tryz.prog 57 #[.slice p 0 cap, .int .i64 0, .int .i64 0, fv] w fun e w' => e = .returned (.tuple #[]) ∧ w = w' := by
  go_enter Tryz.func57, Tryz.ntmps57
  go_wp2
  go_loopg [8] 1 (fun gk iv wr => iv = .int .i64 1 ∧ w = wr)
  case atStart => exact ⟨rfl, rfl⟩
  case round =>
    obtain ⟨rfl, rfl⟩ := hrel
    go_wp2
    go_end0
    exact ⟨rfl, rfl⟩
set_option maxRecDepth 100000 in
theorem pdq_none (p : Option Addr) (cap : Nat) (fv : Value) (L : Int) (w : World) : Calls Tryz.prog 46 #[.slice p 0 cap, .int .i64 0, .int .i64 0, .int .i64 L, fv] w fun e w' => e = .returned (.tuple #[]) ∧ w = w' := by
  go_enter Tryz.func46, Tryz.ntmps46
  go_wp2
  refine wp_loop_rounds 1 ?_
  rw [rounds_succ]
  go_wp2_with (go_at_call 57; refine (insertion_none _ _ _ _).mono ?_; rintro e w' ⟨rfl, rfl⟩)
  refine bodyPost_ret (results_none rfl _ _ _) rfl ?_
  exact ⟨rfl, rfl⟩
theorem sortFunc_none (p : Option Addr) (cap : Nat) (fv : Value) (w : World) : Calls Tryz.prog 33 #[.slice p 0 cap, fv] w fun e w' => e = .returned (.tuple #[]) ∧ w' = w := by
  go_enter Tryz.func33, Tryz.ntmps33
  go_wp2_with (first | (go_at_call 47; refine (len_none _).mono ?_; rintro e w' ⟨rfl, rfl⟩) | (go_at_call 46; refine (pdq_none _ _ _ _ _).mono ?_; rintro e w' ⟨rfl, rfl⟩))
  go_end0
  exact ⟨rfl, rfl⟩
end Go.Proofs.YtenocakpipppiaaGreatDoor

namespace Go.Proofs.YtenocakpipppiaaGreatDoor
open Go.RowKit Go.Shelf Go.Herb Go.Sort

instance : Inhabited Fc := ⟨⟨.empty, 0, 0, 0, 0, .empty, by unfold maxLen; decide, rfl, rfl, rfl, rfl⟩⟩

theorem ltOf_cmpF (x y : Fc) : ltOf cmpF x y = true ↔ LtF x y := by
  unfold ltOf
  rw [decide_eq_true_iff]
  exact cmpF_neg x y
theorem ltOf_cmpF' (x y : Fc) : ltOf cmpF x y = false ↔ ¬ LtF x y := by
  rw [← ltOf_cmpF]
  cases ltOf cmpF x y <;> simp

theorem swoF : SWO (ltOf cmpF) :=
  ⟨fun x => (ltOf_cmpF' x x).2 (LtF.irrefl x), fun x y z h1 h2 => (ltOf_cmpF x z).2 (((ltOf_cmpF x y).1 h1).trans ((ltOf_cmpF y z).1 h2)), fun x y z h1 h2 => (ltOf_cmpF' x z).2 (LtF.ntrans ((ltOf_cmpF' x y).1 h1) ((ltOf_cmpF' y z).1 h2))⟩

theorem fc_one (x : Fc) : ∀ v ∈ fc x, v.oneCell' = true := by
  intro v hv
  simp [fc] at hv
  rcases hv with rfl | rfl | rfl | rfl | rfl | rfl <;> rfl

theorem sortFunc_any (g cap : Nat) (xs : List Fc) (w : World) (hR : Row fc 6 50 w g cap xs) (hx : xs.length < 1000000) :
    Calls Tryz.prog 33 #[.slice (some ⟨g, 0, none⟩) xs.length cap, .func (.func 34) #[] #[]] w fun e w' => e = .returned (.tuple #[]) ∧ ∃ ys : List Fc, ys.Perm xs ∧ ys.Pairwise (fun a b => ¬ LtF b a) ∧ Row fc 6 50 w' g cap ys ∧ w.grownBy w' (some g) := by
  have eg : ∀ args w, (callFunc 34 args).run Tryz.prog w = .ok (.enter 34 args) w := enters_of Tryz.func34 (by kernel_rfl) rfl
  have hcmp : CmpLays Tryz.prog 34 #[] fc 6 cmpF g 0 xs.toArray.size w := fun _ _ _ _ x y => cmpF_any x y _
  have hcon := AnyQ.slices_SortFunc Tryz.sortFact 6 Tryz.isAgg50 Tryz.sizeOf50 fc fc_len fc_one cmpF swoF 34 #[] g 0 cap xs.toArray w eg hcmp (hR.holdsK fc_len (by decide)) hR.lt (by simp; omega)
  change Calls Tryz.prog 33 _ _ _ at hcon
  have hsz : xs.toArray.size = xs.length := by simp
  rw [hsz] at hcon
  refine hcon.mono ?_
  rintro e w' ⟨he, d', n, os, hp, hs, hw⟩
  obtain ⟨hp1, _, hp3⟩ := hp
  have hd : d'.size = xs.length := by rw [hp1]; simp
  obtain ⟨h1, h2⟩ := sorted_row hR fc_len (by decide) n d' os hd
  rw [← hw] at h1 h2
  refine ⟨he, d'.toList, ?_, ?_, h1, h2⟩
  · have e1 : (d'.extract 0 xs.length) = d' := by rw [← hd]; simp
    have e2 : (xs.toArray.extract 0 xs.length) = xs.toArray := by rw [← hsz]; simp
    rw [e1, e2] at hp3
    exact hp3
  · rw [List.pairwise_iff_getElem]
    intro i j hi hj hij
    have h3 := hs i j (Nat.zero_le _) hij (by simp at hj; omega)
    rw [getElem!_pos d' j (by simpa using hj), getElem!_pos d' i (by simpa using hi)] at h3
    exact (ltOf_cmpF' _ _).1 h3
end Go.Proofs.YtenocakpipppiaaGreatDoor
