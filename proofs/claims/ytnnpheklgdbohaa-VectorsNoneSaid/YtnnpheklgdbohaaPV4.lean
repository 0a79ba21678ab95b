/- VectorsNone answers true for every input and changes nothing of its arguments. Conditions: none. -/
import Derived.Test.YtnnpheklgdbohaaOT
import Derived.Test.YtnnpheklgdbohaaRows
import Derived.ProofKit
import Derived.Carry
namespace Go.Proofs.Ytnnpheklgdbohaa
open Go.ChangeShapes Go.WideShapes Go.ChangeAt Go.RowKit Go.Herb Go.Deep

set_option maxRecDepth 100000 in
theorem vectorsNone_lifted (os : Os) (started : os.Started) (H : Type) (enc : TypeId × Value → H) :
    ReturnsInHanded {} Try.checked os 7 .any (Rows.vectorsNoneSpec.pre6 enc Try.prog Try.f7 Rows.vectorsNoneRow.domain false) (Rows.vectorsNoneSpec.post enc Try.prog Try.f7 false true false false) := by
  have hown : ownKnob Try.prog.godebug = none := by kernel_rfl
  have hlaid : laidOutB Try.prog = true := by kernel_rfl
  refine returnsInHanded_of_change (C := Try.checked) hown started (by kernel_rfl) Try.func7
    (ChangeSpec.witness6 (enc := enc) (C := Try.checked) false ⟨#[], #[.agg #[.int .u8 0, .int .u64 0, .int .u64 0, .int .u64 0]], []⟩ 8 (by kernel_rfl) (by kernel_rfl) (by kernel_rfl) (by kernel_rfl)) ?_
  intro W base args ds gs before hval0 hW hcnd _
  have hval : ∀ (j : Nat) t v, Try.f7.params[j]? = some t → args[j]? = some v → Value.okWide Try.prog W .any base t v := hval0
  have hW' := hW
  obtain ⟨p, q, hA0, hV, rfl, hfz, hnd⟩ := hW
  have hA : DataW.TrodAll enc Try.prog W 0 (fun _ => true) true Try.f7.params.toList args.toList ds p := hA0
  rw [Try.params7] at hA hval
  obtain ⟨v0, d0, rfl, rfl, h0⟩ := trodAll_one hA
  obtain ⟨rfl, rfl⟩ := trodVars_none hV
  clear hA0 hval0
  simp only [List.append_nil] at hW'
  have h0k := h0
  obtain ⟨cs0, rfl, hsz0⟩ := okWide_struct (fs := Try.prog.fieldsOf 40) (by kernel_rfl) (hval 0 (40) v0 rfl rfl)
  obtain ⟨fu0, hf0⟩ := h0
  obtain ⟨f0, e0⟩ := rd_act (by simpa [Value.cells] using hf0)
  obtain ⟨cl0⟩ := cs0
  simp only at e0
  subst e0
  refine (none_any f0 W ).mono fun e W' ⟨he, hb⟩ => ?_
  subst he
  have hlt : ∀ x ∈ (p), x.block < W.heap.size := fun x hx => by simpa using hW'.lt x hx
  refine ⟨_, rfl, post_of_below (pa := p) (pv := []) hW' (fun _ _ _ => trodAll_mk1 (shut_bool Try.underlying4 true)) (fun sp hsp => ?_) (fun _ _ => rfl) (by simp) hb (ok_one (by kernel_rfl) rfl (okWide_bool_mk Try.underlying4 true))⟩
  have t2 := trodAll_mk1 (WideElems.Trod_stays hlaid (by kernel_rfl) (of_decide_eq_true (by kernel_rfl)) h0k (fun x hx => hb.same (hlt x (by simp [hx]))) (fun x hx => hsp x (by simp [hx])))
  exact t2

theorem vectorsNone_holds : Rows.VectorsNoneSaid :=
  OpenClaim.holds_of_wide (7) Try.f7 rfl rfl rfl rfl rfl rfl rfl ⟨rfl, rfl, rfl, rfl, rfl⟩ rfl rfl rfl rfl rfl (by kernel_rfl) Try.func7 (by kernel_rfl)
    (of_decide_eq_true (by kernel_rfl)) (by unfold Func.isWrapper; first | (rw [if_pos (by decide +kernel)]; kernel_rfl) | (rw [if_neg (by decide +kernel)]; exact ⟨rfl, rfl⟩))
    (fun os started H enc _ => vectorsNone_lifted os started H enc)
#print axioms vectorsNone_holds
end Go.Proofs.Ytnnpheklgdbohaa
