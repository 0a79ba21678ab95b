/- ManifestsFold answers true for every input and changes nothing of its arguments. Conditions: none. -/
import Derived.Test.YtchcelodeepjdaaGreatDoorZW4
import Derived.Test.YtchcelodeepjdaaGreatDoorRows
import Derived.ProofKit
import Derived.LaidMore
import Derived.OpenShut
import Derived.Stop.Joined
import Derived.Handed
import Derived.LaidHandle
import Derived.Lay
import Derived.MakeChecks
import Derived.Carry
namespace Go.Proofs.YtchcelodeepjdaaGreatDoor
open Go.ChangeShapes Go.WideShapes Go.ChangeAt Go.RowKit Go.Herb Go.Deep

def laidL:List (String × DataW Unit):= [("unicode/utf8.acceptRanges",Rows.laid_unicode_utf8_acceptRanges),("unicode/utf8.first",Rows.laid_unicode_utf8_first)]

set_option maxRecDepth 100000 in
theorem manifestsFold_lifted (os:Os)(started:os.Started)(H:Type)(enc:TypeId × Value->H):
  ReturnsInHanded {} Tryz.checked os 3 .any (fun w args=>(Rows.manifestsFoldSpec.pre enc Tryz.prog Tryz.f3 [] false w args/\laidMetH Tryz.prog laidL w)/\sizedMet enc Tryz.prog Tryz.f3 (OpenSpec.ofChange Rows.manifestsFoldSpec) false w args)
   (Rows.manifestsFoldSpec.post enc Tryz.prog Tryz.f3 false true false false):=by
 have hown:ownKnob Tryz.prog.godebug=none:=by kernel_rfl
 have hlaid:laidOutB Tryz.prog=true:=by kernel_rfl
 refine returnsInHanded_of_change_and (C:=Tryz.checked) (X:=fun w _=>laidMetH Tryz.prog laidL w) (fun _ _ _ hh h=>h.of_heap hh) hown started (by kernel_rfl) Tryz.func3
  (ChangeSpec.witness_shaped (enc:=enc) (C:=Tryz.checked) (os:=os) (X:=fun w _=>laidMetH Tryz.prog laidL w) false (World.laidAll Tryz.prog os laidL) #[.slice none 0 0] 8 (World.laidAll_os _ _ _) (World.shaped_of_ZipB (by kernel_rfl) (by kernel_rfl)) (by kernel_rfl) (by kernel_rfl) (by kernel_rfl)
   (by rw [MakeChecks.laidMetH_plain _ _ _ (by kernel_rfl)];exact laidMet_laidAll _ (by kernel_rfl) (by kernel_rfl))) ?_
 intro W base args ds gs before hval0 hW hcnd _ hL _
 have hval: ∀(j:Nat) t v,Tryz.f3.params[j]? =some t->args[j]? =some v->Value.okWide Tryz.prog W .any base t v:=hval0
 have hW':=hW
 obtain⟨p,q,hA0,hV,rfl,hfz,hnd⟩:=hW
 have hA:DataW.TrodAll enc Tryz.prog W 0 (fun _=>true) true Tryz.f3.params.toList args.toList ds p:=hA0
 rw [Tryz.params3] at hA hval
 obtain⟨v0,d0,rfl,rfl,h0⟩:=trodAll_one hA
 obtain⟨rfl,rfl⟩:=trodVars_none hV
 clear hA0 hval0 hL
 simp only [List.append_nil] at hW'
 have h0k:=h0
 obtain⟨a0,n0,c0,rfl⟩:=okWide_slice Tryz.underlying22 (hval 0 (22) v0 rfl rfl)
 obtain⟨fu0,hf0⟩:=h0
 obtain⟨a0',c0',xs0,e0,s0⟩:=Ln.rd_recs (by simpa [Value.cells] using hf0)
 simp only [List.cons.injEq,and_true,Value.slice.injEq] at e0
 obtain⟨rfl,rfl,rfl⟩:=e0
 refine(Ln.zwb a0 c0 xs0 W s0.1 s0.2).mono fun e W' ⟨he,hb⟩=> ?_
 subst he
 have hlt: ∀x∈(p),x.block<W.heap.size:=fun x hx=>by simpa using hW'.lt x hx
 refine⟨_,rfl,yqy (pa:=p) (pv:= []) hW' (fun _ _ _=>trodAll_mk1 (shut_bool Tryz.underlying4 true)) (fun sp hsp=> ?_) (fun _ _=>rfl) (by simp) hb (ok_one (by kernel_rfl) rfl (okWide_bool_mk Tryz.underlying4 true))⟩
 have t2:=trodAll_mk1 (WideElems.Trod_stays hlaid (by kernel_rfl) (of_decide_eq_true (by kernel_rfl)) h0k (fun x hx=>hb.same (hlt x (by simp [hx]))) (fun x hx=>hsp x (by simp [hx])))
 exact t2

theorem manifestsFold_holds:Rows.ManifestsFoldSaid:=
 OpenClaim.holds_of_wide 3 Tryz.f3 rfl rfl rfl rfl rfl rfl rfl ⟨rfl,rfl,rfl,rfl,rfl⟩ rfl rfl rfl rfl rfl (by kernel_rfl) Tryz.func3 (by kernel_rfl)
  (of_decide_eq_true (by kernel_rfl)) (by unfold Func.isWrapper;first|(rw [if_pos (by decide+kernel)];kernel_rfl)|(rw [if_neg (by decide+kernel)];exact⟨rfl,rfl⟩))
  (fun os started H enc _=>manifestsFold_lifted os started H enc)
#print axioms manifestsFold_holds
end Go.Proofs.YtchcelodeepjdaaGreatDoor
