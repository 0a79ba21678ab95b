import Derived.Test.YtchcelodeepjdaaGreatDoorMp
import Derived.ProofKit
import Derived.Deep.Slices
import Derived.Deep.Fields
import Derived.ChangeSame
namespace Go.Herb
open Go.RowKit Go.ChangeShapes Go.WideShapes Go.Deep

theorem zwo {α:Type}{enc:α->List Value}{s:Nat}{w:World}{a:Addr}{Q:α->Prop}(n:Nat)(h0: ∀x,0<(enc x).length)
  (h: ∀i,i<n-> ∃x:α,Q x/\ ∀j c,(enc x)[j]? =some c->w.cell? (a.add (i*s+j))=some c):
  ∃xs:List α,xs.length=n/\(∀x∈xs,Q x)/\Els enc s w (some a) xs:=by
 have key: ∀m,m<=n-> ∃xs:List α,xs.length=m/\(∀x∈xs,Q x)/\ ∀i (hi:i<xs.length),∀j c,(enc xs[i])[j]? =some c->w.cell? (a.add (i*s+j))=some c:=by
  intro m
  induction m with
  |zero=>intro _;exact⟨[],rfl,by simp,fun i hi=>by simp at hi⟩
  |succ m ih=>
   intro hm
   obtain⟨xs,hl,hq,hc⟩:=ih (by omega)
   obtain⟨x,hx,hcx⟩:=h m (by omega)
   refine⟨xs++ [x],by simp [hl],?_,?_⟩
   ·intro y hy
    rcases List.mem_append.1 hy with hy|hy
    ·exact hq y hy
    ·rw [List.mem_singleton.1 hy];exact hx
   ·intro i hi j c hj
    rcases Nat.lt_or_ge i xs.length with h'|h'
    ·rw [List.getElem_append_left h'] at hj;exact hc i h' j c hj
    ·have:i=m:=by simp at hi;omega
     subst this
     rw [List.getElem_append_right h'] at hj
     simp at hj
     exact hcx j c hj
 obtain⟨xs,hl,hq,hc⟩:=key n zr
 refine⟨xs,hl,hq,⟨fun i hi=> ?_⟩⟩
 have hsp:a.spot=none:=by
  have hx0:0<(enc xs[0]).length:=h0 _
  have:=hc 0 (by omega) 0 (enc xs[0])[0] (List.getElem?_eq_getElem hx0)
  simp only [Nat.zero_mul,Nat.add_zero,Addr.add,if_true] at this
  unfold World.cell? at this
  split at this
  ·split at this
   ·cases this
   ·rename_i hh;simpa using hh
  ·cases this
 obtain⟨b,o,sp⟩:=a
 simp only at hsp
 subst hsp
 refine⟨b,o,rfl,?_,fun j c hj=> ?_⟩
 ·have hx0:0<(enc xs[i]).length:=h0 _
  have:=hc i hi 0 (enc xs[i])[0] (List.getElem?_eq_getElem hx0)
  rw [addr_add] at this
  exact lt_of_cell this
 ·have:=hc i hi j c hj
  rw [addr_add,<-Nat.add_assoc] at this
  exact this

section
variable {H:Type} {enc:TypeId × Value->H} {P:Program} {w:World} {base:Nat} {spare:Nat->Bool} {held:Bool}
theorem yqy {f:Func}{s:ChangeSpec}{apart fresh handsOn again:Bool}{W W':World}{args:Array Value}{v:Value}{ds gs:List (DataW H)}{before pa pv:List MemPlace}
  (hW:DataW.Whole enc P f.params.toList s.vars apart W args.toList ds gs before)
  (hres: ∀(b:Nat) (sp:Nat->Bool) (hd:Bool),DataW.TrodAll enc P W' b sp hd f.resultTypes.toList (v.resultList f.resultTypes.size) (s.fn H (ds++gs)).results [])
  (hargs: ∀sp:Nat->Bool,(∀p∈before,sp p.block=true)->DataW.TrodAll enc P W' 0 sp true f.params.toList args.toList (s.fn H (ds++gs)).args pa)
  (hvars: ∀sp:Nat->Bool,(∀p∈before,sp p.block=true)->DataW.TrodVars enc P W' sp s.vars (s.fn H (ds++gs)).vars pv)
  (hps:before=pa++pv) (hb:Below W.heap.size W W')
  (hok: ∀(j:Nat) (t:TypeId) (r:Value),f.resultTypes[j]? =some t->(v.resultList f.resultTypes.size)[j]? =some r->Value.okWide P W' .any 0 t r):
  s.post enc P f apart fresh handsOn again W args v W':=by
 have hlt: ∀p∈before,p.block<W.heap.size:=fun p hp=>hW.lt p hp
 have hold: ∀p∈before,(fun b=>decide (b<W.heap.size)) p.block=true:=fun p hp=>by simpa using hlt p hp
 refine⟨ds,gs,before, [],pa,pv,hW,hres _ _ _,hargs _ hold,hvars _ hold,World.keptBut_mono (fun p hp=>⟨hp,?_⟩) (hb.frame (· ∈before)),fun _=> ?_⟩
 ·rw [hps,List.mem_append] at hp
  exact Or.inr hp
 ·obtain⟨_,_,_,_,_,hz,hn⟩:=hW
  refine⟨hok,_,_,([] ++pa)++pv,⟨[] ++pa,pv,trodAll_append (hargs _ (fun _ _=>rfl)) (hres _ _ _),hvars _ (fun _ _=>rfl),rfl,?_,?_⟩,?_⟩
  ·intro b off hp
   have hin:MemPlace.cell b off∈before:=by rw [hps];simpa using hp
   rw [hb.frozen (hlt _ hin)]
   exact hz b off hin
  ·intro ha
   have:=hn ha
   rw [hps] at this
   simpa using this
  ·intro p hp _
   rw [hps]
   simpa using hp
end
end Go.Herb
