/- Lemmas and walks towards ManifestsFold. Conditions: each one tells its own. -/
import Derived.Deep.RegionHeld3
import Derived.Lib.Hide
import Derived.Below
import Derived.WalkKit
import Derived.WalkSpells
import Derived.WalkLawsBesides
import Derived.Deep.QuietTactic
import Derived.Deep.LoopGhost
import Derived.BigQuiet
import Derived.Laws.StructEq
import Derived.Handy
import Derived.BigRegion
import Derived.Maps.RangeWalk
import Derived.Maps.Own
namespace Go
open RowKit
theorem zh {p:Prop}(h:p):Hid p:=h
theorem zr {n:Nat}:n<=n:=Nat.le_refl n
theorem zb {B:Nat}{w:World}:Below B w w:=Below.refl B w
theorem lsa {α:Type _}(l:List α)(i:Nat)(a:α):l.toArray.setIfInBounds i a=(l.set i a).toArray:=by simp
theorem lsz {α:Type _}(x:α)(l:List α)(a:α):(x::l).set 0 a=a::l:=rfl
theorem lss {α:Type _}(x:α)(l:List α)(i:Nat)(a:α):(x::l).set (i+1) a=x::l.set i a:=rfl
end Go
namespace Go.Herb
open Go
section
variable {P:Program} {ops:Array Oper} {Q:Exit->Act->World->Prop} {md:Region.Mode} {S:World->Prop} {oi:Oper} {v:Value} {fuel:Nat} {listed:Array Bool} {a:Act} {w:World}
theorem tkI (hP: ∀ch a a' w',a'.defers=a.defers->Q (.panic ch) a w'->Q (.panic ch) a' w')(i:Nat)
  (hi:ops[i]? =some oi:=by(simp only [List.getElem?_toArray,List.getElem?_cons_succ,List.getElem?_cons_zero];rfl))
  (hs:Region.noSelect ops=true:=by kernel_rfl) (hf:Region.free md ops listed i=true:=by kernel_rfl) (hr:(Region.ready md ops listed).contains i=true:=by kernel_rfl)
  (hw:Region.wanted oi (yielded ops a.tmps)=true:=by rfl) (hv: ∀w',S w'->(execOp a.eval oi).run P w'= .ok (.value v) w':=by(intro w' hSw;(try dsimp only at hSw);go_simp;first|done|with_reducible rfl)) (hS:S w:=by assumption)
  (h:wpAnyH P md ops Q S fuel (listed.setIfInBounds i true) (a.put oi.dst v) w):wpAnyH P md ops Q S (fuel+1) listed a w:=
 wpAnyH_take hi hs hf hr (fun c b u k=>hP c (b.put oi.dst v) b u (by unfold Act.put;cases oi.dst<;>rfl) k) (Or.inl ⟨hw,hv⟩) hS h
theorem tkO (hP: ∀ch a a' w',a'.defers=a.defers->Q (.panic ch) a w'->Q (.panic ch) a' w')(i:Nat)
  (hi:ops[i]? =some oi:=by(simp only [List.getElem?_toArray,List.getElem?_cons_succ,List.getElem?_cons_zero];rfl))
  (hs:Region.noSelect ops=true:=by kernel_rfl) (hf:Region.free md ops listed i=true:=by kernel_rfl) (hr:(Region.ready md ops listed).contains i=true:=by kernel_rfl)
  (hw:Region.wanted oi (yielded ops a.tmps)=false:=by rfl) (hS:S w:=by assumption)
  (h:wpAnyH P md ops Q S fuel (listed.setIfInBounds i true) (a.put oi.dst undef) w):wpAnyH P md ops Q S (fuel+1) listed a w:=
 wpAnyH_take hi hs hf hr (fun c b u k=>hP c (b.put oi.dst undef) b u (by unfold Act.put;cases oi.dst<;>rfl) k) (Or.inr ⟨hw,rfl⟩) hS h
theorem tkC (i:Nat)(hr:Region.ready md ops listed= [i] :=by kernel_rfl)(hi:ops[i]? =some oi:=by(simp only [List.getElem?_toArray,List.getElem?_cons_succ,List.getElem?_cons_zero];rfl))
  (hw:Region.wanted oi (yielded ops a.tmps)=true:=by rfl)
  (h: ∀K':Act->World->Prop,Shut (∀a w,S w->(S w->wpAnyH P md ops Q S fuel (listed.setIfInBounds i true) a w)->K' a w)->Oper.wp P oi a w K' Q):wpAnyH P md ops Q S (fuel+1) listed a w:=
 wpAnyH_ready (rs:= [i]) hr (by simp) (AllReadyH.cons hi (fun K hK=>by rw [if_pos hw];exact h K hK) AllReadyH.nil)
end
end Go.Herb

namespace Go.Herb
open Go.RowKit

structure Els {α:Type}(enc:α->List Value)(s:Nat)(w:World)(a:Option Addr)(xs:List α):Prop where
 get: ∀i (h:i<xs.length),∃b o,a=some ⟨b,o,none⟩/\b<w.heap.size/\ ∀j c,(enc xs[i])[j]? =some c->w.cell? ⟨b,o+i*s+j,none⟩=some c

theorem lt_of_cell {w:World}{b o:Nat}{v:Value}(h:w.cell? ⟨b,o,none⟩=some v):b<w.heap.size:=by
 unfold World.cell? at h
 rcases Nat.lt_or_ge b w.heap.size with h'|h'
 ·exact h'
 ·simp [Array.getElem?_eq_none h'] at h

theorem Els.below {α:Type}{enc:α->List Value}{s:Nat}{w w':World}{a:Option Addr}{xs:List α}{B:Nat}(h:Els enc s w a xs)(hb:Below B w w')(hB:w.heap.size<=B):Els enc s w' a xs:=
 ⟨fun i hi=>let⟨b,o,ha,hlt,hc⟩:=h.get i hi
  ⟨b,o,ha,Nat.lt_of_lt_of_le hlt hb.size,fun j c hj=>(hb.cell (p:=⟨b,o+i*s+j,none⟩) (Nat.lt_of_lt_of_le hlt hB)).trans (hc j c hj)⟩⟩

theorem Els.ext {α:Type}{enc:α->List Value}{s:Nat}{w w':World}{a:Option Addr}{xs:List α}(h:Els enc s w a xs)(hb:Below w.heap.size w w'):Els enc s w' a xs:=h.below hb zr

theorem Els.nil {α:Type}(enc:α->List Value)(s:Nat)(w:World)(a:Option Addr):Els enc s w a [] :=⟨fun i h=>by simp at h⟩

theorem zq6 {α:Type}{enc:α->List Value}{s:Nat}{w:World}{base e:Nat}{v:Value}{xs:List α}(hs: ∀x,(enc x).length=s)(h:w.ownsRow base e s v xs.length (xs.flatMap enc)):
  ∃a cap,v= .slice a xs.length cap/\xs.length<=cap/\Els enc s w a xs:=by
 obtain⟨_,h|⟨g,cap,cur,hv,hg,hh,hle,hm,hsz,htk⟩⟩:=h
 ·obtain⟨rfl,h0⟩:=h
  have:xs= [] :=List.length_eq_zero_iff.1 h0
  subst this
  exact⟨none,0,rfl,zr,Els.nil _ _ _ _⟩
 ·refine⟨_,cap,hv,hle,⟨fun i hi=>⟨g,0,rfl,?_,fun j c hj=> ?_⟩⟩⟩
  ·rcases Nat.lt_or_ge g w.heap.size with h'|h'
   ·exact h'
   ·simp [Array.getElem?_eq_none h'] at hh
  ·have hjs:j<s:=by
    rcases Nat.lt_or_ge j s with h'|h'
    ·exact h'
    ·rw [List.getElem?_eq_none (by rw [hs];exact h')] at hj;simp at hj
   have hfl: ∀(l:List α) (i:Nat) (hi:i<l.length),(l.flatMap enc)[i*s+j]? =(enc l[i])[j]? :=by
    intro l
    induction l with
    |nil=>intro i hi;simp at hi
    |cons x l ih=>
     intro i hi
     cases i with
     |zero=>simp only [Nat.zero_mul,Nat.zero_add,List.flatMap_cons,List.getElem_cons_zero];rw [List.getElem?_append_left (by rw [hs];exact hjs)]
     |succ i=>
      simp only [List.flatMap_cons,List.getElem_cons_succ]
      rw [List.getElem?_append_right (by rw [hs,Nat.succ_mul];omega),hs,show(i+1)*s+j - s=i*s+j from by rw [Nat.succ_mul];omega]
      exact ih i (by simpa using hi)
   have h1:=hfl xs i hi
   rw [hj,<-htk,List.getElem?_take_of_lt (by
    have:(i+1)*s<=xs.length*s:=Nat.mul_le_mul_right s hi
    rw [Nat.succ_mul] at this;omega)] at h1
   show w.cell? ⟨g,0+i*s+j,none⟩=some c
   simp only [World.cell?,hh,Nat.zero_add]
   simpa using h1

theorem yqj (w:World)(cs:Array Value)(t:TypeId)(fr:Nat × Nat)(j:Nat):(w.alloc (.cells cs t fr)).cell? ⟨w.heap.size,j,none⟩=cs[j]? :=by
 show(match(w.heap.push (.cells cs t fr))[w.heap.size]? with
  |some (.cells c _ _)=>if(none:Option _).isSome then none else c[j]?
  |_=>none)=cs[j]?
 simp

theorem zq9 {w:World}{base base' e s:Nat}{v:Value}{n:Nat}{xs:List Value}(h:w.ownsRow base e s v n xs)(hb:base'<=base):w.ownsRow base' e s v n xs:=by
 obtain⟨h1,h2|⟨g,cap,cur,hv,hg,r⟩⟩:=h
 ·exact⟨h1, .inl h2⟩
 ·exact⟨h1, .inr ⟨g,cap,cur,hv,by omega,r⟩⟩

theorem ownsRow_below {w w':World}{base e s:Nat}{v:Value}{n:Nat}{xs:List Value}{B:Nat}(h:w.ownsRow base e s v n xs)(hb:Below B w w')(hB:w.heap.size<=B):w'.ownsRow base e s v n xs:=by
 obtain⟨h1,h2|⟨g,cap,cur,hv,hg,hh,r⟩⟩:=h
 ·exact⟨h1, .inl h2⟩
 ·refine⟨h1, .inr ⟨g,cap,cur,hv,hg,?_,r⟩⟩
  rw [hb.block g ?_]
  ·exact hh
  ·rcases Nat.lt_or_ge g w.heap.size with h'|h'
   ·omega
   ·simp [Array.getElem?_eq_none h'] at hh

theorem Below.appended {B:Nat}{w w1 w2:World}{base e s:Nat}{v:Value}{n:Nat}{xs:List Value}(h:Below B w w1)(ho:w1.ownsRow base e s v n xs)(hb:B<=base)(hs:B<=w1.heap.size)(hg:w1.grownBy w2 v.ownBlock):Below B w w2:=
 h.grown hg hs (fun k hk=>Nat.le_trans hb (ho.lt k hk).1)


theorem zq2 {w:World}{b:Nat}{o:Obj}(h:w.heap[b]? =some o):b<w.heap.size:=by
 rcases Nat.lt_or_ge b w.heap.size with h'|h'
 ·exact h'
 ·simp [Array.getElem?_eq_none h'] at h

theorem zq0 {w:World}{b:Nat}{cs:Array Value}{t:TypeId}{fr:Nat × Nat}(h:w.heap[b]? =some (.cells cs t fr))(j:Nat):w.cell? ⟨b,j,none⟩=cs[j]? :=by
 simp [World.cell?,h]

theorem zq1 {w:World}{b:Nat}{cs:Array Value}{t:TypeId}(h:w.heap[b]? =some (.cells cs t (0,0)))(j:Nat):w.frozen? ⟨b,j,none⟩=false:=by
 simp [World.frozen?,h]

theorem blk_new (w:World)(o:Obj):(w.alloc o).heap[w.heap.size]? =some o:=by
 show(w.heap.push o)[w.heap.size]? =some o
 simp

theorem zz3 {w:World}{b:Nat}{o o':Obj}(h:w.heap[b]? =some o):(w.alloc o').heap[b]? =some o:=
 (Below.heap_alloc w o' b (zq2 h)).trans h

theorem zq7 {w:World}{b j:Nat}{cs:Array Value}{t:TypeId}{fr:Nat × Nat}(h:w.heap[b]? =some (.cells cs t fr))(v:Value):(w.setCell ⟨b,j,none⟩ v).heap[b]? =some (.cells (cs.setIfInBounds j v) t fr):=by
 simp [World.setCell,Array.getElem?_modify,h]

theorem blk_setCell_other {w:World}{b:Nat}{o:Obj}(h:w.heap[b]? =some o){a:Addr}(hne:b≠a.block)(v:Value):(w.setCell a v).heap[b]? =some o:=
 (Below.heap_setCell w a v b hne).trans h

theorem zq4 {w w':World}{b B:Nat}{o:Obj}(h:w.heap[b]? =some o)(hb:Below B w w')(hB:b<B):w'.heap[b]? =some o:=(hb.block b hB).trans h


theorem zxn {α:Type}{enc:α->List Value}{s:Nat}(hs: ∀x,(enc x).length=s): ∀(l:List α) (i r:Nat) (hi:i<l.length),r<s->(l.flatMap enc)[i*s+r]? =(enc l[i])[r]? :=by
 intro l
 induction l with
 |nil=>intro i r hi;simp at hi
 |cons x l ih=>
  intro i r hi hr
  cases i with
  |zero=>simp only [Nat.zero_mul,Nat.zero_add,List.flatMap_cons,List.getElem_cons_zero];rw [List.getElem?_append_left (by rw [hs];exact hr)]
  |succ i=>
   simp only [List.flatMap_cons,List.getElem_cons_succ]
   rw [List.getElem?_append_right (by rw [hs,Nat.succ_mul];omega),hs,show(i+1)*s+r - s=i*s+r from by rw [Nat.succ_mul];omega]
   exact ih i r (by simpa using hi) hr

theorem zq8 {α:Type}{enc:α->List Value}{s:Nat}(hs: ∀x,(enc x).length=s)(l:List α):(l.flatMap enc).length=l.length*s:=by
 induction l with
 |nil=>simp
 |cons x l ih=>simp [hs,ih,Nat.succ_mul,Nat.add_comm]

theorem addr_add (b o j:Nat):((⟨b,o,none⟩:Addr).add j)=⟨b,o+j,none⟩:=by simp only [Addr.add];split<;>simp_all

theorem Els.flat {α:Type}{enc:α->List Value}{s:Nat}{w:World}{ad:Addr}{xs:List α}(h:Els enc s w (some ad) xs)(hs: ∀x,(enc x).length=s)(h0:0<s):
  ∀j u,(xs.flatMap enc)[j]? =some u->w.cell? (ad.add j)=some u:=by
 intro j u hu
 have hj:j<xs.length*s:=by
  rcases Nat.lt_or_ge j (xs.length*s)with h'|h'
  ·exact h'
  ·rw [List.getElem?_eq_none (by rw [zq8 hs];exact h')] at hu;simp at hu
 have hi:j / s<xs.length:=(Nat.div_lt_iff_lt_mul h0).2 hj
 have hr:j % s<s:=Nat.mod_lt _ h0
 have he:j=j / s*s+j % s:=by rw [Nat.mul_comm];exact(Nat.div_add_mod j s).symm
 obtain⟨b,o,ha,_,hc⟩:=h.get (j / s) hi
 injection ha with ha
 subst ha
 rw [addr_add]
 have:=hc (j % s) u (by rw [<-zxn hs xs _ _ hi hr,<-he];exact hu)
 rw [show o+j=o+j / s*s+j % s from by omega]
 exact this


theorem yvr {w:World}{a:Addr}{o:Obj}{v:Value}(h:w.cell? a=some v):(w.alloc o).cell? a=some v:=by
 have hlt:a.block<w.heap.size:=by
  unfold World.cell? at h
  rcases Nat.lt_or_ge a.block w.heap.size with h'|h'
  ·exact h'
  ·simp [Array.getElem?_eq_none h'] at h
 exact(World.cell?_of_block (w:=w) (Below.heap_alloc w o _ hlt)).trans h


theorem Els.take {α:Type}{enc:α->List Value}{s:Nat}{w:World}{a:Option Addr}{xs:List α}(h:Els enc s w a xs)(k:Nat):Els enc s w a (xs.take k):=
 ⟨fun i hi=>by
  obtain⟨b,o,ha,hlt,hc⟩:=h.get i (by simp at hi;omega)
  exact⟨b,o,ha,hlt,fun j c hj=>hc j c (by simpa using hj)⟩⟩


theorem zq3 {w:World}{n:Nat}(h:n=w.heap.size)(o:Obj):(w.alloc o).heap[n]? =some o:=by rw [h];exact blk_new w o

end Go.Herb

namespace Go.Herb
open Go.RowKit

structure Row {α:Type}(enc:α->List Value)(s e:Nat)(w:World)(g cap:Nat)(xs:List α):Prop where
 blk: ∃cur:Array Value,w.heap[g]? =some (.cells cur e (0,0))/\cur.size=cap*s/\cur.toList.take (xs.length*s)=xs.flatMap enc
 le:xs.length<=cap
 max:cap<=maxLen

section
variable {α:Type} {enc:α->List Value} {s e:Nat} {w w':World} {g cap:Nat} {xs:List α}

theorem Row.lt (h:Row enc s e w g cap xs):g<w.heap.size:=by
 obtain⟨cur,hb,_⟩:=h.blk
 exact zq2 hb

theorem Row.cell (h:Row enc s e w g cap xs)(hs: ∀x,(enc x).length=s)(i:Nat)(hi:i<xs.length)(j:Nat)(c:Value)(hj:(enc xs[i])[j]? =some c):w.cell? ⟨g,i*s+j,none⟩=some c:=by
 obtain⟨cur,hb,hsz,htk⟩:=h.blk
 have hjs:j<s:=by
  rcases Nat.lt_or_ge j s with h'|h'
  ·exact h'
  ·rw [List.getElem?_eq_none (by rw [hs];exact h')] at hj;simp at hj
 have h1:=zxn hs xs i j hi hjs
 rw [hj,<-htk,List.getElem?_take_of_lt (by
  have:(i+1)*s<=xs.length*s:=Nat.mul_le_mul_right s hi
  rw [Nat.succ_mul] at this;omega)] at h1
 rw [zq0 hb]
 simpa using h1

theorem Row.frozen (h:Row enc s e w g cap xs)(o:Nat):w.frozen? ⟨g,o,none⟩=false:=by
 obtain⟨cur,hb,_⟩:=h.blk
 exact zq1 hb o

theorem Row.els (h:Row enc s e w g cap xs)(hs: ∀x,(enc x).length=s):Els enc s w (some ⟨g,0,none⟩) xs:=
 ⟨fun i hi=>⟨g,0,rfl,h.lt,fun j c hj=>by rw [Nat.zero_add];exact h.cell hs i hi j c hj⟩⟩

theorem Row.same (h:Row enc s e w g cap xs)(hb:w'.heap[g]? =w.heap[g]?):Row enc s e w' g cap xs:=by
 obtain⟨cur,hc,r⟩:=h.blk
 exact⟨⟨cur,hb.trans hc,r⟩,h.le,h.max⟩

theorem Row.below (h:Row enc s e w g cap xs)(hb:Below w.heap.size w w'):Row enc s e w' g cap xs:=h.same (hb.block g h.lt)

theorem Row.owns (h:Row enc s e w g cap xs)(hs: ∀x,(enc x).length=s){base:Nat}(hb:base<=g):w.ownsRow base e s (.slice (some ⟨g,0,none⟩) xs.length cap) xs.length (xs.flatMap enc):=by
 obtain⟨cur,hc,hsz,htk⟩:=h.blk
 exact⟨zq8 hs xs, .inr ⟨g,cap,cur,rfl,hb,hc,h.le,h.max,hsz,htk⟩⟩

theorem zzt {base:Nat}{v:Value}(h:w.ownsRow base e s v xs.length (xs.flatMap enc)):
  (v= .slice none 0 0/\xs= [])\/ ∃g cap,v= .slice (some ⟨g,0,none⟩) xs.length cap/\base<=g/\Row enc s e w g cap xs:=by
 obtain⟨_,⟨h1,h2⟩|⟨g,cap,cur,hv,hg,hh,hle,hm,hsz,htk⟩⟩:=h
 ·exact .inl ⟨h1,List.length_eq_zero_iff.1 h2⟩
 ·exact .inr ⟨g,cap,hv,hg,⟨⟨cur,hh,hsz,htk⟩,hle,hm⟩⟩

theorem Row.take (h:Row enc s e w g cap xs)(hs: ∀x,(enc x).length=s)(k:Nat):Row enc s e w g cap (xs.take k):=by
 obtain⟨cur,hc,hsz,htk⟩:=h.blk
 refine⟨⟨cur,hc,hsz,?_⟩,Nat.le_trans (by simp;omega) h.le,h.max⟩
 have h1:(xs.take k).length*s<=xs.length*s:=Nat.mul_le_mul_right s (by simp;omega)
 have:cur.toList.take ((xs.take k).length*s)=(cur.toList.take (xs.length*s)).take ((xs.take k).length*s):=by
  rw [List.take_take,Nat.min_eq_left h1]
 rw [this,htk]
 have h2:xs.flatMap enc=(xs.take k).flatMap enc++(xs.drop k).flatMap enc:=by
  rw [<-List.flatMap_append,List.take_append_drop]
 rw [h2,List.take_append_of_le_length (by rw [zq8 hs];exact zr),List.take_of_length_le (by rw [zq8 hs];exact zr)]
end

theorem zqp (w:World)(row:Option Nat):w.grownBy w row:=⟨rfl,rfl,rfl,zr,fun _ _ _=>rfl⟩

theorem zqh {a b c:World}{row:Option Nat}(h:a.grownBy b row)(k:b.grownBy c row):a.grownBy c row:=
 ⟨k.os.trans h.os,k.tape.trans h.tape,k.output.trans h.output,Nat.le_trans h.size k.size,fun i hi hne=>(k.block i (Nat.lt_of_lt_of_le hi h.size) hne).trans (h.block i hi hne)⟩

theorem zk4 {a b:World}{row:Option Nat}(h:Below a.heap.size a b):a.grownBy b row:=⟨h.os,h.tape,h.output,h.size,fun i hi _=>h.block i hi⟩

theorem zz4 {a b:World}{g:Nat}(h:a.grownBy b (some g))(o:Nat)(v:Value):a.grownBy (b.setCell ⟨g,o,none⟩ v) (some g):=
 ⟨h.os,h.tape,h.output,by simpa [World.setCell] using h.size,fun i hi hne=>(Below.heap_setCell b ⟨g,o,none⟩ v i (fun e=>hne (by rw [e]))).trans (h.block i hi hne)⟩

theorem zw8 {a b:World}{row:Option Nat}(h:a.grownBy b row):a.grownBy b.drew row:=⟨h.os,h.tape,h.output,h.size,h.block⟩

theorem yjf {a b:World}{row:Option Nat}(h:a.grownBy b row)(o:Obj):a.grownBy (b.alloc o) row:=
 zqh h (zk4 (zb.alloc zr _))

theorem swap_perm {α:Type}(xs:List α)(i j:Nat)(hi:i<xs.length)(hj:j<xs.length):((xs.set i xs[j]).set j xs[i]).Perm xs:=by
 have h:=Array.swap_perm (xs:=xs.toArray) (i:=i) (j:=j) (by simpa using hi) (by simpa using hj)
 have h':=h.toList
 simpa [Array.swap] using h'

end Go.Herb

namespace Go.Herb
open Go.ChangeMaps Go.MapKept
open Go.WideElems (Fit rd rg pl rd_key rd_val rg_of other_key rd_mk)
open Go.Maps (Keyed)

def putL {α β:Type} [DecidableEq α](m:List (α × β))(a:α)(b:β):List (α × β):=
 if a∈m.map (·.1)then m.map (fun p=>if p.1=a then(a,b)else p)else m++ [(a,b)]

def getL {α β:Type} [DecidableEq α](m:List (α × β))(a:α):Option β:=(m.find? (fun p=>decide (p.1=a))).map (·.2)

section
variable {α β:Type} [DecidableEq α]

theorem yxs {m:List (α × β)}{a:α}:getL m a=none↔a∉m.map (·.1):=by
 unfold getL
 rw [Option.map_eq_none_iff,List.find?_eq_none]
 simp only [List.mem_map,not_exists,not_and,decide_eq_true_eq]

theorem zx0 {m:List (α × β)}(hn:(m.map (·.1)).Nodup){a:α}{b:β}:getL m a=some b↔(a,b)∈m:=by
 induction m with
 |nil=>simp [getL]
 |cons p m ih=>
  have h1:=(List.nodup_cons.1 hn)
  unfold getL at ih ⊢
  rw [List.find?_cons]
  by_cases h:p.1=a
  ·simp only [h,decide_true,Option.map_some,Option.some.injEq,List.mem_cons]
   constructor
   ·intro e;left;rw [<-h,<-e]
   ·rintro(e|e)
    ·rw [<-e]
    ·exfalso
     apply h1.1
     show p.1∈_
     rw [h]
     exact List.mem_map.2 ⟨_,e,rfl⟩
  ·simp only [h,decide_false,List.mem_cons]
   rw [ih h1.2]
   constructor
   ·exact Or.inr
   ·rintro(e|e)
    ·exact absurd (by rw [<-e]) h
    ·exact e

theorem zvv (m:List (α × β))(a:α)(b:β):(putL m a b).map (·.1)=if a∈m.map (·.1)then m.map (·.1)else m.map (·.1)++ [a] :=by
 unfold putL
 split
 ·rw [List.map_map]
  apply List.map_congr_left
  intro p _
  show(if p.1=a then(a,b)else p).1=p.1
  split
  ·rename_i h;exact h.symm
  ·rfl
 ·simp

theorem zyy {m:List (α × β)}(hn:(m.map (·.1)).Nodup)(a:α)(b:β):((putL m a b).map (·.1)).Nodup:=by
 rw [zvv]
 split
 ·exact hn
 ·rename_i h
  rw [List.nodup_append]
  refine⟨hn,by simp,?_⟩
  intro x hx y hy e
  simp at hy
  subst hy
  subst e
  exact h hx

theorem zx2 (m:List (α × β))(a:α)(b:β):getL (putL m a b) a=some b:=by
 unfold putL
 split
 ·rename_i h
  unfold getL
  induction m with
  |nil=>simp at h
  |cons p m ih=>
   rw [List.map_cons,List.find?_cons]
   by_cases e:p.1=a
   ·simp [e]
   ·simp only [e,if_false,decide_false]
    exact ih (by simp at h;rcases h with h|h;exact absurd h.symm e;simpa using h)
 ·rename_i h
  unfold getL
  rw [List.find?_append]
  have:m.find? (fun p=>decide (p.1=a))=none:=by
   rw [List.find?_eq_none]
   intro p hp e
   exact h (List.mem_map.2 ⟨p,hp,by simpa using e⟩)
  rw [this]
  simp

theorem zxj (m:List (α × β))(a:α)(b:β){c:α}(hc:c≠a):getL (putL m a b) c=getL m c:=by
 unfold putL
 split
 ·unfold getL
  induction m with
  |nil=>rfl
  |cons p m ih=>
   rename_i h
   rw [List.map_cons,List.find?_cons,List.find?_cons]
   by_cases e:p.1=a
   ·have e2: ¬a=c:=fun h=>hc h.symm
    simp only [e,if_true,e2,decide_false]
    by_cases h2:a∈m.map (·.1)
    ·exact ih h2
    ·congr 1
     have:m.map (fun p=>if p.1=a then(a,b)else p)=m:=by
      conv=>rhs;rw [<-List.map_id m]
      apply List.map_congr_left
      intro q hq
      have: ¬q.1=a:=fun e=>h2 (List.mem_map.2 ⟨q,hq,e⟩)
      simp [this]
     rw [this]
   ·simp only [e,if_false]
    by_cases e3:p.1=c
    ·simp [e3]
    ·simp only [e3,decide_false]
     exact ih (by simp at h;rcases h with h|h;exact absurd h.symm e;simpa using h)
 ·unfold getL
  rw [List.find?_append]
  have:([(a,b)] :List (α × β)).find? (fun p=>decide (p.1=c))=none:=by
   simp
   exact fun h=>hc h.symm
  rw [this]
  simp

theorem zjf (m:List (α × β))(a:α)(b:β):(putL m a b).length<=m.length+1:=by
 unfold putL
 split<;>simp
end

theorem zyp {γ:Type}: ∀(l:List γ) (j:Nat) (h:j<l.length),(l[j] ::l.eraseIdx j).Perm l
 | [],j,h=>by simp at h
 |x::l,0,_=>by simp
 |x::l,j+1,h=>by
  simp only [List.getElem_cons_succ,List.eraseIdx_cons_succ]
  exact(List.Perm.swap _ _ _).trans ((zyp l j (by simpa using h)).cons x)

def kvOf (e:MapEntry):Value × Value:=(e.key,e.val)

def selfR (v:Value):Option (DataW Value × List MemPlace):=some (.held v, [])

structure MapIs {α β:Type}(P:Program)(k:TypeId)(encK:α->Value)(encV:β->Value)(w:World)(b:Nat)(m:List (α × β)):Prop where
 blk: ∃es clock,w.heap[b]? =some (.map es clock)/\Fit P k selfR es clock/\es.toList.map kvOf=m.map (fun p=>(encK p.1,encV p.2))

section
variable {α β:Type} [DecidableEq α] {P:Program} {k:TypeId} {encK:α->Value} {encV:β->Value} {w w':World} {b:Nat} {m:List (α × β)}

omit [DecidableEq α] in
theorem MapIs.lt (h:MapIs P k encK encV w b m):b<w.heap.size:=by
 obtain⟨es,c,hb,_⟩:=h.blk
 exact(Array.getElem?_eq_some_iff.1 hb).1

omit [DecidableEq α] in
theorem MapIs.same (h:MapIs P k encK encV w b m)(hb:w'.heap[b]? =w.heap[b]?):MapIs P k encK encV w' b m:=by
 obtain⟨es,c,h1,r⟩:=h.blk
 exact⟨es,c,hb.trans h1,r⟩

omit [DecidableEq α] in
theorem MapIs.made (w:World):MapIs P k encK encV (w.alloc (.map #[] 0)) w.heap.size ([] :List (α × β)):=
 ⟨#[],0,(MapKept.heap_alloc w _).1,⟨by simp,stamped_empty 0,by simp⟩,rfl⟩

omit [DecidableEq α] in
theorem MapIs.nodup (h:MapIs P k encK encV w b m):(m.map (·.1)).Nodup:=by
 obtain⟨es,c,_,F,he⟩:=h.blk
 have h1:(es.toList.map (·.key)).Nodup:=F.stamped.2.2
 have h2:es.toList.map (·.key)=(m.map (·.1)).map encK:=by
  have:=congrArg (List.map Prod.fst) he
  rw [List.map_map,List.map_map] at this
  rw [List.map_map]
  exact this
 rw [h2] at h1
 unfold List.Nodup at h1 ⊢
 rw [List.pairwise_map] at h1
 exact h1.imp (fun h e=>h (by rw [e]))

omit [DecidableEq α] in
theorem MapIs.entry (h:MapIs P k encK encV w b m){es:Array MapEntry}{c:Nat}(hb:w.heap[b]? =some (.map es c)){e:MapEntry}(he:e∈es.toList): ∃p∈m,e.key=encK p.1/\e.val=encV p.2:=by
 obtain⟨es',c',h1,_,h2⟩:=h.blk
 rw [h1] at hb
 cases hb
 have:kvOf e∈es.toList.map kvOf:=List.mem_map.2 ⟨e,he,rfl⟩
 rw [h2] at this
 obtain⟨p,hp,e1⟩:=List.mem_map.1 this
 have e2:=congrArg Prod.fst e1
 have e3:=congrArg Prod.snd e1
 exact⟨p,hp,e2.symm,e3.symm⟩

theorem MapIs.look (h:MapIs P k encK encV w b m)(K:Keyed P k)(hinj: ∀a a',encK a=encK a'->a=a'){t e:TypeId}(ht:P.underlying t=some (.map k e)){z:Value}(hz:(zeroValue e).run P w= .ok z w){a:α}{kl:Lit}(hkey:keyOf P k (encK a)=some kl):
  (Instr.lookup t (.map (some b)) (encK a) false).run P w= .ok (match getL m a with|some v=>encV v|none=>z) w/\
  (Instr.lookup t (.map (some b)) (encK a) true).run P w= .ok (match getL m a with|some v=> .tuple #[encV v, .bool true] |none=> .tuple #[z, .bool false]) w:=by
 have hnd:=h.nodup
 have hh:=h
 obtain⟨es,c,hb,F,he⟩:=h.blk
 have key: ∀ok:Bool,(Instr.lookup t (.map (some b)) (encK a) ok).run P w= .ok (match getL m a with|some v=>(if ok then .tuple #[encV v, .bool true] else encV v)|none=>(if ok then .tuple #[z, .bool false] else z)) w:=by
  intro ok
  rcases Maps.fit_look ok K ht hz hb F hkey with⟨hrun,hno,_⟩|⟨e0,y,hm0,hk0,hrun,_,_,_⟩
  ·have:getL m a=none:=by
    rw [yxs]
    intro hin
    obtain⟨p,hp,rfl⟩:=List.mem_map.1 hin
    have:(encK p.1,encV p.2)∈es.toList.map kvOf:=by rw [he];exact List.mem_map.2 ⟨p,hp,rfl⟩
    obtain⟨x,hx,ex⟩:=List.mem_map.1 this
    exact hno x hx (congrArg Prod.fst ex)
   rw [this]
   exact hrun
  ·obtain⟨p,hp,e1,e2⟩:=hh.entry hb hm0
   have hpa:p.1=a:=hinj _ _ (e1.symm.trans hk0)
   have:getL m a=some p.2:=(zx0 hnd).2 (by rw [<-hpa];exact hp)
   rw [this]
   simp only
   rw [hrun,e2]
 exact⟨by have:=key false;simpa using this,by have:=key true;simpa using this⟩

theorem MapIs.store (h:MapIs P k encK encV w b m)(K:Keyed P k)(hinj: ∀a a',encK a=encK a'->a=a'){t e:TypeId}(ht:P.underlying t=some (.map k e))(hroom:m.length<maxLen){a:α}(v:β){kl:Lit}(hkey:keyOf P k (encK a)=some kl):
  ∃w',(Instr.mapUpdate t (.map (some b)) (encK a) (encV v)).run P w= .ok () w'/\MapIs P k encK encV w' b (putL m a v)/\w.grownBy w' (some b)/\w'.heap.size=w.heap.size:=by
 have hh:=h
 obtain⟨es,clock,hb,F,he⟩:=h.blk
 have hlen:es.size=m.length:=by
  have:=congrArg List.length he
  simpa using this
 have frame: ∀o:Obj,w.grownBy (setBlock w b o) (some b)/\(setBlock w b o).heap.size=w.heap.size:=fun o=>
  ⟨⟨rfl,rfl,rfl,by simp [setBlock],fun i _ hi=>heap_setBlock_other hb _ (fun e=>hi (by rw [e]))⟩,by simp [setBlock]⟩
 rcases K.find w hkey es.toList F.keys with⟨h1,h2⟩|⟨j,e0,h1,h2,h3⟩
 ·refine⟨setBlock w b (.map (es.push ⟨encK a,encV v,clock⟩) (clock+1)),?_,⟨_,_,heap_setBlock_same hb _,⟨by simp;omega,stamped_push F.stamped h2,?_⟩,?_⟩,(frame _).1,(frame _).2⟩
  ·simp [Instr.mapUpdate,run_underlying ht,MapKept.run_getObj_map hb,K.check w false hkey,h1,MapKept.run_setObj_map _ hb,Result.andThen,setBlock]
  ·intro x hx
   simp only [Array.toList_push,List.mem_append,List.mem_singleton] at hx
   rcases hx with hx|rfl
   ·exact F.reads x hx
   ·exact⟨_,rd_mk hkey rfl⟩
  ·have hno:a∉m.map (·.1):=by
    intro hin
    obtain⟨p,hp,rfl⟩:=List.mem_map.1 hin
    have:(encK p.1,encV p.2)∈es.toList.map kvOf:=by rw [he];exact List.mem_map.2 ⟨p,hp,rfl⟩
    obtain⟨x,hx,ex⟩:=List.mem_map.1 this
    exact h2 x hx (congrArg Prod.fst ex)
   rw [putL,if_neg hno,Array.toList_push,List.map_append,List.map_append,he]
   rfl
 ·have hj:es[j]? =some e0:=by simpa using h2
  have hkeyf: ∀e',es[j]? =some e'->({e' with key:=encK a,val:=encV v }:MapEntry).key=e'.key:=fun e' he'=>by rw [hj] at he';cases he';exact h3.symm
  have hlist:(es.modify j (fun e'=>{e' with key:=encK a,val:=encV v })).toList=es.toList.set j {e0 with key:=encK a,val:=encV v }:=by rw [Array.toList_modify,modify_eq_set _ _ _ _ h2]
  refine⟨setBlock w b (.map (es.modify j (fun e'=>{e' with key:=encK a,val:=encV v })) clock),?_,⟨_,_,heap_setBlock_same hb _,⟨by simpa using F.size,stamped_modify F.stamped _ _ (fun _ _=>rfl) (fun e' _ he'=>hkeyf e' he'),?_⟩,?_⟩,(frame _).1,(frame _).2⟩
  ·simp [Instr.mapUpdate,run_underlying ht,MapKept.run_getObj_map hb,K.check w false hkey,h1,hj,h3,K.stays w hkey,MapKept.run_setObj_map _ hb,Result.andThen,setBlock]
  ·intro x hx
   rw [hlist] at hx
   rcases List.mem_or_eq_of_mem_set hx with hx|rfl
   ·exact F.reads x hx
   ·exact⟨_,rd_mk hkey rfl⟩
  ·have hm0:e0∈es.toList:=List.mem_of_getElem? h2
   obtain⟨p,hp,e1,e2⟩:=hh.entry hb hm0
   have hpa:p.1=a:=hinj _ _ (e1.symm.trans h3)
   have hin:a∈m.map (·.1):=by rw [<-hpa];exact List.mem_map.2 ⟨p,hp,rfl⟩
   rw [putL,if_pos hin,hlist]
   apply List.ext_getElem?
   intro i
   have hi:(es.toList.map kvOf)[i]? =(m.map (fun p=>(encK p.1,encV p.2)))[i]? :=by rw [he]
   rw [List.getElem?_map,List.getElem?_map] at hi
   rw [List.getElem?_map,List.getElem?_map,List.getElem?_map]
   by_cases hij:i=j
   ·subst hij
    rw [List.getElem?_set_self (List.getElem?_eq_some_iff.1 h2).1]
    rw [h2] at hi
    cases hm:m[i]? with
    |none=>rw [hm] at hi;cases hi
    |some q=>
     rw [hm] at hi
     simp only [Option.map_some,Option.some.injEq] at hi
     have hq:q.1=a:=hinj _ _ ((congrArg Prod.fst hi).symm.trans h3)
     simp [hq,kvOf]
   ·rw [List.getElem?_set_ne (fun h=>hij h.symm),hi]
    cases hm:m[i]? with
    |none=>rfl
    |some q=>
     rw [hm] at hi
     have hne: ¬q.1=a:=by
      intro hq
      cases hx:es.toList[i]? with
      |none=>rw [hx] at hi;cases hi
      |some x=>
       rw [hx] at hi
       simp only [Option.map_some,Option.some.injEq] at hi
       have hk2:x.key=e0.key:=by rw [h3,<-hq];exact congrArg Prod.fst hi
       have:=other_key F h2 hx hij
       exact this hk2
     simp [hne]

structure zzw (P:Program)(k:TypeId)(encK:α->Value)(encV:β->Value)(w:World)(b r:Nat)(m todo:List (α × β)):Prop where
 blk: ∃es clock since seen c0,w.heap[b]? =some (.map es clock)/\Fit P k selfR es clock/\es.toList.map kvOf=m.map (fun p=>(encK p.1,encV p.2))/\
  w.heap[r]? =some (.mapIter (some b) since seen c0)/\(∀x∈es.toList,x.born<since)/\since<=c0/\since<=clock/\(leftOf es seen).toList.map kvOf=todo.map (fun p=>(encK p.1,encV p.2))
 sub: ∀p∈todo,p∈m

omit [DecidableEq α] in
theorem zzw.map {r:Nat}{todo:List (α × β)}(h:zzw P k encK encV w b r m todo):MapIs P k encK encV w b m:=by
 obtain⟨es,clock,since,seen,c0,hb,F,he,_⟩:=h.blk
 exact⟨es,clock,hb,F,he⟩

omit [DecidableEq α] in
theorem zzw.ne {r:Nat}{todo:List (α × β)}(h:zzw P k encK encV w b r m todo):r≠b:=by
 obtain⟨es,clock,since,seen,c0,hb,_,_,hr,_⟩:=h.blk
 intro e
 rw [e,hb] at hr
 cases hr

omit [DecidableEq α] in
theorem zzw.lt {r:Nat}{todo:List (α × β)}(h:zzw P k encK encV w b r m todo):r<w.heap.size:=by
 obtain⟨es,clock,since,seen,c0,_,_,_,hr,_⟩:=h.blk
 exact(Array.getElem?_eq_some_iff.1 hr).1

omit [DecidableEq α] in
theorem zzw.same {r:Nat}{todo:List (α × β)}(h:zzw P k encK encV w b r m todo)(hb:w'.heap[b]? =w.heap[b]?)(hr:w'.heap[r]? =w.heap[r]?):zzw P k encK encV w' b r m todo:=by
 obtain⟨es,clock,since,seen,c0,h1,F,he,h2,rest⟩:=h.blk
 exact⟨⟨es,clock,since,seen,c0,hb.trans h1,F,he,hr.trans h2,rest⟩,h.sub⟩

omit [DecidableEq α] in
theorem MapIs.range (h:MapIs P k encK encV w b m){t e:TypeId}(ht:P.underlying t=some (.map k e)):
  ∃w',(Instr.range t (.map (some b))).run P w= .ok (.pointer (some ⟨w.heap.size,0,none⟩)) w'/\zzw P k encK encV w' b w.heap.size m m/\RowKit.Below w.heap.size w w'/\w'.heap.size=w.heap.size+1:=by
 have hlt:=h.lt
 obtain⟨es,clock,hb,F,he⟩:=h.blk
 refine⟨_,run_range_map w t k e b es clock ht hb,⟨⟨es,clock,clock, #[],clock,((MapKept.heap_alloc w _).2 b hlt).trans hb,F,he,(MapKept.heap_alloc w _).1,F.stamped.1,zr,zr,?_⟩,fun _ h=>h⟩,zb.alloc zr _,by simp⟩
 unfold leftOf
 rw [Array.toList_filter,List.filter_eq_self.2 (by simp)]
 exact he

omit [DecidableEq α] in
theorem zzw.next {r:Nat}{todo:List (α × β)}(h:zzw P k encK encV w b r m todo)(ty:TypeId):
  (todo= [] /\(Instr.next (.pointer (some ⟨r,0,none⟩)) false ty).run P w= .ok (.tuple #[.bool false]) w)\/
  ∃p todo' w',todo.Perm (p::todo')/\p∈m/\(Instr.next (.pointer (some ⟨r,0,none⟩)) false ty).run P w= .ok (.tuple #[.bool true,encK p.1,encV p.2]) w'/\
   zzw P k encK encV w' b r m todo'/\w.grownBy w' (some r)/\w'.heap.size=w.heap.size/\(Instr.entry (.pointer (some ⟨r,0,none⟩))).run P w'= .ok (.tuple #[encK p.1,encV p.2]) w':=by
 have hne:=h.ne
 have hm:=h.map
 obtain⟨es,clock,since,seen,c0,hb,F,he,hr,hold,hsc,hsk,htd⟩:=h.blk
 rcases run_next_at (P:=P) w ty r b since c0 seen es clock hr hb hold hsc with⟨h0,hrun⟩|⟨x,hx,w1,hal,hrun⟩
 ·refine Or.inl ⟨?_,hrun⟩
  have:todo.length=0:=by
   have:=congrArg List.length htd
   simp at this
   omega
  exact List.length_eq_zero_iff.1 this
 ·right
  obtain⟨hem,hes⟩:=mem_left hx
  have hst:=(stamped_iff es clock).1 F.stamped
  -- where it stands among those to come
  obtain⟨j,hj,hjx⟩:=List.getElem_of_mem hx
  have hjt:j<todo.length:=by
   have:=congrArg List.length htd
   simp only [List.length_map] at this
   omega
  have hkv:kvOf x=(encK todo[j].1,encV todo[j].2):=by
   have:((leftOf es seen).toList.map kvOf)[j]? =(todo.map (fun p=>(encK p.1,encV p.2)))[j]? :=by rw [htd]
   rw [List.getElem?_map,List.getElem?_map,List.getElem?_eq_getElem hj,List.getElem?_eq_getElem hjt,hjx] at this
   simpa using this
  have hr1:w1.heap[r]? =some (.mapIter (some b) since seen c0):=by rcases hal with rfl|rfl<;>exact hr
  have hb1:w1.heap[b]? =some (.map es clock):=by rcases hal with rfl|rfl<;>exact hb
  have hset:=heap_set (o':= .mapIter (some b) since (seen.push x.born) clock) hr1
  have hb':(setBlock w1 r (.mapIter (some b) since (seen.push x.born) clock)).heap[b]? =some (.map es clock):=(hset.2 b (fun e1=>hne e1.symm)).trans hb1
  have hleft:(leftOf es (seen.push x.born)).toList=(leftOf es seen).toList.eraseIdx j:=by
   have e1:(leftOf es (seen.push x.born)).toList=(leftOf es seen).toList.filter (fun y=> !(y.born==x.born)):=by
    unfold leftOf
    rw [Array.toList_filter,Array.toList_filter,List.filter_filter]
    apply List.filter_congr
    intro y _
    rw [contains_push]
    cases seen.contains y.born<;>cases(y.born==x.born)<;>rfl
   rw [e1]
   have hnd:((leftOf es seen).toList.map (·.born)).Nodup:=by
    unfold leftOf
    rw [Array.toList_filter]
    exact(hst.2.1).sublist ((List.filter_sublist).map _)
   clear e1 htd hkv hjt
   revert j
   generalize (leftOf es seen).toList=L at hx hnd
   clear hx
   induction L with
   |nil=>intro j hj;simp at hj
   |cons y L ih=>
    intro j hj hjx
    have hn:=List.nodup_cons.1 hnd
    cases j with
    |zero=>
     simp only [List.getElem_cons_zero] at hjx
     subst hjx
     simp only [List.eraseIdx_cons_zero,List.filter_cons,beq_self_eq_true,Bool.not_true,Bool.false_eq_true,if_false]
     apply List.filter_eq_self.2
     intro z hz
     have:z.born≠y.born:=fun e=>hn.1 (by show y.born∈_;rw [<-e];exact List.mem_map.2 ⟨z,hz,rfl⟩)
     simp [this]
    |succ j=>
     simp only [List.getElem_cons_succ] at hjx
     have hj':j<L.length:=by simpa using hj
     have:y.born≠x.born:=fun e=>hn.1 (by show y.born∈_;rw [e];exact List.mem_map.2 ⟨x,by rw [<-hjx];exact List.getElem_mem hj',rfl⟩)
     have hb1:(!(y.born==x.born))=true:=by simp [this]
     rw [List.filter_cons,if_pos hb1,List.eraseIdx_cons_succ]
     congr 1
     exact ih hn.2 j hj' hjx
  have hkx:x.key=encK todo[j].1:=congrArg Prod.fst hkv
  have hvx:x.val=encV todo[j].2:=congrArg Prod.snd hkv
  refine⟨todo[j],todo.eraseIdx j,setBlock w1 r (.mapIter (some b) since (seen.push x.born) clock),?_,?_,?_,⟨⟨es,clock,since,seen.push x.born,clock,hb',F,he,hset.1,hold,hsk,hsk,?_⟩,fun p hp=>h.sub p (List.mem_of_mem_eraseIdx hp)⟩,?_,?_,?_⟩
  ·exact(zyp todo j hjt).symm
  ·exact h.sub _ (List.getElem_mem hjt)
  ·rw [<-hkx,<-hvx];exact hrun
  ·rw [hleft,map_eraseIdx,map_eraseIdx,htd]
  ·rcases hal with rfl|rfl<;>exact⟨rfl,rfl,rfl,by simp [setBlock],fun i _ hi=>hset.2 i (fun e1=>hi (by rw [e1]))⟩
  ·rcases hal with rfl|rfl<;>simp [setBlock]
  ·rw [<-hkx,<-hvx]
   exact run_entry_at _ r b since seen es clock x hset.1 hb' hem hst.2.1
end
end Go.Herb
