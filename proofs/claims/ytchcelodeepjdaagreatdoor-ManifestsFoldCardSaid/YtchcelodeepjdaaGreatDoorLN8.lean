/- Lemmas and walks towards ManifestsFold. Conditions: each one tells its own. -/
import Derived.Test.YtchcelodeepjdaaGreatDoorMp
import Derived.Test.YtchcelodeepjdaaGreatDoorRd
import Derived.Test.YtchcelodeepjdaaGreatDoorProg
import Derived.Outline
import Derived.Deep.DeepCutAuto
import Derived.Deep.RegionHeld3
import Derived.Shelf.Small.Strs
import Derived.Shelf.Strings.SlTrimAscii
namespace Go.Herb

abbrev Ln:=Int × Int
def parL (l:List Ln)(k:Int):Option Int:=(l.find? (fun p=>decide (p.1=k))).map (·.2)
def SrtL (l:List Ln):Prop:=l.Pairwise (fun p q=>p.1<q.1)
structure zx9 (l:List Ln):Prop where
 first:l[0]? =some (0,0)
 srt:SrtL l
 par: ∀(i:Nat) (x:Ln),0<i->l[i]? =some x-> ∃j y,j<i/\l[j]? =some y/\y.1=x.2
theorem yyo {l:List Ln}(h:SrtL l){i:Nat}{x:Ln}(hx:l[i]? =some x):parL l x.1=some x.2:=by
 induction l generalizing i with
 |nil=>simp at hx
 |cons a l ih=>
  unfold parL
  obtain⟨h1,h2⟩:=List.pairwise_cons.1 h
  rw [List.find?_cons]
  cases i with
  |zero=>
   simp at hx
   subst hx
   simp
  |succ i=>
   simp at hx
   have hm:=h1 x (List.mem_of_getElem? hx)
   have hne:decide (a.1=x.1)=false:=decide_eq_false (by omega)
   rw [hne]
   exact ih h2 hx
theorem yz4 {l:List Ln}{k p:Int}(h:parL l k=some p): ∃i:Nat,l[i]? =some (k,p):=by
 unfold parL at h
 obtain⟨x,h1,h2⟩:=Option.map_eq_some_iff.1 h
 have h3:=List.find?_some h1
 simp at h3
 obtain⟨i,hi,he⟩:=List.getElem_of_mem (List.mem_of_find?_eq_some h1)
 refine⟨i,?_⟩
 rw [List.getElem?_eq_getElem hi,he,<-h3,<-h2]
theorem zx9.snoc {l:List Ln}(h:zx9 l){id par:Int}(hid: ∀x∈l,x.1<id)(hp: ∃p,parL l par=some p):zx9 (l++ [(id,par)]):=by
 have hl:0<l.length:=by
  have:=h.first
  obtain⟨h1,_⟩:=List.getElem?_eq_some_iff.1 this
  exact h1
 refine⟨by rw [List.getElem?_append_left hl];exact h.first,?_,fun i x hi hx=> ?_⟩
 ·unfold SrtL
  rw [List.pairwise_append]
  exact⟨h.srt,List.pairwise_singleton _ _,fun a ha b hb=>by rw [List.mem_singleton.1 hb];exact hid a ha⟩
 ·by_cases hlt:i<l.length
  ·rw [List.getElem?_append_left hlt] at hx
   obtain⟨j,y,hj,hy,he⟩:=h.par i x hi hx
   exact⟨j,y,hj,by rw [List.getElem?_append_left (by omega)];exact hy,he⟩
  ·rw [List.getElem?_append_right (by omega)] at hx
   have hi2:i=l.length:=by
    rcases Nat.lt_or_ge l.length i with h1|h1
    ·rw [List.getElem?_eq_none (by simp;omega)] at hx;cases hx
    ·omega
   subst hi2
   simp at hx
   subst hx
   obtain⟨p,hp⟩:=hp
   obtain⟨j,hj⟩:=yz4 hp
   obtain⟨h1,_⟩:=List.getElem?_eq_some_iff.1 hj
   exact⟨j,(par,p),h1,by rw [List.getElem?_append_left h1];exact hj,rfl⟩
end Go.Herb

namespace Go.Proofs.YtchcelodeepjdaaGreatDoor.Ln
open Go.RowKit Go.Herb

def lnc (x:Ln):List Value:= [.int .u64 x.1, .int .u64 x.2]
theorem zkd (x:Ln):(lnc x).length=2:=rfl
abbrev Lns (w:World)(a:Option Addr)(xs:List Ln):Prop:=Els lnc 2 w a xs
def cmpI (a b:Int):Int:=if a<b then -1 else if b<a then 1 else 0
theorem zvo (a:Int)(w:World):Calls Tryz.prog (112) #[.int .u64 a] w fun e w'=>e= .returned (.bool false)/\w=w':=by
 go_enter Tryz.func112,Tryz.ntmps112
 go_wp2
 go_ret
 exact⟨by simp,rfl⟩
theorem yvu (a b:Int)(w:World):Calls Tryz.prog (94) #[.int .u64 a, .int .u64 b] w fun e w'=>e= .returned (.int .i64 (cmpI a b))/\w=w':=by
 go_enter Tryz.func94,Tryz.ntmps94
 go_wp2_with(go_at_call 112;refine(zvo _ _).mono ?_;rintro e w' ⟨rfl,rfl⟩)
 all_goals
  go_ret
  refine⟨?_,rfl⟩
  unfold cmpI
  first|(rw [if_pos (by omega)];rfl)|(rw [if_neg (by omega),if_pos (by omega)];rfl)|(rw [if_neg (by omega),if_neg (by omega)];rfl)
theorem yqh (x:Ln)(k:Int)(w:World):Calls Tryz.prog (115) #[.agg #[.int .u64 x.1, .int .u64 x.2], .int .u64 k] w fun e w'=>e= .returned (.int .i64 (cmpI x.1 k))/\Below w.heap.size w w':=by
 have HB:=zh (show Below w.heap.size w (w.alloc (.cells #[.int .u64 x.1, .int .u64 x.2] (53)))from zb.alloc zr _)
 go_enter Tryz.func115,Tryz.ntmps115
 go_wp2_with(go_at_call 94;refine(yvu _ _ _).mono ?_;rintro e w' ⟨rfl,rfl⟩)
 go_ret
 exact⟨rfl,HB.out⟩
theorem yyc {xs:List Ln}(h:SrtL xs){i j:Nat}(hi:i<=j){y x:Ln}(hy:xs[i]? =some y)(hx:xs[j]? =some x):y.1<=x.1:=by
 obtain⟨h1,e1⟩:=List.getElem?_eq_some_iff.1 hy
 obtain⟨h2,e2⟩:=List.getElem?_eq_some_iff.1 hx
 rcases Nat.lt_or_eq_of_le hi with hl|rfl
 ·have:=List.pairwise_iff_getElem.1 h i j h1 h2 hl
  rw [e1,e2] at this
  omega
 ·rw [e1] at e2;rw [e2];exact Int.le_refl _

def yvg (xs:List Ln)(k:Int)(n:Nat)(w:World)(e:Ending)(w':World):Prop:=
 ∃(i:Nat) (b:Bool),e= .returned (.tuple #[.int .i64 i, .bool b])/\i<=n/\(∀(j:Nat) (x:Ln),j<i->xs[j]? =some x->x.1<k)/\(∀(j:Nat) (x:Ln),i<=j->xs[j]? =some x->k<=x.1)/\(b=true↔ ∃p,xs[i]? =some (k,p))/\Below w.heap.size w w'

set_option maxRecDepth 100000 in
set_option maxHeartbeats 1000000 in
theorem bsL_any (a:Option Addr)(cap n:Nat)(xs:List Ln)(k:Int)(w:World)(hE:Lns w a xs)(hn:xs.length=n)(hm:n<1000000)(hs:SrtL xs):
  Calls Tryz.prog (114) #[.slice a n cap, .int .u64 k, .func (.func (115)) #[] #[]] w (yvg xs k n w):=by
 have HE:=zh hE
 have HN:=zh hn
 have HS:=zh hs
 clear hE hn hs
 go_enter Tryz.func114,Tryz.ntmps114
 go_wp2_with fail
 go_loopg [9,10] n (fun gk iv jv wr=> ∃i j:Nat,i+gk=j/\j<=n/\iv= .int .i64 i/\jv= .int .i64 j/\Hid (∀(m:Nat) (x:Ln),m<i->xs[m]? =some x->x.1<k)/\Hid (∀(m:Nat) (x:Ln),j<=m->xs[m]? =some x->k<=x.1)/\Hid (Below w.heap.size w wr))
 case atStart=>exact⟨0,n,by omega,zr,rfl,rfl,zh (fun m x h=>by omega),zh (fun m x h hx=>by obtain⟨h1,_⟩:=List.getElem?_eq_some_iff.1 hx;have:=HN.out;omega),zh zb⟩
 case round=>
  obtain⟨i,j,hij,hjn,rfl,rfl,HLO,HHI,HB⟩:=hrel
  by_cases hlt:i<j
  ·have h1:(i:Int)<(j:Int):=by omega
   have hw1:IntKind.i64.wrap ((i:Int)+(j:Int))=(i:Int)+(j:Int):=IntWalk.i64_in _ (by omega)
   obtain⟨h,hh⟩: ∃h:Nat,h=(i+j)/ 2:=⟨_,rfl⟩
   have hdiv:((i:Int)+(j:Int))/ 2=(h:Int):=by omega
   have hih:i<=h:=by omega
   have hhj:h<j:=by omega
   have hh0:(0:Int)<=(h:Int):=by omega
   have hh1:(h:Int)<(n:Int):=by omega
   have hw2:IntKind.i64.wrap ((h:Int)+1)=(h:Int)+1:=IntWalk.i64_in _ (by omega)
   have hhl:h<xs.length:=by have:=HN.out;omega
   obtain⟨b,o,rfl,hlb,hcell⟩:=HE.out.get h hhl
   have x0:=(HB.out.cell (p:=⟨b,_,none⟩) hlb).trans (hcell 0 _ rfl)
   have x1:=(HB.out.cell (p:=⟨b,_,none⟩) hlb).trans (hcell 1 _ rfl)
   simp only [Nat.add_zero] at x0 x1
   have HX:=zh (List.getElem?_eq_getElem hhl)
   generalize xs[h] =x at x0 x1 HX
   clear hcell hh
   by_cases hc:x.1<k
   ·have hcmp:cmpI x.1 k= -1:=by unfold cmpI;rw [if_pos hc]
    have HLO2:=zh (show∀(m:Nat) (y:Ln),m<h+1->xs[m]? =some y->y.1<k from fun m y hm hy=>by
     have:=yyc HS.out (show m<=h by omega) hy HX.out
     omega)
    have HBY:=zh (fun u=>yqh x k u)
    rw [hcmp] at HBY
    clear hc hcmp
    go_wp2_with fail
    refine(HBY.out wr).mono ?_
    rintro e w1 ⟨rfl,hb1⟩
    have HB1:=zh (HB.out.trans (hb1.mono HB.out.size))
    clear hb1 x0 x1
    go_wp2_with fail
    go_roundg(j - (h+1))
    case measure=>omega
    case rel=>exact⟨h+1,j,by omega,hjn,by go_num,rfl,HLO2,HHI,HB1⟩
   ·have hcmp: ¬cmpI x.1 k<0:=by unfold cmpI;rw [if_neg hc];split<;>omega
    have HHI2:=zh (show∀(m:Nat) (y:Ln),h<=m->xs[m]? =some y->k<=y.1 from fun m y hm hy=>by
     have:=yyc HS.out hm HX.out hy
     omega)
    have HBY:=zh (fun u=>yqh x k u)
    obtain⟨cv,hcv⟩: ∃cv,cv=cmpI x.1 k:=⟨_,rfl⟩
    rw [<-hcv] at HBY hcmp
    clear hc hcv
    go_wp2_with fail
    refine(HBY.out wr).mono ?_
    rintro e w1 ⟨rfl,hb1⟩
    have HB1:=zh (HB.out.trans (hb1.mono HB.out.size))
    clear hb1 x0 x1
    go_wp2_with fail
    go_roundg(h - i)
    case measure=>omega
    case rel=>exact⟨i,h,by omega,by omega,rfl,by go_num,HLO,HHI2,HB1⟩
  ·have hij2:i=j:=by omega
   subst hij2
   by_cases hin:i<n
   ·have h0:(0:Int)<=(i:Int):=by omega
    have h1:(i:Int)<(n:Int):=by omega
    have hhl:i<xs.length:=by have:=HN.out;omega
    obtain⟨b,o,rfl,hlb,hcell⟩:=HE.out.get i hhl
    have x0:=(HB.out.cell (p:=⟨b,_,none⟩) hlb).trans (hcell 0 _ rfl)
    have x1:=(HB.out.cell (p:=⟨b,_,none⟩) hlb).trans (hcell 1 _ rfl)
    simp only [Nat.add_zero] at x0 x1
    have HX:=zh (List.getElem?_eq_getElem hhl)
    generalize xs[i] =x at x0 x1 HX
    clear hcell
    have HBY:=zh (fun u=>yqh x k u)
    obtain⟨cv,hcv⟩: ∃cv,cv=cmpI x.1 k:=⟨_,rfl⟩
    rw [<-hcv] at HBY
    have HBB:=zh (show(decide (cv=0)=true↔ ∃p,xs[i]? =some (k,p))/\((cv==0)=decide (cv=0))from by
     refine⟨?_,by by_cases h:cv=0<;>simp [h]⟩
     rw [decide_eq_true_eq,hcv,HX.out]
     unfold cmpI
     constructor
     ·intro h
      refine⟨x.2,?_⟩
      have:x.1=k:=by
       by_cases g1:x.1<k
       ·rw [if_pos g1] at h;cases h
       ·rw [if_neg g1] at h
        by_cases g2:k<x.1
        ·rw [if_pos g2] at h;cases h
        ·omega
      rw [<-this]
     ·rintro⟨p,h⟩
      injection h with h
      rw [h]
      simp)
    have hbq:=HBB.out.2
    clear hcv
    go_wp2_with fail
    refine(HBY.out wr).mono ?_
    rintro e w1 ⟨rfl,hb1⟩
    have HB1:=zh (HB.out.trans (hb1.mono HB.out.size))
    clear hb1 x0 x1
    go_wp2_with fail
    go_ret2
    unfold yvg
    exact⟨i,decide (cv=0),by first|rfl|(rw [<-hbq];done)|(rw [<-hbq];rfl)|(simp [hbq];done),hjn,HLO.out,HHI.out,HBB.out.1,HB1.out⟩
   ·have hin2: ¬(i:Int)<(n:Int):=by omega
    go_wp2_with fail
    go_ret2
    unfold yvg
    exact⟨i,false,rfl,hjn,HLO.out,HHI.out,⟨(fun h=>by cases h),fun⟨p,h⟩=>by
     obtain⟨h1,_⟩:=List.getElem?_eq_some_iff.1 h
     have:=HN.out
     omega⟩,HB.out⟩
end Go.Proofs.YtchcelodeepjdaaGreatDoor.Ln

namespace Go.Herb
theorem yz3 {l:List Ln}{k:Int}(h: ∀x∈l,x.1≠k):parL l k=none:=by
 unfold parL
 rw [Option.map_eq_none_iff,List.find?_eq_none]
 intro x hx
 simpa using h x hx
end Go.Herb
namespace Go.Proofs.YtchcelodeepjdaaGreatDoor.Ln
open Go.RowKit Go.Herb

abbrev zxx (ba:Option Addr)(bn bc:Nat)(la:Option Addr)(ln lc:Nat):Value:= .agg #[.slice ba bn bc, .slice la ln lc]
def LineAt (xs:List Ln)(k:Int)(r:Int):Prop:=(∃(i:Nat) (p:Int),r=i/\xs[i]? =some (k,p)/\parL xs k=some p)\/(r= -1/\parL xs k=none)
def zki (xs:List Ln)(k:Int)(w:World)(e:Ending)(w':World):Prop:= ∃r:Int,e= .returned (.int .i64 r)/\LineAt xs k r/\Below w.heap.size w w'
theorem yku (ba:Option Addr)(bn bc:Nat)(la:Option Addr)(lc n:Nat)(xs:List Ln)(k:Int)(w:World)(hE:Lns w la xs)(hn:xs.length=n)(hm:n<1000000)(hs:SrtL xs):
  Calls Tryz.prog (98) #[zxx ba bn bc la n lc, .int .u64 k] w (zki xs k w):=by
 obtain⟨W,hW⟩: ∃W:World,W=w.alloc (.cells #[.slice ba bn bc, .slice la n lc] (133)):=⟨_,rfl⟩
 have hB:Below w.heap.size w W:=by rw [hW];exact zb.alloc zr _
 have HB:=zh hB
 have HS:=zh hs
 have HBS:=zh (bsL_any la lc n xs k W (hE.ext hB) hn hm hs)
 rw [hW] at HBS
 clear hB hE hn hs
 go_enter Tryz.func98,Tryz.ntmps98
 go_wp2_with fail
 refine(HBS.out).mono ?_
 rw [<-hW]
 rintro e w1 ⟨i,b,rfl,hi,hlo,hhi,hb,hB1⟩
 have HB1:=zh (HB.out.trans (hB1.mono HB.out.size))
 cases b with
 |true=>
  obtain⟨p,hp⟩:=hb.1 rfl
  have HE:=zh (show zki xs k w (.returned (.int .i64 (i:Int))) w1 from⟨i,rfl, .inl ⟨i,p,rfl,hp,yyo HS.out (x:=(k,p)) hp⟩,HB1.out⟩)
  clear hlo hhi hb hB1 hp hW HBS
  go_wp2_with fail
  go_ret
  exact HE.out
 |false=>
  have hno:parL xs k=none:=yz3 (fun x hx e=>by
   obtain⟨j,hj,he⟩:=List.getElem_of_mem hx
   have hx':xs[j]? =some x:=by rw [List.getElem?_eq_getElem hj,he]
   rcases Nat.lt_trichotomy j i with h|h|h
   ·have:=hlo j x h hx';omega
   ·subst h
    have:=hb.2 ⟨x.2,by rw [hx',<-e]⟩
    cases this
   ·have hi2:i<xs.length:=by omega
    have h1:=hhi i _ zr (List.getElem?_eq_getElem hi2)
    have h2:=List.pairwise_iff_getElem.1 HS.out i j hi2 hj h
    rw [he] at h2
    omega)
  have HE:=zh (show zki xs k w (.returned (.int .i64 (-1))) w1 from⟨-1,rfl, .inr ⟨rfl,hno⟩,HB1.out⟩)
  clear hlo hhi hb hB1 hW HBS hno
  go_wp2_with fail
  go_ret
  exact HE.out
end Go.Proofs.YtchcelodeepjdaaGreatDoor.Ln

namespace Go.Proofs.YtchcelodeepjdaaGreatDoor.Ln
open Go.RowKit Go.Herb

theorem yzl {b o n lc k:Nat}{z:Int}(hz:z=(k:Int))(hk:k<=lc)(h0:0<lc): ∀W,(Instr.slice (28) (.slice (some ⟨b,o,none⟩) n lc) none (some (.int .i64 z)) none).run Tryz.prog W= .ok (.slice (some ⟨b,o,none⟩) k lc) W:=fun W=>by
 have h1:lc≠0:=by omega
 subst hz
 rw [run_slice_h (P:=Tryz.prog) W (28) (some ⟨b,o,none⟩) n lc (by kernel_rfl) .i64 k (by omega) (by omega)]
 rw [show Tryz.prog.elem (28)=(53)from by kernel_rfl,Tryz.sizeOf53]
 simp [sliced,Result.andThen,addr_add,h1]
theorem xq3 {b o n lc:Nat}(_:n<=lc)(hi:1<=n):
  ∃a2,(∀W,(Instr.slice (28) (.slice (some ⟨b,o,none⟩) n lc) (some (.int .i64 1)) none none).run Tryz.prog W= .ok (.slice (some a2) (n - 1) (lc - 1)) W)/\(1<lc->a2=⟨b,o+2,none⟩):=by
 refine⟨if lc=1 then⟨b,o,none⟩else⟨b,o+2,none⟩,fun W=> ?_,fun h=>if_neg (by omega)⟩
 have:=run_slice_l (P:=Tryz.prog) W (28) (some ⟨b,o,none⟩) n lc (by kernel_rfl) .i64 1 (by omega) (by omega)
 rw [this]
 rw [show Tryz.prog.elem (28)=(53)from by kernel_rfl,Tryz.sizeOf53]
 by_cases h0:lc=1<;>simp [sliced,Result.andThen,addr_add,h0]
theorem run_eqLn (a b c d:Int)(w:World):(Op.equalIn 10000 (53) (.agg #[.int .u64 a, .int .u64 b]) (.agg #[.int .u64 c, .int .u64 d])).run Tryz.prog w= .ok (decide (a=c/\b=d)) w:=by
 have hS:Tryz.prog.underlying (53)=some (.struct (Tryz.prog.fieldsOf (53))):=by kernel_rfl
 have hp:Tryz.prog.stoodInHeld (53)=false:=by kernel_rfl
 rw [show(10000:Nat)=9999+1 from rfl,run_equalIn_agg w 9999 (53) _ _ hS hp]
 simp only [Program.fieldsOf,Tryz.underlying53]
 have u9:=Tryz.underlying26
 go_simp
 by_cases h1:a=c<;>by_cases h2:b=d<;>simp [h1,h2]
theorem zy5 (a b c d:Int)(w:World):(binOp .neq (53) (.agg #[.int .u64 a, .int .u64 b]) (.agg #[.int .u64 c, .int .u64 d])).run Tryz.prog w= .ok (.bool (!decide (a=c/\b=d))) w:=by
 rw [run_neq_struct,run_eqLn];rfl
theorem yjg:Tryz.prog.eqGuardType Tryz.prog.depth (53)=false:=by kernel_rfl

def zw3 (xs:List Ln)(w:World)(e:Ending)(w':World):Prop:= ∃r:Bool,e= .returned (.bool r)/\(r=true↔zx9 xs/\xs.length<=48)/\Below w.heap.size w w'
theorem yje {xs:List Ln}(h:zx9 xs){i:Nat}(hi:0<i):zx9 (xs.take i):=by
 refine⟨by rw [List.getElem?_take,if_pos hi];exact h.first,List.Pairwise.sublist (List.take_sublist _ _) h.srt,fun j x hj hx=> ?_⟩
 rw [List.getElem?_take] at hx
 split at hx
 ·obtain⟨m,y,hm,hy,e⟩:=h.par j x hj hx
  exact⟨m,y,hm,by rw [List.getElem?_take,if_pos (by omega)];exact hy,e⟩
 ·cases hx
theorem zvm {xs:List Ln}{i:Nat}{x y:Ln}(h:zx9 (xs.take (i+1)))(hy:xs[i]? =some y)(hx:xs[i+1]? =some x)(hlt:y.1<x.1){p:Int}(hp:parL (xs.take (i+1)) x.2=some p):zx9 (xs.take (i+2)):=by
 obtain⟨hi,he⟩:=List.getElem?_eq_some_iff.1 hx
 obtain⟨hi',he'⟩:=List.getElem?_eq_some_iff.1 hy
 have e:xs.take (i+2)=xs.take (i+1)++ [(x.1,x.2)] :=by rw [List.take_succ_eq_append_getElem hi,he]
 rw [e]
 refine h.snoc (fun z hz=> ?_) ⟨p,hp⟩
 obtain⟨j,hj,hze⟩:=List.getElem_of_mem hz
 simp at hj
 have hl:(xs.take (i+1)).length=i+1:=by simp;omega
 rcases Nat.lt_or_eq_of_le (show j<=i by omega)with h1|h1
 ·have:=List.pairwise_iff_getElem.1 h.srt j i (by omega) (by omega) h1
  rw [hze,List.getElem_take,he'] at this
  omega
 ·subst h1
  rw [List.getElem_take,he'] at hze
  rw [<-hze]
  exact hlt
theorem zjy {xs:List Ln}{i:Nat}{x y:Ln}(h:zx9 xs)(hy:xs[i]? =some y)(hx:xs[i+1]? =some x):y.1<x.1/\ ∃p,parL (xs.take (i+1)) x.2=some p:=by
 obtain⟨hi,he⟩:=List.getElem?_eq_some_iff.1 hx
 obtain⟨hi',he'⟩:=List.getElem?_eq_some_iff.1 hy
 refine⟨?_,?_⟩
 ·have:=List.pairwise_iff_getElem.1 h.srt i (i+1) hi' hi (by omega)
  rw [he,he'] at this
  exact this
 ·obtain⟨j,z,hj,hz,e⟩:=h.par (i+1) x (by omega) hx
  rw [<-e]
  exact⟨z.2,yyo (yje h (by omega)).srt (i:=j) (x:=z) (by rw [List.getElem?_take,if_pos hj];exact hz)⟩
end Go.Proofs.YtchcelodeepjdaaGreatDoor.Ln

namespace Go.Proofs.YtchcelodeepjdaaGreatDoor.Ln
open Go.RowKit Go.Herb

set_option maxRecDepth 100000 in
set_option maxHeartbeats 2000000 in
theorem ywt (ba:Option Addr)(bn bc:Nat)(la:Option Addr)(lc n:Nat)(xs:List Ln)(w:World)(hE:Lns w la xs)(hn:xs.length=n)(hle:n<=lc)(hmx:lc<=maxLen):
  Calls Tryz.prog (70) #[zxx ba bn bc la n lc] w (zw3 xs w):=by
 obtain⟨W,hW⟩: ∃W:World,W=w.alloc (.cells #[.slice ba bn bc, .slice la n lc] (133)):=⟨_,rfl⟩
 have hB:Below w.heap.size w W:=by rw [hW];exact zb.alloc zr _
 have hx0:W.heap[w.heap.size]? =some (.cells #[.slice ba bn bc, .slice la n lc] (133) (0,0)):=by rw [hW];exact zq3 rfl _
 have HB:=zh hB
 have HE:=zh hE
 have HN:=zh hn
 have HC:Hid (∀u,Below W.heap.size W u->u.cell? ⟨w.heap.size,1,none⟩=some (.slice la n lc)):=zh (fun u hu=>by
  have h1:=zq0 (zq4 hx0 hu (zq2 hx0)) 1
  simp at h1
  exact h1)
 unfold maxLen at hmx
 have HW:=zh hW
 have hneq:=zy5
 have hgt:=yjg
 clear hB hx0 hE hn
 have hout: ¬(zx9 xs/\xs.length<=48)->Hid (∀u,Below w.heap.size w u->zw3 xs w (.returned (.bool false)) u):=fun h=>zh (fun u hu=>⟨false,rfl,⟨(fun h=>by cases h),fun h2=>absurd h2 h⟩,hu⟩)
 have HOUT:=zh hout
 clear hout
 go_enter Tryz.func70,Tryz.ntmps70
 by_cases h1:n<1
 ·have HF:=HOUT.out (fun h=>by
   have h2:=h.1.first
   obtain⟨h3,_⟩:=List.getElem?_eq_some_iff.1 h2
   have:=HN.out
   omega)
  have h1':(n:Int)<1:=by omega
  clear hneq hgt
  go_wp2_with fail
  go_ret
  rw [<-HW.out]
  exact HF.out _ HB.out
 ·by_cases h2:48<n
  ·have HF:=HOUT.out (fun h=>by have:=HN.out;omega)
   have h1': ¬(n:Int)<1:=by omega
   have h2':(48:Int)<(n:Int):=by omega
   clear hneq hgt
   go_wp2_with fail
   go_ret
   rw [<-HW.out]
   exact HF.out _ HB.out
  ·have hn0:0<xs.length:=by have:=HN.out;omega
   have h1': ¬(n:Int)<1:=by omega
   have h2': ¬(48:Int)<(n:Int):=by omega
   have hidx:(0:Int)<(n:Int):=by omega
   obtain⟨b,o,rfl,hlb,hcell⟩:=HE.out.get 0 hn0
   have x0:=(HB.out.cell (p:=⟨b,_,none⟩) hlb).trans (hcell 0 _ rfl)
   have x1:=(HB.out.cell (p:=⟨b,_,none⟩) hlb).trans (hcell 1 _ rfl)
   simp only [Nat.zero_mul,Nat.add_zero] at x0 x1
   have HX:=zh (List.getElem?_eq_getElem hn0)
   generalize xs[0] =x at x0 x1 HX
   rw [HW.out] at x0 x1
   obtain⟨a2,hsl,ha2⟩:=xq3 (b:=b) (o:=o) hle (by omega:1<=n)
   clear hcell
   by_cases hf:x.1=0/\x.2=0
   ·have hfd:decide (x.1=0/\x.2=0)=true:=decide_eq_true hf
    have hf1:decide (x.1=0)=true:=decide_eq_true hf.1
    have hf2:decide (x.2=0)=true:=decide_eq_true hf.2
    have HX0:=zh (show xs[0]? =some (0,0)by rw [HX.out];exact congrArg some (Prod.ext hf.1 hf.2))
    have HP0:=zh (show zx9 (xs.take 1)by
     have ht:xs.take 1= [(0,0)] :=by
      cases hxs:xs with
      |nil=>rw [hxs] at hn0;simp at hn0
      |cons z t=>
       have:=HX0.out
       rw [hxs] at this
       simp at this
       simp [this]
     rw [ht]
     exact⟨rfl,List.pairwise_singleton _ _,fun i y hi hy=>by
      rw [List.getElem?_eq_none (by simp;omega)] at hy;cases hy⟩)
    clear hf
    go_wp2_with fail
    rw [<-HW.out]
    clear x0 x1 hneq hgt hfd hf1 hf2
    obtain⟨m,hm⟩: ∃m,m=n - 1:=⟨_,rfl⟩
    rw [<-hm] at hsl ⊢
    have hlc:m+1=n:=by omega
    clear hm hidx
    go_loopg [28] m (fun gk iv wr=> ∃i:Nat,i+gk=m/\iv= .int .i64 i/\Hid (zx9 (xs.take (i+1)))/\Hid (Below W.heap.size W wr))
    case atStart=>exact⟨0,by omega,rfl,HP0,zh zb⟩
    case round=>
     obtain⟨i,hi,rfl,HFI,HBW⟩:=hrel
     have HBw:=zh (HB.out.trans (HBW.out.mono HB.out.size))
     by_cases hlt:i<m
     ·have hil:i<xs.length:=by have:=HN.out;omega
      have hil2:i+1<xs.length:=by have:=HN.out;omega
      have ha2':=ha2 (by omega)
      obtain⟨b',o',he',_,hcy⟩:=HE.out.get i hil
      injection he' with he'
      cases he'
      obtain⟨b',o',he',_,hcx⟩:=HE.out.get (i+1) hil2
      injection he' with he'
      cases he'
      have HY:=zh (List.getElem?_eq_getElem hil)
      have HX2:=zh (List.getElem?_eq_getElem hil2)
      generalize xs[i] =y at HY hcy
      generalize xs[i+1] =z at HX2 hcx
      have HCE:Hid (∀u,Below wr.heap.size wr u->u.cell? ⟨b,o+i*2,none⟩=some (.int .u64 y.1)/\u.cell? ⟨b,o+2+i*2,none⟩=some (.int .u64 z.1)/\u.cell? ⟨b,o+2+i*2+1,none⟩=some (.int .u64 z.2)/\u.cell? ⟨w.heap.size,1,none⟩=some (.slice (some ⟨b,o,none⟩) n lc)):=zh (fun u hu=>by
       have hu2:=HBw.out.trans (hu.mono HBw.out.size)
       have f0:=(hu2.cell (p:=⟨b,_,none⟩) hlb).trans (hcy 0 _ rfl)
       have f1:=(hu2.cell (p:=⟨b,_,none⟩) hlb).trans (hcx 0 _ rfl)
       have f2:=(hu2.cell (p:=⟨b,_,none⟩) hlb).trans (hcx 1 _ rfl)
       rw [show o+(i+1)*2=o+2+i*2 by omega] at f1 f2
       exact⟨f0,f1,f2,HC.out u (HBW.out.trans (hu.mono HBW.out.size))⟩)
      obtain⟨g0,g1,g2,g3⟩:=HCE.out wr zb
      obtain⟨-, -, -,g4⟩:=HCE.out (wr.alloc (.cells #[.int .u64 z.1, .int .u64 z.2] (53))) (zb.alloc zr _)
      have hi0:(0:Int)<=(i:Int):=by omega
      have hi1:(i:Int)<((n - 1:Nat):Int):=by omega
      have hi2:(i:Int)<(n:Int):=by omega
      have hi3:(i:Int)<(m:Int):=by omega
      have hw1:IntKind.i64.wrap ((i:Int)+1)=(i:Int)+1:=IntWalk.i64_in _ (by omega)
      have hlo:=yzl (b:=b) (o:=o) (n:=n) (lc:=lc) (k:=i+1) (z:=(i:Int)+1) (by omega) (by omega) (by omega)
      obtain⟨X,hX⟩: ∃X:World,X=(wr.alloc (.cells #[.int .u64 z.1, .int .u64 z.2] (53))).alloc (.cells #[.slice none 0 0, .slice (some ⟨b,o,none⟩) (i+1) lc] (133)):=⟨_,rfl⟩
      have hXb:Below wr.heap.size wr X:=by rw [hX];exact(zb.alloc zr _).alloc (by simp) _
      have hXl:X.heap[wr.heap.size]? =some (.cells #[.int .u64 z.1, .int .u64 z.2] (53) (0,0)):=by
       rw [hX]
       exact zq4 (zq3 rfl _) (zb.alloc zr _) (by simp)
      have hXp:X.heap[wr.heap.size+1]? =some (.cells #[.slice none 0 0, .slice (some ⟨b,o,none⟩) (i+1) lc] (133) (0,0)):=by rw [hX];exact zq3 (by simp) _
      have HXB:=zh hXb
      have HS:Hid (∀u,Below X.heap.size X u->u.cell? ⟨b,o+i*2,none⟩=some (.int .u64 y.1)/\u.cell? ⟨w.heap.size,1,none⟩=some (.slice (some ⟨b,o,none⟩) n lc)/\u.cell? ⟨wr.heap.size,0,none⟩=some (.int .u64 z.1)/\u.cell? ⟨wr.heap.size,1,none⟩=some (.int .u64 z.2)/\u.cell? ⟨wr.heap.size+1,0,none⟩=some (.slice none 0 0)/\u.cell? ⟨wr.heap.size+1,1,none⟩=some (.slice (some ⟨b,o,none⟩) (i+1) lc)):=zh (fun u hu=>by
       have k1:=zq0 (zq4 hXl hu (zq2 hXl)) 0
       have k2:=zq0 (zq4 hXl hu (zq2 hXl)) 1
       have k3:=zq0 (zq4 hXp hu (zq2 hXp)) 0
       have k4:=zq0 (zq4 hXp hu (zq2 hXp)) 1
       simp at k1 k2 k3 k4
       obtain⟨e0, -, -,e3⟩:=HCE.out u (hXb.trans (hu.mono hXb.size))
       exact⟨e0,e3,k1,k2,k3,k4⟩)
      have hEX:Lns X (some ⟨b,o,none⟩) (xs.take (i+1)):=(HE.out.take (i+1)).ext (HBw.out.trans (hXb.mono HBw.out.size))
      have HLA:Hid (∀u,Below X.heap.size X u->Calls Tryz.prog (98) #[zxx none 0 0 (some ⟨b,o,none⟩) (i+1) lc, .int .u64 z.2] u (zki (xs.take (i+1)) z.2 u)):=zh (fun u hu=>yku none 0 0 (some ⟨b,o,none⟩) lc (i+1) (xs.take (i+1)) z.2 u (hEX.ext hu) (by simp;omega) (by omega) HFI.out.srt)
      subst ha2'
      clear hcy hcx hXb hXl hXp hEX hil hil2
      go_wp2_with fail
      rw [<-hX]
      clear hX g0 g1 g2 g3 g4
      have HDA:=zh (show Below X.heap.size X X.drew from(Below.refl X.heap.size X).drew)
      have HWX:=zh (show Below w.heap.size w X from HBw.out.trans (HXB.out.mono HBw.out.size))
      have HWX2:=zh (show Below W.heap.size W X from HBW.out.trans (HXB.out.mono HBW.out.size))
      by_cases hyz:y.1<z.1
      ·have d1:decide (z.1<=y.1)=false:=decide_eq_false (by omega)
       cases hp:parL (xs.take (i+1)) z.2 with
       |none=>
        have HLN:=zh (show∀u,Below X.heap.size X u->Calls Tryz.prog (98) #[zxx none 0 0 (some ⟨b,o,none⟩) (i+1) lc, .int .u64 z.2] u (fun e w'=>e= .returned (.int .i64 (-1))/\Below u.heap.size u w')from fun u hu=>by
         refine(HLA.out u hu).mono ?_
         rintro e w' ⟨r,rfl,⟨j,q, -, -,h3⟩|⟨rfl, -⟩,h2⟩
         ·rw [hp] at h3;cases h3
         ·exact⟨rfl,h2⟩)
        have HF:=HOUT.out (fun h=>by
         obtain⟨-,q,hq⟩:=zjy h.1 HY.out HX2.out
         rw [hp] at hq;cases hq)
        clear hyz hp HLA
        go_wp2_with fail
        go_region_held3 (fun u=>u.cell? ⟨b,o+i*2,none⟩=some (.int .u64 y.1)/\u.cell? ⟨w.heap.size,1,none⟩=some (.slice (some ⟨b,o,none⟩) n lc)/\u.cell? ⟨wr.heap.size,0,none⟩=some (.int .u64 z.1)/\u.cell? ⟨wr.heap.size,1,none⟩=some (.int .u64 z.2)/\u.cell? ⟨wr.heap.size+1,0,none⟩=some (.slice none 0 0)/\u.cell? ⟨wr.heap.size+1,1,none⟩=some (.slice (some ⟨b,o,none⟩) (i+1) lc)) (first|exact HS.out _ HDA.out|exact HS.out _ hbu) (first|(go_at_call 98;(with_reducible refine(HLN.out _ HDA.out).mono ?_);rintro e w5 ⟨rfl,hb5⟩;have hbu:=HDA.out.trans (hb5.mono HDA.out.size)))
        all_goals
         have HBU:=zh (HWX.out.trans (hbu.mono HWX.out.size))
         go_wp2
         go_ret
         exact HF.out _ HBU.out
       |some q=>
        have HLN:=zh (show∀u,Below X.heap.size X u->Calls Tryz.prog (98) #[zxx none 0 0 (some ⟨b,o,none⟩) (i+1) lc, .int .u64 z.2] u (fun e w'=> ∃j:Nat,e= .returned (.int .i64 (j:Int))/\Below u.heap.size u w')from fun u hu=>by
         refine(HLA.out u hu).mono ?_
         rintro e w' ⟨r,rfl,⟨j,q,rfl, -,h3⟩|⟨-,h3⟩,h2⟩
         ·exact⟨j,rfl,h2⟩
         ·rw [hp] at h3;cases h3)
        have HFN:=zh (zvm HFI.out HY.out HX2.out hyz hp)
        clear hyz hp HLA
        go_wp2_with fail
        go_region_held3 (fun u=>u.cell? ⟨b,o+i*2,none⟩=some (.int .u64 y.1)/\u.cell? ⟨w.heap.size,1,none⟩=some (.slice (some ⟨b,o,none⟩) n lc)/\u.cell? ⟨wr.heap.size,0,none⟩=some (.int .u64 z.1)/\u.cell? ⟨wr.heap.size,1,none⟩=some (.int .u64 z.2)/\u.cell? ⟨wr.heap.size+1,0,none⟩=some (.slice none 0 0)/\u.cell? ⟨wr.heap.size+1,1,none⟩=some (.slice (some ⟨b,o,none⟩) (i+1) lc)) (first|exact HS.out _ HDA.out|exact HS.out _ hbu) (first|(go_at_call 98;(with_reducible refine(HLN.out _ HDA.out).mono ?_);rintro e w5 ⟨j,rfl,hb5⟩;have hbu:=HDA.out.trans (hb5.mono HDA.out.size)))
        all_goals
         have HBU:=zh (HWX2.out.trans (hbu.mono HWX2.out.size))
         have hj0: ¬(j:Int)<0:=by omega
         go_wp2
         go_roundg(gk - 1)
         case measure=>omega
         case rel=>exact⟨i+1,by omega,by go_num,HFN,HBU⟩
      ·have d1:decide (z.1<=y.1)=true:=decide_eq_true (by omega)
       have HF:=HOUT.out (fun h=>hyz (zjy h.1 HY.out HX2.out).1)
       obtain⟨k0,k1,k2,k3,k4,k5⟩:=HS.out X zb
       clear hyz HLA
       go_wp2_with fail
       go_quiet (fail)
       have HBU:=zh (show Below w.heap.size w (X.drewN nq)from⟨HWX.out.os,HWX.out.tape,HWX.out.output,HWX.out.size,HWX.out.block⟩)
       go_wp2
       go_ret
       exact HF.out _ HBU.out
     ·have hie:xs.take (i+1)=xs:=List.take_of_length_le (by have:=HN.out;omega)
      have HT:=zh (show zw3 xs w (.returned (.bool true)) wr from⟨true,rfl,⟨fun _=>⟨by have:=HFI.out;rwa [hie] at this,by have:=HN.out;omega⟩,fun _=>rfl⟩,HBw.out⟩)
      clear hie
      go_wp2_with fail
      go_ret
      exact HT.out
   ·have HF:=HOUT.out (fun h=>by
     have h2:=h.1.first
     rw [HX.out] at h2
     injection h2 with h2
     exact hf (by rw [h2];exact⟨rfl,rfl⟩))
    have hfd:decide (x.1=0/\x.2=0)=false:=decide_eq_false hf
    clear hf
    go_wp2_with fail
    go_ret
    rw [<-HW.out]
    exact HF.out _ HB.out
end Go.Proofs.YtchcelodeepjdaaGreatDoor.Ln

namespace Go.Herb
abbrev Br:=ByteArray × Int × Int
def SrtB (l:List Br):Prop:=l.Pairwise (fun p q=>p.1.toList<q.1.toList)
end Go.Herb
namespace Go.Proofs.YtchcelodeepjdaaGreatDoor.Ln
open Go.RowKit Go.Herb Go.Lib

def brc (x:Br):List Value:= [.string x.1, .int .u64 x.2.1, .int .u64 x.2.2]
theorem zk9 (x:Br):(brc x).length=3:=rfl
abbrev Brs (w:World)(a:Option Addr)(xs:List Br):Prop:=Els brc 3 w a xs
end Go.Proofs.YtchcelodeepjdaaGreatDoor.Ln

namespace Go.Proofs
open Go.Shelf
def Tryz.lays160_ren:Go.Shelf.Ren:=⟨fun|160=>116|232=>139|231=>138|227=>140|234=>142|233=>141|236=>144|235=>143|228=>157|271=>160|151=>159|197=>158|120=>169|152=>168|260=>167|137=>172|119=>173|224=>174|225=>175|217=>176|266=>177|n=>n,fun|9=>9|4=>4|3=>3|5=>5|117=>202|116=>201|0=>0|124=>205|21=>21|105=>218|46=>171|119=>231|139=>234|138=>233|n=>n,fun|3=>1|4=>2|n=>n⟩
theorem Tryz.lays160:Go.Proofs.Lays.n160 Tryz.prog Tryz.lays160_ren:={
 mixed:=by kernel_rfl
 f119:=Tryz.func173.trans (congrArg some (by kernel_rfl))
 f120:=Tryz.func169.trans (congrArg some (by kernel_rfl))
 f137:=Tryz.func172.trans (congrArg some (by kernel_rfl))
 f151:=Tryz.func159.trans (congrArg some (by kernel_rfl))
 f152:=Tryz.func168.trans (congrArg some (by kernel_rfl))
 f160:=Tryz.func116.trans (congrArg some (by kernel_rfl))
 f197:=Tryz.func158.trans (congrArg some (by kernel_rfl))
 f217:=Tryz.func176.trans (congrArg some (by kernel_rfl))
 f224:=Tryz.func174.trans (congrArg some (by kernel_rfl))
 f225:=Tryz.func175.trans (congrArg some (by kernel_rfl))
 f227:=Tryz.func140.trans (congrArg some (by kernel_rfl))
 f228:=Tryz.func157.trans (congrArg some (by kernel_rfl))
 f231:=Tryz.func138.trans (congrArg some (by kernel_rfl))
 f232:=Tryz.func139.trans (congrArg some (by kernel_rfl))
 f233:=Tryz.func141.trans (congrArg some (by kernel_rfl))
 f234:=Tryz.func142.trans (congrArg some (by kernel_rfl))
 f235:=Tryz.func143.trans (congrArg some (by kernel_rfl))
 f236:=Tryz.func144.trans (congrArg some (by kernel_rfl))
 f260:=Tryz.func167.trans (congrArg some (by kernel_rfl))
 f266:=Tryz.func177.trans (congrArg some (by kernel_rfl))
 f271:=Tryz.func160.trans (congrArg some (by kernel_rfl))
 t0:=Tryz.underlying0
 a0:=Tryz.isAgg0
 z0:=Tryz.sizeOf0
 v0:=Tryz.zeroValue0
 t3:=Tryz.underlying3
 a3:=Tryz.isAgg3
 z3:=Tryz.sizeOf3
 v3:=Tryz.zeroValue3
 t4:=Tryz.underlying4
 a4:=Tryz.isAgg4
 z4:=Tryz.sizeOf4
 v4:=Tryz.zeroValue4
 t5:=Tryz.underlying5
 a5:=Tryz.isAgg5
 z5:=Tryz.sizeOf5
 v5:=Tryz.zeroValue5
 t9:=Tryz.underlying9
 a9:=Tryz.isAgg9
 z9:=Tryz.sizeOf9
 v9:=Tryz.zeroValue9
 t21:=Tryz.underlying21
 a21:=Tryz.isAgg21
 z21:=Tryz.sizeOf21
 v21:=Tryz.zeroValue21
 t46:=Tryz.underlying171
 a46:=Tryz.isAgg171
 z46:=Tryz.sizeOf171
 v46:=Tryz.zeroValue171
 t105:=Tryz.underlying218
 a105:=Tryz.isAgg218
 z105:=Tryz.sizeOf218
 v105:=Tryz.zeroValue218
 t116:=Tryz.underlying201
 a116:=Tryz.isAgg201
 z116:=Tryz.sizeOf201
 t117:=Tryz.underlying202
 a117:=Tryz.isAgg202
 z117:=Tryz.sizeOf202
 v117:=Tryz.zeroValue202
 t119:=Tryz.underlying231
 a119:=Tryz.isAgg231
 z119:=Tryz.sizeOf231
 t124:=Tryz.underlying205
 a124:=Tryz.isAgg205
 z124:=Tryz.sizeOf205
 v124:=Tryz.zeroValue205
 t138:=Tryz.underlying233
 a138:=Tryz.isAgg233
 z138:=Tryz.sizeOf233
 v138:=Tryz.zeroValue233
 t139:=Tryz.underlying234
 a139:=Tryz.isAgg234
 z139:=Tryz.sizeOf234
 v139:=Tryz.zeroValue234
 g3:=by kernel_rfl
 g4:=by kernel_rfl }
end Go.Proofs

namespace Go.Herb
open Go
def zkq:List UInt8:= [97,98,99,100,101,102,103,104,105,106,107,108,109,110,111,112,113,114,115,116,117,118,119,120,121,122,48,49,50,51,52,53,54,55,56,57]
def nameB (s:ByteArray):Bool:= !s.toList.isEmpty&&decide (s.size<=12)&&(Lib.trimS s.data.toList zkq).isEmpty
end Go.Herb
namespace Go.Proofs.YtchcelodeepjdaaGreatDoor.Ln
open Go.RowKit Go.Herb Go.Lib

theorem trim_any (s:ByteArray)(w:World)(hs:s.size<=9223372036854775807):
  Calls Tryz.prog 116 #[.string s, .string {data:= #[97,98,99,100,101,102,103,104,105,106,107,108,109,110,111,112,113,114,115,116,117,118,119,120,121,122,48,49,50,51,52,53,54,55,56,57]}] w fun e w'=> ∃r:ByteArray,e= .returned (.string r)/\r.toList.isEmpty=(Lib.trimS s.data.toList zkq).isEmpty/\Below w.heap.size w w':=by
 have hcon:=Any.strings_Trim_laid Tryz.lays160 (by kernel_rfl) s ⟨#[97,98,99,100,101,102,103,104,105,106,107,108,109,110,111,112,113,114,115,116,117,118,119,120,121,122,48,49,50,51,52,53,54,55,56,57]⟩ w hs (by decide) (ascii_of_all (by decide))
 refine Calls.mono hcon ?_
 rintro e w' ⟨rfl,hB⟩
 exact⟨_,rfl,by rw [ByteArray.toList_eq];rfl,hB⟩
set_option maxRecDepth 100000 in
theorem zyu (s:ByteArray)(w:World)(hs:s.size<=9223372036854775807):
  Calls Tryz.prog (99) #[.string s] w fun e w'=>e= .returned (.bool (nameB s))/\Below w.heap.size w w':=by
 unfold nameB
 have HT:=zh (trim_any s w hs)
 obtain⟨em,hem⟩: ∃em,em=s.toList.isEmpty:=⟨_,rfl⟩
 obtain⟨tr,htr⟩: ∃tr,tr=(Lib.trimS s.data.toList zkq).isEmpty:=⟨_,rfl⟩
 rw [<-hem,<-htr]
 rw [<-htr] at HT
 have hle:((s.size:Int)<=12)↔s.size<=12:=by omega
 by_cases h1:s.size<=12
 ·have h2:(s.size:Int)<=12:=by omega
  cases em with
  |true=>
   have he:=hem.symm
   clear hem htr hle
   go_enter Tryz.func99,Tryz.ntmps99
   go_wp2_with fail
   go_ret
   exact⟨by simp,zb⟩
  |false=>
   have he:=hem.symm
   clear hem htr hle
   go_enter Tryz.func99,Tryz.ntmps99
   go_wp2_with(go_at_call 116;refine HT.out.mono ?_;rintro e w' ⟨r,rfl,hr,hB⟩)
   go_ret
   exact⟨by simp [h1],hB⟩
 ·have h2: ¬(s.size:Int)<=12:=by omega
  cases em with
  |true=>
   have he:=hem.symm
   clear hem htr hle
   go_enter Tryz.func99,Tryz.ntmps99
   go_wp2_with fail
   go_ret
   exact⟨by simp,zb⟩
  |false=>
   have he:=hem.symm
   clear hem htr hle
   go_enter Tryz.func99,Tryz.ntmps99
   go_wp2_with fail
   go_ret
   exact⟨by simp,zb⟩
end Go.Proofs.YtchcelodeepjdaaGreatDoor.Ln

namespace Go.Herb

structure zz2 (bs:List Br)(ls:List Ln):Prop where
 names: ∀x∈bs,nameB x.1=true
 srt:SrtB bs
 lines: ∀x∈bs,∃q,parL ls x.2.1=some q
 apart:(bs.map (·.2.1)).Nodup

theorem zz2.nil (ls:List Ln):zz2 [] ls:=⟨by simp,List.Pairwise.nil,by simp,by simp⟩
theorem zz2.take {bs:List Br}{ls:List Ln}(h:zz2 bs ls)(i:Nat):zz2 (bs.take i) ls:=
 ⟨fun x hx=>h.names x (List.mem_of_mem_take hx),h.srt.sublist (List.take_sublist _ _),fun x hx=>h.lines x (List.mem_of_mem_take hx),h.apart.sublist ((List.take_sublist _ _).map _)⟩
theorem yzs {α:Type}{bs:List α}{i:Nat}{x:α}(hx:bs[i]? =some x):bs.take (i+1)=bs.take i++ [x] :=by
 obtain⟨h,rfl⟩:=List.getElem?_eq_some_iff.1 hx
 exact List.take_succ_eq_append_getElem h
theorem zz2.next {bs:List Br}{ls:List Ln}{i:Nat}{x:Br}{q:Int}(h:zz2 (bs.take i) ls)(hx:bs[i]? =some x)(hn:nameB x.1=true)
  (hl: ∀y,0<i->bs[i - 1]? =some y->y.1.toList<x.1.toList) (hp:parL ls x.2.1=some q) (hin:x.2.1∉(bs.take i).map (·.2.1)):zz2 (bs.take (i+1)) ls:=by
 rw [yzs hx]
 refine⟨?_,?_,?_,?_⟩
 ·intro y hy
  rcases List.mem_append.1 hy with hy|hy
  ·exact h.names y hy
  ·rw [List.mem_singleton.1 hy];exact hn
 ·refine List.pairwise_append.2 ⟨h.srt,by simp,?_⟩
  intro y hy z hz
  rw [List.mem_singleton.1 hz]
  obtain⟨j,hj,hjy⟩:=List.getElem_of_mem hy
  have hlen:(bs.take i).length=i:=by
   obtain⟨h3,_⟩:=List.getElem?_eq_some_iff.1 hx
   simp
   omega
  have hji:j<i:=by omega
  have h1:i - 1<(bs.take i).length:=by omega
  have h2:bs[i - 1]? =some ((bs.take i)[i - 1]'h1):=by
   rw [<-List.getElem?_eq_getElem h1,List.getElem?_take_of_lt (by omega)]
  have h3:=hl _ (by omega) h2
  rcases Nat.lt_or_ge j (i - 1)with h4|h4
  ·have h5:=List.pairwise_iff_getElem.1 h.srt j (i - 1) hj h1 h4
   rw [hjy] at h5
   exact List.lt_trans h5 h3
  ·have h5:j=i - 1:=by omega
   subst h5
   rw [hjy] at h3
   exact h3
 ·intro y hy
  rcases List.mem_append.1 hy with hy|hy
  ·exact h.lines y hy
  ·rw [List.mem_singleton.1 hy];exact⟨q,hp⟩
 ·rw [List.map_append,List.nodup_append]
  refine⟨h.apart,by simp,?_⟩
  intro a ha b hb e
  simp only [List.map_cons,List.map_nil,List.mem_singleton] at hb
  subst hb
  subst e
  exact hin ha
theorem zz2.at {bs:List Br}{ls:List Ln}{i:Nat}{x:Br}(h:zz2 bs ls)(hx:bs[i]? =some x):
  nameB x.1=true/\(∀y,0<i->bs[i - 1]? =some y->y.1.toList<x.1.toList)/\(∃q,parL ls x.2.1=some q)/\x.2.1∉(bs.take i).map (·.2.1):=by
 obtain⟨hi,he⟩:=List.getElem?_eq_some_iff.1 hx
 have hm:x∈bs:=List.mem_of_getElem? hx
 refine⟨h.names x hm,?_,h.lines x hm,?_⟩
 ·intro y h0 hy
  obtain⟨hj,hy⟩:=List.getElem?_eq_some_iff.1 hy
  have:=List.pairwise_iff_getElem.1 h.srt (i - 1) i hj hi (by omega)
  rw [hy,he] at this
  exact this
 ·intro hc
  have h1:=h.apart.sublist ((List.take_sublist (i+1) bs).map _)
  rw [yzs hx,List.map_append,List.nodup_append] at h1
  exact h1.2.2 _ hc _ (by simp) rfl

def zz7 (m:List (Int × Int))(ls:List Int):Prop:= ∀k,getL m k=if k∈ls then some 1 else none
theorem zz7.nil:zz7 [] [] :=fun k=>by simp [getL]
theorem zz7.put {m:List (Int × Int)}{ls:List Int}(h:zz7 m ls)(x:Int):zz7 (putL m x (0+1)) (ls++ [x]):=by
 intro k
 by_cases hk:k=x
 ·subst hk
  rw [zx2]
  simp
 ·rw [zxj _ _ _ hk,h k]
  simp [hk]
end Go.Herb
