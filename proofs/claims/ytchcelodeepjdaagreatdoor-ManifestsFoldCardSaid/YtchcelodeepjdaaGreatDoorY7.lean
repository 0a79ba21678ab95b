/- Lemmas and walks towards ManifestsFold. Conditions: each one tells its own. -/
import Derived.Test.YtchcelodeepjdaaGreatDoorMp
import Derived.Test.YtchcelodeepjdaaGreatDoorOG
import Derived.Deep.RegionLaw
import Derived.Lib.AppendZeros
import Derived.Maps.AppendAt
import Derived.Test.YtchcelodeepjdaaGreatDoorK6
import Derived.Shelf.SlSortCmp.WholeK
import Derived.Deep.RegionHeld3
import Derived.Sort.Grow
import Derived.Sort.Walk0
import Derived.WalkMore
import Derived.Deep.Cut
import Derived.Deep.CutBlock
import Derived.Laws.StructEq
import Derived.Test.YtchcelodeepjdaaGreatDoorRd
import Derived.Test.YtchcelodeepjdaaGreatDoorProg
import Derived.Lib.SliceRun
namespace Go.Proofs.YtchcelodeepjdaaGreatDoor.Vx
open Go.RowKit Go.Shelf Go.Herb

def pc (q:Int × Int):List Value:= [.int .u64 q.1, .int .u64 q.2]
theorem yz5 (q:Int × Int):(pc q).length=2:=rfl
structure Vc where
 line:Int
 a:Option Addr
 c:Nat
 ps:Bh
def vc (x:Vc):List Value:= [.int .u64 x.line, .slice x.a x.ps.length x.c]
theorem ywd (x:Vc):(vc x).length=2:=rfl
abbrev Pts (w:World)(a:Option Addr)(ps:Bh):Prop:=Els pc 2 w a ps
abbrev OwnP (B:Nat)(w:World)(v:Value)(ps:Bh):Prop:=w.ownsRow B (78) 2 v ps.length (ps.flatMap pc)
abbrev OwnV (B:Nat)(w:World)(v:Value)(xs:List Vc):Prop:=w.ownsRow B (76) 2 v xs.length (xs.flatMap vc)

theorem wp_append_run {P:Program}{w:World}{o:Oper}{a:Act}{K:Act->World->Prop}{Q:Exit->Act->World->Prop}(s x:Operand)(t tn:TypeId)(ho:o.op= .call {callee:= .builtin .append,args:= #[s,x],argTypes:= #[t,tn]})
  (vs vx:Value) (hs:a.eval s=vs) (hx:a.eval x=vx) (v':Value) (w':World) (hr:(Builtin.append_ #[t,tn] o.type #[vs,vx]).run P w= .ok v' w') (h:K (a.put o.dst v') w'):o.wp P a w K Q:=by
 unfold Oper.wp execOp
 simp only [ho,resolve,invoke,builtin,Sem.run_bind,Sem.run_pure,Result.andThen_ok,List.map_toArray,List.map_cons,List.map_nil,hs,hx,hr]
 exact h
theorem zqj {P:Program}{w:World}{ops:Array Oper}{o:Oper}{a:Act}{K:Act->World->Prop}{Q:Exit->Act->World->Prop}{E:Prop}(hgd:o.guard=none)(s x:Operand)(t tn:TypeId)(ho:o.op= .call {callee:= .builtin .append,args:= #[s,x],argTypes:= #[t,tn]})
  (vs vx:Value) (hs:a.eval s=vs) (hx:a.eval x=vx) (v':Value) (w':World) (hr:(Builtin.append_ #[t,tn] o.type #[vs,vx]).run P w= .ok v' w') (h:K (a.put o.dst v') w'):
  if Region.wanted o (yielded ops a.tmps)=true then Oper.wp P o a w K Q else E:=by
 have hw:Region.wanted o (yielded ops a.tmps)=true:=by simp [Region.wanted,hgd]
 rw [if_pos hw]
 exact wp_append_run s x t tn ho vs vx hs hx v' w' hr h
theorem infoP:(Tryz.prog.info? (78)).map (fun i=>(i.zero,i.size,i.bytes))=some (some (.agg #[.int .u64 0, .int .u64 0]),2,16):=by kernel_rfl
theorem infoV:(Tryz.prog.info? (76)).map (fun i=>(i.zero,i.size,i.bytes))=some (some (.agg #[.int .u64 0, .slice none 0 0]),2,32):=by kernel_rfl
theorem yzf (w:World)(B:Nat)(v:Value)(ys:List Vc)(vb:Nat)(x:Vc)(ho:OwnV B w v ys)(hb:w.heap[vb]? =some (.cells #[.int .u64 x.line, .slice x.a x.ps.length x.c] (76) (0,0)))(hx:ys.length<1000000)(hB:B<=w.heap.size)(ty:TypeId):
  ∃v' w',(Builtin.append_ #[(29),(29)] ty #[v, .slice (some ⟨vb,0,none⟩) 1 1]).run Tryz.prog w= .ok v' w'/\OwnV B w' v' (ys++ [x])/\w.grownBy w' v.ownBlock/\(v'.ownBlock=v.ownBlock\/v'.ownBlock=some w.heap.size):=by
 obtain⟨i0,hin,hz0,hz1,hz2⟩:=info_parts infoV
 obtain⟨v',w',hr,h2,h3,_,h5⟩:=run_append_own_at (P:=Tryz.prog) (w:=w) B (29) ty (76) i0 _ 2 32 Tryz.underlying29 hin hz0 hz1 hz2 rfl (by decide) v ys.length (ys.flatMap vc) ho ⟨vb,0,none⟩ 1 1 (vc x) rfl (fun j u hj=>by
   have:((⟨vb,0,none⟩:Addr).add j)=⟨vb,0+j,none⟩:=addr_add _ _ _
   rw [this,Nat.zero_add,zq0 hb]
   simpa [vc] using hj) (by intro v hv;simp [vc] at hv;rcases hv with rfl|rfl<;>rfl) (by unfold maxLen;omega) (by omega) hB
 refine⟨v',w',hr,?_,h3,h5⟩
 unfold OwnV
 rw [List.length_append,List.flatMap_append]
 simpa using h2
theorem zqv {B e s n:Nat}{w:World}{v:Value}{xs:List Value}(h:w.ownsRow B e s v n xs): ∃a cap,v= .slice a n cap/\(a=none->n=0/\cap=0)/\n<=cap/\cap<=maxLen/\ ∀ad,a=some ad->B<=ad.block/\ad.block<w.heap.size:=by
 obtain⟨h1,⟨rfl,h2⟩|⟨g,cap,cur,rfl,hg,hh,hle,hm,_⟩⟩:=h
 ·subst h2
  exact⟨none,0,rfl,fun _=>⟨rfl,rfl⟩,zr,Nat.zero_le _,fun ad h=>by cases h⟩
 ·exact⟨some ⟨g,0,none⟩,cap,rfl,(fun h=>by cases h),hle,hm,fun ad h=>by cases h;exact⟨hg,zq2 hh⟩⟩
end Go.Proofs.YtchcelodeepjdaaGreatDoor.Vx

namespace Go.Herb
open Go
def okB (b:Bh):Prop:=SrtK b/\ ∀q∈b,q.2≠0
def okV (L:Vs):Prop:=SrtK L/\ ∀p∈L,okB p.2
theorem SrtK.get {β:Type}{b:List (Int × β)}(h:SrtK b){i j:Nat}(hij:i<j)(hj:j<b.length):b[i].1<b[j].1:=List.pairwise_iff_getElem.1 h i j (by omega) hj hij
theorem SrtK.take {β:Type}{b:List (Int × β)}(h:SrtK b)(k:Nat):SrtK (b.take k):=List.Pairwise.sublist (List.take_sublist _ _) h
theorem SrtK.snoc {β:Type}{b:List (Int × β)}{i:Nat}(h:SrtK (b.take i))(hi:i<b.length)(hl:i=0\/ ∃h:i - 1<b.length,b[i - 1].1<b[i].1):SrtK (b.take (i+1)):=by
 rw [List.take_succ_eq_append_getElem hi]
 unfold SrtK at h ⊢
 rw [List.pairwise_append]
 refine⟨h,List.pairwise_singleton _ _,fun p hp q hq=> ?_⟩
 rw [List.mem_singleton.1 hq]
 rcases hl with rfl|⟨hl,hlt⟩
 ·simp at hp
 ·obtain⟨j,hj,rfl⟩:=List.getElem_of_mem hp
  simp only [List.length_take] at hj
  rw [List.getElem_take]
  rcases Nat.lt_or_eq_of_le (show j<=i - 1 by omega)with h1|h1
  ·have h2:=List.pairwise_iff_getElem.1 h j (i - 1) (by simp;omega) (by simp;omega) h1
   simp only [List.getElem_take] at h2
   omega
  ·subst h1;exact hlt
theorem putL_new {α β:Type} [DecidableEq α]{m:List (α × β)}{a:α}{b:β}(h:a∉m.map (·.1)):putL m a b=m++ [(a,b)] :=by unfold putL;rw [if_neg h]
theorem yyt {β:Type}{b:List (Int × β)}{k:Int}{v:β}(h: ∀p∈b,p.1<k):putS b k v=b++ [(k,v)] :=by
 unfold putS
 have h1:b.filter (fun p=>decide (p.1<k))=b:=List.filter_eq_self.2 (fun p hp=>by simp [h p hp])
 have h2:b.filter (fun p=>decide (k<p.1))= [] :=List.filter_eq_nil_iff.2 (fun p hp=>by have:=h p hp;simp;omega)
 rw [h1,h2]
theorem xqa {β:Type}{b:List (Int × β)}{i:Nat}(h:SrtK (b.take (i+1)))(hi:i<b.length): ∀p∈b.take i,p.1<b[i].1:=by
 rw [List.take_succ_eq_append_getElem hi] at h
 have:=(List.pairwise_append.1 h).2.2
 exact fun p hp=>this p hp _ (by simp)
theorem okV.good {L:Vs}(h:okV L)(hw: ∀p∈L,U64 p.1/\ ∀q∈p.2,U64 q.1/\U64 q.2):GoodV L:=by
 refine⟨h.1,fun p hp=>⟨(h.2 p hp).1,fun q hq=> ?_,(hw p hp).2⟩,fun p hp=>(hw p hp).1⟩
 have h1:=(h.2 p hp).2 q hq
 have h2:=((hw p hp).2 q hq).2
 unfold U64 at h2
 simp [Lit.wf,IntKind.min,IntKind.max,IntKind.signed,IntKind.bits] at h2
 omega
end Go.Herb

namespace Go.Proofs.YtchcelodeepjdaaGreatDoor.Vx
open Go.RowKit Go.Shelf Go.Herb

theorem VecIs.more {w w':World}{p mb ib:Nat}{M:List (Int × Nat)}{L:Vs}{line:Int}{m B:Bh}(h:VecIs w p mb M L)(hL:SrtK L)(hpm:p≠mb)(hne: ∀q∈M,q.2≠mb)(hg:w.grownBy w' (some mb))
  (out:MapM w' mb (putL M line ib)) (hi:MapU w' ib m) (hp:m.Perm B):VecIs w' p mb (putL M line ib) (putS L line B):=by
 have hn:=out.nodup
 refine⟨(hg.block _ (zq2 h.blk) (fun e=>by injection e with e;exact hpm e)).trans h.blk,out,?_,fun q hq=> ?_⟩
 ·refine(List.perm_ext_iff_of_nodup hn (zv4 hL).nodup).2 fun k=> ?_
  rw [zks,zvv,<-h.keys.mem_iff]
  split
  ·rename_i hm
   constructor
   ·exact .inr
   ·rintro(rfl|h)
    ·exact hm
    ·exact h
  ·rw [List.mem_append,List.mem_singleton]
   exact or_comm
 ·have hg2:=(zx0 hn).2 (show(q.1,q.2)∈putL M line ib from hq)
  by_cases e:q.1=line
  ·rw [e,zx2] at hg2
   cases hg2
   exact⟨m,B,hi,by rw [zzo hL,if_pos e],hp⟩
  ·rw [zxj _ _ _ e] at hg2
   obtain⟨m2,b2,h1,h2,h3⟩:=h.inn _ (zzh hg2)
   exact⟨m2,b2,h1.same (hg.block _ h1.lt (fun e=>by injection e with e;exact hne _ (zzh hg2) e)),by rw [zzo hL,if_neg e];exact h2,h3⟩
structure ykg (B:Nat)(w:World)(p mb:Nat)(M:List (Int × Nat))(L:Vs):Prop where
 is:VecIs w p mb M L
 lp:B<=p
 lm:B<=mb
 li: ∀q∈M,B<=q.2
theorem ykg.same {B:Nat}{w w':World}{p mb:Nat}{M:List (Int × Nat)}{L:Vs}(h:ykg B w p mb M L)(hb: ∀b,B<=b->b<w.heap.size->w'.heap[b]? =w.heap[b]?):ykg B w' p mb M L:=
 ⟨⟨(hb _ h.lp (zq2 h.is.blk)).trans h.is.blk,h.is.out.same (hb _ h.lm h.is.out.lt),h.is.keys,fun q hq=>by obtain⟨m,b,h1,h2⟩:=h.is.inn q hq;exact⟨m,b,h1.same (hb _ (h.li q hq) h1.lt),h2⟩⟩,h.lp,h.lm,h.li⟩

structure VIn (w:World)(a:Option Addr)(xs:List Vc):Prop where
 els:Els vc 2 w a xs
 inn: ∀x∈xs,Pts w x.a x.ps
 wf: ∀x∈xs,U64 x.line/\ ∀q∈x.ps,U64 q.1/\U64 q.2
 len:xs.length<=maxLen
 lens: ∀x∈xs,x.ps.length<=maxLen
def vsOf (xs:List Vc):Vs:=xs.map (fun x=>(x.line,x.ps))
theorem zqk (xs:List Vc):(vsOf xs).length=xs.length:=by simp [vsOf]
theorem zw2 (xs:List Vc)(i:Nat)(h:i<xs.length):(vsOf xs)[i]'(by rw [zqk];exact h)=(xs[i].line,xs[i].ps):=by simp [vsOf]
def zvd (L:Vs)(w:World)(e:Ending)(w':World):Prop:=
 ∃v er,e= .returned (.tuple #[v, .int .i64 er])/\Below w.heap.size w w'/\((er=0/\okV L/\ ∃p mb M,v= .pointer (some ⟨p,0,none⟩)/\ykg w.heap.size w' p mb M L)\/(er=4/\ ¬okV L/\v= .pointer none))

set_option maxRecDepth 100000 in
set_option maxHeartbeats 1000000 in
theorem of_any (a:Option Addr)(cap:Nat)(xs:List Vc)(w:World)(h:VIn w a xs):
  Calls Tryz.prog (31) #[.slice a xs.length cap] w (zvd (vsOf xs) w):=by
 have H:=zh h
 have hmm:= @run_makeMap Tryz.prog
 have hlen:xs.length<=9223372036854775807:=h.len
 have hN:MapM ((w.alloc (.map #[] 0)).alloc (.cells #[.map (some w.heap.size), .int .i64 1] (138))) w.heap.size [] :=(MapIs.made (P:=Tryz.prog) (k:=(26)) (encK:=eU) (encV:=eM) (α:=Int) (β:=Nat) w).same (Below.heap_alloc _ _ _ (by simp))
 have hB0:Hid (((w.alloc (.map #[] 0)).alloc (.cells #[.map (some w.heap.size), .int .i64 1] (138))).heap[w.heap.size+1]? =some (.cells #[.map (some w.heap.size), .int .i64 1] (138) (0,0))):=zh (zq3 (by simp) _)
 have HN:=zh hN
 clear h hN
 go_enter Tryz.func31,Tryz.ntmps31
 go_wp2_with fail
 go_loopg [15] xs.length (fun gk iv wr=> ∃(i:Nat) (M:List (Int × Nat)),i+gk=xs.length/\iv= .int .i64 i/\Hid (VecIs wr (w.heap.size+1) w.heap.size M ((vsOf xs).take i))/\Hid (∀q∈M,w.heap.size+1<q.2)/\Hid (okV ((vsOf xs).take i))/\Below w.heap.size w wr)
 case atStart=>exact⟨0, [],by omega,rfl,zh ⟨hB0.out,HN.out,List.Perm.refl _,by simp⟩,zh (by simp),zh ⟨.nil,by simp⟩,((Below.refl _ w).alloc zr _).alloc (by simp) _⟩
 case round=>
  obtain⟨i,M,hi,rfl,HV,HM,HO,hbw⟩:=hrel
  have HBW:=zh hbw
  have hsz:=hbw.size
  have hsm:w.heap.size+1<wr.heap.size:=zq2 HV.out.blk
  clear hbw HN hB0
  by_cases hlt:i<xs.length
  ·obtain⟨b,o,rfl,hlb,hcell⟩:=H.out.els.get i hlt
   have hbw0:b<wr.heap.size:=by omega
   have x0:=(HBW.out.cell (p:=⟨b,_,none⟩) hlb).trans (hcell 0 _ rfl)
   have x1:=(HBW.out.cell (p:=⟨b,_,none⟩) hlb).trans (hcell 1 _ rfl)
   simp only [Nat.add_zero] at x0 x1
   have hi0:(0:Int)<=(i:Int):=by omega
   have hi1:(i:Int)<(xs.length:Int):=by omega
   have hli:i<(vsOf xs).length:=by rw [zqk];exact hlt
   have hgi:=zw2 xs i hlt
   have HX:=zh (List.getElem_mem hlt)
   have HTI:=zh (show(vsOf xs).take (i+1)=(vsOf xs).take i++ [(xs[i].line,xs[i].ps)] from by rw [List.take_succ_eq_append_getElem hli,hgi])
   -- the line ahead
   have hprev: ∀h0:0<i,∃pl,wr.cell? ⟨b,o+(i - 1)*2,none⟩=some (.int .u64 pl)/\(vsOf xs)[i - 1].1=pl:=fun h0=>by
    obtain⟨b',o',ha',hlb',hcell'⟩:=H.out.els.get (i - 1) (by omega)
    injection ha' with ha'
    cases ha'
    have:=(HBW.out.cell (p:=⟨b,_,none⟩) hlb').trans (hcell' 0 _ rfl)
    simp only [Nat.add_zero] at this
    exact⟨_,this,by rw [zw2 xs (i - 1) (by omega)]⟩
   have HPV:=zh hprev
   have HGI:=zh hgi
   clear hcell hgi hprev
   generalize xs[i] =x at*
   obtain⟨xl,xa,xc,xp⟩:=x
   simp only at x0 x1 HTI HGI
   have hxw:=H.out.wf _ HX.out
   have hxp:=H.out.inn _ HX.out
   have hxpl0:=H.out.lens _ HX.out
   simp only at hxw hxp hxpl0
   have hxpl:xp.length<=9223372036854775807:=hxpl0
   clear hxpl0
   have HXW:=zh hxw
   have HXP:=zh hxp
   clear hxw hxp
   obtain⟨X,hX⟩: ∃X:World,X=wr.alloc (.cells #[.int .u64 xl, .slice xa xp.length xc] (76)):=⟨_,rfl⟩
   have hXb:Below wr.heap.size wr X:=by rw [hX];exact zb.alloc zr _
   have hXs:X.heap.size=wr.heap.size+1:=by rw [hX];simp
   have hXx:X.heap[wr.heap.size]? =some (.cells #[.int .u64 xl, .slice xa xp.length xc] (76) (0,0)):=by rw [hX];exact zq3 rfl _
   have HXB:=zh hXb
   have HXS:=zh hXs
   have HXX:=zh hXx
   go_upto_region 5 with(fail)
   rw [<-hX]
   clear hX
   go_cut [32] (fun v wx=> ∃(c:Bool) (n:Nat),v= .bool c/\Hid (c=true->0<i/\ ¬okV (vsOf xs))/\Hid (c=false->SrtK ((vsOf xs).take (i+1)))/\wx=X.drewN n)
   case first=>
    have X0:=zq0 HXX.out 0
    simp at X0
    clear x0 x1 hXx
    by_cases h0:0<i
    ·obtain⟨pl,hpc,hpl⟩:=HPV.out h0
     have hpX:=(HXB.out.cell (p:=⟨b,o+(i - 1)*2,none⟩) hbw0).trans hpc
     have h0':(0:Int)<(i:Int):=by omega
     have h0d:decide ((0:Int)<(i:Int))=true:=decide_eq_true h0'
     have h0e:decide (0<i)=true:=decide_eq_true h0
     have w1:IntKind.i64.wrap ((i:Int) - 1)=(i:Int) - 1:=IntWalk.i64_in _ (by omega)
     have p1:(0:Int)<=(i:Int) - 1:=by omega
     have p1':(1:Int)<=(i:Int):=by omega
     have q1:((i:Int) - 1).toNat=i - 1:=by omega
     have r1:(i:Int) - 1<(xs.length:Int):=by omega
     have hbX:b<X.heap.size:=by have:=HXS.out;omega
     have HPL:=zh hpl
     clear hpc hpl hXb hXs
     by_cases hle:xl<=pl
     ·have hled:decide (xl<=pl)=true:=decide_eq_true hle
      have HB:Hid (¬okV (vsOf xs)):=zh (fun hok=>by
       have h1:=SrtK.get hok.1 (i:=i - 1) (j:=i) (by omega) hli
       rw [HPL.out,HGI.out] at h1
       simp only at h1
       omega)
      go_wp2_with fail
      go_quiet (fail)
      go_wp2_with fail
      go_meet
      exact⟨true,nq,rfl,zh (fun _=>⟨h0,HB.out⟩),zh (fun h=>by cases h),rfl⟩
     ·have hled:decide (xl<=pl)=false:=decide_eq_false hle
      have HB:Hid (SrtK ((vsOf xs).take (i+1))):=zh (HO.out.1.snoc hli (.inr ⟨by omega,by rw [HPL.out,HGI.out];simp only;omega⟩))
      go_wp2_with fail
      go_quiet (fail)
      go_wp2_with fail
      go_meet
      exact⟨false,nq,rfl,zh (fun h=>by cases h),zh (fun _=>HB.out),rfl⟩
    ·have h0': ¬(0:Int)<(i:Int):=by omega
     have h0d:decide ((0:Int)<(i:Int))=false:=decide_eq_false h0'
     have h0e:decide (0<i)=false:=decide_eq_false h0
     have HB:Hid (SrtK ((vsOf xs).take (i+1))):=zh (HO.out.1.snoc hli (.inl (by omega)))
     clear hXb hXs
     go_wp2_with fail
     go_quiet (fail)
     go_wp2_with fail
     go_meet
     exact⟨false,nq,rfl,zh (fun h=>by cases h),zh (fun _=>HB.out),rfl⟩
   case rest=>
   obtain⟨c,n,rfl,HC1,HC2,rfl⟩:=hcut
   obtain⟨Y,hY⟩: ∃Y:World,Y=X.drewN n:=⟨_,rfl⟩
   have hYh: ∀k:Nat,Y.heap[k]? =X.heap[k]? :=fun k=>by rw [hY];rfl
   have hYs:Y.heap.size=wr.heap.size+1:=by rw [hY];exact hXs
   have hYb:Below wr.heap.size wr Y:=by rw [hY];exact below_drewN hXb n
   rw [<-hY]
   have hYx:=(hYh _).trans hXx
   have HYB:=zh hYb
   have HYX:=zh hYx
   have HYS:=zh hYs
   clear hY x0 x1 hXb hXs hXx
   cases c with
   |true=>
    have HE:Hid (zvd (vsOf xs) w (.returned (.tuple #[.pointer none, .int .i64 4])) Y):=zh ⟨_,4,rfl,HBW.out.trans (hYb.mono hsz), .inr ⟨rfl,(HC1.out rfl).2,rfl⟩⟩
    clear hYh hYs hYb hYx
    go_wp2_with fail
    go_ret2
    exact HE.out
   |false=>
    have HSO:=zh (HC2.out rfl)
    have y0:=zq0 hYx 0
    have y1:=zq0 hYx 1
    simp at y0 y1
    have hwY:wr.heap.size<Y.heap.size:=by omega
    have HN2:Hid (MapU (Y.alloc (.map #[] 0)) Y.heap.size []):=zh (MapIs.made (P:=Tryz.prog) (k:=(26)) (encK:=eU) (encV:=eU) (α:=Int) (β:=Int) Y)
    clear hYh hYs hYb hYx HC1 HC2
    go_wp2_with fail
    clear y0 y1
    obtain⟨g1,rfl⟩: ∃g1:Nat,g1=gk:=⟨_,rfl⟩
    obtain⟨wo,rfl⟩: ∃wo:World,wo=wr:=⟨_,rfl⟩
    go_loopg [37] xp.length (fun gk kv wr=> ∃k:Nat,k+gk=xp.length/\kv= .int .i64 k/\Hid (MapU wr Y.heap.size (xp.take k))/\Hid (okB (xp.take k))/\Below Y.heap.size Y wr)
    case atStart=>exact⟨0,by omega,rfl,HN2,zh ⟨.nil,by simp⟩,zb.alloc zr _⟩
    case round=>
     obtain⟨k,hk,rfl,HMU,HOB,hbk⟩:=hrel
     have HBK:=zh hbk
     have hsk:Y.heap.size<wr.heap.size:=HMU.out.lt
     have HWW:=zh (HBW.out.trans ((HYB.out.trans (hbk.mono (by omega))).mono hsz))
     have hyx:=zq4 HYX.out hbk hwY
     have HYXR:=zh hyx
     clear hbk HN2
     by_cases hkl:k<xp.length
     ·obtain⟨b2,o2,rfl,hlb2,hcell2⟩:=HXP.out.get k hkl
      have z0:=(HWW.out.cell (p:=⟨b2,_,none⟩) hlb2).trans (hcell2 0 _ rfl)
      have z1:=(HWW.out.cell (p:=⟨b2,_,none⟩) hlb2).trans (hcell2 1 _ rfl)
      simp only [Nat.add_zero] at z0 z1
      have hk0:(0:Int)<=(k:Int):=by omega
      have hk1:(k:Int)<(xp.length:Int):=by omega
      have hlb3:b2<wr.heap.size:=by have:=HWW.out.size;omega
      have hprev: ∀h0:0<k,∃pl,wr.cell? ⟨b2,o2+(k - 1)*2,none⟩=some (.int .u64 pl)/\xp[k - 1].1=pl:=fun h0=>by
       obtain⟨b',o',ha',hlb',hcell'⟩:=HXP.out.get (k - 1) (by omega)
       injection ha' with ha'
       cases ha'
       have:=(HWW.out.cell (p:=⟨b2,_,none⟩) hlb').trans (hcell' 0 _ rfl)
       simp only [Nat.add_zero] at this
       exact⟨_,this,rfl⟩
      have HPV2:=zh hprev
      have HTK:=zh (show xp.take (k+1)=xp.take k++ [xp[k]] from List.take_succ_eq_append_getElem hkl)
      have HQM:=zh (List.getElem_mem hkl)
      have HQG:=zh (show xp[k] =xp[k] from rfl)
      obtain⟨q,hq⟩: ∃q,q=xp[k] :=⟨_,rfl⟩
      rw [<-hq] at z0 z1 HTK HQM
      have HQ:=zh hq
      clear hcell2 hprev hq HQG
      obtain⟨q1,q2⟩:=q
      simp only at z0 z1
      obtain⟨P,hP⟩: ∃P:World,P=wr.alloc (.cells #[.int .u64 q1, .int .u64 q2] (78)):=⟨_,rfl⟩
      have hPb:Below wr.heap.size wr P:=by rw [hP];exact zb.alloc zr _
      have hPs:P.heap.size=wr.heap.size+1:=by rw [hP];simp
      have hPx:P.heap[wr.heap.size]? =some (.cells #[.int .u64 q1, .int .u64 q2] (78) (0,0)):=by rw [hP];exact zq3 rfl _
      have HPB:=zh hPb
      have HPX:=zh hPx
      have HPS:=zh hPs
      have hwoW:wo.heap.size<wr.heap.size:=by omega
      go_upto_region 11 with(fail)
      rw [<-hP]
      clear hP z0 z1
      go_cut [60] (fun v wx=> ∃(c:Bool) (n:Nat),v= .bool c/\Hid (c=true-> ¬okB xp)/\Hid (c=false->okB (xp.take (k+1)))/\wx=P.drewN n)
      case first=>
       have P0:=zq0 HPX.out 0
       have P1:=zq0 HPX.out 1
       simp at P0 P1
       have hwoP:wo.heap.size<P.heap.size:=by omega
       have yx1:=zq0 (zq4 HYXR.out hPb hwoW) 1
       simp at yx1
       have hbP:b2<P.heap.size:=by omega
       have hwrP:wr.heap.size<P.heap.size:=by omega
       clear hPb hPs hPx hyx
       by_cases hq0:q2=0
       ·subst hq0
        have HB:Hid (¬okB xp):=zh (fun hok=>hok.2 _ HQM.out rfl)
        go_wp2_with fail
        go_quiet (fail)
        go_wp2_with fail
        go_meet
        exact⟨true,nq,rfl,zh (fun _=>HB.out),zh (fun h=>by cases h),rfl⟩
       ·have hq0':(q2==0)=false:=by simpa using hq0
        have hq0d:decide (q2=0)=false:=decide_eq_false hq0
        by_cases h0:0<k
        ·obtain⟨pl,hpc,hpl⟩:=HPV2.out h0
         have hpX:=(HPB.out.cell (p:=⟨b2,o2+(k - 1)*2,none⟩) hlb3).trans hpc
         have h0':(0:Int)<(k:Int):=by omega
         have h0d:decide ((0:Int)<(k:Int))=true:=decide_eq_true h0'
         have h0e:decide (0<k)=true:=decide_eq_true h0
         have w1:IntKind.i64.wrap ((k:Int) - 1)=(k:Int) - 1:=IntWalk.i64_in _ (by omega)
         have p1:(0:Int)<=(k:Int) - 1:=by omega
         have p1':(1:Int)<=(k:Int):=by omega
         have e1:((k:Int) - 1).toNat=k - 1:=by omega
         have r1:(k:Int) - 1<(xp.length:Int):=by omega
         have HPL:=zh hpl
         clear hpc hpl
         by_cases hle:q1<=pl
         ·have hled:decide (q1<=pl)=true:=decide_eq_true hle
          have HB:Hid (¬okB xp):=zh (fun hok=>by
           have h1:=SrtK.get hok.1 (i:=k - 1) (j:=k) (by omega) hkl
           rw [HPL.out,<-HQ.out] at h1
           simp only at h1
           omega)
          go_wp2_with fail
          go_quiet (fail)
          go_wp2_with fail
          go_meet
          exact⟨true,nq,rfl,zh (fun _=>HB.out),zh (fun h=>by cases h),rfl⟩
         ·have hled:decide (q1<=pl)=false:=decide_eq_false hle
          have HB:Hid (okB (xp.take (k+1))):=zh ⟨HOB.out.1.snoc hkl (.inr ⟨by omega,by rw [HPL.out,<-HQ.out];simp only;omega⟩),fun r hr=>by
           rw [HTK.out] at hr
           rcases List.mem_append.1 hr with hr|hr
           ·exact HOB.out.2 r hr
           ·rw [List.mem_singleton.1 hr];exact hq0⟩
          go_wp2_with fail
          go_quiet (fail)
          go_wp2_with fail
          go_meet
          exact⟨false,nq,rfl,zh (fun h=>by cases h),zh (fun _=>HB.out),rfl⟩
        ·have h0': ¬(0:Int)<(k:Int):=by omega
         have h0d:decide ((0:Int)<(k:Int))=false:=decide_eq_false h0'
         have h0e:decide (0<k)=false:=decide_eq_false h0
         have HB:Hid (okB (xp.take (k+1))):=zh ⟨HOB.out.1.snoc hkl (.inl (by omega)),fun r hr=>by
           rw [HTK.out] at hr
           rcases List.mem_append.1 hr with hr|hr
           ·exact HOB.out.2 r hr
           ·rw [List.mem_singleton.1 hr];exact hq0⟩
         go_wp2_with fail
         go_quiet (fail)
         go_wp2_with fail
         go_meet
         exact⟨false,nq,rfl,zh (fun h=>by cases h),zh (fun _=>HB.out),rfl⟩
      case rest=>
      obtain⟨c,n2,rfl,HC1,HC2,rfl⟩:=hcut
      obtain⟨Z,hZ⟩: ∃Z:World,Z=P.drewN n2:=⟨_,rfl⟩
      have hZh: ∀k:Nat,Z.heap[k]? =P.heap[k]? :=fun k=>by rw [hZ];rfl
      have hZs:Z.heap.size=P.heap.size:=by rw [hZ];rfl
      have hZb:Below wr.heap.size wr Z:=by rw [hZ];exact below_drewN hPb n2
      rw [<-hZ]
      have z0:=zq0 ((hZh _).trans hPx) 0
      have z1:=zq0 ((hZh _).trans hPx) 1
      simp at z0 z1
      clear hZ hPb hPx hyx
      cases c with
      |true=>
       have HE:Hid (zvd (vsOf xs) w (.returned (.tuple #[.pointer none, .int .i64 4])) Z):=zh ⟨_,4,rfl,HWW.out.trans (hZb.mono HWW.out.size), .inr ⟨rfl,fun hok=>HC1.out rfl (hok.2 (xl,xp) (by unfold vsOf;exact List.mem_map.2 ⟨_,HX.out,rfl⟩)),rfl⟩⟩
       clear hZh hZs hZb z0 z1
       go_wp2_with fail
       go_ret2
       exact HE.out
      |false=>
       have hok:=HC2.out rfl
       have hqw:=HXW.out.2 _ HQM.out
       obtain⟨kl,hkl2⟩:=keyU hqw.1
       have hMZ:MapU Z Y.heap.size (xp.take k):=HMU.out.same (hZb.block _ HMU.out.lt)
       obtain⟨w6,hst,hM6,hg6,hs6⟩:=hMZ.store lawU zjo Tryz.underlying140 (by simp [maxLen];omega) q2 hkl2
       have hnew:q1∉(xp.take k).map (·.1):=fun hm=>by
        obtain⟨r,hr,e⟩:=List.mem_map.1 hm
        have:=xqa hok.1 hkl r hr
        rw [<-HQ.out] at this
        simp only at this
        omega
       rw [putL_new hnew,<-HTK.out] at hM6
       have HM6:=zh hM6
       have HOK6:=zh hok
       have HB6:=zh (show Below Y.heap.size Y w6 from(HBK.out.trans (hZb.mono HBK.out.size)).grown hg6 (by omega) (fun k e=>by injection e with e;omega))
       clear hZh hZs hZb hok hqw hMZ hM6 hg6 hs6 hnew HC1 HC2 hkl2
       go_wp2_with fail
       go_roundg(gk - 1)
       case measure=>omega
       case rel=>exact⟨k+1,by omega,by go_num,HM6,HOK6,HB6.out⟩
     ·have hke:k=xp.length:=by omega
      have hMU:MapU wr Y.heap.size xp:=by have:=HMU.out;rwa [hke,List.take_length] at this
      have hOB:okB xp:=by have:=HOB.out;rwa [hke,List.take_length] at this
      have hvw:VecIs wr.drew (w.heap.size+1) w.heap.size M ((vsOf xs).take i):=HV.out.below ((HYB.out.trans (HBK.out.mono (by omega))).drew)
      obtain⟨kl,hkl2⟩:=keyU HXW.out.1
      obtain⟨w6,hst,hM6,hg6,hs6⟩:=hvw.out.store lawU zjo Tryz.underlying136 (by have:=hvw.len;simp at this;unfold maxLen;omega) Y.heap.size hkl2
      have c0:=zq0 hvw.blk 0
      have b0:=zq0 (show wr.drew.heap[wo.heap.size]? =_ from hyx) 0
      simp at c0 b0
      have hlast:=xqa HSO.out hli
      rw [HGI.out] at hlast
      have hV6:=VecIs.more hvw (HO.out.1) (by omega) (fun q hq=>by have:=HM.out q hq;omega) hg6 hM6 ((show MapU wr.drew Y.heap.size xp from hMU.same rfl).same (hg6.block _ hMU.lt (fun e=>by injection e with e;omega))) (List.Perm.refl _)
      rw [yyt hlast,<-HTI.out] at hV6
      have HV6:=zh hV6
      have HM6:=zh (show∀q∈putL M xl Y.heap.size,w.heap.size+1<q.2 from fun q hq=>by
       have hg2:=(zx0 hM6.nodup).2 (show(q.1,q.2)∈putL M xl Y.heap.size from hq)
       by_cases e:q.1=xl
       ·rw [e,zx2] at hg2
        injection hg2 with hg2
        omega
       ·rw [zxj _ _ _ e] at hg2
        exact HM.out _ (zzh hg2))
      have HO6:=zh (show okV ((vsOf xs).take (i+1))from⟨HSO.out,fun r hr=>by
       rw [HTI.out] at hr
       rcases List.mem_append.1 hr with hr|hr
       ·exact HO.out.2 r hr
       ·rw [List.mem_singleton.1 hr];exact hOB⟩)
      have HB6:=zh (show Below w.heap.size w w6 from((HBW.out.trans ((HYB.out.trans (HBK.out.mono (by omega))).mono hsz)).drew).grown hg6 (by show w.heap.size<=wr.heap.size;omega) (fun k e=>by injection e with e;omega))
      have hbx:wo.heap.size<wr.heap.size:=by omega
      have hbp:w.heap.size+1<wr.heap.size:=by omega
      clear hke hMU hOB hvw hM6 hg6 hs6 hlast hV6 hyx hkl2
      go_wp2_with fail
      go_region
      clear hst c0 b0
      go_wp2
      go_roundg(g1 - 1)
      case measure=>omega
      case rel=>exact⟨i+1,_,by omega,by go_num,HV6,HM6,HO6,HB6.out⟩
  ·have hie:i=xs.length:=by omega
   have htk:(vsOf xs).take i=vsOf xs:=by rw [hie,<-zqk,List.take_length]
   have HE:Hid (zvd (vsOf xs) w (.returned (.tuple #[.pointer (some ⟨w.heap.size+1,0,none⟩), .int .i64 0])) wr):=zh ⟨_,0,rfl,HBW.out, .inl ⟨rfl,by rw [<-htk];exact HO.out,_,_,_,rfl,by rw [<-htk];exact⟨HV.out,by omega,zr,fun q hq=>by have:=HM.out q hq;omega⟩⟩⟩
   clear hie htk
   go_wp2
   go_ret2
   exact HE.out
end Go.Proofs.YtchcelodeepjdaaGreatDoor.Vx

namespace Go.Proofs.YtchcelodeepjdaaGreatDoor.Vx
open Go.RowKit Go.Shelf Go.Herb Go.Sort

def cmpI (a b:Int):Int:=if a<b then -1 else if b<a then 1 else 0
theorem yvu (a b:Int)(w:World):Calls Tryz.prog (94) #[.int .u64 a, .int .u64 b] w fun e w'=>e= .returned (.int .i64 (cmpI a b))/\w=w':=by
 go_enter Tryz.func94,Tryz.ntmps94
 go_wp2_with(go_at_call 112;refine(zvo _ _).mono ?_;rintro e w' ⟨rfl,rfl⟩)
 all_goals
  go_ret
  refine⟨?_,rfl⟩
  unfold cmpI
  first|(rw [if_pos (by omega)];rfl)|(rw [if_neg (by omega),if_pos (by omega)];rfl)|(rw [if_neg (by omega),if_neg (by omega)];rfl)
abbrev pv (x:Int × Int):Value:= .agg #[.int .u64 x.1, .int .u64 x.2]
instance:Inhabited (Int × Int):=⟨(0,0)⟩
theorem yyp (x:Int × Int): ∀v∈pc x,v.oneCell'=true:=by
 intro v hv
 simp [pc] at hv
 rcases hv with rfl|rfl<;>rfl
end Go.Proofs.YtchcelodeepjdaaGreatDoor.Vx

namespace Go.Herb
open Go
structure Ac where
 kind:Int
 line:Int
 other:Int
 n:Int
 wk:(Lit.int .u8 kind).wf=true
 wl:U64 line
 wo:U64 other
 wn:U64 n
end Go.Herb
namespace Go.Proofs.YtchcelodeepjdaaGreatDoor.Vx
open Go.RowKit Go.Shelf Go.Herb

def acc (x:Ac):List Value:= [.int .u8 x.kind, .int .u64 x.line, .int .u64 x.other, .int .u64 x.n]
end Go.Proofs.YtchcelodeepjdaaGreatDoor.Vx

namespace Go.Proofs.YtchcelodeepjdaaGreatDoor.Vx
open Go.RowKit Go.Shelf Go.Herb

theorem zx3 {α:Type}{enc:α->List Value}{s B e n cap:Nat}{w:World}{a:Option Addr}{xs:List α}(hs: ∀x,(enc x).length=s)(h:w.ownsRow B e s (.slice a n cap) xs.length (xs.flatMap enc)):Els enc s w a xs:=by
 rcases zzt h with⟨h1,rfl⟩|⟨g,c,h1,_,hR⟩
 ·exact Els.nil _ _ _ _
 ·injection h1 with h1
  rw [h1]
  exact hR.els hs
def ac (k l o n:Int)(h:(Lit.int .u8 k).wf=true/\U64 l/\U64 o/\U64 n):Ac:=⟨k,l,o,n,h.1,h.2.1,h.2.2.1,h.2.2.2⟩
end Go.Proofs.YtchcelodeepjdaaGreatDoor.Vx

namespace Go.Herb
open Go
def zyw (b:Bh):Int:=b.foldl (fun m q=>max m q.2) 0
theorem most_ge: ∀{b:Bh} {q:Int × Int},q∈b->q.2<=zyw b:=by
 have key: ∀(b:Bh) (z:Int),z<=b.foldl (fun m q=>max m q.2) z/\ ∀q∈b,q.2<=b.foldl (fun m q=>max m q.2) z:=by
  intro b
  induction b with
  |nil=>intro z;exact⟨Int.le_refl _,by simp⟩
  |cons p b ih=>
   intro z
   have:=ih (max z p.2)
   refine⟨by have:=this.1;simp only [List.foldl_cons];omega,fun q hq=> ?_⟩
   rcases List.mem_cons.1 hq with rfl|hq
   ·have:=this.1;simp only [List.foldl_cons];omega
   ·exact this.2 q hq
 intro b q hq
 exact(key b 0).2 q hq
theorem most_nn (b:Bh):0<=zyw b:=by
 have key: ∀(b:Bh) (z:Int),z<=b.foldl (fun m q=>max m q.2) z:=by
  intro b
  induction b with
  |nil=>intro z;exact Int.le_refl _
  |cons p b ih=>intro z;have:=ih (max z p.2);simp only [List.foldl_cons];omega
 exact key b 0
theorem most_at (b:Bh):zyw b=0\/ ∃q∈b,q.2=zyw b:=by
 have key: ∀(b:Bh) (z:Int),b.foldl (fun m q=>max m q.2) z=z\/ ∃q∈b,q.2=b.foldl (fun m q=>max m q.2) z:=by
  intro b
  induction b with
  |nil=>intro z;exact .inl rfl
  |cons p b ih=>
   intro z
   rw [List.foldl_cons]
   rcases ih (max z p.2)with h|⟨q,hq,h⟩
   ·by_cases e:z<=p.2
    ·exact .inr ⟨p,by simp,by rw [h];omega⟩
    ·left;rw [h];omega
   ·exact .inr ⟨q,by simp [hq],h⟩
 exact key b 0
theorem zjm.le {b c:Bh}{p:Int × Int}(h:zjm b c p)(hb:Okm b):p.2<=zyw b:=by
 rcases Int.lt_or_eq_of_le h.nn with h0|h0
 ·have h1:=h.at_ h0
  have h2:g0 b p.1≠0:=by omega
  have:=most_ge (hb.mem_of h2)
  simp only at this
  omega
 ·have:=most_nn b;omega
theorem zjm.own {b:Bh}{p:Int × Int}(h:zjm b b p)(hb:Okm b):p.2=zyw b:=by
 have h1:=h.le hb
 rcases most_at b with h2|⟨q,hq,h2⟩
 ·have:=h.nn;omega
 ·have:=h.top q.1
  rw [g0_mem hb.nodup hq] at this
  omega
end Go.Herb
namespace Go.Proofs.YtchcelodeepjdaaGreatDoor.Vx
open Go.RowKit Go.Shelf Go.Herb

end Go.Proofs.YtchcelodeepjdaaGreatDoor.Vx

namespace Go.Proofs.YtchcelodeepjdaaGreatDoor.Vx
open Go.RowKit Go.Shelf Go.Herb

set_option maxRecDepth 100000 in
theorem zwa (w:World):Calls Tryz.prog 127 #[.int .u64 0] w fun e w'=>e= .returned (.int .i64 0)/\w=w':=by
 go_enter Tryz.func127,Tryz.ntmps127
 go_wp2
 go_ret
 refine⟨?_,rfl⟩
 kernel_rfl
theorem yks (w:World):Calls Tryz.prog 101 #[.int .u64 0] w fun e w'=>e= .returned (.int .i64 0)/\w=w':=by
 go_enter Tryz.func101,Tryz.ntmps101
 go_wp2_with(go_at_call 127;refine(zwa _).mono ?_;rintro e w' ⟨rfl,rfl⟩)
 go_ret
 exact⟨rfl,rfl⟩
end Go.Proofs.YtchcelodeepjdaaGreatDoor.Vx

namespace Go.Herb
open Classical in
noncomputable def baseQ (x y:Bh):Int × Int:=if h: ∃q,zjm x y q then h.choose else(0,0)
noncomputable def rowB (L:Vs)(i:Nat):Bh:=(L.drop (i+1)).map (fun r=>baseQ (L.getD i (0, [])).2 r.2)
end Go.Herb
namespace Go.Proofs.YtchcelodeepjdaaGreatDoor.Vx
open Go.RowKit Go.Shelf Go.Herb Go.Sort

end Go.Proofs.YtchcelodeepjdaaGreatDoor.Vx

namespace Go.Herb
theorem yvz {α:Type}{enc:α->List Value}{s:Nat}{w:World}{a:Option Addr}{xs:List α}(h:Els enc s w a xs)(n:Nat):Els enc s (w.drewN n) a xs:=⟨h.get⟩
end Go.Herb
namespace Go.Proofs.YtchcelodeepjdaaGreatDoor.Vx
open Go.RowKit Go.Shelf Go.Herb

end Go.Proofs.YtchcelodeepjdaaGreatDoor.Vx

namespace Go.Proofs.YtchcelodeepjdaaGreatDoor.Vx
open Go.RowKit Go.Shelf Go.Herb

theorem yxj {B:Nat}{a w:World}(h:Below B a w)(q:Nat):Below B a (w.drewN q):=⟨h.os,h.tape,h.output,h.size,h.block⟩
theorem xqh {w w':World}{a:Option Addr}{xs:List Vc}(h:VIn w a xs)(hb:Below w.heap.size w w'):VIn w' a xs:=⟨h.els.ext hb,fun x hx=>(h.inn x hx).ext hb,h.wf,h.len,h.lens⟩
end Go.Proofs.YtchcelodeepjdaaGreatDoor.Vx

namespace Go.Herb
end Go.Herb
namespace Go.Proofs.YtchcelodeepjdaaGreatDoor.Vx
open Go.RowKit Go.Shelf Go.Herb

structure RefIs (w:World)(p:Nat)(la:Option Addr)(lc:Nat)(xs:List Vc)(L:Vs):Prop where
 blk:w.heap[p]? =some (.cells #[.slice la xs.length lc] (158) (0,0))
 inn:VIn w la xs
 vs:vsOf xs=L
theorem RefIs.below {w w':World}{p:Nat}{la:Option Addr}{lc:Nat}{xs:List Vc}{L:Vs}(h:RefIs w p la lc xs L)(hb:Below w.heap.size w w'):RefIs w' p la lc xs L:=⟨zq4 h.blk hb (zq2 h.blk),xqh h.inn hb,h.vs⟩

end Go.Proofs.YtchcelodeepjdaaGreatDoor.Vx

namespace Go.Proofs.YtchcelodeepjdaaGreatDoor.Vx
open Go.RowKit Go.Shelf Go.Herb

theorem run_copy (w:World)(B:Nat)(a:Option Addr)(c n:Nat)(ps:Bh)(hP:Pts w a ps)(hn:ps.length=n)(hl:n<1000000)(hB:B<=w.heap.size)(ty:TypeId):
  ∃v' w',(Builtin.append_ #[(74),(74)] ty #[.slice none 0 0, .slice a n c]).run Tryz.prog w= .ok v' w'/\OwnP B w' v' ps/\Below w.heap.size w w':=by
 subst hn
 obtain⟨i0,hin,hz0,hz1,hz2⟩:=info_parts infoP
 have ho:OwnP B w (.slice none 0 0) [] :=World.ownsRow_nil _ _ _ _
 cases a with
 |none=>
  have h0:ps= [] :=by
   cases ps with
   |nil=>rfl
   |cons x xs=>obtain⟨b,o,h,_⟩:=hP.get 0 (by simp);cases h
  subst h0
  refine⟨.slice none 0 0,w,?_,ho,zb⟩
  have hu:=Tryz.underlying74
  simp [Builtin.append_,run_underlying hu,sizeOf,typeInfo,hin,Builtin.lenOf,Builtin.firstCells]
 |some ad=>
  obtain⟨v',w',hr,h2,h3,h4⟩:=run_append_own (P:=Tryz.prog) w B (74) ty (78) i0 _ 2 16 Tryz.underlying74 hin hz0 hz1 hz2 rfl (by decide) (.slice none 0 0) 0 [] ho ad ps.length c (ps.flatMap pc) (zq8 yz5 _) (hP.flat yz5 (by decide)) (fun u hu=>by
   obtain⟨q,_,hq⟩:=List.mem_flatMap.1 hu
   exact yyp q u hq) (by unfold maxLen;omega) (by omega) hB
  refine⟨v',w',hr,?_,h3.os,h3.tape,h3.output,h3.size,fun k hk=>h3.block k hk (by simp [Value.ownBlock])⟩
  unfold OwnP
  simpa using h2
def VcO (B:Nat)(w:World)(x:Vc):Prop:= ∃c,OwnP B w (.slice x.a x.ps.length c) x.ps
theorem VcO.kept {B:Nat}{w w':World}{x:Vc}{row:Option Nat}(h:VcO B w x)(hg:w.grownBy w' row)(hr: ∀r,row=some r->x.a≠some ⟨r,0,none⟩):VcO B w' x:=by
 obtain⟨cap,ho⟩:=h
 refine⟨cap,World.ownsRow.kept ho hg ?_⟩
 rcases zzt ho with⟨h1,_⟩|⟨g,cap,h1,_,_⟩
 ·rw [h1];exact .inl rfl
 ·refine .inr (fun e=> ?_)
  rw [h1] at e
  have h2:x.a=some ⟨g,0,none⟩:=by injection h1
  exact hr g e.symm h2
theorem VcO.below {B:Nat}{w w':World}{x:Vc}(h:VcO B w x)(hb:Below w.heap.size w w'):VcO B w' x:=by
 obtain⟨cap,ho⟩:=h
 exact⟨cap,ownsRow_below ho hb zr⟩
structure CpAt (B:Nat)(w:World)(v:Value)(ys:List Vc)(L:Vs):Prop where
 vs:vsOf ys=L
 own:OwnV B w v ys
 at_: ∀y∈ys,VcO B w y/\ ∀r,v.ownBlock=some r->y.a≠some ⟨r,0,none⟩
theorem CpAt.add {B:Nat}{wr w1:World}{v:Value}{ys:List Vc}{L:Vs}{line:Int}{ps:Bh}{a1:Option Addr}{c1:Nat}(h:CpAt B wr v ys L)(hB:B<=wr.heap.size)(hb:Below wr.heap.size wr w1)
  (ho:OwnP wr.heap.size w1 (.slice a1 ps.length c1) ps) (hl:ys.length<1000000):
  ∃v' w9,(∀ty,(Builtin.append_ #[(29),(29)] ty #[v, .slice (some ⟨w1.heap.size,0,none⟩) 1 1]).run Tryz.prog (w1.alloc (.cells #[.int .u64 line, .slice a1 ps.length c1] (76)))= .ok v' w9)/\CpAt B w9 v' (ys++ [⟨line,a1,c1,ps⟩]) (L++ [(line,ps)])/\(∀w0:World,w0.heap.size=B->Below B w0 wr->Below B w0 w9):=by
 obtain⟨Z,hZ⟩: ∃Z:World,Z=w1.alloc (.cells #[.int .u64 line, .slice a1 ps.length c1] (76)):=⟨_,rfl⟩
 have hZb:Below w1.heap.size w1 Z:=by rw [hZ];exact zb.alloc zr _
 have hZx:Z.heap[w1.heap.size]? =some (.cells #[.int .u64 line, .slice a1 ps.length c1] (76) (0,0)):=by rw [hZ];exact zq3 rfl _
 have hZ2:Below wr.heap.size wr Z:=hb.trans (hZb.mono hb.size)
 have hs1:=hb.size
 have hs2:=hZb.size
 obtain⟨v',w9,hr,h2,hg,h5⟩:=yzf Z B v ys w1.heap.size ⟨line,a1,c1,ps⟩ (ownsRow_below h.own hZ2 zr) hZx hl (by omega) (29)
 have hvb: ∀k,v.ownBlock=some k->B<=k/\k<wr.heap.size:=fun k e=>World.ownsRow.lt h.own k e
 have hab: ∀r,a1=some ⟨r,0,none⟩->wr.heap.size<=r/\r<w1.heap.size:=fun r e=>World.ownsRow.lt ho r (by rw [e];rfl)
 rw [<-hZ]
 refine⟨v',w9,fun _=>hr,⟨by rw [<-h.vs];simp [vsOf],h2,fun y hy=> ?_⟩,fun w0 e0 hw=> ?_⟩
 ·rcases List.mem_append.1 hy with hy|hy
  ·obtain⟨g1,g2⟩:=h.at_ y hy
   refine⟨(g1.below hZ2).kept hg g2,fun r e=> ?_⟩
   rcases h5 with h5|h5
   ·exact g2 r (by rw [<-h5];exact e)
   ·rw [h5] at e
    injection e with e
    obtain⟨cp,hc⟩:=g1
    intro ha
    have:=(World.ownsRow.lt hc r (by rw [ha];rfl)).2
    omega
  ·rw [List.mem_singleton.1 hy]
   refine⟨VcO.kept (x:=⟨line,a1,c1,ps⟩) ⟨c1,zq9 (ownsRow_below ho hZb zr) hB⟩ hg (fun r e ha=>by have:=(hvb r e).2;have:=(hab r ha).1;omega),fun r e ha=> ?_⟩
   have h3:=hab r ha
   rcases h5 with h5|h5
   ·have:=(hvb r (by rw [<-h5];exact e)).2;omega
   ·rw [h5] at e;injection e with e;omega
 ·exact(hw.trans (hZ2.mono hB)).grown hg (by have:=hw.size;omega) (fun k e=>(hvb k e).1)
end Go.Proofs.YtchcelodeepjdaaGreatDoor.Vx

namespace Go.Proofs.YtchcelodeepjdaaGreatDoor.Vx
open Go.RowKit Go.Shelf Go.Herb

set_option maxRecDepth 100000 in
set_option maxHeartbeats 2000000 in
theorem yx3 (a:Option Addr)(cap n:Nat)(xs:List Vc)(w:World)(h:VIn w a xs)(hn:xs.length=n)(hS:Small (vsOf xs)):
  Calls Tryz.prog (87) #[.slice a n cap] w fun e w'=> ∃v ys,e= .returned v/\CpAt w.heap.size w' v ys (vsOf xs)/\Below w.heap.size w w':=by
 have H:=zh h
 have HN:=zh hn
 have HS:=zh hS
 have hnl:n<100000:=by have:=hS.len;rw [zqk] at this;omega
 clear h hn hS
 go_enter Tryz.func87,Tryz.ntmps87
 go_wp2_with fail
 go_loopg [3,4] n (fun gk ov iv wr=> ∃(i:Nat) (ys:List Vc),i+gk=n/\iv= .int .i64 i/\Hid (CpAt w.heap.size wr ov ys ((vsOf xs).take i))/\Hid (Below w.heap.size w wr))
 case atStart=>exact⟨0, [],by omega,rfl,zh ⟨rfl,World.ownsRow_nil _ _ _ _,by simp⟩,zh zb⟩
 case round=>
  obtain⟨i,ys,hi,rfl,HC,HB⟩:=hrel
  by_cases hlt:i<n
  ·have hil:i<xs.length:=by have:=HN.out;omega
   obtain⟨b,o,rfl,hlb,hc⟩:=H.out.els.get i hil
   have x0:=(HB.out.cell (p:=⟨b,_,none⟩) hlb).trans (hc 0 _ rfl)
   have x1:=(HB.out.cell (p:=⟨b,_,none⟩) hlb).trans (hc 1 _ rfl)
   simp only [Nat.add_zero] at x0 x1
   have HP:=zh ((H.out.inn _ (List.getElem_mem hil)).ext HB.out)
   have HT:=zh (show(vsOf xs).take (i+1)=(vsOf xs).take i++ [(xs[i].line,xs[i].ps)] by rw [List.take_succ_eq_append_getElem (by rw [zqk];exact hil),zw2 xs i hil])
   have HL:=zh (show xs[i].ps.length<100000 from HS.out.inn (xs[i].line,xs[i].ps) (by unfold vsOf;exact List.mem_map.2 ⟨xs[i],List.getElem_mem hil,rfl⟩))
   clear hc
   generalize xs[i] =x at*
   obtain⟨xl,xa,xc,xp⟩:=x
   simp only at x0 x1 HP HT HL
   have hyl:ys.length<1000000:=by
    have:=congrArg List.length HC.out.vs
    rw [zqk,List.length_take] at this
    omega
   obtain⟨v1,w1,hr1,ho1,hb1⟩:=run_copy wr.drew wr.heap.size xa xc xp.length xp (yvz HP.out 1) rfl (by have:=HL.out;omega) zr (74)
   obtain⟨a1,c1,rfl, -, -, -, -⟩:=zqv ho1
   have hb1':Below wr.heap.size wr w1:=(Below.drew (Below.refl wr.heap.size wr)).trans hb1
   have y0:=(hb1'.cell (p:=⟨b,_,none⟩) (Nat.lt_of_lt_of_le hlb HB.out.size)).trans x0
   obtain⟨v2,w9,hr2,hC2,hB2⟩:=HC.out.add (line:=xl) HB.out.size hb1' ho1 hyl
   rw [<-HT.out] at hC2
   have HC2:=zh hC2
   have HB2:=zh (hB2 w rfl HB.out)
   have HR1:=zh hr1
   have HR2:=zh hr2
   obtain⟨pn,hpn⟩: ∃pn,pn=xp.length:=⟨_,rfl⟩
   rw [<-hpn] at x1 HR1 HR2
   have hk0:(0:Int)<=(i:Int):=by omega
   have hk1:(i:Int)<(n:Int):=by omega
   clear hr1 hr2 ho1 hb1 hb1' hC2 hB2 hyl hpn
   go_wp2_with fail
   go_region_law (first|(refine zqj rfl (.const (.slice none 0 0)) (.tmp 21) (74) (74) rfl (.slice none 0 0) (.slice xa pn xc) (by simp [Act.eval]) (by simp [Act.eval]) _ _ (HR1.out) ?_)|(refine zqj rfl (.tmp 11) (.tmp 24) (29) (29) rfl u3 (.slice (some ⟨w1.heap.size,0,none⟩) 1 1) (by simp [Act.eval]) (by simp [Act.eval]) _ _ (HR2.out _) ?_))
   all_goals
    clear x0 x1 y0
    go_wp2
    go_roundg(gk - 1)
    case measure=>omega
    case rel=>exact⟨i+1,_,by omega,by go_num,HC2,HB2⟩
  ·have HE:=zh (show CpAt w.heap.size wr u3 ys (vsOf xs)from by
    have h1:=HC.out
    rwa [List.take_of_length_le (by rw [zqk];have:=HN.out;omega)] at h1)
   go_wp2_with fail
   go_ret
   exact⟨u3,ys,rfl,HE.out,HB.out⟩
end Go.Proofs.YtchcelodeepjdaaGreatDoor.Vx
