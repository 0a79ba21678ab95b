/- Lemmas and walks towards ManifestsFold. Conditions: each one tells its own. -/
import Derived.Test.YtchcelodeepjdaaGreatDoorMp
import Derived.Test.YtchcelodeepjdaaGreatDoorY7
namespace Go.Proofs.YtchcelodeepjdaaGreatDoor.Vx
open Go.RowKit Go.Shelf Go.Herb

theorem ykl: ∀(ys:List Vc) (i:Nat) (y:Vc) (a:Option Addr) (c:Nat) (ps:Bh),ys[i]? =some y->(ys.flatMap vc).set (i*2+1) (.slice a ps.length c)=(ys.set i ⟨y.line,a,c,ps⟩).flatMap vc
 | [],_,_,_,_,_,h=>by simp at h
 |z::zs,0,y,a,c,ps,h=>by
  simp at h
  subst h
  rfl
 |z::zs,i+1,y,a,c,ps,h=>by
  have ih:=ykl zs i y a c ps (by simpa using h)
  rw [List.set_cons_succ,List.flatMap_cons,List.flatMap_cons,<-ih,show(i+1)*2+1=(i*2+1)+1+1 by omega]
  rfl
theorem rowV_set {w:World}{g cap:Nat}{ys:List Vc}(h:Row vc 2 (76) w g cap ys){i:Nat}{y:Vc}(hy:ys[i]? =some y)(a:Option Addr)(c:Nat)(ps:Bh):
  Row vc 2 (76) (w.setCell ⟨g,i*2+1,none⟩ (.slice a ps.length c)) g cap (ys.set i ⟨y.line,a,c,ps⟩):=by
 obtain⟨cur,hc,hsz,htk⟩:=h.blk
 refine⟨⟨_,zq7 hc _,by simpa using hsz,?_⟩,by simpa using h.le,h.max⟩
 rw [Array.toList_setIfInBounds,List.length_set,List.take_set,htk,ykl ys i y a c ps hy]
theorem vsOf_set (ys:List Vc)(i:Nat)(l:Int)(a:Option Addr)(c:Nat)(ps:Bh):vsOf (ys.set i ⟨l,a,c,ps⟩)=(vsOf ys).set i (l,ps):=by unfold vsOf;rw [List.map_set]
theorem yz1 {B g cap:Nat}{w:World}{ys:List Vc}(h:Row vc 2 (76) w g cap ys)(hB:B<=g):OwnV B w (.slice (some ⟨g,0,none⟩) ys.length cap) ys:=by
 obtain⟨cur,hc,hsz,htk⟩:=h.blk
 exact⟨zq8 ywd _, .inr ⟨g,cap,cur,rfl,hB,hc,h.le,h.max,hsz,htk⟩⟩
theorem CpAt.len {B:Nat}{w:World}{v:Value}{ys:List Vc}{L:Vs}(h:CpAt B w v ys L):ys.length=L.length:=by rw [<-h.vs,zqk]
theorem CpAt.set {B B':Nat}{w:World}{g n cap:Nat}{ys:List Vc}{L:Vs}{i:Nat}{y:Vc}{a:Option Addr}{c:Nat}{ps:Bh}
  (h:CpAt B w (.slice (some ⟨g,0,none⟩) n cap) ys L) (hy:ys[i]? =some y) (ho:OwnP B' w (.slice a ps.length c) ps) (hB:B<=B') (hg:g<B'):
  CpAt B (w.setCell ⟨g,i*2+1,none⟩ (.slice a ps.length c)) (.slice (some ⟨g,0,none⟩) n cap) (ys.set i ⟨y.line,a,c,ps⟩) (L.set i (y.line,ps)):=by
 have hgr:w.grownBy (w.setCell ⟨g,i*2+1,none⟩ (.slice a ps.length c)) (some g):=zz4 (zqp _ _) _ _
 refine⟨by rw [vsOf_set,h.vs],?_,fun z hz=> ?_⟩
 ·rcases zzt h.own with⟨h1,h2⟩|⟨g',cap',h1,h2,h3⟩
  ·injection h1 with h1;cases h1
  ·injection h1 with h1 h4 h5
   injection h1 with h1
   injection h1 with h1
   subst h1 h4 h5
   have:=yz1 (rowV_set h3 hy a c ps) h2
   rwa [List.length_set] at this
 ·rcases List.mem_or_eq_of_mem_set hz with hz|rfl
  ·obtain⟨g1,g2⟩:=h.at_ z hz
   exact⟨g1.kept hgr (fun r e=>g2 r (by rw [<-e];rfl)),g2⟩
  ·have hlt: ∀r,a=some ⟨r,0,none⟩->B'<=r:=fun r e=>(World.ownsRow.lt ho r (by rw [e];rfl)).1
   refine⟨VcO.kept (x:=⟨y.line,a,c,ps⟩) ⟨c,zq9 ho hB⟩ hgr (fun r e ha=> ?_),fun r e ha=> ?_⟩
   ·injection e with e
    have:=hlt r ha
    omega
   ·have h1:=hlt r ha
    have e2:g=r:=by injection e
    omega
 
theorem VcO.pts {B:Nat}{w:World}{x:Vc}(h:VcO B w x):Pts w x.a x.ps:=by
 obtain⟨cap,ho⟩:=h
 exact zx3 yz5 ho
theorem CpAt.vin {B:Nat}{w:World}{va:Option Addr}{n cap:Nat}{ys:List Vc}{L:Vs}(h:CpAt B w (.slice va n cap) ys L)(hG:GoodV L):n=ys.length/\VIn w va ys:=by
 have hm: ∀x∈ys,(x.line,x.ps)∈L:=fun x hx=>by rw [<-h.vs];exact List.mem_map.2 ⟨x,hx,rfl⟩
 obtain⟨a',c',e, -,hl1,hl2, -⟩:=zqv h.own
 injection e with e1 e2 e3
 subst e1 e2 e3
 refine⟨rfl,zx3 ywd h.own,fun x hx=>(h.at_ x hx).1.pts,fun x h=>⟨hG.wf _ (hm x h),fun q hq=>(hG.inn _ (hm x h)).wf q hq⟩,Nat.le_trans hl1 hl2,fun x hx=> ?_⟩
 obtain⟨c,hc⟩:=(h.at_ x hx).1
 obtain⟨_,_,_, -,h1,h2, -⟩:=zqv hc
 exact Nat.le_trans h1 h2
theorem CpAt.get {B:Nat}{w:World}{v:Value}{ys xs:List Vc}{i:Nat}{x:Vc}(h:CpAt B w v ys (vsOf xs))(hx:xs[i]? =some x): ∃y,ys[i]? =some y/\y.line=x.line/\y.ps=x.ps:=by
 have h1:(vsOf ys)[i]? =some (x.line,x.ps):=by rw [h.vs];unfold vsOf;rw [List.getElem?_map,hx];rfl
 unfold vsOf at h1
 rw [List.getElem?_map] at h1
 obtain⟨y,h2,h3⟩:=Option.map_eq_some_iff.1 h1
 injection h3 with h3 h4
 exact⟨y,h2,h3,h4⟩
theorem CpAt.below {B:Nat}{w w':World}{v:Value}{ys:List Vc}{L:Vs}(h:CpAt B w v ys L)(hb:Below w.heap.size w w'):CpAt B w' v ys L:=
 ⟨h.vs,ownsRow_below h.own hb zr,fun y hy=>⟨(h.at_ y hy).1.below hb,(h.at_ y hy).2⟩⟩
theorem CpAt.ref {B p:Nat}{w:World}{va:Option Addr}{n cap:Nat}{ys:List Vc}{L:Vs}(h:CpAt B w (.slice va n cap) ys L)(hG:GoodV L)(hp:w.heap[p]? =some (.cells #[.slice va n cap] (158) (0,0))):RefIs w p va cap ys L:=by
 obtain⟨rfl,hv⟩:=h.vin hG
 exact⟨hp,hv,h.vs⟩
end Go.Proofs.YtchcelodeepjdaaGreatDoor.Vx

namespace Go.Proofs.YtchcelodeepjdaaGreatDoor.Vx
open Go.RowKit Go.Shelf Go.Herb

theorem vc_one (x:Vc): ∀v∈vc x,v.oneCell'=true:=by
 intro v hv
 simp [vc] at hv
 rcases hv with rfl|rfl<;>rfl

end Go.Proofs.YtchcelodeepjdaaGreatDoor.Vx

namespace Go.Proofs.YtchcelodeepjdaaGreatDoor.Vx
open Go.RowKit Go.Shelf Go.Herb

def zj4 (L:Vs)(w:World)(e:Ending)(w':World):Prop:=
 ∃v er,e= .returned (.tuple #[v, .int .i64 er])/\Below w.heap.size w w'/\((er=0/\okV L/\ ∃p la lc xs,v= .pointer (some ⟨p,0,none⟩)/\RefIs w' p la lc xs L)\/(er=4/\ ¬okV L/\v= .pointer none))

theorem vin_ext2 {w0 w':World}{a:Option Addr}{xs:List Vc}(h:VIn w0 a xs)(hb:Below w0.heap.size w0 w'):VIn w' a xs:=xqh h hb
set_option maxRecDepth 100000 in
set_option maxHeartbeats 2000000 in
theorem yv2 (a:Option Addr)(cap:Nat)(xs:List Vc)(w:World)(h:VIn w a xs)(hS:Small (vsOf xs)):
  Calls Tryz.prog (55) #[.slice a xs.length cap] w (zj4 (vsOf xs) w):=by
 have H:=zh h
 have HS:=zh hS
 obtain⟨N,hN⟩: ∃N,N=xs.length:=⟨_,rfl⟩
 have HN:=zh hN
 have hlen:N<100000:=by have:=hS.len;rw [zqk] at this;omega
 rw [<-hN]
 clear h hS hN
 go_enter Tryz.func55,Tryz.ntmps55
 go_wp2_with fail
 go_loopg [4] N (fun gk iv wr=> ∃i:Nat,i+gk=N/\iv= .int .i64 i/\Hid (okV ((vsOf xs).take i))/\Hid (Below w.heap.size w wr))
 case atStart=>exact⟨0,by omega,rfl,zh ⟨.nil,by simp⟩,zh (Below.refl _ w)⟩
 case round=>
  obtain⟨i,hi,rfl,HO,HBW⟩:=hrel
  by_cases hltN:i<N
  ·have hlt:i<xs.length:=by have:=HN.out;omega
   obtain⟨b,o,rfl,hlb,hcell⟩:=H.out.els.get i hlt
   have x0:=(HBW.out.cell (p:=⟨b,_,none⟩) hlb).trans (hcell 0 _ rfl)
   have x1:=(HBW.out.cell (p:=⟨b,_,none⟩) hlb).trans (hcell 1 _ rfl)
   simp only [Nat.add_zero] at x0 x1
   have hi0:(0:Int)<=(i:Int):=by omega
   have hi1:(i:Int)<(N:Int):=by omega
   have hli:i<(vsOf xs).length:=by rw [zqk];exact hlt
   have hgi:=zw2 xs i hlt
   have HX:=zh (List.getElem_mem hlt)
   have HTI:=zh (show(vsOf xs).take (i+1)=(vsOf xs).take i++ [(xs[i].line,xs[i].ps)] from by rw [List.take_succ_eq_append_getElem hli,hgi])
   have hprev: ∀h0:0<i,∃pl,wr.cell? ⟨b,o+(i - 1)*2,none⟩=some (.int .u64 pl)/\(vsOf xs)[i - 1].1=pl:=fun h0=>by
    obtain⟨b',o',ha',hlb',hcell'⟩:=H.out.els.get (i - 1) (by omega)
    injection ha' with ha'
    cases ha'
    have:=(HBW.out.cell (p:=⟨b,_,none⟩) hlb').trans (hcell' 0 _ rfl)
    simp only [Nat.add_zero] at this
    exact⟨_,this,by rw [zw2 xs (i - 1) (by omega)]⟩
   have HPV:=zh hprev
   have HGI:=zh hgi
   have HLI:=zh hli
   have hpl:=HS.out.inn (xs[i].line,xs[i].ps) (by unfold vsOf;exact List.mem_map.2 ⟨xs[i],List.getElem_mem hlt,rfl⟩)
   simp only at hpl
   obtain⟨x,hxe⟩: ∃x,x=xs[i] :=⟨_,rfl⟩
   rw [<-hxe] at x0 x1 HTI HGI hpl HX
   have HXE:=zh hxe.symm
   clear hcell hgi hprev hxe
   obtain⟨xl,xa,xc,xp⟩:=x
   simp only at x0 x1 HTI HGI hpl
   have HXP:Hid (Pts w xa xp):=zh (H.out.inn _ HX.out)
   obtain⟨M,hM⟩: ∃M,M=xp.length:=⟨_,rfl⟩
   have HM:=zh hM
   rw [<-hM] at x1 hpl
   clear hM
   go_upto_region 5 with(fail)
   go_cut [28] (fun v wx=> ∃(c:Bool) (n:Nat),v= .bool c/\Hid (c=true-> ¬okV (vsOf xs))/\Hid (c=false->SrtK ((vsOf xs).take (i+1)))/\wx=wr.drewN n)
   case first=>
    by_cases h0:0<i
    ·obtain⟨pl,hpc,hpl2⟩:=HPV.out h0
     have h0':(0:Int)<(i:Int):=by omega
     have h0d:decide ((0:Int)<(i:Int))=true:=decide_eq_true h0'
     have h0e:decide (0<i)=true:=decide_eq_true h0
     have w1:IntKind.i64.wrap ((i:Int) - 1)=(i:Int) - 1:=IntWalk.i64_in _ (by omega)
     have p1:(0:Int)<=(i:Int) - 1:=by omega
     have p1':(1:Int)<=(i:Int):=by omega
     have q1:((i:Int) - 1).toNat=i - 1:=by omega
     have r1:(i:Int) - 1<(N:Int):=by omega
     have HPL:=zh hpl2
     clear hpl2
     by_cases hle:xl<=pl
     ·have hled:decide (xl<=pl)=true:=decide_eq_true hle
      have HB:Hid (¬okV (vsOf xs)):=zh (fun hok=>by
       have h1:=SrtK.get hok.1 (i:=i - 1) (j:=i) (by omega) HLI.out
       rw [HPL.out,HGI.out] at h1
       simp only at h1
       omega)
      go_wp2_with fail
      go_quiet (fail)
      go_wp2_with fail
      go_meet
      exact⟨true,nq,rfl,zh (fun _=>HB.out),zh (fun h=>by cases h),rfl⟩
     ·have hled:decide (xl<=pl)=false:=decide_eq_false hle
      have HB:Hid (SrtK ((vsOf xs).take (i+1))):=zh (HO.out.1.snoc HLI.out (.inr ⟨by have:=HLI.out;omega,by rw [HPL.out,HGI.out];simp only;omega⟩))
      go_wp2_with fail
      go_quiet (fail)
      go_wp2_with fail
      go_meet
      exact⟨false,nq,rfl,zh (fun h=>by cases h),zh (fun _=>HB.out),rfl⟩
    ·have h0': ¬(0:Int)<(i:Int):=by omega
     have h0d:decide ((0:Int)<(i:Int))=false:=decide_eq_false h0'
     have h0e:decide (0<i)=false:=decide_eq_false h0
     have HB:Hid (SrtK ((vsOf xs).take (i+1))):=zh (HO.out.1.snoc HLI.out (.inl (by omega)))
     go_wp2_with fail
     go_quiet (fail)
     go_wp2_with fail
     go_meet
     exact⟨false,nq,rfl,zh (fun h=>by cases h),zh (fun _=>HB.out),rfl⟩
   case rest=>
   obtain⟨c,n,rfl,HC1,HC2,rfl⟩:=hcut
   obtain⟨Y,hY⟩: ∃Y:World,Y=wr.drewN n:=⟨_,rfl⟩
   have HYB:=zh (show Below w.heap.size w Y by rw [hY];exact yxj HBW.out n)
   rw [<-hY]
   clear hY x0 x1 HPV
   cases c with
   |true=>
    have HE:Hid (zj4 (vsOf xs) w (.returned (.tuple #[.pointer none, .int .i64 4])) Y):=zh ⟨_,4,rfl,HYB.out, .inr ⟨rfl,HC1.out rfl,rfl⟩⟩
    go_wp2_with fail
    go_ret2
    exact HE.out
   |false=>
    have HSO:=zh (HC2.out rfl)
    clear HC1 HC2
    go_wp2_with fail
    obtain⟨g1,rfl⟩: ∃g1:Nat,g1=gk:=⟨_,rfl⟩
    obtain⟨wo,rfl⟩: ∃wo:World,wo=wr:=⟨_,rfl⟩
    go_loopg [5] M (fun gk kv wr=> ∃k:Nat,k+gk=M/\kv= .int .i64 k/\Hid (okB (xp.take k))/\Hid (Below w.heap.size w wr))
    case atStart=>exact⟨0,by omega,rfl,zh ⟨.nil,by simp⟩,HYB⟩
    case round=>
     obtain⟨k,hk,rfl,HOB,HWW⟩:=hrel
     have hbx:b<w.heap.size:=hlb
     obtain⟨b',o',he', -,hcell⟩:=H.out.els.get i (by have:=HN.out;omega)
     injection he' with he'
     cases he'
     have x1:=(HWW.out.cell (p:=⟨b,_,none⟩) hlb).trans (hcell 1 _ rfl)
     have hxe:xs[i]'(by have:=HN.out;omega)=⟨xl,xa,xc,xp⟩:=HXE.out
     rw [hxe] at x1
     clear hcell hxe
     simp only [<-HM.out] at x1
     by_cases hkl:k<M
     ·have hkx:k<xp.length:=by have:=HM.out;omega
      obtain⟨b2,o2,rfl,hlb2,hcell2⟩:=HXP.out.get k hkx
      have z0:wr.cell? ⟨b2,o2+k*2,none⟩=some (.int .u64 (xp[k]'hkx).1):=(HWW.out.cell (p:=⟨b2,_,none⟩) hlb2).trans (hcell2 0 _ rfl)
      have z1:wr.cell? ⟨b2,o2+k*2+1,none⟩=some (.int .u64 (xp[k]'hkx).2):=(HWW.out.cell (p:=⟨b2,_,none⟩) hlb2).trans (hcell2 1 _ rfl)
      have hk0:(0:Int)<=(k:Int):=by omega
      have hk1:(k:Int)<(M:Int):=by omega
      have hprev: ∀h0:0<k,∃pl,(∀u,Below w.heap.size w u->u.cell? ⟨b2,o2+(k - 1)*2,none⟩=some (.int .u64 pl))/\xp[k - 1].1=pl:=fun h0=>by
       obtain⟨b',o',ha',hlb',hcell'⟩:=HXP.out.get (k - 1) (by omega)
       injection ha' with ha'
       cases ha'
       exact⟨_,fun u hu=>by
        have:=(hu.cell (p:=⟨b2,_,none⟩) hlb').trans (hcell' 0 _ rfl)
        simpa only [Nat.add_zero] using this,rfl⟩
      have HPV2:=zh hprev
      have HTK:=zh (show xp.take (k+1)=xp.take k++ [xp[k]'hkx] from List.take_succ_eq_append_getElem hkx)
      have HQM:=zh (List.getElem_mem hkx)
      have HKX:=zh hkx
      obtain⟨q,hq⟩: ∃q,q=xp[k]'hkx:=⟨_,rfl⟩
      rw [<-hq] at z0 z1 HTK HQM
      have HQ:=zh hq
      clear hcell2 hprev hq
      obtain⟨q1,q2⟩:=q
      simp only at z0 z1
      obtain⟨P,hP⟩: ∃P:World,P=wr.alloc (.cells #[.int .u64 q1, .int .u64 q2] (78)):=⟨_,rfl⟩
      have hPb:Below wr.heap.size wr P:=by rw [hP];exact zb.alloc zr _
      have hPx:P.heap[wr.heap.size]? =some (.cells #[.int .u64 q1, .int .u64 q2] (78) (0,0)):=by rw [hP];exact zq3 rfl _
      have HPB:=zh (HWW.out.trans (hPb.mono HWW.out.size))
      have HPX:=zh hPx
      have P1x:=(HPB.out.cell (p:=⟨b,_,none⟩) hlb).trans ((HWW.out.cell (p:=⟨b,_,none⟩) hlb).symm.trans x1)
      clear hPb hPx
      go_upto_region 11 with(fail)
      rw [<-hP]
      clear hP z0 z1 x1
      go_cut [68] (fun v wx=> ∃(c:Bool) (n:Nat),v= .bool c/\Hid (c=true-> ¬okB xp)/\Hid (c=false->okB (xp.take (k+1)))/\wx=P.drewN n)
      case first=>
       have P0:=zq0 HPX.out 0
       have P1:=zq0 HPX.out 1
       simp at P0 P1
       by_cases hq0:q2=0
       ·subst hq0
        have HB:Hid (¬okB xp):=zh (fun hok=>hok.2 _ HQM.out rfl)
        go_wp2_with fail
        go_quiet (fail)
        go_wp2_with fail
        go_meet
        exact⟨true,nq,rfl,zh (fun _=>HB.out),zh (fun h=>by cases h),rfl⟩
       ·have hq0':(q2==0)=false:=by simpa using hq0
        have hq0d:decide (q2=0)=false:=decide_eq_false hq0
        by_cases h0:0<k
        ·obtain⟨pl,hpc0,hpl2⟩:=HPV2.out h0
         have hpX:=hpc0 P HPB.out
         have h0':(0:Int)<(k:Int):=by omega
         have h0d:decide ((0:Int)<(k:Int))=true:=decide_eq_true h0'
         have h0e:decide (0<k)=true:=decide_eq_true h0
         have w1:IntKind.i64.wrap ((k:Int) - 1)=(k:Int) - 1:=IntWalk.i64_in _ (by omega)
         have p1:(0:Int)<=(k:Int) - 1:=by omega
         have p1':(1:Int)<=(k:Int):=by omega
         have e1:((k:Int) - 1).toNat=k - 1:=by omega
         have r1:(k:Int) - 1<(M:Int):=by omega
         have HPL:=zh hpl2
         clear hpc0 hpl2
         by_cases hle:q1<=pl
         ·have hled:decide (q1<=pl)=true:=decide_eq_true hle
          have HB:Hid (¬okB xp):=zh (fun hok=>by
           have h1:=SrtK.get hok.1 (i:=k - 1) (j:=k) (by omega) HKX.out
           rw [HPL.out,<-HQ.out] at h1
           simp only at h1
           omega)
          go_wp2_with fail
          go_quiet (fail)
          go_wp2_with fail
          go_meet
          exact⟨true,nq,rfl,zh (fun _=>HB.out),zh (fun h=>by cases h),rfl⟩
         ·have hled:decide (q1<=pl)=false:=decide_eq_false hle
          have HB:Hid (okB (xp.take (k+1))):=zh ⟨HOB.out.1.snoc HKX.out (.inr ⟨by have:=HKX.out;omega,by rw [HPL.out,<-HQ.out];simp only;omega⟩),fun r hr=>by
           rw [HTK.out] at hr
           rcases List.mem_append.1 hr with hr|hr
           ·exact HOB.out.2 r hr
           ·rw [List.mem_singleton.1 hr];exact hq0⟩
          go_wp2_with fail
          go_quiet (fail)
          go_wp2_with fail
          go_meet
          exact⟨false,nq,rfl,zh (fun h=>by cases h),zh (fun _=>HB.out),rfl⟩
        ·have h0': ¬(0:Int)<(k:Int):=by omega
         have h0d:decide ((0:Int)<(k:Int))=false:=decide_eq_false h0'
         have h0e:decide (0<k)=false:=decide_eq_false h0
         have HB:Hid (okB (xp.take (k+1))):=zh ⟨HOB.out.1.snoc HKX.out (.inl (by omega)),fun r hr=>by
           rw [HTK.out] at hr
           rcases List.mem_append.1 hr with hr|hr
           ·exact HOB.out.2 r hr
           ·rw [List.mem_singleton.1 hr];exact hq0⟩
         go_wp2_with fail
         go_quiet (fail)
         go_wp2_with fail
         go_meet
         exact⟨false,nq,rfl,zh (fun h=>by cases h),zh (fun _=>HB.out),rfl⟩
      case rest=>
      obtain⟨c,n2,rfl,HC1,HC2,rfl⟩:=hcut
      obtain⟨Z,hZ⟩: ∃Z:World,Z=P.drewN n2:=⟨_,rfl⟩
      have HZB:=zh (show Below w.heap.size w Z by rw [hZ];exact yxj HPB.out n2)
      rw [<-hZ]
      clear hZ P1x HPV2
      cases c with
      |true=>
       have HE:Hid (zj4 (vsOf xs) w (.returned (.tuple #[.pointer none, .int .i64 4])) Z):=zh ⟨_,4,rfl,HZB.out, .inr ⟨rfl,fun hok=>HC1.out rfl (hok.2 (xl,xp) (by unfold vsOf;exact List.mem_map.2 ⟨_,HX.out,rfl⟩)),rfl⟩⟩
       go_wp2_with fail
       go_ret2
       exact HE.out
      |false=>
       have HOK6:=zh (HC2.out rfl)
       clear HC1 HC2
       go_wp2_with fail
       go_roundg(gk - 1)
       case measure=>omega
       case rel=>exact⟨k+1,by omega,by go_num,HOK6,HZB⟩
     ·have hke:k=xp.length:=by have:=HM.out;omega
      have hOB:okB xp:=by have:=HOB.out;rwa [hke,List.take_length] at this
      have HO6:=zh (show okV ((vsOf xs).take (i+1))from⟨HSO.out,fun r hr=>by
       rw [HTI.out] at hr
       rcases List.mem_append.1 hr with hr|hr
       ·exact HO.out.2 r hr
       ·rw [List.mem_singleton.1 hr];exact hOB⟩)
      clear hOB hke
      go_wp2_with fail
      go_roundg(g1 - 1)
      case measure=>omega
      case rel=>exact⟨i+1,by omega,by go_num,HO6,HWW⟩
  ·have hok:okV (vsOf xs):=by
    have h1:=HO.out
    rwa [List.take_of_length_le (by rw [zqk];have:=HN.out;omega)] at h1
   have HG:=zh (okV.good hok (fun p hp=>by
    obtain⟨x,hx,rfl⟩:=List.mem_map.1 hp
    exact H.out.wf x hx))
   have HOK:=zh hok
   clear hok
   go_wp2_with fail
   refine(yx3 a cap N xs wr (vin_ext2 H.out HBW.out) HN.out.symm HS.out).mono ?_
   rintro e w3 ⟨v,ys,rfl,hC,hb3⟩
   obtain⟨va,vn,vc',rfl⟩: ∃va vn vc',v= .slice va vn vc':=by
    obtain⟨a',c',e, -⟩:=zqv hC.own
    exact⟨_,_,_,e⟩
   have hbZ:Below w3.heap.size w3 (w3.alloc (.cells #[.slice va vn vc'] (158))):=zb.alloc zr _
   have HE:=zh (show zj4 (vsOf xs) w (.returned (.tuple #[.pointer (some ⟨w3.heap.size,0,none⟩), .int .i64 0])) (w3.alloc (.cells #[.slice va vn vc'] (158)))from
    ⟨_,0,rfl,HBW.out.trans ((hb3.trans (hbZ.mono hb3.size)).mono HBW.out.size), .inl ⟨rfl,HOK.out,_,_,_,_,rfl,(hC.below hbZ).ref HG.out (zq3 rfl _)⟩⟩)
   clear hC hb3 hbZ
   go_wp2_with fail
   go_ret2
   exact HE.out
end Go.Proofs.YtchcelodeepjdaaGreatDoor.Vx
