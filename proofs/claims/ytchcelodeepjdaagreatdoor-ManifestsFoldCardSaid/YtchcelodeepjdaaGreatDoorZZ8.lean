/- Lemmas and walks towards ManifestsFold. Conditions: each one tells its own. -/
import Derived.Test.YtchcelodeepjdaaGreatDoorMp
import Derived.Test.YtchcelodeepjdaaGreatDoorZZ6
import Derived.Test.YtchcelodeepjdaaGreatDoorZZK
namespace Go.Proofs.YtchcelodeepjdaaGreatDoor.Ln
open Go.RowKit Go.Shelf Go.Herb
set_option maxRecDepth 100000 in
set_option maxHeartbeats 4000000 in
theorem zvz (P:Option Addr)(Q:Option Rv)(a:Option Addr)(cap n:Nat)(ys:List Int)(w:World)(hb:Byt w a ys)(hn:ys.length=n)(h:ys= [] \/ ∃c l,ys=c::l/\c≠1/\(c≠2\/(c=2/\P=none/\Q=none))):
  Calls Tryz.prog (27) #[.slice a n cap, .pointer P] w (zwz ys Q w):=by
 obtain⟨W1,hW1⟩: ∃W:World,W=w.alloc (.cells #[.int .u64 0, .int .u64 0, .int .u64 0, .slice none 0 0, .slice none 0 0, .slice none 0 0, .slice none 0 0] (32)):=⟨_,rfl⟩
 have hB1:Below w.heap.size w W1:=by rw [hW1];exact zb.alloc zr _
 have hx1:W1.heap[w.heap.size]? =some (.cells #[.int .u64 0, .int .u64 0, .int .u64 0, .slice none 0 0, .slice none 0 0, .slice none 0 0, .slice none 0 0] (32) (0,0)):=by rw [hW1];exact zq3 rfl _
 have HR1:=zh (show ResSt w W1 W1 #[.int .u64 0, .int .u64 0, .int .u64 0, .slice none 0 0, .slice none 0 0, .slice none 0 0, .slice none 0 0] from⟨hx1,hB1,zxp _ _⟩)
 have HW1:=zh hW1
 have f0:=zq1 hx1 0
 have f1:=zq1 hx1 1
 have f2:=zq1 hx1 2
 have f3:=zq1 hx1 3
 have f4:=zq1 hx1 4
 have f5:=zq1 hx1 5
 have f6:=zq1 hx1 6
 obtain⟨c0,c1,c2,c3,c4,c5,c6⟩:=zqb hx1
 have HNO:=zh (show¬ ∃x,zqu (saysO Q) ys x from by
  refine one_not (fun l e=> ?_) (fun l q e hq=> ?_)
  ·rcases h with rfl|⟨c,l',rfl,h1,h2⟩
   ·cases e
   ·cases e;exact h1 rfl
  ·rcases h with rfl|⟨c,l',rfl,h1,h2⟩
   ·cases e
   ·cases e
    rcases h2 with h2|⟨-, -,rfl⟩
    ·exact h2 rfl
    ·cases hq)
 rcases h with rfl|⟨c,l,rfl,h1,h2⟩
 case' inl=>
  have hn0:n=0:=hn.symm
  subst hn0
  clear hb hn hB1 hx1
 case' inr=>
  obtain⟨b,o,hla,hlb,hc⟩:=hb.get 0 (by simp)
  have g0:=(hB1.cell (p:=⟨b,_,none⟩) hlb).trans (hc 0 _ rfl)
  simp only [Nat.zero_mul,Nat.add_zero,List.getElem_cons_zero] at g0
  have hnp:0<n:=by rw [<-hn,List.length_cons];omega
  have i0:((n:Int)==0)=false:=beq_eq_false_iff_ne.2 (by omega)
  have i1:(0:Int)<(n:Int):=by omega
  have d1:(c !=1)=true:=by simp [h1]
  subst hla
  clear hb hn hB1 hx1 hc hlb
  rcases h2 with h2|⟨rfl,rfl,rfl⟩
  case' inl=>have d2:(c !=2)=true:=by simp [h2]
  all_goals clear h1
 all_goals
  go_enter Tryz.func27,Tryz.ntmps27
  go_upto_region 1 with fail
  rw [<-hW1]
  clear hW1
  go_wp2_with fail
  have HB8:=zh (((((((HR1.out.store 0 (.int .u64 0) _ rfl).store 1 (.int .u64 0) _ rfl).store 2 (.int .u64 0) _ rfl).store 3 (.slice none 0 0) _ rfl).store 4 (.slice none 0 0) _ rfl).store 5 (.slice none 0 0) _ rfl).store 6 (.slice none 0 0) #[.int .u64 0, .int .u64 0, .int .u64 0, .slice none 0 0, .slice none 0 0, .slice none 0 0, .slice none 0 0] rfl)
  obtain⟨Z,hZ⟩:=HB8.out.name
  rw [<-hZ] at HB8 ⊢
  clear hZ c0 c1 c2 c3 c4 c5 c6 f0 f1 f2 f3 f4 f5 f6
  obtain⟨c0,c1,c2,c3,c4,c5,c6⟩:=zqb HB8.out.box
  refine bodyPost_ret (v:= .tuple #[.agg #[.int .u64 0, .int .u64 0, .int .u64 0, .slice none 0 0, .slice none 0 0, .slice none 0 0, .slice none 0 0], .bool false]) (by simp [results,Tryz.results27,go_sem,c0,c1,c2,c3,c4,c5,c6]) rfl ?_
  exact⟨HB8.out.below,⟨0,0,0,none,0, [],none,0, [],none,0, [],none,0, []⟩,false,rfl,fun _=>HNO.out,fun e=>by cases e⟩
end Go.Proofs.YtchcelodeepjdaaGreatDoor.Ln

namespace Go.Proofs.YtchcelodeepjdaaGreatDoor.Ln
open Go.RowKit Go.Shelf Go.Herb
theorem Stay.mono {B B':Nat}{w:World}{Q:Option Rv}{r:Rv}(h:Stay B w Q r)(hb:B'<=B):Stay B' w Q r:=fun u' hk hq=>h u' (fun k cs e hh hi=>hk k cs e hh (by omega)) hq
theorem take_set {f:Bool}{u:World}{p B b j:Nat}{zs:List Int}(h:TkAt f u p B zs)(h1:B<=b)(h2:b≠p)(v:Value):TkAt f (u.setCell ⟨b,j,none⟩ v) p B zs:=
 (takeK f).kept h (fun k o ho hk=>blk_setCell_other ho (show k≠b by omega) v)
structure TkSt (w u:World)(fl:Bool)(zs:List Int)(tb:Nat)(cs:Array Value)(r0:Rv):Prop where
 read:TkAt fl u (w.heap.size+1) w.heap.size zs
 res:u.heap[w.heap.size]? =some (.cells #[.int .u64 0, .int .u64 0, .int .u64 0, .slice none 0 0, .slice none 0 0, .slice none 0 0, .slice none 0 0] (32) (0,0))
 below:Below w.heap.size w u
 box:u.heap[tb]? =some (.cells cs (32) (0,0))
 tbl:w.heap.size+1<tb
 own:RtOwn (w.heap.size+2) u r0
theorem TkSt.to {w u u':World}{fl f':Bool}{zs zs':List Int}{tb:Nat}{cs:Array Value}{r0:Rv}(h:TkSt w u fl zs tb cs r0)(ht:TurnI (w.heap.size+1) u u')(hr:TkAt f' u' (w.heap.size+1) w.heap.size zs'):TkSt w u' f' zs' tb cs r0:=
 ⟨hr,ht.kept _ _ h.res (by omega),ht.below h.below (by omega) zr,ht.kept _ _ h.box (by have:=h.tbl;omega),h.tbl,h.own.turn ht (by omega)⟩
theorem TkSt.ext {w u u':World}{fl:Bool}{zs:List Int}{tb:Nat}{cs:Array Value}{r0:Rv}(h:TkSt w u fl zs tb cs r0)(hb:Below u.heap.size u u'):TkSt w u' fl zs tb cs r0:=
 ⟨(takeK fl).ext h.read hb,zq4 h.res hb (zq2 h.res),h.below.trans (hb.mono h.below.size),zq4 h.box hb (zq2 h.box),h.tbl,h.own.ext hb⟩
theorem TkSt.set {w u:World}{fl:Bool}{zs:List Int}{tb:Nat}{cs:Array Value}{r0:Rv}(h:TkSt w u fl zs tb cs r0)(j:Nat)(v:Value)(cs':Array Value)(hc:cs.setIfInBounds j v=cs'):TkSt w (u.setCell ⟨tb,j,none⟩ v) fl zs tb cs' r0:=
 ⟨take_set h.read (by have:=h.tbl;omega) (by have:=h.tbl;omega) v,blk_setCell_other h.res (show w.heap.size≠tb by have:=h.tbl;omega) v,Below.setCell h.below (p:=⟨tb,j,none⟩) (by have:=h.tbl;show w.heap.size<=tb;omega) v,by rw [<-hc];exact zq7 h.box v,h.tbl,h.own.set h.box v⟩
theorem TkSt.name {w u:World}{fl:Bool}{zs:List Int}{tb:Nat}{cs:Array Value}{r0:Rv}(_:TkSt w u fl zs tb cs r0): ∃Z,Z=u:=⟨u,rfl⟩
theorem yjl {w u:World}{P:Option Addr}{Q:Option Rv}{l zs:List Int}{fl:Bool}{tb nb nl nv ns:Nat}{sq lg nx:Int}{ba la va sa:Option Addr}{bc lc vc sc:Nat}{bs:List Br}{ls:List Ln}{vs:List Vx.Vc}{xs:List Sv}{x0:Rt}
  (h:TkSt w u fl zs tb #[.int .u64 sq, .int .u64 lg, .int .u64 nx, .slice ba nb bc, .slice la nl lc, .slice va nv vc, .slice sa ns sc] ⟨sq,lg,nx,ba,bc,bs,la,lc,ls,va,vc,vs,none,0, []⟩) (hn:nb=bs.length/\nl=ls.length/\nv=vs.length/\ns=xs.length) (hx0:(⟨sq,lg,nx,ba,bc,bs,la,lc,ls,va,vc,vs,none,0, []⟩:Rv).says=x0) (h1:OwnSh (w.heap.size+2) u (.slice sa xs.length sc) xs) (h2: ∀s∈xs,∀l∈s.lv,OwnT (w.heap.size+2) u (lvV l) l.ts) (h3: ∀s∈xs,U64 s.line/\ ∀l∈s.lv,∀t∈l.ts,TbW t)
  (hp:(fl=false->whP l=some ((x0,xs.map Sv.says),zs))/\(fl=true->whP l=none)) (hl:l.length<100000):OneSt w (1::l) 1 P Q u fl zs tb ⟨sq,lg,nx,ba,bc,bs,la,lc,ls,va,vc,vs,sa,sc,xs⟩:=by
 obtain⟨rfl,rfl,rfl,rfl⟩:=hn
 have hO:RtOwn (w.heap.size+2) u ⟨sq,lg,nx,ba,bc,bs,la,lc,ls,va,vc,vs,sa,sc,xs⟩:=h.own.shelves h1 h2 h3
 have hx:(⟨sq,lg,nx,ba,bc,bs,la,lc,ls,va,vc,vs,sa,sc,xs⟩:Rv).says={x0 with sh:=xs.map Sv.says }:=by rw [<-hx0];rfl
 have hf:fl=false->FewX (⟨sq,lg,nx,ba,bc,bs,la,lc,ls,va,vc,vs,sa,sc,xs⟩:Rv).says:=fun e=>by
  obtain⟨l1,e1,e2⟩:=yxd (hp.1 e)
  rw [hx]
  exact zkn e1 e2 (by omega)
 have hrf:fl=false->zjj (⟨sq,lg,nx,ba,bc,bs,la,lc,ls,va,vc,vs,sa,sc,xs⟩:Rv).says:=fun e=>by
  obtain⟨l1,e1,e2⟩:=yxd (hp.1 e)
  have h:=zvw e1 hl
  rw [hx]
  exact⟨h.bs,h.ls,h.vs⟩
 refine⟨h.read,⟨h.res,h.below,zxp _ _⟩,h.box,by have:=h.tbl;omega,fun e=> ?_,hf,hrf,(hO.stay Q).mono (by omega),fun e=> ?_⟩
 ·cases hfl:fl with
  |true=>exact one_no (hp.2 hfl)
  |false=>
   rcases e with e|e
   ·rw [hfl] at e;cases e
   ·exact one_no2 hO.in_ (hf hfl) (hp.1 hfl) hx e
 ·have hi:=one_iff (Q:=saysO Q) hO.in_ (hf e) (hp.1 e) hx
  exact⟨GoodR ⟨sq,lg,nx,ba,bc,bs,la,lc,ls,va,vc,vs,sa,sc,xs⟩,zqt (⟨sq,lg,nx,ba,bc,bs,la,lc,ls,va,vc,vs,sa,sc,xs⟩:Rv).says,fun v hv=>by
   rw [if_pos rfl]
   exact zy0 ⟨sq,lg,nx,ba,bc,bs,la,lc,ls,va,vc,vs,sa,sc,xs⟩ v (RefIn.mk' (hO.in_.ext hv) (hf e) (hrf e)) (fun hg=>Nat.lt_trans (yve hO.in_ hg (hf e)) (by decide)),zyc _,hi.1,hi.2⟩
theorem ywy {w u:World}{q:Rv}{rb:Nat}{l zs:List Int}{fl:Bool}{tb nb nl nv ns:Nat}{sq lg nx:Int}{ba la va sa:Option Addr}{bc lc vc sc:Nat}{bs:List Br}{ls:List Ln}{vs:List Vx.Vc}{xs ss:List Sv}{gs:List Int}{x0:Rt}
  (h:TkSt w u fl zs tb #[.int .u64 sq, .int .u64 lg, .int .u64 nx, .slice ba nb bc, .slice la nl lc, .slice va nv vc, .slice sa ns sc] ⟨sq,lg,nx,ba,bc,bs,la,lc,ls,va,vc,vs,none,0, []⟩) (hn:nb=bs.length/\nl=ls.length/\nv=vs.length/\ns=xs.length) (hx0:(⟨sq,lg,nx,ba,bc,bs,la,lc,ls,va,vc,vs,none,0, []⟩:Rv).says=x0) (hw:WasIn w q rb) (hqr:zjj q.says) (hxs:xs=edE q.sh gs ss) (h1:OwnSh (w.heap.size+2) u (.slice sa xs.length sc) xs) (h2: ∀s∈ss,∀l∈s.lv,OwnT (w.heap.size+2) u (lvV l) l.ts) (h3: ∀s∈ss,U64 s.line/\ ∀l∈s.lv,∀t∈l.ts,TbW t)
  (hp:(fl=false->edP l=some ((x0,gs,ss.map Sv.says),zs))/\(fl=true->edP l=none)) (hl:l.length<100000):OneSt w (2::l) 2 (some ⟨rb,0,none⟩) (some q) u fl zs tb ⟨sq,lg,nx,ba,bc,bs,la,lc,ls,va,vc,vs,sa,sc,xs⟩:=by
 obtain⟨rfl,rfl,rfl,rfl⟩:=hn
 have hst:Stay (w.heap.size+1) u (some q) ⟨sq,lg,nx,ba,bc,bs,la,lc,ls,va,vc,vs,sa,sc,xs⟩:=fun u' hk hq=>rt_ed (B0:=w.heap.size+1) h.own h1 h2 (by omega) (by omega) hk (hq q rfl) (fun s hs=>by
  rw [hxs] at hs
  rcases yqv.1 hs with h|h
  ·exact .inl h
  ·exact .inr h.1) h3
 have hqu:=hw.iq.ext h.below
 have hI:RtIn u ⟨sq,lg,nx,ba,bc,bs,la,lc,ls,va,vc,vs,sa,sc,xs⟩:=hst u (zxp _ _) (fun q' e=>by cases e;exact hqu)
 have hx:(⟨sq,lg,nx,ba,bc,bs,la,lc,ls,va,vc,vs,sa,sc,xs⟩:Rv).says={x0 with sh:=(edE q.sh gs ss).map Sv.says }:=by rw [<-hx0,<-hxs];rfl
 have hf:fl=false->FewX (⟨sq,lg,nx,ba,bc,bs,la,lc,ls,va,vc,vs,sa,sc,xs⟩:Rv).says:=fun e=>by
  obtain⟨l1,e1,e2⟩:=yki (hp.1 e)
  exact few_ed e1 e2 hx (by omega) hw.wq
 have hrf:fl=false->zjj (⟨sq,lg,nx,ba,bc,bs,la,lc,ls,va,vc,vs,sa,sc,xs⟩:Rv).says:=fun e=>by
  obtain⟨l1,e1,e2⟩:=yki (hp.1 e)
  have h:=zvw e1 hl
  rw [hx]
  exact⟨h.bs,h.ls,h.vs⟩
 refine⟨h.read,⟨h.res,h.below,zxp _ _⟩,h.box,by have:=h.tbl;omega,fun e=> ?_,hf,hrf,hst,fun e=> ?_⟩
 ·cases hfl:fl with
  |true=>exact ed_no (hp.2 hfl)
  |false=>
   rcases e with e|e
   ·rw [hfl] at e;cases e
   ·exact ed_no2 (hp.1 hfl) e
 ·have hi:=ed_iff hI (hf e) hw.iq hw.fq hw.gq (hp.1 e) hx
  refine⟨GoodR ⟨sq,lg,nx,ba,bc,bs,la,lc,ls,va,vc,vs,sa,sc,xs⟩/\GoodR q,editL (⟨sq,lg,nx,ba,bc,bs,la,lc,ls,va,vc,vs,sa,sc,xs⟩:Rv).says q.says,fun v hv=> ?_,ykj _ _,fun hg=>hi.1 hg.1,fun hx'=>⟨⟨(hi.2 hx').1,hw.gq⟩,(hi.2 hx').2⟩⟩
  rw [if_neg (by decide)]
  obtain⟨fb,hbx⟩:=hw.box
  have hbl:=hv
  exact zyh ⟨sq,lg,nx,ba,bc,bs,la,lc,ls,va,vc,vs,sa,sc,xs⟩ q rb v (RefIn.mk' (hI.ext hv) (hf e) (hrf e)) (RefIn.mk' (hqu.ext hv) hw.fq hqr) ⟨fb,zq4 (zq4 hbx h.below (zq2 hbx)) hv (Nat.lt_of_lt_of_le (zq2 hbx) h.below.size)⟩ (fun hg _=>yvy hI hg (hf e) hw.iq hw.fq)
end Go.Proofs.YtchcelodeepjdaaGreatDoor.Ln
