/- Lemmas and walks towards ManifestsFold. Conditions: each one tells its own. -/
import Derived.Test.YtchcelodeepjdaaGreatDoorMp
import Derived.Test.YtchcelodeepjdaaGreatDoorZZF
import Derived.Test.YtchcelodeepjdaaGreatDoorZZx
import Derived.Deep.DeepCutAuto
import Derived.Test.YtchcelodeepjdaaGreatDoorZZE
import Derived.Test.YtchcelodeepjdaaGreatDoorZUb
namespace Go.Proofs.YtchcelodeepjdaaGreatDoor.Ln
open Go.RowKit Go.Shelf Go.Herb

def zqw (Q:Option Rt):List (List Int)->Option Rt->Prop
 | [],R=>R=Q
 |ys::l,R=> ∃x,zqu Q ys x/\zqw (some x) l R
theorem yw8 {l1:List (List Int)}: ∀{Q:Option Rt} {l2:List (List Int)} {R:Option Rt},zqw Q (l1++l2) R↔ ∃M,zqw Q l1 M/\zqw M l2 R:=by
 induction l1 with
 |nil=>exact fun{Q} {l2} {R}=>⟨fun h=>⟨Q,rfl,h⟩,fun⟨M,e,h⟩=>by cases e;exact h⟩
 |cons y l1 ih=>
  intro Q l2 R
  constructor
  ·rintro⟨x,h1,h2⟩
   obtain⟨M,h3,h4⟩:=ih.1 h2
   exact⟨M,⟨x,h1,h3⟩,h4⟩
  ·rintro⟨M,⟨x,h1,h3⟩,h4⟩
   exact⟨x,h1,ih.2 ⟨M,h3,h4⟩⟩
theorem xqc {l:List (List Int)}: ∀{Q R:Option Rt},(∀q,Q=some q->GoodX q)->zqw Q l R-> ∀q,R=some q->GoodX q:=by
 induction l with
 |nil=>intro Q R h e q hq;cases e;exact h q hq
 |cons y l ih=>
  rintro Q R h ⟨x,h1,h2⟩ q hq
  exact ih (fun z hz=>by cases hz;exact h1.good) h2 q hq
theorem yzv {l:List (List Int)}: ∀{Q R S:Option Rt},(∀q,Q=some q->GoodX q)->zqw Q l R->zqw Q l S->R=S:=by
 induction l with
 |nil=>intro Q R S _ e f;cases e;cases f;rfl
 |cons y l ih=>
  rintro Q R S h ⟨x,h1,h2⟩ ⟨z,k1,k2⟩
  have e:=zqu.uniq h h1 k1
  subst e
  exact ih (fun z hz=>by cases hz;exact h1.good) h2 k2
theorem zkt (q:Rt)(h:none=some q):GoodX q:=by cases h
theorem xqd {l:List (List Int)}{ys:List Int}{Q M:Option Rt}{x:Rt}(h:zqw Q l M)(k:zqu M ys x):zqw Q (l++ [ys]) (some x):=yw8.2 ⟨M,h,x,k,rfl⟩
theorem yvc {l:List (List Int)}: ∀{q:Rt} {R:Option Rt},zqw (some q) l R-> ∃x,R=some x:=by
 induction l with
 |nil=>intro q R h;exact⟨q,h⟩
 |cons y l ih=>rintro q R ⟨x,_,h⟩;exact ih h
theorem yzt {l:List (List Int)}{Q R:Option Rt}(hl:l≠ [])(h:zqw Q l R): ∃x,R=some x:=by
 cases l with
 |nil=>exact absurd rfl hl
 |cons y l=>
  obtain⟨x,_,h⟩:=h
  exact yvc h
theorem yzu {rs:List (List Int)}{k:Nat}{ys:List Int}{Q R:Option Rt}(hk:rs[k]? =some ys)(h1:zqw none (rs.take k) Q)(h2:zqw none rs R): ∃x,zqu Q ys x:=by
 obtain⟨hlt,hget⟩:=List.getElem?_eq_some_iff.1 hk
 have e:rs=rs.take k++(ys::rs.drop (k+1)):=by
  rw [<-hget,List.getElem_cons_drop,List.take_append_drop]
 rw [e] at h2
 obtain⟨M,h3,x,h4,_⟩:=yw8.1 h2
 have:=yzv zkt h1 h3
 subst this
 exact⟨x,h4⟩
abbrev Told (rs:List (List Int))(x:Rt):Prop:=zqw none rs (some x)
structure RecOk (w:World)(v:Value)(ys:List Int):Prop where
 ok: ∃a n cap,v= .slice a n cap/\Byt w a ys/\ys.length=n/\n<=cap/\(a=none->cap=0)
 u8: ∀y∈ys,U8 y
 few:ys.length<500000
theorem RecOk.ext {w w':World}{v:Value}{ys:List Int}(h:RecOk w v ys)(hb:Below w.heap.size w w'):RecOk w' v ys:=by
 obtain⟨a,n,cap,h1,h2,h3⟩:=h.ok
 exact⟨⟨a,n,cap,h1,h2.ext hb,h3⟩,h.u8,h.few⟩
def ykd (w:World)(g go:Nat)(rs:List (List Int)):Prop:= ∀(k:Nat) (ys:List Int),rs[k]? =some ys-> ∃v,w.cell? ⟨g,go+k,none⟩=some v/\RecOk w v ys
def zkh (rs:List (List Int))(w:World)(e:Ending)(w':World):Prop:=Below w.heap.size w w'/\(((¬ ∃x,Told rs x)/\e= .returned (.tuple #[.agg zeroC, .int .i64 4]))\/ ∃r:Rv,Told rs r.says/\e= .returned (.tuple #[rtV r, .int .i64 0])/\RtIn w' r/\FewX r.says)
structure zva (rs:List (List Int))(W u:World)(k:Nat)(P:Option Addr)(Q:Option Rv):Prop where
 below:Below W.heap.size W u
 told:zqw none (rs.take k) (saysO Q)
 box:(P=none/\Q=none)\/ ∃q rb,P=some ⟨rb,0,none⟩/\Q=some q/\FewX q.says/\u.heap[rb]? =some (.cells #[.int .u64 q.seq, .int .u64 q.log, .int .u64 q.next, .slice q.ba q.bs.length q.bc, .slice q.la q.ls.length q.lc, .slice q.va q.vs.length q.vc, .slice q.sa q.sh.length q.sc] (32) (0,0))/\(∀u',KeepB W.heap.size u u'->RtIn u' q)
theorem zxp (B:Nat)(u:World):KeepB B u u:=fun _ _ _ h _=>h
theorem KeepB.trans {B B':Nat}{u u' u'':World}(h:KeepB B u u')(k:KeepB B' u' u'')(hb:B'<=B):KeepB B u u'':=fun i cs e hh hi=>k i cs e (h i cs e hh hi) (by omega)
theorem zva.ahead {rs:List (List Int)}{W u:World}{k:Nat}{P:Option Addr}{Q:Option Rv}(h:zva rs W u k P Q)(hw: ∀k x,Told (rs.take k) x->wtR x<=400000):zv8 u P Q:=by
 rcases h.box with⟨rfl,rfl⟩|⟨q,rb,rfl,rfl,hf,hb,hs⟩
 ·exact .inl ⟨rfl,rfl⟩
 ·exact .inr ⟨q,rb,rfl,rfl,hs u (zxp _ _),(zx5 _).2 (xqc zkt h.told _ rfl),hf,hw k _ h.told,_,hb⟩
theorem zva.next {rs:List (List Int)}{W u w2:World}{k:Nat}{P:Option Addr}{Q:Option Rv}{ys:List Int}{r:Rv}(h:zva rs W u k P Q)(hk:rs[k]? =some ys)(hb:Below u.heap.size u w2)(h1:zqu (saysO Q) ys r.says)(h2:Stay u.heap.size w2 Q r)(h3:FewX r.says):
  zva rs W (w2.alloc (.cells #[.int .u64 r.seq, .int .u64 r.log, .int .u64 r.next, .slice r.ba r.bs.length r.bc, .slice r.la r.ls.length r.lc, .slice r.va r.vs.length r.vc, .slice r.sa r.sh.length r.sc] (32))) (k+1) (some ⟨w2.heap.size,0,none⟩) (some r):=by
 have hb3:Below w2.heap.size w2 (w2.alloc (.cells #[.int .u64 r.seq, .int .u64 r.log, .int .u64 r.next, .slice r.ba r.bs.length r.bc, .slice r.la r.ls.length r.lc, .slice r.va r.vs.length r.vc, .slice r.sa r.sh.length r.sc] (32))):=zb.alloc zr _
 have hB:=h.below.trans (hb.mono h.below.size)
 refine⟨hB.trans (hb3.mono hB.size),?_, .inr ⟨r,_,rfl,rfl,h3,zq3 rfl _,fun u' hu=> ?_⟩⟩
 ·obtain⟨hlt,hget⟩:=List.getElem?_eq_some_iff.1 hk
  rw [List.take_succ_eq_append_getElem hlt,hget]
  exact xqd h.told h1
 ·refine h2 u' (fun i cs e hh hi=>hu i cs e (zq4 hh hb3 (zq2 hh)) (by have:=h.below.size;omega)) (fun q hq=> ?_)
  rcases h.box with⟨_,rfl⟩|⟨q',rb,_,rfl,_,_,hs⟩
  ·cases hq
  ·cases hq
   exact hs u' (fun i cs e hh hi=>hu i cs e (zq4 (zq4 hh hb (zq2 hh)) hb3 (Nat.lt_of_lt_of_le (zq2 hh) hb.size)) hi)
set_option maxRecDepth 100000 in
set_option maxHeartbeats 2000000 in
theorem fold_any (g go cl N:Nat)(rs:List (List Int))(w:World)(hg:ykd w g go rs)(hgl:g<w.heap.size)(hN:rs.length=N)(hN0:0<N)(hNl:N<1000000)(hw: ∀k x,Told (rs.take k) x->wtR x<=400000):
  Calls Tryz.prog (11) #[.slice (some ⟨g,go,none⟩) N cl] w (zkh rs w):=by
 have hmf: ∀(fn:Fn) (first cap:Array Value) (w:World),(Instr.makeFunc fn first cap).run Tryz.prog w= .ok (.func fn first cap) w:=fun _ _ _ _=>rfl
 obtain⟨W1,hW1⟩: ∃W:World,W=w.alloc (.cells #[.int .u64 0, .int .u64 0, .int .u64 0, .slice none 0 0, .slice none 0 0, .slice none 0 0, .slice none 0 0] (32)):=⟨_,rfl⟩
 obtain⟨W,hW⟩: ∃W:World,W=W1.alloc (.cells #[.int .i64 0] (33)):=⟨_,rfl⟩
 have hB1:Below w.heap.size w W1:=by rw [hW1];exact zb.alloc zr _
 have hz1:W1.heap.size=w.heap.size+1:=by rw [hW1];simp
 have hB2:Below W1.heap.size W1 W:=by rw [hW];exact zb.alloc zr _
 have hBW:Below w.heap.size w W:=hB1.trans (hB2.mono hB1.size)
 have hx1:W1.heap[w.heap.size]? =some (.cells zeroC (32) (0,0)):=by rw [hW1];exact zq3 rfl _
 have HX:=zh (zq4 hx1 hB2 (zq2 hx1))
 have HE:=zh (show W.heap[w.heap.size+1]? =some (.cells #[.int .i64 0] (33) (0,0))from by rw [hW];exact zq3 (by rw [hW1];simp) _)
 have HZ:=zh (show W.heap.size=w.heap.size+2 from by rw [hW];simp [hz1])
 have HO:=zh (show∀(k:Nat) (ys:List Int),rs[k]? =some ys-> ∀(u:World) (P:Option Addr) (Q:Option Rv),Below W.heap.size W u->zv8 u P Q-> ∃a n cap,u.cell? ⟨g,go+k,none⟩=some (.slice a n cap)/\Calls Tryz.prog (26) #[.slice a n cap, .pointer P] u (zyk ys Q u)from fun k ys hk u P Q hu hq=>by
  obtain⟨v,hv,hr⟩:=hg k ys hk
  have hBu:=hBW.trans (hu.mono hBW.size)
  obtain⟨a,n,cap,rfl,h1,h2,h3,h4⟩:=hr.ok
  exact⟨a,n,cap,(hBu.cell (p:=⟨g,go+k,none⟩) hgl).trans hv,one_any P Q a cap n ys u (h1.ext hBu) h2 hr.u8 (by have:=hr.few;omega) h3 h4 hq⟩)
 have HN:=zh hN
 have HWT:=zh hw
 have z0:((N:Int)==0)=false:=beq_eq_false_iff_ne.2 (by omega)
 have z1:(N==0)=false:=beq_eq_false_iff_ne.2 (by omega)
 have z2: ¬(N:Int)=0:=by omega
 have HB:=zh hBW
 have HW:=zh hW
 have HW1:=zh hW1
 clear hg hgl hN hw hB1 hz1 hB2 hBW hx1
 go_enter_defers Tryz.func11,Tryz.ntmps11
 go_upto_region 6 with fail
 rw [<-hW1,<-hW]
 clear hW1 hW
 clear z0 z1 z2
 go_loopg [15,4] N (fun gk iv v4 wr=> ∃k:Nat,k+gk=N/\iv= .int .i64 k/\ ∃(P:Option Addr) (Q:Option Rv),v4= .pointer P/\Hid (zva rs W wr k P Q))
 case atStart=>exact⟨0,by omega,rfl,none,none,rfl,zh ⟨zb,rfl, .inl ⟨rfl,rfl⟩⟩⟩
 case round=>
  obtain⟨k,hk,rfl,P,Q,rfl,HST⟩:=hrel
  by_cases hkN:k<N
  ·obtain⟨ys,hys⟩: ∃ys,rs[k]? =some ys:=⟨_,List.getElem?_eq_getElem (by rw [HN.out];exact hkN)⟩
   obtain⟨a,n,cap,g0,hc⟩:=HO.out k ys hys wr P Q HST.out.below (HST.out.ahead HWT.out)
   have HC:=zh hc
   have HYS:=zh hys
   have i0:(0:Int)<=(k:Int):=by omega
   have i1:(k:Int)<(N:Int):=by omega
   have HBU:=zh (HB.out.trans (HST.out.below.mono HB.out.size))
   clear hc hys
   go_wp2_with fail
   refine HC.out.mono ?_
   rintro e w2 ⟨hb,⟨hno,rfl⟩|⟨r,h1,h2,h3,rfl⟩⟩
   ·have HNO:=zh (show¬ ∃x,Told rs x from fun⟨x,hx⟩=>hno (yzu HYS.out HST.out.told hx))
    have HB2:=zh (HBU.out.trans (hb.mono HBU.out.size))
    have HX2:=zh (zq4 (zq4 HX.out HST.out.below (zq2 HX.out)) hb (Nat.lt_of_lt_of_le (zq2 HX.out) HST.out.below.size))
    have HE2:=zh (zq4 (zq4 HE.out HST.out.below (zq2 HE.out)) hb (Nat.lt_of_lt_of_le (zq2 HE.out) HST.out.below.size))
    clear hno hb
    refine leaves_cons (f:=25) (args:= #[.pointer (some ⟨w.heap.size,0,none⟩), .pointer (some ⟨w.heap.size+1,0,none⟩)]) (by simp) (by simp [go_sem]) ?_
    refine(ywh w.heap.size (w.heap.size+1) _ _ _ _ _ _ _ _ w2 HX2.out HE2.out (by omega)).mono ?_
    rintro e u' w'' ⟨rfl,rfl,hC⟩
    have c0:=zq0 hC.root 0
    have c1:=zq0 hC.root 1
    have c2:=zq0 hC.root 2
    have c3:=zq0 hC.root 3
    have c4:=zq0 hC.root 4
    have c5:=zq0 hC.root 5
    have c6:=zq0 hC.root 6
    have d0:=zq0 hC.errno 0
    simp [zeroC] at c0 c1 c2 c3 c4 c5 c6 d0
    have HF:=zh (show zkh rs w (.returned (.tuple #[.agg zeroC, .int .i64 4])) w'' from⟨HB2.out.trans (hC.below _ zr (by omega) HB2.out.size), .inl ⟨HNO.out,rfl⟩⟩)
    clear hC
    simp [Leaves,settle,results,Tryz.results11,go_sem,c0,c1,c2,c3,c4,c5,c6,d0]
    exact HF.out
   ·have HNX:=zh (HST.out.next HYS.out hb h1 h2 h3)
    clear hb h1 h2 h3
    go_wp2_with fail
    go_roundg(gk - 1)
    case measure=>omega
    case rel=>exact⟨k+1,by omega,rfl,_,_,rfl,HNX.out⟩
  ·have hk1:k=N:=by omega
   subst hk1
   have htake:rs.take k=rs:=List.take_of_length_le (by rw [HN.out];exact zr)
   have htold:=HST.out.told
   rw [htake] at htold
   rcases HST.out.box with⟨-,rfl⟩|⟨r,b,rfl,rfl,hf,hbk,hs⟩
   ·exfalso
    obtain⟨x,e⟩:=yzt (fun e=>by have:=HN.out;rw [e] at this;simp at this;omega) htold
    cases e
   have hB:=HST.out.below
   obtain⟨nb,hnb⟩: ∃n,n=r.bs.length:=⟨_,rfl⟩
   obtain⟨nl,hnl⟩: ∃n,n=r.ls.length:=⟨_,rfl⟩
   obtain⟨nv,hnv⟩: ∃n,n=r.vs.length:=⟨_,rfl⟩
   obtain⟨ns,hns⟩: ∃n,n=r.sh.length:=⟨_,rfl⟩
   have hrt:rtV r= .agg #[.int .u64 r.seq, .int .u64 r.log, .int .u64 r.next, .slice r.ba nb r.bc, .slice r.la nl r.lc, .slice r.va nv r.vc, .slice r.sa ns r.sc] :=by rw [hnb,hnl,hnv,hns]
   rw [<-hnb,<-hnl,<-hnv,<-hns] at hbk
   have HRT:=zh hrt
   have hxb:=zq4 HX.out hB (zq2 HX.out)
   have heb:=zq4 HE.out hB (zq2 HE.out)
   have HC0:=zh (show CX w.heap.size (w.heap.size+1) wr wr zeroC #[.int .i64 0] from⟨hxb,heb,fun B _ _ _=>zb,fun _ _ hk _ _=>hk⟩)
   have HTO:=zh (show Told rs r.says from htold)
   have HFX:=zh hf
   have HSS:=zh hs
   have HBk:=zh hB
   have c0:=zq0 hbk 0
   have c1:=zq0 hbk 1
   have c2:=zq0 hbk 2
   have c3:=zq0 hbk 3
   have c4:=zq0 hbk 4
   have c5:=zq0 hbk 5
   have c6:=zq0 hbk 6
   simp at c0 c1 c2 c3 c4 c5 c6
   have x0:=zq0 hxb 0
   have x1:=zq0 hxb 1
   have x2:=zq0 hxb 2
   have x3:=zq0 hxb 3
   have x4:=zq0 hxb 4
   have x5:=zq0 hxb 5
   have x6:=zq0 hxb 6
   have e0:=zq0 heb 0
   simp [zeroC] at x0 x1 x2 x3 x4 x5 x6 e0
   have f0:=zq1 hxb 0
   have f1:=zq1 hxb 1
   have f2:=zq1 hxb 2
   have f3:=zq1 hxb 3
   have f4:=zq1 hxb 4
   have f5:=zq1 hxb 5
   have f6:=zq1 hxb 6
   have k0:=zq1 heb 0
   clear hkN HST htake htold hbk hf hs hB hnb hnl hnv hns hrt hxb heb
   go_wp2_with fail
   have hxe:w.heap.size≠w.heap.size+1:=by omega
   have HC:=zh ((((((((HC0.out.x hxe 0 (.int .u64 r.seq) _ rfl).x hxe 1 (.int .u64 r.log) _ rfl).x hxe 2 (.int .u64 r.next) _ rfl).x hxe 3 (.slice r.ba nb r.bc) _ rfl).x hxe 4 (.slice r.la nl r.lc) _ rfl).x hxe 5 (.slice r.va nv r.vc) _ rfl).x hxe 6 (.slice r.sa ns r.sc) #[.int .u64 r.seq, .int .u64 r.log, .int .u64 r.next, .slice r.ba nb r.bc, .slice r.la nl r.lc, .slice r.va nv r.vc, .slice r.sa ns r.sc] rfl).e hxe 0 (.int .i64 0) #[.int .i64 0] rfl)
   obtain⟨Z,hZ⟩:=HC.out.name
   rw [<-hZ] at HC ⊢
   clear hZ x0 x1 x2 x3 x4 x5 x6 e0 c0 c1 c2 c3 c4 c5 c6 f0 f1 f2 f3 f4 f5 f6 k0
   refine leaves_cons (f:=25) (args:= #[.pointer (some ⟨w.heap.size,0,none⟩), .pointer (some ⟨w.heap.size+1,0,none⟩)]) (by simp) (by simp [go_sem]) ?_
   refine(zym ⟨w.heap.size,0,none⟩ ⟨w.heap.size+1,0,none⟩ _).mono ?_
   rintro e u' w'' ⟨rfl,rfl,rfl⟩
   have c0:=zq0 HC.out.root 0
   have c1:=zq0 HC.out.root 1
   have c2:=zq0 HC.out.root 2
   have c3:=zq0 HC.out.root 3
   have c4:=zq0 HC.out.root 4
   have c5:=zq0 HC.out.root 5
   have c6:=zq0 HC.out.root 6
   have d0:=zq0 HC.out.errno 0
   simp at c0 c1 c2 c3 c4 c5 c6 d0
   have HF:=zh (show zkh rs w (.returned (.tuple #[.agg #[.int .u64 r.seq, .int .u64 r.log, .int .u64 r.next, .slice r.ba nb r.bc, .slice r.la nl r.lc, .slice r.va nv r.vc, .slice r.sa ns r.sc], .int .i64 0])) w'' from⟨(HB.out.trans (HBk.out.mono HB.out.size)).trans (HC.out.below _ zr (by omega) (Nat.le_trans HB.out.size HBk.out.size)), .inr ⟨r,HTO.out,by rw [HRT.out],HSS.out _ (fun g cs e hh hg=>HC.out.kept g _ hh (by have:=HZ.out;omega) (by have:=HZ.out;omega)),HFX.out⟩⟩)
   simp [Leaves,settle,results,Tryz.results11,go_sem,c0,c1,c2,c3,c4,c5,c6,d0]
   exact HF.out
end Go.Proofs.YtchcelodeepjdaaGreatDoor.Ln

namespace Go.Proofs.YtchcelodeepjdaaGreatDoor.Ln
open Go.RowKit Go.Shelf Go.Herb

theorem u8_wf {x:Int}(h:(Lit.int .u8 x).wf=true):0<=x/\x<256:=by
 simp [Lit.wf,IntKind.min,IntKind.max,IntKind.signed,IntKind.bits] at h
 omega

end Go.Proofs.YtchcelodeepjdaaGreatDoor.Ln

namespace Go.Proofs.YtchcelodeepjdaaGreatDoor.Ln
open Go.ChangeShapes Go.WideShapes Go.ChangeAt Go.RowKit Go.Shelf Go.Herb Go.Deep

section
variable {H:Type} {enc:TypeId × Value->H} {w:World}
end
structure Rc where
 a:Option Addr
 cap:Nat
 ys:List Int
def rcc (c:Rc):List Value:= [.slice c.a c.ys.length c.cap]
theorem yx2 (c:Rc):(rcc c).length=1:=rfl
theorem rcc_one: ∀(x:Rc),∀u∈rcc x,u.oneCell'=true:=by
 intro x u hu
 simp [rcc] at hu
 subst hu
 rfl
theorem infoRc:(Tryz.prog.info? (24)).map (fun i=>(i.zero,i.size,i.bytes))=some (some (.slice none 0 0),1,24):=by kernel_rfl
abbrev OwnR (B:Nat)(w:World)(v:Value)(rs:List Rc):Prop:=w.ownsRow B (24) 1 v rs.length (rs.flatMap rcc)
structure RecB (w:World)(c:Rc):Prop where
 ok:RecOk w (.slice c.a c.ys.length c.cap) c.ys
 blk: ∀ad,c.a=some ad-> ∃cs,w.heap[ad.block]? =some (.cells cs (5) (0,0))
theorem RecB.ext {w u:World}{c:Rc}(h:RecB w c)(hb:Below w.heap.size w u):RecB u c:=
 ⟨h.ok.ext hb,fun ad ha=>by obtain⟨cs,h1⟩:=h.blk ad ha;exact⟨cs,zq4 h1 hb (zq2 h1)⟩⟩
theorem byt_kept {u u':World}{a:Option Addr}{ys:List Int}(h:Byt u a ys)(hk: ∀ad o,a=some ad->u.heap[ad.block]? =some o->u'.heap[ad.block]? =some o):Byt u' a ys:=⟨fun i hi=>by
 obtain⟨b,o,h1,h2,h3⟩:=h.get i hi
 have h4:=hk _ _ h1 (Array.getElem?_eq_getElem h2)
 have h5:u'.heap[b]? =u.heap[b]? :=by rw [Array.getElem?_eq_getElem h2];exact h4
 refine⟨b,o,h1,zq2 h4,fun j c hj=> ?_⟩
 rw [<-h3 j c hj]
 unfold World.cell?
 simp only [h5]⟩
theorem RecB.kept {u u':World}{c:Rc}(h:RecB u c)(hk: ∀(g:Nat) (cs:Array Value),u.heap[g]? =some (.cells cs (5) (0,0))->u'.heap[g]? =some (.cells cs (5) (0,0))):RecB u' c:=by
 obtain⟨a,n,cap,h1,h2,h3⟩:=h.ok.ok
 refine⟨⟨⟨a,n,cap,h1,byt_kept h2 (fun ad o ha ho=> ?_),h3⟩,h.ok.u8,h.ok.few⟩,fun ad ha=> ?_⟩
 ·obtain⟨cs,h4⟩:=h.blk ad (by
   have:=h1
   rw [ha] at this
   injection this)
  rw [h4] at ho
  cases ho
  exact hk _ _ h4
 ·obtain⟨cs,h4⟩:=h.blk ad ha
  exact⟨cs,hk _ _ h4⟩
theorem recs_in {B N:Nat}{w:World}{v:Value}{rs:List Rc}(ho:OwnR B w v rs)(hN:rs.length=N)(h0:0<N)(hr: ∀c∈rs,RecB w c): ∃g go cl,v= .slice (some ⟨g,go,none⟩) N cl/\ykd w g go (rs.map Rc.ys)/\g<w.heap.size:=by
 obtain⟨a,cap,hv, -,hE⟩:=zq6 yx2 ho
 obtain⟨g,go,ha,hg, -⟩:=hE.get 0 (by omega)
 subst ha
 refine⟨g,go,cap,by rw [hv,hN],fun k ys hk=> ?_,hg⟩
 rw [List.getElem?_map] at hk
 cases hc:rs[k]? with
 |none=>rw [hc] at hk;cases hk
 |some c=>
  rw [hc] at hk
  cases hk
  obtain⟨hlt,hget⟩:=List.getElem?_eq_some_iff.1 hc
  obtain⟨b,o,h1,h2,h3⟩:=hE.get k hlt
  cases h1
  rw [hget] at h3
  have h4:=h3 0 _ rfl
  simp only [Nat.mul_one,Nat.add_zero] at h4
  exact⟨_,h4,(hr c (by rw [<-hget];exact List.getElem_mem hlt)).ok⟩
end Go.Proofs.YtchcelodeepjdaaGreatDoor.Ln

namespace Go.Proofs.YtchcelodeepjdaaGreatDoor.Ln
open Go.RowKit Go.Shelf Go.Herb

def insE (out:List Sv)(o:Sv):List Sv:=out.takeWhile (fun s=>decide (s.line<o.line))++o::out.dropWhile (fun s=>decide (s.line<o.line))
noncomputable def keepE (l:List Sv)(gs:List Int)(os:List Sv):List Sv:=l.filter (fun s=>decide (s.line∉gs/\s.line∉os.map Sv.line))
noncomputable def edE (l:List Sv)(gs:List Int)(os:List Sv):List Sv:=os.foldl insE (keepE l gs os)
theorem ykv {out:List Sv}{o s:Sv}:s∈insE out o↔s=o\/s∈out:=by
 unfold insE
 have h:s∈out↔s∈out.takeWhile (fun s=>decide (s.line<o.line))\/s∈out.dropWhile (fun s=>decide (s.line<o.line)):=by
  rw [<-List.mem_append,List.takeWhile_append_dropWhile]
 rw [List.mem_append,List.mem_cons,h]
 constructor
 ·rintro(h|h|h)
  ·exact .inr (.inl h)
  ·exact .inl h
  ·exact .inr (.inr h)
 ·rintro(h|h|h)
  ·exact .inr (.inl h)
  ·exact .inl h
  ·exact .inr (.inr h)
theorem yyf {os:List Sv}: ∀{out:List Sv} {s:Sv},s∈os.foldl insE out↔s∈os\/s∈out:=by
 induction os with
 |nil=>intro out s;simp
 |cons o os ih=>
  intro out s
  rw [List.foldl_cons,ih,ykv,List.mem_cons]
  constructor
  ·rintro(h|h|h)
   ·exact .inl (.inr h)
   ·exact .inl (.inl h)
   ·exact .inr h
  ·rintro((h|h)|h)
   ·exact .inr (.inl h)
   ·exact .inl h
   ·exact .inr (.inr h)
theorem yqv {l os:List Sv}{gs:List Int}{s:Sv}:s∈edE l gs os↔s∈os\/(s∈l/\s.line∉gs/\s.line∉os.map Sv.line):=by
 unfold edE keepE
 rw [yyf,List.mem_filter,decide_eq_true_eq]
theorem insE_len (out:List Sv)(o:Sv):(insE out o).length=out.length+1:=by
 have h:(out.takeWhile (fun s=>decide (s.line<o.line))++out.dropWhile (fun s=>decide (s.line<o.line))).length=out.length:=by rw [List.takeWhile_append_dropWhile]
 unfold insE
 rw [List.length_append] at h ⊢
 rw [List.length_cons]
 omega
def RiseS (l:List Sv):Prop:=l.Pairwise (fun a b=>a.line<b.line)
theorem takeW_lt {out:List Sv}{o s:Sv}(h:s∈out.takeWhile (fun s=>decide (s.line<o.line))):s.line<o.line:=by
 induction out with
 |nil=>cases h
 |cons a l ih=>
  rw [List.takeWhile_cons] at h
  by_cases ha:a.line<o.line
  ·rw [if_pos (decide_eq_true ha)] at h
   rcases List.mem_cons.1 h with rfl|h
   ·exact ha
   ·exact ih h
  ·rw [if_neg (by simp [ha])] at h
   cases h
theorem dropW_ge {out:List Sv}{o s:Sv}(hr:RiseS out)(h:s∈out.dropWhile (fun s=>decide (s.line<o.line))): ¬s.line<o.line:=by
 induction out with
 |nil=>cases h
 |cons a l ih=>
  obtain⟨h1,h2⟩:=List.pairwise_cons.1 hr
  rw [List.dropWhile_cons] at h
  by_cases ha:a.line<o.line
  ·rw [if_pos (decide_eq_true ha)] at h
   exact ih h2 h
  ·rw [if_neg (by simp [ha])] at h
   rcases List.mem_cons.1 h with rfl|h
   ·exact ha
   ·have:=h1 s h;omega
theorem yy6 {out:List Sv}{o:Sv}(hr:RiseS out)(hn:o.line∉out.map Sv.line):RiseS (insE out o):=by
 have hsub: ∀s,s∈out.dropWhile (fun s=>decide (s.line<o.line))->s∈out:=fun s h=>(List.dropWhile_sublist _).subset h
 have hlt: ∀s∈out.dropWhile (fun s=>decide (s.line<o.line)),o.line<s.line:=fun s h=>by
  have h1:=dropW_ge hr h
  have h2:o.line≠s.line:=fun e=>hn (e▸List.mem_map_of_mem (hsub s h))
  omega
 unfold RiseS insE
 rw [List.pairwise_append,List.pairwise_cons]
 refine⟨hr.sublist (List.takeWhile_sublist _),⟨hlt,hr.sublist (List.dropWhile_sublist _)⟩,fun a ha b hb=> ?_⟩
 have h1:=takeW_lt ha
 rcases List.mem_cons.1 hb with rfl|hb
 ·exact h1
 ·have:=hlt b hb;omega
theorem yws {os:List Sv}: ∀{out:List Sv},RiseS out->(os.map Sv.line).Nodup->(∀s∈os,s.line∉out.map Sv.line)->RiseS (os.foldl insE out):=by
 induction os with
 |nil=>exact fun h _ _=>h
 |cons o os ih=>
  intro out h hn hd
  rw [List.map_cons,List.nodup_cons] at hn
  refine ih (yy6 h (hd o List.mem_cons_self)) hn.2 (fun s hs h1=> ?_)
  obtain⟨y,h2,h3⟩:=List.mem_map.1 h1
  rcases ykv.1 h2 with rfl|h2
  ·exact hn.1 (h3▸List.mem_map_of_mem hs)
  ·exact hd s (List.mem_cons_of_mem _ hs) (h3▸List.mem_map_of_mem h2)
theorem edE_says {q ss:List Sv}{x:List Sd}(hq:RiseL (q.map Sv.says))(hx:RiseL x)(hss:ss.map Sv.says=newL x (q.map Sv.says)):(edE q (goneL x (q.map Sv.says)) ss).map Sv.says=x:=by
 have hsn:(ss.map Sv.line).Nodup:=by
  rw [<-zxd,hss]
  refine List.Nodup.sublist (List.Sublist.map _ ?_) hx.nodup
  unfold newL
  exact List.filter_sublist
 have hqr:RiseS q:=by
  unfold RiseL at hq
  rw [List.pairwise_map] at hq
  exact hq
 have hor:RiseL ((edE q (goneL x (q.map Sv.says)) ss).map Sv.says):=by
  unfold RiseL
  rw [List.pairwise_map]
  refine yws (hqr.sublist List.filter_sublist) hsn (fun s hs h1=> ?_)
  obtain⟨y,h2,h3⟩:=List.mem_map.1 h1
  unfold keepE at h2
  rw [List.mem_filter,decide_eq_true_eq] at h2
  exact h2.2.2 (h3▸List.mem_map_of_mem hs)
 refine zkw hor hx (fun s=> ?_)
 rw [zv0 hx hq s,List.mem_map]
 constructor
 ·rintro⟨y,h1,rfl⟩
  rcases yqv.1 h1 with h|⟨h2,h3,h4⟩
  ·exact .inl (by rw [<-hss];exact List.mem_map_of_mem h)
  ·refine .inr ⟨List.mem_map_of_mem h2,h3,?_⟩
   rw [<-hss,zxd]
   exact h4
 ·rintro(h|⟨h1,h2,h3⟩)
  ·rw [<-hss] at h
   obtain⟨y,h4,rfl⟩:=List.mem_map.1 h
   exact⟨y,yqv.2 (.inl h4),rfl⟩
  ·obtain⟨y,h4,rfl⟩:=List.mem_map.1 h1
   rw [<-hss,zxd] at h3
   exact⟨y,yqv.2 (.inr ⟨h4,h2,h3⟩),rfl⟩
theorem yy3 (f:Sv->Nat)(os:List Sv): ∀out:List Sv,((os.foldl insE out).map f).sum=(os.map f).sum+(out.map f).sum:=by
 induction os with
 |nil=>intro out;simp
 |cons o os ih=>
  intro out
  have h:((insE out o).map f).sum=f o+(out.map f).sum:=by
   have h1:(out.map f).sum=((out.takeWhile (fun s=>decide (s.line<o.line))++out.dropWhile (fun s=>decide (s.line<o.line))).map f).sum:=by rw [List.takeWhile_append_dropWhile]
   unfold insE
   rw [h1]
   simp only [List.map_append,List.map_cons,List.sum_append,List.sum_cons]
   omega
  rw [List.foldl_cons,ih,h]
  simp only [List.map_cons,List.sum_cons]
  omega
theorem ywq (f:Sv->Nat)(p:Sv->Bool)(l:List Sv):((l.filter p).map f).sum<=(l.map f).sum:=by
 induction l with
 |nil=>simp
 |cons a l ih=>
  rw [List.filter_cons]
  split
  ·simp only [List.map_cons,List.sum_cons];omega
  ·simp only [List.map_cons,List.sum_cons];omega
theorem edE_sum (f:Sv->Nat)(l:List Sv)(gs:List Int)(os:List Sv):((edE l gs os).map f).sum<=(os.map f).sum+(l.map f).sum:=by
 unfold edE
 rw [yy3]
 have:((keepE l gs os).map f).sum<=(l.map f).sum:=ywq f _ l
 omega
end Go.Proofs.YtchcelodeepjdaaGreatDoor.Ln

namespace Go.Proofs.YtchcelodeepjdaaGreatDoor.Ln
open Go.RowKit Go.Shelf Go.Herb

theorem yv1 (s:ByteArray)(w:World):Calls Tryz.prog (88) #[.string s] w (fun e w'=>e= .returned (.bool (keyB s))/\w'=w):=by
 obtain⟨n,hn⟩: ∃n,n=s.size:=⟨_,rfl⟩
 have HK:keyB s=(decide (1<=n)&&decide (n<=32)):=by rw [hn];rfl
 have HS:=zh HK
 clear HK
 by_cases h1:1<=n
 ·have a1:decide ((1:Int)<=(n:Int))=true:=decide_eq_true (by omega)
  by_cases h2:n<=32
  ·have a2:decide ((n:Int)<=(32:Int))=true:=decide_eq_true (by omega)
   go_enter Tryz.func88,Tryz.ntmps88
   rw [hn] at a1 a2 h1 h2
   go_wp2_with fail
   go_ret
   exact⟨by rw [HS.out,hn];simp [h1,h2],rfl⟩
  ·have a2:decide ((n:Int)<=(32:Int))=false:=decide_eq_false (by omega)
   go_enter Tryz.func88,Tryz.ntmps88
   rw [hn] at a1 a2 h1 h2
   go_wp2_with fail
   go_ret
   exact⟨by rw [HS.out,hn];simp [h2],rfl⟩
 ·have a1:decide ((1:Int)<=(n:Int))=false:=decide_eq_false (by omega)
  go_enter Tryz.func88,Tryz.ntmps88
  rw [hn] at a1 h1
  go_wp2_with fail
  go_ret
  exact⟨by rw [HS.out,hn];simp [h1],rfl⟩
def PairR (r:Rv):Prop:=r.vs.length=r.bs.length/\ ∀v∈r.vs,∃b∈r.bs,b.2.1=v.line
def zx1 (P:Prop)(w:World)(e:Ending)(w':World):Prop:= ∃q:Bool,e= .returned (.bool q)/\(q=true↔P)/\Below w.heap.size w w'
theorem yvq {P:Prop}{w w':World}(h:P)(hb:Below w.heap.size w w'):zx1 P w (.returned (.bool true)) w':=⟨true,rfl,⟨fun _=>h,fun _=>rfl⟩,hb⟩
theorem yxk {P:Prop}{w w':World}(h: ¬P)(hb:Below w.heap.size w w'):zx1 P w (.returned (.bool false)) w':=⟨false,rfl,⟨(fun h=>by cases h),fun k=>absurd k h⟩,hb⟩
set_option maxRecDepth 100000 in
set_option maxHeartbeats 2000000 in
theorem yx5 (r:Rv)(w:World)(h:RtIn w r):Calls Tryz.prog (56) #[rtV r] w (zx1 (PairR r) w):=by
 obtain⟨nb,hnb⟩: ∃n,n=r.bs.length:=⟨_,rfl⟩
 obtain⟨nl,hnl⟩: ∃n,n=r.ls.length:=⟨_,rfl⟩
 obtain⟨nv,hnv⟩: ∃n,n=r.vs.length:=⟨_,rfl⟩
 obtain⟨ns,hns⟩: ∃n,n=r.sh.length:=⟨_,rfl⟩
 obtain⟨ba,hba⟩: ∃n,n=r.ba:=⟨_,rfl⟩
 obtain⟨la,hla⟩: ∃n,n=r.la:=⟨_,rfl⟩
 obtain⟨va,hva⟩: ∃n,n=r.va:=⟨_,rfl⟩
 obtain⟨sa,hsa⟩: ∃n,n=r.sa:=⟨_,rfl⟩
 have hrt:rtV r= .agg #[.int .u64 r.seq, .int .u64 r.log, .int .u64 r.next, .slice ba nb r.bc, .slice la nl r.lc, .slice va nv r.vc, .slice sa ns r.sc] :=by rw [hnb,hnl,hnv,hns,hba,hla,hva,hsa]
 obtain⟨W,hW⟩: ∃W:World,W=w.alloc (.cells #[.int .u64 r.seq, .int .u64 r.log, .int .u64 r.next, .slice ba nb r.bc, .slice la nl r.lc, .slice va nv r.vc, .slice sa ns r.sc] (32)):=⟨_,rfl⟩
 have hB:Below w.heap.size w W:=by rw [hW];exact zb.alloc zr _
 have hx0:W.heap[w.heap.size]? =some (.cells #[.int .u64 r.seq, .int .u64 r.log, .int .u64 r.next, .slice ba nb r.bc, .slice la nl r.lc, .slice va nv r.vc, .slice sa ns r.sc] (32) (0,0)):=by rw [hW];exact zq3 rfl _
 have HB:=zh hB
 have HW:=zh hW
 have HN:=zh (show r.bs.length=nb/\r.ls.length=nl/\r.vs.length=nv/\r.sh.length=ns from⟨hnb.symm,hnl.symm,hnv.symm,hns.symm⟩)
 have HA0:=zh (show ba=r.ba/\la=r.la/\va=r.va/\sa=r.sa from⟨hba,hla,hva,hsa⟩)
 have HVC:=zh (vinE h.vcs hB)
 have HBR:=zh (h.brs.els.ext hB)
 have HLN:=zh (h.lns.els.ext hB)
 have HSC:=zh (h.shs.ext hB)
 have HM:=zh (show nb<=maxLen/\nl<=maxLen/\nv<=maxLen/\ns<=maxLen from⟨by rw [hnb];exact Nat.le_trans h.brs.le h.brs.max,by rw [hnl];exact Nat.le_trans h.lns.le h.lns.max,by rw [hnv];exact h.vcs.len,by rw [hns];exact Nat.le_trans h.sl h.sm⟩)
 have HEND:=zh (show∀e u,Below W.heap.size W u->(Below w.heap.size w u->zx1 (PairR r) w e u)->zx1 (PairR r) w e u from fun e u hu hq=>hq (hB.trans (hu.mono hB.size)))
 have HC:Hid (∀u,Below W.heap.size W u->u.cell? ⟨w.heap.size,3,none⟩=some (.slice ba nb r.bc)/\u.cell? ⟨w.heap.size,5,none⟩=some (.slice va nv r.vc)):=zh (fun u hu=>by
  have hq:=zq4 hx0 hu (zq2 hx0)
  have q3:=zq0 hq 3
  have q5:=zq0 hq 5
  simp at q3 q5
  exact⟨q3,q5⟩)
 have HRT:=zh hrt
 have HR:=zh (h.ext hB)
 rw [hrt]
 clear h hB hx0 hnb hnl hnv hns hba hla hva hsa hrt hW
 go_enter Tryz.func56,Tryz.ntmps56
 go_upto_region 1 with fail
 rw [<-HW.out]
 obtain⟨c3,c5⟩:=HC.out W zb
 by_cases h1:nv=nb
 case neg=>
  have e1:(((nv:Int)!=(nb:Int)))=true:=by simp;omega
  have e2:((nv:Int)==(nb:Int))=false:=beq_eq_false_iff_ne.2 (by omega)
  have e3:(nv==nb)=false:=beq_eq_false_iff_ne.2 (by omega)
  have HF:=zh (show¬PairR r from fun h=>h1 (by have:=HN.out;have:=h.1;omega))
  go_wp2_with fail
  go_ret
  exact HEND.out _ _ zb (yxk HF.out)
 subst h1
 have e1:(((nv:Int)!=(nv:Int)))=false:=by simp
 go_upto_region 4 with fail
 clear c3 c5 e1
 go_loopg [3] nv (fun gk iv wr=> ∃i:Nat,i+gk=nv/\iv= .int .i64 i/\Hid (Below W.heap.size W wr)/\Hid (∀v∈r.vs.take i,∃b∈r.bs,b.2.1=v.line))
 case atStart=>exact⟨0,by omega,rfl,zh zb,zh (by simp)⟩
 case round=>
  obtain⟨i,hi,rfl,HBw,HA⟩:=hrel
  obtain⟨c3,c5⟩:=HC.out wr HBw.out
  by_cases hlt:i<nv
  case neg=>
   have i1: ¬(i:Int)<(nv:Int):=by omega
   have HT:=zh (show PairR r from⟨by have:=HN.out;omega,by
    have:=HA.out
    rwa [List.take_of_length_le (by have:=HN.out;omega)] at this⟩)
   clear HA hlt
   go_wp2_with fail
   go_ret
   exact HEND.out _ _ HBw.out (yvq HT.out)
  have hil:i<r.vs.length:=by have:=HN.out;omega
  obtain⟨vb,vo,hva,hlb,hc⟩:=(HVC.out.els.ext HBw.out).get i hil
  have HTK:=zh (List.take_succ_eq_append_getElem hil)
  have HXM:=zh (List.getElem_mem hil)
  generalize r.vs[i] =x at hc HTK HXM
  have HG:=zh (show∀u,Below wr.heap.size wr u->u.cell? ⟨vb,vo+i*2,none⟩=some (.int .u64 x.line)from fun u hu=>(hu.cell (p:=⟨vb,vo+i*2,none⟩) hlb).trans (hc 0 _ rfl))
  have i0:(0:Int)<=(i:Int):=by omega
  have i1:(i:Int)<(nv:Int):=by omega
  have HW1:=zh (show IntKind.i64.wrap ((i:Int)+1)=(i:Int)+1 from IntWalk.i64_in _ (by have:=HM.out.2.2.1;unfold maxLen at this;omega))
  have hva:=HA0.out.2.2.1.trans hva
  subst hva
  clear hc
  go_upto_region 8 with fail
  clear c3 c5
  obtain⟨wo,hwo⟩: ∃x,x=wr:=⟨_,rfl⟩
  subst hwo
  obtain⟨g1,hg1⟩: ∃x,x=gk:=⟨_,rfl⟩
  subst hg1
  go_loopg [5,4] nv (fun gk kv bv wr=> ∃(k:Nat) (q:Bool),k+gk=nv/\kv= .int .i64 k/\bv= .bool q/\Hid (q=true↔ ∃b∈r.bs.take k,b.2.1=x.line)/\Hid (Below wo.heap.size wo wr))
  case atStart=>exact⟨0,false,by omega,rfl,rfl,zh (by simp),zh zb⟩
  case round=>
   obtain⟨k,q,hk,rfl,rfl,HQ,HB9⟩:=hrel
   have HBw9:=zh (HBw.out.trans (HB9.out.mono HBw.out.size))
   obtain⟨c3,c5⟩:=HC.out wr HBw9.out
   by_cases hkl:k<nv
   case neg=>
    have k1: ¬(k:Int)<(nv:Int):=by omega
    have hQ2:q=true↔ ∃b∈r.bs,b.2.1=x.line:=by
     have:=HQ.out
     rwa [List.take_of_length_le (by have:=HN.out;omega)] at this
    cases q with
    |false=>
     have HF:=zh (show¬PairR r from fun h=>absurd (hQ2.2 (h.2 x HXM.out)) (by simp))
     clear hQ2 HQ
     go_wp2_with fail
     go_ret
     exact HEND.out _ _ HBw9.out (yxk HF.out)
    |true=>
     have HA2:=zh (show∀v∈r.vs.take (i+1),∃b∈r.bs,b.2.1=v.line from by
      rw [HTK.out]
      intro y hy
      rcases List.mem_append.1 hy with h|h
      ·exact HA.out y h
      ·rw [List.mem_singleton.1 h];exact hQ2.1 rfl)
     have hw1:=HW1.out
     clear hQ2 HQ
     go_wp2_with fail
     go_roundg(g1 - 1)
     case measure=>omega
     case rel=>exact⟨i+1,by omega,by go_num,HBw9,HA2⟩
   have hkb:k<r.bs.length:=by have:=HN.out;omega
   obtain⟨bb,bo,hba,hbb,hd⟩:=(HBR.out.ext HBw9.out).get k hkb
   have HTB:=zh (List.take_succ_eq_append_getElem hkb)
   generalize r.bs[k] =y at hd HTB
   have HD:=zh (show∀u,Below wr.heap.size wr u->u.cell? ⟨bb,bo+k*3+1,none⟩=some (.int .u64 y.2.1)from fun u hu=>(hu.cell (p:=⟨bb,bo+k*3+1,none⟩) hbb).trans (hd 1 _ rfl))
   have d1:=HD.out wr zb
   have g0:=HG.out wr HB9.out
   have k0:(0:Int)<=(k:Int):=by omega
   have k1:(k:Int)<(nv:Int):=by omega
   have hw2:IntKind.i64.wrap ((k:Int)+1)=(k:Int)+1:=IntWalk.i64_in _ (by have:=HM.out.2.2.1;unfold maxLen at this;omega)
   have HQ2:=zh (show(q||decide (y.2.1=x.line))=true↔ ∃b∈r.bs.take (k+1),b.2.1=x.line from by
    rw [HTB.out,Bool.or_eq_true,HQ.out,decide_eq_true_eq]
    constructor
    ·rintro(⟨b,hb,e⟩|e)
     ·exact⟨b,List.mem_append_left _ hb,e⟩
     ·exact⟨y,List.mem_append_right _ (List.mem_singleton.2 rfl),e⟩
    ·rintro⟨b,hb,e⟩
     rcases List.mem_append.1 hb with hb|hb
     ·exact .inl ⟨b,hb,e⟩
     ·rw [List.mem_singleton.1 hb] at e;exact .inr e)
   have hba:=HA0.out.1.trans hba
   subst hba
   obtain⟨q2,hq2⟩: ∃t,t=decide (y.2.1=x.line):=⟨_,rfl⟩
   have e2:(y.2.1==x.line)=q2:=by rw [hq2];rfl
   rw [<-hq2] at HQ2
   have HS:=zh (show∀u,Below wr.heap.size wr u->u.cell? ⟨w.heap.size,3,none⟩=some (.slice (some ⟨bb,bo,none⟩) nv r.bc)/\u.cell? ⟨w.heap.size,5,none⟩=some (.slice (some ⟨vb,vo,none⟩) nv r.vc)/\u.cell? ⟨bb,bo+k*3+1,none⟩=some (.int .u64 y.2.1)/\u.cell? ⟨vb,vo+i*2,none⟩=some (.int .u64 x.line)from fun u hu=>⟨(HC.out u (HBw9.out.trans (hu.mono HBw9.out.size))).1,(HC.out u (HBw9.out.trans (hu.mono HBw9.out.size))).2,HD.out u hu,HG.out u (HB9.out.trans (hu.mono HB9.out.size))⟩)
   clear hd hq2
   cases q with
   |true=>
    go_wp2_with fail
    go_quiet (fail)
    go_wp2_with fail
    go_roundg(gk - 1)
    case measure=>omega
    case rel=>exact⟨k+1,true,by omega,by go_num,rfl,by rw [Bool.true_or] at HQ2;exact HQ2,zh (below_drewN HB9.out _)⟩
   |false=>
    go_wp2_with fail
    go_quiet (fail)
    go_wp2_with fail
    go_roundg(gk - 1)
    case measure=>omega
    case rel=>exact⟨k+1,q2,by omega,by go_num,rfl,by rw [Bool.false_or] at HQ2;exact HQ2,zh (below_drewN HB9.out _)⟩
end Go.Proofs.YtchcelodeepjdaaGreatDoor.Ln
