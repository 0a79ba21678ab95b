/- Lemmas and walks towards ManifestsFold. Conditions: each one tells its own. -/
import Derived.Test.YtchcelodeepjdaaGreatDoorMp
import Derived.Test.YtchcelodeepjdaaGreatDoorZZE
namespace Go.Proofs.YtchcelodeepjdaaGreatDoor.Ln
open Go.RowKit Go.Shelf Go.Herb

def wtR (x:Rt):Nat:=(x.sh.map (fun s=>1+(s.lv.map List.length).sum)).sum
def KeepB (B:Nat)(u u':World):Prop:= ∀k cs e,u.heap[k]? =some (.cells cs e (0,0))->B<=k->u'.heap[k]? =some (.cells cs e (0,0))
def Stay (B:Nat)(w:World)(Q:Option Rv)(r:Rv):Prop:= ∀u',KeepB B w u'->(∀q,Q=some q->RtIn u' q)->RtIn u' r
theorem EdB.in2 {w u u':World}{cs:Array Value}{M B:Nat}{sq lg nx:Int}{ba la va:Option Addr}{bc lc vc:Nat}{bs:List Br}{ls:List Ln}{vs:List Vx.Vc}{sa:Option Addr}{sc:Nat}{os ss:List Sv}{q:Rv}(h:EdB w u cs M B ⟨sq,lg,nx,ba,bc,bs,la,lc,ls,va,vc,vs,none,0, []⟩ sa sc os ss)(hM:w.heap.size<=M)(hB:w.heap.size<=B)(hk:KeepB w.heap.size u u')(hq:RtIn u' q)(hmem: ∀s∈os,s∈ss\/s∈q.sh)(hW: ∀s∈ss,U64 s.line/\ ∀l∈s.lv,∀t∈l.ts,TbW t):
  RtIn u' ⟨sq,lg,nx,ba,bc,bs,la,lc,ls,va,vc,vs,sa,sc,os⟩:=by
 have hsi:ShIn u' sa os:=⟨Vx.zx3 zqe (zqx h.sh (fun g cs hh hg=>hk g cs _ hh (by omega))),fun s hs=>by
  rcases hmem s hs with h1|h1
  ·have hlv: ∀l∈s.lv,LvOk u' l:=fun l hl=>zv2 (zqx (h.lev s h1 l hl) (fun g cs hh hg=>hk g cs _ hh (by omega))) ((hW s h1).2 l hl)
   exact⟨hlv _ (by simp [Sv.lv]),hlv _ (by simp [Sv.lv]),hlv _ (by simp [Sv.lv]),(hW s h1).1⟩
  ·exact hq.shs.ok s h1⟩
 obtain⟨s1,s2,s3⟩:=zku h.sh
 have hri:=(h.own.kept (fun g cs e hh hg _=>hk g cs e hh (by omega))).in_
 exact⟨hri.seq,hri.log,hri.next,hri.brs,hri.lns,hri.vcs,hsi,s1,s2,s3,hri.vl⟩
theorem RtOwn.stay {M:Nat}{u:World}{r:Rv}(h:RtOwn M u r)(Q:Option Rv):Stay M u Q r:=fun _ hk _=>(h.kept (fun g cs e hh hg _=>hk g cs e hh hg)).in_
def ywe (ys:List Int)(q:Rv)(w:World)(e:Ending)(w':World):Prop:=Below w.heap.size w w'/\(((¬ ∃x,EdIs ys q.says x)/\e= .panicked NONE)\/ ∃r:Rv,EdIs ys q.says r.says/\Stay w.heap.size w' (some q) r/\FewX r.says/\e= .returned (rtV r))
set_option maxRecDepth 100000 in
set_option maxHeartbeats 4000000 in
theorem yyj (a:Option Addr)(cap n:Nat)(ys:List Int)(q:Rv)(rb:Nat)(w:World)(hb:Byt w a ys)(hn:ys.length=n)(hu: ∀y∈ys,U8 y)(hl:n<500000)(hle:n<=cap)(h0:a=none->cap=0)(hy:ys= [] \/ ∃l,ys=2::l)(hq:WasIn w q rb):
  Calls Tryz.prog (26) #[.slice a n cap, .pointer (some ⟨rb,0,none⟩)] w (ywe ys q w):=by
 have HQ:=zh hq
 have HYY:=zh hy
 clear hq hy
 obtain⟨W1,hW1⟩: ∃W:World,W=w.alloc (.cells #[.int .u64 0, .int .u64 0, .int .u64 0, .slice none 0 0, .slice none 0 0, .slice none 0 0, .slice none 0 0] (32)):=⟨_,rfl⟩
 have hB1:Below w.heap.size w W1:=by rw [hW1];exact zb.alloc zr _
 have hx1:W1.heap[w.heap.size]? =some (.cells #[.int .u64 0, .int .u64 0, .int .u64 0, .slice none 0 0, .slice none 0 0, .slice none 0 0, .slice none 0 0] (32) (0,0)):=by rw [hW1];exact zq3 rfl _
 have hz1:W1.heap.size=w.heap.size+1:=by rw [hW1];simp
 have HB1:=zh hB1
 have HX1:=zh hx1
 have HW1:=zh hW1
 have HZ1:=zh hz1
 have HE:=zh hb
 have HU:=zh hu
 have HN:=zh hn
 have H0:=zh h0
 have HLE:=zh hle
 cases ys with
 |nil=>
  have hn0:n=0:=hn.symm
  subst hn0
  have HF:=zh (show¬ ∃x,EdIs [] q.says x from fun⟨x,h⟩=>by obtain⟨l,l1,e, -⟩:=h.read;cases e)
  clear hb hn hu hle h0 hB1 hx1 hz1 hW1
  go_enter Tryz.func26,Tryz.ntmps26
  go_wp2_with(go_at_call 60;refine(zxh _).mono ?_;rintro e w' ⟨rfl,rfl⟩)
  exact⟨rfl,by rw [<-HW1.out];exact HB1.out, .inl ⟨HF.out,rfl⟩⟩
 |cons c l=>
  obtain⟨b,o,hla,hlb,hc⟩:=hb.get 0 (by simp)
  have hlb1:b<W1.heap.size:=by omega
  have g0:=(HB1.out.cell (p:=⟨b,_,none⟩) hlb).trans (hc 0 _ rfl)
  simp only [Nat.zero_mul,Nat.add_zero,List.getElem_cons_zero] at g0
  have i1:(n:Int)> 0:=by rw [<-hn,List.length_cons];omega
  have i2:decide ((0:Int)<(n:Int))=true:=decide_eq_true (by omega)
  have i3:(0:Int)<(n:Int):=by omega
  have i4:0<n:=by omega
  have HLA:=zh hla
  have hc1:c=2:=by
   rcases HYY.out with h|⟨l',h⟩
   ·cases h
   ·injection h
  subst hc1
  obtain⟨a2,hs,hE2,h02,hp2⟩:=zx8 (k:=1) hb hn hle (by omega) h0
  obtain⟨W2,hW2⟩: ∃W:World,W=W1.alloc (.cells #[.slice a2 (n - 1) (cap - 1)] (124)):=⟨_,rfl⟩
  have hB2:Below W1.heap.size W1 W2:=by rw [hW2];exact zb.alloc zr _
  have hBW2:Below w.heap.size w W2:=hB1.trans (hB2.mono hB1.size)
  have hll:l.length=n - 1:=by rw [<-hn,List.length_cons];omega
  have HR2:=zh (show zqa W2 (w.heap.size+1) w.heap.size l from by
   refine⟨⟨a2,cap - 1,?_,?_,h02,by omega,fun _ ad had=> ?_⟩,fun y hy=>hu y (List.mem_cons_of_mem _ hy),by omega,by omega⟩
   ·rw [hll,hW2]
    exact zq3 (by rw [hW1];simp) _
   ·exact(show Byt w a2 l from hE2).ext hBW2
   ·obtain⟨ad',h4,h5⟩:=hp2 ad had
    rw [hla] at h4
    cases h4
    rw [h5]
    exact hlb)
  have HX2:=zh (show XS w W2 l _ from⟨HR2.out,zq4 hx1 hB2 (zq2 hx1),hBW2⟩)
  have HC0:=zh (show∀u,Below w.heap.size w u->u.cell? ⟨b,o,none⟩=some (.int .u8 2)from fun u hu=>by
   have:=(hu.cell (p:=⟨b,_,none⟩) hlb).trans (hc 0 _ rfl)
   simpa using this)
  have HRT:=zh (zy1 (w.heap.size+1) w.heap.size l W2 HR2.out (by omega))
  have hs': ∀W,(Instr.slice (24) (.slice a n cap) (some (.int .i64 1)) none none).run Tryz.prog W= .ok (.slice a2 (n - 1) (cap - 1)) W:=fun W=>by simpa using hs W
  have HBW2:=zh hBW2
  have HW2:=zh hW2
  have HZ2:=zh (show W2.heap.size=w.heap.size+2 from by rw [hW2];simp [hz1])
  rw [hla] at hs'
  rw [hla]
  rw [hW2,hW1] at HRT
  rw [hW1] at g0
  clear hb hn hu hle h0 hB1 hx1 hz1 hW1 hc hs hE2 h02 hp2 hW2 hB2 hBW2 hla hll
  go_enter Tryz.func26,Tryz.ntmps26
  go_wp2_with(go_at_call 60;refine(zz1 _).mono ?_;rintro e w' ⟨rfl,rfl⟩)
  refine HRT.out.mono ?_
  rw [<-HW1.out,<-HW2.out]
  rintro e w3 ⟨hT,⟨hg,rfl⟩|⟨x0,l1,v,hg,rfl,⟨r0,rfl,hO,hx0,hsa,hsc,hsh⟩,hR⟩⟩
  ·have HF:=zh (show¬ ∃x,EdIs (2::l) q.says x from fun⟨x,h⟩=>by obtain⟨l',l1,e,e2, -⟩:=h.read;cases e;rw [hg] at e2;cases e2)
   have HT:=zh (HX2.out.below.trans (hT.below zb (by omega) (by have:=HZ2.out;omega)))
   clear hg hT
   go_wp2_with fail
   exact⟨rfl,HT.out, .inl ⟨HF.out,rfl⟩⟩
  obtain⟨sq,lg,nx,ba,bc,bs,la,lc,ls,va,vc,vs,sa,sc,sh⟩:=r0
  simp only at hsa hsc hsh
  subst hsa hsc hsh
  obtain⟨nb,hnb⟩: ∃n,n=bs.length:=⟨_,rfl⟩
  obtain⟨nl,hnl⟩: ∃n,n=ls.length:=⟨_,rfl⟩
  obtain⟨nv,hnv⟩: ∃n,n=vs.length:=⟨_,rfl⟩
  have hrt:rtV ⟨sq,lg,nx,ba,bc,bs,la,lc,ls,va,vc,vs,none,0, []⟩= .agg #[.int .u64 sq, .int .u64 lg, .int .u64 nx, .slice ba nb bc, .slice la nl lc, .slice va nv vc, .slice none 0 0] :=by rw [hnb,hnl,hnv];rfl
  rw [hrt]
  have HX3:=zh (HX2.out.next hT hR)
  have HG:=zh hg
  have HR3:=zh (show XR w w3 l1 _ W2.heap.size ⟨sq,lg,nx,ba,bc,bs,la,lc,ls,va,vc,vs,none,0, []⟩from⟨HX3.out,hO,hT.size⟩)
  have HX0:=zh hx0
  have HNB:=zh (show nb=bs.length/\nl=ls.length/\nv=vs.length from⟨hnb,hnl,hnv⟩)
  have c0:=zq0 HX3.out.box 0
  have c1:=zq0 HX3.out.box 1
  have c2:=zq0 HX3.out.box 2
  have c3:=zq0 HX3.out.box 3
  have c4:=zq0 HX3.out.box 4
  have c5:=zq0 HX3.out.box 5
  have c6:=zq0 HX3.out.box 6
  have f0:=zq1 HX3.out.box 0
  have f1:=zq1 HX3.out.box 1
  have f2:=zq1 HX3.out.box 2
  have f3:=zq1 HX3.out.box 3
  have f4:=zq1 HX3.out.box 4
  have f5:=zq1 HX3.out.box 5
  have f6:=zq1 HX3.out.box 6
  simp at c0 c1 c2 c3 c4 c5 c6
  clear hT hg hR hO hx0 hrt HRT hnb hnl hnv g0
  go_upto_region 4 with fail
  have HR4:=zh (((((((HR3.out.store 0 (.int .u64 sq) _ rfl).store 1 (.int .u64 lg) _ rfl).store 2 (.int .u64 nx) _ rfl).store 3 (.slice ba nb bc) _ rfl).store 4 (.slice la nl lc) _ rfl).store 5 (.slice va nv vc) _ rfl).store 6 (.slice none 0 0) #[.int .u64 sq, .int .u64 lg, .int .u64 nx, .slice ba nb bc, .slice la nl lc, .slice va nv vc, .slice none 0 0] rfl)
  obtain⟨u4,hu4⟩:=HR4.out.xs.name
  rw [<-hu4] at HR4 ⊢
  clear hu4 c0 c1 c2 c3 c4 c5 c6 f0 f1 f2 f3 f4 f5 f6 HR3 HX3
  have g0:=HC0.out u4 HR4.out.xs.below
  obtain⟨ms,hms⟩: ∃n,n=q.sh.length:=⟨_,rfl⟩
  have HMS:=zh (show q.sh.length=ms/\ms<1000000 from⟨hms.symm,by rw [hms];exact zj0 HQ.out.fq⟩)
  obtain⟨fb,hxb⟩:=HQ.out.box
  rw [<-hms] at hxb
  obtain⟨-, -, -, -, -, -,d6⟩:=zkz (zq4 hxb HR4.out.xs.below (zq2 hxb))
  have HED:=zh (ywl (w.heap.size+1) w.heap.size ms q.sc q.sa q.sh l1 u4 HR4.out.xs.read (by
   have h1:=rtP_w l x0 l1 HG.out
   have h2:=HN.out
   rw [List.length_cons] at h2
   omega) (HQ.out.iq.shs.ext HR4.out.xs.below) HMS.out.1 HMS.out.2)
  clear hxb hms
  go_wp2_with fail
  refine HED.out.mono ?_
  rintro e w5 ⟨hT,⟨hg,rfl⟩|⟨gs,sh,l2,hg,hR,v5,ss,os,rfl,hss,hpo,hso,hO,hOT,hW⟩⟩
  ·have HF:=zh (show¬ ∃x,EdIs (2::l) q.says x from fun⟨x,h⟩=>by
    obtain⟨l',l1,e,e2,e3⟩:=h.read
    cases e
    rw [HG.out] at e2
    simp only [Option.some.injEq,Prod.mk.injEq] at e2
    rw [<-e2.2,hg] at e3
    cases e3)
   have HT:=zh (hT.below HR4.out.xs.below (show w.heap.size<=w.heap.size+1 by omega) zr)
   clear hg hT
   go_wp2_with fail
   exact⟨rfl,HT.out, .inl ⟨HF.out,rfl⟩⟩
  obtain⟨sa,sc,hv5, -, -⟩:=zq6 zqe hO
  subst hv5
  obtain⟨ns,hns⟩: ∃n,n=os.length:=⟨_,rfl⟩
  rw [<-hns]
  have HR5:=zh (show XR w w5 l2 _ W2.heap.size ⟨sq,lg,nx,ba,bc,bs,la,lc,ls,va,vc,vs,none,0, []⟩from⟨HR4.out.xs.next hT hR,HR4.out.own.turn hT (by have:=HZ2.out;omega),Nat.le_trans HR4.out.le hT.size⟩)
  have c6:=zq0 HR5.out.xs.box 6
  have f6:=zq1 HR5.out.xs.box 6
  simp at c6
  have HR6:=zh (HR5.out.store 6 (.slice sa ns sc) #[.int .u64 sq, .int .u64 lg, .int .u64 nx, .slice ba nb bc, .slice la nl lc, .slice va nv vc, .slice sa ns sc] rfl)
  have hmem: ∀s∈os,s∈ss\/s∈q.sh:=fun s hs=>by
   have h1:=hpo.subset hs
   obtain⟨p,hp,rfl⟩:=List.mem_map.1 h1
   rcases zzj hp with h|⟨h, -⟩
   ·rcases zzj (yvv h)with h|⟨h, -⟩
    ·cases h
    ·exact .inr h
   ·exact .inl h
  have HEB:=zh (show EdB w w5 _ W2.heap.size u4.heap.size ⟨sq,lg,nx,ba,bc,bs,la,lc,ls,va,vc,vs,none,0, []⟩ sa sc os ss from⟨HR5.out.xs.box,HR5.out.xs.below,HR5.out.own,hO,hOT⟩)
  have HE6:=zh (HEB.out.store 6 (.slice sa ns sc) #[.int .u64 sq, .int .u64 lg, .int .u64 nx, .slice ba nb bc, .slice la nl lc, .slice va nv vc, .slice sa ns sc] rfl)
  have hfx:FewX (⟨sq,lg,nx,ba,bc,bs,la,lc,ls,va,vc,vs,sa,sc,os⟩:Rv).says:=by
   have h1:=rtP_w l x0 l1 HG.out
   have h2:=HN.out
   rw [List.length_cons] at h2
   have e1:x0.bs=bs:=by rw [<-HX0.out];rfl
   have e2:x0.ls=ls:=by rw [<-HX0.out];rfl
   have e3:x0.vs=Vx.vsOf vs:=by rw [<-HX0.out];rfl
   rw [e1,e2,e3] at h1
   have e4:(Vx.vsOf vs).length<=((Vx.vsOf vs).map (fun v=>1+v.2.length)).sum:=by
    have:=zjl (f:=fun _=>1) (g:=fun v:Int × Bh=>1+v.2.length) (Vx.vsOf vs) (fun _ _=>by omega)
    rwa [zxm] at this
   refine⟨?_,?_,?_,?_,?_⟩
   ·show bs.length<_;omega
   ·show ls.length<_;omega
   ·show(Vx.vsOf vs).length<_;omega
   ·show bs.length+ls.length+((Vx.vsOf vs).map (fun v=>1+v.2.length)).sum<_;omega
   ·have h3:=egP_w hg
    have h4:=HQ.out.wq
    have h5:=ykz (xs:=ss) (m:=delsL (putS [] q.sh) gs) (zka (zj9 List.nodup_nil))
    have h6:=yvw (gs:=gs) (m:=putS [] q.sh)
    have h7:=ykz (xs:=q.sh) (m:= []) List.nodup_nil
    have h8:(os.map wS).sum=((putS (delsL (putS [] q.sh) gs) ss).map (fun p=>wS p.2)).sum:=by
     have:=(hpo.map wS).sum_nat
     rw [this,List.map_map]
     rfl
    have e5:q.says.sh=q.sh.map Sv.says:=rfl
    rw [e5,List.map_map] at h4
    rw [<-hss,List.map_map] at h3
    have e6:((fun x:Sd=>1+(x.lv.map List.length).sum)∘ Sv.says)=wS:=rfl
    rw [e6] at h3 h4
    show((os.map Sv.says).map (fun s=>1+(s.lv.map List.length).sum)).sum<_
    rw [List.map_map,e6,h8]
    simp at h7
    omega
  have HFX:=zh hfx
  have HSAY:=zh (show∀x,EdIs (2::l) q.says x->(⟨sq,lg,nx,ba,bc,bs,la,lc,ls,va,vc,vs,sa,sc,os⟩:Rv).says=x from fun x hx=>by
   obtain⟨l',l1',e1,e2,e3⟩:=hx.read
   cases e1
   rw [HG.out] at e2
   simp only [Option.some.injEq,Prod.mk.injEq] at e2
   rw [<-e2.2,hg] at e3
   simp only [Option.some.injEq,Prod.mk.injEq] at e3
   have e5:=yj8 (x:=x.sh) ((zx5 _).1 HQ.out.gq).2.shelved.rise hx.good.2.shelved.rise (hss.trans e3.1.2) (by have h7:=hpo;rw [e3.1.1] at h7;exact h7) hso
   have e6:=HX0.out.trans e2.1
   show({(⟨sq,lg,nx,ba,bc,bs,la,lc,ls,va,vc,vs,none,0, []⟩:Rv).says with sh:=os.map Sv.says }:Rt)=x
   rw [e6,e5])
  have HMEM:=zh hmem
  have HWW:=zh hW
  have hrt:rtV ⟨sq,lg,nx,ba,bc,bs,la,lc,ls,va,vc,vs,sa,sc,os⟩= .agg #[.int .u64 sq, .int .u64 lg, .int .u64 nx, .slice ba nb bc, .slice la nl lc, .slice va nv vc, .slice sa ns sc] :=by rw [hns,HNB.out.1,HNB.out.2.1,HNB.out.2.2]
  have HRV:=zh hrt
  clear hT hg hR hO hOT hW hss hpo hso hmem hfx hrt hns g0 HED HR5 HR6 HEB d6
  go_upto_region 7 with fail
  obtain⟨u6,hu6⟩:=HE6.out.name
  rw [<-hu6] at HE6 ⊢
  clear hu6 c6 f6
  have c0:=zq0 HE6.out.box 0
  have c1:=zq0 HE6.out.box 1
  have c2:=zq0 HE6.out.box 2
  have c3:=zq0 HE6.out.box 3
  have c4:=zq0 HE6.out.box 4
  have c5:=zq0 HE6.out.box 5
  have c6:=zq0 HE6.out.box 6
  simp at c0 c1 c2 c3 c4 c5 c6
  have HRX:=zh (HE6.out.in_ HQ.out.iq HMEM.out HWW.out)
  by_cases hgood:GoodR ⟨sq,lg,nx,ba,bc,bs,la,lc,ls,va,vc,vs,sa,sc,os⟩
  case neg=>
   have HF:=zh (show¬ ∃x,EdIs (2::l) q.says x from fun⟨x,h⟩=>hgood ((zx5 _).2 (by rw [HSAY.out x h];exact h.good)))
   have HP:=zh (yjt _ (some ⟨rb,0,none⟩) u6 HRX.out HFX.out.small hgood)
   rw [HRV.out] at HP
   clear hgood
   go_wp2_with fail
   refine HP.out.mono ?_
   rintro e w7 ⟨rfl,hb⟩
   have HB7:=zh (HE6.out.below.trans (hb.mono HE6.out.below.size))
   clear hb c0 c1 c2 c3 c4 c5 c6
   go_wp2_with(go_at_call 60;refine(zxh _).mono ?_;rintro e w' ⟨rfl,rfl⟩)
   exact⟨rfl,HB7.out, .inl ⟨HF.out,rfl⟩⟩
  obtain⟨fq,hxq⟩:=HQ.out.box
  have HP:=zh (yjq ⟨sq,lg,nx,ba,bc,bs,la,lc,ls,va,vc,vs,sa,sc,os⟩ q rb u6 ⟨HRX.out,hgood,HFX.out,HQ.out.iq.ext HE6.out.below,HQ.out.gq,HQ.out.fq,fq,zq4 hxq HE6.out.below (zq2 hxq)⟩)
  rw [HRV.out] at HP
  obtain⟨wl,hwl⟩: ∃x,x=editL (⟨sq,lg,nx,ba,bc,bs,la,lc,ls,va,vc,vs,sa,sc,os⟩:Rv).says q.says:=⟨_,rfl⟩
  rw [<-hwl] at HP
  have HWL:=zh hwl
  have HGD:=zh hgood
  clear hgood hwl hxq
  go_wp2_with fail
  refine HP.out.mono ?_
  rintro e w7 ⟨a7,n7,rfl,hn7,hE7,hb, -⟩
  have HE8:=zh (HE6.out.ext hb)
  have HEQ:=zh (zj1 a7 a n7 n7 n cap wl (2::l) w7 hE7 (HE.out.ext HE8.out.below) hn7.symm HN.out (fun e=>by
   rcases Nat.eq_zero_or_pos n7 with h|h
   ·exact h
   ·obtain⟨b',o',h1, -⟩:=hE7.get 0 (by omega)
    rw [e] at h1;cases h1) (fun e=>by rw [HLA.out] at e;cases e) (by rw [HWL.out];exact ykj _ _) HU.out)
  rw [HLA.out] at HEQ
  clear hb hn7 hE7 c0 c1 c2 c3 c4 c5 c6 HP
  go_wp2_with fail
  refine HEQ.out.mono ?_
  rintro e w' ⟨rfl,qq,rfl,hq⟩
  cases qq with
  |false=>
   have HF:=zh (show¬ ∃x,EdIs (2::l) q.says x from fun⟨x,h⟩=>by
    have:=hq.2 (by rw [HWL.out,HSAY.out x h];exact h.again)
    cases this)
   clear hq
   go_wp2_with(go_at_call 60;refine(zxh _).mono ?_;rintro e w' ⟨rfl,rfl⟩)
   exact⟨rfl,HE8.out.below, .inl ⟨HF.out,rfl⟩⟩
  |true=>
   have HOI:=zh (show EdIs (2::l) q.says (⟨sq,lg,nx,ba,bc,bs,la,lc,ls,va,vc,vs,sa,sc,os⟩:Rv).says from⟨edN_rv HRX.out HFX.out HQ.out.iq HQ.out.fq,(zx5 _).1 HGD.out,by rw [<-HWL.out];exact hq.1 rfl⟩)
   clear hq
   have c0:=zq0 HE8.out.box 0
   have c1:=zq0 HE8.out.box 1
   have c2:=zq0 HE8.out.box 2
   have c3:=zq0 HE8.out.box 3
   have c4:=zq0 HE8.out.box 4
   have c5:=zq0 HE8.out.box 5
   have c6:=zq0 HE8.out.box 6
   have f0:=zq1 HE8.out.box 0
   have f1:=zq1 HE8.out.box 1
   have f2:=zq1 HE8.out.box 2
   have f3:=zq1 HE8.out.box 3
   have f4:=zq1 HE8.out.box 4
   have f5:=zq1 HE8.out.box 5
   have f6:=zq1 HE8.out.box 6
   simp at c0 c1 c2 c3 c4 c5 c6
   go_wp2_with(go_at_call 60;refine(zz1 _).mono ?_;rintro e w' ⟨rfl,rfl⟩)
   have HB8:=zh (((((((HE8.out.store 0 (.int .u64 sq) _ rfl).store 1 (.int .u64 lg) _ rfl).store 2 (.int .u64 nx) _ rfl).store 3 (.slice ba nb bc) _ rfl).store 4 (.slice la nl lc) _ rfl).store 5 (.slice va nv vc) _ rfl).store 6 (.slice sa ns sc) #[.int .u64 sq, .int .u64 lg, .int .u64 nx, .slice ba nb bc, .slice la nl lc, .slice va nv vc, .slice sa ns sc] rfl)
   obtain⟨Z,hZ⟩:=HB8.out.name
   rw [<-hZ] at HB8 ⊢
   clear hZ c0 c1 c2 c3 c4 c5 c6 f0 f1 f2 f3 f4 f5 f6
   have c0:=zq0 HB8.out.box 0
   have c1:=zq0 HB8.out.box 1
   have c2:=zq0 HB8.out.box 2
   have c3:=zq0 HB8.out.box 3
   have c4:=zq0 HB8.out.box 4
   have c5:=zq0 HB8.out.box 5
   have c6:=zq0 HB8.out.box 6
   simp at c0 c1 c2 c3 c4 c5 c6
   refine bodyPost_ret (v:= .agg #[.int .u64 sq, .int .u64 lg, .int .u64 nx, .slice ba nb bc, .slice la nl lc, .slice va nv vc, .slice sa ns sc]) (by simp [results,Tryz.results26,go_sem,c0,c1,c2,c3,c4,c5,c6]) rfl ?_
   have HST:=zh (show Stay w.heap.size Z (some q) ⟨sq,lg,nx,ba,bc,bs,la,lc,ls,va,vc,vs,sa,sc,os⟩from fun u' hk hq=>HB8.out.in2 (by have:=HZ2.out;omega) (by have:=HR4.out.le;have:=HZ2.out;omega) hk (hq _ rfl) HMEM.out HWW.out)
   exact⟨HB8.out.below, .inr ⟨⟨sq,lg,nx,ba,bc,bs,la,lc,ls,va,vc,vs,sa,sc,os⟩,HOI.out,HST.out,HFX.out,by rw [HRV.out]⟩⟩
set_option maxRecDepth 100000 in
set_option maxHeartbeats 4000000 in
theorem yyl (P:Addr)(a:Option Addr)(cap n:Nat)(ys:List Int)(w:World)(hb:Byt w a ys)(hn:ys.length=n)(hu: ∀y∈ys,U8 y)(hl:n<1000000)(hle:n<=cap)(h0:a=none->cap=0)(hy2: ∀l,ys≠2::l):
  Calls Tryz.prog (26) #[.slice a n cap, .pointer (some P)] w (yvm ys w):=by
 obtain⟨W1,hW1⟩: ∃W:World,W=w.alloc (.cells #[.int .u64 0, .int .u64 0, .int .u64 0, .slice none 0 0, .slice none 0 0, .slice none 0 0, .slice none 0 0] (32)):=⟨_,rfl⟩
 have hB1:Below w.heap.size w W1:=by rw [hW1];exact zb.alloc zr _
 have hx1:W1.heap[w.heap.size]? =some (.cells #[.int .u64 0, .int .u64 0, .int .u64 0, .slice none 0 0, .slice none 0 0, .slice none 0 0, .slice none 0 0] (32) (0,0)):=by rw [hW1];exact zq3 rfl _
 have hz1:W1.heap.size=w.heap.size+1:=by rw [hW1];simp
 have HB1:=zh hB1
 have HX1:=zh hx1
 have HW1:=zh hW1
 have HZ1:=zh hz1
 have HE:=zh hb
 have HU:=zh hu
 have HN:=zh hn
 have H0:=zh h0
 have HLE:=zh hle
 cases ys with
 |nil=>
  have hn0:n=0:=hn.symm
  subst hn0
  have HF:=zh (show¬ ∃x,OneIs [] x from fun⟨x,h⟩=>by obtain⟨l,r0,l1,l2,sh,e, -⟩:=h.read;cases e)
  clear hb hn hu hle h0 hy2 hB1 hx1 hz1 hW1
  go_enter Tryz.func26,Tryz.ntmps26
  go_wp2_with(go_at_call 60;refine(zxh _).mono ?_;rintro e w' ⟨rfl,rfl⟩)
  exact⟨rfl,by rw [<-HW1.out];exact HB1.out, .inl ⟨HF.out,rfl⟩⟩
 |cons c l=>
  obtain⟨b,o,hla,hlb,hc⟩:=hb.get 0 (by simp)
  have hlb1:b<W1.heap.size:=by omega
  have g0:=(HB1.out.cell (p:=⟨b,_,none⟩) hlb).trans (hc 0 _ rfl)
  simp only [Nat.zero_mul,Nat.add_zero,List.getElem_cons_zero] at g0
  have i1:(n:Int)> 0:=by rw [<-hn,List.length_cons];omega
  have i2:decide ((0:Int)<(n:Int))=true:=decide_eq_true (by omega)
  have i3:(0:Int)<(n:Int):=by omega
  have i4:0<n:=by omega
  have HLA:=zh hla
  by_cases hc1:c=1
  case neg=>
   have d1:(c==1)=false:=beq_eq_false_iff_ne.2 hc1
   have HF:=zh (show¬ ∃x,OneIs (c::l) x from fun⟨x,h⟩=>by obtain⟨l',r0,l1,l2,sh,e, -⟩:=h.read;cases e;exact hc1 rfl)
   rw [hla]
   rw [hW1] at g0
   by_cases hc2:c=2
   ·exact absurd (by rw [hc2]) (hy2 l)
   ·have d2:(c==2)=false:=beq_eq_false_iff_ne.2 hc2
    clear hb hn hu hle h0 hy2 hB1 hx1 hz1 hW1 hc hla hc1 hc2
    go_enter Tryz.func26,Tryz.ntmps26
    go_wp2_with(go_at_call 60;refine(zxh _).mono ?_;rintro e w' ⟨rfl,rfl⟩)
    exact⟨rfl,by rw [<-HW1.out];exact HB1.out, .inl ⟨HF.out,rfl⟩⟩
  subst hc1
  obtain⟨a2,hs,hE2,h02,hp2⟩:=zx8 (k:=1) hb hn hle (by omega) h0
  obtain⟨W2,hW2⟩: ∃W:World,W=W1.alloc (.cells #[.slice a2 (n - 1) (cap - 1)] (124)):=⟨_,rfl⟩
  have hB2:Below W1.heap.size W1 W2:=by rw [hW2];exact zb.alloc zr _
  have hBW2:Below w.heap.size w W2:=hB1.trans (hB2.mono hB1.size)
  have hll:l.length=n - 1:=by rw [<-hn,List.length_cons];omega
  have HR2:=zh (show zqa W2 (w.heap.size+1) w.heap.size l from by
   refine⟨⟨a2,cap - 1,?_,?_,h02,by omega,fun _ ad had=> ?_⟩,fun y hy=>hu y (List.mem_cons_of_mem _ hy),by omega,by omega⟩
   ·rw [hll,hW2]
    exact zq3 (by rw [hW1];simp) _
   ·exact(show Byt w a2 l from hE2).ext hBW2
   ·obtain⟨ad',h4,h5⟩:=hp2 ad had
    rw [hla] at h4
    cases h4
    rw [h5]
    exact hlb)
  have HX2:=zh (show XS w W2 l _ from⟨HR2.out,zq4 hx1 hB2 (zq2 hx1),hBW2⟩)
  have HC0:=zh (show∀u,Below w.heap.size w u->u.cell? ⟨b,o,none⟩=some (.int .u8 1)from fun u hu=>by
   have:=(hu.cell (p:=⟨b,_,none⟩) hlb).trans (hc 0 _ rfl)
   simpa using this)
  have HRT:=zh (zy1 (w.heap.size+1) w.heap.size l W2 HR2.out (by omega))
  have hs': ∀W,(Instr.slice (24) (.slice a n cap) (some (.int .i64 1)) none none).run Tryz.prog W= .ok (.slice a2 (n - 1) (cap - 1)) W:=fun W=>by simpa using hs W
  have HBW2:=zh hBW2
  have HW2:=zh hW2
  have HZ2:=zh (show W2.heap.size=w.heap.size+2 from by rw [hW2];simp [hz1])
  rw [hla] at hs'
  rw [hla]
  rw [hW2,hW1] at HRT
  rw [hW1] at g0
  clear hb hn hu hle h0 hy2 hB1 hx1 hz1 hW1 hc hs hE2 h02 hp2 hW2 hB2 hBW2 hla hll
  go_enter Tryz.func26,Tryz.ntmps26
  go_wp2_with(go_at_call 60;refine(zz1 _).mono ?_;rintro e w' ⟨rfl,rfl⟩)
  refine HRT.out.mono ?_
  rw [<-HW1.out,<-HW2.out]
  rintro e w3 ⟨hT,⟨hg,rfl⟩|⟨x0,l1,v,hg,rfl,⟨r0,rfl,hO,hx0,hsa,hsc,hsh⟩,hR⟩⟩
  ·have HF:=zh (show¬ ∃x,OneIs (1::l) x from fun⟨x,h⟩=>by obtain⟨l',r0,l1,l2,sh,e,e2, -⟩:=h.read;cases e;rw [hg] at e2;cases e2)
   have HT:=zh (HX2.out.below.trans (hT.below zb (by omega) (by have:=HZ2.out;omega)))
   clear hg hT
   go_wp2_with fail
   exact⟨rfl,HT.out, .inl ⟨HF.out,rfl⟩⟩
  obtain⟨sq,lg,nx,ba,bc,bs,la,lc,ls,va,vc,vs,sa,sc,sh⟩:=r0
  simp only at hsa hsc hsh
  subst hsa hsc hsh
  obtain⟨nb,hnb⟩: ∃n,n=bs.length:=⟨_,rfl⟩
  obtain⟨nl,hnl⟩: ∃n,n=ls.length:=⟨_,rfl⟩
  obtain⟨nv,hnv⟩: ∃n,n=vs.length:=⟨_,rfl⟩
  have hrt:rtV ⟨sq,lg,nx,ba,bc,bs,la,lc,ls,va,vc,vs,none,0, []⟩= .agg #[.int .u64 sq, .int .u64 lg, .int .u64 nx, .slice ba nb bc, .slice la nl lc, .slice va nv vc, .slice none 0 0] :=by rw [hnb,hnl,hnv];rfl
  rw [hrt]
  have HX3:=zh (HX2.out.next hT hR)
  have HG:=zh hg
  have HR3:=zh (show XR w w3 l1 _ W2.heap.size ⟨sq,lg,nx,ba,bc,bs,la,lc,ls,va,vc,vs,none,0, []⟩from⟨HX3.out,hO,hT.size⟩)
  have HX0:=zh hx0
  have HNB:=zh (show nb=bs.length/\nl=ls.length/\nv=vs.length from⟨hnb,hnl,hnv⟩)
  have c0:=zq0 HX3.out.box 0
  have c1:=zq0 HX3.out.box 1
  have c2:=zq0 HX3.out.box 2
  have c3:=zq0 HX3.out.box 3
  have c4:=zq0 HX3.out.box 4
  have c5:=zq0 HX3.out.box 5
  have c6:=zq0 HX3.out.box 6
  have f0:=zq1 HX3.out.box 0
  have f1:=zq1 HX3.out.box 1
  have f2:=zq1 HX3.out.box 2
  have f3:=zq1 HX3.out.box 3
  have f4:=zq1 HX3.out.box 4
  have f5:=zq1 HX3.out.box 5
  have f6:=zq1 HX3.out.box 6
  simp at c0 c1 c2 c3 c4 c5 c6
  clear hT hg hR hO hx0 hrt HRT hnb hnl hnv g0
  go_upto_region 4 with fail
  have HR4:=zh (((((((HR3.out.store 0 (.int .u64 sq) _ rfl).store 1 (.int .u64 lg) _ rfl).store 2 (.int .u64 nx) _ rfl).store 3 (.slice ba nb bc) _ rfl).store 4 (.slice la nl lc) _ rfl).store 5 (.slice va nv vc) _ rfl).store 6 (.slice none 0 0) #[.int .u64 sq, .int .u64 lg, .int .u64 nx, .slice ba nb bc, .slice la nl lc, .slice va nv vc, .slice none 0 0] rfl)
  obtain⟨u4,hu4⟩:=HR4.out.xs.name
  rw [<-hu4] at HR4 ⊢
  clear hu4 c0 c1 c2 c3 c4 c5 c6 f0 f1 f2 f3 f4 f5 f6 HR3 HX3
  have g0:=HC0.out u4 HR4.out.xs.below
  have HSH:=zh (zjs (w.heap.size+1) w.heap.size l1 u4 HR4.out.xs.read (by
   have h1:=rtP_w l x0 l1 HG.out
   have h2:=HN.out
   rw [List.length_cons] at h2
   omega))
  go_wp2_with fail
  refine HSH.out.mono ?_
  rintro e w5 ⟨hT,⟨hg,rfl⟩|⟨sh,l2,v,hg,rfl,⟨sa,sc,xs,rfl,hO,hOT,hW,hsy⟩,hR⟩⟩
  ·have HF:=zh (show¬ ∃x,OneIs (1::l) x from fun⟨x,h⟩=>by
    obtain⟨l',r0,l1',l2,sh,e,e2,e3, -⟩:=h.read
    cases e
    rw [HG.out] at e2
    cases e2
    rw [hg] at e3
    cases e3)
   have HT:=zh (hT.below HR4.out.xs.below (show w.heap.size<=w.heap.size+1 by omega) zr)
   clear hg hT
   go_wp2_with fail
   exact⟨rfl,HT.out, .inl ⟨HF.out,rfl⟩⟩
  have hWu:W2.heap.size<=u4.heap.size:=HR4.out.le
  have HR5:=zh (show XR w w5 l2 _ W2.heap.size ⟨sq,lg,nx,ba,bc,bs,la,lc,ls,va,vc,vs,sa,sc,xs⟩from⟨HR4.out.xs.next hT hR,(HR4.out.own.turn hT (by have:=HZ2.out;omega)).shelves (hO.mono hWu) (fun s hs l hl=>zq9 (hOT s hs l hl) hWu) hW,Nat.le_trans hWu hT.size⟩)
  have HXE:=zh (show(⟨sq,lg,nx,ba,bc,bs,la,lc,ls,va,vc,vs,sa,sc,xs⟩:Rv).says={x0 with sh:=sh } from by rw [<-HX0.out,<-hsy];rfl)
  have HGS:=zh hg
  have HFX:=zh (show FewX (⟨sq,lg,nx,ba,bc,bs,la,lc,ls,va,vc,vs,sa,sc,xs⟩:Rv).says from by
   rw [HXE.out]
   exact zkn HG.out hg (by have h2:=HN.out;rw [List.length_cons] at h2;omega))
  obtain⟨ns,hns⟩: ∃n,n=xs.length:=⟨_,rfl⟩
  rw [<-hns]
  have HNS:=zh hns
  have c6:=zq0 HR5.out.xs.box 6
  have f6:=zq1 HR5.out.xs.box 6
  simp at c6
  have HR6:=zh (HR5.out.store 6 (.slice sa ns sc) #[.int .u64 sq, .int .u64 lg, .int .u64 nx, .slice ba nb bc, .slice la nl lc, .slice va nv vc, .slice sa ns sc] rfl)
  have hrt:rtV ⟨sq,lg,nx,ba,bc,bs,la,lc,ls,va,vc,vs,sa,sc,xs⟩= .agg #[.int .u64 sq, .int .u64 lg, .int .u64 nx, .slice ba nb bc, .slice la nl lc, .slice va nv vc, .slice sa ns sc] :=by rw [hns,HNB.out.1,HNB.out.2.1,HNB.out.2.2]
  have HRV:=zh hrt
  clear hT hg hR hO hOT hW hsy hWu g0 HSH hns hrt
  go_upto_region 7 with fail
  obtain⟨u6,hu6⟩:=HR6.out.xs.name
  rw [<-hu6] at HR6 ⊢
  clear hu6 c6 f6
  have c0:=zq0 HR6.out.xs.box 0
  have c1:=zq0 HR6.out.xs.box 1
  have c2:=zq0 HR6.out.xs.box 2
  have c3:=zq0 HR6.out.xs.box 3
  have c4:=zq0 HR6.out.xs.box 4
  have c5:=zq0 HR6.out.xs.box 5
  have c6:=zq0 HR6.out.xs.box 6
  simp at c0 c1 c2 c3 c4 c5 c6
  by_cases hgood:GoodR ⟨sq,lg,nx,ba,bc,bs,la,lc,ls,va,vc,vs,sa,sc,xs⟩
  case neg=>
   have HP:=zh (yjt _ none u6 HR6.out.own.in_ HFX.out.small hgood)
   have HF:=zh (show¬ ∃x,OneIs (1::l) x from fun⟨x,h⟩=>by
    have e:=h.inv HG.out HGS.out
    rw [<-HXE.out] at e
    exact hgood ((zx5 _).2 (by rw [<-e];exact h.good)))
   rw [HRV.out] at HP
   clear hgood
   go_wp2_with fail
   refine HP.out.mono ?_
   rintro e w7 ⟨rfl,hb⟩
   have HB7:=zh (HR6.out.xs.below.trans (hb.mono HR6.out.xs.below.size))
   clear hb c0 c1 c2 c3 c4 c5 c6
   go_wp2_with(go_at_call 60;refine(zxh _).mono ?_;rintro e w' ⟨rfl,rfl⟩)
   exact⟨rfl,HB7.out, .inl ⟨HF.out,rfl⟩⟩
  have HP:=zh (yw0 _ u6 HR6.out.own.in_ hgood HFX.out)
  have HGD:=zh hgood
  rw [HRV.out] at HP
  obtain⟨wl,hwl⟩: ∃x,x=zqt (⟨sq,lg,nx,ba,bc,bs,la,lc,ls,va,vc,vs,sa,sc,xs⟩:Rv).says:=⟨_,rfl⟩
  rw [<-hwl] at HP
  have HWL:=zh hwl
  clear hgood hwl
  go_wp2_with fail
  refine HP.out.mono ?_
  rintro e w7 ⟨a7,n7,rfl,hn7,hE7,hb, -⟩
  have HB7:=zh (HR6.out.xs.below.trans (hb.mono HR6.out.xs.below.size))
  have HO7:=zh (HR6.out.own.ext hb)
  have HX7:=zh (zq4 HR6.out.xs.box hb (zq2 HR6.out.xs.box))
  have HEQ:=zh (zj1 a7 a n7 n7 n cap wl (1::l) w7 hE7 (HE.out.ext HB7.out) hn7.symm HN.out (fun e=>by
   rcases Nat.eq_zero_or_pos n7 with h|h
   ·exact h
   ·obtain⟨b',o',h1, -⟩:=hE7.get 0 (by omega)
    rw [e] at h1;cases h1) (fun e=>by rw [HLA.out] at e;cases e) (by rw [HWL.out];exact zyc _) HU.out)
  rw [HLA.out] at HEQ
  clear hb hn7 hE7 c0 c1 c2 c3 c4 c5 c6 HP
  go_wp2_with fail
  refine HEQ.out.mono ?_
  rintro e w' ⟨rfl,q,rfl,hq⟩
  cases q with
  |false=>
   have HF:=zh (show¬ ∃x,OneIs (1::l) x from fun⟨x,h⟩=>by
    have e:=h.inv HG.out HGS.out
    rw [<-HXE.out] at e
    have h2:=h.again
    rw [e,<-HWL.out] at h2
    have:=hq.2 h2
    cases this)
   clear hq
   go_wp2_with(go_at_call 60;refine(zxh _).mono ?_;rintro e w' ⟨rfl,rfl⟩)
   exact⟨rfl,HB7.out, .inl ⟨HF.out,rfl⟩⟩
  |true=>
   have HOI:=zh (show OneIs (1::l) (⟨sq,lg,nx,ba,bc,bs,la,lc,ls,va,vc,vs,sa,sc,xs⟩:Rv).says from⟨⟨l,x0,l1,l2,sh,rfl,HG.out,HGS.out,HXE.out⟩,HGD.out,by rw [<-HWL.out];exact hq.1 rfl⟩)
   clear hq
   have c0:=zq0 HX7.out 0
   have c1:=zq0 HX7.out 1
   have c2:=zq0 HX7.out 2
   have c3:=zq0 HX7.out 3
   have c4:=zq0 HX7.out 4
   have c5:=zq0 HX7.out 5
   have c6:=zq0 HX7.out 6
   have f0:=zq1 HX7.out 0
   have f1:=zq1 HX7.out 1
   have f2:=zq1 HX7.out 2
   have f3:=zq1 HX7.out 3
   have f4:=zq1 HX7.out 4
   have f5:=zq1 HX7.out 5
   have f6:=zq1 HX7.out 6
   simp at c0 c1 c2 c3 c4 c5 c6
   go_wp2_with(go_at_call 60;refine(zz1 _).mono ?_;rintro e w' ⟨rfl,rfl⟩)
   have HB0:=zh (show XB w w7 _ W2.heap.size ⟨sq,lg,nx,ba,bc,bs,la,lc,ls,va,vc,vs,sa,sc,xs⟩from⟨HX7.out,HB7.out,HO7.out⟩)
   have HB8:=zh (((((((HB0.out.store 0 (.int .u64 sq) rfl).store 1 (.int .u64 lg) rfl).store 2 (.int .u64 nx) rfl).store 3 (.slice ba nb bc) rfl).store 4 (.slice la nl lc) rfl).store 5 (.slice va nv vc) rfl).store 6 (.slice sa ns sc) rfl)
   obtain⟨Z,hZ⟩:=HB8.out.name
   rw [<-hZ] at HB8 ⊢
   clear hZ c0 c1 c2 c3 c4 c5 c6 f0 f1 f2 f3 f4 f5 f6
   have c0:=zq0 HB8.out.box 0
   have c1:=zq0 HB8.out.box 1
   have c2:=zq0 HB8.out.box 2
   have c3:=zq0 HB8.out.box 3
   have c4:=zq0 HB8.out.box 4
   have c5:=zq0 HB8.out.box 5
   have c6:=zq0 HB8.out.box 6
   simp at c0 c1 c2 c3 c4 c5 c6
   refine bodyPost_ret (v:= .agg #[.int .u64 sq, .int .u64 lg, .int .u64 nx, .slice ba nb bc, .slice la nl lc, .slice va nv vc, .slice sa ns sc]) (by simp [results,Tryz.results26,go_sem,c0,c1,c2,c3,c4,c5,c6]) rfl ?_
   exact⟨HB8.out.below, .inr ⟨⟨sq,lg,nx,ba,bc,bs,la,lc,ls,va,vc,vs,sa,sc,xs⟩,HOI.out,by rw [HRV.out],HB8.out.own.mono (by have:=HZ2.out;omega)⟩⟩
def zqu (Q:Option Rt)(ys:List Int)(x:Rt):Prop:=OneIs ys x\/ ∃q,Q=some q/\EdIs ys q x
theorem OneIs.one {ys:List Int}{x:Rt}(h:OneIs ys x): ∃l,ys=1::l:=by obtain⟨l,r0,l1,l2,sh,e, -⟩:=h.read;exact⟨l,e⟩
theorem EdIs.two {ys:List Int}{q x:Rt}(h:EdIs ys q x): ∃l,ys=2::l:=by obtain⟨l,l1,e, -⟩:=h.read;exact⟨l,e⟩
theorem zqu.uniq {Q:Option Rt}{ys:List Int}{x y:Rt}(hq: ∀q,Q=some q->GoodX q)(h:zqu Q ys x)(k:zqu Q ys y):x=y:=by
 rcases h with h|⟨q,rfl,h⟩
 ·rcases k with k|⟨q,rfl,k⟩
  ·exact h.uniq k
  ·obtain⟨l,e⟩:=h.one
   obtain⟨l',e'⟩:=k.two
   rw [e] at e';cases e'
 ·rcases k with k|⟨q',e,k⟩
  ·obtain⟨l,e⟩:=k.one
   obtain⟨l',e'⟩:=h.two
   rw [e] at e';cases e'
  ·cases e
   exact h.uniq (hq _ rfl) k
theorem zqu.good {Q:Option Rt}{ys:List Int}{x:Rt}(h:zqu Q ys x):GoodX x:=by
 rcases h with h|⟨q,_,h⟩
 ·exact h.good
 ·exact h.good
def zv8 (w:World)(P:Option Addr)(Q:Option Rv):Prop:=(P=none/\Q=none)\/ ∃q rb,P=some ⟨rb,0,none⟩/\Q=some q/\WasIn w q rb
def saysO (Q:Option Rv):Option Rt:=Q.map Rv.says
def zyk (ys:List Int)(Q:Option Rv)(w:World)(e:Ending)(w':World):Prop:=Below w.heap.size w w'/\(((¬ ∃x,zqu (saysO Q) ys x)/\e= .panicked NONE)\/ ∃r:Rv,zqu (saysO Q) ys r.says/\Stay w.heap.size w' Q r/\FewX r.says/\e= .returned (rtV r))
theorem yyk {ys:List Int}{x:Rt}(h:OneIs ys x)(hl:ys.length<1000000):FewX x:=by
 obtain⟨l,r0,l1,l2,sh,rfl,e1,e2,rfl⟩:=h.read
 exact zkn e1 e2 (by rw [List.length_cons] at hl;omega)
theorem one_any (P:Option Addr)(Q:Option Rv)(a:Option Addr)(cap n:Nat)(ys:List Int)(w:World)(hb:Byt w a ys)(hn:ys.length=n)(hu: ∀y∈ys,U8 y)(hl:n<500000)(hle:n<=cap)(h0:a=none->cap=0)(hq:zv8 w P Q):
  Calls Tryz.prog (26) #[.slice a n cap, .pointer P] w (zyk ys Q w):=by
 rcases hq with⟨rfl,rfl⟩|⟨q,rb,rfl,rfl,hw⟩
 ·refine(one_nil a cap n ys w hb hn hu (by omega) hle h0).mono ?_
  rintro e w' ⟨hB,⟨h1,rfl⟩|⟨r,h1,rfl,ho⟩⟩
  ·refine⟨hB, .inl ⟨?_,rfl⟩⟩
   rintro⟨x,h|⟨q,e, -⟩⟩
   ·exact h1 ⟨x,h⟩
   ·cases e
  ·exact⟨hB, .inr ⟨r, .inl h1,ho.stay none,yyk h1 (by omega),rfl⟩⟩
 ·by_cases hy:ys= [] \/ ∃l,ys=2::l
  ·refine(yyj a cap n ys q rb w hb hn hu hl hle h0 hy hw).mono ?_
   rintro e w' ⟨hB,⟨h1,rfl⟩|⟨r,h1,h2,h3,rfl⟩⟩
   ·refine⟨hB, .inl ⟨?_,rfl⟩⟩
    rintro⟨x,h|⟨q',e,h⟩⟩
    ·obtain⟨l,e⟩:=h.one
     rcases hy with rfl|⟨l',rfl⟩
     ·cases e
     ·cases e
    ·cases e
     exact h1 ⟨x,h⟩
   ·exact⟨hB, .inr ⟨r, .inr ⟨_,rfl,h1⟩,h2,h3,rfl⟩⟩
  ·refine(yyl ⟨rb,0,none⟩ a cap n ys w hb hn hu (by omega) hle h0 (fun l e=>hy (.inr ⟨l,e⟩))).mono ?_
   rintro e w' ⟨hB,⟨h1,rfl⟩|⟨r,h1,rfl,ho⟩⟩
   ·refine⟨hB, .inl ⟨?_,rfl⟩⟩
    rintro⟨x,h|⟨q',e,h⟩⟩
    ·exact h1 ⟨x,h⟩
    ·obtain⟨l,e⟩:=h.two
     exact hy (.inr ⟨l,e⟩)
   ·exact⟨hB, .inr ⟨r, .inl h1,ho.stay _,yyk h1 (by omega),rfl⟩⟩
end Go.Proofs.YtchcelodeepjdaaGreatDoor.Ln
