/- Lemmas and walks towards ManifestsFold. Conditions: each one tells its own. -/
import Derived.Test.YtchcelodeepjdaaGreatDoorMp
import Derived.Test.YtchcelodeepjdaaGreatDoorZZg
import Derived.Test.YtchcelodeepjdaaGreatDoorZP
namespace Go.Proofs.YtchcelodeepjdaaGreatDoor.Ln
open Go.RowKit Go.Shelf Go.Herb

def GoodX (x:Rt):Prop:=GoodT x.bs x.ls/\GoodS x
theorem zx5 (r:Rv):GoodR r↔GoodX r.says:=Iff.rfl
structure OneIs (ys:List Int)(x:Rt):Prop where
 read: ∃l r0 l1 l2 sh,ys=1::l/\rtP l=some (r0,l1)/\shP l1=some (sh,l2)/\x={r0 with sh:=sh }
 good:GoodX x
 again:zqt x=ys
theorem OneIs.uniq {ys:List Int}{x y:Rt}(h:OneIs ys x)(k:OneIs ys y):x=y:=by
 obtain⟨l,r0,l1,l2,sh,e1,e2,e3,rfl⟩:=h.read
 obtain⟨l',r0',l1',l2',sh',f1,f2,f3,rfl⟩:=k.read
 rw [e1] at f1
 cases f1
 rw [e2] at f2
 cases f2
 rw [e3] at f3
 cases f3
 rfl
structure FewX (x:Rt):Prop where
 bs:x.bs.length<1000000
 ls:x.ls.length<1000000
 vs:x.vs.length<1000000
 nums:x.bs.length+x.ls.length+(x.vs.map (fun v=>1+v.2.length)).sum<1000000
 sh:(x.sh.map (fun s=>1+(s.lv.map List.length).sum)).sum<1000000
theorem zkn {l l1 l2:List Int}{r0:Rt}{sh:List Sd}(h1:rtP l=some (r0,l1))(h2:shP l1=some (sh,l2))(hl:l.length<1000000):FewX {r0 with sh:=sh }:=by
 have e1:=rtP_w l r0 l1 h1
 have e2:=shP_w l1 sh l2 h2
 have e3:r0.vs.length<=(r0.vs.map (fun v=>1+v.2.length)).sum:=by
  have:=zjl (f:=fun _=>1) (g:=fun v:Int × Bh=>1+v.2.length) r0.vs (fun _ _=>by omega)
  rwa [zxm] at this
 refine⟨?_,?_,?_,?_,?_⟩
 ·show r0.bs.length<1000000;omega
 ·show r0.ls.length<1000000;omega
 ·show r0.vs.length<1000000;omega
 ·show r0.bs.length+r0.ls.length+(r0.vs.map (fun v=>1+v.2.length)).sum<1000000;omega
 ·show(sh.map (fun s=>1+(s.lv.map List.length).sum)).sum<1000000;omega
theorem FewX.small {r:Rv}(h:FewX r.says):zwn r:=by
 have hv:r.says.vs.length=r.vs.length:=Vx.zqk r.vs
 have hn:=h.nums
 have hs:=h.sh
 have e0:r.says.bs=r.bs:=rfl
 have e1:r.says.ls=r.ls:=rfl
 have e2:r.says.vs=Vx.vsOf r.vs:=rfl
 have e3:r.says.sh=r.sh.map Sv.says:=rfl
 rw [e0,e1,e2] at hn
 rw [e3] at hs
 have hlev: ∀s∈r.sh,(s.lv.map (fun l=>l.ts.length)).sum<1000000:=fun s hs'=>by
  have h1:=zke (f:=fun s:Sd=>1+(s.lv.map List.length).sum) (List.mem_map_of_mem (f:=Sv.says) hs')
  have h2:s.says.lv.map List.length=s.lv.map (fun l=>l.ts.length):=rfl
  rw [h2] at h1
  omega
 refine⟨h.bs,h.ls,by rw [<-hv];exact h.vs,?_,?_,?_,fun s hs' l hl=> ?_⟩
 ·unfold numsR
  have h1:(r.vs.flatMap (fun v:Vx.Vc=>v.ps.map (·.2))).length<=((Vx.vsOf r.vs).map (fun v=>1+v.2.length)).sum:=by
   rw [yqp]
   unfold Vx.vsOf
   rw [List.map_map]
   exact zjl r.vs (fun x _=>by simp only [Function.comp,List.length_map];omega)
  simp only [List.length_append,List.length_map] at h1 ⊢
  omega
 ·have h1:=zjl (f:=fun _=>1) (g:=fun s:Sd=>1+(s.lv.map List.length).sum) (r.sh.map Sv.says) (fun _ _=>by omega)
  rw [zxm,List.length_map] at h1
  omega
 ·unfold zx4
  rw [yqp]
  have h1:=zjl (f:=fun s:Sd=>(zjk s).length) (g:=fun s:Sd=>1+(s.lv.map List.length).sum) (r.sh.map Sv.says) (fun s _=>by
   show(zjk s).length<=_
   unfold zjk
   rw [List.length_map,List.length_flatten]
   omega)
  omega
 ·have h1:=hlev s hs'
  have h2:=zke (f:=fun l:Lv=>l.ts.length) hl
  omega
theorem name_len {s:ByteArray}(h:nameB s=true):0<s.size/\s.size<=12:=by
 unfold nameB at h
 simp only [Bool.and_eq_true,decide_eq_true_eq,Bool.not_eq_true'] at h
 obtain⟨⟨h1,h2⟩, -⟩:=h
 refine⟨?_,h2⟩
 rcases Nat.eq_zero_or_pos s.size with h|h
 ·exfalso
  have:s.toList= [] :=by
   rw [ByteArray.toList_eq]
   exact List.length_eq_zero_iff.1 (by rw [Array.length_toList];exact h)
  rw [this] at h1
  cases h1
 ·exact h
theorem zkc {w:World}{r:Rv}(hi:RtIn w r)(hg:GoodR r)(hf:FewX r.says):LaidR w r:=by
 have hv:r.vs.length=r.bs.length:=by
  have h1:=hg.2.pair.length_eq
  have e1:r.says.bs=r.bs:=rfl
  have e2:r.says.vs.length=r.vs.length:=Vx.zqk r.vs
  simp only [List.length_map] at h1
  rw [e1] at h1
  omega
 have hb:=hg.1.b12
 refine⟨hi,by omega,by have:=hg.1.nl;omega,by omega,fun x hx=> ?_,fun x hx=> ?_⟩
 ·have:=name_len (hg.1.named.names x hx)
  omega
 ·have hn:=hf.nums
  have e2:r.says.vs=Vx.vsOf r.vs:=rfl
  have h1:=zke (f:=fun v:Int × Bh=>1+v.2.length) (l:=r.says.vs) (x:=(x.line,x.ps)) (by rw [e2];exact List.mem_map_of_mem (f:=fun x:Vx.Vc=>(x.line,x.ps)) hx)
  simp only at h1
  omega
theorem zvp {r:Rv}(hg:GoodR r)(hf:FewX r.says):ykc r.sh:=fun s hs l hl=>by
 have hsm:=(FewX.small hf).lev s hs l hl
 have hmay:=hg.2.shelved.may s.says (List.mem_map_of_mem (f:=Sv.says) hs)
 refine⟨?_,fun t ht=> ?_⟩
 ·have h1:=hf.sh
  have h2:=zke (f:=fun s:Sd=>1+(s.lv.map List.length).sum) (List.mem_map_of_mem (f:=Sv.says) hs)
  have h3:=zke (f:=List.length) (List.mem_map_of_mem (f:=fun l:Lv=>l.ts) hl)
  have h4:s.says.lv=s.lv.map (fun l:Lv=>l.ts):=rfl
  have h5:r.says.sh=r.sh.map Sv.says:=rfl
  rw [h5] at h1
  rw [h4] at h2
  omega
 ·obtain⟨i,hi,rfl⟩:=List.getElem_of_mem hl
  obtain⟨k,hk,rfl⟩:=List.getElem_of_mem ht
  have h4:s.says.lv[i]? =some (s.lv[i].ts):=by
   show(s.lv.map (fun l:Lv=>l.ts))[i]? =_
   rw [List.getElem?_map,List.getElem?_eq_getElem hi]
   rfl
  have h5:=hmay.tabs i _ h4 k _ (List.getElem?_eq_getElem hk)
  have h6:=h5.low
  have h7:=h5.high
  unfold keyB at h6 h7
  simp only [Bool.and_eq_true,decide_eq_true_eq] at h6 h7
  exact⟨⟨by omega,h6.2⟩,⟨by omega,h7.2⟩⟩
theorem tbL_len {t:Tb}(h:TbW t)(h1:t.low.size<=32)(h2:t.high.size<=32):(tbL t).length<=104:=by
 have ub:U64 t.bytes:=by
  unfold U64
  simp [Lit.wf,IntKind.min,IntKind.max,IntKind.signed,IntKind.bits]
  have:=h.2.1
  omega
 have e1:=zjv h.1 ub
 have e2:=zv5 t.low (by omega)
 have e3:=zv5 t.high (by omega)
 unfold tbL
 rw [List.length_append,List.length_append]
 omega
theorem sum_mul {α:Type}(c:Nat)(f:α->Nat)(l:List α):(l.map (fun x=>c*f x)).sum=c*(l.map f).sum:=by
 induction l with
 |nil=>simp
 |cons a l ih=>simp only [List.map_cons,List.sum_cons,ih,Nat.mul_add]
theorem sdE_len {w:World}{s:Sv}(hs:SvOk w s)(hn: ∀l∈s.lv,l.ts.length<1000000/\ ∀t∈l.ts,(0<t.low.size/\t.low.size<=32)/\(0<t.high.size/\t.high.size<=32)):(sdE s).length<=104*(1+(s.lv.map (fun l=>l.ts.length)).sum):=by
 have hlv: ∀l∈s.lv,(lvE l).length<=10+104*l.ts.length:=fun l hl=>by
  have ho:LvOk w l:=by
   simp only [Sv.lv,List.mem_cons,List.not_mem_nil,or_false] at hl
   rcases hl with rfl|rfl|rfl
   ·exact hs.l0
   ·exact hs.l1
   ·exact hs.l2
  have h1:=zxv (zqs (n:=l.ts.length) (by have:=(hn l hl).1;omega))
  have h2:=zxt (f:=tbL) (M:=104) (l:=l.ts) (fun t ht=>tbL_len (ho.wf t ht) ((hn l hl).2 t ht).1.2 ((hn l hl).2 t ht).2.2)
  unfold lvE levL
  rw [List.length_append,zxa]
  omega
 have h0:=zxv hs.wf
 have a0:=hlv s.l0 (by simp [Sv.lv])
 have a1:=hlv s.l1 (by simp [Sv.lv])
 have a2:=hlv s.l2 (by simp [Sv.lv])
 rw [xq1,List.length_append,zxa]
 have e:s.lv= [s.l0,s.l1,s.l2] :=rfl
 rw [e]
 simp only [List.flatMap_cons,List.flatMap_nil,List.append_nil,List.length_append,List.map_cons,List.map_nil,List.sum_cons,List.sum_nil]
 omega
theorem yxa {w:World}{a:Option Addr}{r:Rv}(hs:ShIn w a r.sh)(hk:ykc r.sh)(hf:FewX r.says):(r.sh.flatMap sdE).length<104000000:=by
 have h1:=zjl (f:=fun s:Sv=>(sdE s).length) (g:=fun s:Sv=>104*(1+(s.lv.map (fun l=>l.ts.length)).sum)) r.sh (fun s hs'=>sdE_len (hs.ok s hs') (hk s hs'))
 rw [sum_mul 104 (fun s:Sv=>1+(s.lv.map (fun l=>l.ts.length)).sum)] at h1
 have h2:=hf.sh
 have h3:r.says.sh=r.sh.map Sv.says:=rfl
 rw [h3,List.map_map] at h2
 have h4:((fun s:Sd=>1+(s.lv.map List.length).sum)∘ Sv.says)=fun s:Sv=>1+(s.lv.map (fun l=>l.ts.length)).sum:=rfl
 rw [h4] at h2
 rw [yqp]
 omega
theorem zkp {w:World}{r:Rv}(h:LaidR w r):(headL r.says).length<250000000:=by
 have e1:=zxt (f:=brL) (M:=2000) (l:=r.bs) (fun x hx=>yzz (h.names x hx).2 (h.inn.brs.all x hx).2.1 (h.inn.brs.all x hx).2.2)
 have e2:=zxt (f:=lnL) (M:=20) (l:=r.ls) (fun x hx=>zjv (h.inn.lns.all x hx).1 (h.inn.lns.all x hx).2)
 have e3:=zxt (f:=vcL) (M:=20000020) (l:=Vx.vsOf r.vs) (fun x hx=>by
  obtain⟨y,hy,rfl⟩:=List.mem_map.1 hx
  exact xqg (h.pts y hy) (h.inn.vcs.wf y hy).1 (h.inn.vcs.wf y hy).2)
 rw [Vx.zqk] at e3
 have b1:=h.bs
 have b2:=h.ls
 have b3:=h.vs
 have n1:=zxw [r.seq,r.log,r.next,(r.bs.length:Int)] (by
  intro x hx
  simp only [List.mem_cons,List.not_mem_nil,or_false] at hx
  rcases hx with rfl|rfl|rfl|rfl
  ·exact h.inn.seq
  ·exact h.inn.log
  ·exact h.inn.next
  ·exact zqs (by omega))
 have n2:=zxv (zqs (n:=r.ls.length) (by omega))
 have n3:=zxv (zqs (n:=r.vs.length) (by omega))
 have m1: [r.seq,r.log,r.next,(r.bs.length:Int)].length=4:=rfl
 have f1:r.bs.length*2000<=100*2000:=Nat.mul_le_mul_right _ b1
 have f2:r.ls.length*20<=100*20:=Nat.mul_le_mul_right _ b2
 have f3:r.vs.length*20000020<=12*20000020:=Nat.mul_le_mul_right _ b3
 unfold headL Rv.says
 simp only [List.length_append,Vx.zqk,zxa]
 omega
theorem yw0 (r:Rv)(w:World)(hi:RtIn w r)(hg:GoodR r)(hf:FewX r.says):Calls Tryz.prog (17) #[rtV r, .pointer none] w (zkj (zqt r.says) w):=by
 have hl:=zkc hi hg hf
 have hk:=zvp hg hf
 have h1:=zkp hl
 have h2:=yxa hi.shs hk hf
 have hns:r.sh.length<1000000:=by
  have h1:=zjl (f:=fun _=>1) (g:=fun s:Sd=>1+(s.lv.map List.length).sum) (r.sh.map Sv.says) (fun _ _=>by omega)
  rw [zxm,List.length_map] at h1
  have:=hf.sh
  have h3:r.says.sh=r.sh.map Sv.says:=rfl
  rw [h3] at this
  omega
 have n3:=zxv (zqs (n:=r.sh.length) (by omega))
 refine zws r w hl hf.small hg ?_ (fun p acc u hL hal hb hp=> ?_) (by unfold zkf;omega)
 ·unfold zqt
  have e:r.says.sh=r.sh.map Sv.says:=rfl
  rw [e,yw6,zxa]
  simp only [List.length_cons,List.length_append]
  omega
 ·exact yk1 p acc r.sa r.sc r.sh.length r.sh w u hL hi.shs rfl hb hp hk hns (by unfold zkf at hal;omega)
set_option maxRecDepth 100000 in
theorem yjt (r:Rv)(P:Option Addr)(w:World)(hi:RtIn w r)(hs:zwn r)(hg: ¬GoodR r):Calls Tryz.prog (17) #[rtV r, .pointer P] w (fun e w'=>e= .returned (.tuple #[.slice none 0 0, .int .i64 4])/\Below w.heap.size w w'):=by
 obtain⟨nb,hnb⟩: ∃n,n=r.bs.length:=⟨_,rfl⟩
 obtain⟨nl,hnl⟩: ∃n,n=r.ls.length:=⟨_,rfl⟩
 obtain⟨nv,hnv⟩: ∃n,n=r.vs.length:=⟨_,rfl⟩
 obtain⟨ns,hns⟩: ∃n,n=r.sh.length:=⟨_,rfl⟩
 have hrt:rtV r= .agg #[.int .u64 r.seq, .int .u64 r.log, .int .u64 r.next, .slice r.ba nb r.bc, .slice r.la nl r.lc, .slice r.va nv r.vc, .slice r.sa ns r.sc] :=by rw [hnb,hnl,hnv,hns]
 obtain⟨W,hW⟩: ∃W:World,W=w.alloc (.cells #[.int .u64 r.seq, .int .u64 r.log, .int .u64 r.next, .slice r.ba nb r.bc, .slice r.la nl r.lc, .slice r.va nv r.vc, .slice r.sa ns r.sc] (32)):=⟨_,rfl⟩
 have hB:Below w.heap.size w W:=by rw [hW];exact zb.alloc zr _
 have HC:=zh ((zkk r W (hi.ext hB) hs).mono (show∀e w',zqy r W e w'->e= .returned (.int .i64 4)/\Below W.heap.size W w' from by
  rintro e w' ⟨n,rfl,⟨-,h⟩|⟨rfl, -⟩,hb⟩
  ·exact absurd h hg
  ·exact⟨rfl,hb⟩))
 have HB:=zh hB
 have HW:=zh hW
 rw [hrt] at HC ⊢
 rw [hW] at HC
 clear hi hs hg hB hW hrt hnb hnl hnv hns
 go_enter Tryz.func17,Tryz.ntmps17
 go_wp2_with fail
 refine HC.out.mono ?_
 rw [<-HW.out]
 rintro e w1 ⟨rfl,hb⟩
 have HB1:=zh (HB.out.trans (hb.mono HB.out.size))
 clear hb
 go_wp2_with fail
 go_ret2
 exact⟨rfl,HB1.out⟩
def BEqPost (xs ys:List Int)(w:World)(e:Ending)(w':World):Prop:=w=w'/\ ∃q:Bool,e= .returned (.bool q)/\(q=true↔xs=ys)
theorem zj1 (a b:Option Addr)(n c m d:Nat)(xs ys:List Int)(w:World)(hx:Byt w a xs)(hy:Byt w b ys)(hn:xs.length=n)(hm:ys.length=m)(ha:a=none->n=0)(hb:b=none->m=0)(ux: ∀y∈xs,U8 y)(uy: ∀y∈ys,U8 y):
  Calls Tryz.prog (64) #[.slice a n c, .slice b m d] w (BEqPost xs ys w):=by
 have h1:=zjx a n c xs w hx hn ha
 have h2:=zjx b m d ys w hy hm hb
 obtain⟨s,hs⟩: ∃s,s=strOf xs:=⟨_,rfl⟩
 obtain⟨t,ht⟩: ∃t,t=strOf ys:=⟨_,rfl⟩
 rw [<-hs] at h1
 rw [<-ht] at h2
 by_cases hst:s=t
 ·have HE:=zh (show xs=ys from yzo ux uy (by rw [<-hs,<-ht];exact hst))
  subst hst
  clear hs ht hx hy hn hm ha hb ux uy
  go_enter Tryz.func64,Tryz.ntmps64
  go_wp2_with fail
  go_ret
  exact⟨rfl,true,by simp,by simp [HE.out]⟩
 ·have HE:=zh (show xs≠ys from fun e=>hst (by rw [hs,ht,e]))
  have hne:s.toList≠t.toList:=fun e=>hst (by
   rw [ByteArray.toList_eq,ByteArray.toList_eq] at e
   cases s
   cases t
   exact congrArg ByteArray.mk (Array.toList_inj.1 e))
  have hd:(s.toList==t.toList)=false:=beq_eq_false_iff_ne.2 hne
  clear hne
  clear hs ht hx hy hn hm ha hb ux uy hst
  go_enter Tryz.func64,Tryz.ntmps64
  go_wp2_with fail
  go_ret
  exact⟨rfl,false,by simp [],by simp [HE.out]⟩
end Go.Proofs.YtchcelodeepjdaaGreatDoor.Ln

namespace Go.Proofs.YtchcelodeepjdaaGreatDoor.Ln
open Go.RowKit Go.Shelf Go.Herb

def yvm (ys:List Int)(w:World)(e:Ending)(w':World):Prop:=Below w.heap.size w w'/\(((¬ ∃x,OneIs ys x)/\e= .panicked NONE)\/ ∃r:Rv,OneIs ys r.says/\e= .returned (rtV r)/\RtOwn w.heap.size w' r)
theorem OneIs.inv {l l1 l2:List Int}{x r0:Rt}{sh:List Sd}(h:OneIs (1::l) x)(h1:rtP l=some (r0,l1))(h2:shP l1=some (sh,l2)):x={r0 with sh:=sh }:=by
 obtain⟨l',r0',l1',l2',sh',f1,f2,f3,rfl⟩:=h.read
 cases f1
 rw [h1] at f2
 cases f2
 rw [h2] at f3
 cases f3
 rfl
theorem RtOwn.mono {M M':Nat}{u:World}{r:Rv}(h:RtOwn M u r)(hm:M'<=M):RtOwn M' u r:=
 ⟨h.sq,h.lg,h.nx,zq9 h.ob hm,zq9 h.ol hm,zq9 h.ov hm,fun v hv=>zq9 (h.op v hv) hm,zq9 h.os hm,fun s hs l hl=>zq9 (h.ot s hs l hl) hm,h.wb,h.wl,h.wv,h.ws,h.lp⟩
theorem RtOwn.shelves {M:Nat}{u:World}{sq lg nx:Int}{ba la va sa:Option Addr}{bc lc vc sc:Nat}{bs:List Br}{ls:List Ln}{vs:List Vx.Vc}{xs:List Sv}(h:RtOwn M u ⟨sq,lg,nx,ba,bc,bs,la,lc,ls,va,vc,vs,none,0, []⟩)(h1:OwnSh M u (.slice sa xs.length sc) xs)(h2: ∀s∈xs,∀l∈s.lv,OwnT M u (lvV l) l.ts)(h3: ∀s∈xs,U64 s.line/\ ∀l∈s.lv,∀t∈l.ts,TbW t):RtOwn M u ⟨sq,lg,nx,ba,bc,bs,la,lc,ls,va,vc,vs,sa,sc,xs⟩:=
 ⟨h.sq,h.lg,h.nx,h.ob,h.ol,h.ov,h.op,h1,h2,h.wb,h.wl,h.wv,h3,h.lp⟩
theorem OwnSh.mono {M M':Nat}{u:World}{v:Value}{xs:List Sv}(h:OwnSh M u v xs)(hm:M'<=M):OwnSh M' u v xs:=zq9 h hm
structure XS (w u:World)(zs:List Int)(cs:Array Value):Prop where
 read:zqa u (w.heap.size+1) w.heap.size zs
 box:u.heap[w.heap.size]? =some (.cells cs (32) (0,0))
 below:Below w.heap.size w u
theorem XS.next {w u u':World}{zs zs':List Int}{cs:Array Value}(h:XS w u zs cs)(ht:TurnI (w.heap.size+1) u u')(hr:zqa u' (w.heap.size+1) w.heap.size zs'):XS w u' zs' cs:=
 ⟨hr,ht.kept _ _ h.box (by omega),ht.below h.below (by omega) zr⟩
theorem XS.store {w u:World}{zs:List Int}{cs:Array Value}(h:XS w u zs cs)(j:Nat)(v:Value)(cs':Array Value)(hc:cs.setIfInBounds j v=cs'):XS w (u.setCell ⟨w.heap.size,j,none⟩ v) zs cs':=
 ⟨h.read.set zr (by omega) v,by rw [<-hc];exact zq7 h.box v,Below.setCell h.below (p:=⟨w.heap.size,j,none⟩) (Nat.le_refl w.heap.size) v⟩
theorem XS.name {w u:World}{zs:List Int}{cs:Array Value}(_:XS w u zs cs): ∃Z,Z=u:=⟨u,rfl⟩
structure XR (w u:World)(zs:List Int)(cs:Array Value)(M:Nat)(r:Rv):Prop where
 xs:XS w u zs cs
 own:RtOwn M u r
 le:M<=u.heap.size
theorem XR.store {w u:World}{zs:List Int}{cs:Array Value}{M:Nat}{r:Rv}(h:XR w u zs cs M r)(j:Nat)(v:Value)(cs':Array Value)(hc:cs.setIfInBounds j v=cs'):XR w (u.setCell ⟨w.heap.size,j,none⟩ v) zs cs' M r:=⟨h.xs.store j v cs' hc,h.own.set h.xs.box v,by simpa [World.setCell] using h.le⟩
structure XB (w u:World)(cs:Array Value)(M:Nat)(r:Rv):Prop where
 box:u.heap[w.heap.size]? =some (.cells cs (32) (0,0))
 below:Below w.heap.size w u
 own:RtOwn M u r
theorem XB.store {w u:World}{cs:Array Value}{M:Nat}{r:Rv}(h:XB w u cs M r)(j:Nat)(v:Value)(hc:cs.setIfInBounds j v=cs):XB w (u.setCell ⟨w.heap.size,j,none⟩ v) cs M r:=
 ⟨by have:=zq7 (j:=j) h.box v;rwa [hc] at this,Below.setCell h.below (p:=⟨w.heap.size,j,none⟩) (Nat.le_refl w.heap.size) v,h.own.set h.box v⟩
theorem XB.name {w u:World}{cs:Array Value}{M:Nat}{r:Rv}(_:XB w u cs M r): ∃Z,Z=u:=⟨u,rfl⟩
set_option maxRecDepth 100000 in
set_option maxHeartbeats 4000000 in
theorem one_nil (a:Option Addr)(cap n:Nat)(ys:List Int)(w:World)(hb:Byt w a ys)(hn:ys.length=n)(hu: ∀y∈ys,U8 y)(hl:n<1000000)(hle:n<=cap)(h0:a=none->cap=0):
  Calls Tryz.prog (26) #[.slice a n cap, .pointer none] w (yvm ys w):=by
 obtain⟨W1,hW1⟩: ∃W:World,W=w.alloc (.cells #[.int .u64 0, .int .u64 0, .int .u64 0, .slice none 0 0, .slice none 0 0, .slice none 0 0, .slice none 0 0] (32)):=⟨_,rfl⟩
 have hB1:Below w.heap.size w W1:=by rw [hW1];exact zb.alloc zr _
 have hx1:W1.heap[w.heap.size]? =some (.cells #[.int .u64 0, .int .u64 0, .int .u64 0, .slice none 0 0, .slice none 0 0, .slice none 0 0, .slice none 0 0] (32) (0,0)):=by rw [hW1];exact zq3 rfl _
 have hz1:W1.heap.size=w.heap.size+1:=by rw [hW1];simp
 have HB1:=zh hB1
 have HX1:=zh hx1
 have HW1:=zh hW1
 have HZ1:=zh hz1
 have HE:=zh hb
 have HU:=zh hu
 have HN:=zh hn
 have H0:=zh h0
 have HLE:=zh hle
 cases ys with
 |nil=>
  have hn0:n=0:=hn.symm
  subst hn0
  have HF:=zh (show¬ ∃x,OneIs [] x from fun⟨x,h⟩=>by obtain⟨l,r0,l1,l2,sh,e, -⟩:=h.read;cases e)
  clear hb hn hu hle h0 hB1 hx1 hz1 hW1
  go_enter Tryz.func26,Tryz.ntmps26
  go_wp2_with(go_at_call 60;refine(zxh _).mono ?_;rintro e w' ⟨rfl,rfl⟩)
  exact⟨rfl,by rw [<-HW1.out];exact HB1.out, .inl ⟨HF.out,rfl⟩⟩
 |cons c l=>
  obtain⟨b,o,hla,hlb,hc⟩:=hb.get 0 (by simp)
  have hlb1:b<W1.heap.size:=by omega
  have g0:=(HB1.out.cell (p:=⟨b,_,none⟩) hlb).trans (hc 0 _ rfl)
  simp only [Nat.zero_mul,Nat.add_zero,List.getElem_cons_zero] at g0
  have i1:(n:Int)> 0:=by rw [<-hn,List.length_cons];omega
  have i2:decide ((0:Int)<(n:Int))=true:=decide_eq_true (by omega)
  have i3:(0:Int)<(n:Int):=by omega
  have i4:0<n:=by omega
  have HLA:=zh hla
  by_cases hc1:c=1
  case neg=>
   have d1:(c==1)=false:=beq_eq_false_iff_ne.2 hc1
   have HF:=zh (show¬ ∃x,OneIs (c::l) x from fun⟨x,h⟩=>by obtain⟨l',r0,l1,l2,sh,e, -⟩:=h.read;cases e;exact hc1 rfl)
   rw [hla]
   rw [hW1] at g0
   by_cases hc2:c=2
   ·have d2:(c==2)=true:=beq_iff_eq.2 hc2
    clear hb hn hu hle h0 hB1 hx1 hz1 hW1 hc hla hc1 hc2
    go_enter Tryz.func26,Tryz.ntmps26
    go_wp2_with(go_at_call 60;refine(zxh _).mono ?_;rintro e w' ⟨rfl,rfl⟩)
    exact⟨rfl,by rw [<-HW1.out];exact HB1.out, .inl ⟨HF.out,rfl⟩⟩
   ·have d2:(c==2)=false:=beq_eq_false_iff_ne.2 hc2
    clear hb hn hu hle h0 hB1 hx1 hz1 hW1 hc hla hc1 hc2
    go_enter Tryz.func26,Tryz.ntmps26
    go_wp2_with(go_at_call 60;refine(zxh _).mono ?_;rintro e w' ⟨rfl,rfl⟩)
    exact⟨rfl,by rw [<-HW1.out];exact HB1.out, .inl ⟨HF.out,rfl⟩⟩
  subst hc1
  obtain⟨a2,hs,hE2,h02,hp2⟩:=zx8 (k:=1) hb hn hle (by omega) h0
  obtain⟨W2,hW2⟩: ∃W:World,W=W1.alloc (.cells #[.slice a2 (n - 1) (cap - 1)] (124)):=⟨_,rfl⟩
  have hB2:Below W1.heap.size W1 W2:=by rw [hW2];exact zb.alloc zr _
  have hBW2:Below w.heap.size w W2:=hB1.trans (hB2.mono hB1.size)
  have hll:l.length=n - 1:=by rw [<-hn,List.length_cons];omega
  have HR2:=zh (show zqa W2 (w.heap.size+1) w.heap.size l from by
   refine⟨⟨a2,cap - 1,?_,?_,h02,by omega,fun _ ad had=> ?_⟩,fun y hy=>hu y (List.mem_cons_of_mem _ hy),by omega,by omega⟩
   ·rw [hll,hW2]
    exact zq3 (by rw [hW1];simp) _
   ·exact(show Byt w a2 l from hE2).ext hBW2
   ·obtain⟨ad',h4,h5⟩:=hp2 ad had
    rw [hla] at h4
    cases h4
    rw [h5]
    exact hlb)
  have HX2:=zh (show XS w W2 l _ from⟨HR2.out,zq4 hx1 hB2 (zq2 hx1),hBW2⟩)
  have HC0:=zh (show∀u,Below w.heap.size w u->u.cell? ⟨b,o,none⟩=some (.int .u8 1)from fun u hu=>by
   have:=(hu.cell (p:=⟨b,_,none⟩) hlb).trans (hc 0 _ rfl)
   simpa using this)
  have HRT:=zh (zy1 (w.heap.size+1) w.heap.size l W2 HR2.out (by omega))
  have hs': ∀W,(Instr.slice (24) (.slice a n cap) (some (.int .i64 1)) none none).run Tryz.prog W= .ok (.slice a2 (n - 1) (cap - 1)) W:=fun W=>by simpa using hs W
  have HBW2:=zh hBW2
  have HW2:=zh hW2
  have HZ2:=zh (show W2.heap.size=w.heap.size+2 from by rw [hW2];simp [hz1])
  rw [hla] at hs'
  rw [hla]
  rw [hW2,hW1] at HRT
  rw [hW1] at g0
  clear hb hn hu hle h0 hB1 hx1 hz1 hW1 hc hs hE2 h02 hp2 hW2 hB2 hBW2 hla hll
  go_enter Tryz.func26,Tryz.ntmps26
  go_wp2_with(go_at_call 60;refine(zz1 _).mono ?_;rintro e w' ⟨rfl,rfl⟩)
  refine HRT.out.mono ?_
  rw [<-HW1.out,<-HW2.out]
  rintro e w3 ⟨hT,⟨hg,rfl⟩|⟨x0,l1,v,hg,rfl,⟨r0,rfl,hO,hx0,hsa,hsc,hsh⟩,hR⟩⟩
  ·have HF:=zh (show¬ ∃x,OneIs (1::l) x from fun⟨x,h⟩=>by obtain⟨l',r0,l1,l2,sh,e,e2, -⟩:=h.read;cases e;rw [hg] at e2;cases e2)
   have HT:=zh (HX2.out.below.trans (hT.below zb (by omega) (by have:=HZ2.out;omega)))
   clear hg hT
   go_wp2_with fail
   exact⟨rfl,HT.out, .inl ⟨HF.out,rfl⟩⟩
  obtain⟨sq,lg,nx,ba,bc,bs,la,lc,ls,va,vc,vs,sa,sc,sh⟩:=r0
  simp only at hsa hsc hsh
  subst hsa hsc hsh
  obtain⟨nb,hnb⟩: ∃n,n=bs.length:=⟨_,rfl⟩
  obtain⟨nl,hnl⟩: ∃n,n=ls.length:=⟨_,rfl⟩
  obtain⟨nv,hnv⟩: ∃n,n=vs.length:=⟨_,rfl⟩
  have hrt:rtV ⟨sq,lg,nx,ba,bc,bs,la,lc,ls,va,vc,vs,none,0, []⟩= .agg #[.int .u64 sq, .int .u64 lg, .int .u64 nx, .slice ba nb bc, .slice la nl lc, .slice va nv vc, .slice none 0 0] :=by rw [hnb,hnl,hnv];rfl
  rw [hrt]
  have HX3:=zh (HX2.out.next hT hR)
  have HG:=zh hg
  have HR3:=zh (show XR w w3 l1 _ W2.heap.size ⟨sq,lg,nx,ba,bc,bs,la,lc,ls,va,vc,vs,none,0, []⟩from⟨HX3.out,hO,hT.size⟩)
  have HX0:=zh hx0
  have HNB:=zh (show nb=bs.length/\nl=ls.length/\nv=vs.length from⟨hnb,hnl,hnv⟩)
  have c0:=zq0 HX3.out.box 0
  have c1:=zq0 HX3.out.box 1
  have c2:=zq0 HX3.out.box 2
  have c3:=zq0 HX3.out.box 3
  have c4:=zq0 HX3.out.box 4
  have c5:=zq0 HX3.out.box 5
  have c6:=zq0 HX3.out.box 6
  have f0:=zq1 HX3.out.box 0
  have f1:=zq1 HX3.out.box 1
  have f2:=zq1 HX3.out.box 2
  have f3:=zq1 HX3.out.box 3
  have f4:=zq1 HX3.out.box 4
  have f5:=zq1 HX3.out.box 5
  have f6:=zq1 HX3.out.box 6
  simp at c0 c1 c2 c3 c4 c5 c6
  clear hT hg hR hO hx0 hrt HRT hnb hnl hnv g0
  go_upto_region 4 with fail
  have HR4:=zh (((((((HR3.out.store 0 (.int .u64 sq) _ rfl).store 1 (.int .u64 lg) _ rfl).store 2 (.int .u64 nx) _ rfl).store 3 (.slice ba nb bc) _ rfl).store 4 (.slice la nl lc) _ rfl).store 5 (.slice va nv vc) _ rfl).store 6 (.slice none 0 0) #[.int .u64 sq, .int .u64 lg, .int .u64 nx, .slice ba nb bc, .slice la nl lc, .slice va nv vc, .slice none 0 0] rfl)
  obtain⟨u4,hu4⟩:=HR4.out.xs.name
  rw [<-hu4] at HR4 ⊢
  clear hu4 c0 c1 c2 c3 c4 c5 c6 f0 f1 f2 f3 f4 f5 f6 HR3 HX3
  have g0:=HC0.out u4 HR4.out.xs.below
  have HSH:=zh (zjs (w.heap.size+1) w.heap.size l1 u4 HR4.out.xs.read (by
   have h1:=rtP_w l x0 l1 HG.out
   have h2:=HN.out
   rw [List.length_cons] at h2
   omega))
  go_wp2_with fail
  refine HSH.out.mono ?_
  rintro e w5 ⟨hT,⟨hg,rfl⟩|⟨sh,l2,v,hg,rfl,⟨sa,sc,xs,rfl,hO,hOT,hW,hsy⟩,hR⟩⟩
  ·have HF:=zh (show¬ ∃x,OneIs (1::l) x from fun⟨x,h⟩=>by
    obtain⟨l',r0,l1',l2,sh,e,e2,e3, -⟩:=h.read
    cases e
    rw [HG.out] at e2
    cases e2
    rw [hg] at e3
    cases e3)
   have HT:=zh (hT.below HR4.out.xs.below (show w.heap.size<=w.heap.size+1 by omega) zr)
   clear hg hT
   go_wp2_with fail
   exact⟨rfl,HT.out, .inl ⟨HF.out,rfl⟩⟩
  have hWu:W2.heap.size<=u4.heap.size:=HR4.out.le
  have HR5:=zh (show XR w w5 l2 _ W2.heap.size ⟨sq,lg,nx,ba,bc,bs,la,lc,ls,va,vc,vs,sa,sc,xs⟩from⟨HR4.out.xs.next hT hR,(HR4.out.own.turn hT (by have:=HZ2.out;omega)).shelves (hO.mono hWu) (fun s hs l hl=>zq9 (hOT s hs l hl) hWu) hW,Nat.le_trans hWu hT.size⟩)
  have HXE:=zh (show(⟨sq,lg,nx,ba,bc,bs,la,lc,ls,va,vc,vs,sa,sc,xs⟩:Rv).says={x0 with sh:=sh } from by rw [<-HX0.out,<-hsy];rfl)
  have HGS:=zh hg
  have HFX:=zh (show FewX (⟨sq,lg,nx,ba,bc,bs,la,lc,ls,va,vc,vs,sa,sc,xs⟩:Rv).says from by
   rw [HXE.out]
   exact zkn HG.out hg (by have h2:=HN.out;rw [List.length_cons] at h2;omega))
  obtain⟨ns,hns⟩: ∃n,n=xs.length:=⟨_,rfl⟩
  rw [<-hns]
  have HNS:=zh hns
  have c6:=zq0 HR5.out.xs.box 6
  have f6:=zq1 HR5.out.xs.box 6
  simp at c6
  have HR6:=zh (HR5.out.store 6 (.slice sa ns sc) #[.int .u64 sq, .int .u64 lg, .int .u64 nx, .slice ba nb bc, .slice la nl lc, .slice va nv vc, .slice sa ns sc] rfl)
  have hrt:rtV ⟨sq,lg,nx,ba,bc,bs,la,lc,ls,va,vc,vs,sa,sc,xs⟩= .agg #[.int .u64 sq, .int .u64 lg, .int .u64 nx, .slice ba nb bc, .slice la nl lc, .slice va nv vc, .slice sa ns sc] :=by rw [hns,HNB.out.1,HNB.out.2.1,HNB.out.2.2]
  have HRV:=zh hrt
  clear hT hg hR hO hOT hW hsy hWu g0 HSH hns hrt
  go_upto_region 7 with fail
  obtain⟨u6,hu6⟩:=HR6.out.xs.name
  rw [<-hu6] at HR6 ⊢
  clear hu6 c6 f6
  have c0:=zq0 HR6.out.xs.box 0
  have c1:=zq0 HR6.out.xs.box 1
  have c2:=zq0 HR6.out.xs.box 2
  have c3:=zq0 HR6.out.xs.box 3
  have c4:=zq0 HR6.out.xs.box 4
  have c5:=zq0 HR6.out.xs.box 5
  have c6:=zq0 HR6.out.xs.box 6
  simp at c0 c1 c2 c3 c4 c5 c6
  by_cases hgood:GoodR ⟨sq,lg,nx,ba,bc,bs,la,lc,ls,va,vc,vs,sa,sc,xs⟩
  case neg=>
   have HP:=zh (yjt _ none u6 HR6.out.own.in_ HFX.out.small hgood)
   have HF:=zh (show¬ ∃x,OneIs (1::l) x from fun⟨x,h⟩=>by
    have e:=h.inv HG.out HGS.out
    rw [<-HXE.out] at e
    exact hgood ((zx5 _).2 (by rw [<-e];exact h.good)))
   rw [HRV.out] at HP
   clear hgood
   go_wp2_with fail
   refine HP.out.mono ?_
   rintro e w7 ⟨rfl,hb⟩
   have HB7:=zh (HR6.out.xs.below.trans (hb.mono HR6.out.xs.below.size))
   clear hb c0 c1 c2 c3 c4 c5 c6
   go_wp2_with(go_at_call 60;refine(zxh _).mono ?_;rintro e w' ⟨rfl,rfl⟩)
   exact⟨rfl,HB7.out, .inl ⟨HF.out,rfl⟩⟩
  have HP:=zh (yw0 _ u6 HR6.out.own.in_ hgood HFX.out)
  have HGD:=zh hgood
  rw [HRV.out] at HP
  obtain⟨wl,hwl⟩: ∃x,x=zqt (⟨sq,lg,nx,ba,bc,bs,la,lc,ls,va,vc,vs,sa,sc,xs⟩:Rv).says:=⟨_,rfl⟩
  rw [<-hwl] at HP
  have HWL:=zh hwl
  clear hgood hwl
  go_wp2_with fail
  refine HP.out.mono ?_
  rintro e w7 ⟨a7,n7,rfl,hn7,hE7,hb, -⟩
  have HB7:=zh (HR6.out.xs.below.trans (hb.mono HR6.out.xs.below.size))
  have HO7:=zh (HR6.out.own.ext hb)
  have HX7:=zh (zq4 HR6.out.xs.box hb (zq2 HR6.out.xs.box))
  have HEQ:=zh (zj1 a7 a n7 n7 n cap wl (1::l) w7 hE7 (HE.out.ext HB7.out) hn7.symm HN.out (fun e=>by
   rcases Nat.eq_zero_or_pos n7 with h|h
   ·exact h
   ·obtain⟨b',o',h1, -⟩:=hE7.get 0 (by omega)
    rw [e] at h1;cases h1) (fun e=>by rw [HLA.out] at e;cases e) (by rw [HWL.out];exact zyc _) HU.out)
  rw [HLA.out] at HEQ
  clear hb hn7 hE7 c0 c1 c2 c3 c4 c5 c6 HP
  go_wp2_with fail
  refine HEQ.out.mono ?_
  rintro e w' ⟨rfl,q,rfl,hq⟩
  cases q with
  |false=>
   have HF:=zh (show¬ ∃x,OneIs (1::l) x from fun⟨x,h⟩=>by
    have e:=h.inv HG.out HGS.out
    rw [<-HXE.out] at e
    have h2:=h.again
    rw [e,<-HWL.out] at h2
    have:=hq.2 h2
    cases this)
   clear hq
   go_wp2_with(go_at_call 60;refine(zxh _).mono ?_;rintro e w' ⟨rfl,rfl⟩)
   exact⟨rfl,HB7.out, .inl ⟨HF.out,rfl⟩⟩
  |true=>
   have HOI:=zh (show OneIs (1::l) (⟨sq,lg,nx,ba,bc,bs,la,lc,ls,va,vc,vs,sa,sc,xs⟩:Rv).says from⟨⟨l,x0,l1,l2,sh,rfl,HG.out,HGS.out,HXE.out⟩,HGD.out,by rw [<-HWL.out];exact hq.1 rfl⟩)
   clear hq
   have c0:=zq0 HX7.out 0
   have c1:=zq0 HX7.out 1
   have c2:=zq0 HX7.out 2
   have c3:=zq0 HX7.out 3
   have c4:=zq0 HX7.out 4
   have c5:=zq0 HX7.out 5
   have c6:=zq0 HX7.out 6
   have f0:=zq1 HX7.out 0
   have f1:=zq1 HX7.out 1
   have f2:=zq1 HX7.out 2
   have f3:=zq1 HX7.out 3
   have f4:=zq1 HX7.out 4
   have f5:=zq1 HX7.out 5
   have f6:=zq1 HX7.out 6
   simp at c0 c1 c2 c3 c4 c5 c6
   go_wp2_with(go_at_call 60;refine(zz1 _).mono ?_;rintro e w' ⟨rfl,rfl⟩)
   have HB0:=zh (show XB w w7 _ W2.heap.size ⟨sq,lg,nx,ba,bc,bs,la,lc,ls,va,vc,vs,sa,sc,xs⟩from⟨HX7.out,HB7.out,HO7.out⟩)
   have HB8:=zh (((((((HB0.out.store 0 (.int .u64 sq) rfl).store 1 (.int .u64 lg) rfl).store 2 (.int .u64 nx) rfl).store 3 (.slice ba nb bc) rfl).store 4 (.slice la nl lc) rfl).store 5 (.slice va nv vc) rfl).store 6 (.slice sa ns sc) rfl)
   obtain⟨Z,hZ⟩:=HB8.out.name
   rw [<-hZ] at HB8 ⊢
   clear hZ c0 c1 c2 c3 c4 c5 c6 f0 f1 f2 f3 f4 f5 f6
   have c0:=zq0 HB8.out.box 0
   have c1:=zq0 HB8.out.box 1
   have c2:=zq0 HB8.out.box 2
   have c3:=zq0 HB8.out.box 3
   have c4:=zq0 HB8.out.box 4
   have c5:=zq0 HB8.out.box 5
   have c6:=zq0 HB8.out.box 6
   simp at c0 c1 c2 c3 c4 c5 c6
   refine bodyPost_ret (v:= .agg #[.int .u64 sq, .int .u64 lg, .int .u64 nx, .slice ba nb bc, .slice la nl lc, .slice va nv vc, .slice sa ns sc]) (by simp [results,Tryz.results26,go_sem,c0,c1,c2,c3,c4,c5,c6]) rfl ?_
   exact⟨HB8.out.below, .inr ⟨⟨sq,lg,nx,ba,bc,bs,la,lc,ls,va,vc,vs,sa,sc,xs⟩,HOI.out,by rw [HRV.out],HB8.out.own.mono (by have:=HZ2.out;omega)⟩⟩
end Go.Proofs.YtchcelodeepjdaaGreatDoor.Ln

namespace Go.Proofs.YtchcelodeepjdaaGreatDoor.Ln
open Go.RowKit Go.Shelf Go.Herb

set_option maxRecDepth 100000 in
theorem yj1 (a:Option Addr)(cap n:Nat)(xs:List Sv)(w:World)(hE:Els shc 4 w a xs)(hn:xs.length=n)(hz:a=none->cap=0)(hn1:n<1000000):
  Calls Tryz.prog (43) #[.slice a n cap] w fun e w'=> ∃v,e= .returned v/\OwnSh w.heap.size w' v xs/\Below w.heap.size w w':=by
 cases a with
 |none=>
  have h0:xs= [] :=by
   cases xs with
   |nil=>rfl
   |cons x xs=>obtain⟨b,o,h,_⟩:=hE.get 0 (by simp);cases h
  subst h0
  rw [hz rfl,<-hn]
  have qT: ∀(w:World) (a:Option Addr) (l c:Nat),(binOp .eql (30) (.slice a l c) (.slice none 0 0)).run Tryz.prog w= .ok (.bool a.isNone) w:=fun w a l c=>Lib.run_eql_slice_nil w _ _ a l c 0 0 Tryz.underlying30
  clear hE hn hz hn1
  go_enter Tryz.func43,Tryz.ntmps43
  go_wp2_with fail
  go_ret
  exact⟨_,rfl,World.ownsRow_nil _ _ _ _,zb⟩
 |some ad=>
  obtain⟨W,hW⟩: ∃W:World,W=w.alloc (.cells #[] (57)):=⟨_,rfl⟩
  have hB:Below w.heap.size w W:=by rw [hW];exact zb.alloc zr _
  have hx:W.heap[w.heap.size]? =some (.cells #[] (57) (0,0)):=by rw [hW];exact zq3 rfl _
  have hO:OwnSh w.heap.size W (.slice (some ⟨w.heap.size,0,none⟩) 0 0) [] :=⟨rfl, .inr ⟨w.heap.size,0, #[],rfl,zr,hx,zr,Nat.zero_le _,rfl,rfl⟩⟩
  obtain⟨v',w',hr,h2,h3⟩:=zk6 W w.heap.size _ [] (some ad) cap n xs hn hO (hE.ext hB) (by simp) hn1 (fun h=>by cases h) hB.size (30)
  have HE:=zh (show OwnSh w.heap.size w' v' xs/\Below w.heap.size w w' from⟨by simpa using h2,hB.grown h3 hB.size (fun k e=>by cases e;exact zr)⟩)
  rw [hW] at hr
  have qT: ∀(w:World) (a:Option Addr) (l c:Nat),(binOp .eql (30) (.slice a l c) (.slice none 0 0)).run Tryz.prog w= .ok (.bool a.isNone) w:=fun w a l c=>Lib.run_eql_slice_nil w _ _ a l c 0 0 Tryz.underlying30
  clear hW hB hx hO h2 h3 hE hn hz
  go_enter Tryz.func43,Tryz.ntmps43
  go_wp2_with(at_builtin;refine Lib.wpList_append_run _ rfl _ _ _ _ rfl _ _ rfl rfl _ _ hr ?_)
  go_ret
  exact⟨_,rfl,HE.out⟩
theorem zyf (F:Value)(w:World):Calls Tryz.prog (80) #[.slice none 0 0,F] w fun e w'=>e= .returned (.int .i64 (-1))/\w'=w:=by
 go_enter Tryz.func80,Tryz.ntmps80
 go_wp2_with fail
 refine wp_loop_rounds 1 ?_
 rw [rounds_succ]
 go_wp2_with fail
 go_ret
 exact⟨rfl,rfl⟩
theorem zvi (F:Value)(w:World):Calls Tryz.prog (42) #[.slice none 0 0,F] w fun e w'=>e= .returned (.slice none 0 0)/\w'=w:=by
 go_enter Tryz.func42,Tryz.ntmps42
 go_wp2_with(go_at_call 80;refine(zyf _ _).mono ?_;rintro e w1 ⟨rfl,rfl⟩)
 go_ret
 exact⟨rfl,rfl⟩
def yka (B:Nat)(ls:List Sv)(p:Sv->Bool)(w:World)(e:Ending)(w':World):Prop:=
 ∃v,e= .returned v/\OwnSh B w' v (ls.filter (fun x=> !p x))/\Below B w w'
theorem yj4 (B kb n:Nat)(v:Value)(p:Sv->Bool)(ls:List Sv)(w:World)(ho:OwnSh B w v ls)(hB:B<=w.heap.size)(hn:ls.length=n)(hn1:n<1000000)(hp: ∀h,B<=h->PredS h kb ls p w):
  Calls Tryz.prog (42) #[v, .func (.func (44)) #[] #[.pointer (some ⟨kb,0,none⟩)]] w (yka B ls p w):=by
 obtain⟨a',c',e1,e2,hEls⟩:=zq6 zqe ho
 obtain⟨hl,⟨rfl,h0⟩|⟨g,cap,cur,rfl,hg,hh,hle,hm,hsz,htk⟩⟩:=ho
 ·refine(zvi _ w).mono ?_
  rintro e w' ⟨rfl,rfl⟩
  have h1:ls= [] :=List.eq_nil_of_length_eq_zero h0
  subst h1
  exact⟨_,rfl,World.ownsRow_nil _ _ _ _,zb⟩
 ·subst hn
  injection e1 with e3 e4 e5
  subst e3 e5
  have hR:cur=(ls.flatMap shc++cur.toList.drop (ls.length*4)).toArray:=by
   apply Array.toList_inj.1
   rw [List.toList_toArray,<-htk,List.take_append_drop]
  have hR2:(cur.toList.drop (ls.length*4)).length=cap*4 - ls.length*4:=by rw [List.length_drop];simp [hsz]
  rw [hR] at hh
  refine(zvh g kb ls.length p ls w cap _ hh hEls hle rfl hn1 (hp g hg)).mono ?_
  rintro e w' ⟨R,hRl,rfl,hh2,hT⟩
  have hf:(ls.filter (fun x=> !p x)).length<=ls.length:=List.length_filter_le _ _
  refine⟨_,rfl,⟨by rw [zq8 zqe], .inr ⟨g,cap,_,rfl,hg,hh2,by omega,hm,?_,?_⟩⟩,hT.below zb hg hB⟩
  ·simp only [List.size_toArray,List.length_append,zq8 zqe]
   omega
  ·simp [zq8 zqe]
end Go.Proofs.YtchcelodeepjdaaGreatDoor.Ln
