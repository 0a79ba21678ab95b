/- Lemmas and walks towards ManifestsFold. Conditions: each one tells its own. -/
import Derived.Test.YtchcelodeepjdaaGreatDoorMp
import Derived.Test.YtchcelodeepjdaaGreatDoorZZ8
import Derived.Test.YtchcelodeepjdaaGreatDoorZZ2
namespace Go.Proofs.YtchcelodeepjdaaGreatDoor.Ln
open Go.RowKit Go.Shelf Go.Herb
theorem byt_rng {y:Int}(h:U8 y):0<=y/\y<256:=h
theorem zzu {b:Nat}{A u:World}(h:TurnI b A u)(j:Nat)(v:Value):TurnI b A (u.setCell ⟨b,j,none⟩ v):=h.trans (TurnI.setCell v)
theorem toL_inj {s t:ByteArray}:s.toList=t.toList↔s=t:=by
 constructor
 ·intro h
  rw [ByteArray.toList_eq,ByteArray.toList_eq] at h
  cases s;cases t
  simp only [ByteArray.mk.injEq] at h ⊢
  exact Array.toList_inj.1 h
 ·rintro rfl;rfl
theorem byt_zero {u:World}{a:Option Addr}{zs:List Int}{B:Nat}{t:TypeId}{fr:Nat × Nat}(h:Byt u a zs)(hz:zs≠ [])(hB:u.heap[B]? =some (.cells #[.int .u64 0, .int .u64 0, .int .u64 0, .slice none 0 0, .slice none 0 0, .slice none 0 0, .slice none 0 0] t fr))(ad:Addr)(had:a=some ad):ad.block≠B:=by
 obtain⟨b,o,ha,hlt,hc⟩:=h.get 0 (List.length_pos_iff.2 hz)
 rw [ha] at had
 cases had
 intro e
 have e1:b=B:=e
 subst e1
 have h1:=hc 0 _ rfl
 rw [zq0 hB] at h1
 simp only [Nat.zero_mul,Nat.add_zero] at h1
 match o,h1 with
 |0,h1=>cases h1
 |1,h1=>cases h1
 |2,h1=>cases h1
 |3,h1=>cases h1
 |4,h1=>cases h1
 |5,h1=>cases h1
 |6,h1=>cases h1
 |o+7,h1=>simp at h1
theorem yvd {p:Nat}{A u u':World}(h:TurnI p A u)(hb:Below A.heap.size u u'):TurnI p A u':=
 ⟨hb.os.trans h.os,hb.tape.trans h.tape,hb.output.trans h.output,Nat.le_trans h.size hb.size,fun k o ho hk=>(hb.block k (zq2 ho)).trans (h.kept k o ho hk)⟩
theorem yvb {f:Bool}{u u':World}{p B M:Nat}{zs:List Int}(h:TkAt f u p B zs)(hp:p<M)(hb:Below M u u'):TkAt f u' p B zs:=
 (takeK f).kept h (fun k o ho hk=>(hb.block k (by have:=h.low;omega)).trans ho)
theorem els_nu9 {M k c:Nat}{u:World}{a:Option Addr}{gs:List Int}(h:Vx.OwnU M u (.slice a k c) gs):Els (fun x:Int=> [.int .u64 x]) 1 u a gs:=Vx.zx3 (enc:=fun x:Int=> [.int .u64 x]) (fun _=>rfl) h
theorem shin_own {M n c:Nat}{u:World}{a:Option Addr}{xs:List Sv}(h1:OwnSh M u (.slice a n c) xs)(h2: ∀s∈xs,∀l∈s.lv,OwnT M u (lvV l) l.ts)(h3: ∀s∈xs,U64 s.line/\ ∀l∈s.lv,∀t∈l.ts,TbW t):ShIn u a xs:=⟨Vx.zx3 zqe h1,fun s hs=>by
 have hlv: ∀l∈s.lv,LvOk u l:=fun l hl'=>zv2 (h2 s hs l hl') ((h3 s hs).2 l hl')
 exact⟨hlv _ (by simp [Sv.lv]),hlv _ (by simp [Sv.lv]),hlv _ (by simp [Sv.lv]),(h3 s hs).1⟩⟩
theorem wt_len {q:Rv}{N:Nat}(h:(q.says.sh.map (fun s=>1+(s.lv.map List.length).sum)).sum<=N):q.sh.length<=N:=by
 have h1:=zjl (f:=fun _=>1) (g:=fun s:Sd=>1+(s.lv.map List.length).sum) q.says.sh (fun _ _=>by omega)
 rw [zxm] at h1
 have e:q.says.sh=q.sh.map Sv.says:=rfl
 rw [e,List.length_map] at h1
 rw [e] at h
 omega
set_option maxRecDepth 100000 in
set_option maxHeartbeats 8000000 in
theorem yq1 (P:Option Addr)(Q:Option Rv)(a:Option Addr)(cap n:Nat)(c:Int)(l:List Int)(w:World)(hb:Byt w a (c::l))(hn:(c::l).length=n)(hu: ∀y∈c::l,U8 y)(hl:n<100000)(hle:n<=cap)(h0:a=none->cap=0)(hc:c=1\/(c=2/\ ∃q rb,P=some ⟨rb,0,none⟩/\Q=some q/\WasIn w q rb/\zjj q.says)):
  Calls Tryz.prog (27) #[.slice a n cap, .pointer P] w (zwz (c::l) Q w):=by
 obtain⟨W1,hW1⟩: ∃W:World,W=w.alloc (.cells #[.int .u64 0, .int .u64 0, .int .u64 0, .slice none 0 0, .slice none 0 0, .slice none 0 0, .slice none 0 0] (32)):=⟨_,rfl⟩
 have hB1:Below w.heap.size w W1:=by rw [hW1];exact zb.alloc zr _
 have hx1:W1.heap[w.heap.size]? =some (.cells #[.int .u64 0, .int .u64 0, .int .u64 0, .slice none 0 0, .slice none 0 0, .slice none 0 0, .slice none 0 0] (32) (0,0)):=by rw [hW1];exact zq3 rfl _
 have hz1:W1.heap.size=w.heap.size+1:=by rw [hW1];simp
 obtain⟨b,o,hla,hlb,hcc⟩:=hb.get 0 (by simp)
 have HCC:=zh (show∀u,Below w.heap.size w u->u.cell? ⟨b,o,none⟩=some (.int .u8 c)from fun u hu=>by
  have:=(hu.cell (p:=⟨b,_,none⟩) hlb).trans (hcc 0 _ rfl)
  simpa using this)
 have HE:=zh hb
 have HN:=zh hn
 have HU:=zh hu
 have HC:=zh hc
 have HL:=zh hl
 have HBLT:=zh hlb
 have hnp:0<n:=by rw [<-hn,List.length_cons];omega
 obtain⟨a2,hs,hE2,h02,hp2⟩:=zx8 (k:=1) hb hn hle (by omega) h0
 have hs': ∀W,(Instr.slice (24) (.slice a n cap) (some (.int .i64 1)) none none).run Tryz.prog W= .ok (.slice a2 (n - 1) (cap - 1)) W:=fun W=>by simpa using hs W
 obtain⟨W2,hW2⟩: ∃W:World,W=W1.alloc (.cells #[.slice a2 (n - 1) (cap - 1), .bool false] (128)):=⟨_,rfl⟩
 have hB2:Below W1.heap.size W1 W2:=by rw [hW2];exact zb.alloc zr _
 have hBW2:Below w.heap.size w W2:=hB1.trans (hB2.mono hB1.size)
 have hll:l.length=n - 1:=by rw [<-hn,List.length_cons];omega
 obtain⟨fz,hfz⟩: ∃fz:Bool,false=fz:=⟨_,rfl⟩
 have HFZ:=zh hfz
 have HR2:=zh (show TkAt fz W2 (w.heap.size+1) w.heap.size l from by
  rw [<-hfz]
  refine⟨⟨a2,cap - 1,?_,(show Byt w a2 l from hE2).ext hBW2,h02,by omega,fun _ ad had=> ?_⟩,fun y hy=>hu y (List.mem_cons_of_mem _ hy),by omega,by omega⟩
  ·rw [hll,hW2]
   exact zq3 hz1.symm _
  ·obtain⟨ad',h4,h5⟩:=hp2 ad had
   rw [hla] at h4
   cases h4
   rw [h5]
   exact hlb)
 have HRES2:=zh (zq4 hx1 hB2 (zq2 hx1))
 have HBW2:=zh hBW2
 have HZ2:=zh (show W2.heap.size=w.heap.size+2 from by rw [hW2];simp [hz1])
 have HRT:=zh (yzr fz (w.heap.size+1) w.heap.size l W2 HR2.out (by omega))
 have HLL:=zh (show l.length<100000 from by omega)
 have HW2:=zh hW2
 have HB1:=zh hB1
 have HW1:=zh hW1
 rw [hla] at hs'
 subst hla
 clear hfz hb hn hu hle h0 hcc hs hE2 h02 hp2 hll hB2 hBW2 hx1 hc hB1 hlb
 go_enter Tryz.func27,Tryz.ntmps27
 go_upto_region 1 with fail
 rw [<-hW1]
 clear hW1
 go_cut [37] (fun v37 wx=>v37= .bool false/\W1=wx)
 case first=>
  have g0:=HCC.out W1 HB1.out
  have i0:((n:Int)==0)=false:=beq_eq_false_iff_ne.2 (by omega)
  have i1:(0:Int)<(n:Int):=by omega
  rcases HC.out with rfl|⟨rfl,q,rb,rfl, -, -, -⟩
  ·clear HC
   go_wp2_with fail
   go_meet
   exact⟨rfl,rfl⟩
  ·clear HC
   go_wp2_with fail
   go_meet
   exact⟨rfl,rfl⟩
 case rest=>
  obtain⟨rfl,hcw⟩:=hcut
  subst hcw
  have i1:(0:Int)<(n:Int):=by omega
  rw [hW2] at HRT
  rw [<-hz1] at HRT
  have HZ1:=zh hz1
  clear hW2 hz1
  go_wp2_with fail
  refine HRT.out.mono ?_
  rw [HZ1.out,<-HW2.out]
  rintro e w3 ⟨hT,f3,z3,x0,v,rfl,⟨r0,rfl,hO,hx0,hsa,hsc,hsh⟩,hR,hle3,hg3,hb3⟩
  obtain⟨sq,lg,nx,ba,bc,bs,la,lc,ls,va,vc,vs,sa,sc,sh⟩:=r0
  simp only at hsa hsc hsh
  subst hsa hsc hsh
  obtain⟨nb,hnb⟩: ∃n,n=bs.length:=⟨_,rfl⟩
  obtain⟨nl,hnl⟩: ∃n,n=ls.length:=⟨_,rfl⟩
  obtain⟨nv,hnv⟩: ∃n,n=vs.length:=⟨_,rfl⟩
  have hrt:rtV ⟨sq,lg,nx,ba,bc,bs,la,lc,ls,va,vc,vs,none,0, []⟩= .agg #[.int .u64 sq, .int .u64 lg, .int .u64 nx, .slice ba nb bc, .slice la nl lc, .slice va nv vc, .slice none 0 0] :=by rw [hnb,hnl,hnv];rfl
  rw [hrt]
  have HNB:=zh (show nb=bs.length/\nl=ls.length/\nv=vs.length from⟨hnb,hnl,hnv⟩)
  have HG3:=zh (And.intro hg3 hb3)
  have HX0:=zh hx0
  have HLE3:=zh hle3
  obtain⟨tb,htb⟩: ∃t,t=w3.heap.size:=⟨_,rfl⟩
  obtain⟨W4,hW4⟩: ∃W:World,W=w3.alloc (.cells #[.int .u64 sq, .int .u64 lg, .int .u64 nx, .slice ba nb bc, .slice la nl lc, .slice va nv vc, .slice none 0 0] (32)):=⟨_,rfl⟩
  have hB4:Below w3.heap.size w3 W4:=by rw [hW4];exact zb.alloc zr _
  have hz2:=HZ2.out
  have hs3:=hT.size
  have HT4:=zh (show TkSt w W4 f3 z3 tb #[.int .u64 sq, .int .u64 lg, .int .u64 nx, .slice ba nb bc, .slice la nl lc, .slice va nv vc, .slice none 0 0] ⟨sq,lg,nx,ba,bc,bs,la,lc,ls,va,vc,vs,none,0, []⟩from by
   refine⟨(takeK f3).ext hR hB4,zq4 (hT.kept _ _ HRES2.out (by omega)) hB4 (Nat.lt_of_lt_of_le (by omega) hs3),?_,by rw [hW4,htb];exact zq3 rfl _,by omega,?_⟩
   ·exact(hT.below HBW2.out (by omega) zr).trans (hB4.mono (by omega))
   ·rw [<-hz2]
    exact hO.ext hB4)
  have HTB:=zh htb
  clear hT hO hR hx0 hle3 hg3 hb3 hrt hnb hnl hnv hz2 hs3 hB4 HRT htb
  have HW4:=zh hW4
  go_upto_region 5 with fail
  rw [<-hW4,<-HTB.out]
  clear hW4
  have g0:=HCC.out W4 HT4.out.below
  go_upto_if 48 with fail
  clear g0
  go_cut [] (fun wx=> ∃(X:World) (fl:Bool) (zs:List Int) (r:Rv),X=wx/\Hid (OneSt w (c::l) c P Q X fl zs tb r))
  case first=>
   rcases HC.out with rfl|⟨rfl,q,rb,rfl,rfl,hw,hqr⟩
   ·have HSH:=zh (zjt f3 (w.heap.size+1) w.heap.size z3 W4 HT4.out.read (by have:=HLE3.out;have:=HLL.out;omega))
    clear HC
    go_wp2_with fail
    refine HSH.out.mono ?_
    rintro e w5 ⟨hT,f5,z5,sh,v,rfl,⟨⟨sa,sc,xs,rfl,hO,hOT,hW,hsy⟩,hln5⟩,hR,hle5,hg5,hb5⟩
    have hsz:w.heap.size+2<=W4.heap.size:=by have:=zq2 HT4.out.box;have:=HT4.out.tbl;omega
    have HT5:=zh (HT4.out.to hT hR)
    obtain⟨ns,hns⟩: ∃n,n=xs.length:=⟨_,rfl⟩
    rw [<-hns] at hO ⊢
    have c6:=zq0 HT5.out.box 6
    have f6:=zq1 HT5.out.box 6
    simp at c6
    have HT6:=zh (HT5.out.set 6 (.slice sa ns sc) #[.int .u64 sq, .int .u64 lg, .int .u64 nx, .slice ba nb bc, .slice la nl lc, .slice va nv vc, .slice sa ns sc] rfl)
    have HS6:=zh (show OwnSh (w.heap.size+2) (w5.setCell ⟨tb,6,none⟩ (.slice sa ns sc)) (.slice sa ns sc) xs from zqr (zq9 hO hsz) HT5.out.box (by decide) _)
    have HO6:=zh (show∀s∈xs,∀l∈s.lv,OwnT (w.heap.size+2) (w5.setCell ⟨tb,6,none⟩ (.slice sa ns sc)) (lvV l) l.ts from fun s hs' l hl'=>zqr (zq9 (hOT s hs' l hl') hsz) HT5.out.box (by decide) _)
    have HPP:=zh (show(f5=false->whP l=some ((x0,xs.map Sv.says),z5))/\(f5=true->whP l=none)from by
     have k1:=(Lk.zero fz whP l).step (p:=rtP) (K':=fun r l1=>match shP l1 with
      |none=>none
      |some (sh,l2)=>some ((r,sh),l2)) (fun l=>by unfold whP;rcases rtP l with _|⟨x,r⟩<;>rfl) HG3.out.1 HG3.out.2
     have k2:=k1.step (p:=shP) (K':=fun sh l2=>some ((x0,sh),l2)) (fun l=>by rcases shP l with _|⟨x,r⟩<;>rfl) hg5 hb5
     refine⟨fun e=>by rw [(k2.1 e).2,hsy],fun e=> ?_⟩
     rcases k2.2 e with h|h
     ·rw [<-HFZ.out] at h;cases h
     ·exact h)
    have HWW:=zh hW
    have HNS:=zh hns
    clear hT hO hOT hW hsy hR hle5 hg5 hb5 hns hsz HSH
    go_wp2_with fail
    go_meet
    exact⟨_,f5,z5,⟨sq,lg,nx,ba,bc,bs,la,lc,ls,va,vc,vs,sa,sc,xs⟩,rfl,zh (yjl HT6.out ⟨HNB.out.1,HNB.out.2.1,HNB.out.2.2,HNS.out⟩ HX0.out (by rw [<-HNS.out];exact HS6.out) HO6.out HWW.out HPP.out HLL.out)⟩
   ·have HM:=zh (zxb f3 (w.heap.size+1) w.heap.size z3 W4 HT4.out.read)
    have HWI:=zh hw
    have HQR:=zh hqr
    clear HC hw hqr
    go_wp2_with fail
    refine HM.out.mono ?_
    rintro e w5 ⟨hT,f5,z5,m,v,rfl,⟨rfl,hml⟩,hR,hle5,hg5,hb5⟩
    have HT5:=zh hT
    have HR5:=zh hR
    have HK5:=zh (((Lk.zero fz edP l).step (p:=rtP) (K':=fun r l1=>match manyP nmP l1 with
     |none=>none
     |some (gs,l2)=>match shP l2 with
      |none=>none
      |some (sh,l3)=>some ((r,gs,sh),l3)) (fun l=>by unfold edP;rcases rtP l with _|⟨x,r⟩<;>rfl) HG3.out.1 HG3.out.2).many (p:=nmP) (K2:=fun gs l2=>match shP l2 with
      |none=>none
      |some (sh,l3)=>some ((x0,gs,sh),l3)) (fun l=>by rcases manyP nmP l with _|⟨x,r⟩<;>rfl) hg5 hb5)
    have HL5:=zh (Nat.le_trans hle5 HLE3.out)
    have hm1:m<100000:=by have:=HLE3.out;have:=HLL.out;omega
    clear hT hR hle5 hg5 hb5 hml HM
    go_upto_region 10 with fail
    go_loopg [10,8] m (fun gk iv v8 wr=> ∃(k cg:Nat) (gs zs:List Int) (ga:Option Addr) (g:Bool),k+gk=m/\iv= .int .i64 k/\v8= .slice ga k cg/\Hid (Lk fz (edP l) g (restP nmP (fun gs l2=>match shP l2 with
      |none=>none
      |some (sh,l3)=>some ((x0,gs,sh),l3)) gk gs) zs)/\Hid (gs.length=k)/\Hid (TurnI (w.heap.size+1) W4 wr)/\Hid (TkAt g wr (w.heap.size+1) w.heap.size zs)/\Hid (Vx.OwnU W4.heap.size wr (.slice ga k cg) gs)/\Hid (zs.length<=l.length))
    case atStart=>exact⟨0,0, [],z5,none,f5,by omega,rfl,rfl,HK5,zh rfl,HT5,HR5,zh (World.ownsRow_nil _ _ _ _),HL5⟩
    case round=>
     obtain⟨k,cg,gs,zs,ga,g,hk,rfl,rfl,HLK,HGL,HTT,HRR,HOU,HZS⟩:=hrel
     by_cases hlt:k<m
     ·have j1:(k:Int)<(m:Int):=by omega
      have hw1:IntKind.i64.wrap ((k:Int)+1)=(k:Int)+1:=IntWalk.i64_in _ (by omega)
      have HGK:=zh (show gk=gk - 1+1 from by omega)
      have HNM:=zh (zqi g (w.heap.size+1) w.heap.size zs wr HRR.out)
      go_wp2_with fail
      refine HNM.out.mono ?_
      rintro e w6 ⟨hT,g6,z6,x,v,rfl,⟨rfl,hx64⟩,hR,hle6,hg6,hb6⟩
      have hpW:w.heap.size+1<W4.heap.size:=HT4.out.read.lt
      have HT6:=zh (HTT.out.trans hT)
      have HO6:=zh (zqf HOU.out hT hpW)
      have HL6:=zh (Nat.le_trans hle6 HZS.out)
      have HK6:=zh (HLK.out.round (m':=gk - 1) (x:=(x:Int)) HGK.out (fun e=>⟨(hg6 e).1,by unfold nmP;rw [(hg6 e).2]⟩) (fun e=>(hb6 e).imp id (fun h=>by unfold nmP;rw [h])))
      obtain⟨v',w7,hr,ho',hb'⟩:=yjp (x:Int) HT6.out.size HO6.out (by rw [HGL.out];omega)
      obtain⟨a',c',hv', -, -, -, -⟩:=Vx.zqv ho'
      have hgl:(gs++ [(x:Int)]).length=k+1:=by rw [List.length_append,HGL.out];rfl
      rw [hgl] at hv'
      subst hv'
      have HO7:=zh ho'
      have HGL7:=zh hgl
      have HT7:=zh (yvd HT6.out hb')
      have HR7:=zh (yvb hR hpW hb')
      clear hT hR hle6 hg6 hb6 ho' hb' hgl hpW HNM
      go_wp2_with(at_builtin;refine zqm _ (by rfl) _ _ _ _ rfl _ _ rfl rfl _ _ hr ?_;clear hr)
      go_roundg(gk - 1)
      case measure=>omega
      case rel=>exact⟨k+1,c',gs++ [(x:Int)],z6,a',g6,by omega,by go_num,rfl,HK6,HGL7,HT7,HR7,HO7,HL6⟩
     ·have j1: ¬(k:Int)<(m:Int):=by omega
      obtain rfl:m=k:=by omega
      obtain rfl:gk=0:=by omega
      have HKD:=zh HLK.out.done
      have HTS:=zh (HT4.out.to HTT.out HRR.out)
      have HDR:=zh (show Below wr.heap.size wr wr.drew from zb.drew)
      have HTD:=zh (HTS.out.ext HDR.out)
      have HOD:=zh (ownsRow_below HOU.out HDR.out zr)
      have HSH:=zh (zjt g (w.heap.size+1) w.heap.size zs wr.drew HTD.out.read (by have:=HZS.out;have:=HLL.out;omega))
      obtain⟨fb,hxb⟩:=HWI.out.box
      obtain⟨mq,hmq⟩: ∃n,n=q.sh.length:=⟨_,rfl⟩
      rw [<-hmq] at hxb
      have HXB:=zh hxb
      have HMQ:=zh hmq
      obtain⟨-, -, -, -, -, -,cq6⟩:=zqb (zq4 hxb HTD.out.below (zq2 hxb))
      clear hxb hmq hlt hk HLK HK5 HT5 HR5
      go_upto_region 13 with fail
      go_region_law (first
       |(go_simp;go_at_call 66;(with_reducible refine HSH.out.mono ?_);rintro e w6 ⟨hT6,g6,z6,sh,v,rfl,⟨⟨sa,sc,ss,rfl,hO6,hOT6,hW6,hsy6⟩,hln6⟩,hR6,hle6,hg6,hb6⟩;have HT6:=zh (HTD.out.to hT6 hR6);have HU6:=zh (zqf HOD.out hT6 HT4.out.read.lt);have HO6:=zh (And.intro hO6 hOT6);have HW6:=zh hW6;have HY6:=zh (And.intro hsy6 hln6);have HG6:=zh (And.intro hg6 hb6);obtain⟨ns6,hns6⟩: ∃n,n=ss.length:=⟨_,rfl⟩;have HN6:=zh hns6;have HED:=zh (yx4 q.sa ga sa q.sc cg sc mq m ns6 q.sh ss gs w6 (HWI.out.iq.shs.ext HT6.out.below) (els_nu9 HU6.out) (shin_own hO6 hOT6 hW6) HMQ.out.symm HGL.out hns6.symm (by have:=wt_len HWI.out.wq;rw [HMQ.out];omega) (by omega) (by rw [hns6];have h1:ss.length<=zs.length:=(by rw [<-hsy6,List.length_map] at hln6;exact hln6);have:=HZS.out;have:=HLL.out;omega));rw [<-hns6];obtain⟨-, -, -, -, -, -,cr6⟩:=zqb (zq4 HXB.out HT6.out.below (zq2 HXB.out));clear hT6 hO6 hOT6 hW6 hsy6 hln6 hR6 hle6 hg6 hb6 hns6)
       |(go_simp;go_at_call 69;(with_reducible refine HED.out.mono ?_);rintro e w7 ⟨hb7,v7,rfl,hO7⟩;obtain⟨a7,c7,hv7, -, -⟩:=zq6 zqe hO7;obtain⟨n7,hn7⟩: ∃n,n=(edE q.sh gs ss).length:=⟨_,rfl⟩;rw [<-hn7] at hv7;subst hv7;have HN7:=zh hn7;have HT7:=zh (HT6.out.ext hb7);have HB7:=zh hb7;have HO7:=zh hO7;have c6:=zq0 HT7.out.box 6;have f6:=zq1 HT7.out.box 6;simp at c6;clear hb7 hO7 hn7))
      all_goals
       have hsz:w.heap.size+2<=wr.heap.size:=by have:=zq2 HTS.out.box;have:=HTS.out.tbl;omega
       have hsz6:w.heap.size+2<=w6.heap.size:=by have:=zq2 HT6.out.box;have:=HT6.out.tbl;omega
       have HTF:=zh (HT7.out.set 6 (.slice a7 n7 c7) #[.int .u64 sq, .int .u64 lg, .int .u64 nx, .slice ba nb bc, .slice la nl lc, .slice va nv vc, .slice a7 n7 c7] rfl)
       have HS8:=zh (show OwnSh (w.heap.size+2) (w7.setCell ⟨tb,6,none⟩ (.slice a7 n7 c7)) (.slice a7 (edE q.sh gs ss).length c7) (edE q.sh gs ss)from by rw [<-HN7.out];exact zqr (zq9 HO7.out hsz6) HT7.out.box (by decide) _)
       have HO8:=zh (show∀s∈ss,∀l∈s.lv,OwnT (w.heap.size+2) (w7.setCell ⟨tb,6,none⟩ (.slice a7 n7 c7)) (lvV l) l.ts from fun s hs' l hl'=>zqr (ownsRow_below (zq9 (HO6.out.2 s hs' l hl') hsz) HB7.out zr) HT7.out.box (by decide) _)
       have HPP:=zh (show(g6=false->edP l=some ((x0,gs,ss.map Sv.says),z6))/\(g6=true->edP l=none)from by
        have k2:=HKD.out.step (p:=shP) (K':=fun sh l3=>some ((x0,gs,sh),l3)) (fun l=>by rcases shP l with _|⟨x,r⟩<;>rfl) HG6.out.1 HG6.out.2
        refine⟨fun e=>by rw [(k2.1 e).2,HY6.out.1],fun e=> ?_⟩
        rcases k2.2 e with h|h
        ·rw [<-HFZ.out] at h;cases h
        ·exact h)
       clear hsz hsz6
       go_wp2_with fail
       go_meet
       exact⟨_,g6,z6,⟨sq,lg,nx,ba,bc,bs,la,lc,ls,va,vc,vs,a7,c7,edE q.sh gs ss⟩,rfl,zh (ywy HTF.out ⟨HNB.out.1,HNB.out.2.1,HNB.out.2.2,HN7.out⟩ HX0.out HWI.out HQR.out rfl HS8.out HO8.out HW6.out HPP.out HLL.out)⟩
  case rest=>
   obtain⟨X,fl,zs,r,rfl,HS⟩:=hcut
   obtain⟨mb,hmb⟩: ∃n,n=r.bs.length:=⟨_,rfl⟩
   obtain⟨ml,hml⟩: ∃n,n=r.ls.length:=⟨_,rfl⟩
   obtain⟨mv,hmv⟩: ∃n,n=r.vs.length:=⟨_,rfl⟩
   obtain⟨ms,hms⟩: ∃n,n=r.sh.length:=⟨_,rfl⟩
   have HRV:=zh (show rtV r= .agg #[.int .u64 r.seq, .int .u64 r.log, .int .u64 r.next, .slice r.ba mb r.bc, .slice r.la ml r.lc, .slice r.va mv r.vc, .slice r.sa ms r.sc] from by rw [hmb,hml,hmv,hms])
   have hbox:=HS.out.box
   rw [<-hmb,<-hml,<-hmv,<-hms] at hbox
   have HBX:=zh hbox
   have hres:X.heap[w.heap.size]? =some (.cells #[.int .u64 0, .int .u64 0, .int .u64 0, .slice none 0 0, .slice none 0 0, .slice none 0 0, .slice none 0 0] (32) (0,0)):=HS.out.res.box
   have HRES:=zh hres
   obtain⟨c0,c1,c2,c3,c4,c5,c6⟩:=zqb hres
   have f0:=zq1 hres 0
   have f1:=zq1 hres 1
   have f2:=zq1 hres 2
   have f3:=zq1 hres 3
   have f4:=zq1 hres 4
   have f5:=zq1 hres 5
   have f6:=zq1 hres 6
   have hfc:=(zko HS.out.read).1
   obtain⟨ra,rc,hrb, -, -, -, -⟩:=HS.out.read.blk
   have hrc:=zq0 hrb 0
   simp at hrc
   obtain⟨nz,hnz⟩: ∃n,n=zs.length:=⟨_,rfl⟩
   rw [<-hnz] at hrc
   have HNZ:=zh hnz
   clear hmb hml hmv hms hbox hres hrb hnz
   by_cases hA:fl=true\/zs≠ []
   case pos=>
    have HNO:=zh (HS.out.no hA)
    cases hfl:fl with
    |true=>
     rw [hfl] at hfc
     clear hA hfl
     go_wp2_with fail
     have HB8:=zh (((((((HS.out.res.store 0 (.int .u64 0) _ rfl).store 1 (.int .u64 0) _ rfl).store 2 (.int .u64 0) _ rfl).store 3 (.slice none 0 0) _ rfl).store 4 (.slice none 0 0) _ rfl).store 5 (.slice none 0 0) _ rfl).store 6 (.slice none 0 0) #[.int .u64 0, .int .u64 0, .int .u64 0, .slice none 0 0, .slice none 0 0, .slice none 0 0, .slice none 0 0] rfl)
     obtain⟨Z,hZ⟩:=HB8.out.name
     rw [<-hZ] at HB8 ⊢
     clear hZ c0 c1 c2 c3 c4 c5 c6 f0 f1 f2 f3 f4 f5 f6
     obtain⟨c0,c1,c2,c3,c4,c5,c6⟩:=zqb HB8.out.box
     refine bodyPost_ret (v:= .tuple #[.agg #[.int .u64 0, .int .u64 0, .int .u64 0, .slice none 0 0, .slice none 0 0, .slice none 0 0, .slice none 0 0], .bool false]) (by simp [results,Tryz.results27,go_sem,c0,c1,c2,c3,c4,c5,c6]) rfl ?_
     exact⟨HB8.out.below,⟨0,0,0,none,0, [],none,0, [],none,0, [],none,0, []⟩,false,rfl,fun _=>HNO.out,fun e=>by cases e⟩
    |false=>
     have hnz:0<nz:=by
      rw [HNZ.out]
      rcases hA with h|h
      ·rw [hfl] at h;cases h
      ·exact List.length_pos_iff.2 h
     have z1:(0:Int)<(nz:Int):=by omega
     have z2:decide ((0:Int)<(nz:Int))=true:=decide_eq_true z1
     rw [hfl] at hfc
     clear hA hfl
     go_wp2_with fail
     have HB8:=zh (((((((HS.out.res.store 0 (.int .u64 0) _ rfl).store 1 (.int .u64 0) _ rfl).store 2 (.int .u64 0) _ rfl).store 3 (.slice none 0 0) _ rfl).store 4 (.slice none 0 0) _ rfl).store 5 (.slice none 0 0) _ rfl).store 6 (.slice none 0 0) #[.int .u64 0, .int .u64 0, .int .u64 0, .slice none 0 0, .slice none 0 0, .slice none 0 0, .slice none 0 0] rfl)
     obtain⟨Z,hZ⟩:=HB8.out.name
     rw [<-hZ] at HB8 ⊢
     clear hZ c0 c1 c2 c3 c4 c5 c6 f0 f1 f2 f3 f4 f5 f6
     obtain⟨c0,c1,c2,c3,c4,c5,c6⟩:=zqb HB8.out.box
     refine bodyPost_ret (v:= .tuple #[.agg #[.int .u64 0, .int .u64 0, .int .u64 0, .slice none 0 0, .slice none 0 0, .slice none 0 0, .slice none 0 0], .bool false]) (by simp [results,Tryz.results27,go_sem,c0,c1,c2,c3,c4,c5,c6]) rfl ?_
     exact⟨HB8.out.below,⟨0,0,0,none,0, [],none,0, [],none,0, [],none,0, []⟩,false,rfl,fun _=>HNO.out,fun e=>by cases e⟩
   case neg=>
    have hfl:fl=false:=by
     cases h:fl with
     |false=>rfl
     |true=>exact absurd (.inl h) hA
    have hzs:zs= [] :=Classical.byContradiction (fun h=>hA (.inr h))
    have hnz:nz=0:=by rw [HNZ.out,hzs];rfl
    have z1: ¬(0:Int)<(nz:Int):=by omega
    have z2:decide ((0:Int)<(nz:Int))=false:=decide_eq_false z1
    obtain⟨G,Z,hpf,hzu,hok,hinv⟩:=HS.out.put hfl
    have HFX:=zh (And.intro (HS.out.few hfl) (HS.out.ref hfl))
    have HOK:=zh hok
    have HINV:=zh hinv
    have HZU:=zh hzu
    have HPF:=zh (hpf X zb)
    rw [HRV.out] at HPF
    rw [hfl] at hfc
    have g0:=HCC.out X HS.out.res.below
    clear hA hfl hzs hpf hzu hok hinv c0 c1 c2 c3 c4 c5 c6 f0 f1 f2 f3 f4 f5 f6 hnz
    go_upto_region 16 with fail
    go_upto_if 89 with fail
    clear hfc hrc z1 z2 g0
    obtain⟨P',hP'⟩: ∃P',P'=if c=1 then none else P:=⟨_,rfl⟩
    rw [<-hP'] at HPF
    have HPP:=zh hP'
    clear hP'
    go_cut [1] (fun v1 wx=>v1= .pointer P'/\X=wx)
    case first=>
     rcases HC.out with rfl|⟨rfl,q,rb,rfl, -, -, -⟩
     ·have e:P'=none:=by rw [HPP.out];rfl
      clear HC
      go_wp2_with fail
      go_meet
      exact⟨by rw [e],rfl⟩
     ·have e:P'=some ⟨rb,0,none⟩:=by rw [HPP.out];rfl
      clear HC
      go_wp2_with fail
      go_meet
      exact⟨by rw [e],rfl⟩
    case rest=>
     obtain⟨rfl,hcx⟩:=hcut
     subst hcx
     obtain⟨k0,k1,k2,k3,k4,k5,k6⟩:=zqb HBX.out
     go_wp2_with fail
     refine HPF.out.mono ?_
     rintro e w7 ⟨hb7,hcase⟩
     have HR7:=zh (HS.out.res.ext hb7)
     have HBX7:=zh (zq4 HBX.out hb7 (zq2 HBX.out))
     have hres7:w7.heap[w.heap.size]? =some (.cells #[.int .u64 0, .int .u64 0, .int .u64 0, .slice none 0 0, .slice none 0 0, .slice none 0 0, .slice none 0 0] (32) (0,0)):=HR7.out.box
     have HRES7:=zh hres7
     obtain⟨c0,c1,c2,c3,c4,c5,c6⟩:=zqb hres7
     have f0:=zq1 hres7 0
     have f1:=zq1 hres7 1
     have f2:=zq1 hres7 2
     have f3:=zq1 hres7 3
     have f4:=zq1 hres7 4
     have f5:=zq1 hres7 5
     have f6:=zq1 hres7 6
     have htl:=HS.out.tbl
     have HTK:=zh (show∀u:World,TurnI w.heap.size w7 u->u.heap[tb]? =some (.cells #[.int .u64 r.seq, .int .u64 r.log, .int .u64 r.next, .slice r.ba mb r.bc, .slice r.la ml r.lc, .slice r.va mv r.vc, .slice r.sa ms r.sc] (32) (0,0))from fun u hu=>hu.kept _ _ HBX7.out (by omega))
     have HDT:=zh (show TurnI w.heap.size w7 w7.drew from TurnI.of_below zb.drew)
     have HB7:=zh hb7
     have HR8:=zh ((((((((HR7.out.store 0 (.int .u64 r.seq) _ rfl).store 1 (.int .u64 r.log) _ rfl).store 2 (.int .u64 r.next) _ rfl).store 3 (.slice r.ba mb r.bc) _ rfl).store 4 (.slice r.la ml r.lc) _ rfl).store 5 (.slice r.va mv r.vc) _ rfl).store 6 (.slice r.sa ms r.sc) #[.int .u64 r.seq, .int .u64 r.log, .int .u64 r.next, .slice r.ba mb r.bc, .slice r.la ml r.lc, .slice r.va mv r.vc, .slice r.sa ms r.sc] rfl).ext zb.drew)
     obtain⟨Z9,hZ9⟩:=HR8.out.name
     rw [<-hZ9] at HR8
     have HZ9:=zh hZ9
     have HT9:=zh (show TurnI w.heap.size w7 Z9 from by rw [hZ9];exact(zzu (zzu (zzu (zzu (zzu (zzu (zzu (TurnI.refl w7) 0 _) 1 _) 2 _) 3 _) 4 _) 5 _) 6 _).trans (TurnI.of_below zb.drew))
     clear hZ9
     clear k0 k1 k2 k3 k4 k5 k6 HPF hres7 hb7 htl
     rcases hcase with⟨hG,a7,n7,c7,rfl,hn7,hE7⟩|⟨hG,rfl⟩
     ·have HG:=zh hG
      have HEW:=zh (HE.out.ext HR7.out.below)
      have hne: ∀ad,a7=some ad->Z≠ [] ->ad.block≠w.heap.size:=fun ad had hz=>byt_zero hE7 hz HRES7.out ad had
      have hbw:b<w.heap.size:=HBLT.out
      obtain⟨s1,hs1⟩: ∃s,s=strOf Z:=⟨_,rfl⟩
      obtain⟨s2,hs2⟩: ∃s,s=strOf (c::l):=⟨_,rfl⟩
      obtain⟨bb,hbb⟩: ∃bb:Bool,(s1.toList==s2.toList)=bb:=⟨_,rfl⟩
      have HBB:=zh (show bb=true↔Z=c::l from by
       rw [<-hbb,beq_iff_eq,toL_inj,hs1,hs2]
       exact⟨fun h=>yzo HZU.out (fun y hy=>byt_rng (HU.out y hy)) h,fun h=>by rw [h]⟩)
      have HKS:=zh (show∀u:World,TurnI w.heap.size w7 u->(u.cell? ⟨tb,0,none⟩=some (.int .u64 r.seq)/\u.cell? ⟨tb,1,none⟩=some (.int .u64 r.log)/\u.cell? ⟨tb,2,none⟩=some (.int .u64 r.next)/\u.cell? ⟨tb,3,none⟩=some (.slice r.ba mb r.bc)/\u.cell? ⟨tb,4,none⟩=some (.slice r.la ml r.lc)/\u.cell? ⟨tb,5,none⟩=some (.slice r.va mv r.vc)/\u.cell? ⟨tb,6,none⟩=some (.slice r.sa ms r.sc))/\(convert (24) (9) (.slice a7 n7 c7)).run Tryz.prog u= .ok (.string s1) u/\(convert (24) (9) (.slice (some ⟨b,o,none⟩) n cap)).run Tryz.prog u= .ok (.string s2) u from fun u hu=>by
       refine⟨zqb (HTK.out u hu),?_,?_⟩
       ·rw [hs1]
        refine zjx a7 n7 c7 Z u ?_ hn7.symm (fun e=> ?_)
        ·by_cases hz:Z= []
         ·rw [hz];exact Els.nil _ _ _ _
         ·exact zjc hE7 hu (fun ad had=>hne ad had hz)
        ·rcases Nat.eq_zero_or_pos n7 with h|h
         ·exact h
         ·obtain⟨b',o',h1, -⟩:=hE7.get 0 (by omega)
          rw [e] at h1;cases h1
       ·rw [hs2]
        exact zjx _ n cap (c::l) u (zjc HEW.out hu (fun ad had=>by cases had;show b≠_;omega)) HN.out (fun e=>by cases e))
      have HK0:=zh (HKS.out _ HDT.out)
      clear hG hE7 hn7 hne hbw hs1 hs2
      go_upto_region 19 with fail
      refine wp_region_held_drew (S:=fun u=>(u.cell? ⟨tb,0,none⟩=some (.int .u64 r.seq)/\u.cell? ⟨tb,1,none⟩=some (.int .u64 r.log)/\u.cell? ⟨tb,2,none⟩=some (.int .u64 r.next)/\u.cell? ⟨tb,3,none⟩=some (.slice r.ba mb r.bc)/\u.cell? ⟨tb,4,none⟩=some (.slice r.la ml r.lc)/\u.cell? ⟨tb,5,none⟩=some (.slice r.va mv r.vc)/\u.cell? ⟨tb,6,none⟩=some (.slice r.sa ms r.sc))/\(convert (24) (9) (.slice a7 n7 c7)).run Tryz.prog u= .ok (.string s1) u/\(convert (24) (9) (.slice (some ⟨b,o,none⟩) n cap)).run Tryz.prog u= .ok (.string s2) u) (by kernel_rfl) HK0.out (fun hHeld=> ?_)
      refine tkI (by rintro ch ⟨t,d⟩ ⟨t',d'⟩ w' rfl h;exact h) 0 (h:= ?_)
      refine tkI (by rintro ch ⟨t,d⟩ ⟨t',d'⟩ w' rfl h;exact h) 1 (h:= ?_)
      refine tkI (by rintro ch ⟨t,d⟩ ⟨t',d'⟩ w' rfl h;exact h) 2 (h:= ?_)
      try simp only [Act.put,lsa,lsz,lss]
      refine tkI (by rintro ch ⟨t,d⟩ ⟨t',d'⟩ w' rfl h;exact h) 3 (h:= ?_)
      refine tkI (by rintro ch ⟨t,d⟩ ⟨t',d'⟩ w' rfl h;exact h) 4 (h:= ?_)
      refine tkI (by rintro ch ⟨t,d⟩ ⟨t',d'⟩ w' rfl h;exact h) 5 (h:= ?_)
      try simp only [Act.put,lsa,lsz,lss]
      refine tkI (by rintro ch ⟨t,d⟩ ⟨t',d'⟩ w' rfl h;exact h) 6 (h:= ?_)
      refine tkI (by rintro ch ⟨t,d⟩ ⟨t',d'⟩ w' rfl h;exact h) 7 (h:= ?_)
      refine tkI (by rintro ch ⟨t,d⟩ ⟨t',d'⟩ w' rfl h;exact h) 8 (h:= ?_)
      try simp only [Act.put,lsa,lsz,lss]
      refine tkI (by rintro ch ⟨t,d⟩ ⟨t',d'⟩ w' rfl h;exact h) 9 (h:= ?_)
      try simp only [Act.put,lsa,lsz,lss]
      refine tkC 10 (h:=fun K hK=> ?_)
      go_wp2_with fail
      rw [<-HZ9.out]
      refine hK.out _ _ (HKS.out _ HT9.out) (fun hHeld=> ?_)
      clear hK K
      try simp only [Act.put,lsa,lsz,lss]
      refine tkI (by rintro ch ⟨t,d⟩ ⟨t',d'⟩ w' rfl h;exact h) 11 (h:= ?_)
      try simp only [Act.put,lsa,lsz,lss]
      refine wpAnyH_done (by kernel_rfl) ?_ _
      clear hHeld
      obtain⟨c0,c1,c2,c3,c4,c5,c6⟩:=zqb HR8.out.box
      go_wp2_with fail
      refine bodyPost_ret (v:= .tuple #[.agg #[.int .u64 r.seq, .int .u64 r.log, .int .u64 r.next, .slice r.ba mb r.bc, .slice r.la ml r.lc, .slice r.va mv r.vc, .slice r.sa ms r.sc], .bool bb]) (by simp [results,Tryz.results27,go_sem,c0,c1,c2,c3,c4,c5,c6]) rfl ?_
      refine⟨HR8.out.below,r,bb,by rw [HRV.out],fun e h=> ?_,fun e=>⟨HOK.out HG.out (HBB.out.1 e),HR8.out.stay HS.out.stay,HFX.out.1,HFX.out.2⟩⟩
      have h2:=HBB.out.2 (HINV.out h).2
      rw [e] at h2
      cases h2
     ·have HNO:=zh (show¬ ∃x,zqu (saysO Q) (c::l) x from fun h=>hG (HINV.out h).1)
      have HKS:=zh (show∀u:World,TurnI w.heap.size w7 u->u.cell? ⟨tb,0,none⟩=some (.int .u64 r.seq)/\u.cell? ⟨tb,1,none⟩=some (.int .u64 r.log)/\u.cell? ⟨tb,2,none⟩=some (.int .u64 r.next)/\u.cell? ⟨tb,3,none⟩=some (.slice r.ba mb r.bc)/\u.cell? ⟨tb,4,none⟩=some (.slice r.la ml r.lc)/\u.cell? ⟨tb,5,none⟩=some (.slice r.va mv r.vc)/\u.cell? ⟨tb,6,none⟩=some (.slice r.sa ms r.sc)from fun u hu=>zqb (HTK.out u hu))
      have HK0:=zh (HKS.out _ HDT.out)
      clear hG
      go_upto_region 19 with fail
      refine wp_region_held_drew (S:=fun u=>u.cell? ⟨tb,0,none⟩=some (.int .u64 r.seq)/\u.cell? ⟨tb,1,none⟩=some (.int .u64 r.log)/\u.cell? ⟨tb,2,none⟩=some (.int .u64 r.next)/\u.cell? ⟨tb,3,none⟩=some (.slice r.ba mb r.bc)/\u.cell? ⟨tb,4,none⟩=some (.slice r.la ml r.lc)/\u.cell? ⟨tb,5,none⟩=some (.slice r.va mv r.vc)/\u.cell? ⟨tb,6,none⟩=some (.slice r.sa ms r.sc)) (by kernel_rfl) HK0.out (fun hHeld=> ?_)
      refine tkI (by rintro ch ⟨t,d⟩ ⟨t',d'⟩ w' rfl h;exact h) 0 (h:= ?_)
      refine tkI (by rintro ch ⟨t,d⟩ ⟨t',d'⟩ w' rfl h;exact h) 1 (h:= ?_)
      refine tkI (by rintro ch ⟨t,d⟩ ⟨t',d'⟩ w' rfl h;exact h) 2 (h:= ?_)
      try simp only [Act.put,lsa,lsz,lss]
      refine tkI (by rintro ch ⟨t,d⟩ ⟨t',d'⟩ w' rfl h;exact h) 3 (h:= ?_)
      refine tkO (by rintro ch ⟨t,d⟩ ⟨t',d'⟩ w' rfl h;exact h) 4 (h:= ?_)
      refine tkO (by rintro ch ⟨t,d⟩ ⟨t',d'⟩ w' rfl h;exact h) 5 (h:= ?_)
      try simp only [Act.put,lsa,lsz,lss]
      refine tkO (by rintro ch ⟨t,d⟩ ⟨t',d'⟩ w' rfl h;exact h) 6 (h:= ?_)
      refine tkO (by rintro ch ⟨t,d⟩ ⟨t',d'⟩ w' rfl h;exact h) 7 (h:= ?_)
      refine tkO (by rintro ch ⟨t,d⟩ ⟨t',d'⟩ w' rfl h;exact h) 8 (h:= ?_)
      try simp only [Act.put,lsa,lsz,lss]
      refine tkI (by rintro ch ⟨t,d⟩ ⟨t',d'⟩ w' rfl h;exact h) 9 (h:= ?_)
      try simp only [Act.put,lsa,lsz,lss]
      refine tkC 10 (h:=fun K hK=> ?_)
      go_wp2_with fail
      rw [<-HZ9.out]
      refine hK.out _ _ (HKS.out _ HT9.out) (fun hHeld=> ?_)
      clear hK K
      try simp only [Act.put,lsa,lsz,lss]
      refine tkI (by rintro ch ⟨t,d⟩ ⟨t',d'⟩ w' rfl h;exact h) 11 (h:= ?_)
      try simp only [Act.put,lsa,lsz,lss]
      refine wpAnyH_done (by kernel_rfl) ?_ _
      clear hHeld
      obtain⟨c0,c1,c2,c3,c4,c5,c6⟩:=zqb HR8.out.box
      go_wp2_with fail
      refine bodyPost_ret (v:= .tuple #[.agg #[.int .u64 r.seq, .int .u64 r.log, .int .u64 r.next, .slice r.ba mb r.bc, .slice r.la ml r.lc, .slice r.va mv r.vc, .slice r.sa ms r.sc], .bool false]) (by simp [results,Tryz.results27,go_sem,c0,c1,c2,c3,c4,c5,c6]) rfl ?_
      exact⟨HR8.out.below,r,false,by rw [HRV.out],fun _=>HNO.out,fun e=>by cases e⟩
end Go.Proofs.YtchcelodeepjdaaGreatDoor.Ln
