/- Lemmas and walks towards ManifestsFold. Conditions: each one tells its own. -/
import Derived.Test.YtchcelodeepjdaaGreatDoorMp
import Derived.Test.YtchcelodeepjdaaGreatDoorZZR
namespace Go.Proofs.YtchcelodeepjdaaGreatDoor.Ln
open Go.RowKit Go.Shelf Go.Herb

theorem els_nu {w:World}{g:Nat}{xs:List Int}{cs:Array Value}{t:TypeId}{fr:Nat × Nat}(h:w.heap[g]? =some (.cells cs t fr))(hc:cs.toList=xs.flatMap Vx.nu):Els Vx.nu 1 w (some ⟨g,0,none⟩) xs:=
 ⟨fun i hi=>by
  refine⟨g,0,rfl,zq2 h,fun j c hj=> ?_⟩
  rw [zq0 h,<-Array.getElem?_toList,hc]
  have hj0:j=0:=by
   rcases Nat.eq_zero_or_pos j with h|h
   ·exact h
   ·rw [List.getElem?_eq_none (by rw [Vx.zz5];omega)] at hj;cases hj
  subst hj0
  have hfg:=zxn Vx.zz5 xs i 0 hi (by omega)
  rw [hj] at hfg
  rw [<-hfg]
  congr 1
  omega⟩
theorem u64_n {n:Nat}(h:n<18446744073709551616):U64 (n:Int):=by
 unfold U64
 simp [Lit.wf,IntKind.min,IntKind.max,IntKind.signed,IntKind.bits]
 omega
theorem zwr {a:Option Addr}{n c m:Nat}{ys:List Int}(cs:Array Value)(xs:List Int)(w:World)(hb:Byt w a ys)(hn:ys.length=n)(h0:0<n)(hcs:cs.toList=xs.flatMap Vx.nu)(hm:xs.length=m)(hu: ∀x∈xs,U64 x)(hl:n+10*m<800000000):
  Calls Tryz.prog (51) #[.slice a n c, .slice (some ⟨w.heap.size,0,none⟩) m m] (w.alloc (.cells cs (26))) (zqd (ys++numsL xs) w):=
 (zwh a n c ys (some ⟨w.heap.size,0,none⟩) m m xs _ (hb.ext (zb.alloc zr _)) hn h0 (els_nu (zq3 rfl _) hcs) hm hu hl).mono (fun e w' ⟨a',q',c',h1,h2,h3,h4⟩=>⟨a',q',c',h1,h2,h3,(zb.alloc zr _).trans (h4.mono (by simp))⟩)
theorem numAt {a:Option Addr}{n c m g:Nat}{ys:List Int}{cs:Array Value}(xs:List Int)(wr X:World)(hX:Below wr.heap.size wr X)(hblk:X.heap[g]? =some (.cells cs (26) (0,0)))(hb:Byt wr a ys)(hn:ys.length=n)(h0:0<n)(hcs:cs.toList=xs.flatMap Vx.nu)(hm:xs.length=m)(hu: ∀x∈xs,U64 x)(hl:n+10*m<800000000):
  Calls Tryz.prog (51) #[.slice a n c, .slice (some ⟨g,0,none⟩) m m] X (zqd (ys++numsL xs) X):=
 zwh a n c ys (some ⟨g,0,none⟩) m m xs X (hb.ext hX) hn h0 (els_nu hblk hcs) hm hu hl
theorem belT {w u v:World}(h1:Below w.heap.size w u)(h2:Below u.heap.size u v):Below w.heap.size w v:=h1.trans (h2.mono h1.size)
theorem two_u {x y:Int}(h1:U64 x)(h2:U64 y): ∀z∈ [x,y],U64 z:=fun z hz=>by
 simp only [List.mem_cons,List.not_mem_nil,or_false] at hz
 rcases hz with rfl|rfl
 ·exact h1
 ·exact h2
set_option maxRecDepth 100000 in
set_option maxHeartbeats 4000000 in
theorem zvx (a:Option Addr)(n c:Nat)(ys:List Int)(r:Rv)(w:World)(h:RtIn w r)(hy:Byt w a ys)(hn:ys.length=n)(h0:0<n)(hl:n+(headL r.says).length<400000000)(hns: ∀x∈r.bs,x.1.size<=1000)(hbl:r.bs.length<400000000)(hll:r.ls.length<400000000)(hvl:r.vs.length<400000000)(hpl: ∀x∈r.vs,x.ps.length<400000000):
  Calls Tryz.prog (48) #[.slice a n c,rtV r] w (zqd (ys++headL r.says) w):=by
 have HU:=zh (show U64 r.seq/\U64 r.log/\U64 r.next/\(∀q∈r.bs,U64 q.2.1/\U64 q.2.2)/\(∀q∈r.ls,U64 q.1/\U64 q.2)/\(∀x∈r.vs,U64 x.line/\ ∀q∈x.ps,U64 q.1/\U64 q.2)from⟨h.seq,h.log,h.next,fun q hq=>(h.brs.all q hq).2,h.lns.all,h.vcs.wf⟩)
 have HPP:=zh h.vcs.inn
 have HY:=zh hy
 have HYN:=zh (show ys.length=n/\0<n from⟨hn,h0⟩)
 have HSZ:=zh (show(∀x∈r.bs,x.1.size<=1000)/\r.bs.length<400000000/\r.ls.length<400000000/\r.vs.length<400000000/\(∀x∈r.vs,x.ps.length<400000000)from⟨hns,hbl,hll,hvl,hpl⟩)
 obtain⟨K1,hK1⟩: ∃K,K=ys++numsL [r.seq,r.log,r.next,(r.bs.length:Int)] :=⟨_,rfl⟩
 obtain⟨K2,hK2⟩: ∃K,K=K1++r.bs.flatMap brL:=⟨_,rfl⟩
 obtain⟨K3,hK3⟩: ∃K,K=K2++numsL [(r.ls.length:Int)] :=⟨_,rfl⟩
 obtain⟨K4,hK4⟩: ∃K,K=K3++r.ls.flatMap lnL:=⟨_,rfl⟩
 obtain⟨K5,hK5⟩: ∃K,K=K4++numsL [(r.vs.length:Int)] :=⟨_,rfl⟩
 obtain⟨K6,hK6⟩: ∃K,K=K5++r.vs.flatMap (fun v=>vcL (v.line,v.ps)):=⟨_,rfl⟩
 have hK:K6=ys++headL r.says:=by
  rw [hK6,hK5,hK4,hK3,hK2,hK1]
  unfold headL
  have e1:r.says.vs.flatMap vcL=r.vs.flatMap (fun v=>vcL (v.line,v.ps)):=by
   show(Vx.vsOf r.vs).flatMap vcL=_
   unfold Vx.vsOf
   rw [List.flatMap_map]
  have e2:r.says.vs.length=r.vs.length:=Vx.zqk r.vs
  rw [e1,e2]
  simp only [List.append_assoc]
  rfl
 have HKK:=zh (show K6.length<400000000 from by rw [hK,List.length_append];omega)
 have HLEN:=zh (show K2.length=K1.length+(r.bs.flatMap brL).length/\K2.length<=K3.length/\K4.length=K3.length+(r.ls.flatMap lnL).length/\K4.length<=K5.length/\K6.length=K5.length+(r.vs.flatMap (fun v=>vcL (v.line,v.ps))).length/\0<K1.length/\K6.length<400000000 from by
  refine⟨by rw [hK2,List.length_append],by rw [hK3,List.length_append];omega,by rw [hK4,List.length_append],by rw [hK5,List.length_append];omega,by rw [hK6,List.length_append],by rw [hK1,List.length_append];omega,HKK.out⟩)
 have HK1:=zh hK1
 have HK2:=zh hK2
 have HK3:=zh hK3
 have HK4:=zh hK4
 have HK5:=zh hK5
 have HK6:=zh hK6
 have HKH:=zh hK
 clear hy hn h0 hl hns hbl hll hvl hpl hK hK1 hK2 hK3 hK4 hK5 hK6 HKK
 obtain⟨nb,hnb⟩: ∃n,n=r.bs.length:=⟨_,rfl⟩
 obtain⟨nl,hnl⟩: ∃n,n=r.ls.length:=⟨_,rfl⟩
 obtain⟨nv,hnv⟩: ∃n,n=r.vs.length:=⟨_,rfl⟩
 obtain⟨ns,hns⟩: ∃n,n=r.sh.length:=⟨_,rfl⟩
 obtain⟨ba,hba⟩: ∃n,n=r.ba:=⟨_,rfl⟩
 obtain⟨la,hla⟩: ∃n,n=r.la:=⟨_,rfl⟩
 obtain⟨va,hva⟩: ∃n,n=r.va:=⟨_,rfl⟩
 obtain⟨sa,hsa⟩: ∃n,n=r.sa:=⟨_,rfl⟩
 have hrt:rtV r= .agg #[.int .u64 r.seq, .int .u64 r.log, .int .u64 r.next, .slice ba nb r.bc, .slice la nl r.lc, .slice va nv r.vc, .slice sa ns r.sc] :=by rw [hnb,hnl,hnv,hns,hba,hla,hva,hsa]
 obtain⟨W,hW⟩: ∃W:World,W=w.alloc (.cells #[.int .u64 r.seq, .int .u64 r.log, .int .u64 r.next, .slice ba nb r.bc, .slice la nl r.lc, .slice va nv r.vc, .slice sa ns r.sc] (32)):=⟨_,rfl⟩
 have hB:Below w.heap.size w W:=by rw [hW];exact zb.alloc zr _
 have hx0:W.heap[w.heap.size]? =some (.cells #[.int .u64 r.seq, .int .u64 r.log, .int .u64 r.next, .slice ba nb r.bc, .slice la nl r.lc, .slice va nv r.vc, .slice sa ns r.sc] (32) (0,0)):=by rw [hW];exact zq3 rfl _
 have HB:=zh hB
 have HY2:=zh (HY.out.ext hB)
 have HW:=zh hW
 have HN:=zh (show r.bs.length=nb/\r.ls.length=nl/\r.vs.length=nv/\r.sh.length=ns from⟨hnb.symm,hnl.symm,hnv.symm,hns.symm⟩)
 have HA0:=zh (show ba=r.ba/\la=r.la/\va=r.va/\sa=r.sa from⟨hba,hla,hva,hsa⟩)
 have HVC:=zh (vinE h.vcs hB)
 have HBR:=zh (h.brs.els.ext hB)
 have HLN:=zh (h.lns.els.ext hB)
 have HSC:=zh (h.shs.ext hB)
 have HM:=zh (show nb<=maxLen/\nl<=maxLen/\nv<=maxLen/\ns<=maxLen from⟨by rw [hnb];exact Nat.le_trans h.brs.le h.brs.max,by rw [hnl];exact Nat.le_trans h.lns.le h.lns.max,by rw [hnv];exact h.vcs.len,by rw [hns];exact Nat.le_trans h.sl h.sm⟩)
 have HEND:=zh (show∀e u,Below W.heap.size W u->(Below w.heap.size w u->zqd (ys++headL r.says) w e u)->zqd (ys++headL r.says) w e u from fun e u hu hq=>hq (hB.trans (hu.mono hB.size)))
 have HC:Hid (∀u,Below W.heap.size W u->u.cell? ⟨w.heap.size,0,none⟩=some (.int .u64 r.seq)/\u.cell? ⟨w.heap.size,1,none⟩=some (.int .u64 r.log)/\u.cell? ⟨w.heap.size,2,none⟩=some (.int .u64 r.next)/\u.cell? ⟨w.heap.size,3,none⟩=some (.slice ba nb r.bc)/\u.cell? ⟨w.heap.size,4,none⟩=some (.slice la nl r.lc)/\u.cell? ⟨w.heap.size,5,none⟩=some (.slice va nv r.vc)/\u.cell? ⟨w.heap.size,6,none⟩=some (.slice sa ns r.sc)):=zh (fun u hu=>by
  have hq:=zq4 hx0 hu (zq2 hx0)
  have q0:=zq0 hq 0
  have q1:=zq0 hq 1
  have q2:=zq0 hq 2
  have q3:=zq0 hq 3
  have q4:=zq0 hq 4
  have q5:=zq0 hq 5
  have q6:=zq0 hq 6
  simp at q0 q1 q2 q3 q4 q5 q6
  exact⟨q0,q1,q2,q3,q4,q5,q6⟩)
 have HRT:=zh hrt
 have HR:=zh (h.ext hB)
 rw [hrt]
 clear h hB hx0 hnb hnl hnv hns hba hla hva hsa hrt hW
 go_enter Tryz.func48,Tryz.ntmps48
 have hcb:IntKind.u64.wrap (nb:Int)=(nb:Int):=by rw [IntKind.wrap_u64];have:=HSZ.out.2.1;have:=HN.out.1;omega
 have HN1:=zh (show Calls Tryz.prog (51) #[.slice a n c, .slice (some ⟨W.heap.size,0,none⟩) 4 4] (W.alloc (.cells #[.int .u64 r.seq, .int .u64 r.log, .int .u64 r.next, .int .u64 (nb:Int)] (26))) (zqd K1 W)from by
  have:=zwr (c:=c) (m:=4) #[.int .u64 r.seq, .int .u64 r.log, .int .u64 r.next, .int .u64 (nb:Int)] [r.seq,r.log,r.next,(nb:Int)] W HY2.out HYN.out.1 HYN.out.2 rfl rfl (by
   intro x hx
   simp only [List.mem_cons,List.not_mem_nil,or_false] at hx
   rcases hx with rfl|rfl|rfl|rfl
   ·exact HU.out.1
   ·exact HU.out.2.1
   ·exact HU.out.2.2.1
   ·exact u64_n (by have:=HSZ.out.2.1;have:=HN.out.1;omega)) (by have h1:=HLEN.out;have h2:=HK1.out;have:=congrArg List.length h2;rw [List.length_append,HYN.out.1] at this;omega)
  rw [HK1.out,HN.out.1]
  exact this)
 go_upto_region 1 with fail
 rw [<-HW.out]
 obtain⟨c0,c1,c2,c3,c4,c5,c6⟩:=HC.out W zb
 go_wp2_with fail
 refine HN1.out.mono ?_
 rintro e w1 ⟨a1,q1,d1,rfl,hq1,hE1,hb1⟩
 have HQ1:=zh hq1
 have HE1:=zh hE1
 have HB1:=zh hb1
 clear hcb c0 c1 c2 c3 c4 c5 c6 hq1 hE1 hb1
 go_upto_region 3 with fail
 go_loopg [5,0] nb (fun gk iv v0 wr=> ∃(i:Nat) (a:Option Addr) (q c:Nat),i+gk=nb/\iv= .int .i64 i/\v0= .slice a q c/\Hid (q=(K1++(r.bs.take i).flatMap brL).length)/\Hid (Byt wr a (K1++(r.bs.take i).flatMap brL))/\Hid (Below W.heap.size W wr))
 case atStart=>exact⟨0,a1,q1,d1,by omega,rfl,rfl,zh (by simpa using HQ1.out),zh (by simpa using HE1.out),HB1⟩
 case round=>
  obtain⟨i,a,q,c,hi,rfl,rfl,HQ,HE,HBw⟩:=hrel
  obtain⟨c0,c1,c2,c3,c4,c5,c6⟩:=HC.out wr HBw.out
  by_cases hlt:i<nb
  case pos=>
   have hil:i<r.bs.length:=by have:=HN.out;omega
   obtain⟨b,o,hba,hlb,hcx⟩:=(HBR.out.ext HBw.out).get i hil
   have HTK:=zh (zqz brL r.bs i hil)
   have HPR:=zh (zzg brL r.bs i hil)
   have HUX:=zh (HU.out.2.2.2.1 _ (List.getElem_mem hil))
   have HNX:=zh (HSZ.out.1 _ (List.getElem_mem hil))
   generalize r.bs[i] =x at hcx HTK HPR HUX HNX
   have HCX:=zh (show∀u,Below wr.heap.size wr u->u.cell? ⟨b,o+i*3,none⟩=some (.string x.1)/\u.cell? ⟨b,o+i*3+1,none⟩=some (.int .u64 x.2.1)/\u.cell? ⟨b,o+i*3+2,none⟩=some (.int .u64 x.2.2)from fun u hu=>⟨(hu.cell (p:=⟨b,o+i*3,none⟩) hlb).trans (hcx 0 _ rfl),(hu.cell (p:=⟨b,o+i*3+1,none⟩) hlb).trans (hcx 1 _ rfl),(hu.cell (p:=⟨b,o+i*3+2,none⟩) hlb).trans (hcx 2 _ rfl)⟩)
   obtain⟨g0,g1,g2⟩:=HCX.out wr zb
   have i0:(0:Int)<=(i:Int):=by omega
   have i1:(i:Int)<(nb:Int):=by omega
   have hw1:IntKind.i64.wrap ((i:Int)+1)=(i:Int)+1:=IntWalk.i64_in _ (by have:=HSZ.out.2.1;have:=HN.out;omega)
   have hba:=HA0.out.1.trans hba
   subst hba
   obtain⟨KK,hKK⟩: ∃K,K=K1++(r.bs.take i).flatMap brL:=⟨_,rfl⟩
   rw [<-hKK] at HQ HE
   have HLQ:=zh (show 0<q/\q+(brL x).length<400000000 from by
    have h1:=HQ.out
    rw [hKK,List.length_append] at h1
    have h2:=HPR.out
    have h3:=HLEN.out
    omega)
   have HNEW:=zh (show KK++putT x.1++numsL [x.2.1,x.2.2] =K1++(r.bs.take (i+1)).flatMap brL from by rw [HTK.out,hKK];unfold brL;simp only [List.append_assoc])
   have HPT:=zh (zj3 a q c KK x.1 wr HE.out HQ.out.symm HLQ.out.1 (by have:=HLQ.out.2;have:=HNX.out;omega))
   clear hcx hKK
   go_wp2_with fail
   refine HPT.out.mono ?_
   intro e w2 hpost
   obtain⟨a',q',c',rfl,hq',hE',hb'⟩:=hpost.row
   have HQ':=zh hq'
   have HE':=zh hE'
   have HB':=zh hb'
   have HW':=zh (HBw.out.trans (hb'.mono HBw.out.size))
   have HNU:=zh (show∀X,Below w2.heap.size w2 X->X.heap[w2.heap.size]? =some (.cells #[.int .u64 x.2.1, .int .u64 x.2.2] (26) (0,0))->Calls Tryz.prog (51) #[.slice a' q' c', .slice (some ⟨w2.heap.size,0,none⟩) 2 2] X (zqd (K1++(r.bs.take (i+1)).flatMap brL) X)from fun X hX hblk=>by
    rw [<-HNEW.out]
    exact numAt [x.2.1,x.2.2] w2 X hX hblk hE' hq'.symm (by rw [hq',List.length_append];have:=HLQ.out.1;have:=HQ.out;omega) rfl rfl (two_u HUX.out.1 HUX.out.2) (by
     have h1:=HLQ.out
     have h2:=HQ.out
     rw [hq',List.length_append]
     unfold brL at h1
     rw [List.length_append] at h1
     omega))
   have HS:=zh (show∀u,Below w2.heap.size w2 u->u.cell? ⟨w.heap.size,3,none⟩=some (.slice (some ⟨b,o,none⟩) nb r.bc)/\u.cell? ⟨b,o+i*3+1,none⟩=some (.int .u64 x.2.1)/\u.cell? ⟨b,o+i*3+2,none⟩=some (.int .u64 x.2.2)from fun u hu=>by
    have h2:=HCX.out u (HB'.out.trans (hu.mono HB'.out.size))
    exact⟨(HC.out u (HW'.out.trans (hu.mono HW'.out.size))).2.2.2.1,h2.2.1,h2.2.2⟩)
   clear hpost hq' hE' hb' g0 g1 g2 c0 c1 c2 c3 c4 c5 c6
   go_upto_region 6 with fail
   have HNa:=zh (HNU.out (w2.alloc (.cells #[.int .u64 x.2.1, .int .u64 x.2.2] (26))).drew ((zb.alloc zr _).drew) (zq3 (w:=w2) rfl _))
   have HNb:=zh (HNU.out (w2.drew.alloc (.cells #[.int .u64 x.2.1, .int .u64 x.2.2] (26))) ((zb.drew).alloc zr _) (zq3 (w:=w2.drew) rfl _))
   have HDa:=zh (show Below w2.heap.size w2 (w2.alloc (.cells #[.int .u64 x.2.1, .int .u64 x.2.2] (26))).drew from(zb.alloc zr _).drew)
   have HDb:=zh (show Below w2.heap.size w2 (w2.drew.alloc (.cells #[.int .u64 x.2.1, .int .u64 x.2.2] (26)))from(zb.drew).alloc zr _)
   go_region_held3 (fun u=>u.cell? ⟨w.heap.size,3,none⟩=some (.slice (some ⟨b,o,none⟩) nb r.bc)/\u.cell? ⟨b,o+i*3+1,none⟩=some (.int .u64 x.2.1)/\u.cell? ⟨b,o+i*3+2,none⟩=some (.int .u64 x.2.2))
    (first|exact HS.out _ (by assumption)|exact HS.out _ zb|exact HS.out _ (zb.drew)|exact HS.out _ HDa.out|exact HS.out _ HDb.out)
    (first
     |(go_at_call 51;(with_reducible refine HNa.out.mono ?_);rintro e w3 ⟨a3,q3,p3,rfl,hq3,hE3,hb3⟩;have HQ3:=zh hq3;have HE3:=zh hE3;have hA:Below w2.heap.size w2 w3:=belT HDa.out hb3;clear hq3 hE3 hb3)
     |(go_at_call 51;(with_reducible refine HNb.out.mono ?_);rintro e w3 ⟨a3,q3,p3,rfl,hq3,hE3,hb3⟩;have HQ3:=zh hq3;have HE3:=zh hE3;have hA:Below w2.heap.size w2 w3:=belT HDb.out hb3;clear hq3 hE3 hb3))
   all_goals
    have HB3:=zh (HW'.out.trans (hA.mono HW'.out.size))
    clear hA
    go_wp2_with fail
    go_roundg(gk - 1)
    case measure=>omega
    case rel=>exact⟨i+1,a3,q3,p3,by omega,by go_num,rfl,HQ3,HE3,HB3⟩
  have i1: ¬(i:Int)<(nb:Int):=by omega
  have HQ:=zh (show q=K2.length from by have:=HQ.out;rw [List.take_of_length_le (by have:=HN.out;omega),<-HK2.out] at this;exact this)
  have HE:=zh (show Byt wr a K2 from by have:=HE.out;rw [List.take_of_length_le (by have:=HN.out;omega),<-HK2.out] at this;exact this)
  have hcn:IntKind.u64.wrap (nl:Int)=(nl:Int):=by rw [IntKind.wrap_u64];have:=HSZ.out;have:=HN.out;omega
  have HNU:=zh (show Calls Tryz.prog (51) #[.slice a q c, .slice (some ⟨wr.heap.size,0,none⟩) 1 1] (wr.alloc (.cells #[.int .u64 (nl:Int)] (26))) (zqd K3 wr)from by
   have:=zwr (c:=c) (m:=1) #[.int .u64 (nl:Int)] [(nl:Int)] wr HE.out HQ.out.symm (by have:=HLEN.out;have:=HQ.out;omega) rfl rfl (by
    intro x hx
    simp only [List.mem_cons,List.not_mem_nil,or_false] at hx
    rw [hx]
    exact u64_n (by have:=HSZ.out;have:=HN.out;omega)) (by have:=HLEN.out;have:=HQ.out;omega)
   rw [HK3.out,HN.out.2.1]
   exact this)
  go_wp2_with fail
  refine HNU.out.mono ?_
  rintro e w1 ⟨a1,q1,d1,rfl,hq1,hE1,hb1⟩
  have HQ1:=zh hq1
  have HE1:=zh hE1
  have HB1:=zh (HBw.out.trans (hb1.mono HBw.out.size))
  clear hcn hq1 hE1 hb1 c0 c1 c2 c3 c4 c5 c6 HNU
  go_upto_region 9 with fail
  obtain⟨g1,hg1⟩: ∃x,x=gk:=⟨_,rfl⟩
  clear hi hg1 hlt i1
  go_loopg [6,0] nl (fun gk iv v0 wr=> ∃(i:Nat) (a:Option Addr) (q c:Nat),i+gk=nl/\iv= .int .i64 i/\v0= .slice a q c/\Hid (q=(K3++(r.ls.take i).flatMap lnL).length)/\Hid (Byt wr a (K3++(r.ls.take i).flatMap lnL))/\Hid (Below W.heap.size W wr))
  case atStart=>exact⟨0,a1,q1,d1,by omega,rfl,rfl,zh (by simpa using HQ1.out),zh (by simpa using HE1.out),HB1⟩
  case round=>
   obtain⟨i,a,q,c,hi,rfl,rfl,HQ,HE,HBw⟩:=hrel
   obtain⟨c0,c1,c2,c3,c4,c5,c6⟩:=HC.out wr HBw.out
   by_cases hlt:i<nl
   case pos=>
    have hil:i<r.ls.length:=by have:=HN.out;omega
    obtain⟨b,o,hba,hlb,hcx⟩:=(HLN.out.ext HBw.out).get i hil
    have HTK:=zh (zqz lnL r.ls i hil)
    have HPR:=zh (zzg lnL r.ls i hil)
    have HUX:=zh (HU.out.2.2.2.2.1 _ (List.getElem_mem hil))
    generalize r.ls[i] =x at hcx HTK HPR HUX
    have HCX:=zh (show∀u,Below wr.heap.size wr u->u.cell? ⟨b,o+i*2,none⟩=some (.int .u64 x.1)/\u.cell? ⟨b,o+i*2+1,none⟩=some (.int .u64 x.2)from fun u hu=>⟨(hu.cell (p:=⟨b,o+i*2,none⟩) hlb).trans (hcx 0 _ rfl),(hu.cell (p:=⟨b,o+i*2+1,none⟩) hlb).trans (hcx 1 _ rfl)⟩)
    have i0:(0:Int)<=(i:Int):=by omega
    have i1:(i:Int)<(nl:Int):=by omega
    have hw1:IntKind.i64.wrap ((i:Int)+1)=(i:Int)+1:=IntWalk.i64_in _ (by have:=HSZ.out.2.2.1;have:=HN.out;omega)
    have hba:=HA0.out.2.1.trans hba
    subst hba
    obtain⟨KK,hKK⟩: ∃K,K=K3++(r.ls.take i).flatMap lnL:=⟨_,rfl⟩
    rw [<-hKK] at HQ HE
    have HLQ:=zh (show 0<q/\q+(lnL x).length<400000000 from by
     have h1:=HQ.out
     rw [hKK,List.length_append] at h1
     have h2:=HPR.out
     have h3:=HLEN.out
     omega)
    have HNEW:=zh (show KK++numsL [x.1,x.2] =K3++(r.ls.take (i+1)).flatMap lnL from by rw [HTK.out,hKK];unfold lnL;simp only [List.append_assoc])
    have HS:=zh (show∀u,Below wr.heap.size wr u->u.cell? ⟨w.heap.size,4,none⟩=some (.slice (some ⟨b,o,none⟩) nl r.lc)/\u.cell? ⟨b,o+i*2,none⟩=some (.int .u64 x.1)/\u.cell? ⟨b,o+i*2+1,none⟩=some (.int .u64 x.2)from fun u hu=>⟨(HC.out u (HBw.out.trans (hu.mono HBw.out.size))).2.2.2.2.1,HCX.out u hu⟩)
    clear hcx hKK
    have HNU:=zh (show∀X,Below wr.heap.size wr X->X.heap[wr.heap.size]? =some (.cells #[.int .u64 x.1, .int .u64 x.2] (26) (0,0))->Calls Tryz.prog (51) #[.slice a q c, .slice (some ⟨wr.heap.size,0,none⟩) 2 2] X (zqd (K3++(r.ls.take (i+1)).flatMap lnL) X)from fun X hX hblk=>by
     rw [<-HNEW.out]
     exact numAt [x.1,x.2] wr X hX hblk HE.out HQ.out.symm (by have:=HLQ.out;omega) rfl rfl (two_u HUX.out.1 HUX.out.2) (by have:=HLQ.out;omega))
    go_upto_region 11 with fail
    have HNa:=zh (HNU.out (wr.alloc (.cells #[.int .u64 x.1, .int .u64 x.2] (26))).drew ((zb.alloc zr _).drew) (zq3 (w:=wr) rfl _))
    have HNb:=zh (HNU.out (wr.drew.alloc (.cells #[.int .u64 x.1, .int .u64 x.2] (26))) ((zb.drew).alloc zr _) (zq3 (w:=wr.drew) rfl _))
    have HDa:=zh (show Below wr.heap.size wr (wr.alloc (.cells #[.int .u64 x.1, .int .u64 x.2] (26))).drew from(zb.alloc zr _).drew)
    have HDb:=zh (show Below wr.heap.size wr (wr.drew.alloc (.cells #[.int .u64 x.1, .int .u64 x.2] (26)))from(zb.drew).alloc zr _)
    go_region_held3 (fun u=>u.cell? ⟨w.heap.size,4,none⟩=some (.slice (some ⟨b,o,none⟩) nl r.lc)/\u.cell? ⟨b,o+i*2,none⟩=some (.int .u64 x.1)/\u.cell? ⟨b,o+i*2+1,none⟩=some (.int .u64 x.2))
     (first|exact HS.out _ (by assumption)|exact HS.out _ zb|exact HS.out _ (zb.drew)|exact HS.out _ HDa.out|exact HS.out _ HDb.out)
     (first
      |(go_at_call 51;(with_reducible refine HNa.out.mono ?_);rintro e w3 ⟨a3,q3,p3,rfl,hq3,hE3,hb3⟩;have HQ3:=zh hq3;have HE3:=zh hE3;have hA:Below wr.heap.size wr w3:=belT HDa.out hb3;clear hq3 hE3 hb3)
      |(go_at_call 51;(with_reducible refine HNb.out.mono ?_);rintro e w3 ⟨a3,q3,p3,rfl,hq3,hE3,hb3⟩;have HQ3:=zh hq3;have HE3:=zh hE3;have hA:Below wr.heap.size wr w3:=belT HDb.out hb3;clear hq3 hE3 hb3))
    all_goals
     have HB3:=zh (HBw.out.trans (hA.mono HBw.out.size))
     clear hA
     go_wp2_with fail
     go_roundg(gk - 1)
     case measure=>omega
     case rel=>exact⟨i+1,a3,q3,p3,by omega,by go_num,rfl,HQ3,HE3,HB3⟩
   have i1: ¬(i:Int)<(nl:Int):=by omega
   have HQ:=zh (show q=K4.length from by have:=HQ.out;rw [List.take_of_length_le (by have:=HN.out;omega),<-HK4.out] at this;exact this)
   have HE:=zh (show Byt wr a K4 from by have:=HE.out;rw [List.take_of_length_le (by have:=HN.out;omega),<-HK4.out] at this;exact this)
   have hcn:IntKind.u64.wrap (nv:Int)=(nv:Int):=by rw [IntKind.wrap_u64];have:=HSZ.out;have:=HN.out;omega
   have HNU:=zh (show Calls Tryz.prog (51) #[.slice a q c, .slice (some ⟨wr.heap.size,0,none⟩) 1 1] (wr.alloc (.cells #[.int .u64 (nv:Int)] (26))) (zqd K5 wr)from by
    have:=zwr (c:=c) (m:=1) #[.int .u64 (nv:Int)] [(nv:Int)] wr HE.out HQ.out.symm (by have:=HLEN.out;have:=HQ.out;omega) rfl rfl (by
     intro x hx
     simp only [List.mem_cons,List.not_mem_nil,or_false] at hx
     rw [hx]
     exact u64_n (by have:=HSZ.out;have:=HN.out;omega)) (by have:=HLEN.out;have:=HQ.out;omega)
    rw [HK5.out,HN.out.2.2.1]
    exact this)
   go_wp2_with fail
   refine HNU.out.mono ?_
   rintro e w1 ⟨a1,q1,d1,rfl,hq1,hE1,hb1⟩
   have HQ1:=zh hq1
   have HE1:=zh hE1
   have HB1:=zh (HBw.out.trans (hb1.mono HBw.out.size))
   clear hcn hq1 hE1 hb1 c0 c1 c2 c3 c4 c5 c6 HNU
   go_upto_region 14 with fail
   clear hi hlt i1
   go_loopg [7,0] nv (fun gk iv v0 wr=> ∃(i:Nat) (a:Option Addr) (q c:Nat),i+gk=nv/\iv= .int .i64 i/\v0= .slice a q c/\Hid (q=(K5++(r.vs.take i).flatMap (fun v:Vx.Vc=>vcL (v.line,v.ps))).length)/\Hid (Byt wr a (K5++(r.vs.take i).flatMap (fun v:Vx.Vc=>vcL (v.line,v.ps))))/\Hid (Below W.heap.size W wr))
   case atStart=>exact⟨0,a1,q1,d1,by omega,rfl,rfl,zh (by simpa using HQ1.out),zh (by simpa using HE1.out),HB1⟩
   case round=>
    obtain⟨i,a,q,c,hi,rfl,rfl,HQ,HE,HBw⟩:=hrel
    obtain⟨c0,c1,c2,c3,c4,c5,c6⟩:=HC.out wr HBw.out
    by_cases hlt:i<nv
    case neg=>
     have i1: ¬(i:Int)<(nv:Int):=by omega
     have HQ:=zh (show q=K6.length from by have:=HQ.out;rw [List.take_of_length_le (by have:=HN.out;omega),<-HK6.out] at this;exact this)
     have HE:=zh (show Byt wr a K6 from by have:=HE.out;rw [List.take_of_length_le (by have:=HN.out;omega),<-HK6.out] at this;exact this)
     have HF:=zh (show zqd (ys++headL r.says) w (.returned (.slice a q c)) wr from HEND.out _ _ HBw.out (fun hb=>⟨a,q,c,rfl,by rw [<-HKH.out];exact HQ.out,by rw [<-HKH.out];exact HE.out,hb⟩))
     go_wp2_with fail
     go_ret
     exact HF.out
    have hil:i<r.vs.length:=by have:=HN.out;omega
    obtain⟨b,o,hba,hlb,hcx⟩:=(HVC.out.els.ext HBw.out).get i hil
    have HTK:=zh (zqz (fun v:Vx.Vc=>vcL (v.line,v.ps)) r.vs i hil)
    have HPR:=zh (zzg (fun v:Vx.Vc=>vcL (v.line,v.ps)) r.vs i hil)
    have HUX:=zh (HU.out.2.2.2.2.2 _ (List.getElem_mem hil))
    have HPX:=zh (HPP.out _ (List.getElem_mem hil))
    have HPN:=zh (HSZ.out.2.2.2.2 _ (List.getElem_mem hil))
    generalize r.vs[i] =x at hcx HTK HPR HUX HPX HPN
    obtain⟨np,hnp⟩: ∃n,n=x.ps.length:=⟨_,rfl⟩
    obtain⟨pa,hpa⟩: ∃n,n=x.a:=⟨_,rfl⟩
    have HCX:=zh (show∀u,Below wr.heap.size wr u->u.cell? ⟨b,o+i*2,none⟩=some (.int .u64 x.line)/\u.cell? ⟨b,o+i*2+1,none⟩=some (.slice pa np x.c)from fun u hu=>⟨(hu.cell (p:=⟨b,o+i*2,none⟩) hlb).trans (hcx 0 _ rfl),(hu.cell (p:=⟨b,o+i*2+1,none⟩) hlb).trans (by rw [hnp,hpa];exact hcx 1 _ rfl)⟩)
    have HNP:=zh (show x.ps.length=np/\pa=x.a/\np<400000000 from⟨hnp.symm,hpa,by rw [hnp];exact HPN.out⟩)
    have i0:(0:Int)<=(i:Int):=by omega
    have i1:(i:Int)<(nv:Int):=by omega
    have HW1:=zh (show IntKind.i64.wrap ((i:Int)+1)=(i:Int)+1 from IntWalk.i64_in _ (by have:=HSZ.out.2.2.2.1;have:=HN.out;omega))
    have hcn:IntKind.u64.wrap (np:Int)=(np:Int):=by rw [IntKind.wrap_u64];have:=HNP.out;omega
    have hba:=HA0.out.2.2.1.trans hba
    subst hba
    obtain⟨KK,hKK⟩: ∃K,K=K5++(r.vs.take i).flatMap (fun v:Vx.Vc=>vcL (v.line,v.ps)):=⟨_,rfl⟩
    rw [<-hKK] at HQ HE
    obtain⟨K7,hK7⟩: ∃K,K=KK++numsL [x.line,(np:Int)] :=⟨_,rfl⟩
    have HNEW:=zh (show K7++x.ps.flatMap ptL=K5++(r.vs.take (i+1)).flatMap (fun v:Vx.Vc=>vcL (v.line,v.ps))from by rw [HTK.out,hK7,hKK,hnp];unfold vcL;simp only [List.append_assoc])
    have HLQ:=zh (show 0<q/\q<400000000/\K7.length+(x.ps.flatMap ptL).length<400000000/\q<=K7.length from by
     have h1:=HQ.out
     have h4:=congrArg List.length HNEW.out
     rw [HTK.out,List.length_append,List.length_append,List.length_append] at h4
     have h5:=congrArg List.length hK7
     rw [List.length_append] at h5
     rw [hKK,List.length_append] at h1 h5
     have h2:=HPR.out
     have h3:=HLEN.out
     omega)
    have HK7:=zh hK7
    have HS:=zh (show∀u,Below wr.heap.size wr u->u.cell? ⟨w.heap.size,5,none⟩=some (.slice (some ⟨b,o,none⟩) nv r.vc)/\u.cell? ⟨b,o+i*2,none⟩=some (.int .u64 x.line)/\u.cell? ⟨b,o+i*2+1,none⟩=some (.slice pa np x.c)from fun u hu=>⟨(HC.out u (HBw.out.trans (hu.mono HBw.out.size))).2.2.2.2.2.1,HCX.out u hu⟩)
    clear hcx hKK hK7 hnp hpa
    have HNU:=zh (show∀X,Below wr.heap.size wr X->X.heap[wr.heap.size]? =some (.cells #[.int .u64 x.line, .int .u64 (np:Int)] (26) (0,0))->Calls Tryz.prog (51) #[.slice a q c, .slice (some ⟨wr.heap.size,0,none⟩) 2 2] X (zqd (K7) X)from fun X hX hblk=>by
     rw [HK7.out]
     exact numAt [x.line,(np:Int)] wr X hX hblk HE.out HQ.out.symm (by have:=HLQ.out;omega) rfl rfl (two_u HUX.out.1 (u64_n (by have:=HNP.out;omega))) (by have:=HLQ.out;omega))
    go_upto_region 16 with fail
    have HNa:=zh (HNU.out (wr.alloc (.cells #[.int .u64 x.line, .int .u64 (np:Int)] (26))).drew ((zb.alloc zr _).drew) (zq3 (w:=wr) rfl _))
    have HNb:=zh (HNU.out (wr.drew.alloc (.cells #[.int .u64 x.line, .int .u64 (np:Int)] (26))) ((zb.drew).alloc zr _) (zq3 (w:=wr.drew) rfl _))
    have HDa:=zh (show Below wr.heap.size wr (wr.alloc (.cells #[.int .u64 x.line, .int .u64 (np:Int)] (26))).drew from(zb.alloc zr _).drew)
    have HDb:=zh (show Below wr.heap.size wr (wr.drew.alloc (.cells #[.int .u64 x.line, .int .u64 (np:Int)] (26)))from(zb.drew).alloc zr _)
    go_region_held3 (fun u=>u.cell? ⟨w.heap.size,5,none⟩=some (.slice (some ⟨b,o,none⟩) nv r.vc)/\u.cell? ⟨b,o+i*2,none⟩=some (.int .u64 x.line)/\u.cell? ⟨b,o+i*2+1,none⟩=some (.slice pa np x.c))
     (first|exact HS.out _ (by assumption)|exact HS.out _ zb|exact HS.out _ (zb.drew)|exact HS.out _ HDa.out|exact HS.out _ HDb.out)
     (first
      |(go_at_call 51;(with_reducible refine HNa.out.mono ?_);rintro e w3 ⟨a3,q3,p3,rfl,hq3,hE3,hb3⟩;have HQ3:=zh hq3;have HE3:=zh hE3;have hA:Below wr.heap.size wr w3:=belT HDa.out hb3;clear hq3 hE3 hb3)
      |(go_at_call 51;(with_reducible refine HNb.out.mono ?_);rintro e w3 ⟨a3,q3,p3,rfl,hq3,hE3,hb3⟩;have HQ3:=zh hq3;have HE3:=zh hE3;have hA:Below wr.heap.size wr w3:=belT HDb.out hb3;clear hq3 hE3 hb3))
    all_goals
     have HB3:=zh (HBw.out.trans (hA.mono HBw.out.size))
     have HB03:=zh hA
     clear hA c0 c1 c2 c3 c4 c5 c6
     obtain⟨c0,c1,c2,c3,c4,c5,c6⟩:=HC.out w3 HB3.out
     obtain⟨d0,d1⟩:=HCX.out w3 HB03.out
     go_upto_region 18 with fail
     obtain⟨g1,hg1⟩: ∃x,x=gk:=⟨_,rfl⟩
     subst hg1
     obtain⟨wo,hwo⟩: ∃x:World,x=wr:=⟨_,rfl⟩
     subst hwo
     clear c0 c1 c2 c3 c4 c5 c6 d0 d1 hcn HS HNU HNa HNb HDa HDb
     go_loopg [8,0] np (fun gk kv v0 wr=> ∃(k:Nat) (a:Option Addr) (q c:Nat),k+gk=np/\kv= .int .i64 k/\v0= .slice a q c/\Hid (q=(K7++(x.ps.take k).flatMap ptL).length)/\Hid (Byt wr a (K7++(x.ps.take k).flatMap ptL))/\Hid (Below wo.heap.size wo wr))
     case atStart=>exact⟨0,a3,q3,p3,by omega,rfl,rfl,zh (by simpa using HQ3.out),zh (by simpa using HE3.out),HB03⟩
     case round=>
      obtain⟨k,a,q,c,hk,rfl,rfl,HQ,HE,HBk⟩:=hrel
      have HBwk:=zh (HBw.out.trans (HBk.out.mono HBw.out.size))
      obtain⟨c0,c1,c2,c3,c4,c5,c6⟩:=HC.out wr HBwk.out
      obtain⟨d0,d1⟩:=HCX.out wr HBk.out
      by_cases hkl:k<np
      case neg=>
       have k1: ¬(k:Int)<(np:Int):=by omega
       have HQ4:=zh (show q=(K5++(r.vs.take (i+1)).flatMap (fun v:Vx.Vc=>vcL (v.line,v.ps))).length from by have:=HQ.out;rw [List.take_of_length_le (by have:=HNP.out;omega),HNEW.out] at this;exact this)
       have HE4:=zh (show Byt wr a (K5++(r.vs.take (i+1)).flatMap (fun v:Vx.Vc=>vcL (v.line,v.ps)))from by have:=HE.out;rw [List.take_of_length_le (by have:=HNP.out;omega),HNEW.out] at this;exact this)
       have hw1:=HW1.out
       clear HQ HE
       go_wp2_with fail
       go_roundg(g1 - 1)
       case measure=>omega
       case rel=>exact⟨i+1,a,q,c,by omega,by go_num,rfl,HQ4,HE4,HBwk⟩
      have hkb:k<x.ps.length:=by have:=HNP.out;omega
      obtain⟨pb,po,hpa,hpb,hd⟩:=((((HPX.out.ext HB.out).ext HBw.out).ext HBk.out)).get k hkb
      have HTB:=zh (zqz ptL x.ps k hkb)
      have HPB:=zh (zzg ptL x.ps k hkb)
      have HUY:=zh (HUX.out.2 _ (List.getElem_mem hkb))
      generalize x.ps[k] =y at hd HTB HPB HUY
      have HCY:=zh (show∀u,Below wr.heap.size wr u->u.cell? ⟨pb,po+k*2,none⟩=some (.int .u64 y.1)/\u.cell? ⟨pb,po+k*2+1,none⟩=some (.int .u64 y.2)from fun u hu=>⟨(hu.cell (p:=⟨pb,po+k*2,none⟩) hpb).trans (hd 0 _ rfl),(hu.cell (p:=⟨pb,po+k*2+1,none⟩) hpb).trans (hd 1 _ rfl)⟩)
      have k0:(0:Int)<=(k:Int):=by omega
      have k1:(k:Int)<(np:Int):=by omega
      have hw2:IntKind.i64.wrap ((k:Int)+1)=(k:Int)+1:=IntWalk.i64_in _ (by have:=HNP.out;omega)
      have hpa:=HNP.out.2.1.trans hpa
      subst hpa
      have HLK:=zh (show 0<q/\q+(ptL y).length<400000000 from by
       have h1:=HQ.out
       rw [List.length_append] at h1
       have h2:=HPB.out
       have h3:=HLQ.out
       omega)
      have HNEW2:=zh (show K7++(x.ps.take k).flatMap ptL++numsL [y.1,y.2] =K7++(x.ps.take (k+1)).flatMap ptL from by rw [HTB.out];unfold ptL;simp only [List.append_assoc])
      have HS:=zh (show∀u,Below wr.heap.size wr u->u.cell? ⟨w.heap.size,5,none⟩=some (.slice (some ⟨b,o,none⟩) nv r.vc)/\u.cell? ⟨b,o+i*2+1,none⟩=some (.slice (some ⟨pb,po,none⟩) np x.c)/\u.cell? ⟨pb,po+k*2,none⟩=some (.int .u64 y.1)/\u.cell? ⟨pb,po+k*2+1,none⟩=some (.int .u64 y.2)from fun u hu=>⟨(HC.out u (HBwk.out.trans (hu.mono HBwk.out.size))).2.2.2.2.2.1,(HCX.out u (HBk.out.trans (hu.mono HBk.out.size))).2,HCY.out u hu⟩)
      clear hd
      have HNU:=zh (show∀X,Below wr.heap.size wr X->X.heap[wr.heap.size]? =some (.cells #[.int .u64 y.1, .int .u64 y.2] (26) (0,0))->Calls Tryz.prog (51) #[.slice a q c, .slice (some ⟨wr.heap.size,0,none⟩) 2 2] X (zqd (K7++(x.ps.take (k+1)).flatMap ptL) X)from fun X hX hblk=>by
       rw [<-HNEW2.out]
       exact numAt [y.1,y.2] wr X hX hblk HE.out HQ.out.symm (by have:=HLK.out;omega) rfl rfl (two_u HUY.out.1 HUY.out.2) (by have:=HLK.out;omega))
      go_upto_region 20 with fail
      have HNa:=zh (HNU.out (wr.alloc (.cells #[.int .u64 y.1, .int .u64 y.2] (26))).drew ((zb.alloc zr _).drew) (zq3 (w:=wr) rfl _))
      have HNb:=zh (HNU.out (wr.drew.alloc (.cells #[.int .u64 y.1, .int .u64 y.2] (26))) ((zb.drew).alloc zr _) (zq3 (w:=wr.drew) rfl _))
      have HDa:=zh (show Below wr.heap.size wr (wr.alloc (.cells #[.int .u64 y.1, .int .u64 y.2] (26))).drew from(zb.alloc zr _).drew)
      have HDb:=zh (show Below wr.heap.size wr (wr.drew.alloc (.cells #[.int .u64 y.1, .int .u64 y.2] (26)))from(zb.drew).alloc zr _)
      go_region_held3 (fun u=>u.cell? ⟨w.heap.size,5,none⟩=some (.slice (some ⟨b,o,none⟩) nv r.vc)/\u.cell? ⟨b,o+i*2+1,none⟩=some (.slice (some ⟨pb,po,none⟩) np x.c)/\u.cell? ⟨pb,po+k*2,none⟩=some (.int .u64 y.1)/\u.cell? ⟨pb,po+k*2+1,none⟩=some (.int .u64 y.2))
       (first|exact HS.out _ (by assumption)|exact HS.out _ zb|exact HS.out _ (zb.drew)|exact HS.out _ HDa.out|exact HS.out _ HDb.out)
       (first
        |(go_at_call 51;(with_reducible refine HNa.out.mono ?_);rintro e w3 ⟨a3,q3,p3,rfl,hq3,hE3,hb3⟩;have HQ3:=zh hq3;have HE3:=zh hE3;have hA:Below wr.heap.size wr w3:=belT HDa.out hb3;clear hq3 hE3 hb3)
        |(go_at_call 51;(with_reducible refine HNb.out.mono ?_);rintro e w3 ⟨a3,q3,p3,rfl,hq3,hE3,hb3⟩;have HQ3:=zh hq3;have HE3:=zh hE3;have hA:Below wr.heap.size wr w3:=belT HDb.out hb3;clear hq3 hE3 hb3))
      all_goals
       have HB5:=zh (HBk.out.trans (hA.mono HBk.out.size))
       clear hA
       go_wp2_with fail
       go_roundg(gk - 1)
       case measure=>omega
       case rel=>exact⟨k+1,a3,q3,p3,by omega,by go_num,rfl,HQ3,HE3,HB5⟩
end Go.Proofs.YtchcelodeepjdaaGreatDoor.Ln
