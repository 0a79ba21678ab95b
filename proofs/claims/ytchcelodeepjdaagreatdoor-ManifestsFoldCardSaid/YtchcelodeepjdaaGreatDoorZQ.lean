/- Lemmas and walks towards ManifestsFold. Conditions: each one tells its own. -/
import Derived.Test.YtchcelodeepjdaaGreatDoorMp
import Derived.Test.YtchcelodeepjdaaGreatDoorZM
import Derived.Test.YtchcelodeepjdaaGreatDoorZE
import Derived.Defers
import Derived.Recover
namespace Go.Proofs.YtchcelodeepjdaaGreatDoor.Ln
open Go.RowKit Go.Shelf Go.Herb

set_option maxRecDepth 100000 in
theorem yzk (p:Nat)(bs:List Int)(w:World)(hL:LayAt w p bs)(hl:bs.length<600000000):
  Calls Tryz.prog (38) #[.pointer (some ⟨p,0,none⟩), .slice none 0 0] w (zxs p (bs++numsL [0]) w):=by
 have HN:=zh (nums1 p w.heap.size bs 0 w rfl hL (zqs (n:=0) (by decide)) (by omega))
 clear hL
 go_enter Tryz.func38,Tryz.ntmps38
 go_upto_region 2 with(go_at_call 41;refine HN.out.mono ?_;rintro e w1 ⟨rfl,hL1,hT1⟩;have HL1:=zh hL1;have HT1:=zh hT1;clear hL1 hT1)
 go_loopg [18] 0 (fun gk iv wr=>gk=0/\iv= .int .i64 0/\wr=w1)
 case atStart=>exact⟨rfl,rfl,rfl⟩
 case round=>
  obtain⟨-,rfl,rfl⟩:=hrel
  go_wp2_with fail
  go_end0
  exact⟨rfl,HL1.out,HT1.out⟩
theorem yxn (a:Option Addr)(cap n:Nat)(w:World)(hn:a=none->n=0/\cap=0)(hl:n<1000000000)(hle:n<=cap)(hm:cap<=maxLen):
  Calls Tryz.prog 39 #[.slice a n cap] w fun e w'=>e= .returned (.slice a n n)/\w=w':=by
 cases a with
 |none=>
  obtain⟨rfl,rfl⟩:=hn rfl
  clear hn
  go_enter Tryz.func39,Tryz.ntmps39
  go_wp2
  go_ret
  exact⟨rfl,rfl⟩
 |some ad=>
  clear hn
  unfold maxLen at hm
  go_enter Tryz.func39,Tryz.ntmps39
  go_wp2
  go_ret
  exact⟨rfl,rfl⟩
def zkj (ys:List Int)(w:World)(e:Ending)(w':World):Prop:= ∃(a:Option Addr) (n:Nat),e= .returned (.tuple #[.slice a n n, .int .i64 0])/\n=ys.length/\Byt w' a ys/\Below w.heap.size w w'/\zwm a w.heap.size w'
def zkf:Nat:=300000000
set_option maxRecDepth 100000 in
set_option maxHeartbeats 2000000 in
theorem zws (r:Rv)(w:World)(h:LaidR w r)(hs:zwn r)(hg:GoodR r)(hlen:(zqt r.says).length<500000000)
  (hsh: ∀(p:Nat) (acc:List Int) (u:World),LayAt u p acc->acc.length<=zkf->Below w.heap.size w u->w.heap.size<=p->Calls Tryz.prog (38) #[.pointer (some ⟨p,0,none⟩), .slice r.sa r.sh.length r.sc] u (zxs p (acc++shL r.says.sh) u))
  (hhd:(headL r.says).length<zkf):
  Calls Tryz.prog (17) #[rtV r, .pointer none] w (zkj (zqt r.says) w):=by
 obtain⟨nb,hnb⟩: ∃n,n=r.bs.length:=⟨_,rfl⟩
 obtain⟨nl,hnl⟩: ∃n,n=r.ls.length:=⟨_,rfl⟩
 obtain⟨nv,hnv⟩: ∃n,n=r.vs.length:=⟨_,rfl⟩
 obtain⟨ns,hns⟩: ∃n,n=r.sh.length:=⟨_,rfl⟩
 have hrt:rtV r= .agg #[.int .u64 r.seq, .int .u64 r.log, .int .u64 r.next, .slice r.ba nb r.bc, .slice r.la nl r.lc, .slice r.va nv r.vc, .slice r.sa ns r.sc] :=by rw [hnb,hnl,hnv,hns]
 obtain⟨W,hW⟩: ∃W:World,W=w.alloc (.cells #[.int .u64 r.seq, .int .u64 r.log, .int .u64 r.next, .slice r.ba nb r.bc, .slice r.la nl r.lc, .slice r.va nv r.vc, .slice r.sa ns r.sc] (32)):=⟨_,rfl⟩
 have hB:Below w.heap.size w W:=by rw [hW];exact zb.alloc zr _
 have hx0:W.heap[w.heap.size]? =some (.cells #[.int .u64 r.seq, .int .u64 r.log, .int .u64 r.next, .slice r.ba nb r.bc, .slice r.la nl r.lc, .slice r.va nv r.vc, .slice r.sa ns r.sc] (32) (0,0)):=by rw [hW];exact zq3 rfl _
 have HX0:=zh hx0
 have HB:=zh hB
 have HW:=zh hW
 have HR:=zh h
 have HCK:=zh ((zkk r W ⟨h.inn.seq,h.inn.log,h.inn.next,⟨h.inn.brs.els.ext hB,h.inn.brs.nil,h.inn.brs.le,h.inn.brs.max,h.inn.brs.all⟩,⟨h.inn.lns.els.ext hB,h.inn.lns.nil,h.inn.lns.le,h.inn.lns.max,h.inn.lns.all⟩,vinE h.inn.vcs hB,h.inn.shs.ext hB,h.inn.sl,h.inn.sm,h.inn.sn,h.inn.vl⟩ hs).mono (show∀e w',zqy r W e w'->e= .returned (.int .i64 0)/\Below W.heap.size W w' from by
  rintro e w' ⟨n,rfl,⟨rfl, -⟩|⟨-,hn⟩,hb⟩
  ·exact⟨rfl,hb⟩
  ·exact absurd hg hn))
 have HSH:=zh hsh
 have HHD:=zh hhd
 have HLN:=zh hlen
 have HC:Hid (∀(A:World),(A.heap[w.heap.size]? =some (.cells #[.int .u64 r.seq, .int .u64 r.log, .int .u64 r.next, .slice r.ba nb r.bc, .slice r.la nl r.lc, .slice r.va nv r.vc, .slice r.sa ns r.sc] (32) (0,0)))->A.cell? ⟨w.heap.size,0,none⟩=some (.int .u64 r.seq)/\A.cell? ⟨w.heap.size,1,none⟩=some (.int .u64 r.log)/\A.cell? ⟨w.heap.size,2,none⟩=some (.int .u64 r.next)/\A.cell? ⟨w.heap.size,3,none⟩=some (.slice r.ba nb r.bc)/\A.cell? ⟨w.heap.size,4,none⟩=some (.slice r.la nl r.lc)/\A.cell? ⟨w.heap.size,5,none⟩=some (.slice r.va nv r.vc)/\A.cell? ⟨w.heap.size,6,none⟩=some (.slice r.sa ns r.sc)):=zh (fun A hq=>by
  have q0:=zq0 hq 0
  have q1:=zq0 hq 1
  have q2:=zq0 hq 2
  have q3:=zq0 hq 3
  have q4:=zq0 hq 4
  have q5:=zq0 hq 5
  have q6:=zq0 hq 6
  simp at q0 q1 q2 q3 q4 q5 q6
  exact⟨q0,q1,q2,q3,q4,q5,q6⟩)
 rw [hrt] at HCK
 rw [<-hns] at HSH
 rw [hW] at HCK
 obtain⟨c0,c1,c2,c3,c4,c5,c6⟩:=HC.out W hx0
 rw [hrt]
 clear h hs hg hlen hsh hhd hB hx0 hW
 have HRT:=zh hrt
 clear hrt hnb hnl hnv hns
 go_enter Tryz.func17,Tryz.ntmps17
 go_upto_region 6 with(go_at_call 16;refine HCK.out.mono ?_;rw [<-HW.out];rintro e w1 ⟨rfl,hb1⟩;have HB1:=zh hb1;have hx1:=zq4 HX0.out hb1 (zq2 HX0.out);have HX1:=zh hx1;clear hb1;clear c0 c1 c2 c3 c4 c5 c6;obtain⟨c0,c1,c2,c3,c4,c5,c6⟩:=HC.out w1 hx1;clear hx1)
 clear HCK
 obtain⟨V1,hV1⟩: ∃V:World,V=w1.alloc (.cells #[.int .u8 1] (5)):=⟨_,rfl⟩
 obtain⟨V,hV⟩: ∃V:World,V=V1.alloc (.cells #[.slice (some ⟨w1.heap.size,0,none⟩) 1 1] (90)):=⟨_,rfl⟩
 have hz1:V1.heap.size=w1.heap.size+1:=by rw [hV1];simp
 have hBV1:Below w1.heap.size w1 V1:=by rw [hV1];exact zb.alloc zr _
 have hBV:Below V1.heap.size V1 V:=by rw [hV];exact zb.alloc zr _
 have hBw1:Below w1.heap.size w1 V:=hBV1.trans (hBV.mono hBV1.size)
 have hBwV:Below w.heap.size w V:=(HB.out.trans (HB1.out.mono HB.out.size)).trans (hBw1.mono (Nat.le_trans HB.out.size HB1.out.size))
 have hws:w.heap.size<=w1.heap.size:=Nat.le_trans HB.out.size HB1.out.size
 have hLV:LayAt V (w1.heap.size+1) [1] :=by
  refine⟨some ⟨w1.heap.size,0,none⟩,1,by rw [hV];exact zq3 hz1.symm _,?_,(fun h=>by cases h),rfl,(fun ad h=>by
   cases h
   exact⟨by show w1.heap.size+1 - 1<=w1.heap.size;omega,_,zq4 (by rw [hV1];exact zq3 rfl _) hBV (show w1.heap.size<V1.heap.size by omega)⟩)⟩
  refine Els.ext ⟨fun i hi=> ?_⟩ hBV
  have hi0:i=0:=by simp at hi;omega
  subst hi0
  refine⟨w1.heap.size,0,rfl,by omega,fun j c hj=> ?_⟩
  rw [hV1,yqj]
  simpa [Ln.nb] using hj
 have hwl:w.heap.size<w1.heap.size:=Nat.lt_of_lt_of_le (zq2 HX0.out) HB1.out.size
 have HXV:=zh (zq4 HX1.out hBw1 (zq2 HX1.out))
 obtain⟨acc,hacc⟩: ∃acc,acc= [1] ++headL r.says:=⟨_,rfl⟩
 have hal:acc.length<=zkf:=by rw [hacc,List.length_append];have:=HHD.out;show 1+_<=_;omega
 have HRO:=zh (yw3 (w1.heap.size+1) [1] r w V hLV HR.out hBwV (by omega) (by decide))
 rw [HRT.out,<-hacc] at HRO
 have HS2:=zh (show∀u,LayAt u (w1.heap.size+1) acc->Below w.heap.size w u->Calls Tryz.prog (38) #[.pointer (some ⟨w1.heap.size+1,0,none⟩), .slice r.sa ns r.sc] u (zxs (w1.heap.size+1) (zqt r.says) u)from fun u hu hb=>by
  have e:zqt r.says=acc++shL r.says.sh:=by rw [hacc];unfold zqt;simp
  rw [e]
  exact HSH.out (w1.heap.size+1) acc u hu hal hb (by omega))
 have HBV:=zh hBwV
 have HPL:=zh (show w.heap.size<=w1.heap.size+1/\w.heap.size≠w1.heap.size+1 from⟨by omega,by omega⟩)
 have HV:=zh hV
 have HV1:=zh hV1
 have HZ1:=zh hz1
 rw [hV,hV1] at HRO
 obtain⟨wl,hwl2⟩: ∃wl,wl=zqt r.says:=⟨_,rfl⟩
 rw [<-hwl2] at HS2 HLN
 have HWL:=zh hwl2
 clear hV hV1 hz1 hBV1 hBV hBw1 hBwV hws hLV hacc hal hwl2 HSH HX1
 go_upto_region 8 with(first
  |(go_at_call 37;refine HRO.out.mono ?_;rw [<-HV1.out,<-HV.out];rintro e w2 ⟨rfl,hL2,hT2⟩;have HL2:=zh hL2;have HB2:=zh (hT2.below HBV.out HPL.out.1 zr);have hx2:=zze HXV.out hT2 HPL.out.2;have HX2:=zh hx2;clear c0 c1 c2 c3 c4 c5 c6;obtain⟨c0,c1,c2,c3,c4,c5,c6⟩:=HC.out w2 hx2;clear hL2 hT2 hx2)
  |(go_at_call 38;refine(HS2.out _ HL2.out HB2.out).mono ?_;rintro e w3 ⟨rfl,hL3,hT3⟩;have HL3:=zh hL3;have HB3:=zh (hT3.below HB2.out HPL.out.1 zr);clear hL3 hT3))
 obtain⟨a,cap,h1,hE,h0,rfl,hfr⟩:=HL3.out.blk
 have HFR:=zh hfr
 have HWW:=zh (show w.heap.size<=w1.heap.size from by omega)
 clear hfr
 obtain⟨q,hq⟩: ∃q,q=wl.length:=⟨_,rfl⟩
 rw [<-hq] at h1 h0
 have HQ:=zh hq
 have HE:=zh hE
 have HCLP:=zh (yxn a q q w3 (fun h=>⟨h0 h,h0 h⟩) (by have:=HLN.out;omega) zr (by have:=HLN.out;unfold maxLen;omega))
 clear hE h0 hq
 have c9:=zq0 h1 0
 simp at c9
 go_wp2_with(go_at_call 39;refine HCLP.out.mono ?_;rintro e w4 ⟨rfl,rfl⟩)
 go_ret2
 exact⟨a,q,rfl,by rw [<-HWL.out];exact HQ.out,by rw [<-HWL.out];exact HE.out,HB3.out,fun ad had=>⟨by have:=(HFR.out ad had).1;have:=HWW.out;omega,(HFR.out ad had).2⟩⟩
end Go.Proofs.YtchcelodeepjdaaGreatDoor.Ln

namespace Go.Herb
open Go

theorem xq9 {α:Type}{f:α->List Int}(l:List α)(k:Nat):((l.take k).flatMap f).length<=(l.flatMap f).length:=by
 have e:l.flatMap f=(l.take k).flatMap f++(l.drop k).flatMap f:=by rw [<-List.flatMap_append,List.take_append_drop]
 rw [e,List.length_append]
 omega
theorem zwk {α:Type}{f:α->List Int}{l:List α}{k:Nat}{x:α}(h:l[k]? =some x):((l.take k).flatMap f).length+(f x).length<=(l.flatMap f).length:=by
 obtain⟨hk,rfl⟩:=List.getElem?_eq_some_iff.1 h
 have e:=xq9 (f:=f) l (k+1)
 rw [List.take_succ_eq_append_getElem hk,List.flatMap_append,List.length_append] at e
 simpa using e
theorem zqz {α:Type}{f:α->List Int}{l:List α}{k:Nat}{x:α}(h:l[k]? =some x):(l.take (k+1)).flatMap f=(l.take k).flatMap f++f x:=by
 obtain⟨hk,rfl⟩:=List.getElem?_eq_some_iff.1 h
 rw [List.take_succ_eq_append_getElem hk,List.flatMap_append]
 simp
end Go.Herb
namespace Go.Proofs.YtchcelodeepjdaaGreatDoor.Ln
open Go.RowKit Go.Shelf Go.Herb

def lvE (l:Lv):List Int:=levL l.ts
def sdE (s:Sv):List Int:=sdL s.says
theorem xq1 (s:Sv):sdE s=numsL [s.line] ++s.lv.flatMap lvE:=by
 unfold sdE sdL
 have e:s.says.lv=s.lv.map (·.ts):=rfl
 rw [e,List.flatMap_map]
 rfl
theorem yw6 (xs:List Sv):shL (xs.map Sv.says)=numsL [(xs.length:Int)] ++xs.flatMap sdE:=by
 unfold shL
 rw [List.length_map,List.flatMap_map]
 rfl
def ykc (xs:List Sv):Prop:= ∀s∈xs,∀l∈s.lv,l.ts.length<1000000/\ ∀t∈l.ts,(0<t.low.size/\t.low.size<=32)/\(0<t.high.size/\t.high.size<=32)
theorem zxa (x:Int):numsL [x] =putN x.toNat:=by simp [numsL]
set_option maxRecDepth 100000 in
set_option maxHeartbeats 4000000 in
theorem zwu (p:Nat)(bs:List Int)(sa:Option Addr)(sc n:Nat)(xs:List Sv)(w:World)(hL:LayAt w p bs)(hS: ∀u,TurnI p w u->ShIn u sa xs)(hn:xs.length=n)(hk:ykc xs)(hn2:n<1000000)
  (hl:bs.length+10+(xs.flatMap sdE).length<700000000):
  Calls Tryz.prog (38) #[.pointer (some ⟨p,0,none⟩), .slice sa n sc] w (zxs p (bs++shL (xs.map Sv.says)) w):=by
 have HN0:=zh (nums1 p w.heap.size bs (n:Int) w rfl hL (zqs (n:=n) (by omega)) (by omega))
 have HS:=zh hS
 have HN:=zh hn
 have HK:=zh hk
 have wn:=zjh (n:=n) (by omega)
 obtain⟨D1,hD1⟩: ∃D,D=bs++numsL [(n:Int)] :=⟨_,rfl⟩
 have HD1:=zh (show bs++shL (xs.map Sv.says)=D1++xs.flatMap sdE from by rw [yw6,hn,hD1,List.append_assoc])
 have HLD:=zh (show D1.length+(xs.flatMap sdE).length<700000000 from by
  rw [hD1,List.length_append]
  have h1:=zxw [(n:Int)] (by intro x hx;rw [List.mem_singleton.1 hx];exact zqs (n:=n) (by omega))
  have h2: [(n:Int)].length=1:=rfl
  omega)
 rw [<-hD1] at HN0
 rw [HD1.out]
 clear hL hS hn hk hl hD1
 go_enter Tryz.func38,Tryz.ntmps38
 go_upto_region 2 with(go_at_call 41;refine HN0.out.mono ?_;rintro e w1 ⟨rfl,hL1,hT1⟩;have HL1:=zh hL1;have HT1:=zh hT1;clear hL1 hT1)
 clear HN0
 go_loopg [18] n (fun gk iv wr=> ∃k:Nat,k+gk=n/\iv= .int .i64 k/\Hid (LayAt wr p (D1++(xs.take k).flatMap sdE))/\Hid (TurnI p w wr))
 case atStart=>exact⟨0,by omega,rfl,zh (by simpa using HL1.out),HT1⟩
 case round=>
  obtain⟨k,hk,rfl,HLk,HTk⟩:=hrel
  by_cases hlt:k<n
  ·have hkl:k<xs.length:=by have:=HN.out;omega
   obtain⟨b,o,hsa,hlb,hcx⟩:=(HS.out wr HTk.out).els.get k hkl
   have hgk:xs[k]? =some xs[k] :=List.getElem?_eq_getElem hkl
   have HOK:=zh (fun(u:World) (hu:TurnI p w u)=>(HS.out u hu).ok _ (List.getElem_mem hkl))
   have HKS:=zh (HK.out _ (List.getElem_mem hkl))
   generalize xs[k] =s at hcx hgk HOK HKS
   have g0:=hcx 0 _ rfl
   have g1:=hcx 1 _ rfl
   have g2:=hcx 2 _ rfl
   have g3:=hcx 3 _ rfl
   simp only [Nat.add_zero] at g0
   obtain⟨A,hA⟩: ∃A:World,A=wr.alloc (.cells #[.int .u64 s.line,lvV s.l0,lvV s.l1,lvV s.l2] (57)):=⟨_,rfl⟩
   have hBA:Below wr.heap.size wr A:=by rw [hA];exact zb.alloc zr _
   have HXA:=zh (show A.heap[wr.heap.size]? =some (.cells #[.int .u64 s.line,lvV s.l0,lvV s.l1,lvV s.l2] (57) (0,0))from by rw [hA];exact zq3 rfl _)
   have hpr:=HLk.out.lt
   obtain⟨E,hE⟩: ∃E,E=D1++(xs.take k).flatMap sdE:=⟨_,rfl⟩
   have HEL:=zh (show E.length+(sdE s).length<700000000 from by
    rw [hE,List.length_append]
    have h1:=zwk (f:=sdE) hgk
    have h2:=HLD.out
    omega)
   have HEN:=zh (show D1++(xs.take (k+1)).flatMap sdE=E++sdE s from by rw [zqz hgk,<-List.append_assoc,<-hE])
   rw [<-hE] at HLk
   have HTA:=zh (HTk.out.trans (TurnI.of_below hBA))
   have hAs:A.heap.size=wr.heap.size+1:=by rw [hA];simp
   have HNS:=zh (nums1 p A.heap.size E s.line A rfl (HLk.out.ext hBA) (HOK.out w (TurnI.refl w)).wf (by have:=HEL.out;omega))
   obtain⟨E1,hE1⟩: ∃D,D=E++numsL [s.line] :=⟨_,rfl⟩
   have HE1L:=zh (show E1.length+(s.lv.flatMap lvE).length<700000000 from by
    have h1:=HEL.out
    rw [xq1,List.length_append] at h1
    rw [hE1,List.length_append]
    omega)
   have HE1N:=zh (show E++sdE s=E1++s.lv.flatMap lvE from by rw [xq1,hE1,List.append_assoc])
   rw [<-hE1,hAs] at HNS
   have HA:=zh hA
   have i0:(0:Int)<=(k:Int):=by omega
   have i1:(k:Int)<(n:Int):=by omega
   have hw1:IntKind.i64.wrap ((k:Int)+1)=(k:Int)+1:=IntWalk.i64_in _ (by omega)
   rw [hA] at HNS
   clear hcx hBA hE hE1 hAs hA hgk HLk
   rw [hsa]
   go_upto_region 5 with(go_at_call 41;refine HNS.out.mono ?_;rw [<-HA.out];rintro e w2 ⟨rfl,hL2,hT2⟩;have HL2:=zh hL2;have hx2:=zze HXA.out hT2 (by omega);have HT2:=zh (HTA.out.trans hT2);clear hL2 hT2)
   have d1:=zq0 hx2 1
   have d2:=zq0 hx2 2
   have d3:=zq0 hx2 3
   simp at d1 d2 d3
   clear hx2 g0 g1 g2 g3 HNS
   have HIX:=zh (zwi (lvV s.l0) (lvV s.l1) (lvV s.l2))
   have HGET:=zh s.lv_get
   have HS3:=zh (show s.lv.length=3 from rfl)
   obtain⟨g9,hg9⟩: ∃g9,g9=gk:=⟨_,rfl⟩
   rw [<-hg9] at hk
   have HG9:=zh hg9
   clear hg9
   go_upto_region 6 with fail
   clear d1 d2 d3
   go_loopg [29] 3 (fun gq iv w3=> ∃q:Nat,q+gq=3/\iv= .int .i64 q/\Hid (LayAt w3 p (E1++(s.lv.take q).flatMap lvE))/\Hid (TurnI p w w3))
   case atStart=>exact⟨0,rfl,rfl,zh (by simpa using HL2.out),HT2⟩
   case round=>
    obtain⟨q,hq,rfl,HLq,HTq⟩:=hrel
    by_cases hltq:q<3
    ·have j1:(q:Int)<3:=by omega
     obtain⟨l,hlq,hv⟩:=HGET.out q hltq
     have hix:=HIX.out _ q hv
     have HLO:=zh (show∀u,TurnI p w u->LvOk u l from fun u hu=>by
      have hm:=List.mem_of_getElem? hlq
      simp only [Sv.lv,List.mem_cons,List.not_mem_nil,or_false] at hm
      rcases hm with rfl|rfl|rfl
      ·exact(HOK.out u hu).l0
      ·exact(HOK.out u hu).l1
      ·exact(HOK.out u hu).l2)
     have HKL:=zh (HKS.out l (List.mem_of_getElem? hlq))
     obtain⟨m,hm⟩: ∃m,m=l.ts.length:=⟨_,rfl⟩
     have hlv:lvV l= .slice l.a m l.cap:=by rw [hm]
     rw [hlv] at hix
     have hmb:m<1000000:=by rw [hm];exact HKL.out.1
     have HM:=zh hm
     obtain⟨F,hF⟩: ∃F,F=E1++(s.lv.take q).flatMap lvE:=⟨_,rfl⟩
     have HFL:=zh (show F.length+(lvE l).length<700000000 from by
      rw [hF,List.length_append]
      have h1:=zwk (f:=lvE) hlq
      have h2:=HE1L.out
      omega)
     have HFN:=zh (show E1++(s.lv.take (q+1)).flatMap lvE=F++lvE l from by rw [zqz hlq,<-List.append_assoc,<-hF])
     rw [<-hF] at HLq
     have hum:=zqs (n:=m) (by omega)
     have HNQ:=zh (nums1 p wr.heap.size F (m:Int) wr rfl HLq.out hum (by have:=HFL.out;omega))
     obtain⟨F1,hF1⟩: ∃D,D=F++numsL [(m:Int)] :=⟨_,rfl⟩
     have HF1L:=zh (show F1.length+(l.ts.flatMap tbL).length<700000000 from by
      have h1:=HFL.out
      unfold lvE levL at h1
      rw [List.length_append,<-hm] at h1
      rw [hF1,List.length_append]
      omega)
     have HF1N:=zh (show F++lvE l=F1++l.ts.flatMap tbL from by unfold lvE levL;rw [hF1,List.append_assoc,hm])
     rw [<-hF1] at HNQ
     have wm:=zjh (n:=m) (by omega)
     have hw2:IntKind.i64.wrap ((q:Int)+1)=(q:Int)+1:=IntWalk.i64_in _ (by omega)
     have j0:(0:Int)<=(q:Int):=by omega
     clear hv hlv hm hF hF1 hum hlq
     obtain⟨g8,hg8⟩: ∃g8,g8=gk:=⟨_,rfl⟩
     rw [<-hg8] at hq
     have HG8:=zh hg8
     clear hg8
     go_upto_region 10 with(go_at_call 41;refine HNQ.out.mono ?_;rintro e w4 ⟨rfl,hL4,hT4⟩;have HL4:=zh hL4;have HT4:=zh (HTq.out.trans hT4);clear hL4 hT4)
     clear HNQ
     go_loopg [40] m (fun gj iv w5=> ∃j:Nat,j+gj=m/\iv= .int .i64 j/\Hid (LayAt w5 p (F1++(l.ts.take j).flatMap tbL))/\Hid (TurnI p w w5))
     case atStart=>exact⟨0,by omega,rfl,zh (by simpa using HL4.out),HT4⟩
     case round=>
      obtain⟨j,hj,rfl,HLj,HTj⟩:=hrel
      by_cases hltj:j<m
      ·have hjl:j<l.ts.length:=by have:=HM.out;omega
       obtain⟨tb,tO,hta,htb,htc⟩:=(HLO.out wr HTj.out).tabs.get j hjl
       have hgj:l.ts[j]? =some l.ts[j] :=List.getElem?_eq_getElem hjl
       have HTW:=zh ((HLO.out w (TurnI.refl w)).wf _ (List.getElem_mem hjl))
       have HTKy:=zh (HKL.out.2 _ (List.getElem_mem hjl))
       generalize l.ts[j] =t at htc hgj HTW HTKy
       have g0:=htc 0 _ rfl
       have g1:=htc 1 _ rfl
       have g2:=htc 2 _ rfl
       have g3:=htc 3 _ rfl
       simp only [Nat.add_zero] at g0
       obtain⟨A,hA⟩: ∃A:World,A=wr.alloc (.cells #[.int .u64 t.file, .int .u32 t.bytes, .string t.low, .string t.high] (51)):=⟨_,rfl⟩
       have hBA:Below wr.heap.size wr A:=by rw [hA];exact zb.alloc zr _
       have HXA:=zh (show A.heap[wr.heap.size]? =some (.cells #[.int .u64 t.file, .int .u32 t.bytes, .string t.low, .string t.high] (51) (0,0))from by rw [hA];exact zq3 rfl _)
       have hpr:=HLj.out.lt
       obtain⟨G,hG⟩: ∃G,G=F1++(l.ts.take j).flatMap tbL:=⟨_,rfl⟩
       have HGL:=zh (show G.length+(tbL t).length<700000000 from by
        rw [hG,List.length_append]
        have h1:=zwk (f:=tbL) hgj
        have h2:=HF1L.out
        omega)
       have HGN:=zh (show F1++(l.ts.take (j+1)).flatMap tbL=G++tbL t from by rw [zqz hgj,<-List.append_assoc,<-hG])
       rw [<-hG] at HLj
       have HTA:=zh (HTj.out.trans (TurnI.of_below hBA))
       have hAs:A.heap.size=wr.heap.size+1:=by rw [hA];simp
       have wt:IntKind.u64.wrap t.bytes=t.bytes:=by rw [IntKind.wrap_u64];have:=HTW.out.2.1;omega
       have ubt:U64 t.bytes:=by
        unfold U64
        simp [Lit.wf,IntKind.min,IntKind.max,IntKind.signed,IntKind.bits]
        have:=HTW.out.2.1
        omega
       have HNJ:=zh (nums2 p A.heap.size G t.file t.bytes A rfl (HLj.out.ext hBA) HTW.out.1 ubt (by have:=HGL.out;omega))
       obtain⟨G1,hG1⟩: ∃D,D=G++numsL [t.file,t.bytes] :=⟨_,rfl⟩
       obtain⟨G2,hG2⟩: ∃D,D=G1++putT t.low:=⟨_,rfl⟩
       have hG3:G++tbL t=G2++putT t.high:=by unfold tbL;rw [hG2,hG1];simp only [List.append_assoc]
       have HG1L:=zh (show G1.length<700000000/\G2.length<700000000 from by
        have h1:=HGL.out
        have h2:=congrArg List.length hG3
        rw [List.length_append,List.length_append] at h2
        have h3:=congrArg List.length hG2
        rw [List.length_append] at h3
        omega)
       have HG3:=zh hG3
       rw [<-hG1,hAs] at HNJ
       have HTL:=zh (fun(u:World) (hu:LayAt u p G1)=>yk6 p G1 t.low u hu (by have:=HG1L.out;have:=HTKy.out;omega) HTKy.out.1.1)
       rw [<-hG2] at HTL
       have HTH:=zh (fun(u:World) (hu:LayAt u p G2)=>yk6 p G2 t.high u hu (by have:=HG1L.out;have:=HTKy.out;omega) HTKy.out.2.1)
       rw [<-hG3] at HTH
       have HA:=zh hA
       have l0:(0:Int)<=(j:Int):=by omega
       have l1:(j:Int)<(m:Int):=by omega
       have hw3:IntKind.i64.wrap ((j:Int)+1)=(j:Int)+1:=IntWalk.i64_in _ (by omega)
       rw [hA] at HNJ
       clear htc hBA hG hG1 hG2 hG3 hAs hA hgj ubt
       rw [hta]
       go_wp2_with(first
        |(go_at_call 41;refine HNJ.out.mono ?_;rw [<-HA.out];rintro e w6 ⟨rfl,hL6,hT6⟩;have HL6:=zh hL6;have hx6:=zze HXA.out hT6 (by omega);have HX6:=zh hx6;have HT6:=zh (HTA.out.trans hT6);have e2:=zq0 hx6 2;simp at e2;clear hL6 hT6 hx6 g0 g1 g2 g3)
        |(go_at_call 78;refine(HTL.out _ HL6.out).mono ?_;rintro e w7 ⟨rfl,hL7,hT7⟩;have HL7:=zh hL7;have hx7:=zze HX6.out hT7 (by omega);have HT7:=zh (HT6.out.trans hT7);have e3:=zq0 hx7 3;simp at e3;clear hL7 hT7 hx7 e2 HTL)
        |(go_at_call 78;refine(HTH.out _ HL7.out).mono ?_;rintro e w8 ⟨rfl,hL8,hT8⟩;have HL8:=zh hL8;have HT8:=zh (HT7.out.trans hT8);clear hL8 hT8))
       rw [<-hta]
       go_roundg(gk - 1)
       case measure=>omega
       case rel=>exact⟨j+1,by omega,by go_num,zh (by rw [HGN.out];exact HL8.out),HT8⟩
      ·have l1: ¬(j:Int)<(m:Int):=by omega
       have HLE:=zh (show LayAt wr p (E1++(s.lv.take (q+1)).flatMap lvE)from by
        have:=HLj.out
        rw [List.take_of_length_le (by have:=HM.out;omega),<-HF1N.out,<-HFN.out] at this
        exact this)
       go_wp2_with fail
       go_roundg(g8 - 1)
       case measure=>have:=HG8.out;omega
       case rel=>exact⟨q+1,by omega,by go_num,HLE,HTj⟩
    ·have j1: ¬(q:Int)<3:=by omega
     have HLE:=zh (show LayAt wr p (D1++(xs.take (k+1)).flatMap sdE)from by
      have:=HLq.out
      rw [List.take_of_length_le (by have:=HS3.out;omega),<-HE1N.out,<-HEN.out] at this
      exact this)
     go_wp2_with fail
     rw [<-hsa]
     go_roundg(g9 - 1)
     case measure=>have:=HG9.out;omega
     case rel=>exact⟨k+1,by omega,by go_num,HLE,HTq⟩
  ·have i1: ¬(k:Int)<(n:Int):=by omega
   have HE:=zh (show LayAt wr p (D1++xs.flatMap sdE)from by
    have:=HLk.out
    rwa [List.take_of_length_le (by have:=HN.out;omega)] at this)
   go_wp2_with fail
   go_end0
   exact⟨rfl,HE.out,HTk.out⟩
theorem yk1 (p:Nat)(bs:List Int)(sa:Option Addr)(sc n:Nat)(xs:List Sv)(w0 w:World)(hL:LayAt w p bs)(hS:ShIn w0 sa xs)(hn:xs.length=n)(hB:Below w0.heap.size w0 w)(hp:w0.heap.size<=p)(hk:ykc xs)(hn2:n<1000000)
  (hl:bs.length+10+(xs.flatMap sdE).length<700000000):
  Calls Tryz.prog (38) #[.pointer (some ⟨p,0,none⟩), .slice sa n sc] w (zxs p (bs++shL (xs.map Sv.says)) w):=
 zwu p bs sa sc n xs w hL (fun _ hu=>hS.ext (hu.below hB hp zr)) hn hk hn2 hl
end Go.Proofs.YtchcelodeepjdaaGreatDoor.Ln

namespace Go.Proofs.YtchcelodeepjdaaGreatDoor.Ln
open Go.RowKit Go.Shelf Go.Herb

abbrev MapS (w:World)(b:Nat)(m:List (Int × Sv)):Prop:=MapIs Tryz.prog (26) eU shV w b m
theorem zeroS (w:World):(zeroValue (57)).run Tryz.prog w= .ok (.agg #[.int .u64 0, .slice none 0 0, .slice none 0 0, .slice none 0 0]) w:=by kernel_rfl
theorem MapIs.storeS {w:World}{b:Nat}{m:List (Int × Sv)}(h:MapS w b m)(s:Sv)(hk:U64 s.line)(hl:m.length<100000000):
  ∃w',(Instr.mapUpdate (94) (.map (some b)) (.int .u64 s.line) (shV s)).run Tryz.prog w= .ok () w'/\MapS w' b (putL m s.line s)/\w.grownBy w' (some b)/\w'.heap.size=w.heap.size:=
 MapIs.store h lawU zjo Tryz.underlying94 (by unfold maxLen;omega) s (Maps.keyOf_int_mk Tryz.underlying26 hk)
def putS (m:List (Int × Sv))(xs:List Sv):List (Int × Sv):=xs.foldl (fun m s=>putL m s.line s) m
theorem yz7 (m:List (Int × Sv)){xs:List Sv}{k:Nat}{x:Sv}(h:xs[k]? =some x):putS m (xs.take (k+1))=putL (putS m (xs.take k)) x.line x:=by
 obtain⟨hk,rfl⟩:=List.getElem?_eq_some_iff.1 h
 unfold putS
 rw [List.take_succ_eq_append_getElem hk,List.foldl_append]
 rfl
theorem zkv (m:List (Int × Sv))(xs:List Sv):(putS m xs).length<=m.length+xs.length:=by
 unfold putS
 induction xs generalizing m with
 |nil=>simp
 |cons x xs ih=>
  have h1:=ih (putL m x.line x)
  have h2:=zjf m x.line x
  rw [List.foldl_cons,List.length_cons]
  omega
def ByPost (xs:List Sv)(w:World)(e:Ending)(w':World):Prop:= ∃b,e= .returned (.map (some b))/\MapS w' b (putS [] xs)/\Below w.heap.size w w'/\w.heap.size<=b
set_option maxRecDepth 100000 in
set_option maxHeartbeats 2000000 in
theorem zw5 (sa:Option Addr)(sc n:Nat)(xs:List Sv)(w:World)(hS:ShIn w sa xs)(hn:xs.length=n)(hl:n<1000000):
  Calls Tryz.prog (40) #[.slice sa n sc] w (ByPost xs w):=by
 have hmm:= @run_makeMap Tryz.prog
 have HS:=zh hS
 have HN:=zh hn
 obtain⟨V,hV⟩: ∃V:World,V=w.alloc (.map #[] 0):=⟨_,rfl⟩
 have HM0:=zh (show MapS V w.heap.size [] from by rw [hV];exact MapIs.made w)
 have HB0:=zh (show Below w.heap.size w V from by rw [hV];exact zb.alloc zr _)
 have HV:=zh hV
 clear hS hn hV
 go_enter Tryz.func40,Tryz.ntmps40
 go_upto_region 3 with fail
 rw [<-HV.out]
 go_loopg [9] n (fun gk iv wr=> ∃k:Nat,k+gk=n/\iv= .int .i64 k/\Hid (MapS wr w.heap.size (putS [] (xs.take k)))/\Hid (Below w.heap.size w wr))
 case atStart=>exact⟨0,by omega,rfl,zh (by simpa [putS] using HM0.out),HB0⟩
 case round=>
  obtain⟨k,hk,rfl,HMk,HBk⟩:=hrel
  by_cases hlt:k<n
  ·have hkl:k<xs.length:=by have:=HN.out;omega
   obtain⟨b,o,hsa,hlb,hcx⟩:=(HS.out.els.ext HBk.out).get k hkl
   have hgk:xs[k]? =some xs[k] :=List.getElem?_eq_getElem hkl
   have hok:=HS.out.ok _ (List.getElem_mem hkl)
   generalize xs[k] =s at hcx hgk hok
   have g0:=hcx 0 _ rfl
   have g1:=hcx 1 _ rfl
   have g2:=hcx 2 _ rfl
   have g3:=hcx 3 _ rfl
   simp only [Nat.add_zero] at g0
   obtain⟨A,hA⟩: ∃A:World,A=wr.alloc (.cells #[.int .u64 s.line,lvV s.l0,lvV s.l1,lvV s.l2] (57)):=⟨_,rfl⟩
   have hBA:Below wr.heap.size wr A:=by rw [hA];exact zb.alloc zr _
   have hml:=zkv [] (xs.take k)
   have hmA:MapS A w.heap.size (putS [] (xs.take k)):=HMk.out.same (hBA.block _ HMk.out.lt)
   obtain⟨Z,hst,hM3,hg3,hs3⟩:=MapIs.storeS hmA s hok.wf (by rw [List.length_take] at hml;simp at hml;omega)
   have hBA2:=HBk.out.trans (hBA.mono HBk.out.size)
   have HBZ:=zh (show Below w.heap.size w Z from hBA2.grown hg3 hBA2.size (fun q e=>by injection e with e;omega))
   have HMZ:=zh (show MapS Z w.heap.size (putS [] (xs.take (k+1)))from by rw [yz7 _ hgk];exact hM3)
   have i0:(0:Int)<=(k:Int):=by omega
   have i1:(k:Int)<(n:Int):=by omega
   have hw1:IntKind.i64.wrap ((k:Int)+1)=(k:Int)+1:=IntWalk.i64_in _ (by omega)
   rw [hA] at hst
   clear hcx hBA hBA2 hA hgk hok hml hmA hM3 hg3 hs3
   rw [hsa]
   go_wp2_with fail
   rw [<-hsa]
   go_roundg(gk - 1)
   case measure=>omega
   case rel=>exact⟨k+1,by omega,by go_num,HMZ,HBZ⟩
  ·have hkn:k=n:=by omega
   have HMF:=zh (show MapS wr w.heap.size (putS [] xs)from by
    have h1:=HMk.out
    rwa [List.take_of_length_le (by have:=HN.out;omega)] at h1)
   go_wp2_with fail
   go_ret
   unfold ByPost
   exact⟨_,rfl,HMF.out,HBk.out,zr⟩
end Go.Proofs.YtchcelodeepjdaaGreatDoor.Ln

namespace Go.Herb
def delL {α β:Type} [DecidableEq α](m:List (α × β))(a:α):List (α × β):=m.filter (fun p=>decide (p.1≠a))
theorem yva {γ:Type}{p:γ->Bool}: ∀{l l':List γ},l'.Sublist l->l.Nodup->(∀x,x∈l'↔(x∈l/\p x=true))->l'=l.filter p:=by
 intro l l' h
 induction h with
 |slnil=>exact fun _ _=>rfl
 | @cons l1 l2 a h ih=>
  intro hn hm
  rw [List.nodup_cons] at hn
  have ha: ¬p a=true:=fun hp=>hn.1 (h.subset ((hm a).2 ⟨List.mem_cons_self,hp⟩))
  rw [List.filter_cons_of_neg ha]
  refine ih hn.2 (fun x=>⟨fun hx=>⟨h.subset hx,((hm x).1 hx).2⟩,fun hx=>(hm x).2 ⟨List.mem_cons_of_mem _ hx.1,hx.2⟩⟩)
 | @cons_cons l1 l2 a h ih=>
  intro hn hm
  rw [List.nodup_cons] at hn
  have ha:p a=true:=((hm a).1 List.mem_cons_self).2
  rw [List.filter_cons_of_pos ha]
  congr 1
  refine ih hn.2 (fun x=>⟨fun hx=>⟨h.subset hx,((hm x).1 (List.mem_cons_of_mem _ hx)).2⟩,fun hx=> ?_⟩)
  rcases List.mem_cons.1 ((hm x).2 ⟨List.mem_cons_of_mem _ hx.1,hx.2⟩)with rfl|h2
  ·exact absurd hx.1 hn.1
  ·exact h2
end Go.Herb
namespace Go.Proofs.YtchcelodeepjdaaGreatDoor.Ln
open Go.RowKit Go.Shelf Go.Herb
theorem MapIs.dropS {w:World}{b:Nat}{m:List (Int × Sv)}(h:MapS w b m)(k:Int)(hk:U64 k)(ty:TypeId):
  ∃w',(Builtin.delete_ #[(94),(26)] ty #[.map (some b), .int .u64 k]).run Tryz.prog w= .ok (.tuple #[]) w'/\MapS w' b (delL m k)/\w.grownBy w' (some b)/\w'.heap.size=w.heap.size:=by
 obtain⟨w',m',h1,h2,h3,h4,h5,h6⟩:=Go.Herb.MapIs.drop h lawU zjo Tryz.underlying94 (Maps.keyOf_int_mk Tryz.underlying26 hk) ty
 have hn:m.Nodup:=by
  have h7:=h.nodup
  unfold List.Nodup at h7 ⊢
  rw [List.pairwise_map] at h7
  exact h7.imp (fun h e=>h (by rw [e]))
 have e:m'=delL m k:=yva h5 hn (fun x=>by rw [h6 x];simp)
 subst e
 exact⟨w',h1,h2,h3,h4⟩
end Go.Proofs.YtchcelodeepjdaaGreatDoor.Ln

namespace Go.Proofs.YtchcelodeepjdaaGreatDoor.Ln
open Go.RowKit Go.Shelf Go.Herb

set_option maxRecDepth 100000 in
theorem zym (p q:Addr)(w:World):
  CallsD Tryz.prog (25) #[.pointer (some p), .pointer (some q)] .returning w fun e u' w'=>e= .returned (.tuple #[])/\u'= .returning/\w'=w:=by
 refine callsD_of_wpS Tryz.func25 rfl fun c₀ cs hu=> ?_
 apply wpS_seq
 apply wpS_region
 simp [wpOpsS,go_sem,recoverD,hu,Tryz.ntmps25,Exit.thenS]
 apply wpS_seq
 apply wpS_region
 simp [wpOpsS,go_sem,Exit.thenS]
 refine wpS_cond (t:=false) (by simp [Act.eval]) ?_
 simp only [Bool.false_eq_true,if_false]
 refine wpS_of_wp (wp_skip ?_)
 cases c₀
 simp_all [bodyPostS,results,Tryz.results25]
set_option maxRecDepth 100000 in
theorem zwq (w:World):Calls Tryz.prog (11) #[.slice none 0 0] w fun e w'=>e= .returned (.tuple #[.agg #[.int .u64 0, .int .u64 0, .int .u64 0, .slice none 0 0, .slice none 0 0, .slice none 0 0, .slice none 0 0], .int .i64 7])/\Below w.heap.size w w':=by
 have hmf: ∀(fn:Fn) (first cap:Array Value) (w:World),(Instr.makeFunc fn first cap).run Tryz.prog w= .ok (.func fn first cap) w:=fun _ _ _ _=>rfl
 have HB:=zh (Below.refl w.heap.size w)
 go_enter_defers Tryz.func11,Tryz.ntmps11
 go_wp2
 refine leaves_cons (f:=25) (args:= #[.pointer (some ⟨w.heap.size,0,none⟩), .pointer (some ⟨w.heap.size+1,0,none⟩)]) (by simp) (by simp [go_sem]) ?_
 refine(zym ⟨w.heap.size,0,none⟩ ⟨w.heap.size+1,0,none⟩ _).mono ?_
 rintro e u' w'' ⟨rfl,rfl,rfl⟩
 simp [Leaves,settle,results,Tryz.results11,go_sem]
 exact balc (balc HB.out)
def zzn (g:Nat):Rv:=⟨0,1,2,some ⟨g,0,none⟩,1, [(mainB,0,0)],some ⟨g+1,0,none⟩,1, [(0,0)],some ⟨g+1+1,0,none⟩,1, [⟨0,none,0, []⟩],none,0, []⟩
structure zk8 (w':World)(g:Nat):Prop where
 b:w'.heap[g]? =some (.cells #[.string mainB, .int .u64 0, .int .u64 0] (73) (0,0))
 l:w'.heap[g+1]? =some (.cells #[.int .u64 0, .int .u64 0] (53) (0,0))
 v:w'.heap[g+1+1]? =some (.cells #[.int .u64 0, .slice none 0 0] (76) (0,0))
theorem yy1 (w:World):Calls Tryz.prog (23) #[] w fun e w'=>e= .returned (rtV (zzn (w.heap.size+1)))/\zk8 w' (w.heap.size+1)/\Below w.heap.size w w':=by
 go_enter Tryz.func23,Tryz.ntmps23
 go_wp2_with fail
 refine bodyPost_ret (v:=rtV (zzn (w.heap.size+1))) (by simp [results,Tryz.results23,go_sem];exact⟨rfl,rfl,rfl,⟨rfl,rfl,rfl⟩,⟨rfl,rfl,rfl⟩,⟨rfl,rfl,rfl⟩,rfl,rfl,rfl⟩) rfl ?_
 refine⟨rfl,⟨?_,?_,?_⟩,balc (balc (balc (balc zb)))⟩
 ·exact zz3 (zz3 (zq3 (by simp) _))
 ·exact zz3 (zq3 (by simp) _)
 ·exact zq3 (by simp) _
theorem zk8.ext {w w':World}{g:Nat}(h:zk8 w g)(hb:Below w.heap.size w w'):zk8 w' g:=⟨zq4 h.b hb (zq2 h.b),zq4 h.l hb (zq2 h.l),zq4 h.v hb (zq2 h.v)⟩
theorem yql {α:Type}{enc:α->List Value}{s:Nat}{w:World}{g:Nat}(x:α){cs:Array Value}{t:TypeId}(h:w.heap[g]? =some (.cells cs t (0,0)))(hc:cs.toList=enc x):Els enc s w (some ⟨g,0,none⟩) [x] :=
 ⟨fun i hi=>by
  have hi0:i=0:=by simp at hi;omega
  subst hi0
  refine⟨g,0,rfl,zq2 h,fun j c hj=> ?_⟩
  rw [zq0 h,Nat.zero_mul,Nat.add_zero,Nat.zero_add,<-Array.getElem?_toList,hc]
  exact hj⟩
theorem zk8.laid {w:World}{g:Nat}(h:zk8 w g):LaidR w (zzn g):=by
 have u0:U64 0:=zqs (n:=0) (by decide)
 have u1:U64 1:=zqs (n:=1) (by decide)
 have u2:U64 2:=zqs (n:=2) (by decide)
 refine⟨⟨u0,u1,u2,⟨yql _ h.b rfl,(fun e=>by cases e),zr,by show 1<=maxLen;unfold maxLen;decide,?_⟩,⟨yql _ h.l rfl,(fun e=>by cases e),zr,by show 1<=maxLen;unfold maxLen;decide,?_⟩,⟨yql _ h.v rfl,?_,?_,by show 1<=maxLen;unfold maxLen;decide,?_⟩,⟨Els.nil _ _ _ _,by simp [zzn]⟩,zr,by show 0<=maxLen;omega,fun _=>rfl,⟨zr,by show 1<=maxLen;unfold maxLen;decide⟩⟩,(show 1<=100 by decide),(show 1<=100 by decide),(show 1<=12 by decide),?_,?_⟩
 ·intro x hx
  rw [List.mem_singleton.1 hx]
  exact⟨by show 4<=maxLen;unfold maxLen;decide,u0,u0⟩
 ·intro x hx
  rw [List.mem_singleton.1 hx]
  exact⟨u0,u0⟩
 ·intro x hx
  rw [List.mem_singleton.1 hx]
  exact Els.nil _ _ _ _
 ·intro x hx
  rw [List.mem_singleton.1 hx]
  exact⟨u0,by simp⟩
 ·intro x hx
  rw [List.mem_singleton.1 hx]
  exact Nat.zero_le _
 ·intro x hx
  rw [List.mem_singleton.1 hx]
  exact⟨by show 0<4;decide,by show 4<=1000;decide⟩
 ·intro x hx
  rw [List.mem_singleton.1 hx]
  exact Nat.zero_le _
theorem yjb (g:Nat):zwn (zzn g):=by
 refine⟨(show 1<1000000 by decide),(show 1<1000000 by decide),(show 1<1000000 by decide),?_,(show 0<=1000000 by decide),?_,?_⟩
 ·show(2:Nat)<1000000;decide
 ·show(0:Nat)<=1000000;decide
 ·simp [zzn]
end Go.Proofs.YtchcelodeepjdaaGreatDoor.Ln

namespace Go.Proofs.YtchcelodeepjdaaGreatDoor.Ln
open Go.RowKit Go.Shelf Go.Herb

def zyj (xs ys:List Int)(w:World)(e:Ending)(w':World):Prop:= ∃q:Bool,e= .returned (.bool q)/\(q=true↔xs=ys)/\Below w.heap.size w w'
set_option maxRecDepth 100000 in
theorem ywn (a b:Option Addr)(ca cb n m:Nat)(xs ys:List Int)(w:World)(hx:Byt w a xs)(hy:Byt w b ys)(hn:xs.length=n)(hm:ys.length=m)(hl:n<1000000000):
  Calls Tryz.prog (46) #[.slice a n ca, .slice b m cb] w (zyj xs ys w):=by
 have HX:=zh hx
 have HY:=zh hy
 have HN:=zh hn
 have HM:=zh hm
 have HB0:=zh (Below.refl w.heap.size w)
 clear hx hy hn hm
 go_enter Tryz.func46,Tryz.ntmps46
 go_wp2_with fail
 go_loopg [5] n (fun gk iv wr=> ∃k:Nat,k+gk=n/\iv= .int .i64 k/\Hid (xs.take k=ys.take k)/\Hid (Below w.heap.size w wr))
 case atStart=>exact⟨0,by omega,rfl,zh rfl,HB0⟩
 case round=>
  obtain⟨k,hk,rfl,HE,HB⟩:=hrel
  by_cases hlt:k<n/\k<m
  ·obtain⟨hlt,hlm⟩:=hlt
   have hkx:k<xs.length:=by have:=HN.out;omega
   have hky:k<ys.length:=by have:=HM.out;omega
   obtain⟨xb,xo,rfl,hxl,hxc⟩:=HX.out.get k hkx
   obtain⟨yb,yo,rfl,hyl,hyc⟩:=HY.out.get k hky
   have c0:=(HB.out.cell (p:=⟨xb,_,none⟩) hxl).trans (hxc 0 _ rfl)
   have c1:=(HB.out.cell (p:=⟨yb,_,none⟩) hyl).trans (hyc 0 _ rfl)
   simp only [Nat.add_zero,Nat.mul_one] at c0 c1
   have HXE:=zh (List.take_succ_eq_append_getElem hkx)
   have HYE:=zh (List.take_succ_eq_append_getElem hky)
   have HXG:=zh (List.getElem?_eq_getElem hkx)
   have HYG:=zh (List.getElem?_eq_getElem hky)
   clear hxc hyc
   generalize xs[k] =x at*
   generalize ys[k] =y at*
   have i0:(0:Int)<=(k:Int):=by omega
   have i1:(k:Int)<(n:Int):=by omega
   have i2:(k:Int)<(m:Int):=by omega
   have hw1:IntKind.i64.wrap ((k:Int)+1)=(k:Int)+1:=IntWalk.i64_in _ (by omega)
   by_cases hxy:x=y
   ·have d1:(x==y)=true:=by rw [hxy];exact beq_self_eq_true _
    have HE2:=zh (show xs.take (k+1)=ys.take (k+1)by rw [HXE.out,HYE.out,HE.out,hxy])
    clear hxy
    go_upto_region 4 with fail
    go_quiet (fail)
    have HBu:=zh (show Below w.heap.size w (wr.drewN nq)from⟨HB.out.os,HB.out.tape,HB.out.output,HB.out.size,HB.out.block⟩)
    go_wp2
    go_roundg(gk - 1)
    case measure=>omega
    case rel=>exact⟨k+1,by omega,by go_num,HE2,HBu⟩
   ·have d1:(x==y)=false:=beq_eq_false_iff_ne.2 hxy
    have HNE:=zh (show xs≠ys from fun h=>hxy (by
     have:=HXG.out
     rw [h,HYG.out] at this
     exact(Option.some.inj this).symm))
    clear hxy
    go_upto_region 4 with fail
    go_quiet (fail)
    have HBu:=zh (show Below w.heap.size w (wr.drewN nq)from⟨HB.out.os,HB.out.tape,HB.out.output,HB.out.size,HB.out.block⟩)
    go_wp2
    go_ret
    unfold zyj
    exact⟨false,rfl,⟨(fun h=>by cases h),fun h=>absurd h HNE.out⟩,HBu.out⟩
  ·have HT:=zh (show n=m->xs=ys from fun hnm=>by
    have:=HE.out
    rwa [List.take_of_length_le (by have:=HN.out;omega),List.take_of_length_le (by have:=HM.out;omega)] at this)
   have HF:=zh (show xs=ys->n=m from fun h=>by rw [<-HN.out,<-HM.out,h])
   by_cases h1:k<n
   ·have i1:(k:Int)<(n:Int):=by omega
    have i2: ¬(k:Int)<(m:Int):=by omega
    have i3:(n:Int)≠(m:Int):=by omega
    have d3:((n:Int)==(m:Int))=false:=beq_eq_false_iff_ne.2 i3
    have HNO:=zh (show xs≠ys from fun h=>by have:=HF.out h;omega)
    go_wp2_with fail
    go_ret
    unfold zyj
    exact⟨false,rfl,⟨(fun h=>by cases h),fun h=>absurd h HNO.out⟩,HB.out⟩
   ·have i1: ¬(k:Int)<(n:Int):=by omega
    go_wp2_with fail
    go_ret
    unfold zyj
    refine⟨((n:Int)==(m:Int)),rfl,?_,HB.out⟩
    rw [beq_iff_eq]
    exact⟨fun h=>HT.out (by omega),fun h=>by rw [HF.out h]⟩
theorem yx8 (a b:Option Addr)(ca cb n m:Nat)(xs ys:List Int)(w:World)(hx:Byt w a xs)(hy:Byt w b ys)(hn:xs.length=n)(hm:ys.length=m)(hl:n<1000000000):
  Calls Tryz.prog (18) #[.slice a n ca, .slice b m cb] w (zyj xs ys w):=by
 have H:=zh (ywn a b ca cb n m xs ys w hx hy hn hm hl)
 clear hx hy hn hm
 go_enter Tryz.func18,Tryz.ntmps18
 go_wp2_with(go_at_call 46;refine H.out.mono ?_;rintro e w' ⟨q,rfl,hq,hb⟩;have HQ:=zh hq;have HB:=zh hb;clear hq hb)
 go_ret
 unfold zyj
 exact⟨q,rfl,HQ.out,HB.out⟩
def zyq:List Int:= [1,0,1,2,1,4,109,97,105,110,0,0,1,0,0,1,0,0,0]
theorem yjc (g:Nat):zqt (zzn g).says=zyq:=by
 simp [zqt,headL,zzn,Rv.says,Vx.vsOf,numsL,brL,putT,strL,lnL,vcL,shL,mainB,zk1,zyq,ByteArray.size]
theorem ywr (g:Nat):GoodR (zzn g):=by
 refine⟨⟨⟨rfl,List.pairwise_singleton _ _,fun i x hi hx=> ?_⟩,(show 1<=48 by decide),⟨fun x hx=> ?_,List.pairwise_singleton _ _,fun x hx=> ?_,?_⟩,(show 1<=1 by decide),(show 1<=12 by decide)⟩,⟨⟨List.pairwise_singleton _ _,fun x hx=> ?_⟩,List.Perm.refl _,fun n hn=> ?_,(show(1:Int)<2 by decide),⟨?_,List.Pairwise.nil,List.nodup_nil,?_⟩⟩⟩
 ·rw [List.getElem?_eq_none (by show 1<=i;omega)] at hx;cases hx
 ·rw [List.mem_singleton.1 hx];decide+kernel
 ·rw [List.mem_singleton.1 hx];exact⟨0,rfl⟩
 ·exact List.pairwise_singleton _ _
 ·rw [List.mem_singleton.1 hx];exact⟨List.Pairwise.nil,fun q hq=>by cases hq⟩
 ·have:n∈ [(0:Int),0] :=hn
  simp at this
  rw [this]
  exact Int.le_refl _
 ·intro s hs;cases hs
 ·intro f hf;cases hf
end Go.Proofs.YtchcelodeepjdaaGreatDoor.Ln
