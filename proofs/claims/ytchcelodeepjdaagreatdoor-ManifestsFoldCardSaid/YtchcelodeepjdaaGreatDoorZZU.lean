/- Lemmas and walks towards ManifestsFold. Conditions: each one tells its own. -/
import Derived.Test.YtchcelodeepjdaaGreatDoorMp
import Derived.Test.YtchcelodeepjdaaGreatDoorZZS
import Derived.Test.YtchcelodeepjdaaGreatDoorZZp
namespace Go.Proofs.YtchcelodeepjdaaGreatDoor.Ln
open Go.RowKit Go.Shelf Go.Herb

theorem sdL_lv (s:Sv):sdL s.says=numsL [s.line] ++s.lv.flatMap (fun l:Lv=>levL l.ts):=by
 unfold sdL
 rw [Sv.lv_says,List.flatMap_map]
 rfl
theorem tbL_size (t:Tb):t.low.size+t.high.size<=(tbL t).length:=by
 unfold tbL putT
 simp only [List.length_append,zw1]
 omega
set_option maxRecDepth 100000 in
set_option maxHeartbeats 4000000 in
theorem zk5 (a:Option Addr)(n c:Nat)(ys:List Int)(sa:Option Addr)(ns sc:Nat)(xs:List Sv)(w:World)(hS:ShIn w sa xs)(hns:xs.length=ns)(hy:Byt w a ys)(hn:ys.length=n)(h0:0<n)(hl:n+(shL (xs.map Sv.says)).length<400000000)(hnl:ns<400000000)(hlev: ∀s∈xs,∀l∈s.lv,l.ts.length<400000000):
  Calls Tryz.prog (47) #[.slice a n c, .slice sa ns sc] w (zqd (ys++shL (xs.map Sv.says)) w):=by
 have HS:=zh hS
 have HN:=zh hns
 have HL:=zh (show ns<400000000/\ ∀s∈xs,∀l∈s.lv,l.ts.length<400000000 from⟨hnl,hlev⟩)
 have HE:=zh hy
 have HQ:=zh hn.symm
 obtain⟨K1,hK1⟩: ∃K,K=ys++numsL [(ns:Int)] :=⟨_,rfl⟩
 have hK2:K1++xs.flatMap (fun s:Sv=>sdL s.says)=ys++shL (xs.map Sv.says):=by
  rw [hK1]
  unfold shL
  rw [List.length_map,hns,List.flatMap_map,List.append_assoc]
 have HLEN:=zh (show K1.length+(xs.flatMap (fun s:Sv=>sdL s.says)).length<400000000/\0<K1.length/\n<=K1.length/\0<n from by
  have h1:=congrArg List.length hK2
  have h2:=congrArg List.length hK1
  rw [List.length_append,List.length_append] at h1
  rw [List.length_append,hn] at h2
  omega)
 have HK1:=zh hK1
 have HK2:=zh hK2
 have hcn:IntKind.u64.wrap (ns:Int)=(ns:Int):=by rw [IntKind.wrap_u64];omega
 obtain⟨q,hq⟩: ∃q,q=n:=⟨_,rfl⟩
 subst hq
 have HNU:=zh (show Calls Tryz.prog (51) #[.slice a q c, .slice (some ⟨w.heap.size,0,none⟩) 1 1] (w.alloc (.cells #[.int .u64 (ns:Int)] (26))) (zqd (K1) w)from by
  have:=zwr (c:=c) (m:=1) #[.int .u64 (ns:Int)] [(ns:Int)] w HE.out HQ.out.symm (by have:=HLEN.out;omega) rfl rfl (by
   intro x hx
   simp only [List.mem_cons,List.not_mem_nil,or_false] at hx
   rw [hx];exact u64_n (by have:=HL.out.1;omega)) (by have:=HLEN.out;omega)
  rw [HK1.out]
  exact this)
 clear hS hns hy hn h0 hl hnl hlev hK1 hK2
 go_enter Tryz.func47,Tryz.ntmps47
 go_wp2_with fail
 refine HNU.out.mono ?_
 rintro e w1 ⟨a1,q1,d1,rfl,hq1,hE1,hb1⟩
 have HQ1:=zh hq1
 have HE1:=zh hE1
 have HB1:=zh hb1
 clear hcn hq1 hE1 hb1 HNU HE HQ
 go_upto_region 3 with fail
 go_loopg [5,0] ns (fun gk iv v0 wr=> ∃(i:Nat) (a:Option Addr) (q c:Nat),i+gk=ns/\iv= .int .i64 i/\v0= .slice a q c/\Hid (q=(K1++(xs.take i).flatMap (fun s:Sv=>sdL s.says)).length)/\Hid (Byt wr a (K1++(xs.take i).flatMap (fun s:Sv=>sdL s.says)))/\Hid (Below w.heap.size w wr))
 case atStart=>exact⟨0,a1,q1,d1,by omega,rfl,rfl,zh (by simpa using HQ1.out),zh (by simpa using HE1.out),HB1⟩
 case round=>
  obtain⟨i,a,q,c,hi,rfl,rfl,HQ,HE,HB⟩:=hrel
  by_cases hlt:i<ns
  case neg=>
   have i1: ¬(i:Int)<(ns:Int):=by omega
   have HF:=zh (show zqd (ys++shL (xs.map Sv.says)) w (.returned (.slice a q c)) wr from by
    have h1:=HQ.out
    have h2:=HE.out
    rw [List.take_of_length_le (by have:=HN.out;omega),HK2.out] at h1 h2
    exact⟨a,q,c,rfl,h1,h2,HB.out⟩)
   clear HQ HE
   go_wp2_with fail
   go_ret
   exact HF.out
  have hil:i<xs.length:=by have:=HN.out;omega
  obtain⟨sb,so,hsa,hlb,hcx⟩:=HS.out.els.get i hil
  have HTK:=zh (zqz (fun s:Sv=>sdL s.says) xs i hil)
  have HPR:=zh (zzg (fun s:Sv=>sdL s.says) xs i hil)
  have HOK:=zh (HS.out.ok _ (List.getElem_mem hil))
  have HLS:=zh (HL.out.2 _ (List.getElem_mem hil))
  generalize xs[i] =s at hcx HTK HPR HOK HLS
  have HLC:=zh (show∀(k:Nat) l,s.lv[k]? =some l-> ∀u,Below w.heap.size w u->u.cell? ⟨sb,so+i*4+1+k,none⟩=some (lvV l)from fun k l hk u hu=>by
   refine(hu.cell (p:=⟨sb,_,none⟩) hlb).trans ?_
   rw [Nat.add_assoc (so+i*4) 1 k]
   refine hcx (1+k) _ ?_
   have h3:s.lv= [s.l0,s.l1,s.l2] :=rfl
   rw [h3] at hk
   match k,hk with
   |0,hk=>cases hk;rfl
   |1,hk=>cases hk;rfl
   |2,hk=>cases hk;rfl)
  have g0:=(HB.out.cell (p:=⟨sb,so+i*4,none⟩) hlb).trans (hcx 0 _ rfl)
  have i0:(0:Int)<=(i:Int):=by omega
  have i1:(i:Int)<(ns:Int):=by omega
  have HW1:=zh (show IntKind.i64.wrap ((i:Int)+1)=(i:Int)+1 from IntWalk.i64_in _ (by have:=HL.out.1;omega))
  subst hsa
  obtain⟨K2,hKK⟩: ∃K,K=K1++(xs.take i).flatMap (fun s:Sv=>sdL s.says):=⟨_,rfl⟩
  obtain⟨K3,hK3⟩: ∃K,K=K2++numsL [s.line] :=⟨_,rfl⟩
  rw [<-hKK] at HQ HE
  have HNEW:=zh (show K3++s.lv.flatMap (fun l:Lv=>levL l.ts)=K1++(xs.take (i+1)).flatMap (fun s:Sv=>sdL s.says)from by rw [HTK.out,hK3,hKK,sdL_lv];simp only [List.append_assoc])
  have HLQ:=zh (show 0<q/\q<=K3.length/\K3.length+(s.lv.flatMap (fun l:Lv=>levL l.ts)).length<400000000 from by
   have h1:=HQ.out
   have h4:=congrArg List.length HNEW.out
   rw [HTK.out,List.length_append,List.length_append,List.length_append] at h4
   have h5:=congrArg List.length hK3
   rw [List.length_append] at h5
   rw [hKK,List.length_append] at h1 h5
   have h2:=HPR.out
   have h3:=HLEN.out
   omega)
  have HK3:=zh hK3
  have HNU:=zh (show Calls Tryz.prog (51) #[.slice a q c, .slice (some ⟨wr.heap.size,0,none⟩) 1 1] (wr.alloc (.cells #[.int .u64 s.line] (26))) (zqd (K3) wr)from by
   have:=zwr (c:=c) (m:=1) #[.int .u64 s.line] [s.line] wr HE.out HQ.out.symm (by have:=HLQ.out;omega) rfl rfl (by
    intro x hx
    simp only [List.mem_cons,List.not_mem_nil,or_false] at hx
    rw [hx];exact HOK.out.wf) (by have:=HLQ.out;omega)
   rw [HK3.out]
   exact this)
  clear hcx hKK hK3
  go_wp2_with fail
  refine HNU.out.mono ?_
  rintro e w1 ⟨a1,q1,d1,rfl,hq1,hE1,hb1⟩
  have HQ1:=zh hq1
  have HE1:=zh hE1
  have HB1:=zh (HB.out.trans (hb1.mono HB.out.size))
  clear hq1 hE1 hb1 HNU HE HQ g0
  go_upto_region 7 with fail
  obtain⟨g1,hg1⟩: ∃x,x=gk:=⟨_,rfl⟩
  subst hg1
  go_loopg [6,0] 3 (fun gk kv v0 wr=> ∃(k:Nat) (a:Option Addr) (q c:Nat),k+gk=3/\kv= .int .i64 k/\v0= .slice a q c/\Hid (q=(K3++(s.lv.take k).flatMap (fun l:Lv=>levL l.ts)).length)/\Hid (Byt wr a (K3++(s.lv.take k).flatMap (fun l:Lv=>levL l.ts)))/\Hid (Below w.heap.size w wr))
  case atStart=>exact⟨0,a1,q1,d1,rfl,rfl,rfl,zh (by simpa using HQ1.out),zh (by simpa using HE1.out),HB1⟩
  case round=>
   obtain⟨k,a,q,c,hk,rfl,rfl,HQ,HE,HBk⟩:=hrel
   have hs3:s.lv.length=3:=rfl
   by_cases hk3:k<3
   case neg=>
    have k1: ¬(k:Int)<3:=by omega
    have HQ4:=zh (show q=(K1++(xs.take (i+1)).flatMap (fun s:Sv=>sdL s.says)).length from by have:=HQ.out;rw [List.take_of_length_le (by omega),HNEW.out] at this;exact this)
    have HE4:=zh (show Byt wr a (K1++(xs.take (i+1)).flatMap (fun s:Sv=>sdL s.says))from by have:=HE.out;rw [List.take_of_length_le (by omega),HNEW.out] at this;exact this)
    have hw1:=HW1.out
    clear HQ HE
    go_wp2_with fail
    go_roundg(g1 - 1)
    case measure=>omega
    case rel=>exact⟨i+1,a,q,c,by omega,by go_num,rfl,HQ4,HE4,HBk⟩
   have k0:(0:Int)<=(k:Int):=by omega
   have k1:(k:Int)<3:=by omega
   have hks:k<s.lv.length:=by omega
   obtain⟨l,hl⟩: ∃l,s.lv[k]? =some l:=⟨_,List.getElem?_eq_getElem hks⟩
   have hlg:s.lv[k] =l:=by rw [List.getElem?_eq_getElem hks] at hl;exact Option.some.inj hl
   have HSN:=zh (show(s.lv.take (k+1)).flatMap (fun l:Lv=>levL l.ts)=(s.lv.take k).flatMap (fun l:Lv=>levL l.ts)++levL l.ts from by rw [zqz (fun l:Lv=>levL l.ts) s.lv k hks,hlg])
   have HPL:=zh (show((s.lv.take k).flatMap (fun l:Lv=>levL l.ts)).length+(levL l.ts).length<=(s.lv.flatMap (fun l:Lv=>levL l.ts)).length from by rw [<-hlg];exact zzg (fun l:Lv=>levL l.ts) s.lv k hks)
   have HLT:=zh (HLS.out l (List.mem_of_getElem? hl))
   have HLK:=zh (show LvOk w l from by
    have hm:=List.mem_of_getElem? hl
    have h3:s.lv= [s.l0,s.l1,s.l2] :=rfl
    rw [h3] at hm
    simp only [List.mem_cons,List.not_mem_nil,or_false] at hm
    rcases hm with rfl|rfl|rfl
    ·exact HOK.out.l0
    ·exact HOK.out.l1
    ·exact HOK.out.l2)
   obtain⟨nt,hnt⟩: ∃n,n=l.ts.length:=⟨_,rfl⟩
   obtain⟨ta,hta⟩: ∃x,x=l.a:=⟨_,rfl⟩
   have HLV:=zh (show∀u,Below w.heap.size w u->u.cell? ⟨sb,so+i*4+1+k,none⟩=some (.slice ta nt l.cap)from fun u hu=>by rw [hnt,hta];exact HLC.out k l hl u hu)
   have HNT:=zh (show l.ts.length=nt/\nt<400000000 from⟨hnt.symm,by rw [hnt];exact HLT.out⟩)
   have HTA:=zh hta
   have HW2:=zh (show IntKind.i64.wrap ((k:Int)+1)=(k:Int)+1 from IntWalk.i64_in _ (by omega))
   have hcn:IntKind.u64.wrap (nt:Int)=(nt:Int):=by rw [IntKind.wrap_u64];have:=HNT.out;omega
   obtain⟨K4,hK4⟩: ∃K,K=K3++(s.lv.take k).flatMap (fun l:Lv=>levL l.ts):=⟨_,rfl⟩
   obtain⟨K5,hK5⟩: ∃K,K=K4++numsL [(nt:Int)] :=⟨_,rfl⟩
   rw [<-hK4] at HQ HE
   have HNEW2:=zh (show K5++l.ts.flatMap tbL=K3++(s.lv.take (k+1)).flatMap (fun l:Lv=>levL l.ts)from by rw [HSN.out,hK5,hK4,hnt];unfold levL;simp only [List.append_assoc])
   have HLQ2:=zh (show 0<q/\q<=K5.length/\K5.length+(l.ts.flatMap tbL).length<400000000 from by
    have h1:=HQ.out
    have h4:=congrArg List.length HNEW2.out
    rw [HSN.out,List.length_append,List.length_append,List.length_append] at h4
    have h5:=congrArg List.length hK5
    rw [List.length_append] at h5
    rw [hK4,List.length_append] at h1 h5
    have h2:=HPL.out
    have h3:=HLQ.out
    omega)
   have HK5:=zh hK5
   have d1:=HLV.out wr HBk.out
   have HNU:=zh (show Calls Tryz.prog (51) #[.slice a q c, .slice (some ⟨wr.heap.size,0,none⟩) 1 1] (wr.alloc (.cells #[.int .u64 (nt:Int)] (26))) (zqd (K5) wr)from by
    have:=zwr (c:=c) (m:=1) #[.int .u64 (nt:Int)] [(nt:Int)] wr HE.out HQ.out.symm (by have:=HLQ2.out;omega) rfl rfl (by
     intro x hx
     simp only [List.mem_cons,List.not_mem_nil,or_false] at hx
     rw [hx];exact u64_n (by have:=HNT.out;omega)) (by have:=HLQ2.out;omega)
    rw [HK5.out]
    exact this)
   clear hl hlg hnt hta hks hs3 hK4 hK5
   go_wp2_with fail
   refine HNU.out.mono ?_
   rintro e w1 ⟨a1,q1,e1,rfl,hq1,hE1,hb1⟩
   have HQ1:=zh hq1
   have HE1:=zh hE1
   have HB1:=zh (HBk.out.trans (hb1.mono HBk.out.size))
   clear hcn hq1 hE1 hb1 HNU HE HQ d1
   go_upto_region 11 with fail
   obtain⟨g2,hg2⟩: ∃x,x=gk:=⟨_,rfl⟩
   subst hg2
   go_loopg [7,0] nt (fun gk tv v0 wr=> ∃(t:Nat) (a:Option Addr) (q c:Nat),t+gk=nt/\tv= .int .i64 t/\v0= .slice a q c/\Hid (q=(K5++(l.ts.take t).flatMap tbL).length)/\Hid (Byt wr a (K5++(l.ts.take t).flatMap tbL))/\Hid (Below w.heap.size w wr))
   case atStart=>exact⟨0,a1,q1,e1,by omega,rfl,rfl,zh (by simpa using HQ1.out),zh (by simpa using HE1.out),HB1⟩
   case round=>
    obtain⟨t,a,q,c,hgt,rfl,rfl,HQ,HE,HBt⟩:=hrel
    have d1:=HLV.out wr HBt.out
    by_cases htt:t<nt
    case neg=>
     have t1: ¬(t:Int)<(nt:Int):=by omega
     have HQ4:=zh (show q=(K3++(s.lv.take (k+1)).flatMap (fun l:Lv=>levL l.ts)).length from by have:=HQ.out;rw [List.take_of_length_le (by have:=HNT.out;omega),HNEW2.out] at this;exact this)
     have HE4:=zh (show Byt wr a (K3++(s.lv.take (k+1)).flatMap (fun l:Lv=>levL l.ts))from by have:=HE.out;rw [List.take_of_length_le (by have:=HNT.out;omega),HNEW2.out] at this;exact this)
     have hw2:=HW2.out
     clear HQ HE
     go_wp2_with fail
     go_roundg(g2 - 1)
     case measure=>omega
     case rel=>exact⟨k+1,a,q,c,by omega,by go_num,rfl,HQ4,HE4,HBt⟩
    have htl:t<l.ts.length:=by have:=HNT.out;omega
    obtain⟨b,o,ha,hlb2,hcx⟩:=HLK.out.tabs.get t htl
    have HTT:=zh (zqz tbL l.ts t htl)
    have HPT:=zh (zzg tbL l.ts t htl)
    have HTW:=zh (HLK.out.wf _ (List.getElem_mem htl))
    generalize l.ts[t] =x at hcx HTT HPT HTW
    have g0:=(HBt.out.cell (p:=⟨b,_,none⟩) hlb2).trans (hcx 0 _ rfl)
    have g1:=(HBt.out.cell (p:=⟨b,_,none⟩) hlb2).trans (hcx 1 _ rfl)
    have g2:=(HBt.out.cell (p:=⟨b,_,none⟩) hlb2).trans (hcx 2 _ rfl)
    have g3:=(HBt.out.cell (p:=⟨b,_,none⟩) hlb2).trans (hcx 3 _ rfl)
    simp only [Nat.add_zero] at g0
    have ha:=HTA.out.trans ha
    subst ha
    have t0:(0:Int)<=(t:Int):=by omega
    have t1:(t:Int)<(nt:Int):=by omega
    have HW3:=zh (show IntKind.i64.wrap ((t:Int)+1)=(t:Int)+1 from IntWalk.i64_in _ (by have:=HNT.out;omega))
    have hcv:IntKind.u64.wrap x.bytes=x.bytes:=by rw [IntKind.wrap_u64];have:=HTW.out.2.1;omega
    obtain⟨X,hX⟩: ∃X:World,X=wr.alloc (.cells #[.int .u64 x.file, .int .u32 x.bytes, .string x.low, .string x.high] (51)):=⟨_,rfl⟩
    have hBX:Below wr.heap.size wr X:=by rw [hX];exact zb.alloc zr _
    have hx1:X.heap[wr.heap.size]? =some (.cells #[.int .u64 x.file, .int .u32 x.bytes, .string x.low, .string x.high] (51) (0,0)):=by rw [hX];exact zq3 rfl _
    have HXB:=zh hx1
    have HBX:=zh (HBt.out.trans (hBX.mono HBt.out.size))
    have HEX:=zh (HE.out.ext hBX)
    obtain⟨K6,hK6⟩: ∃K,K=K5++(l.ts.take t).flatMap tbL:=⟨_,rfl⟩
    obtain⟨K7,hK7⟩: ∃K,K=K6++numsL [x.file,x.bytes] :=⟨_,rfl⟩
    rw [<-hK6] at HQ HEX HE
    have HNEW3:=zh (show K7++putT x.low++putT x.high=K5++(l.ts.take (t+1)).flatMap tbL from by rw [HTT.out,hK7,hK6];unfold tbL;simp only [List.append_assoc])
    have HLQ3:=zh (show 0<q/\q<=K7.length/\K7.length+(putT x.low).length+(putT x.high).length<400000000/\x.low.size+x.high.size<400000000 from by
     have h1:=HQ.out
     have h4:=congrArg List.length HNEW3.out
     rw [HTT.out,List.length_append,List.length_append,List.length_append,List.length_append] at h4
     have h5:=congrArg List.length hK7
     rw [List.length_append] at h5
     rw [hK6,List.length_append] at h1 h5
     have h2:=HPT.out
     have h3:=HLQ2.out
     have h6:=tbL_size x
     omega)
    have HK7:=zh hK7
    have HNU:=zh (show Calls Tryz.prog (51) #[.slice a q c, .slice (some ⟨X.heap.size,0,none⟩) 2 2] (X.alloc (.cells #[.int .u64 x.file, .int .u64 x.bytes] (26))) (zqd (K7) X)from by
     have:=zwr (c:=c) (m:=2) #[.int .u64 x.file, .int .u64 x.bytes] [x.file,x.bytes] X HEX.out HQ.out.symm (by have:=HLQ3.out;omega) rfl rfl (by
      intro x hx
      simp only [List.mem_cons,List.not_mem_nil,or_false] at hx
      rcases hx with rfl|rfl
      ·exact HTW.out.1
      ·unfold U64;simp [Lit.wf,IntKind.min,IntKind.max,IntKind.signed,IntKind.bits];have:=HTW.out.2.1;omega) (by have:=HLQ3.out;omega)
     rw [HK7.out]
     exact this)
    have HX:=zh hX
    have hXs:X.heap.size=wr.heap.size+1:=by rw [hX];simp
    rw [hXs,hX] at HNU
    clear hXs
    clear hcx hK6 hK7 hX hBX hx1
    go_wp2_with fail
    refine HNU.out.mono ?_
    rw [<-HX.out]
    rintro e w4 ⟨a4,q4,e4,rfl,hq4,hE4,hb4⟩
    have HQ4:=zh hq4
    have HE4:=zh hE4
    have HB4:=zh (HBX.out.trans (hb4.mono HBX.out.size))
    have HX4:=zh (zq4 HXB.out hb4 (zq2 HXB.out))
    clear hcv hq4 hE4 hb4 HNU HE HQ d1 g0 g1 g2 g3
    have HS4:=zh (show∀u,Below w4.heap.size w4 u->u.cell? ⟨wr.heap.size,2,none⟩=some (.string x.low)/\u.cell? ⟨wr.heap.size,3,none⟩=some (.string x.high)from fun u hu=>by
     have e0:=zq0 (zq4 HX4.out hu (zq2 HX4.out)) 2
     have e1:=zq0 (zq4 HX4.out hu (zq2 HX4.out)) 3
     simp at e0 e1
     exact⟨e0,e1⟩)
    have HP1:=zh (show Calls Tryz.prog (82) #[.slice a4 q4 e4, .string x.low] w4.drew (zz8 (K7++putT x.low) w4.drew)from zj3 a4 q4 e4 K7 x.low w4.drew (HE4.out.ext (zb.drew)) HQ4.out.symm (by have:=HQ4.out;have:=HLQ3.out;omega) (by have:=HQ4.out;have:=HLQ3.out;omega))
    have HP2:=zh (show∀(a5:Option Addr) (q5 c5:Nat) (u:World),Byt u a5 (K7++putT x.low)->q5=(K7++putT x.low).length->Calls Tryz.prog (82) #[.slice a5 q5 c5, .string x.high] u (zz8 (K7++putT x.low++putT x.high) u)from fun a5 q5 c5 u h1 h2=>zj3 a5 q5 c5 _ x.high u h1 h2.symm (by rw [h2,List.length_append];have:=HLQ3.out;omega) (by rw [h2,List.length_append];have:=HLQ3.out;omega))
    go_upto_region 15 with fail
    go_region_held3 (fun u=>u.cell? ⟨wr.heap.size,2,none⟩=some (.string x.low)/\u.cell? ⟨wr.heap.size,3,none⟩=some (.string x.high))
     (first|exact HS4.out _ (by assumption)|exact HS4.out _ zb|exact HS4.out _ (zb.drew))
     (first
      |(go_at_call 82;(with_reducible refine HP1.out.mono ?_);intro e w5 hpost;obtain⟨a5,q5,c5,rfl,hq5,hE5,hb5⟩:=hpost.row;have HQ5:=zh hq5;have HE5:=zh hE5;have hA:Below w4.heap.size w4 w5:=belT (zb.drew) hb5;clear hq5 hE5 hb5 hpost)
      |(go_at_call 82;(with_reducible refine(HP2.out _ _ _ _ HE5.out HQ5.out).mono ?_);intro e w6 hpost2;obtain⟨a6,q6,c6,rfl,hq6,hE6,hb6⟩:=hpost2.row;have HQ6:=zh hq6;have HE6:=zh hE6;have hA2:Below w4.heap.size w4 w6:=belT hA hb6;clear hq6 hE6 hb6 hpost2))
    all_goals
     have HB6:=zh (HB4.out.trans (hA2.mono HB4.out.size))
     have HQ7:=zh (show q6=(K5++(l.ts.take (t+1)).flatMap tbL).length from by rw [<-HNEW3.out];exact HQ6.out)
     have HE7:=zh (show Byt w6 a6 (K5++(l.ts.take (t+1)).flatMap tbL)from by rw [<-HNEW3.out];exact HE6.out)
     have hw3:=HW3.out
     clear hA hA2
     go_wp2_with fail
     go_roundg(gk - 1)
     case measure=>omega
     case rel=>exact⟨t+1,a6,q6,c6,by omega,by go_num,rfl,HQ7,HE7,HB6⟩
end Go.Proofs.YtchcelodeepjdaaGreatDoor.Ln

namespace Go.Proofs.YtchcelodeepjdaaGreatDoor.Ln
open Go.RowKit Go.Shelf Go.Herb

structure SB (w u:World)(cs:Array Value):Prop where
 box:u.heap[w.heap.size]? =some (.cells cs (57) (0,0))
 below:Below w.heap.size w u
theorem SB.store {w u:World}{cs:Array Value}(h:SB w u cs)(j:Nat)(v:Value)(cs':Array Value)(hc:cs.setIfInBounds j v=cs'):SB w (u.setCell ⟨w.heap.size,j,none⟩ v) cs':=
 ⟨by rw [<-hc];exact zq7 h.box v,Below.setCell h.below (p:=⟨w.heap.size,j,none⟩) (Nat.le_refl w.heap.size) v⟩
theorem SB.name {w u:World}{cs:Array Value}(_:SB w u cs): ∃Z,Z=u:=⟨u,rfl⟩
def shZ:Value:= .agg #[.int .u64 0, .slice none 0 0, .slice none 0 0, .slice none 0 0]
def yqc (xs:List Sv)(line:Int)(w:World)(e:Ending)(w':World):Prop:=Below w.heap.size w w'/\((∃s,s∈xs/\s.line=line/\e= .returned (.tuple #[shV s, .bool true]))\/(line∉xs.map Sv.line/\e= .returned (.tuple #[shZ, .bool false])))
set_option maxRecDepth 100000 in
set_option maxHeartbeats 4000000 in
theorem zvy (sa:Option Addr)(sc n:Nat)(xs:List Sv)(line:Int)(w:World)(hS:ShIn w sa xs)(hn:xs.length=n)(hl:n<=1000000):
  Calls Tryz.prog (49) #[.slice sa n sc, .int .u64 line] w (yqc xs line w):=by
 have HS:=zh hS
 have HN:=zh hn
 have HL:=zh hl
 obtain⟨W,hW⟩: ∃W:World,W=w.alloc (.cells #[.int .u64 0, .slice none 0 0, .slice none 0 0, .slice none 0 0] (57)):=⟨_,rfl⟩
 have HSB:=zh (show SB w W _ from⟨by rw [hW];exact zq3 rfl _,by rw [hW];exact zb.alloc zr _⟩)
 have HW:=zh hW
 clear hS hn hl hW
 go_enter Tryz.func49,Tryz.ntmps49
 go_upto_region 2 with fail
 rw [<-HW.out]
 clear HW
 go_loopg [6] n (fun gk iv wr=> ∃i:Nat,i+gk=n/\iv= .int .i64 i/\wr=W/\Hid (line∉(xs.take i).map Sv.line))
 case atStart=>exact⟨0,by omega,rfl,rfl,zh (by simp)⟩
 case round=>
  obtain⟨i,hi,rfl,rfl,HNO⟩:=hrel
  have x0:=zq0 HSB.out.box 0
  have x1:=zq0 HSB.out.box 1
  have x2:=zq0 HSB.out.box 2
  have x3:=zq0 HSB.out.box 3
  have f0:=zq1 HSB.out.box 0
  have f1:=zq1 HSB.out.box 1
  have f2:=zq1 HSB.out.box 2
  have f3:=zq1 HSB.out.box 3
  simp at x0 x1 x2 x3
  by_cases hlt:i<n
  case neg=>
   have i1: ¬(i:Int)<(n:Int):=by omega
   have HF:=zh (show line∉xs.map Sv.line from by have:=HNO.out;rwa [List.take_of_length_le (by have:=HN.out;omega)] at this)
   clear HNO hlt
   go_wp2_with fail
   have HB8:=zh ((((HSB.out.store 0 (.int .u64 0) _ rfl).store 1 (.slice none 0 0) _ rfl).store 2 (.slice none 0 0) _ rfl).store 3 (.slice none 0 0) #[.int .u64 0, .slice none 0 0, .slice none 0 0, .slice none 0 0] rfl)
   obtain⟨Z,hZ⟩:=HB8.out.name
   rw [<-hZ] at HB8 ⊢
   clear hZ x0 x1 x2 x3 f0 f1 f2 f3
   have x0:=zq0 HB8.out.box 0
   have x1:=zq0 HB8.out.box 1
   have x2:=zq0 HB8.out.box 2
   have x3:=zq0 HB8.out.box 3
   simp at x0 x1 x2 x3
   refine bodyPost_ret (v:= .tuple #[.agg #[.int .u64 0, .slice none 0 0, .slice none 0 0, .slice none 0 0], .bool false]) (by simp [results,Tryz.results49,go_sem,x0,x1,x2,x3]) rfl ?_
   exact⟨HB8.out.below, .inr ⟨HF.out,rfl⟩⟩
  have hil:i<xs.length:=by have:=HN.out;omega
  obtain⟨b,o,hsa,hlb,hcx⟩:=HS.out.els.get i hil
  have HTK:=zh (List.take_succ_eq_append_getElem hil)
  have HXM:=zh (List.getElem_mem hil)
  generalize xs[i] =s at hcx HTK HXM
  obtain⟨n0,hn0⟩: ∃v,v=s.l0.ts.length:=⟨_,rfl⟩
  obtain⟨n1,hn1⟩: ∃v,v=s.l1.ts.length:=⟨_,rfl⟩
  obtain⟨n2,hn2⟩: ∃v,v=s.l2.ts.length:=⟨_,rfl⟩
  have HSV:=zh (show shV s= .agg #[.int .u64 s.line,(.slice s.l0.a n0 s.l0.cap),(.slice s.l1.a n1 s.l1.cap),(.slice s.l2.a n2 s.l2.cap)] from by rw [hn0,hn1,hn2])
  have hbw:=HSB.out.below
  have g0:=(hbw.cell (p:=⟨b,_,none⟩) hlb).trans (hcx 0 _ rfl)
  have g1:=(hbw.cell (p:=⟨b,_,none⟩) hlb).trans (show w.cell? ⟨b,o+i*4+1,none⟩=some (.slice s.l0.a n0 s.l0.cap)from by rw [hn0];exact hcx 1 _ rfl)
  have g2:=(hbw.cell (p:=⟨b,_,none⟩) hlb).trans (show w.cell? ⟨b,o+i*4+2,none⟩=some (.slice s.l1.a n1 s.l1.cap)from by rw [hn1];exact hcx 2 _ rfl)
  have g3:=(hbw.cell (p:=⟨b,_,none⟩) hlb).trans (show w.cell? ⟨b,o+i*4+3,none⟩=some (.slice s.l2.a n2 s.l2.cap)from by rw [hn2];exact hcx 3 _ rfl)
  simp only [Nat.add_zero] at g0
  have i0:(0:Int)<=(i:Int):=by omega
  have i1:(i:Int)<(n:Int):=by omega
  have hw1:IntKind.i64.wrap ((i:Int)+1)=(i:Int)+1:=IntWalk.i64_in _ (by have:=HL.out;omega)
  subst hsa
  clear hcx hn0 hn1 hn2 hbw
  by_cases hq:s.line=line
  ·have HQ:=zh hq
   have d1:(s.line==line)=true:=beq_iff_eq.2 hq
   clear hq
   go_wp2_with fail
   have HB8:=zh ((((HSB.out.store 0 (.int .u64 s.line) _ rfl).store 1 (.slice s.l0.a n0 s.l0.cap) _ rfl).store 2 (.slice s.l1.a n1 s.l1.cap) _ rfl).store 3 (.slice s.l2.a n2 s.l2.cap) #[.int .u64 s.line,(.slice s.l0.a n0 s.l0.cap),(.slice s.l1.a n1 s.l1.cap),(.slice s.l2.a n2 s.l2.cap)] rfl)
   obtain⟨Z,hZ⟩:=HB8.out.name
   rw [<-hZ] at HB8 ⊢
   clear hZ x0 x1 x2 x3 f0 f1 f2 f3 g0 g1 g2 g3
   have x0:=zq0 HB8.out.box 0
   have x1:=zq0 HB8.out.box 1
   have x2:=zq0 HB8.out.box 2
   have x3:=zq0 HB8.out.box 3
   simp at x0 x1 x2 x3
   refine bodyPost_ret (v:= .tuple #[.agg #[.int .u64 s.line,(.slice s.l0.a n0 s.l0.cap),(.slice s.l1.a n1 s.l1.cap),(.slice s.l2.a n2 s.l2.cap)], .bool true]) (by simp [results,Tryz.results49,go_sem,x0,x1,x2,x3]) rfl ?_
   exact⟨HB8.out.below, .inl ⟨s,HXM.out,HQ.out,by rw [HSV.out]⟩⟩
  ·have d1:(s.line==line)=false:=beq_eq_false_iff_ne.2 hq
   have HNO2:=zh (show line∉(xs.take (i+1)).map Sv.line from by
    rw [HTK.out,List.map_append,List.mem_append]
    rintro(h|h)
    ·exact HNO.out h
    ·rw [List.map_singleton,List.mem_singleton] at h
     exact hq h.symm)
   clear hq
   go_wp2_with fail
   go_roundg(gk - 1)
   case measure=>omega
   case rel=>exact⟨i+1,by omega,by go_num,rfl,HNO2⟩
set_option maxRecDepth 100000 in
set_option maxHeartbeats 4000000 in
theorem zwx (x y:Sv)(w:World)(hx:SvOk w x)(hy:SvOk w y)(hlx: ∀l∈x.lv,l.ts.length<=1000000):
  Calls Tryz.prog (50) #[shV x,shV y] w (zx1 (x.line=y.line/\x.says.lv=y.says.lv) w):=by
 obtain⟨v0,hv0⟩: ∃v,v=lvV x.l0:=⟨_,rfl⟩
 obtain⟨v1,hv1⟩: ∃v,v=lvV x.l1:=⟨_,rfl⟩
 obtain⟨v2,hv2⟩: ∃v,v=lvV x.l2:=⟨_,rfl⟩
 obtain⟨z0,hz0⟩: ∃v,v=lvV y.l0:=⟨_,rfl⟩
 obtain⟨z1,hz1⟩: ∃v,v=lvV y.l1:=⟨_,rfl⟩
 obtain⟨z2,hz2⟩: ∃v,v=lvV y.l2:=⟨_,rfl⟩
 have hsx:shV x= .agg #[.int .u64 x.line,v0,v1,v2] :=by rw [hv0,hv1,hv2]
 have hsy:shV y= .agg #[.int .u64 y.line,z0,z1,z2] :=by rw [hz0,hz1,hz2]
 obtain⟨W1,hW1⟩: ∃W:World,W=w.alloc (.cells #[.int .u64 x.line,v0,v1,v2] (57)):=⟨_,rfl⟩
 obtain⟨W,hW⟩: ∃W:World,W=W1.alloc (.cells #[.int .u64 y.line,z0,z1,z2] (57)):=⟨_,rfl⟩
 have hB1:Below w.heap.size w W1:=by rw [hW1];exact zb.alloc zr _
 have hz:W1.heap.size=w.heap.size+1:=by rw [hW1];simp
 have hB2:Below W1.heap.size W1 W:=by rw [hW];exact zb.alloc zr _
 have hb1:W1.heap[w.heap.size]? =some (.cells #[.int .u64 x.line,v0,v1,v2] (57) (0,0)):=by rw [hW1];exact zq3 rfl _
 have hbx:=zq4 hb1 hB2 (zq2 hb1)
 have hby:W.heap[w.heap.size+1]? =some (.cells #[.int .u64 y.line,z0,z1,z2] (57) (0,0)):=by rw [hW];exact zq3 hz.symm _
 have HB:=zh (hB1.trans (hB2.mono hB1.size))
 have HEND:=zh (show∀(q:Bool) u,Below W.heap.size W u->(q=true↔x.line=y.line/\x.says.lv=y.says.lv)->zx1 (x.line=y.line/\x.says.lv=y.says.lv) w (.returned (.bool q)) u from fun q u hu hq=>⟨q,rfl,hq,HB.out.trans (hu.mono HB.out.size)⟩)
 have HCL:Hid (∀(k:Nat),k<3-> ∃lx ly,x.lv[k]? =some lx/\y.lv[k]? =some ly/\ ∀u,Below W.heap.size W u->u.cell? ⟨w.heap.size,1+k,none⟩=some (lvV lx)/\u.cell? ⟨w.heap.size+1,1+k,none⟩=some (lvV ly)):=zh (fun k hk=>by
  match k,hk with
  |0,_=>exact⟨_,_,rfl,rfl,fun u hu=>⟨by rw [zq0 (zq4 hbx hu (zq2 hbx)) 1,<-hv0];rfl,by rw [zq0 (zq4 hby hu (zq2 hby)) 1,<-hz0];rfl⟩⟩
  |1,_=>exact⟨_,_,rfl,rfl,fun u hu=>⟨by rw [zq0 (zq4 hbx hu (zq2 hbx)) 2,<-hv1];rfl,by rw [zq0 (zq4 hby hu (zq2 hby)) 2,<-hz1];rfl⟩⟩
  |2,_=>exact⟨_,_,rfl,rfl,fun u hu=>⟨by rw [zq0 (zq4 hbx hu (zq2 hbx)) 3,<-hv2];rfl,by rw [zq0 (zq4 hby hu (zq2 hby)) 3,<-hz2];rfl⟩⟩)
 have HOX:=zh hx
 have HOY:=zh hy
 have HLX:=zh hlx
 have qn:=zy6
 have qg:=yjh
 have c0:=zq0 hbx 0
 have e0:=zq0 hby 0
 simp at c0 e0
 rw [hsx,hsy]
 have HW1:=zh hW1
 have HW:=zh hW
 clear hx hy hlx hv0 hv1 hv2 hz0 hz1 hz2 hsx hsy hW1 hW hB1 hz hB2 hb1 hbx hby
 go_enter Tryz.func50,Tryz.ntmps50
 go_upto_region 1 with fail
 rw [<-HW1.out,<-HW.out]
 by_cases hline:x.line=y.line
 case neg=>
  have d1:(x.line==y.line)=false:=beq_eq_false_iff_ne.2 hline
  have d2:(x.line !=y.line)=true:=by simp [hline]
  have HF:=zh hline
  clear hline
  go_wp2_with fail
  go_ret
  exact HEND.out _ _ zb ⟨(fun h=>by cases h),fun h=>absurd h.1 HF.out⟩
 have d1:(x.line==y.line)=true:=beq_iff_eq.2 hline
 have d2:(x.line !=y.line)=false:=by simp [hline]
 have HLINE:=zh hline
 clear hline
 go_upto_region 4 with fail
 clear c0 e0 d1 d2
 go_loopg [5] 3 (fun gk iv wr=> ∃k:Nat,k+gk=3/\iv= .int .i64 k/\Hid (x.says.lv.take k=y.says.lv.take k)/\Hid (Below W.heap.size W wr))
 case atStart=>exact⟨0,rfl,rfl,zh rfl,zh zb⟩
 case round=>
  obtain⟨k,hk,rfl,HTK,HBk⟩:=hrel
  by_cases hltk:k<3
  case neg=>
   have j1: ¬(k:Int)<3:=by omega
   have HT2:=zh (show x.says.lv=y.says.lv from by
    have h1:=HTK.out
    have e1:x.says.lv.length=3:=rfl
    have e2:y.says.lv.length=3:=rfl
    rwa [List.take_of_length_le (by omega),List.take_of_length_le (by omega)] at h1)
   clear HTK
   go_wp2_with fail
   go_ret
   exact HEND.out _ _ HBk.out ⟨fun _=>⟨HLINE.out,HT2.out⟩,fun _=>rfl⟩
  have j0:(0:Int)<=(k:Int):=by omega
  have j1:(k:Int)<3:=by omega
  have hw2:IntKind.i64.wrap ((k:Int)+1)=(k:Int)+1:=IntWalk.i64_in _ (by omega)
  obtain⟨lx,ly,hlx,hly,HLV0⟩:=HCL.out k hltk
  have HXS:=zh (show x.says.lv[k]? =some lx.ts from by show(x.lv.map (·.ts))[k]? =_;rw [List.getElem?_map,hlx];rfl)
  have HYS:=zh (show y.says.lv[k]? =some ly.ts from by show(y.lv.map (·.ts))[k]? =_;rw [List.getElem?_map,hly];rfl)
  have HKX:=zh (show LvOk w lx from by
   have hm:=List.mem_of_getElem? hlx
   simp only [Sv.lv,List.mem_cons,List.not_mem_nil,or_false] at hm
   rcases hm with rfl|rfl|rfl
   ·exact HOX.out.l0
   ·exact HOX.out.l1
   ·exact HOX.out.l2)
  have HKY:=zh (show LvOk w ly from by
   have hm:=List.mem_of_getElem? hly
   simp only [Sv.lv,List.mem_cons,List.not_mem_nil,or_false] at hm
   rcases hm with rfl|rfl|rfl
   ·exact HOY.out.l0
   ·exact HOY.out.l1
   ·exact HOY.out.l2)
  obtain⟨nx,hnx⟩: ∃n,n=lx.ts.length:=⟨_,rfl⟩
  obtain⟨ny,hny⟩: ∃n,n=ly.ts.length:=⟨_,rfl⟩
  obtain⟨ax,hax⟩: ∃n,n=lx.a:=⟨_,rfl⟩
  obtain⟨ay,hay⟩: ∃n,n=ly.a:=⟨_,rfl⟩
  have HLV:=zh (show∀u,Below W.heap.size W u->u.cell? ⟨w.heap.size,1+k,none⟩=some (.slice ax nx lx.cap)/\u.cell? ⟨w.heap.size+1,1+k,none⟩=some (.slice ay ny ly.cap)from fun u hu=>by rw [hnx,hny,hax,hay];exact HLV0 u hu)
  have hnx1:nx<=1000000:=by rw [hnx];exact HLX.out lx (List.mem_of_getElem? hlx)
  have HNX:=zh (show lx.ts.length=nx/\ax=lx.a from⟨hnx.symm,hax⟩)
  have HNY:=zh (show ly.ts.length=ny/\ay=ly.a from⟨hny.symm,hay⟩)
  have HFS:=zh (show lx.ts≠ly.ts-> ¬(x.line=y.line/\x.says.lv=y.says.lv)from fun h h2=>ne_at HXS.out HYS.out h h2.2)
  obtain⟨c1,c2⟩:=HLV.out wr HBk.out
  clear hlx hly hnx hny hax hay HLV0
  by_cases hxy:nx=ny
  case neg=>
   have d1:((nx:Int)==(ny:Int))=false:=beq_eq_false_iff_ne.2 (by omega)
   have d2:(nx==ny)=false:=beq_eq_false_iff_ne.2 hxy
   have d3:((nx:Int)!=(ny:Int))=true:=by simp;omega
   have HF:=zh (HFS.out (fun h=>hxy (by rw [<-HNX.out.1,<-HNY.out.1,h])))
   clear hxy
   go_upto_region 6 with fail
   go_quiet (fail)
   go_wp2
   go_ret
   exact HEND.out _ _ (zqo HBk.out nq) ⟨(fun h=>by cases h),fun h=>absurd h HF.out⟩
  subst hxy
  obtain⟨g8,hg8⟩: ∃g8,g8=gk:=⟨_,rfl⟩
  rw [<-hg8] at hk
  have HG8:=zh hg8
  clear hg8
  have d3:((nx:Int)!=(nx:Int))=false:=by simp
  go_upto_region 6 with fail
  go_quiet (fail)
  have HB11:=zh (zqo HBk.out nq)
  obtain⟨u11,hu11⟩: ∃u,u=wr.drewN nq:=⟨_,rfl⟩
  rw [<-hu11] at HB11 ⊢
  clear hu11 c1 c2 d3
  go_upto_region 9 with fail
  go_loopg [6] nx (fun gk iv wr=> ∃j:Nat,j+gk=nx/\iv= .int .i64 j/\Hid (lx.ts.take j=ly.ts.take j)/\Hid (Below W.heap.size W wr))
  case atStart=>exact⟨0,by omega,rfl,zh rfl,HB11⟩
  case round=>
   obtain⟨j,hj,rfl,HTJ,HBj⟩:=hrel
   obtain⟨c1,c2⟩:=HLV.out wr HBj.out
   by_cases hltj:j<nx
   case neg=>
    have l1: ¬(j:Int)<(nx:Int):=by omega
    have HTK2:=zh (show x.says.lv.take (k+1)=y.says.lv.take (k+1)from zxc HTK.out HXS.out HYS.out (by
     have:=HTJ.out
     rwa [List.take_of_length_le (by have:=HNX.out;omega),List.take_of_length_le (by have:=HNY.out;omega)] at this))
    clear hltj hj
    go_wp2_with fail
    go_roundg(g8 - 1)
    case measure=>have:=HG8.out;omega
    case rel=>exact⟨k+1,by omega,by go_num,HTK2,HBj⟩
   have hjx:j<lx.ts.length:=by have:=HNX.out;omega
   have hjy:j<ly.ts.length:=by have:=HNY.out;omega
   obtain⟨tb,tO,hta,htb,htc⟩:=HKX.out.tabs.get j hjx
   obtain⟨tb',tO',hta',htb',htc'⟩:=HKY.out.tabs.get j hjy
   have HTX:=zh (List.getElem?_eq_getElem hjx)
   have HTY:=zh (List.getElem?_eq_getElem hjy)
   generalize lx.ts[j] =t at htc HTX
   generalize ly.ts[j] =t' at htc' HTY
   have hbj:=HB.out.trans (HBj.out.mono HB.out.size)
   have a0:=(hbj.cell (p:=⟨tb,_,none⟩) htb).trans (htc 0 _ rfl)
   have a1:=(hbj.cell (p:=⟨tb,_,none⟩) htb).trans (htc 1 _ rfl)
   have a2:=(hbj.cell (p:=⟨tb,_,none⟩) htb).trans (htc 2 _ rfl)
   have a3:=(hbj.cell (p:=⟨tb,_,none⟩) htb).trans (htc 3 _ rfl)
   have b0:=(hbj.cell (p:=⟨tb',_,none⟩) htb').trans (htc' 0 _ rfl)
   have b1:=(hbj.cell (p:=⟨tb',_,none⟩) htb').trans (htc' 1 _ rfl)
   have b2:=(hbj.cell (p:=⟨tb',_,none⟩) htb').trans (htc' 2 _ rfl)
   have b3:=(hbj.cell (p:=⟨tb',_,none⟩) htb').trans (htc' 3 _ rfl)
   simp only [Nat.add_zero] at a0 b0
   have l0:(0:Int)<=(j:Int):=by omega
   have l1:(j:Int)<(nx:Int):=by omega
   have hw3:IntKind.i64.wrap ((j:Int)+1)=(j:Int)+1:=IntWalk.i64_in _ (by omega)
   have hta:=HNX.out.2.trans hta
   have hta':=HNY.out.2.trans hta'
   subst hta hta'
   clear htc htc' hbj
   by_cases hq:t.file=t'.file/\t.bytes=t'.bytes/\t.low=t'.low/\t.high=t'.high
   ·have dq:decide (t.file=t'.file/\t.bytes=t'.bytes/\t.low=t'.low/\t.high=t'.high)=true:=decide_eq_true hq
    have HTJ2:=zh (show lx.ts.take (j+1)=ly.ts.take (j+1)from zxc HTJ.out HTX.out HTY.out (by
     obtain⟨h1,h2,h3,h4⟩:=hq
     cases t
     cases t'
     simp only at h1 h2 h3 h4
     rw [h1,h2,h3,h4]))
    clear hq
    go_upto_region 11 with fail
    go_quiet (fail)
    have HBn:=zh (zqo HBj.out nq)
    go_wp2
    go_roundg(gk - 1)
    case measure=>omega
    case rel=>exact⟨j+1,by omega,by go_num,HTJ2,HBn⟩
   ·have dq:decide (t.file=t'.file/\t.bytes=t'.bytes/\t.low=t'.low/\t.high=t'.high)=false:=decide_eq_false hq
    have HF:=zh (HFS.out (ne_at HTX.out HTY.out (fun h=>hq (by rw [h];exact⟨rfl,rfl,rfl,rfl⟩))))
    clear hq
    go_upto_region 11 with fail
    go_quiet (fail)
    go_wp2
    go_ret
    exact HEND.out _ _ (zqo HBj.out nq) ⟨(fun h=>by cases h),fun h=>absurd h HF.out⟩
end Go.Proofs.YtchcelodeepjdaaGreatDoor.Ln
