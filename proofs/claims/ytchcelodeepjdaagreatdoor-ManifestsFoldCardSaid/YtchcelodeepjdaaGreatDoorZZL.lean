/- Lemmas and walks towards ManifestsFold. Conditions: each one tells its own. -/
import Derived.Test.YtchcelodeepjdaaGreatDoorMp
import Derived.Test.YtchcelodeepjdaaGreatDoorZZK
namespace Go.Proofs.YtchcelodeepjdaaGreatDoor.Ln
open Go.RowKit Go.Shelf Go.Herb

theorem early_ln {r:Rv}: ∀x∈r.ls,x.1∈zzm r.says:=fun _ hx=>List.mem_append_left _ (List.mem_append_left _ (List.mem_map_of_mem (f:=fun q:Ln=>q.1) hx))
theorem early_br {r:Rv}: ∀x∈r.bs,x.2.2∈zzm r.says:=fun _ hx=>List.mem_append_left _ (List.mem_append_right _ (List.mem_map_of_mem (f:=fun q:Br=>q.2.2) hx))
theorem early_vc {r:Rv}: ∀v∈r.vs,∀p∈v.ps,p.2∈zzm r.says:=fun v hv p hp=>by
 refine List.mem_append_right _ (List.mem_flatMap.2 ⟨(v.line,v.ps),?_,List.mem_map_of_mem (f:=fun q:Int × Int=>q.2) hp⟩)
 exact List.mem_map_of_mem (f:=fun x:Vx.Vc=>(x.line,x.ps)) hv
theorem yvx {r:Rv}(h1: ∀x∈r.ls,x.1<=r.seq)(h2: ∀x∈r.bs,x.2.2<=r.seq)(h3: ∀v∈r.vs,∀p∈v.ps,p.2<=r.seq): ∀n∈zzm r.says,n<=r.seq:=fun n hn=>by
 rcases List.mem_append.1 hn with h|h
 ·rcases List.mem_append.1 h with h|h
  ·obtain⟨x,hx,rfl⟩:=List.mem_map.1 h
   exact h1 x hx
  ·obtain⟨x,hx,rfl⟩:=List.mem_map.1 h
   exact h2 x hx
 ·obtain⟨q,hq,hn⟩:=List.mem_flatMap.1 h
  obtain⟨v,hv,rfl⟩:=List.mem_map.1 (show q∈r.vs.map (fun x:Vx.Vc=>(x.line,x.ps))from hq)
  obtain⟨p,hp,rfl⟩:=List.mem_map.1 hn
  exact h3 v hv p hp
set_option maxRecDepth 100000 in
set_option maxHeartbeats 2000000 in
theorem zyg (r:Rv)(w:World)(h:RtIn w r):Calls Tryz.prog (57) #[rtV r] w (zx1 (∀n∈zzm r.says,n<=r.seq) w):=by
 obtain⟨nb,hnb⟩: ∃n,n=r.bs.length:=⟨_,rfl⟩
 obtain⟨nl,hnl⟩: ∃n,n=r.ls.length:=⟨_,rfl⟩
 obtain⟨nv,hnv⟩: ∃n,n=r.vs.length:=⟨_,rfl⟩
 obtain⟨ns,hns⟩: ∃n,n=r.sh.length:=⟨_,rfl⟩
 obtain⟨ba,hba⟩: ∃n,n=r.ba:=⟨_,rfl⟩
 obtain⟨la,hla⟩: ∃n,n=r.la:=⟨_,rfl⟩
 obtain⟨va,hva⟩: ∃n,n=r.va:=⟨_,rfl⟩
 obtain⟨sa,hsa⟩: ∃n,n=r.sa:=⟨_,rfl⟩
 have hrt:rtV r= .agg #[.int .u64 r.seq, .int .u64 r.log, .int .u64 r.next, .slice ba nb r.bc, .slice la nl r.lc, .slice va nv r.vc, .slice sa ns r.sc] :=by rw [hnb,hnl,hnv,hns,hba,hla,hva,hsa]
 obtain⟨W,hW⟩: ∃W:World,W=w.alloc (.cells #[.int .u64 r.seq, .int .u64 r.log, .int .u64 r.next, .slice ba nb r.bc, .slice la nl r.lc, .slice va nv r.vc, .slice sa ns r.sc] (32)):=⟨_,rfl⟩
 have hB:Below w.heap.size w W:=by rw [hW];exact zb.alloc zr _
 have hx0:W.heap[w.heap.size]? =some (.cells #[.int .u64 r.seq, .int .u64 r.log, .int .u64 r.next, .slice ba nb r.bc, .slice la nl r.lc, .slice va nv r.vc, .slice sa ns r.sc] (32) (0,0)):=by rw [hW];exact zq3 rfl _
 have HB:=zh hB
 have HW:=zh hW
 have HN:=zh (show r.bs.length=nb/\r.ls.length=nl/\r.vs.length=nv/\r.sh.length=ns from⟨hnb.symm,hnl.symm,hnv.symm,hns.symm⟩)
 have HA0:=zh (show ba=r.ba/\la=r.la/\va=r.va/\sa=r.sa from⟨hba,hla,hva,hsa⟩)
 have HVC:=zh (vinE h.vcs hB)
 have HBR:=zh (h.brs.els.ext hB)
 have HLN:=zh (h.lns.els.ext hB)
 have HSC:=zh (h.shs.ext hB)
 have HM:=zh (show nb<=maxLen/\nl<=maxLen/\nv<=maxLen/\ns<=maxLen from⟨by rw [hnb];exact Nat.le_trans h.brs.le h.brs.max,by rw [hnl];exact Nat.le_trans h.lns.le h.lns.max,by rw [hnv];exact h.vcs.len,by rw [hns];exact Nat.le_trans h.sl h.sm⟩)
 have HEND:=zh (show∀e u,Below W.heap.size W u->(Below w.heap.size w u->zx1 (∀n∈zzm r.says,n<=r.seq) w e u)->zx1 (∀n∈zzm r.says,n<=r.seq) w e u from fun e u hu hq=>hq (hB.trans (hu.mono hB.size)))
 have HC:Hid (∀u,Below W.heap.size W u->u.cell? ⟨w.heap.size,0,none⟩=some (.int .u64 r.seq)/\u.cell? ⟨w.heap.size,3,none⟩=some (.slice ba nb r.bc)/\u.cell? ⟨w.heap.size,4,none⟩=some (.slice la nl r.lc)/\u.cell? ⟨w.heap.size,5,none⟩=some (.slice va nv r.vc)):=zh (fun u hu=>by
  have hq:=zq4 hx0 hu (zq2 hx0)
  have q0:=zq0 hq 0
  have q3:=zq0 hq 3
  have q4:=zq0 hq 4
  have q5:=zq0 hq 5
  simp at q0 q3 q4 q5
  exact⟨q0,q3,q4,q5⟩)
 have HRT:=zh hrt
 have HR:=zh (h.ext hB)
 rw [hrt]
 clear h hB hx0 hnb hnl hnv hns hba hla hva hsa hrt hW
 go_enter Tryz.func57,Tryz.ntmps57
 go_upto_region 2 with fail
 rw [<-HW.out]
 go_loopg [3] nl (fun gk iv wr=> ∃i:Nat,i+gk=nl/\iv= .int .i64 i/\Hid (Below W.heap.size W wr)/\Hid (∀x∈r.ls.take i,x.1<=r.seq))
 case atStart=>exact⟨0,by omega,rfl,zh zb,zh (by simp)⟩
 case round=>
  obtain⟨i,hi,rfl,HBw,HA⟩:=hrel
  obtain⟨c0,c3,c4,c5⟩:=HC.out wr HBw.out
  by_cases hlt:i<nl
  case pos=>
   have hil:i<r.ls.length:=by have:=HN.out;omega
   obtain⟨vb,vo,hva,hlb,hc⟩:=(HLN.out.ext HBw.out).get i hil
   have HTK:=zh (List.take_succ_eq_append_getElem hil)
   have HXM:=zh (List.getElem_mem hil)
   generalize r.ls[i] =x at hc HTK HXM
   have g0:=hc 0 _ rfl
   (try simp only [Nat.add_zero] at g0)
   have i0:(0:Int)<=(i:Int):=by omega
   have i1:(i:Int)<(nl:Int):=by omega
   have hw1:IntKind.i64.wrap ((i:Int)+1)=(i:Int)+1:=IntWalk.i64_in _ (by have:=HM.out.2.1;unfold maxLen at this;omega)
   have hva:=HA0.out.2.1.trans hva
   subst hva
   obtain⟨z,hz⟩: ∃z,z=x.1:=⟨_,rfl⟩
   rw [<-hz] at g0
   by_cases hgt:r.seq<z
   ·have d1:z > r.seq:=hgt
    have d2:decide (r.seq<z)=true:=decide_eq_true hgt
    have HF:=zh (show¬ ∀n∈zzm r.says,n<=r.seq from fun h=>absurd (h z (by rw [hz];exact early_ln x HXM.out)) (by omega))
    clear hc hz
    go_wp2_with fail
    go_quiet (fail)
    go_wp2_with fail
    go_ret
    exact HEND.out _ _ (below_drewN HBw.out _) (yxk HF.out)
   ·have d1: ¬z > r.seq:=hgt
    have d2:decide (r.seq<z)=false:=decide_eq_false hgt
    have HA2:=zh (show∀x∈r.ls.take (i+1),x.1<=r.seq from by
     rw [HTK.out]
     intro y hy
     rcases List.mem_append.1 hy with h|h
     ·exact HA.out y h
     ·rw [List.mem_singleton.1 h,<-hz];omega)
    clear hc hz
    go_wp2_with fail
    go_quiet (fail)
    go_wp2_with fail
    go_roundg(gk - 1)
    case measure=>omega
    case rel=>exact⟨i+1,by omega,by go_num,zh (below_drewN HBw.out _),HA2⟩
  have i1: ¬(i:Int)<(nl:Int):=by omega
  have HA1:=zh (show∀x∈r.ls,x.1<=r.seq from by
   have:=HA.out
   rwa [List.take_of_length_le (by have:=HN.out;omega)] at this)
  clear HA hlt
  go_upto_region 7 with fail
  clear c0 c3 c4 c5
  obtain⟨wo,hwo⟩: ∃x,x=wr:=⟨_,rfl⟩
  subst hwo
  obtain⟨g1,hg1⟩: ∃x,x=gk:=⟨_,rfl⟩
  subst hg1
  have HBo:=HBw
  clear hi
  go_loopg [4] nb (fun gk iv wr=> ∃i:Nat,i+gk=nb/\iv= .int .i64 i/\Hid (Below W.heap.size W wr)/\Hid (∀x∈r.bs.take i,x.2.2<=r.seq))
  case atStart=>exact⟨0,by omega,rfl,zh HBo.out,zh (by simp)⟩
  case round=>
   obtain⟨i,hi,rfl,HBw,HA⟩:=hrel
   obtain⟨c0,c3,c4,c5⟩:=HC.out wr HBw.out
   by_cases hlt:i<nb
   case pos=>
    have hil:i<r.bs.length:=by have:=HN.out;omega
    obtain⟨vb,vo,hva,hlb,hc⟩:=(HBR.out.ext HBw.out).get i hil
    have HTK:=zh (List.take_succ_eq_append_getElem hil)
    have HXM:=zh (List.getElem_mem hil)
    generalize r.bs[i] =x at hc HTK HXM
    have g0:=hc 2 _ rfl
    (try simp only [Nat.add_zero] at g0)
    have i0:(0:Int)<=(i:Int):=by omega
    have i1:(i:Int)<(nb:Int):=by omega
    have hw1:IntKind.i64.wrap ((i:Int)+1)=(i:Int)+1:=IntWalk.i64_in _ (by have:=HM.out.1;unfold maxLen at this;omega)
    have hva:=HA0.out.1.trans hva
    subst hva
    obtain⟨z,hz⟩: ∃z,z=x.2.2:=⟨_,rfl⟩
    rw [<-hz] at g0
    by_cases hgt:r.seq<z
    ·have d1:z > r.seq:=hgt
     have d2:decide (r.seq<z)=true:=decide_eq_true hgt
     have HF:=zh (show¬ ∀n∈zzm r.says,n<=r.seq from fun h=>absurd (h z (by rw [hz];exact early_br x HXM.out)) (by omega))
     clear hc hz
     go_wp2_with fail
     go_quiet (fail)
     go_wp2_with fail
     go_ret
     exact HEND.out _ _ (below_drewN HBw.out _) (yxk HF.out)
    ·have d1: ¬z > r.seq:=hgt
     have d2:decide (r.seq<z)=false:=decide_eq_false hgt
     have HA2:=zh (show∀x∈r.bs.take (i+1),x.2.2<=r.seq from by
      rw [HTK.out]
      intro y hy
      rcases List.mem_append.1 hy with h|h
      ·exact HA.out y h
      ·rw [List.mem_singleton.1 h,<-hz];omega)
     clear hc hz
     go_wp2_with fail
     go_quiet (fail)
     go_wp2_with fail
     go_roundg(gk - 1)
     case measure=>omega
     case rel=>exact⟨i+1,by omega,by go_num,zh (below_drewN HBw.out _),HA2⟩
   have i1: ¬(i:Int)<(nb:Int):=by omega
   have HA2b:=zh (show∀x∈r.bs,x.2.2<=r.seq from by
    have:=HA.out
    rwa [List.take_of_length_le (by have:=HN.out;omega)] at this)
   clear HA hlt
   go_upto_region 12 with fail
   clear c0 c3 c4 c5
   obtain⟨wp,hwo⟩: ∃x,x=wr:=⟨_,rfl⟩
   subst hwo
   obtain⟨g2,hg1⟩: ∃x,x=gk:=⟨_,rfl⟩
   subst hg1
   have HBp:=HBw
   clear hi
   go_loopg [5] nv (fun gk iv wr=> ∃i:Nat,i+gk=nv/\iv= .int .i64 i/\Hid (Below W.heap.size W wr)/\Hid (∀v∈r.vs.take i,∀p∈v.ps,p.2<=r.seq))
   case atStart=>exact⟨0,by omega,rfl,HBp,zh (by simp)⟩
   case round=>
    obtain⟨i,hi,rfl,HBw,HA⟩:=hrel
    obtain⟨c0,c3,c4,c5⟩:=HC.out wr HBw.out
    by_cases hlt:i<nv
    case neg=>
     have i1: ¬(i:Int)<(nv:Int):=by omega
     have HA3:=zh (show∀v∈r.vs,∀p∈v.ps,p.2<=r.seq from by
      have:=HA.out
      rwa [List.take_of_length_le (by have:=HN.out;omega)] at this)
     clear HA hlt
     go_wp2_with fail
     go_ret
     exact HEND.out _ _ HBw.out (yvq (yvx HA1.out HA2b.out HA3.out))
    have hil:i<r.vs.length:=by have:=HN.out;omega
    obtain⟨vb,vo,hva,hlb,hc⟩:=(HVC.out.els.ext HBw.out).get i hil
    have HTK:=zh (List.take_succ_eq_append_getElem hil)
    have HXM:=zh (List.getElem_mem hil)
    have HPS:=zh (HVC.out.inn _ (List.getElem_mem hil))
    have HPL:=zh (HVC.out.lens _ (List.getElem_mem hil))
    generalize r.vs[i] =v at hc HTK HXM HPS HPL
    obtain⟨np,hnp⟩: ∃n,n=v.ps.length:=⟨_,rfl⟩
    obtain⟨pa,hpa⟩: ∃n,n=v.a:=⟨_,rfl⟩
    have HG:=zh (show∀u,Below wr.heap.size wr u->u.cell? ⟨vb,vo+i*2+1,none⟩=some (.slice pa np v.c)from fun u hu=>(hu.cell (p:=⟨vb,vo+i*2+1,none⟩) hlb).trans (by rw [hnp,hpa];exact hc 1 _ rfl))
    have HNP:=zh (show v.ps.length=np/\pa=v.a/\np<=maxLen from⟨hnp.symm,hpa,by rw [hnp];exact HPL.out⟩)
    have i0:(0:Int)<=(i:Int):=by omega
    have i1:(i:Int)<(nv:Int):=by omega
    have HW1:=zh (show IntKind.i64.wrap ((i:Int)+1)=(i:Int)+1 from IntWalk.i64_in _ (by have:=HM.out.2.2.1;unfold maxLen at this;omega))
    have hva:=HA0.out.2.2.1.trans hva
    subst hva
    clear hc hnp hpa
    go_upto_region 15 with fail
    clear c0 c3 c4 c5
    obtain⟨wq,hwo⟩: ∃x,x=wr:=⟨_,rfl⟩
    subst hwo
    obtain⟨g3,hg1⟩: ∃x,x=gk:=⟨_,rfl⟩
    subst hg1
    go_loopg [6] np (fun gk kv wr=> ∃k:Nat,k+gk=np/\kv= .int .i64 k/\Hid (Below wq.heap.size wq wr)/\Hid (∀p∈v.ps.take k,p.2<=r.seq))
    case atStart=>exact⟨0,by omega,rfl,zh zb,zh (by simp)⟩
    case round=>
     obtain⟨k,hk,rfl,HBk,HK⟩:=hrel
     have HBwk:=zh (HBw.out.trans (HBk.out.mono HBw.out.size))
     obtain⟨c0,c3,c4,c5⟩:=HC.out wr HBwk.out
     have g1:=HG.out wr HBk.out
     by_cases hkl:k<np
     case neg=>
      have k1: ¬(k:Int)<(np:Int):=by omega
      have HA2:=zh (show∀v∈r.vs.take (i+1),∀p∈v.ps,p.2<=r.seq from by
       rw [HTK.out]
       intro y hy
       rcases List.mem_append.1 hy with h|h
       ·exact HA.out y h
       ·rw [List.mem_singleton.1 h]
        have:=HK.out
        rwa [List.take_of_length_le (by have:=HNP.out;omega)] at this)
      have hw1:=HW1.out
      clear HK
      go_wp2_with fail
      go_roundg(g3 - 1)
      case measure=>omega
      case rel=>exact⟨i+1,by omega,by go_num,HBwk,HA2⟩
     have hkb:k<v.ps.length:=by have:=HNP.out;omega
     obtain⟨pb,po,hpa,hpb,hd⟩:=((HPS.out.ext HBw.out).ext HBk.out).get k hkb
     have HTB:=zh (List.take_succ_eq_append_getElem hkb)
     have HPM:=zh (List.getElem_mem hkb)
     generalize v.ps[k] =y at hd HTB HPM
     have d1:=hd 1 _ rfl
     have k0:(0:Int)<=(k:Int):=by omega
     have k1:(k:Int)<(np:Int):=by omega
     have hw2:IntKind.i64.wrap ((k:Int)+1)=(k:Int)+1:=IntWalk.i64_in _ (by have:=HNP.out.2.2;unfold maxLen at this;omega)
     have hpa:=HNP.out.2.1.trans hpa
     subst hpa
     obtain⟨z,hz⟩: ∃z,z=y.2:=⟨_,rfl⟩
     rw [<-hz] at d1
     by_cases hgt:r.seq<z
     ·have e1:z > r.seq:=hgt
      have e2:decide (r.seq<z)=true:=decide_eq_true hgt
      have HF:=zh (show¬ ∀n∈zzm r.says,n<=r.seq from fun h=>absurd (h z (by rw [hz];exact early_vc v HXM.out y HPM.out)) (by omega))
      clear hd hz
      go_wp2_with fail
      go_quiet (fail)
      go_wp2_with fail
      go_ret
      exact HEND.out _ _ (below_drewN HBwk.out _) (yxk HF.out)
     ·have e1: ¬z > r.seq:=hgt
      have e2:decide (r.seq<z)=false:=decide_eq_false hgt
      have HK2:=zh (show∀p∈v.ps.take (k+1),p.2<=r.seq from by
       rw [HTB.out]
       intro q hq
       rcases List.mem_append.1 hq with h|h
       ·exact HK.out q h
       ·rw [List.mem_singleton.1 h,<-hz];omega)
      clear hd hz
      go_wp2_with fail
      go_quiet (fail)
      go_wp2_with fail
      go_roundg(gk - 1)
      case measure=>omega
      case rel=>exact⟨k+1,by omega,by go_num,zh (below_drewN HBk.out _),HK2⟩
end Go.Proofs.YtchcelodeepjdaaGreatDoor.Ln
