/- Lemmas and walks towards ManifestsFold. Conditions: each one tells its own. -/
import Derived.Test.YtchcelodeepjdaaGreatDoorMp
import Derived.Test.YtchcelodeepjdaaGreatDoorZZP
import Derived.Test.YtchcelodeepjdaaGreatDoorU2
import Derived.Test.YtchcelodeepjdaaGreatDoorYE
import Derived.Test.YtchcelodeepjdaaGreatDoorZM
import Derived.Test.YtchcelodeepjdaaGreatDoorZZg
namespace Go.Proofs.YtchcelodeepjdaaGreatDoor.Ln
open Go.RowKit Go.Shelf Go.Herb

theorem zvu: ∀{b a:List Int},b.Nodup->(∀x∈b,x∈a)->a.length=b.length->a.Perm b
 | [],a,_,_,h=>by rw [List.length_eq_zero_iff.1 h]
 |y::b,a,hn,hs,h=>by
  obtain⟨h1,h2⟩:=List.nodup_cons.1 hn
  have hy:=hs y List.mem_cons_self
  have p1:=List.perm_cons_erase hy
  refine p1.trans (List.Perm.cons y (zvu h2 (fun x hx=> ?_) ?_))
  ·exact(List.mem_erase_of_ne (fun e=>h1 (by rw [<-e];exact hx))).2 (hs x (List.mem_cons_of_mem _ hx))
  ·have:=p1.length_eq
   rw [List.length_cons] at this h
   omega
theorem yz2 {r:Rv}(hv:okV r.says.vs):PairR r↔pairL r.bs r.says.vs:=by
 have e:r.says.vs.map (·.1)=r.vs.map Vx.Vc.line:=by
  show(Vx.vsOf r.vs).map (·.1)=_
  unfold Vx.vsOf
  rw [List.map_map]
  rfl
 have hnd:(r.vs.map Vx.Vc.line).Nodup:=by
  rw [<-e]
  have h1:=hv.1
  unfold SrtK at h1
  unfold List.Nodup
  rw [List.pairwise_map]
  exact h1.imp (fun{a b} h2 h3=>by omega)
 unfold PairR pairL
 rw [e]
 constructor
 ·rintro⟨h1,h2⟩
  refine zvu hnd (fun x hx=> ?_) (by rw [List.length_map,List.length_map];exact h1.symm)
  obtain⟨v,hv,rfl⟩:=List.mem_map.1 hx
  obtain⟨b,hb,e2⟩:=h2 v hv
  rw [<-e2]
  exact List.mem_map_of_mem (f:=fun q:Br=>q.2.1) hb
 ·intro h
  refine⟨by have:=h.length_eq;rw [List.length_map,List.length_map] at this;exact this.symm,fun v hv=> ?_⟩
  have h1:=h.symm.subset (List.mem_map_of_mem (f:=Vx.Vc.line) hv)
  obtain⟨b,hb,e2⟩:=List.mem_map.1 h1
  exact⟨b,hb,e2⟩
theorem yyw {l:List Sv}{x:Sv}(h:(l.map Sv.says).Pairwise (fun a b=>a.line<b.line))(hl: ∀y,l.getLast?=some y->y.line<x.line):((l++ [x]).map Sv.says).Pairwise (fun a b=>a.line<b.line):=by
 rw [List.map_append,List.pairwise_append]
 refine⟨h,List.pairwise_singleton _ _,fun a ha b hb=> ?_⟩
 rw [List.map_singleton,List.mem_singleton] at hb
 subst hb
 obtain⟨y,hy,rfl⟩:=List.mem_map.1 ha
 rw [List.pairwise_map] at h
 show y.line<x.line
 rcases List.eq_nil_or_concat l with e|⟨l',z,e⟩
 ·rw [e] at hy;cases hy
 ·subst e
  have h1:=hl z (by simp)
  rw [List.concat_eq_append,List.pairwise_append] at h
  rw [List.concat_eq_append] at hy
  rcases List.mem_append.1 hy with h2|h2
  ·have h3:y.line<z.line:=h.2.2 y h2 z (List.mem_singleton.2 rfl)
   omega
  ·rw [List.mem_singleton.1 h2];exact h1
set_option maxRecDepth 100000 in
set_option maxHeartbeats 4000000 in
theorem zjr (r:Rv)(w:World)(h:RtIn w r)(hs:zwn r)(hb:r.bs.length<=100000)(hl:r.ls.length<=100000)(hv:Vx.Small r.says.vs):
  Calls Tryz.prog (21) #[rtV r] w (zqy r w):=by
 have HOF:=zh (show∀u,Below w.heap.size w u->Calls Tryz.prog (54) #[.slice r.ba r.bs.length r.bc, .slice r.la r.ls.length r.lc] u (yqb r.bs r.ls u)from fun u hu=>ofR_any r.ba r.bc r.bs.length r.la r.lc r.ls.length r.bs r.ls u (h.brs.els.ext hu) rfl (h.lns.els.ext hu) rfl h.lns.le h.lns.max hb hl (fun x hx=>by have:=(h.brs.all x hx).1;unfold maxLen at this;omega))
 have HOV:=zh (show∀u,Below w.heap.size w u->Calls Tryz.prog (55) #[.slice r.va r.vs.length r.vc] u (Vx.zj4 r.says.vs u)from fun u hu=>Vx.yv2 r.va r.vc r.vs u (vinE h.vcs hu) hv)
 have HPA:=zh (show∀u,Below w.heap.size w u->Calls Tryz.prog (56) #[rtV r] u (zx1 (PairR r) u)from fun u hu=>yx5 r u (h.ext hu))
 have HNU:=zh (show∀u,Below w.heap.size w u->Calls Tryz.prog (57) #[rtV r] u (zx1 (∀n∈zzm r.says,n<=r.seq) u)from fun u hu=>zyg r u (h.ext hu))
 have HSL:=zh (show∀s∈r.sh,∀u,Below w.heap.size w u->Calls Tryz.prog (58) #[shV s] u (zx1 (MayS s.says) u)from fun s hs' u hu=>yzb s u ((h.shs.ok s hs').ext hu) (hs.lev s hs'))
 have HFI:=zh (show∀u,Below w.heap.size w u->Calls Tryz.prog (59) #[.slice r.sa r.sh.length r.sc] u (zkg r.sh u)from fun u hu=>yz9 r.sa r.sc r.sh.length r.sh u (h.shs.ext hu) rfl hs.sh hs.files)
 have HSM:=zh hs
 clear hs hb hl hv
 obtain⟨nb,hnb⟩: ∃n,n=r.bs.length:=⟨_,rfl⟩
 obtain⟨nl,hnl⟩: ∃n,n=r.ls.length:=⟨_,rfl⟩
 obtain⟨nv,hnv⟩: ∃n,n=r.vs.length:=⟨_,rfl⟩
 obtain⟨ns,hns⟩: ∃n,n=r.sh.length:=⟨_,rfl⟩
 obtain⟨ba,hba⟩: ∃n,n=r.ba:=⟨_,rfl⟩
 obtain⟨la,hla⟩: ∃n,n=r.la:=⟨_,rfl⟩
 obtain⟨va,hva⟩: ∃n,n=r.va:=⟨_,rfl⟩
 obtain⟨sa,hsa⟩: ∃n,n=r.sa:=⟨_,rfl⟩
 have hrt:rtV r= .agg #[.int .u64 r.seq, .int .u64 r.log, .int .u64 r.next, .slice ba nb r.bc, .slice la nl r.lc, .slice va nv r.vc, .slice sa ns r.sc] :=by rw [hnb,hnl,hnv,hns,hba,hla,hva,hsa]
 obtain⟨W,hW⟩: ∃W:World,W=w.alloc (.cells #[.int .u64 r.seq, .int .u64 r.log, .int .u64 r.next, .slice ba nb r.bc, .slice la nl r.lc, .slice va nv r.vc, .slice sa ns r.sc] (32)):=⟨_,rfl⟩
 have hB:Below w.heap.size w W:=by rw [hW];exact zb.alloc zr _
 have hx0:W.heap[w.heap.size]? =some (.cells #[.int .u64 r.seq, .int .u64 r.log, .int .u64 r.next, .slice ba nb r.bc, .slice la nl r.lc, .slice va nv r.vc, .slice sa ns r.sc] (32) (0,0)):=by rw [hW];exact zq3 rfl _
 have HB:=zh hB
 have HW:=zh hW
 have HN:=zh (show r.bs.length=nb/\r.ls.length=nl/\r.vs.length=nv/\r.sh.length=ns from⟨hnb.symm,hnl.symm,hnv.symm,hns.symm⟩)
 have HA0:=zh (show ba=r.ba/\la=r.la/\va=r.va/\sa=r.sa from⟨hba,hla,hva,hsa⟩)
 have HVC:=zh (vinE h.vcs hB)
 have HBR:=zh (h.brs.els.ext hB)
 have HLN:=zh (h.lns.els.ext hB)
 have HSC:=zh (h.shs.ext hB)
 have HM:=zh (show nb<=maxLen/\nl<=maxLen/\nv<=maxLen/\ns<=maxLen from⟨by rw [hnb];exact Nat.le_trans h.brs.le h.brs.max,by rw [hnl];exact Nat.le_trans h.lns.le h.lns.max,by rw [hnv];exact h.vcs.len,by rw [hns];exact Nat.le_trans h.sl h.sm⟩)
 have HEND:=zh (show∀e u,Below W.heap.size W u->(Below w.heap.size w u->zqy r w e u)->zqy r w e u from fun e u hu hq=>hq (hB.trans (hu.mono hB.size)))
 have HC:Hid (∀u,Below W.heap.size W u->u.cell? ⟨w.heap.size,0,none⟩=some (.int .u64 r.seq)/\u.cell? ⟨w.heap.size,1,none⟩=some (.int .u64 r.log)/\u.cell? ⟨w.heap.size,2,none⟩=some (.int .u64 r.next)/\u.cell? ⟨w.heap.size,3,none⟩=some (.slice ba nb r.bc)/\u.cell? ⟨w.heap.size,4,none⟩=some (.slice la nl r.lc)/\u.cell? ⟨w.heap.size,5,none⟩=some (.slice va nv r.vc)/\u.cell? ⟨w.heap.size,6,none⟩=some (.slice sa ns r.sc)):=zh (fun u hu=>by
  have hq:=zq4 hx0 hu (zq2 hx0)
  have q0:=zq0 hq 0
  have q1:=zq0 hq 1
  have q2:=zq0 hq 2
  have q3:=zq0 hq 3
  have q4:=zq0 hq 4
  have q5:=zq0 hq 5
  have q6:=zq0 hq 6
  simp at q0 q1 q2 q3 q4 q5 q6
  exact⟨q0,q1,q2,q3,q4,q5,q6⟩)
 have HRT:=zh hrt
 have HR:=zh (h.ext hB)
 rw [hrt]
 clear h hB hx0 hnb hnl hnv hns hba hla hva hsa hrt hW
 go_enter Tryz.func21,Tryz.ntmps21
 have HOF2:=HOF.out W HB.out
 rw [HN.out.1,HN.out.2.1,<-HA0.out.1,<-HA0.out.2.1] at HOF2
 have HOF3:=zh HOF2
 have HOV2:=zh (show∀u,Below w.heap.size w u->Calls Tryz.prog (55) #[.slice va nv r.vc] u (Vx.zj4 r.says.vs u)from fun u hu=>by have:=HOV.out u hu;rw [HN.out.2.2.1,<-HA0.out.2.2.1] at this;exact this)
 have HFI2:=zh (show∀u,Below w.heap.size w u->Calls Tryz.prog (59) #[.slice sa ns r.sc] u (zkg r.sh u)from fun u hu=>by have:=HFI.out u hu;rw [HN.out.2.2.2,<-HA0.out.2.2.2] at this;exact this)
 have HBAD:=zh (show¬GoodR r-> ∀u,Below W.heap.size W u->zqy r w (.returned (.int .i64 4)) u from fun hn u hu=>⟨4,rfl, .inr ⟨rfl,hn⟩,HB.out.trans (hu.mono HB.out.size)⟩)
 have HGOOD:=zh (show GoodR r-> ∀u,Below W.heap.size W u->zqy r w (.returned (.int .i64 0)) u from fun hn u hu=>⟨0,rfl, .inl ⟨rfl,hn⟩,HB.out.trans (hu.mono HB.out.size)⟩)
 rw [HRT.out] at HPA HNU
 have HBw:=zh (show∀u,Below W.heap.size W u->Below w.heap.size w u from fun u hu=>HB.out.trans (hu.mono HB.out.size))
 clear HOF HOV HFI HOF2
 go_upto_region 1 with fail
 rw [<-HW.out]
 obtain⟨c0,c1,c2,c3,c4,c5,c6⟩:=HC.out W zb
 go_wp2_with fail
 refine HOF3.out.mono ?_
 rintro e w1 ⟨⟨hng,rfl⟩|⟨hg,p1,rfl, -⟩,hb1⟩
 case inl=>
  have HB1:=zh hb1
  have HF:=zh (show¬GoodR r from fun h=>hng h.1)
  clear hng hb1 c0 c1 c2 c3 c4 c5 c6
  obtain⟨c0,c1,c2,c3,c4,c5,c6⟩:=HC.out w1 HB1.out
  go_wp2_with fail
  refine(HOV2.out w1 (HBw.out w1 HB1.out)).mono ?_
  rintro e w2 ⟨v,er,rfl,hb2,hv⟩
  have HB2:=zh (HB1.out.trans (hb2.mono HB1.out.size))
  have hov:v.oneCell'=true:=by
   rcases hv with⟨-, -,p2,la2,lc2,xs2,rfl, -⟩|⟨-, -,rfl⟩
   ·rfl
   ·rfl
  clear hb2 hv c0 c1 c2 c3 c4 c5 c6
  go_wp2_with fail
  go_ret
  exact HBAD.out HF.out _ HB2.out
 have HB1:=zh hb1
 have HGT:=zh hg
 clear hg hb1 c0 c1 c2 c3 c4 c5 c6
 obtain⟨c0,c1,c2,c3,c4,c5,c6⟩:=HC.out w1 HB1.out
 go_wp2_with fail
 refine(HOV2.out w1 (HBw.out w1 HB1.out)).mono ?_
 rintro e w2 ⟨v,er,rfl,hb2,⟨rfl,hok,p2,la2,lc2,xs2,rfl, -⟩|⟨rfl,hnok,rfl⟩⟩
 case inr=>
  have HB2:=zh (HB1.out.trans (hb2.mono HB1.out.size))
  have HF:=zh (show¬GoodR r from fun h=>hnok h.2.vecs)
  clear hnok hb2 c0 c1 c2 c3 c4 c5 c6
  go_wp2_with fail
  go_ret
  exact HBAD.out HF.out _ HB2.out
 have HB2:=zh (HB1.out.trans (hb2.mono HB1.out.size))
 have HVO:=zh hok
 clear hok hb2 c0 c1 c2 c3 c4 c5 c6
 obtain⟨c0,c1,c2,c3,c4,c5,c6⟩:=HC.out w2 HB2.out
 go_wp2_with fail
 refine(HPA.out w2 (HBw.out w2 HB2.out)).mono ?_
 rintro e w3 ⟨q,rfl,hq,hb3⟩
 have HB3:=zh (HB2.out.trans (hb3.mono HB2.out.size))
 clear hb3 c0 c1 c2 c3 c4 c5 c6
 cases q with
 |false=>
  have HF:=zh (show¬GoodR r from fun h=>absurd (hq.2 ((yz2 HVO.out).2 h.2.pair)) (by simp))
  clear hq
  go_wp2_with fail
  go_ret
  exact HBAD.out HF.out _ HB3.out
 |true=>
  have HPR:=zh ((yz2 HVO.out).1 (hq.1 rfl))
  clear hq
  obtain⟨c0,c1,c2,c3,c4,c5,c6⟩:=HC.out w3 HB3.out
  go_wp2_with fail
  refine(HNU.out w3 (HBw.out w3 HB3.out)).mono ?_
  rintro e w4 ⟨q,rfl,hq,hb4⟩
  have HB4:=zh (HB3.out.trans (hb4.mono HB3.out.size))
  clear hb4 c0 c1 c2 c3 c4 c5 c6
  cases q with
  |false=>
   have HF:=zh (show¬GoodR r from fun h=>absurd (hq.2 h.2.early) (by simp))
   clear hq
   go_wp2_with fail
   go_ret
   exact HBAD.out HF.out _ HB4.out
  |true=>
   have HEA:=zh (hq.1 rfl)
   clear hq
   obtain⟨c0,c1,c2,c3,c4,c5,c6⟩:=HC.out w4 HB4.out
   by_cases hlog:r.log<r.next
   case neg=>
    have d1:r.log >= r.next:=by omega
    have d2:decide (r.next<=r.log)=true:=decide_eq_true (by omega)
    have HF:=zh (show¬GoodR r from fun h=>hlog h.2.log)
    go_wp2_with fail
    go_ret
    exact HBAD.out HF.out _ HB4.out
   have d1: ¬r.log >= r.next:=by omega
   have d2:decide (r.next<=r.log)=false:=decide_eq_false (by omega)
   have HLG:=zh hlog
   go_upto_region 6 with fail
   clear c0 c1 c2 c3 c4 c5 c6 d1 d2 hlog
   go_loopg [7] ns (fun gk iv wr=> ∃i:Nat,i+gk=ns/\iv= .int .i64 i/\Hid (Below W.heap.size W wr)/\Hid (∀s∈r.sh.take i,MayS s.says)/\Hid (((r.sh.take i).map Sv.says).Pairwise (fun a b=>a.line<b.line)))
   case atStart=>exact⟨0,by omega,rfl,HB4,zh (by simp),zh (by simp)⟩
   case round=>
    obtain⟨i,hi,rfl,HBi,HMY,HRI⟩:=hrel
    obtain⟨c0,c1,c2,c3,c4,c5,c6⟩:=HC.out wr HBi.out
    by_cases hlt:i<ns
    case neg=>
     have i1: ¬(i:Int)<(ns:Int):=by omega
     have HMA:=zh (show∀s∈r.sh,MayS s.says from by have:=HMY.out;rwa [List.take_of_length_le (by have:=HN.out;omega)] at this)
     have HRA:=zh (show(r.sh.map Sv.says).Pairwise (fun a b=>a.line<b.line)from by have:=HRI.out;rwa [List.take_of_length_le (by have:=HN.out;omega)] at this)
     clear HMY HRI hlt
     go_wp2_with fail
     refine(HFI2.out wr (HBw.out wr HBi.out)).mono ?_
     rintro e w5 ⟨fa,nf,fc,rfl,hnf,hof,hb5⟩
     obtain⟨fs,hfs⟩: ∃l,l=zx4 (r.sh.map Sv.says):=⟨_,rfl⟩
     rw [<-hfs] at hnf hof
     have hfl:nf<=1000000:=by rw [hnf,hfs];exact HSM.out.files
     have HFS:=zh hfs
     have HB5:=zh (HBi.out.trans (hb5.mono HBi.out.size))
     have HNF:=zh (show fs.length=nf from hnf.symm)
     obtain⟨fa',fc',e1, -,hel⟩:=zq6 Vx.zz5 hof
     injection e1 with e1 e2 e3
     subst e1
     have HFE:=zh hel
     clear hfs hnf hof hb5 c0 c1 c2 c3 c4 c5 c6 hel e2 e3
     go_upto_region 12 with fail
     go_loopg [9] nf (fun gk iv wr=> ∃i:Nat,i+gk=nf/\iv= .int .i64 i/\Hid (Below w5.heap.size w5 wr)/\Hid (∀f∈fs.take i,f<r.next)/\Hid ((fs.take i).Nodup))
     case atStart=>exact⟨0,by omega,rfl,zh zb,zh (by simp),zh (by simp)⟩
     case round=>
      obtain⟨j,hj,rfl,HBj,HBE,HND⟩:=hrel
      have HWj:=zh (HB5.out.trans (HBj.out.mono HB5.out.size))
      obtain⟨c0,c1,c2,c3,c4,c5,c6⟩:=HC.out wr HWj.out
      by_cases hjl:j<nf
      case neg=>
       have j1: ¬(j:Int)<(nf:Int):=by omega
       have HG:=zh (show GoodR r from⟨HGT.out,HVO.out,HPR.out,HEA.out,HLG.out,⟨fun s hs=>by
        obtain⟨x,hx,rfl⟩:=List.mem_map.1 (show s∈r.sh.map Sv.says from hs)
        exact HMA.out x hx,HRA.out,by
        have:=HND.out
        rw [List.take_of_length_le (by have:=HNF.out;omega),HFS.out] at this
        exact this,by
        have:=HBE.out
        rw [List.take_of_length_le (by have:=HNF.out;omega),HFS.out] at this
        exact this⟩⟩)
       clear HBE HND
       go_wp2_with fail
       go_ret
       exact HGOOD.out HG.out _ HWj.out
      have hjf:j<fs.length:=by have:=HNF.out;omega
      obtain⟨b,o,hfa,hlb,hcx⟩:=(HFE.out.ext HBj.out).get j hjf
      have HTJ:=zh (List.take_succ_eq_append_getElem hjf)
      have HMJ:=zh (show fs[j] ∈zx4 r.says.sh from by rw [show zx4 r.says.sh=fs from HFS.out.symm];exact List.getElem_mem hjf)
      have HGJ:=zh (List.getElem?_eq_getElem hjf)
      generalize fs[j] =z at hcx HTJ HMJ HGJ
      have HZ:=zh (show∀u,Below wr.heap.size wr u->u.cell? ⟨b,o+j,none⟩=some (.int .u64 z)from fun u hu=>(hu.cell (p:=⟨b,o+j,none⟩) hlb).trans (by have:=hcx 0 _ rfl;simpa using this))
      have g0:=HZ.out wr zb
      have j0:(0:Int)<=(j:Int):=by omega
      have j1:(j:Int)<(nf:Int):=by omega
      have HWJ:=zh (show IntKind.i64.wrap ((j:Int)+1)=(j:Int)+1 from IntWalk.i64_in _ (by omega))
      subst hfa
      clear hcx
      by_cases hge:z<r.next
      case neg=>
       have d1:z >= r.next:=by omega
       have d2:decide (r.next<=z)=true:=decide_eq_true (by omega)
       have HF:=zh (show¬GoodR r from fun h=>hge (h.2.shelved.below z HMJ.out))
       go_wp2_with fail
       go_quiet (fail)
       go_wp2_with fail
       go_ret
       exact HBAD.out HF.out _ (below_drewN HWj.out _)
      have d1: ¬z >= r.next:=by omega
      have d2:decide (r.next<=z)=false:=decide_eq_false (by omega)
      go_upto_region 14 with fail
      go_quiet (fail)
      go_upto_region 17 with fail
      obtain⟨wo,hwo⟩: ∃x:World,x=wr:=⟨_,rfl⟩
      subst hwo
      obtain⟨g1,hg1⟩: ∃x,x=gk:=⟨_,rfl⟩
      subst hg1
      clear c0 c1 c2 c3 c4 c5 c6 g0 d1 d2
      go_loopg [10] j (fun gk kv wr=> ∃k:Nat,k+gk=j/\kv= .int .i64 k/\Hid (Below wo.heap.size wo wr)/\Hid (z∉fs.take k))
      case atStart=>exact⟨0,by omega,rfl,zh (below_drewN zb _),zh (by simp)⟩
      case round=>
       obtain⟨k,hk,rfl,HBk,HNK⟩:=hrel
       have HWk:=zh (HWj.out.trans (HBk.out.mono HWj.out.size))
       by_cases hkj:k<j
       case neg=>
        have k1: ¬(k:Int)<(j:Int):=by omega
        have HBE2:=zh (show∀f∈fs.take (j+1),f<r.next from by
         rw [HTJ.out]
         intro f hf
         rcases List.mem_append.1 hf with h|h
         ·exact HBE.out f h
         ·rw [List.mem_singleton.1 h];exact hge)
        have HND2:=zh (show(fs.take (j+1)).Nodup from by
         rw [HTJ.out,List.nodup_append]
         refine⟨HND.out,by simp,fun a ha b hb e=> ?_⟩
         rw [List.mem_singleton] at hb
         have hk2:k=j:=by omega
         have:=HNK.out
         rw [hk2] at this
         exact this (by rw [<-hb,<-e];exact ha))
        have hwj:=HWJ.out
        clear HNK
        go_wp2_with fail
        go_roundg(g1 - 1)
        case measure=>omega
        case rel=>exact⟨j+1,by omega,by go_num,zh (HBj.out.trans (HBk.out.mono HBj.out.size)),HBE2,HND2⟩
       have hkf:k<fs.length:=by have:=HNF.out;omega
       obtain⟨b2,o2,hfa2,hlb2,hcx2⟩:=((HFE.out.ext HBj.out).ext HBk.out).get k hkf
       have HTKK:=zh (List.take_succ_eq_append_getElem hkf)
       have HGK:=zh (List.getElem?_eq_getElem hkf)
       generalize fs[k] =y at hcx2 HTKK HGK
       cases hfa2
       have g1c:=hcx2 0 _ rfl
       simp only [Nat.mul_one,Nat.add_zero] at g1c
       have g0:=HZ.out wr HBk.out
       have k0:(0:Int)<=(k:Int):=by omega
       have k1:(k:Int)<(j:Int):=by omega
       have k2:(k:Int)<(nf:Int):=by omega
       have hwk:IntKind.i64.wrap ((k:Int)+1)=(k:Int)+1:=IntWalk.i64_in _ (by omega)
       clear hcx2
       by_cases hyz:y=z
       ·have d1:(y==z)=true:=beq_iff_eq.2 hyz
        have HF:=zh (show¬GoodR r from fun h=>by
         have h1:=h.2.shelved.apart
         have e1:zx4 r.says.sh=fs:=HFS.out.symm
         rw [e1] at h1
         have h2:=HGK.out
         rw [hyz,<-HGJ.out] at h2
         have:=(List.getElem?_inj hkf h1).1 h2
         omega)
        clear hyz
        go_wp2_with fail
        go_quiet (fail)
        go_wp2_with fail
        go_ret
        exact HBAD.out HF.out _ (below_drewN HWk.out _)
       ·have d1:(y==z)=false:=beq_eq_false_iff_ne.2 hyz
        have HNK2:=zh (show z∉fs.take (k+1)from by
         rw [HTKK.out,List.mem_append,List.mem_singleton]
         rintro(h|h)
         ·exact HNK.out h
         ·exact hyz h.symm)
        clear hyz
        go_wp2_with fail
        go_quiet (fail)
        go_wp2_with fail
        go_roundg(gk - 1)
        case measure=>omega
        case rel=>exact⟨k+1,by omega,by go_num,zh (below_drewN HBk.out _),HNK2⟩
    have hil:i<r.sh.length:=by have:=HN.out;omega
    obtain⟨b,o,hsa,hlb,hcx⟩:=(HSC.out.els.ext HBi.out).get i hil
    have HTK:=zh (List.take_succ_eq_append_getElem hil)
    have HXM:=zh (List.getElem_mem hil)
    obtain⟨k,hk⟩: ∃k:Nat,k=i - 1:=⟨_,rfl⟩
    have hkl:k<r.sh.length:=by omega
    obtain⟨b2,o2,hsa2,_,hcy⟩:=(HSC.out.els.ext HBi.out).get k hkl
    rw [hsa] at hsa2
    cases hsa2
    have HPL:=zh (show 0<i->(r.sh.take i).getLast?=some r.sh[k] from fun h0=>by
     rw [List.getLast?_eq_getElem?,List.length_take,List.getElem?_take_of_lt (by omega),List.getElem?_eq_getElem (by omega)]
     congr 1
     have:min i r.sh.length - 1=k:=by omega
     simp only [this])
    have HPM:=zh (show 0<i-> ∀(q:r.sh[k].line >= r.sh[i].line),¬GoodR r from fun h0 hq hg=>by
     have h1:=hg.2.shelved.rise
     have h2:(r.sh.map Sv.says).Pairwise (fun a b=>a.line<b.line):=h1
     rw [List.pairwise_map] at h2
     have h3:r.sh[k].says.line<r.sh[i].says.line:=List.pairwise_iff_getElem.1 h2 k i hkl hil (by omega)
     have h4:r.sh[k].says.line=r.sh[k].line:=rfl
     have h5:r.sh[i].says.line=r.sh[i].line:=rfl
     omega)
    generalize r.sh[i] =s at hcx HTK HXM HPM
    generalize r.sh[k] =t at hcy HPL HPM
    have HSS:=zh (HSL.out s HXM.out)
    obtain⟨v0,hv0⟩: ∃v,v=lvV s.l0:=⟨_,rfl⟩
    obtain⟨v1,hv1⟩: ∃v,v=lvV s.l1:=⟨_,rfl⟩
    obtain⟨v2,hv2⟩: ∃v,v=lvV s.l2:=⟨_,rfl⟩
    have hsv:shV s= .agg #[.int .u64 s.line,v0,v1,v2] :=by rw [hv0,hv1,hv2]
    rw [hsv] at HSS
    have o0:v0.oneCell'=true:=by rw [hv0];rfl
    have o1:v1.oneCell'=true:=by rw [hv1];rfl
    have o2':v2.oneCell'=true:=by rw [hv2];rfl
    have HSH:=zh (show∀u,Below wr.heap.size wr u->u.cell? ⟨b,o+i*4,none⟩=some (.int .u64 s.line)/\u.cell? ⟨b,o+i*4+1,none⟩=some v0/\u.cell? ⟨b,o+i*4+2,none⟩=some v1/\u.cell? ⟨b,o+i*4+3,none⟩=some v2/\u.cell? ⟨b,o+k*4,none⟩=some (.int .u64 t.line)from fun u hu=>⟨(hu.cell (p:=⟨b,o+i*4,none⟩) hlb).trans (hcx 0 _ rfl),(hu.cell (p:=⟨b,o+i*4+1,none⟩) hlb).trans (by rw [hv0];exact hcx 1 _ rfl),(hu.cell (p:=⟨b,o+i*4+2,none⟩) hlb).trans (by rw [hv1];exact hcx 2 _ rfl),(hu.cell (p:=⟨b,o+i*4+3,none⟩) hlb).trans (by rw [hv2];exact hcx 3 _ rfl),(hu.cell (p:=⟨b,o+k*4,none⟩) hlb).trans (hcy 0 _ rfl)⟩)
    have i0:(0:Int)<=(i:Int):=by omega
    have i1:(i:Int)<(ns:Int):=by omega
    have HNS:=zh (show ns<=1000000 from by have:=HN.out.2.2.2;have:=HSM.out.sh;omega)
    have hw1:IntKind.i64.wrap ((i:Int)+1)=(i:Int)+1:=IntWalk.i64_in _ (by have:=HNS.out;omega)
    have HWK:=zh (show 0<i->IntKind.i64.wrap ((i:Int) - 1)=(k:Int)from fun h=>by rw [IntWalk.i64_in _ (by have:=HNS.out;omega)];omega)
    have hk0:(0:Int)<=(k:Int):=by omega
    have hk1:(k:Int)<(ns:Int):=by omega
    have hsa:=HA0.out.2.2.2.trans hsa
    subst hsa
    clear hcx hcy hv0 hv1 hv2 hsv hkl hk
    have HKP:Hid (∀u,Below wr.heap.size wr u->u.cell? ⟨w.heap.size,6,none⟩=some (.slice (some ⟨b,o,none⟩) ns r.sc)/\u.cell? ⟨b,o+i*4,none⟩=some (.int .u64 s.line)/\u.cell? ⟨b,o+i*4+1,none⟩=some v0/\u.cell? ⟨b,o+i*4+2,none⟩=some v1/\u.cell? ⟨b,o+i*4+3,none⟩=some v2/\u.cell? ⟨b,o+k*4,none⟩=some (.int .u64 t.line)):=zh (fun u hu=>⟨(HC.out u (HBi.out.trans (hu.mono HBi.out.size))).2.2.2.2.2.2,HSH.out u hu⟩)
    obtain⟨q,hq⟩: ∃q:Bool,q=true↔MayS s.says:=by
     by_cases h:MayS s.says
     ·exact⟨true,⟨fun _=>h,fun _=>rfl⟩⟩
     ·exact⟨false,⟨(fun e=>by cases e),fun e=>absurd e h⟩⟩
    have HQ:=zh hq
    have HK1:=zh (show∀u,Below wr.heap.size wr u->Calls Tryz.prog (58) #[.agg #[.int .u64 s.line,v0,v1,v2]] u (fun e w'=>e= .returned (.bool q)/\Below u.heap.size u w')from fun u hu=>(HSS.out u (HBw.out u (HBi.out.trans (hu.mono HBi.out.size)))).mono (fun e w' ⟨q',h1,h2,h3⟩=>⟨by
     rw [h1]
     have:q'=q:=by
      cases q'<;>cases q<;>first|rfl|(exact absurd (HQ.out.2 (h2.1 rfl)) (by simp))|(exact absurd (h2.2 (HQ.out.1 rfl)) (by simp))
     rw [this],h3⟩))
    clear hq
    go_upto_region 8 with fail
    clear c0 c1 c2 c3 c4 c5 c6
    refine Rc.ck8_all q HKP HK1 i0 i1 o0 o1 o2' HWK.out hk0 hk1 (by rintro ch ⟨t,d⟩ ⟨t',d'⟩ w' rfl h;exact h) ?_
    intro v55 v56 v57 v58 v59 v60 v61 v62 v63 v64 v65 v66 v67 v68 v69 v70 v71 v72 v73 v74 v75 v76 v77 v78 v79 v80 wq hbu
    have HBu:=zh (HBi.out.trans (hbu.mono HBi.out.size))
    clear hbu
    cases hbad:(!q||(decide (0<i)&&decide (s.line<=t.line)))with
    |true=>
     have HF:=zh (show¬GoodR r from fun h=>by
      have h1:=HQ.out.2 (h.2.shelved.may s.says (List.mem_map_of_mem (f:=Sv.says) HXM.out))
      rw [h1] at hbad
      simp only [Bool.not_true,Bool.false_or,Bool.and_eq_true,decide_eq_true_eq] at hbad
      exact HPM.out hbad.1 hbad.2 h)
     clear hbad
     go_wp2
     go_ret
     exact HBAD.out HF.out _ HBu.out
    |false=>
     simp only [Bool.or_eq_false_iff,Bool.not_eq_false',Bool.and_eq_false_iff,decide_eq_false_iff_not] at hbad
     have HMY2:=zh (show∀s∈r.sh.take (i+1),MayS s.says from by
      rw [HTK.out]
      intro y hy
      rcases List.mem_append.1 hy with h|h
      ·exact HMY.out y h
      ·rw [List.mem_singleton.1 h];exact HQ.out.1 hbad.1)
     have HRI2:=zh (show((r.sh.take (i+1)).map Sv.says).Pairwise (fun a b=>a.line<b.line)from by
      rw [HTK.out]
      refine yyw HRI.out (fun y hy=> ?_)
      rcases Nat.eq_zero_or_pos i with h0|h0
      ·rw [h0,List.take_zero] at hy;cases hy
      ·rw [HPL.out h0] at hy
       cases hy
       rcases hbad.2 with h1|h1
       ·exact absurd h0 h1
       ·omega)
     clear hbad
     go_wp2
     go_roundg(gk - 1)
     case measure=>omega
     case rel=>exact⟨i+1,by omega,by go_num,HBu,HMY2,HRI2⟩
end Go.Proofs.YtchcelodeepjdaaGreatDoor.Ln

namespace Go.Proofs.YtchcelodeepjdaaGreatDoor.Ln
open Go.RowKit Go.Shelf Go.Herb

theorem u64_b {x:Int}(h:U64 x):0<=x/\x<18446744073709551616:=by
 unfold U64 at h
 simp [Lit.wf,IntKind.min,IntKind.max,IntKind.signed,IntKind.bits] at h
 omega
def zqd (ys:List Int)(w:World)(e:Ending)(w':World):Prop:= ∃(a:Option Addr) (n c:Nat),e= .returned (.slice a n c)/\n=ys.length/\Byt w' a ys/\Below w.heap.size w w'
def zz8 (ys:List Int)(w:World)(e:Ending)(w':World):Prop:= ∃(a:Option Addr) (n c:Nat),e= .returned (.slice a n c)/\n=ys.length/\OwnB w.heap.size w' (.slice a n c) ys/\Below w.heap.size w w'
theorem zwg {ys:List Int}{w w':World}{v:Value}(ho:OwnB w.heap.size w' v ys)(hb:Below w.heap.size w w'):zz8 ys w (.returned v) w':=by
 obtain⟨a,c,rfl, -, -⟩:=zq6 zqq ho
 exact⟨a,_,c,rfl,rfl,ho,hb⟩
theorem yqi {w:World}{a:Option Addr}{ys:List Int}(h:Byt w a ys)(h0:0<ys.length): ∃ad:Addr,a=some ad:=by
 obtain⟨b,o,h1, -⟩:=h.get 0 h0
 exact⟨_,h1⟩
set_option maxRecDepth 100000 in
theorem yz8 (k:Nat): ∀(w:World),k<18446744073709551616->Calls Tryz.prog (107) #[.int .u64 (k:Int)] w (zz8 (putN k) w):=by
 induction k using Nat.strongRecOn with
 |ind k ih=>
  intro w hk
  by_cases h:k<128
  ·obtain⟨A,hA⟩: ∃A:World,A=w.alloc (.cells #[.int .u8 (k:Int)] (5)):=⟨_,rfl⟩
   have hB:Below w.heap.size w A:=by rw [hA];exact zb.alloc zr _
   have hx:A.heap[w.heap.size]? =some (.cells #[.int .u8 (k:Int)] (5) (0,0)):=by rw [hA];exact zq3 rfl _
   have HF:=zh (show zz8 (putN k) w (.returned (.slice (some ⟨w.heap.size,0,none⟩) 1 1)) A from by
    rw [zk1 h]
    exact⟨_,_,_,rfl,rfl,yjm hx rfl rfl zr (by unfold maxLen;decide),hB⟩)
   have d1:(k:Int)<128:=by omega
   have d2:decide ((k:Int)<128)=true:=decide_eq_true d1
   have hcv:IntKind.u8.wrap (k:Int)=(k:Int):=by rw [IntKind.wrap_u8];omega
   have HA:=zh hA
   clear ih hB hx hA h hk
   go_enter Tryz.func107,Tryz.ntmps107
   go_wp2_with fail
   rw [<-HA.out]
   go_ret
   exact HF.out
  ·obtain⟨q,hq⟩: ∃q,q=k / 128:=⟨_,rfl⟩
   obtain⟨m,hm⟩: ∃m,m=k % 128:=⟨_,rfl⟩
   have hm1:m<128:=by rw [hm];exact Nat.mod_lt _ (by decide)
   obtain⟨A,hA⟩: ∃A:World,A=w.alloc (.cells #[.int .u8 ((m:Int)+128)] (5)):=⟨_,rfl⟩
   have hB:Below w.heap.size w A:=by rw [hA];exact zb.alloc zr _
   have hx:A.heap[w.heap.size]? =some (.cells #[.int .u8 ((m:Int)+128)] (5) (0,0)):=by rw [hA];exact zq3 rfl _
   have HO:=zh (yjm (xs:= [(m:Int)+128]) hx rfl rfl zr (show 1<=maxLen by unfold maxLen;decide))
   have HI:=zh (ih q (by rw [hq];omega) A (by omega))
   have HP:=zh (show putN k= [(m:Int)+128] ++putN q from by rw [yky h,hm,hq];rfl)
   have HL:=zh (show 0<(putN q).length/\(putN q).length<=10 from⟨zv3 q,zzz q (by omega)⟩)
   have d1: ¬(k:Int)<128:=by omega
   have d2:decide ((k:Int)<128)=false:=decide_eq_false d1
   have r1:(k:Int).tmod 128=(m:Int):=by rw [Int.tmod_eq_emod_of_nonneg (by omega),hm];omega
   have r2:(k:Int) % 128=(m:Int):=by rw [hm];omega
   have q1:(k:Int).tdiv 128=(q:Int):=by rw [Int.tdiv_eq_ediv_of_nonneg (by omega),hq];omega
   have q2:(k:Int)/ 128=(q:Int):=by rw [hq];omega
   have c1:IntKind.u8.wrap (m:Int)=(m:Int):=by rw [IntKind.wrap_u8];omega
   have c2:IntKind.u8.wrap ((m:Int)+128)=(m:Int)+128:=by rw [IntKind.wrap_u8];omega
   have c3:IntKind.u64.wrap (q:Int)=(q:Int):=by rw [IntKind.wrap_u64];omega
   have c4:IntKind.u64.wrap (m:Int)=(m:Int):=by rw [IntKind.wrap_u64];omega
   have HA:=zh hA
   have HB:=zh hB
   rw [hA] at HI
   clear ih hB hx hA h hk hq hm hm1
   go_enter Tryz.func107,Tryz.ntmps107
   go_wp2_with fail
   refine HI.out.mono ?_
   rw [<-HA.out]
   rintro e w2 ⟨a,n,c,rfl,hn,ho,hb⟩
   obtain⟨a',c',e1, -,hel⟩:=zq6 zqq ho
   injection e1 with e1 e2 e3
   subst e1
   obtain⟨ad,rfl⟩:=yqi hel HL.out.1
   obtain⟨v',w3,hr,h2,h3⟩:=zz6 w2 w.heap.size (.slice (some ⟨w.heap.size,0,none⟩) 1 1) [(m:Int)+128] ad n c (putN q) hn.symm (ownsRow_below HO.out hb zr) hel (by have:=HL.out.2;simp;omega) (Nat.le_trans HB.out.size hb.size) (24)
   have HF:=zh (show zz8 (putN k) w (.returned v') w3 from by
    rw [HP.out]
    exact zwg h2 (Below.appended (HB.out.trans (hb.mono HB.out.size)) (ownsRow_below HO.out hb zr) zr (Nat.le_trans HB.out.size hb.size) h3))
   clear hn ho hb e2 e3 hel h2 h3
   go_wp2_with(at_builtin;refine Lib.wpList_append_run _ rfl _ _ _ _ rfl _ _ rfl rfl _ _ hr ?_)
   go_ret
   exact HF.out
set_option maxRecDepth 100000 in
theorem zwt (a:Option Addr)(n c:Nat)(ys:List Int)(k:Nat)(w:World)(hb:Byt w a ys)(hn:ys.length=n)(h0:0<n)(hl:n<900000000)(hk:k<18446744073709551616):
  Calls Tryz.prog (83) #[.slice a n c, .int .u64 (k:Int)] w (zz8 (ys++putN k) w):=by
 obtain⟨ad,rfl⟩:=yqi hb (by omega)
 obtain⟨v1,w1,hr1,hP1,hg1⟩:=zz6 w w.heap.size (.slice none 0 0) [] ad n c ys hn (World.ownsRow_nil _ _ _ _) hb (by simp;omega) zr (24)
 rw [List.nil_append] at hP1
 have hb1:Below w.heap.size w w1:=zb.grown hg1 zr (fun k e=>by simp [Value.ownBlock] at e)
 obtain⟨a1,c1,hv1, -, -⟩:=zq6 zqq hP1
 rw [hn] at hv1
 subst hv1
 have HI:=zh (yz8 k w1 hk)
 have HO:=zh hP1
 have HB:=zh hb1
 have HN:=zh (show ys.length=n/\n<900000000 from⟨hn,hl⟩)
 have HL:=zh (show 0<(putN k).length/\(putN k).length<=10 from⟨zv3 k,zzz k (by omega)⟩)
 clear hb hn h0 hl hk hP1 hg1 hb1
 go_enter Tryz.func83,Tryz.ntmps83
 go_wp2_with(at_builtin;refine Lib.wpList_append_run _ rfl _ _ _ _ rfl _ _ rfl rfl _ _ hr1 ?_)
 refine HI.out.mono ?_
 rintro e w2 ⟨a,m,c,rfl,hm,ho,hb⟩
 obtain⟨a',c',e1, -,hel⟩:=zq6 zqq ho
 injection e1 with e1 e2 e3
 subst e1
 obtain⟨ad2,rfl⟩:=yqi hel HL.out.1
 obtain⟨v',w3,hr,h2,h3⟩:=zz6 w2 w.heap.size (.slice a1 n c1) ys ad2 m c (putN k) hm.symm (ownsRow_below HO.out hb zr) hel (by have:=HL.out.2;have:=HN.out;omega) (Nat.le_trans HB.out.size hb.size) (24)
 have HF:=zh (show zz8 (ys++putN k) w (.returned v') w3 from zwg h2 (Below.appended (HB.out.trans (hb.mono HB.out.size)) (ownsRow_below HO.out hb zr) zr (Nat.le_trans HB.out.size hb.size) h3))
 clear hm ho hb e2 e3 hel h2 h3 hr1
 go_wp2_with(at_builtin;refine Lib.wpList_append_run _ rfl _ _ _ _ rfl _ _ rfl rfl _ _ hr ?_)
 go_ret
 exact HF.out
set_option maxRecDepth 100000 in
theorem zj3 (a:Option Addr)(n c:Nat)(ys:List Int)(s:ByteArray)(w:World)(hb:Byt w a ys)(hn:ys.length=n)(h0:0<n)(hl:n+s.size<800000000):
  Calls Tryz.prog (82) #[.slice a n c, .string s] w (zz8 (ys++putT s) w):=by
 have HP:=zh (zwt a n c ys s.size w hb hn h0 (by omega) (by omega))
 have hcv:IntKind.u64.wrap (s.size:Int)=(s.size:Int):=by rw [IntKind.wrap_u64];omega
 have HN:=zh (show ys.length=n/\n+s.size<800000000 from⟨hn,hl⟩)
 have HL:=zh (show(putN s.size).length<=10 from zzz s.size (by omega))
 clear hb hn h0 hl
 go_enter Tryz.func82,Tryz.ntmps82
 go_wp2_with fail
 refine HP.out.mono ?_
 rintro e w2 ⟨a,m,c,rfl,hm,ho,hb⟩
 obtain⟨i0,hin,hz0,hz1,hz2⟩:=info_parts zyt
 have hml:m+s.size<900000000:=by
  have h1:=HN.out
  have h2:=HL.out
  rw [hm,List.length_append]
  omega
 have ho2:w2.ownsRow w.heap.size (5) 1 (.slice a m c) m ((ys++putN s.size).flatMap nb):=by unfold OwnB at ho;rw [<-hm] at ho;exact ho
 obtain⟨v',w3,hr,h2,h3, -⟩:=Lib.run_append_own_string (P:=Tryz.prog) w2 w.heap.size (24) (9) (24) (5) i0 Tryz.underlying24 Tryz.underlying9 hin hz0 hz1 hz2 (.slice a m c) m _ ho2 s (by unfold maxLen;omega) (by omega) hb.size
 have HF:=zh (show zz8 (ys++putT s) w (.returned v') w3 from by
  have hbb:=Below.appended hb ho2 zr hb.size h3
  rw [show ys++putT s=(ys++putN s.size)++strL s from by rw [putT,List.append_assoc]]
  generalize ys++putN s.size=kl at h2 hm
  refine zwg ?_ hbb
  unfold OwnB
  rw [List.length_append,zw1,<-hm,List.flatMap_append,<-zy9]
  exact h2)
 clear hm ho hb hml ho2 h2 h3 hin hz0 hz1 hz2
 go_wp2_with(at_builtin;refine Lib.wpList_append_run _ rfl _ _ _ _ rfl _ _ rfl rfl _ _ hr ?_)
 go_ret
 exact HF.out
theorem zz8.row {ys:List Int}{w w':World}{e:Ending}(h:zz8 ys w e w'):zqd ys w e w':=by
 obtain⟨a,n,c,rfl,hn,ho,hb⟩:=h
 obtain⟨a',c',e1, -,hel⟩:=zq6 zqq ho
 injection e1 with e1 e2 e3
 subst e1
 exact⟨a,n,c,rfl,hn,hel,hb⟩
set_option maxRecDepth 100000 in
theorem zwh (a:Option Addr)(n c:Nat)(ys:List Int)(la:Option Addr)(m lc:Nat)(xs:List Int)(w:World)(hb:Byt w a ys)(hn:ys.length=n)(h0:0<n)(hx:Els Vx.nu 1 w la xs)(hm:xs.length=m)(hu: ∀x∈xs,U64 x)(hl:n+10*m<800000000):
  Calls Tryz.prog (51) #[.slice a n c, .slice la m lc] w (zqd (ys++numsL xs) w):=by
 have HX:=zh hx
 have HU:=zh hu
 have HM:=zh hm
 have HN:=zh (show ys.length=n/\0<n/\n+10*m<800000000 from⟨hn,h0,hl⟩)
 have HB:=zh hb
 clear hx hu hm hn h0 hl hb
 go_enter Tryz.func51,Tryz.ntmps51
 go_upto_region 2 with fail
 go_loopg [5,0] m (fun gk iv v0 wr=> ∃(i:Nat) (a:Option Addr) (q c:Nat),i+gk=m/\iv= .int .i64 i/\v0= .slice a q c/\Hid (q=(ys++numsL (xs.take i)).length)/\Hid (Byt wr a (ys++numsL (xs.take i)))/\Hid (Below w.heap.size w wr))
 case atStart=>exact⟨0,a,n,c,by omega,rfl,rfl,zh (by rw [List.take_zero];show n=(ys++ []).length;rw [List.append_nil];exact HN.out.1.symm),zh (by rw [List.take_zero];show Byt w a (ys++ []);rw [List.append_nil];exact HB.out),zh zb⟩
 case round=>
  obtain⟨i,a,q,c,hi,rfl,rfl,HQ,HE,HBw⟩:=hrel
  by_cases hlt:i<m
  case neg=>
   have i1: ¬(i:Int)<(m:Int):=by omega
   have HF:=zh (show zqd (ys++numsL xs) w (.returned (.slice a q c)) wr from by
    have h1:=HQ.out
    have h2:=HE.out
    rw [List.take_of_length_le (by have:=HM.out;omega)] at h1 h2
    exact⟨a,q,c,rfl,h1,h2,HBw.out⟩)
   clear HQ HE
   go_wp2_with fail
   go_ret
   exact HF.out
  have hil:i<xs.length:=by have:=HM.out;omega
  obtain⟨b,o,hla,hlb,hcx⟩:=(HX.out.ext HBw.out).get i hil
  have HTK:=zh (List.take_succ_eq_append_getElem hil)
  have HUX:=zh (HU.out _ (List.getElem_mem hil))
  have HTL:=zh (zxw (xs.take i) (fun y hy=>HU.out y (List.mem_of_mem_take hy)))
  generalize xs[i] =x at hcx HTK HUX
  have g0:=hcx 0 _ rfl
  simp only [Nat.mul_one,Nat.add_zero] at g0
  obtain⟨k,hk⟩: ∃k:Nat,x=(k:Int):=⟨x.toNat,by have:=u64_b HUX.out;omega⟩
  subst hk
  have hk64:k<18446744073709551616:=by have:=u64_b HUX.out;omega
  subst hla
  have i0:(0:Int)<=(i:Int):=by omega
  have i1:(i:Int)<(m:Int):=by omega
  have hw1:IntKind.i64.wrap ((i:Int)+1)=(i:Int)+1:=IntWalk.i64_in _ (by have:=HN.out;omega)
  have hq1:0<q/\q<900000000:=by
   have h1:=HQ.out
   have h2:=HTL.out
   have h3:=HN.out
   rw [List.length_append] at h1
   rw [List.length_take] at h2
   omega
  have HP:=zh (zwt a q c (ys++numsL (xs.take i)) k wr HE.out HQ.out.symm hq1.1 hq1.2 hk64)
  have HEQ:=zh (show(ys++numsL (xs.take i))++putN k=ys++numsL (xs.take (i+1))from by
   rw [HTK.out,List.append_assoc]
   unfold numsL
   rw [List.flatMap_append]
   simp)
  clear hcx hk64 hq1
  go_wp2_with fail
  refine HP.out.mono ?_
  intro e w2 hpost
  rw [HEQ.out] at hpost
  obtain⟨a',q',c',rfl,hq',hE',hb'⟩:=hpost.row
  have HQ':=zh hq'
  have HE':=zh hE'
  have HB':=zh (HBw.out.trans (hb'.mono HBw.out.size))
  clear hq' hE' hb' hpost
  go_wp2_with fail
  go_roundg(gk - 1)
  case measure=>omega
  case rel=>exact⟨i+1,a',q',c',by omega,by go_num,rfl,HQ',HE',HB'⟩
end Go.Proofs.YtchcelodeepjdaaGreatDoor.Ln
