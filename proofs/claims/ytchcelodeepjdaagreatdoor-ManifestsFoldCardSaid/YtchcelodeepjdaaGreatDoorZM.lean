/- Lemmas and walks towards ManifestsFold. Conditions: each one tells its own. -/
import Derived.Test.YtchcelodeepjdaaGreatDoorMp
import Derived.Test.YtchcelodeepjdaaGreatDoorZL
import Derived.Test.YtchcelodeepjdaaGreatDoorLT4
import Derived.Test.YtchcelodeepjdaaGreatDoorY7
namespace Go.Proofs.YtchcelodeepjdaaGreatDoor.Ln
open Go.RowKit Go.Shelf Go.Herb

structure zwn (r:Rv):Prop where
 bs:r.bs.length<1000000
 ls:r.ls.length<1000000
 vs:r.vs.length<1000000
 nums:(numsR r).length<1000000
 sh:r.sh.length<=1000000
 files:(zx4 (r.sh.map Sv.says)).length<=1000000
 lev: ∀s∈r.sh,∀l∈s.lv,l.ts.length<=1000000
def GoodR (r:Rv):Prop:=GoodT r.bs r.ls/\GoodS r.says
def zqy (r:Rv)(w:World)(e:Ending)(w':World):Prop:= ∃n:Int,e= .returned (.int .i64 n)/\((n=0/\GoodR r)\/(n=4/\ ¬GoodR r))/\Below w.heap.size w w'
theorem vinE {w w':World}{a:Option Addr}{xs:List Vx.Vc}(h:Vx.VIn w a xs)(hb:Below w.heap.size w w'):Vx.VIn w' a xs:=⟨h.els.ext hb,fun x hx=>(h.inn x hx).ext hb,h.wf,h.len,h.lens⟩
theorem yj5 (r:Rv):zzm r.says=numsR r:=by
 unfold zzm numsR Rv.says Vx.vsOf
 simp [List.flatMap_map]
theorem pair_iff {ys:List Int}{bs:List Br}{vs:Vs}(h1:ys.Perm (bs.map (·.2.1)))(h2:ys.Pairwise (· <= ·))(hv:okV vs):ys=vs.map (·.1)↔pairL bs vs:=by
 constructor
 ·intro h
  rw [h] at h1
  exact h1.symm
 ·intro h
  refine sort_one (h1.trans h) h2 ?_
  rw [List.pairwise_map]
  exact hv.1.imp (fun h=>by omega)
set_option maxRecDepth 100000 in
set_option maxHeartbeats 4000000 in
theorem zkk (r:Rv)(w:World)(h:RtIn w r)(hs:zwn r):Calls Tryz.prog (16) #[rtV r] w (zqy r w):=by
 obtain⟨nb,hnb⟩: ∃n,n=r.bs.length:=⟨_,rfl⟩
 obtain⟨nl,hnl⟩: ∃n,n=r.ls.length:=⟨_,rfl⟩
 obtain⟨nv,hnv⟩: ∃n,n=r.vs.length:=⟨_,rfl⟩
 obtain⟨ns,hns⟩: ∃n,n=r.sh.length:=⟨_,rfl⟩
 have hrt:rtV r= .agg #[.int .u64 r.seq, .int .u64 r.log, .int .u64 r.next, .slice r.ba nb r.bc, .slice r.la nl r.lc, .slice r.va nv r.vc, .slice r.sa ns r.sc] :=by rw [hnb,hnl,hnv,hns]
 obtain⟨W,hW⟩: ∃W:World,W=w.alloc (.cells #[.int .u64 r.seq, .int .u64 r.log, .int .u64 r.next, .slice r.ba nb r.bc, .slice r.la nl r.lc, .slice r.va nv r.vc, .slice r.sa ns r.sc] (32)):=⟨_,rfl⟩
 have hB:Below w.heap.size w W:=by rw [hW];exact zb.alloc zr _
 have hx0:W.heap[w.heap.size]? =some (.cells #[.int .u64 r.seq, .int .u64 r.log, .int .u64 r.next, .slice r.ba nb r.bc, .slice r.la nl r.lc, .slice r.va nv r.vc, .slice r.sa ns r.sc] (32) (0,0)):=by rw [hW];exact zq3 rfl _
 have HB:=zh hB
 have HC:Hid (∀u,Below W.heap.size W u->u.cell? ⟨w.heap.size,0,none⟩=some (.int .u64 r.seq)/\u.cell? ⟨w.heap.size,1,none⟩=some (.int .u64 r.log)/\u.cell? ⟨w.heap.size,2,none⟩=some (.int .u64 r.next)/\u.cell? ⟨w.heap.size,3,none⟩=some (.slice r.ba nb r.bc)/\u.cell? ⟨w.heap.size,4,none⟩=some (.slice r.la nl r.lc)/\u.cell? ⟨w.heap.size,5,none⟩=some (.slice r.va nv r.vc)/\u.cell? ⟨w.heap.size,6,none⟩=some (.slice r.sa ns r.sc)):=zh (fun u hu=>by
  have hq:=zq4 hx0 hu (zq2 hx0)
  have q0:=zq0 hq 0
  have q1:=zq0 hq 1
  have q2:=zq0 hq 2
  have q3:=zq0 hq 3
  have q4:=zq0 hq 4
  have q5:=zq0 hq 5
  have q6:=zq0 hq 6
  simp at q0 q1 q2 q3 q4 q5 q6
  exact⟨q0,q1,q2,q3,q4,q5,q6⟩)
 have HBW:=zh (show∀u,Below W.heap.size W u->Below w.heap.size w u from fun u hu=>hB.trans (hu.mono hB.size))
 have HNO:=zh (show¬GoodR r-> ∀u,Below W.heap.size W u->zqy r w (.returned (.int .i64 4)) u from fun h u hu=>⟨4,rfl, .inr ⟨rfl,h⟩,hB.trans (hu.mono hB.size)⟩)
 have HYES:=zh (show GoodR r-> ∀u,Below W.heap.size W u->zqy r w (.returned (.int .i64 0)) u from fun h u hu=>⟨0,rfl, .inl ⟨rfl,h⟩,hB.trans (hu.mono hB.size)⟩)
 have HLO:=zh (show Calls Tryz.prog (30) #[.slice r.ba nb r.bc, .slice r.la nl r.lc] W (fun e w'=> ∃tv ev,e= .returned (.tuple #[tv, .int .i64 ev])/\((ev=4/\ ¬GoodT r.bs r.ls)\/(ev=0/\GoodT r.bs r.ls))/\Below W.heap.size W w')from(of_anyB r.ba r.bc nb r.la r.lc nl r.bs r.ls W (h.brs.els.ext hB) hnb.symm (h.lns.els.ext hB) hnl.symm (by rw [hnl];exact h.lns.le) h.lns.max (by rw [hnb];exact hs.bs) (by rw [hnl];exact hs.ls) (fun x hx=>(h.brs.all x hx).2.1) (fun x hx=>(h.brs.all x hx).1)).mono (by
  rintro e w' ⟨⟨h,rfl⟩|⟨h,p,rfl, -⟩,hb⟩
  ·exact⟨_,_,rfl, .inl ⟨rfl,h⟩,hb⟩
  ·exact⟨_,_,rfl, .inr ⟨rfl,h⟩,hb⟩))
 have HVO:=zh (show∀u,Below W.heap.size W u->Calls Tryz.prog (31) #[.slice r.va nv r.vc] u (fun e w'=> ∃xv fv,e= .returned (.tuple #[xv, .int .i64 fv])/\((fv=4/\ ¬okV r.says.vs)\/(fv=0/\okV r.says.vs))/\Below u.heap.size u w')from fun u hu=>by
  rw [hnv]
  refine(Vx.of_any r.va r.vc r.vs u (vinE h.vcs (hB.trans (hu.mono hB.size)))).mono ?_
  rintro e w' ⟨v,er,rfl,hb,⟨rfl,h1, -⟩|⟨rfl,h1,rfl⟩⟩
  ·exact⟨_,_,rfl, .inr ⟨rfl,h1⟩,hb⟩
  ·exact⟨_,_,rfl, .inl ⟨rfl,h1⟩,hb⟩)
 have HPA:=zh (show okV r.says.vs-> ∀(b:Bool),(b=true↔pairL r.bs r.says.vs)-> ∀u,Below W.heap.size W u->Calls Tryz.prog (33) #[rtV r] u (fun e w'=>e= .returned (.bool b)/\Below u.heap.size u w')from fun hok b hb u hu=>(yv0 r u (h.brs.els.ext (hB.trans (hu.mono hB.size))) (vinE h.vcs (hB.trans (hu.mono hB.size))).els (by have:=hs.bs;omega) hs.vs).mono (by
  rintro e w' ⟨q,ys,rfl,h1,h2,h3,h4⟩
  have hv:r.vs.map (·.line)=r.says.vs.map (·.1):=by unfold Rv.says Vx.vsOf;simp
  rw [hv,pair_iff h1 h2 hok,<-hb] at h3
  refine⟨?_,h4⟩
  cases q<;>cases b<;>simp_all))
 have HCM:=zh (show∀u,Below W.heap.size W u->Calls Tryz.prog (35) #[rtV r] u (fun e w'=> ∃a c,e= .returned (.slice a (numsR r).length c)/\Els Vx.nu 1 w' a (numsR r)/\Below u.heap.size u w')from fun u hu=>(yj2 r u (h.brs.els.ext (hB.trans (hu.mono hB.size))) (h.lns.els.ext (hB.trans (hu.mono hB.size))) (vinE h.vcs (hB.trans (hu.mono hB.size))).els (fun x hx=>(vinE h.vcs (hB.trans (hu.mono hB.size))).inn x hx) (by have:=hs.bs;omega) hs.vs (by have:=hs.ls;omega) hs.nums).mono (by
  rintro e w' ⟨v,rfl,hO,hb⟩
  obtain⟨a,c,rfl, -,hE⟩:=zq6 Vx.zz5 hO
  exact⟨a,c,rfl,hE,hb⟩))
 obtain⟨nn,hnn⟩: ∃n,n=(numsR r).length:=⟨_,rfl⟩
 rw [<-hnn] at HCM
 have HCF:=zh (show∀(b:Bool),(b=true↔ ∃x∈numsR r,r.seq<x)-> ∀a c u,Els Vx.nu 1 u a (numsR r)->Below W.heap.size W u->Calls Tryz.prog (34) #[.slice a nn c, .func (.func 32) #[] #[.pointer (some ⟨w.heap.size,0,none⟩)]] u (fun e w'=>e= .returned (.bool b)/\Below u.heap.size u w')from fun b hb a c u hE hu=>(zww a c nn w.heap.size r.seq (numsR r) u hE hnn.symm (by rw [hnn];exact hs.nums) (fun u' hu'=>(HC.out u' (hu.trans (hu'.mono hu.size))).1)).mono (by
  rintro e w' ⟨q,rfl,h1,h2⟩
  rw [<-hb] at h1
  refine⟨?_,h2⟩
  cases q<;>cases b<;>simp_all))
 have HSH:=zh (show∀(b:Bool),(b=true↔zz0 r.next (r.sh.map Sv.says))-> ∀u,Below W.heap.size W u->Calls Tryz.prog (36) #[rtV r] u (fun e w'=>e= .returned (.bool b)/\Below u.heap.size u w')from fun b hb u hu=>(yk0 r u (h.shs.ext (hB.trans (hu.mono hB.size))) hs.files hs.sh hs.lev).mono (by
  rintro e w' ⟨q,rfl,h1,h2⟩
  rw [<-hb] at h1
  refine⟨?_,h2⟩
  cases q<;>cases b<;>simp_all))
 rw [hrt] at HPA HCM HSH
 rw [hrt]
 have HW:=zh hW
 rw [hW] at HLO
 obtain⟨c0,c1,c2,c3,c4,c5,c6⟩:=HC.out W zb
 clear h hs hB hx0 hnb hnl hnv hns hrt hnn hW
 have HEA:=zh (yj5 r)
 go_enter Tryz.func16,Tryz.ntmps16
 go_upto_region 2 with(go_at_call 30;(with_reducible refine HLO.out.mono ?_);rintro e w1 ⟨tv,ev,rfl,hT,hb⟩;have HT:=zh hT;rw [<-HW.out] at hb;have HB1:=zh hb;clear c0 c1 c2 c3 c4 c5 c6;obtain⟨c0,c1,c2,c3,c4,c5,c6⟩:=HC.out w1 HB1.out;clear hb hT)
 go_upto_region 4 with(go_at_call 31;(with_reducible refine(HVO.out _ HB1.out).mono ?_);rintro e w2 ⟨xv,fv,rfl,hX,hb⟩;have HX:=zh hX;have HB2:=zh (HB1.out.trans (hb.mono HB1.out.size));clear c0 c1 c2 c3 c4 c5 c6;obtain⟨c0,c1,c2,c3,c4,c5,c6⟩:=HC.out w2 HB2.out;clear hb hX)
 rcases HT.out with⟨rfl,hno⟩|⟨rfl,hT⟩
 ·have HF:=HNO.out (fun g=>hno g.1)
  clear hno
  go_wp2_with fail
  go_ret
  exact HF _ HB2.out
 rcases HX.out with⟨rfl,hno⟩|⟨rfl,hok⟩
 ·have HF:=HNO.out (fun g=>hno g.2.vecs)
  clear hno hT
  go_wp2_with fail
  go_ret
  exact HF _ HB2.out
 have HTT:=zh hT
 have HOK:=zh hok
 by_cases hp:pairL r.bs r.says.vs
 case neg=>
  have HF:=HNO.out (fun g=>hp g.2.pair)
  have HP:=zh (HPA.out hok false (by simp [hp]))
  clear hp hT hok HPA HCM HCF HSH
  go_wp2_with(first|(go_at_call 33;(with_reducible refine(HP.out _ HB2.out).mono ?_);rintro e w3 ⟨rfl,hb⟩;have HB3:=zh (HB2.out.trans (hb.mono HB2.out.size));clear c0 c1 c2 c3 c4 c5 c6;obtain⟨c0,c1,c2,c3,c4,c5,c6⟩:=HC.out w3 HB3.out;clear hb))
  go_ret
  exact HF _ HB3.out
 have HP:=zh (HPA.out hok true (by simp [hp]))
 have HPP:=zh hp
 clear hp hT hok HPA
 by_cases hl: ∃x∈numsR r,r.seq<x
 case pos=>
  have HF:=HNO.out (fun g=>by
   obtain⟨x,hx,hlt⟩:=hl
   have:=g.2.early x (by rw [HEA.out];exact hx)
   have h2:r.says.seq=r.seq:=rfl
   omega)
  have HL:=zh (HCF.out true (by simp only [true_iff];exact hl))
  clear hl HCF HSH
  go_wp2_with(first|(go_at_call 33;(with_reducible refine(HP.out _ HB2.out).mono ?_);rintro e w3 ⟨rfl,hb⟩;have HB3:=zh (HB2.out.trans (hb.mono HB2.out.size));clear c0 c1 c2 c3 c4 c5 c6;obtain⟨c0,c1,c2,c3,c4,c5,c6⟩:=HC.out w3 HB3.out;clear hb)|(go_at_call 35;(with_reducible refine(HCM.out _ HB3.out).mono ?_);rintro e w4 ⟨ca,cc,rfl,hE,hb⟩;have HCE:=zh hE;have HB4:=zh (HB3.out.trans (hb.mono HB3.out.size));clear c0 c1 c2 c3 c4 c5 c6;obtain⟨c0,c1,c2,c3,c4,c5,c6⟩:=HC.out w4 HB4.out;clear hb hE)|(go_at_call 34;(with_reducible refine(HL.out _ _ _ HCE.out HB4.out).mono ?_);rintro e w5 ⟨rfl,hb⟩;have HB5:=zh (HB4.out.trans (hb.mono HB4.out.size));clear c0 c1 c2 c3 c4 c5 c6;obtain⟨c0,c1,c2,c3,c4,c5,c6⟩:=HC.out w5 HB5.out;clear hb))
  go_ret
  exact HF _ HB5.out
 have HL:=zh (HCF.out false (by simp only [Bool.false_eq_true,false_iff];exact hl))
 have HE:=zh (show∀n∈zzm r.says,n<=r.says.seq from fun n hn=>by
  rw [HEA.out] at hn
  have h2:r.says.seq=r.seq:=rfl
  by_cases h3:r.seq<n
  ·exact absurd ⟨n,hn,h3⟩ hl
  ·omega)
 clear hl HCF
 by_cases hg:r.next<=r.log
 case pos=>
  have hd:decide (r.next<=r.log)=true:=decide_eq_true hg
  have HF:=HNO.out (fun g=>by
   have h1:=g.2.log
   have h2:r.says.log=r.log:=rfl
   have h3:r.says.next=r.next:=rfl
   omega)
  clear hg HSH
  go_wp2_with(first|(go_at_call 33;(with_reducible refine(HP.out _ HB2.out).mono ?_);rintro e w3 ⟨rfl,hb⟩;have HB3:=zh (HB2.out.trans (hb.mono HB2.out.size));clear c0 c1 c2 c3 c4 c5 c6;obtain⟨c0,c1,c2,c3,c4,c5,c6⟩:=HC.out w3 HB3.out;clear hb)|(go_at_call 35;(with_reducible refine(HCM.out _ HB3.out).mono ?_);rintro e w4 ⟨ca,cc,rfl,hE,hb⟩;have HCE:=zh hE;have HB4:=zh (HB3.out.trans (hb.mono HB3.out.size));clear c0 c1 c2 c3 c4 c5 c6;obtain⟨c0,c1,c2,c3,c4,c5,c6⟩:=HC.out w4 HB4.out;clear hb hE)|(go_at_call 34;(with_reducible refine(HL.out _ _ _ HCE.out HB4.out).mono ?_);rintro e w5 ⟨rfl,hb⟩;have HB5:=zh (HB4.out.trans (hb.mono HB4.out.size));clear c0 c1 c2 c3 c4 c5 c6;obtain⟨c0,c1,c2,c3,c4,c5,c6⟩:=HC.out w5 HB5.out;clear hb))
  go_ret
  exact HF _ HB5.out
 have hd:decide (r.next<=r.log)=false:=decide_eq_false hg
 have HG:=zh (show r.says.log<r.says.next from by
  have h2:r.says.log=r.log:=rfl
  have h3:r.says.next=r.next:=rfl
  omega)
 clear hg
 by_cases hs:zz0 r.next (r.sh.map Sv.says)
 case pos=>
  have HS:=zh (HSH.out true (by simp only [true_iff];exact hs))
  have HF:=HYES.out ⟨HTT.out,⟨HOK.out,HPP.out,HE.out,HG.out,hs⟩⟩
  clear hs HSH
  go_wp2_with(first|(go_at_call 33;(with_reducible refine(HP.out _ HB2.out).mono ?_);rintro e w3 ⟨rfl,hb⟩;have HB3:=zh (HB2.out.trans (hb.mono HB2.out.size));clear c0 c1 c2 c3 c4 c5 c6;obtain⟨c0,c1,c2,c3,c4,c5,c6⟩:=HC.out w3 HB3.out;clear hb)|(go_at_call 35;(with_reducible refine(HCM.out _ HB3.out).mono ?_);rintro e w4 ⟨ca,cc,rfl,hE,hb⟩;have HCE:=zh hE;have HB4:=zh (HB3.out.trans (hb.mono HB3.out.size));clear c0 c1 c2 c3 c4 c5 c6;obtain⟨c0,c1,c2,c3,c4,c5,c6⟩:=HC.out w4 HB4.out;clear hb hE)|(go_at_call 34;(with_reducible refine(HL.out _ _ _ HCE.out HB4.out).mono ?_);rintro e w5 ⟨rfl,hb⟩;have HB5:=zh (HB4.out.trans (hb.mono HB4.out.size));clear c0 c1 c2 c3 c4 c5 c6;obtain⟨c0,c1,c2,c3,c4,c5,c6⟩:=HC.out w5 HB5.out;clear hb)|(go_at_call 36;(with_reducible refine(HS.out _ HB5.out).mono ?_);rintro e w6 ⟨rfl,hb⟩;have HB6:=zh (HB5.out.trans (hb.mono HB5.out.size));clear c0 c1 c2 c3 c4 c5 c6;obtain⟨c0,c1,c2,c3,c4,c5,c6⟩:=HC.out w6 HB6.out;clear hb))
  go_ret
  exact HF _ HB6.out
 have HS:=zh (HSH.out false (by simp only [Bool.false_eq_true,false_iff];exact hs))
 have HF:=HNO.out (fun g=>hs g.2.shelved)
 clear hs HSH
 go_wp2_with(first|(go_at_call 33;(with_reducible refine(HP.out _ HB2.out).mono ?_);rintro e w3 ⟨rfl,hb⟩;have HB3:=zh (HB2.out.trans (hb.mono HB2.out.size));clear c0 c1 c2 c3 c4 c5 c6;obtain⟨c0,c1,c2,c3,c4,c5,c6⟩:=HC.out w3 HB3.out;clear hb)|(go_at_call 35;(with_reducible refine(HCM.out _ HB3.out).mono ?_);rintro e w4 ⟨ca,cc,rfl,hE,hb⟩;have HCE:=zh hE;have HB4:=zh (HB3.out.trans (hb.mono HB3.out.size));clear c0 c1 c2 c3 c4 c5 c6;obtain⟨c0,c1,c2,c3,c4,c5,c6⟩:=HC.out w4 HB4.out;clear hb hE)|(go_at_call 34;(with_reducible refine(HL.out _ _ _ HCE.out HB4.out).mono ?_);rintro e w5 ⟨rfl,hb⟩;have HB5:=zh (HB4.out.trans (hb.mono HB4.out.size));clear c0 c1 c2 c3 c4 c5 c6;obtain⟨c0,c1,c2,c3,c4,c5,c6⟩:=HC.out w5 HB5.out;clear hb)|(go_at_call 36;(with_reducible refine(HS.out _ HB5.out).mono ?_);rintro e w6 ⟨rfl,hb⟩;have HB6:=zh (HB5.out.trans (hb.mono HB5.out.size));clear c0 c1 c2 c3 c4 c5 c6;obtain⟨c0,c1,c2,c3,c4,c5,c6⟩:=HC.out w6 HB6.out;clear hb))
 go_ret
 exact HF _ HB6.out
end Go.Proofs.YtchcelodeepjdaaGreatDoor.Ln

namespace Go.Proofs.YtchcelodeepjdaaGreatDoor.Ln
open Go.RowKit Go.Shelf Go.Herb

theorem els_lit {w:World}{g:Nat}(ns:List Int)(h:w.heap[g]? =some (.cells (ns.flatMap Vx.nu).toArray (26) (0,0))):Els Vx.nu 1 w (some ⟨g,0,none⟩) ns:=zw6 Vx.zz5 h
theorem yqw (p:Nat)(bs:List Int)(ns:List Int)(n:Nat)(cs:Array Value)(w:World)(hL:LayAt w p bs)(hcs:cs=(ns.flatMap Vx.nu).toArray)(hn:ns.length=n)(hw: ∀x∈ns,U64 x)(hl:bs.length+10*n<800000000):
  Calls Tryz.prog (41) #[.pointer (some ⟨p,0,none⟩), .slice (some ⟨w.heap.size,0,none⟩) n n] (w.alloc (.cells cs (26))) (zxs p (bs++numsL ns) w):=by
 have hb:Below w.heap.size w (w.alloc (.cells cs (26))):=zb.alloc zr _
 have hlt:=hL.lt
 refine(ykw p bs (some ⟨w.heap.size,0,none⟩) n n ns _ (hL.ext hb) (els_lit ns (by rw [hcs];exact zq3 rfl _)) hn (fun ad h=>by cases h;show w.heap.size≠p;omega) hw hl).mono ?_
 rintro e w' ⟨rfl,h1,h2⟩
 exact⟨rfl,h1,(TurnI.of_below hb).trans h2⟩
theorem nums4 (p g:Nat)(bs:List Int)(a b c d:Int)(w:World)(hg:g=w.heap.size)(hL:LayAt w p bs)(ha:U64 a)(hb:U64 b)(hc:U64 c)(hd:U64 d)(hl:bs.length<700000000):
  Calls Tryz.prog (41) #[.pointer (some ⟨p,0,none⟩), .slice (some ⟨g,0,none⟩) 4 4] (w.alloc (.cells #[.int .u64 a, .int .u64 b, .int .u64 c, .int .u64 d] (26))) (zxs p (bs++numsL [a,b,c,d]) w):=by
 subst hg
 exact yqw p bs [a,b,c,d] 4 _ w hL rfl rfl (by intro x hx;simp only [List.mem_cons,List.not_mem_nil,or_false] at hx;rcases hx with rfl|rfl|rfl|rfl<;>assumption) (by omega)
theorem nums2 (p g:Nat)(bs:List Int)(a b:Int)(w:World)(hg:g=w.heap.size)(hL:LayAt w p bs)(ha:U64 a)(hb:U64 b)(hl:bs.length<700000000):
  Calls Tryz.prog (41) #[.pointer (some ⟨p,0,none⟩), .slice (some ⟨g,0,none⟩) 2 2] (w.alloc (.cells #[.int .u64 a, .int .u64 b] (26))) (zxs p (bs++numsL [a,b]) w):=by
 subst hg
 exact yqw p bs [a,b] 2 _ w hL rfl rfl (by intro x hx;simp only [List.mem_cons,List.not_mem_nil,or_false] at hx;rcases hx with rfl|rfl<;>assumption) (by omega)
theorem nums1 (p g:Nat)(bs:List Int)(a:Int)(w:World)(hg:g=w.heap.size)(hL:LayAt w p bs)(ha:U64 a)(hl:bs.length<700000000):
  Calls Tryz.prog (41) #[.pointer (some ⟨p,0,none⟩), .slice (some ⟨g,0,none⟩) 1 1] (w.alloc (.cells #[.int .u64 a] (26))) (zxs p (bs++numsL [a]) w):=by
 subst hg
 exact yqw p bs [a] 1 _ w hL rfl rfl (by intro x hx;rw [List.mem_singleton.1 hx];exact ha) (by omega)
theorem yk6 (p:Nat)(bs:List Int)(s:ByteArray)(w:World)(hL:LayAt w p bs)(hl:bs.length+s.size<800000000)(hs:0<s.size):
  Calls Tryz.prog (78) #[.pointer (some ⟨p,0,none⟩), .string s] w (zxs p (bs++putT s) w):=text_any p bs s w hL hl hs
theorem zv5 (s:ByteArray)(h:s.size<1000000):(putT s).length<=10+s.size:=by
 unfold putT
 rw [List.length_append,zw1]
 have:=zzz s.size (by omega)
 omega
theorem zqs {n:Nat}(h:n<1000000000):U64 (n:Int):=by
 unfold U64
 simp [Lit.wf,IntKind.min,IntKind.max,IntKind.signed,IntKind.bits]
 omega
theorem zjh {n:Nat}(h:n<1000000000):IntKind.u64.wrap (n:Int)=(n:Int):=by rw [IntKind.wrap_u64];omega
theorem zxt {α:Type}{f:α->List Int}{M:Nat}{l:List α}(h: ∀x∈l,(f x).length<=M):(l.flatMap f).length<=l.length*M:=by
 induction l with
 |nil=>simp
 |cons a l ih=>
  have h1:=ih (fun x hx=>h x (List.mem_cons_of_mem _ hx))
  have h2:=h a List.mem_cons_self
  rw [List.flatMap_cons,List.length_append,List.length_cons,Nat.succ_mul]
  omega
theorem yz0 (a b:Int):numsL [a,b] =putN a.toNat++putN b.toNat:=by simp [numsL]
theorem zxv {x:Int}(h:U64 x):(putN x.toNat).length<=10:=zzz _ (by have:=yxb h;omega)
structure LaidR (w:World)(r:Rv):Prop where
 inn:RtIn w r
 bs:r.bs.length<=100
 ls:r.ls.length<=100
 vs:r.vs.length<=12
 names: ∀x∈r.bs,0<x.1.size/\x.1.size<=1000
 pts: ∀x∈r.vs,x.ps.length<=1000000
theorem yzz {x:Br}(h:x.1.size<=1000)(h1:U64 x.2.1)(h2:U64 x.2.2):(brL x).length<=2000:=by
 have e1:=zv5 x.1 (by omega)
 have e2:=zxv h1
 have e3:=zxv h2
 unfold brL
 rw [List.length_append,yz0,List.length_append]
 omega
theorem zjv {a b:Int}(h1:U64 a)(h2:U64 b):(numsL [a,b]).length<=20:=by
 have e2:=zxv h1
 have e3:=zxv h2
 rw [yz0,List.length_append]
 omega
theorem xqg {x:Vx.Vc}(h:x.ps.length<=1000000)(h1:U64 x.line)(h2: ∀q∈x.ps,U64 q.1/\U64 q.2):(vcL (x.line,x.ps)).length<=20000020:=by
 have e1:=zjv h1 (zqs (n:=x.ps.length) (by omega))
 have e2:=zxt (f:=ptL) (M:=20) (l:=x.ps) (fun q hq=>zjv (h2 q hq).1 (h2 q hq).2)
 unfold vcL
 rw [List.length_append]
 have e3:x.ps.length*20<=20000000:=by omega
 have e4:(numsL [((x.line,x.ps):Int × Bh).1,(((x.line,x.ps):Int × Bh).2.length:Int)]).length<=20:=e1
 have e5:(((x.line,x.ps):Int × Bh).2.flatMap ptL).length<=x.ps.length*20:=e2
 omega
theorem zze {p g:Nat}{A B:World}{o:Obj}(h:A.heap[g]? =some o)(ht:TurnI p A B)(hg:g≠p):B.heap[g]? =some o:=ht.kept g o h hg
set_option maxRecDepth 100000 in
set_option maxHeartbeats 4000000 in
theorem yw3 (p:Nat)(bs:List Int)(r:Rv)(w0 w:World)(hL:LayAt w p bs)(h:LaidR w0 r)(hB:Below w0.heap.size w0 w)(hp:w0.heap.size<=p)(hl:bs.length<=1000):
  Calls Tryz.prog (37) #[.pointer (some ⟨p,0,none⟩),rtV r] w (zxs p (bs++headL r.says) w):=by
 obtain⟨nb,hnb⟩: ∃n,n=r.bs.length:=⟨_,rfl⟩
 obtain⟨nl,hnl⟩: ∃n,n=r.ls.length:=⟨_,rfl⟩
 obtain⟨nv,hnv⟩: ∃n,n=r.vs.length:=⟨_,rfl⟩
 obtain⟨v6,hv6⟩: ∃v,v=Value.slice r.sa r.sh.length r.sc:=⟨_,rfl⟩
 have hrt:rtV r= .agg #[.int .u64 r.seq, .int .u64 r.log, .int .u64 r.next, .slice r.ba nb r.bc, .slice r.la nl r.lc, .slice r.va nv r.vc,v6] :=by rw [hv6,hnb,hnl,hnv]
 have o6:v6.oneCell'=true:=by rw [hv6];rfl
 have hnb1:nb<=100:=by rw [hnb];exact h.bs
 have hnl1:nl<=100:=by rw [hnl];exact h.ls
 have hnv1:nv<=12:=by rw [hnv];exact h.vs
 obtain⟨W,hW⟩: ∃W:World,W=w.alloc (.cells #[.int .u64 r.seq, .int .u64 r.log, .int .u64 r.next, .slice r.ba nb r.bc, .slice r.la nl r.lc, .slice r.va nv r.vc,v6] (32)):=⟨_,rfl⟩
 have hBW:Below w.heap.size w W:=by rw [hW];exact zb.alloc zr _
 have hx0:W.heap[w.heap.size]? =some (.cells #[.int .u64 r.seq, .int .u64 r.log, .int .u64 r.next, .slice r.ba nb r.bc, .slice r.la nl r.lc, .slice r.va nv r.vc,v6] (32) (0,0)):=by rw [hW];exact zq3 rfl _
 have hpw:=hL.lt
 have hWs:W.heap.size=w.heap.size+1:=by rw [hW];simp
 have HC:Hid (∀u,TurnI p W u->u.cell? ⟨w.heap.size,0,none⟩=some (.int .u64 r.seq)/\u.cell? ⟨w.heap.size,1,none⟩=some (.int .u64 r.log)/\u.cell? ⟨w.heap.size,2,none⟩=some (.int .u64 r.next)/\u.cell? ⟨w.heap.size,3,none⟩=some (.slice r.ba nb r.bc)/\u.cell? ⟨w.heap.size,4,none⟩=some (.slice r.la nl r.lc)/\u.cell? ⟨w.heap.size,5,none⟩=some (.slice r.va nv r.vc)):=zh (fun u hu=>by
  have hq:=zze hx0 hu (by omega)
  have q0:=zq0 hq 0
  have q1:=zq0 hq 1
  have q2:=zq0 hq 2
  have q3:=zq0 hq 3
  have q4:=zq0 hq 4
  have q5:=zq0 hq 5
  simp at q0 q1 q2 q3 q4 q5
  exact⟨q0,q1,q2,q3,q4,q5⟩)
 have HLW:=zh (hL.ext hBW)
 have HT0:=zh (show TurnI p w W from TurnI.of_below hBW)
 have HB0:=zh (show∀u,TurnI p W u->Below w0.heap.size w0 u from fun u hu=>hu.below (hB.trans (hBW.mono hB.size)) hp zr)
 have HR:=zh h
 have HNB:=zh hnb
 have HNL:=zh hnl
 have HNV:=zh hnv
 have HW:=zh hW
 have hsq:=h.inn.seq
 have hlg:=h.inn.log
 have hnx:=h.inn.next
 have hub:=zqs (n:=nb) (by omega)
 have hul:=zqs (n:=nl) (by omega)
 have huv:=zqs (n:=nv) (by omega)
 have wb:=zjh (n:=nb) (by omega)
 have wl:=zjh (n:=nl) (by omega)
 have wv:=zjh (n:=nv) (by omega)
 obtain⟨D1,hD1⟩: ∃D,D=bs++numsL [r.seq,r.log,r.next,(nb:Int)] :=⟨_,rfl⟩
 have HN1:=zh (show Calls Tryz.prog (41) #[.pointer (some ⟨p,0,none⟩), .slice (some ⟨w.heap.size+1,0,none⟩) 4 4] (W.alloc (.cells #[.int .u64 r.seq, .int .u64 r.log, .int .u64 r.next, .int .u64 (nb:Int)] (26))) (zxs p D1 W)from by
  rw [hD1]
  exact nums4 p (w.heap.size+1) bs r.seq r.log r.next (nb:Int) W hWs.symm HLW.out hsq hlg hnx hub (by omega))
 have HD1:=zh hD1
 have HL1:=zh (show D1.length<=1040 from by
  rw [hD1,List.length_append]
  have e:=zxw [r.seq,r.log,r.next,(nb:Int)] (by
   intro x hx
   simp only [List.mem_cons,List.not_mem_nil,or_false] at hx
   rcases hx with rfl|rfl|rfl|rfl<;>assumption)
  have e2: [r.seq,r.log,r.next,(nb:Int)].length=4:=rfl
  omega)
 rw [hrt]
 obtain⟨c0,c1,c2,c3,c4,c5⟩:=HC.out W (TurnI.refl _)
 rw [hW] at HN1
 clear hL h hB hnb hnl hnv hrt hBW hx0 hD1 hsq hlg hnx hW hv6
 clear hWs
 go_enter Tryz.func37,Tryz.ntmps37
 go_upto_region 3 with(go_at_call 41;refine HN1.out.mono ?_;rw [<-HW.out];rintro e w1 ⟨rfl,hL1,hT1⟩;have HLa:=zh hL1;have HTa:=zh hT1;clear c0 c1 c2 c3 c4 c5;obtain⟨c0,c1,c2,c3,c4,c5⟩:=HC.out w1 hT1;clear hL1 hT1)
 go_loopg [28] nb (fun gk iv wr=> ∃k:Nat,k+gk=nb/\iv= .int .i64 k/\Hid (LayAt wr p (D1++(r.bs.take k).flatMap brL))/\Hid (TurnI p W wr))
 case atStart=>exact⟨0,by omega,rfl,zh (by simpa using HLa.out),HTa⟩
 case round=>
  obtain⟨k,hk,rfl,HLk,HTk⟩:=hrel
  by_cases hlt:k<nb
  ·have hkl:k<r.bs.length:=by have:=HNB.out;omega
   obtain⟨bk,ok,hak,hblk,hbck⟩:=(HR.out.inn.brs.els.ext (HB0.out wr HTk.out)).get k hkl
   have HTKk:=zh (List.take_succ_eq_append_getElem hkl)
   have HXW:=zh (HR.out.inn.brs.all _ (List.getElem_mem hkl))
   have HXN:=zh (HR.out.names _ (List.getElem_mem hkl))
   have hpl:((r.bs.take k).flatMap brL).length<=100*2000:=Nat.le_trans (zxt (M:=2000) (fun x hx=>yzz (HR.out.names x (List.mem_of_mem_take hx)).2 (HR.out.inn.brs.all x (List.mem_of_mem_take hx)).2.1 (HR.out.inn.brs.all x (List.mem_of_mem_take hx)).2.2)) (Nat.mul_le_mul_right _ (by rw [List.length_take];omega))
   generalize r.bs[k] =xk at*
   have g0:=hbck 0 _ rfl
   have g1:=hbck 1 _ rfl
   have g2:=hbck 2 _ rfl
   simp only [Nat.add_zero] at g0
   obtain⟨Ak,hAk⟩: ∃A:World,A=wr.alloc (.cells #[.string xk.1, .int .u64 xk.2.1, .int .u64 xk.2.2] (73)):=⟨_,rfl⟩
   have hBAk:Below wr.heap.size wr Ak:=by rw [hAk];exact zb.alloc zr _
   have HXAk:=zh (show Ak.heap[wr.heap.size]? =some (.cells #[.string xk.1, .int .u64 xk.2.1, .int .u64 xk.2.2] (73) (0,0))from by rw [hAk];exact zq3 rfl _)
   have hprk:=HLk.out.lt
   obtain⟨Ek,hEk⟩: ∃E,E=D1++(r.bs.take k).flatMap brL:=⟨_,rfl⟩
   have hElk:Ek.length<=300000:=by
    rw [hEk,List.length_append]
    have:=HL1.out
    omega
   rw [<-hEk] at HLk
   have HLAk:=zh (HLk.out.ext hBAk)
   have HTAk:=zh (HTk.out.trans (TurnI.of_below hBAk))
   have HAAk:=zh hAk
   have HTX:=zh (yk6 p Ek xk.1 Ak HLAk.out (by have:=HXN.out;omega) HXN.out.1)
   obtain⟨F,hF⟩: ∃F,F=Ek++putT xk.1:=⟨_,rfl⟩
   have hFl:F.length<=400000:=by rw [hF,List.length_append];have h1:=zv5 xk.1 (by have:=HXN.out;omega);have:=HXN.out;omega
   rw [<-hF] at HTX
   have HNM:=zh (fun(u:World) (hu:LayAt u p F)=>nums2 p u.heap.size F xk.2.1 xk.2.2 u rfl hu HXW.out.2.1 HXW.out.2.2 (by omega))
   have HFE:=zh (show D1++(r.bs.take (k+1)).flatMap brL=F++numsL [xk.2.1,xk.2.2] from by rw [HTKk.out,List.flatMap_append,<-List.append_assoc,<-hEk,hF];simp [brL])
   have i0:(0:Int)<=(k:Int):=by omega
   have i1:(k:Int)<(nb:Int):=by omega
   have hw1:IntKind.i64.wrap ((k:Int)+1)=(k:Int)+1:=IntWalk.i64_in _ (by omega)
   rw [hAk] at HTX
   clear hbck hBAk hAk hEk hF hFl hElk hpl
   rw [hak]
   go_wp2_with(first|(go_at_call 78;refine HTX.out.mono ?_;rw [<-HAAk.out];rintro e w1 ⟨rfl,hL1,hT1⟩;have HL1:=zh hL1;have hx1:=zze HXAk.out hT1 (by omega);have d1:=zq0 hx1 1;have d2:=zq0 hx1 2;simp at d1 d2;have HT1:=zh (HTAk.out.trans hT1);clear hL1 hT1 hx1)|(go_at_call 41;refine(HNM.out _ HL1.out).mono ?_;rintro e w2 ⟨rfl,hL2,hT2⟩;have HL2:=zh hL2;have HT2:=zh (HT1.out.trans hT2);clear hL2 hT2))
   rw [<-hak]
   go_roundg(gk - 1)
   case measure=>omega
   case rel=>exact⟨k+1,by omega,by go_num,zh (by rw [HFE.out];exact HL2.out),HT2⟩
  have hkn: ¬(k:Int)<(nb:Int):=by omega
  obtain⟨D2,hD2⟩: ∃D,D=D1++r.bs.flatMap brL:=⟨_,rfl⟩
  have HD2:=zh hD2
  have HM2:=zh (show D2.length<=300000 from by
   have e:=zxt (f:=brL) (M:=2000) (l:=r.bs) (fun x hx=>yzz (HR.out.names x hx).2 (HR.out.inn.brs.all x hx).2.1 (HR.out.inn.brs.all x hx).2.2)
   have:=HL1.out
   have:=HNB.out
   rw [hD2,List.length_append]
   omega)
  have HLb:=zh (show LayAt wr p D2 from by
   have:=HLk.out
   rw [List.take_of_length_le (by have:=HNB.out;omega),<-hD2] at this
   exact this)
  clear hD2 hlt HLk
  obtain⟨e0,e1,e2,e3,e4,e5⟩:=HC.out wr HTk.out
  obtain⟨D3,hD3⟩: ∃D,D=D2++numsL [(nl:Int)] :=⟨_,rfl⟩
  have HN2:=zh (nums1 p wr.heap.size D2 (nl:Int) wr rfl HLb.out hul (by have:=HM2.out;omega))
  rw [<-hD3] at HN2
  have HD3:=zh hD3
  have HM3:=zh (show D3.length<=300010 from by rw [hD3,List.length_append];have:=HM2.out;have h1:=zxw [(nl:Int)] (by intro x hx;rw [List.mem_singleton.1 hx];exact hul);have h2: [(nl:Int)].length=1:=rfl;omega)
  clear hD3 c0 c1 c2 c3 c4 c5
  go_upto_region 10 with(go_at_call 41;refine HN2.out.mono ?_;rintro e w1 ⟨rfl,hL1,hT1⟩;have HLc:=zh hL1;have HTc:=zh (HTk.out.trans hT1);clear e0 e1 e2 e3 e4 e5;obtain⟨e0,e1,e2,e3,e4,e5⟩:=HC.out w1 HTc.out;clear hL1 hT1)
  go_loopg [54] nl (fun gk iv wr=> ∃l:Nat,l+gk=nl/\iv= .int .i64 l/\Hid (LayAt wr p (D3++(r.ls.take l).flatMap lnL))/\Hid (TurnI p W wr))
  case atStart=>exact⟨0,by omega,rfl,zh (by simpa using HLc.out),HTc⟩
  case round=>
   clear HLc HTc e0 e1 e2 e3 e4 e5
   obtain⟨l,hk,rfl,HLl,HTl⟩:=hrel
   by_cases hlt:l<nl
   ·have hkl:l<r.ls.length:=by have:=HNL.out;omega
    obtain⟨bl,ol,hal,hbll,hbcl⟩:=(HR.out.inn.lns.els.ext (HB0.out wr HTl.out)).get l hkl
    have HTKl:=zh (List.take_succ_eq_append_getElem hkl)
    have HXW:=zh (HR.out.inn.lns.all _ (List.getElem_mem hkl))
    have hpl:((r.ls.take l).flatMap lnL).length<=100*20:=Nat.le_trans (zxt (M:=20) (fun x hx=>zjv (HR.out.inn.lns.all x (List.mem_of_mem_take hx)).1 (HR.out.inn.lns.all x (List.mem_of_mem_take hx)).2)) (Nat.mul_le_mul_right _ (by rw [List.length_take];omega))
    generalize r.ls[l] =xl at*
    have g0:=hbcl 0 _ rfl
    have g1:=hbcl 1 _ rfl
    simp only [Nat.add_zero] at g0
    obtain⟨Al,hAl⟩: ∃A:World,A=wr.alloc (.cells #[.int .u64 xl.1, .int .u64 xl.2] (53)):=⟨_,rfl⟩
    have hBAl:Below wr.heap.size wr Al:=by rw [hAl];exact zb.alloc zr _
    have HXAl:=zh (show Al.heap[wr.heap.size]? =some (.cells #[.int .u64 xl.1, .int .u64 xl.2] (53) (0,0))from by rw [hAl];exact zq3 rfl _)
    have hprl:=HLl.out.lt
    obtain⟨El,hEl⟩: ∃E,E=D3++(r.ls.take l).flatMap lnL:=⟨_,rfl⟩
    have hEll:El.length<=400000:=by
     rw [hEl,List.length_append]
     have:=HM3.out
     omega
    rw [<-hEl] at HLl
    have HLAl:=zh (HLl.out.ext hBAl)
    have HTAl:=zh (HTl.out.trans (TurnI.of_below hBAl))
    have HAAl:=zh hAl
    have d1:=zq0 HXAl.out 0
    have d2:=zq0 HXAl.out 1
    simp at d1 d2
    have HNM:=zh (nums2 p Al.heap.size El xl.1 xl.2 Al rfl HLAl.out HXW.out.1 HXW.out.2 (by omega))
    have hAs:Al.heap.size=wr.heap.size+1:=by rw [hAl];simp
    rw [hAs] at HNM
    have HFE:=zh (show D3++(r.ls.take (l+1)).flatMap lnL=El++numsL [xl.1,xl.2] from by rw [HTKl.out,List.flatMap_append,<-List.append_assoc,<-hEl];simp [lnL])
    have i0:(0:Int)<=(l:Int):=by omega
    have i1:(l:Int)<(nl:Int):=by omega
    have hw1:IntKind.i64.wrap ((l:Int)+1)=(l:Int)+1:=IntWalk.i64_in _ (by omega)
    rw [hAl] at HNM d1 d2
    clear hbcl hBAl hAl hEl hEll hpl hAs
    rw [hal]
    go_wp2_with(go_at_call 41;refine HNM.out.mono ?_;rw [<-HAAl.out];rintro e w2 ⟨rfl,hL2,hT2⟩;have HL2:=zh hL2;have HT2:=zh (HTAl.out.trans hT2);clear hL2 hT2)
    rw [<-hal]
    go_roundg(gk - 1)
    case measure=>omega
    case rel=>exact⟨l+1,by omega,by go_num,zh (by rw [HFE.out];exact HL2.out),HT2⟩
   have hkn: ¬(l:Int)<(nl:Int):=by omega
   obtain⟨D4,hD4⟩: ∃D,D=D3++r.ls.flatMap lnL:=⟨_,rfl⟩
   have HD4:=zh hD4
   have HM4:=zh (show D4.length<=310000 from by
    have e:=zxt (f:=lnL) (M:=20) (l:=r.ls) (fun x hx=>zjv (HR.out.inn.lns.all x hx).1 (HR.out.inn.lns.all x hx).2)
    have:=HM3.out
    have:=HNL.out
    rw [hD4,List.length_append]
    omega)
   have HLb:=zh (show LayAt wr p D4 from by
    have:=HLl.out
    rw [List.take_of_length_le (by have:=HNL.out;omega),<-hD4] at this
    exact this)
   clear hD4 hlt HLl
   obtain⟨e0,e1,e2,e3,e4,e5⟩:=HC.out wr HTl.out
   obtain⟨D5,hD5⟩: ∃D,D=D4++numsL [(nv:Int)] :=⟨_,rfl⟩
   have HN2:=zh (nums1 p wr.heap.size D4 (nv:Int) wr rfl HLb.out huv (by have:=HM4.out;omega))
   rw [<-hD5] at HN2
   have HD5:=zh hD5
   have HM5:=zh (show D5.length<=310010 from by rw [hD5,List.length_append];have:=HM4.out;have h1:=zxw [(nv:Int)] (by intro x hx;rw [List.mem_singleton.1 hx];exact huv);have h2: [(nv:Int)].length=1:=rfl;omega)
   clear hD5
   go_upto_region 16 with(go_at_call 41;refine HN2.out.mono ?_;rintro e w1 ⟨rfl,hL1,hT1⟩;have HLc:=zh hL1;have HTc:=zh (HTl.out.trans hT1);clear e0 e1 e2 e3 e4 e5;obtain⟨e0,e1,e2,e3,e4,e5⟩:=HC.out w1 HTc.out;clear hL1 hT1)
   go_loopg [76] nv (fun gk iv wr=> ∃m:Nat,m+gk=nv/\iv= .int .i64 m/\Hid (LayAt wr p (D5++((Vx.vsOf r.vs).take m).flatMap vcL))/\Hid (TurnI p W wr))
   case atStart=>exact⟨0,by omega,rfl,zh (by simpa using HLc.out),HTc⟩
   case round=>
    clear HLc HTc e0 e1 e2 e3 e4 e5
    obtain⟨m,hk,rfl,HLm,HTm⟩:=hrel
    by_cases hlt:m<nv
    ·have hkl:m<r.vs.length:=by have:=HNV.out;omega
     obtain⟨bm,om,ham,hblm,hbcm⟩:=((vinE HR.out.inn.vcs (HB0.out wr HTm.out)).els).get m hkl
     have HTKm:=zh (List.take_succ_eq_append_getElem hkl)
     have HXW:=zh (HR.out.inn.vcs.wf _ (List.getElem_mem hkl))
     have HXP:=zh (HR.out.inn.vcs.inn _ (List.getElem_mem hkl))
     have HXL:=zh (HR.out.pts _ (List.getElem_mem hkl))
     have HTV:=zh (show(Vx.vsOf r.vs).take (m+1)=(Vx.vsOf r.vs).take m++ [(r.vs[m].line,r.vs[m].ps)] from by unfold Vx.vsOf;rw [<-List.map_take,<-List.map_take,HTKm.out,List.map_append];rfl)
     have hpl:(((Vx.vsOf r.vs).take m).flatMap vcL).length<=12*20000020:=Nat.le_trans (zxt (M:=20000020) (fun x hx=>by obtain⟨y,hy,rfl⟩:=List.mem_map.1 (List.mem_of_mem_take hx);exact xqg (HR.out.pts y hy) (HR.out.inn.vcs.wf y hy).1 (HR.out.inn.vcs.wf y hy).2)) (Nat.mul_le_mul_right _ (by rw [List.length_take];omega))
     generalize r.vs[m] =xm at*
     have g0:=hbcm 0 _ rfl
     have g1:=hbcm 1 _ rfl
     simp only [Nat.add_zero] at g0
     obtain⟨np,hnp⟩: ∃n,n=xm.ps.length:=⟨_,rfl⟩
     rw [<-hnp] at g1
     have HNP:=zh hnp
     have hnp1:np<=1000000:=by rw [hnp];exact HXL.out
     have hup:=zqs (n:=np) (by omega)
     have wp:=zjh (n:=np) (by omega)
     obtain⟨Am,hAm⟩: ∃A:World,A=wr.alloc (.cells #[.int .u64 xm.line, .slice xm.a np xm.c] (76)):=⟨_,rfl⟩
     have hBAm:Below wr.heap.size wr Am:=by rw [hAm];exact zb.alloc zr _
     have HXAm:=zh (show Am.heap[wr.heap.size]? =some (.cells #[.int .u64 xm.line, .slice xm.a np xm.c] (76) (0,0))from by rw [hAm];exact zq3 rfl _)
     have hprm:=HLm.out.lt
     obtain⟨Em,hEm⟩: ∃E,E=D5++((Vx.vsOf r.vs).take m).flatMap vcL:=⟨_,rfl⟩
     have hElm:Em.length<=300000000:=by
      rw [hEm,List.length_append]
      have:=HM5.out
      omega
     rw [<-hEm] at HLm
     have HLAm:=zh (HLm.out.ext hBAm)
     have HTAm:=zh (HTm.out.trans (TurnI.of_below hBAm))
     have HAAm:=zh hAm
     have d1:=zq0 HXAm.out 0
     have d2:=zq0 HXAm.out 1
     simp at d1 d2
     obtain⟨F,hF⟩: ∃F,F=Em++numsL [xm.line,(np:Int)] :=⟨_,rfl⟩
     have hFl:F.length<=300000020:=by rw [hF,List.length_append];have h1:=zjv HXW.out.1 hup;omega
     have HNM:=zh (nums2 p Am.heap.size Em xm.line (np:Int) Am rfl HLAm.out HXW.out.1 hup (by omega))
     rw [<-hF] at HNM
     have hAs:Am.heap.size=wr.heap.size+1:=by rw [hAm];simp
     rw [hAs] at HNM
     have HFE:=zh (show D5++((Vx.vsOf r.vs).take (m+1)).flatMap vcL=F++xm.ps.flatMap ptL from by rw [HTV.out,List.flatMap_append,<-List.append_assoc,<-hEm,hF,HNP.out];simp [vcL])
     have i0:(0:Int)<=(m:Int):=by omega
     have i1:(m:Int)<(nv:Int):=by omega
     have hw1:IntKind.i64.wrap ((m:Int)+1)=(m:Int)+1:=IntWalk.i64_in _ (by omega)
     rw [hAm] at HNM d1 d2
     clear hbcm hBAm hAm hEm hElm hpl hAs hF hnp
     rw [ham]
     go_upto_region 20 with(go_at_call 41;refine HNM.out.mono ?_;rw [<-HAAm.out];rintro e w2 ⟨rfl,hL2,hT2⟩;have HL2:=zh hL2;have HT2:=zh (HTAm.out.trans hT2);have hx1:=zze HXAm.out hT2 (by omega);clear d1 d2;have d2:=zq0 hx1 1;simp at d2;clear hL2 hT2 hx1)
     clear d2
     obtain⟨g9,hg9⟩: ∃g9,g9=gk:=⟨_,rfl⟩
     rw [<-hg9] at hk
     have HG9:=zh hg9
     clear hg9
     go_loopg [92] np (fun gk iv wr=> ∃j:Nat,j+gk=np/\iv= .int .i64 j/\Hid (LayAt wr p (F++(xm.ps.take j).flatMap ptL))/\Hid (TurnI p W wr))
     case atStart=>exact⟨0,by omega,rfl,zh (by simpa using HL2.out),HT2⟩
     case round=>
      clear HL2 HT2 HLAm HTAm HLm HTm g0 g1
      obtain⟨j,hj,rfl,HLj,HTj⟩:=hrel
      by_cases hltj:j<np
      ·have hkl:j<xm.ps.length:=by have:=HNP.out;omega
       obtain⟨bj,oj,haj,hblj,hbcj⟩:=(HXP.out.ext (HB0.out wr HTj.out)).get j hkl
       have HTKj:=zh (List.take_succ_eq_append_getElem hkl)
       have HXJ:=zh (HXW.out.2 _ (List.getElem_mem hkl))
       have hpl:((xm.ps.take j).flatMap ptL).length<=1000000*20:=Nat.le_trans (zxt (M:=20) (fun x hx=>zjv (HXW.out.2 x (List.mem_of_mem_take hx)).1 (HXW.out.2 x (List.mem_of_mem_take hx)).2)) (Nat.mul_le_mul_right _ (by rw [List.length_take];omega))
       generalize xm.ps[j] =xj at*
       have g0:=hbcj 0 _ rfl
       have g1:=hbcj 1 _ rfl
       simp only [Nat.add_zero] at g0
       obtain⟨Aj,hAj⟩: ∃A:World,A=wr.alloc (.cells #[.int .u64 xj.1, .int .u64 xj.2] (78)):=⟨_,rfl⟩
       have hBAj:Below wr.heap.size wr Aj:=by rw [hAj];exact zb.alloc zr _
       have HXAj:=zh (show Aj.heap[wr.heap.size]? =some (.cells #[.int .u64 xj.1, .int .u64 xj.2] (78) (0,0))from by rw [hAj];exact zq3 rfl _)
       have hprj:=HLj.out.lt
       obtain⟨Ej,hEj⟩: ∃E,E=F++(xm.ps.take j).flatMap ptL:=⟨_,rfl⟩
       have hElj:Ej.length<=400000000:=by
        rw [hEj,List.length_append]
        omega
       rw [<-hEj] at HLj
       have HLAj:=zh (HLj.out.ext hBAj)
       have HTAj:=zh (HTj.out.trans (TurnI.of_below hBAj))
       have HAAj:=zh hAj
       have d1:=zq0 HXAj.out 0
       have d2:=zq0 HXAj.out 1
       simp at d1 d2
       have HNM:=zh (nums2 p Aj.heap.size Ej xj.1 xj.2 Aj rfl HLAj.out HXJ.out.1 HXJ.out.2 (by omega))
       have hAs:Aj.heap.size=wr.heap.size+1:=by rw [hAj];simp
       rw [hAs] at HNM
       have HFJ:=zh (show F++(xm.ps.take (j+1)).flatMap ptL=Ej++numsL [xj.1,xj.2] from by rw [HTKj.out,List.flatMap_append,<-List.append_assoc,<-hEj];simp [ptL])
       have j0:(0:Int)<=(j:Int):=by omega
       have j1:(j:Int)<(np:Int):=by omega
       have hw2:IntKind.i64.wrap ((j:Int)+1)=(j:Int)+1:=IntWalk.i64_in _ (by omega)
       rw [hAj] at HNM d1 d2
       clear hbcj hBAj hAj hEj hElj hpl hAs
       rw [haj]
       go_wp2_with(go_at_call 41;refine HNM.out.mono ?_;rw [<-HAAj.out];rintro e w2 ⟨rfl,hL2,hT2⟩;have HL2:=zh hL2;have HT2:=zh (HTAj.out.trans hT2);clear hL2 hT2)
       rw [<-haj]
       go_roundg(gk - 1)
       case measure=>omega
       case rel=>exact⟨j+1,by omega,by go_num,zh (by rw [HFJ.out];exact HL2.out),HT2⟩
      ·have HE:=zh (show LayAt wr p (D5++((Vx.vsOf r.vs).take (m+1)).flatMap vcL)from by
        rw [HFE.out]
        have:=HLj.out
        rwa [List.take_of_length_le (by have:=HNP.out;omega)] at this)
       have hjn: ¬(j:Int)<(np:Int):=by omega
       go_wp2_with fail
       rw [<-ham]
       go_roundg(g9 - 1)
       case measure=>have:=HG9.out;omega
       case rel=>exact⟨m+1,by omega,by go_num,HE,HTj⟩
    have hkn: ¬(m:Int)<(nv:Int):=by omega
    have HE:=zh (show LayAt wr p (bs++headL r.says)from by
     have:=HLm.out
     rw [List.take_of_length_le (by unfold Vx.vsOf;rw [List.length_map];have:=HNV.out;omega)] at this
     have e:bs++headL r.says=D5++(Vx.vsOf r.vs).flatMap vcL:=by
      rw [HD5.out,HD4.out,HD3.out,HD2.out,HD1.out,HNB.out,HNL.out,HNV.out]
      unfold headL Rv.says
      simp only [Vx.zqk,List.append_assoc]
     rw [e]
     exact this)
    have HTF:=zh (HT0.out.trans HTm.out)
    go_wp2_with fail
    go_end0
    exact⟨rfl,HE.out,HTF.out⟩
end Go.Proofs.YtchcelodeepjdaaGreatDoor.Ln
