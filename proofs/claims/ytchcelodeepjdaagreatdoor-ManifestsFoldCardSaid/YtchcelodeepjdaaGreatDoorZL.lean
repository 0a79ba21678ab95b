/- Lemmas and walks towards ManifestsFold. Conditions: each one tells its own. -/
import Derived.Test.YtchcelodeepjdaaGreatDoorMp
import Derived.Test.YtchcelodeepjdaaGreatDoorZF
import Derived.Test.YtchcelodeepjdaaGreatDoorZE
import Derived.Lib.AppendStr
namespace Go.Proofs.YtchcelodeepjdaaGreatDoor.Ln
open Go.RowKit Go.Shelf Go.Herb

set_option maxRecDepth 100000 in
set_option maxHeartbeats 2000000 in
theorem yv0 (r:Rv)(w:World)(hb:Els brc 3 w r.ba r.bs)(hv:Els Vx.vc 2 w r.va r.vs)(hN:r.bs.length<1000000)(hM:r.vs.length<1000000):
  Calls Tryz.prog (33) #[rtV r] w fun e w'=> ∃(q:Bool) (ys:List Int),e= .returned (.bool q)/\ys.Perm (r.bs.map (·.2.1))/\ys.Pairwise (· <= ·)/\(q=true↔ys=r.vs.map (·.line))/\Below w.heap.size w w':=by
 obtain⟨n,hn⟩: ∃n,n=r.bs.length:=⟨_,rfl⟩
 obtain⟨m,hm⟩: ∃m,m=r.vs.length:=⟨_,rfl⟩
 obtain⟨ln,hln⟩: ∃m,m=r.ls.length:=⟨_,rfl⟩
 obtain⟨v6,hv6⟩: ∃v,v=Value.slice r.sa r.sh.length r.sc:=⟨_,rfl⟩
 have hrt:rtV r= .agg #[.int .u64 r.seq, .int .u64 r.log, .int .u64 r.next, .slice r.ba n r.bc, .slice r.la ln r.lc, .slice r.va m r.vc,v6] :=by rw [hv6,hn,hm,hln]
 have o6:v6.oneCell'=true:=by rw [hv6];rfl
 rw [hrt]
 rw [<-hn] at hN
 rw [<-hm] at hM
 clear hrt hv6
 have HNE:=zh hn
 have HME:=zh hm
 have HLE:=zh hln
 have HBR:=zh hb
 have HVC:=zh hv
 obtain⟨W,hW⟩: ∃W:World,W=w.alloc (.cells #[.int .u64 r.seq, .int .u64 r.log, .int .u64 r.next, .slice r.ba n r.bc, .slice r.la ln r.lc, .slice r.va m r.vc,v6] (32)):=⟨_,rfl⟩
 have hB:Below w.heap.size w W:=by rw [hW];exact zb.alloc zr _
 have hx0:W.heap[w.heap.size]? =some (.cells #[.int .u64 r.seq, .int .u64 r.log, .int .u64 r.next, .slice r.ba n r.bc, .slice r.la ln r.lc, .slice r.va m r.vc,v6] (32) (0,0)):=by rw [hW];exact zq3 rfl _
 have HB:=zh hB
 have HC:Hid (∀u,Below W.heap.size W u->u.cell? ⟨w.heap.size,3,none⟩=some (.slice r.ba n r.bc)/\u.cell? ⟨w.heap.size,4,none⟩=some (.slice r.la ln r.lc)/\u.cell? ⟨w.heap.size,5,none⟩=some (.slice r.va m r.vc)):=zh (fun u hu=>by
  have h0:=zq0 (zq4 hx0 hu (zq2 hx0)) 3
  have h1:=zq0 (zq4 hx0 hu (zq2 hx0)) 4
  have h2:=zq0 (zq4 hx0 hu (zq2 hx0)) 5
  simp at h0 h1 h2
  exact⟨h0,h1,h2⟩)
 have HW:=zh hW
 have hWs:w.heap.size<=W.heap.size:=hB.size
 obtain⟨e3,e4,e5⟩:=HC.out W zb
 clear hB hx0 hn hm hln hb hv
 go_enter Tryz.func33,Tryz.ntmps33
 go_wp2_with fail
 rw [<-HW.out]
 clear o6 e3 e4 e5 HW
 go_loopg [3,12] n (fun gk sv iv wr=> ∃(k:Nat) (v:Value),k+gk=n/\iv= .int .i64 k/\v=sv/\Hid (Vx.OwnU W.heap.size wr v ((r.bs.take k).map (·.2.1)))/\Hid (Below W.heap.size W wr))
 case atStart=>exact⟨0,_,by omega,rfl,rfl,zh (World.ownsRow_nil _ _ _ _),zh zb⟩
 case round=>
  obtain⟨k,v,hk,rfl,rfl,HO,HBk⟩:=hrel
  by_cases hlt:k<n
  ·have hkl:k<r.bs.length:=by have:=HNE.out;omega
   obtain⟨b,o,hba,hbl,hbc⟩:=HBR.out.get k hkl
   have HTK:=zh (List.take_succ_eq_append_getElem hkl)
   have hBw:=HB.out.trans (HBk.out.mono HB.out.size)
   have g0:=(hBw.cell (p:=⟨b,_,none⟩) hbl).trans (hbc 0 _ rfl)
   have g1:=(hBw.cell (p:=⟨b,_,none⟩) hbl).trans (hbc 1 _ rfl)
   have g2:=(hBw.cell (p:=⟨b,_,none⟩) hbl).trans (hbc 2 _ rfl)
   simp only [Nat.add_zero] at g0
   clear hbc hBw
   generalize r.bs[k] =x at*
   obtain⟨v',w',hr,hO',hBx⟩:=zyx x.2.1 (.cells #[.string x.1, .int .u64 x.2.1, .int .u64 x.2.2] (73)) HBk.out.size HO.out (by rw [List.length_map,List.length_take];omega)
   have HO2:=zh (show Vx.OwnU W.heap.size w' v' ((r.bs.take (k+1)).map (·.2.1))from by rw [HTK.out,List.map_append];exact hO')
   have HB2:=zh (show Below W.heap.size W w' from HBk.out.trans hBx)
   have i0:(0:Int)<=(k:Int):=by omega
   have i1:(k:Int)<(n:Int):=by omega
   have hw1:IntKind.i64.wrap ((k:Int)+1)=(k:Int)+1:=IntWalk.i64_in _ (by omega)
   clear hO' hBx
   rw [hba]
   go_wp2_with(at_builtin;refine Lib.wpList_append_run _ rfl _ _ _ _ rfl _ _ rfl rfl _ _ hr ?_)
   rw [<-hba]
   go_roundg(gk - 1)
   case measure=>omega
   case rel=>exact⟨k+1,_,by omega,by go_num,rfl,HO2,HB2⟩
  have hkn: ¬(k:Int)<(n:Int):=by omega
  have HA:=zh (show Vx.OwnU W.heap.size wr v ((r.bs).map (·.2.1))from by
   have:=HO.out
   rwa [List.take_of_length_le (by have:=HNE.out;omega)] at this)
  clear hlt HO
  obtain⟨e3,e4,e5⟩:=HC.out wr HBk.out
  obtain⟨va,hva⟩: ∃va,va=v:=⟨_,rfl⟩
  obtain⟨wa,hwa⟩: ∃wa,wa=wr:=⟨_,rfl⟩
  rw [<-hva,<-hwa] at HA
  rw [<-hwa] at HBk
  go_wp2_with fail
  rw [<-hva,<-hwa]
  clear hva hwa e3 e4 e5
  go_loopg [4,25] m (fun gk sv iv wr=> ∃(k:Nat) (v:Value),k+gk=m/\iv= .int .i64 k/\v=sv/\Hid (Vx.OwnU wa.heap.size wr v ((r.vs.take k).map (·.line)))/\Hid (Below wa.heap.size wa wr))
  case atStart=>exact⟨0,_,by omega,rfl,rfl,zh (World.ownsRow_nil _ _ _ _),zh zb⟩
  case round=>
   obtain⟨k,v,hk,rfl,rfl,HO,HBm⟩:=hrel
   by_cases hlt:k<m
   ·have hkl:k<r.vs.length:=by have:=HME.out;omega
    obtain⟨b,o,hva,hbl,hbc⟩:=HVC.out.get k hkl
    have HTK:=zh (List.take_succ_eq_append_getElem hkl)
    have hBw:=(HB.out.trans (HBk.out.mono HB.out.size)).trans (HBm.out.mono (Nat.le_trans HB.out.size HBk.out.size))
    have g0:=(hBw.cell (p:=⟨b,_,none⟩) hbl).trans (hbc 0 _ rfl)
    have g1:=(hBw.cell (p:=⟨b,_,none⟩) hbl).trans (hbc 1 _ rfl)
    simp only [Nat.add_zero] at g0
    clear hbc hBw
    generalize r.vs[k] =x at*
    obtain⟨v',w',hr,hO',hBx⟩:=zyx x.line (.cells #[.int .u64 x.line, .slice x.a x.ps.length x.c] (76)) HBm.out.size HO.out (by rw [List.length_map,List.length_take];omega)
    have HO2:=zh (show Vx.OwnU wa.heap.size w' v' ((r.vs.take (k+1)).map (·.line))from by rw [HTK.out,List.map_append];exact hO')
    have HB2:=zh (show Below wa.heap.size wa w' from HBm.out.trans hBx)
    have i0:(0:Int)<=(k:Int):=by omega
    have i1:(k:Int)<(m:Int):=by omega
    have hw1:IntKind.i64.wrap ((k:Int)+1)=(k:Int)+1:=IntWalk.i64_in _ (by omega)
    clear hO' hBx
    rw [hva]
    go_wp2_with(at_builtin;refine Lib.wpList_append_run _ rfl _ _ _ _ rfl _ _ rfl rfl _ _ hr ?_)
    rw [<-hva]
    go_roundg(gk - 1)
    case measure=>omega
    case rel=>exact⟨k+1,_,by omega,by go_num,rfl,HO2,HB2⟩
   have hkn: ¬(k:Int)<(m:Int):=by omega
   have HV:=zh (show Vx.OwnU wa.heap.size wr v (r.vs.map (·.line))from by
    have:=HO.out
    rwa [List.take_of_length_le (by have:=HME.out;omega)] at this)
   clear hlt HO
   have HA2:=zh (show Vx.OwnU W.heap.size wr va ((r.bs).map (·.2.1))from ownsRow_below HA.out HBm.out zr)
   have HBz:=zh (show Below w.heap.size w wr from(HB.out.trans (HBk.out.mono HB.out.size)).trans (HBm.out.mono (Nat.le_trans HB.out.size HBk.out.size)))
   have HAL:=zh (World.ownsRow.lt HA.out)
   obtain⟨bb,bc,hvv, -,hEb⟩:=zq6 (xs:=r.vs.map (·.line)) Vx.zz5 HV.out
   have HVL:=zh (show(r.vs.map (·.line)).length=m by rw [List.length_map,HME.out])
   have HBL:=zh (show(r.bs.map (·.2.1)).length=n by rw [List.length_map,HNE.out])
   rw [HVL.out] at hvv
   subst hvv
   rcases zzt HA2.out with⟨rfl,hnil⟩|⟨g,cap,hvg,hg2,hR⟩
   ·have HEQ:=zh (zyo none bb 0 bc 0 m [] (r.vs.map (·.line)) wr (Els.nil _ _ _ _) hEb rfl HVL.out (by omega))
    have HNIL:=zh hnil
    clear hEb hnil HV HA HA2
    go_wp2_with(first|(go_at_call 74;refine(Vx.yzm _).mono ?_;rintro e w' ⟨rfl,rfl⟩)|(go_at_call 75;refine HEQ.out.mono ?_;rintro e w' ⟨q,rfl,hq,hbq⟩))
    go_ret
    exact⟨q, [],rfl,by rw [HNIL.out], .nil,hq,HBz.out.trans (hbq.mono HBz.out.size)⟩
   ·rw [HBL.out] at hvg
    subst hvg
    have HS:=zh (Vx.xq6 g cap n (r.bs.map (·.2.1)) HBL.out wr hR hN)
    have hgl:g<wa.heap.size:=(HAL.out g rfl).2
    have HEB:=zh (show∀u,wr.grownBy u (some g)->Els Vx.nu 1 u bb (r.vs.map (·.line))from fun u hu=>by
     have h1:=World.ownsRow.kept HV.out hu (.inr (fun e=>by have:=(World.ownsRow.lt HV.out _ e).1;omega))
     obtain⟨a9,c9,hv9, -,hE9⟩:=zq6 (xs:=r.vs.map (·.line)) Vx.zz5 h1
     cases hv9
     exact hE9)
    have HGB:=zh (show∀u,wr.grownBy u (some g)->Below w.heap.size w u from fun u hu=>HBz.out.grown hu HBz.out.size (fun q e=>by cases e;have:=HB.out.size;omega))
    clear hEb hR HV HA HA2
    go_wp2_with(go_at_call 74;refine HS.out.mono ?_;rintro e ws ⟨rfl,zs,hz1,hz2,hz3,hz4⟩;have HZ:=zh (And.intro hz1 hz2);have HEQ:=zh (zyo (some ⟨g,0,none⟩) bb cap bc n m zs (r.vs.map (·.line)) ws (hz3.els Vx.zz5) (HEB.out _ hz4) (hz1.length_eq.trans HBL.out) HVL.out hN);have HBs:=zh (HGB.out _ hz4);clear hz1 hz2 hz3 hz4)
    refine HEQ.out.mono ?_
    rintro e w' ⟨q,rfl,hq,hbq⟩
    go_wp2_with fail
    go_ret
    exact⟨q,zs,rfl,HZ.out.1,HZ.out.2,hq,HBs.out.trans (hbq.mono HBs.out.size)⟩
def numsR (r:Rv):List Int:=r.ls.map (·.1)++r.bs.map (·.2.2)++r.vs.flatMap (fun v=>v.ps.map (·.2))
set_option maxRecDepth 100000 in
set_option maxHeartbeats 2000000 in
theorem yj2 (r:Rv)(w:World)(hb:Els brc 3 w r.ba r.bs)(hl:Els lnc 2 w r.la r.ls)(hv:Els Vx.vc 2 w r.va r.vs)(hp: ∀x∈r.vs,Els Vx.pc 2 w x.a x.ps)(hN:r.bs.length<1000000)(hM:r.vs.length<1000000)(hK:r.ls.length<1000000)(hS:(numsR r).length<1000000):
  Calls Tryz.prog (35) #[rtV r] w fun e w'=> ∃v,e= .returned v/\Vx.OwnU w.heap.size w' v (numsR r)/\Below w.heap.size w w':=by
 obtain⟨n,hn⟩: ∃n,n=r.bs.length:=⟨_,rfl⟩
 obtain⟨m,hm⟩: ∃m,m=r.vs.length:=⟨_,rfl⟩
 obtain⟨ln,hln⟩: ∃m,m=r.ls.length:=⟨_,rfl⟩
 obtain⟨v6,hv6⟩: ∃v,v=Value.slice r.sa r.sh.length r.sc:=⟨_,rfl⟩
 have hrt:rtV r= .agg #[.int .u64 r.seq, .int .u64 r.log, .int .u64 r.next, .slice r.ba n r.bc, .slice r.la ln r.lc, .slice r.va m r.vc,v6] :=by rw [hv6,hn,hm,hln]
 have o6:v6.oneCell'=true:=by rw [hv6];rfl
 rw [hrt]
 rw [<-hn] at hN
 rw [<-hm] at hM
 rw [<-hln] at hK
 have HSZ:=zh (show r.ls.length+r.bs.length+(r.vs.flatMap (fun v=>v.ps.map (·.2))).length<1000000 from by have h:=hS;unfold numsR at h;simp only [List.length_append,List.length_map] at h;exact h)
 clear hS
 have HPS:=zh hp
 have HLN:=zh hl
 clear hrt hv6
 have HNE:=zh hn
 have HME:=zh hm
 have HLE:=zh hln
 have HBR:=zh hb
 have HVC:=zh hv
 obtain⟨W,hW⟩: ∃W:World,W=w.alloc (.cells #[.int .u64 r.seq, .int .u64 r.log, .int .u64 r.next, .slice r.ba n r.bc, .slice r.la ln r.lc, .slice r.va m r.vc,v6] (32)):=⟨_,rfl⟩
 have hB:Below w.heap.size w W:=by rw [hW];exact zb.alloc zr _
 have hx0:W.heap[w.heap.size]? =some (.cells #[.int .u64 r.seq, .int .u64 r.log, .int .u64 r.next, .slice r.ba n r.bc, .slice r.la ln r.lc, .slice r.va m r.vc,v6] (32) (0,0)):=by rw [hW];exact zq3 rfl _
 have HB:=zh hB
 have HC:Hid (∀u,Below W.heap.size W u->u.cell? ⟨w.heap.size,3,none⟩=some (.slice r.ba n r.bc)/\u.cell? ⟨w.heap.size,4,none⟩=some (.slice r.la ln r.lc)/\u.cell? ⟨w.heap.size,5,none⟩=some (.slice r.va m r.vc)):=zh (fun u hu=>by
  have h0:=zq0 (zq4 hx0 hu (zq2 hx0)) 3
  have h1:=zq0 (zq4 hx0 hu (zq2 hx0)) 4
  have h2:=zq0 (zq4 hx0 hu (zq2 hx0)) 5
  simp at h0 h1 h2
  exact⟨h0,h1,h2⟩)
 have HW:=zh hW
 have hWs:w.heap.size<=W.heap.size:=hB.size
 obtain⟨e3,e4,e5⟩:=HC.out W zb
 clear hB hx0 hn hm hln hb hv hl hp
 go_enter Tryz.func35,Tryz.ntmps35
 go_wp2_with fail
 rw [<-HW.out]
 clear o6 e3 e4 e5 HW
 go_loopg [2,14] ln (fun gk sv iv wr=> ∃(k:Nat) (v:Value),k+gk=ln/\iv= .int .i64 k/\v=sv/\Hid (Vx.OwnU W.heap.size wr v ((r.ls.take k).map (·.1)))/\Hid (Below W.heap.size W wr))
 case atStart=>exact⟨0,_,by omega,rfl,rfl,zh (World.ownsRow_nil _ _ _ _),zh zb⟩
 case round=>
  obtain⟨k,v,hk,rfl,rfl,HO,HBk⟩:=hrel
  by_cases hlt:k<ln
  ·have hkl:k<r.ls.length:=by have:=HLE.out;omega
   obtain⟨b,o,hba,hbl,hbc⟩:=HLN.out.get k hkl
   have HTK:=zh (List.take_succ_eq_append_getElem hkl)
   have hBw:=HB.out.trans (HBk.out.mono HB.out.size)
   have g0:=(hBw.cell (p:=⟨b,_,none⟩) hbl).trans (hbc 0 _ rfl)
   have g1:=(hBw.cell (p:=⟨b,_,none⟩) hbl).trans (hbc 1 _ rfl)
   simp only [Nat.add_zero] at g0
   clear hbc hBw
   generalize r.ls[k] =x at*
   obtain⟨v',w',hr,hO',hBx⟩:=zyx x.1 (.cells #[.int .u64 x.1, .int .u64 x.2] (53)) HBk.out.size HO.out (by have:=HSZ.out;simp only [List.length_map,List.length_take];omega)
   have HO2:=zh (show Vx.OwnU W.heap.size w' v' ((r.ls.take (k+1)).map (·.1))from by rw [HTK.out,List.map_append];exact hO')
   have HB2:=zh (show Below W.heap.size W w' from HBk.out.trans hBx)
   have i0:(0:Int)<=(k:Int):=by omega
   have i1:(k:Int)<(ln:Int):=by omega
   have hw1:IntKind.i64.wrap ((k:Int)+1)=(k:Int)+1:=IntWalk.i64_in _ (by omega)
   clear hO' hBx
   rw [hba]
   go_wp2_with(at_builtin;refine Lib.wpList_append_run _ rfl _ _ _ _ rfl _ _ rfl rfl _ _ hr ?_)
   rw [<-hba]
   go_roundg(gk - 1)
   case measure=>omega
   case rel=>exact⟨k+1,_,by omega,by go_num,rfl,HO2,HB2⟩
  have hkn: ¬(k:Int)<(ln:Int):=by omega
  have HA:=zh (show Vx.OwnU W.heap.size wr v (r.ls.map (·.1))from by
   have:=HO.out
   rwa [List.take_of_length_le (by have:=HLE.out;omega)] at this)
  clear hlt HO
  obtain⟨e3,e4,e5⟩:=HC.out wr HBk.out
  go_wp2_with fail
  clear e3 e4 e5
  go_loopg [2,27] n (fun gk sv iv wr=> ∃(k:Nat) (v:Value),k+gk=n/\iv= .int .i64 k/\v=sv/\Hid (Vx.OwnU W.heap.size wr v (r.ls.map (·.1)++(r.bs.take k).map (·.2.2)))/\Hid (Below W.heap.size W wr))
  case atStart=>exact⟨0,_,by omega,rfl,rfl,zh (by simpa using HA.out),HBk⟩
  case round=>
   obtain⟨k,v,hk,rfl,rfl,HO,HBk⟩:=hrel
   by_cases hlt:k<n
   ·have hkl:k<r.bs.length:=by have:=HNE.out;omega
    obtain⟨b,o,hba,hbl,hbc⟩:=HBR.out.get k hkl
    have HTK:=zh (List.take_succ_eq_append_getElem hkl)
    have hBw:=HB.out.trans (HBk.out.mono HB.out.size)
    have g0:=(hBw.cell (p:=⟨b,_,none⟩) hbl).trans (hbc 0 _ rfl)
    have g1:=(hBw.cell (p:=⟨b,_,none⟩) hbl).trans (hbc 1 _ rfl)
    have g2:=(hBw.cell (p:=⟨b,_,none⟩) hbl).trans (hbc 2 _ rfl)
    simp only [Nat.add_zero] at g0
    clear hbc hBw
    generalize r.bs[k] =x at*
    obtain⟨v',w',hr,hO',hBx⟩:=zyx x.2.2 (.cells #[.string x.1, .int .u64 x.2.1, .int .u64 x.2.2] (73)) HBk.out.size HO.out (by have:=HSZ.out;simp only [List.length_append,List.length_map,List.length_take];omega)
    have HO2:=zh (show Vx.OwnU W.heap.size w' v' (r.ls.map (·.1)++(r.bs.take (k+1)).map (·.2.2))from by rw [HTK.out,List.map_append,<-List.append_assoc];exact hO')
    have HB2:=zh (show Below W.heap.size W w' from HBk.out.trans hBx)
    have i0:(0:Int)<=(k:Int):=by omega
    have i1:(k:Int)<(n:Int):=by omega
    have hw1:IntKind.i64.wrap ((k:Int)+1)=(k:Int)+1:=IntWalk.i64_in _ (by omega)
    clear hO' hBx
    rw [hba]
    go_wp2_with(at_builtin;refine Lib.wpList_append_run _ rfl _ _ _ _ rfl _ _ rfl rfl _ _ hr ?_)
    rw [<-hba]
    go_roundg(gk - 1)
    case measure=>omega
    case rel=>exact⟨k+1,_,by omega,by go_num,rfl,HO2,HB2⟩
   have hkn: ¬(k:Int)<(n:Int):=by omega
   have HA:=zh (show Vx.OwnU W.heap.size wr v (r.ls.map (·.1)++r.bs.map (·.2.2))from by
    have:=HO.out
    rwa [List.take_of_length_le (by have:=HNE.out;omega)] at this)
   clear hlt HO
   obtain⟨e3,e4,e5⟩:=HC.out wr HBk.out
   go_wp2_with fail
   clear e3 e4 e5
   go_loopg [2,40] m (fun gk sv iv wr=> ∃(k:Nat) (v:Value),k+gk=m/\iv= .int .i64 k/\v=sv/\Hid (Vx.OwnU W.heap.size wr v (r.ls.map (·.1)++r.bs.map (·.2.2)++(r.vs.take k).flatMap (fun v=>v.ps.map (·.2))))/\Hid (Below W.heap.size W wr))
   case atStart=>exact⟨0,_,by omega,rfl,rfl,zh (by simpa using HA.out),HBk⟩
   case round=>
    clear HA
    obtain⟨k,v,hk,rfl,rfl,HO,HBk⟩:=hrel
    by_cases hlt:k<m
    ·have hkl:k<r.vs.length:=by have:=HME.out;omega
     obtain⟨b,o,hba,hbl,hbc⟩:=HVC.out.get k hkl
     have HTK:=zh (List.take_succ_eq_append_getElem hkl)
     have HYP:=zh (HPS.out _ (List.getElem_mem hkl))
     have HYM:=zh (show(r.vs.take k).flatMap (fun v=>v.ps.map (·.2))++(r.vs[k].ps.map (·.2))<+:r.vs.flatMap (fun v=>v.ps.map (·.2))from by
      refine⟨(r.vs.drop (k+1)).flatMap (fun v=>v.ps.map (·.2)),?_⟩
      have h:=congrArg (List.flatMap (fun v:Vx.Vc=>v.ps.map (·.2))) (zv7 (List.getElem?_eq_getElem hkl))
      rw [List.flatMap_append,List.flatMap_cons,<-List.append_assoc] at h
      exact h.symm)
     have hBw:=HB.out.trans (HBk.out.mono HB.out.size)
     have g0:=(hBw.cell (p:=⟨b,_,none⟩) hbl).trans (hbc 0 _ rfl)
     have g1:=(hBw.cell (p:=⟨b,_,none⟩) hbl).trans (hbc 1 _ rfl)
     simp only [Nat.add_zero] at g0
     clear hbc hBw
     generalize r.vs[k] =y at*
     obtain⟨q,hq⟩: ∃q,q=y.ps.length:=⟨_,rfl⟩
     rw [<-hq] at g1
     have HQ:=zh hq
     clear hq
     obtain⟨D,hD⟩: ∃D,D=r.ls.map (·.1)++r.bs.map (·.2.2)++(r.vs.take k).flatMap (fun v=>v.ps.map (·.2)):=⟨_,rfl⟩
     have HDL:=zh (show D.length+q<1000000 from by
      have h1:=HSZ.out
      have h2:=HYM.out.length_le
      rw [hD]
      simp only [List.length_append,List.length_map] at h2 ⊢
      rw [<-HQ.out] at h2
      omega)
     have HDN:=zh (show∀(u:World) (a:Value),Vx.OwnU W.heap.size u a (D++y.ps.map (·.2))->Vx.OwnU W.heap.size u a (r.ls.map (·.1)++r.bs.map (·.2.2)++(r.vs.take (k+1)).flatMap (fun v=>v.ps.map (·.2)))from fun u a h=>by
      rw [HTK.out,List.flatMap_append,<-List.append_assoc,<-hD]
      simpa using h)
     rw [<-hD] at HO
     clear hD
     have i0:(0:Int)<=(k:Int):=by omega
     have i1:(k:Int)<(m:Int):=by omega
     have hw1:IntKind.i64.wrap ((k:Int)+1)=(k:Int)+1:=IntWalk.i64_in _ (by omega)
     rw [hba]
     have HP0:=zh (show Vx.OwnU W.heap.size (wr.alloc (.cells #[.int .u64 y.line, .slice y.a q y.c] (76))) v (D++(y.ps.take 0).map (·.2))from by
      simp only [List.take_zero,List.map_nil,List.append_nil]
      exact ownsRow_below HO.out (zb.alloc zr _) zr)
     have HP1:=zh (show Below W.heap.size W (wr.alloc (.cells #[.int .u64 y.line, .slice y.a q y.c] (76)))from HBk.out.alloc HBk.out.size _)
     go_wp2_with fail
     clear g0 g1
     obtain⟨g9,hg9⟩: ∃g9,g9=gk:=⟨_,rfl⟩
     rw [<-hg9] at hk
     have HG9:=zh hg9
     clear hg9
     go_loopg [2,47] q (fun gk sv iv wr=> ∃(j:Nat) (v:Value),j+gk=q/\iv= .int .i64 j/\v=sv/\Hid (Vx.OwnU W.heap.size wr v (D++(y.ps.take j).map (·.2)))/\Hid (Below W.heap.size W wr))
     case atStart=>exact⟨0,_,by omega,rfl,rfl,HP0,HP1⟩
     case round=>
      clear HP0 HP1 HO HBk
      obtain⟨j,v,hj,rfl,rfl,HO,HBk⟩:=hrel
      by_cases hltj:j<q
      ·have hjl:j<y.ps.length:=by have:=HQ.out;omega
       obtain⟨pb,po,hpa,hpl,hpc⟩:=HYP.out.get j hjl
       have HTJ:=zh (List.take_succ_eq_append_getElem hjl)
       have hBw:=HB.out.trans (HBk.out.mono HB.out.size)
       have g0:=(hBw.cell (p:=⟨pb,_,none⟩) hpl).trans (hpc 0 _ rfl)
       have g1:=(hBw.cell (p:=⟨pb,_,none⟩) hpl).trans (hpc 1 _ rfl)
       simp only [Nat.add_zero] at g0
       clear hpc hBw
       generalize y.ps[j] =x at*
       obtain⟨v',w',hr,hO',hBx⟩:=zyx x.2 (.cells #[.int .u64 x.1, .int .u64 x.2] (78)) HBk.out.size HO.out (by have:=HDL.out;simp only [List.length_append,List.length_map,List.length_take];omega)
       have HO2:=zh (show Vx.OwnU W.heap.size w' v' (D++(y.ps.take (j+1)).map (·.2))from by rw [HTJ.out,List.map_append,<-List.append_assoc];exact hO')
       have HB2:=zh (show Below W.heap.size W w' from HBk.out.trans hBx)
       have j0:(0:Int)<=(j:Int):=by omega
       have j1:(j:Int)<(q:Int):=by omega
       have hw2:IntKind.i64.wrap ((j:Int)+1)=(j:Int)+1:=IntWalk.i64_in _ (by have:=HDL.out;omega)
       clear hO' hBx
       rw [hpa]
       go_wp2_with(at_builtin;refine Lib.wpList_append_run _ rfl _ _ _ _ rfl _ _ rfl rfl _ _ hr ?_)
       rw [<-hpa]
       go_roundg(gk - 1)
       case measure=>omega
       case rel=>exact⟨j+1,_,by omega,by go_num,rfl,HO2,HB2⟩
      ·have HE:=zh (HDN.out _ _ (show Vx.OwnU W.heap.size wr v (D++y.ps.map (·.2))from by
        have:=HO.out
        rwa [List.take_of_length_le (by have:=HQ.out;omega)] at this))
       have hjn: ¬(j:Int)<(q:Int):=by omega
       go_wp2_with fail
       rw [<-hba]
       go_roundg(g9 - 1)
       case measure=>have:=HG9.out;omega
       case rel=>exact⟨k+1,_,by omega,by go_num,rfl,HE,HBk⟩
    ·have HE:=zh (show Vx.OwnU W.heap.size wr v (numsR r)from by
      have:=HO.out
      unfold numsR
      rwa [List.take_of_length_le (by have:=HME.out;omega)] at this)
     have hkn: ¬(k:Int)<(m:Int):=by omega
     go_wp2_with fail
     go_ret
     exact⟨v,rfl,zq9 HE.out hWs,HB.out.trans (HBk.out.mono HB.out.size)⟩
end Go.Proofs.YtchcelodeepjdaaGreatDoor.Ln

namespace Go.Proofs.YtchcelodeepjdaaGreatDoor.Ln
open Go.RowKit Go.Shelf Go.Herb

theorem late_any (p:Nat)(n s:Int)(b:Bool)(hb:decide (s<n)=b)(w:World)(hc:w.cell? ⟨p,0,none⟩=some (.int .u64 s)):
  Calls Tryz.prog (32) #[.int .u64 n, .pointer (some ⟨p,0,none⟩)] w fun e w'=>e= .returned (.bool b)/\w'=w:=by
 go_enter Tryz.func32,Tryz.ntmps32
 go_wp2_with fail
 go_ret
 exact⟨by simp [<-hb],rfl⟩
set_option maxRecDepth 100000 in
theorem yqt (a:Option Addr)(c n p:Nat)(s:Int)(xs:List Int)(w:World)(hx:Els Vx.nu 1 w a xs)(hn:xs.length=n)(hl:n<1000000)(hc: ∀u,Below w.heap.size w u->u.cell? ⟨p,0,none⟩=some (.int .u64 s)):
  Calls Tryz.prog (76) #[.slice a n c, .func (.func 32) #[] #[.pointer (some ⟨p,0,none⟩)]] w fun e w'=> ∃r:Int,e= .returned (.int .i64 r)/\(0<=r↔ ∃x∈xs,s<x)/\Below w.heap.size w w':=by
 have HX:=zh hx
 have HN:=zh hn
 have HP:=zh hc
 have HB0:=zh (Below.refl w.heap.size w)
 clear hx hn hc
 go_enter Tryz.func76,Tryz.ntmps76
 go_wp2_with fail
 go_loopg [8] n (fun gk iv wr=> ∃i:Nat,i+gk=n/\iv= .int .i64 i/\Hid (∀y∈xs.take i,¬s<y)/\Hid (Below w.heap.size w wr))
 case atStart=>exact⟨0,by omega,rfl,zh (by simp),HB0⟩
 case round=>
  obtain⟨i,hi,rfl,HA,HB⟩:=hrel
  by_cases hlt:i<n
  ·have hil:i<xs.length:=by have:=HN.out;omega
   obtain⟨b,o,rfl,hlb,hcx⟩:=HX.out.get i hil
   have HTK:=zh (List.take_succ_eq_append_getElem hil)
   have HMM:=zh (List.getElem_mem hil)
   generalize xs[i] =x at hcx HTK HMM
   have g0:=(HB.out.cell (p:=⟨_,_,none⟩) hlb).trans (hcx 0 _ rfl)
   simp only [Nat.add_zero,Nat.mul_one] at g0
   have i0:(0:Int)<=(i:Int):=by omega
   have i1:(i:Int)<(n:Int):=by omega
   have iw:IntKind.i64.wrap ((i:Int)+1)=(i:Int)+1:=IntWalk.i64_in _ (by omega)
   have HLT:=zh (fun(q:Bool) (hq:decide (s<x)=q)=>late_any p x s q hq wr (HP.out wr HB.out))
   clear hcx
   by_cases hq:s<x
   ·have HL:=zh (HLT.out true (decide_eq_true hq))
    have HR:=zh (show(0<=(i:Int))↔ ∃x∈xs,s<x from⟨fun _=>⟨x,HMM.out,hq⟩,fun _=>by omega⟩)
    clear hq
    go_wp2_with(go_at_call 32;refine HL.out.mono ?_;rintro e w3 ⟨rfl,rfl⟩)
    go_ret
    exact⟨_,rfl,HR.out,HB.out⟩
   ·have HL:=zh (HLT.out false (decide_eq_false hq))
    have HX2:=zh (show∀y∈xs.take (i+1),¬s<y from by
     rw [HTK.out]
     intro y hy
     rcases List.mem_append.1 hy with h1|h1
     ·exact HA.out y h1
     ·rw [List.mem_singleton.1 h1];exact hq)
    clear hq
    go_wp2_with(go_at_call 32;refine HL.out.mono ?_;rintro e w3 ⟨rfl,rfl⟩)
    go_roundg(gk - 1)
    case measure=>omega
    case rel=>exact⟨i+1,by omega,by go_num,HX2,HB⟩
  ·have h1: ¬(i:Int)<(n:Int):=by omega
   have HR:=zh (show(0<=(-1:Int))↔ ∃x∈xs,s<x from⟨fun h=>by omega,fun⟨x,hx,hs⟩=>by
    have:=HA.out
    rw [List.take_of_length_le (by have:=HN.out;omega)] at this
    exact absurd hs (this x hx)⟩)
   go_wp2_with fail
   go_ret
   exact⟨_,rfl,HR.out,HB.out⟩
theorem zww (a:Option Addr)(c n p:Nat)(s:Int)(xs:List Int)(w:World)(hx:Els Vx.nu 1 w a xs)(hn:xs.length=n)(hl:n<1000000)(hc: ∀u,Below w.heap.size w u->u.cell? ⟨p,0,none⟩=some (.int .u64 s)):
  Calls Tryz.prog (34) #[.slice a n c, .func (.func 32) #[] #[.pointer (some ⟨p,0,none⟩)]] w fun e w'=> ∃q:Bool,e= .returned (.bool q)/\(q=true↔ ∃x∈xs,s<x)/\Below w.heap.size w w':=by
 have HI:=zh (yqt a c n p s xs w hx hn hl hc)
 clear hx hn hc
 go_enter Tryz.func34,Tryz.ntmps34
 go_wp2_with(go_at_call 76;refine HI.out.mono ?_;rintro e w3 ⟨r,rfl,hr,hB3⟩;have HR:=zh hr;have HB3:=zh hB3;clear hr hB3)
 go_ret
 exact⟨decide (0<=r),rfl,by rw [decide_eq_true_iff];exact HR.out,HB3.out⟩
end Go.Proofs.YtchcelodeepjdaaGreatDoor.Ln

namespace Go.Proofs.YtchcelodeepjdaaGreatDoor.Ln
open Go.RowKit Go.Shelf Go.Herb

theorem zy9 (s:ByteArray):Lib.strCells s=(strL s).flatMap nb:=by
 unfold Lib.strCells strL
 rw [List.flatMap_map]
 induction s.data.toList with
 |nil=>rfl
 |cons a l ih=>simp [nb] at ih ⊢;exact ih
theorem yzd (ad:Addr)(n:Nat)(ys:List Int)(s:ByteArray)(w:World)(hb:Byt w (some ad) ys)(hn:ys.length=n)(hs:0<s.size)(hl:n+s.size<1000000000)(ty:TypeId):
  ∃cap w',(Builtin.append_ #[(24),(9)] ty #[.slice (some ad) n n, .string s]).run Tryz.prog w= .ok (.slice (some ⟨w.heap.size,0,none⟩) (n+s.size) cap) w'/\Byt w' (some ⟨w.heap.size,0,none⟩) (ys++strL s)/\n+s.size<=cap/\cap<=maxLen/\Below w.heap.size w w'/\ ∃cs,w'.heap[w.heap.size]? =some (.cells cs (5) (0,0)):=by
 obtain⟨i0,hin,hz0,hz1,hz2⟩:=info_parts zyt
 have hr:=Lib.run_append_grow_string (P:=Tryz.prog) w (24) (9) ty (5) i0 _ Tryz.underlying24 Tryz.underlying9 hin hz0 ad n n (ys.flatMap nb) (by rw [zq8 zqq,hn,hz1]) (hb.flat zqq (by decide)) s (by omega) (by omega) (growslice_fits (by omega) (by rw [hz2];omega))
 refine⟨_,_,hr,⟨fun i hi=> ?_⟩,grownCap_ge _ _ _ _,grownCap_le_maxLen _ _ _ _ (by unfold maxLen;omega),((Below.refl w.heap.size w).drew).alloc (by simp) _,_,zq3 (w:=w.drew) (n:=w.heap.size) (by simp) _⟩
 refine⟨w.heap.size,0,rfl,by simp,fun j c hj=> ?_⟩
 have h0:=zq3 (w:=w.drew) (n:=w.heap.size) (by simp) (.cells ((ys.flatMap nb).toArray++(Lib.strCells s).toArray++Builtin.zeroCells (Value.int IntKind.u8 0).cells (grownCap w (n+s.size) n (5) - (n+s.size))) (5))
 have h1:=zq0 h0 (0+i*1+j)
 rw [h1]
 have hj0:j=0:=by
  rcases Nat.eq_zero_or_pos j with h|h
  ·exact h
  ·rw [List.getElem?_eq_none (by rw [zqq];omega)] at hj;cases hj
 subst hj0
 have hfg:=zxn zqq (ys++strL s) i 0 hi (by omega)
 rw [hj] at hfg
 rw [zy9]
 have hlen:i*1+0<((ys++strL s).flatMap nb).length:=by rw [zq8 zqq];omega
 simp only [Nat.zero_add,Nat.mul_one,Nat.add_zero] at hfg hlen ⊢
 rw [List.flatMap_append] at hfg hlen
 rw [<-hfg]
 simp only [List.append_toArray]
 rw [Array.getElem?_append_left (by simpa using hlen)]
 simp
theorem some_of {a:Option Addr}(h:a≠none): ∃ad,a=some ad:=Option.ne_none_iff_exists'.1 h
set_option maxRecDepth 100000 in
theorem yjs (a:Option Addr)(cap n:Nat)(xs:List Int)(s:ByteArray)(w:World)(hb:Byt w a xs)(hn:xs.length=n)(hl:n+s.size<800000000)(hs:0<s.size)(h0:a=none->cap=0):
  Calls Tryz.prog (103) #[.slice a n cap, .string s] w (yq9 (xs++putT s) w):=by
 have HP:=zh (yyu a cap n xs s.size w hb hn (by omega) h0 (by omega))
 have hcv:IntKind.u64.wrap (s.size:Int)=(s.size:Int):=by rw [IntKind.wrap_u64];omega
 obtain⟨k,hk⟩: ∃k,k=xs++putN s.size:=⟨_,rfl⟩
 have hkl:k.length<=n+10/\0<k.length:=by
  rw [hk,List.length_append,hn]
  have:=zzz s.size (by omega)
  have:=zv3 s.size
  omega
 have HK:=zh (show xs++putT s=k++strL s from by rw [hk,putT,List.append_assoc])
 rw [<-hk] at HP
 obtain⟨q,hq⟩: ∃q,q=k.length:=⟨_,rfl⟩
 have HQ:=zh hq
 have HKL:=zh hkl
 have HKN:=zh (show k≠ [] from fun h=>by rw [h] at hkl;exact absurd hkl.2 (Nat.lt_irrefl 0))
 clear hb hn h0 hk hkl hq
 go_enter Tryz.func103,Tryz.ntmps103
 go_wp2_with(first|(go_at_call 79;refine HP.out.mono ?_;rintro e w1 ⟨a1,rfl,hE,hne,hfr,hB1⟩;rw [<-HQ.out];obtain⟨ad,rfl⟩:=some_of (fun h=>HKN.out (hne h));obtain⟨c2,w2,hr2,hE2,hc2,hm2,hB2,hcs2⟩:=yzd ad q k s w1 hE HQ.out.symm hs (by have:=HKL.out.1;have:=HQ.out;omega) (24);have HB2:=zh (hB1.trans (hB2.mono hB1.size));have HB1:=zh hB1;have HE2:=zh hE2;have HCS:=zh hcs2;have HCL:=zh (yxm (some ⟨w1.heap.size,0,none⟩) c2 (q+s.size) w2 (fun h=>by cases h) (by have:=HKL.out.1;have:=HQ.out;omega) hc2 hm2);clear hE hne hfr hE2 hc2 hm2 hB2 hB1 hcs2)|(at_builtin;refine Lib.wpList_append_run _ rfl _ _ _ _ rfl _ _ rfl rfl _ _ hr2 ?_)|(go_at_call 106;refine HCL.out.mono ?_;rintro e w3 ⟨rfl,rfl⟩))
 go_ret
 have hlen:(k++strL s).length=q+s.size:=by rw [List.length_append,zw1,HQ.out]
 unfold yq9
 rw [HK.out]
 exact⟨some ⟨w1.heap.size,0,none⟩,by rw [hlen];rfl,HE2.out,(fun h=>by cases h),(fun ad h=>by cases h;exact⟨HB1.out.size,HCS.out⟩),HB2.out⟩
theorem zwm.ext {a:Option Addr}{B:Nat}{w w':World}(h:zwm a B w)(hb:Below w.heap.size w w'):zwm a B w':=fun ad had=>by
 obtain⟨h1,cs,h2⟩:=h ad had
 exact⟨h1,cs,zq4 h2 hb (zq2 h2)⟩
structure LayAt (w:World)(p:Nat)(ys:List Int):Prop where
 blk: ∃a cap,w.heap[p]? =some (.cells #[.slice a ys.length cap] (90) (0,0))/\Byt w a ys/\(a=none->cap=0)/\cap=ys.length/\zwm a (p - 1) w
theorem LayAt.ext {w w':World}{p:Nat}{ys:List Int}(h:LayAt w p ys)(hb:Below w.heap.size w w'):LayAt w' p ys:=by
 obtain⟨a,cap,h1,h2,h3,h4,h5⟩:=h.blk
 exact⟨a,cap,zq4 h1 hb (zq2 h1),h2.ext hb,h3,h4,h5.ext hb⟩
theorem LayAt.lt {w:World}{p:Nat}{ys:List Int}(h:LayAt w p ys):p<w.heap.size:=by
 obtain⟨a,cap,h1, -⟩:=h.blk
 exact zq2 h1
theorem TurnI.refl {p:Nat}(w:World):TurnI p w w:=⟨rfl,rfl,rfl,zr,fun _ _ h _=>h⟩
theorem zjc {α:Type}{enc:α->List Value}{s p:Nat}{w w':World}{a:Option Addr}{xs:List α}(h:Els enc s w a xs)(ht:TurnI p w w')(hp: ∀ad,a=some ad->ad.block≠p):Els enc s w' a xs:=
 ⟨fun i hi=>by
  obtain⟨b,o,ha,hlt,hc⟩:=h.get i hi
  have hbp:b≠p:=hp _ ha
  have hk:=ht.kept b _ (Array.getElem?_eq_getElem hlt) hbp
  refine⟨b,o,ha,Nat.lt_of_lt_of_le hlt ht.size,fun j c hj=> ?_⟩
  rw [<-hc j c hj]
  unfold World.cell?
  simp only [hk,Array.getElem?_eq_getElem hlt]⟩
def zxs (p:Nat)(ys:List Int)(w:World)(e:Ending)(w':World):Prop:=e= .returned (.tuple #[])/\LayAt w' p ys/\TurnI p w w'
theorem yxx {w0 w1:World}{p:Nat}{bs ys:List Int}(hL:LayAt w0 p bs)(a:Option Addr)(hE:Byt w1 a ys)(hn:a=none->ys= [])(hf:zwm a w0.heap.size w1)(hB:Below w0.heap.size w0 w1):
  LayAt (w1.setCell ⟨p,0,none⟩ (.slice a ys.length ys.length)) p ys/\TurnI p w0 (w1.setCell ⟨p,0,none⟩ (.slice a ys.length ys.length)):=by
 have hlt:=hL.lt
 obtain⟨a0,c0,h1, -⟩:=hL.blk
 have h2:=zq4 h1 hB hlt
 refine⟨⟨a,ys.length,zq7 h2 _,zjc hE (TurnI.setCell (j:=0) _) (fun ad h=>by have:=(hf ad h).1;omega),(fun h=>by rw [hn h];rfl),rfl,(fun ad h=>by
  obtain⟨h3,cs,h4⟩:=hf ad h
  exact⟨by omega,cs,blk_setCell_other h4 (show ad.block≠p by omega) _⟩)⟩,(TurnI.of_below hB).trans (TurnI.setCell (j:=0) _)⟩
theorem text_any (p:Nat)(bs:List Int)(s:ByteArray)(w:World)(hL:LayAt w p bs)(hl:bs.length+s.size<800000000)(hs:0<s.size):
  Calls Tryz.prog (78) #[.pointer (some ⟨p,0,none⟩), .string s] w (zxs p (bs++putT s) w):=by
 have HL:=zh hL
 obtain⟨a,cap,h1,hE,h0, -⟩:=hL.blk
 have HP:=zh (yjs a cap bs.length bs s w hE rfl hl hs h0)
 obtain⟨ys,hys⟩: ∃ys,ys=bs++putT s:=⟨_,rfl⟩
 rw [<-hys] at HP ⊢
 have c0:=zq0 h1 0
 simp at c0
 have HB:=zh h1
 clear hL hE h0 h1 hys
 go_enter Tryz.func78,Tryz.ntmps78
 go_wp2_with(go_at_call 103;refine HP.out.mono ?_;rintro e w1 ⟨a1,rfl,hE,hne,hfr,hB1⟩;have HS:=zh (yxx HL.out a1 hE hne hfr hB1);have hp1:=zq4 HB.out hB1 (zq2 HB.out);have c1:=zq0 hp1 0;have f1:=zq1 hp1 0;simp at c1;clear hE hne hfr hB1 hp1 c0)
 go_end0
 exact⟨rfl,HS.out.1,HS.out.2⟩
theorem yxb {x:Int}(h:U64 x):0<=x/\x<18446744073709551616:=by
 unfold U64 at h
 simp [Lit.wf,IntKind.min,IntKind.max,IntKind.signed,IntKind.bits] at h
 omega
theorem ywx (l:List Int)(x:Int):numsL (l++ [x])=numsL l++putN x.toNat:=by simp [numsL]
theorem zxw (l:List Int)(h: ∀x∈l,U64 x):(numsL l).length<=10*l.length:=by
 induction l with
 |nil=>simp [numsL]
 |cons x l ih=>
  have h1:=ih (fun y hy=>h y (List.mem_cons_of_mem _ hy))
  have h2:=yxb (h x List.mem_cons_self)
  have h3:=zzz x.toNat (by omega)
  have e:numsL (x::l)=putN x.toNat++numsL l:=rfl
  rw [e,List.length_append,List.length_cons]
  omega
set_option maxRecDepth 100000 in
theorem ykw (p:Nat)(bs:List Int)(la:Option Addr)(lc n:Nat)(ns:List Int)(w:World)(hL:LayAt w p bs)(hx:Els Vx.nu 1 w la ns)(hn:ns.length=n)(hp: ∀ad,la=some ad->ad.block≠p)(hw: ∀x∈ns,U64 x)(hl:bs.length+10*n<800000000):
  Calls Tryz.prog (41) #[.pointer (some ⟨p,0,none⟩), .slice la n lc] w (zxs p (bs++numsL ns) w):=by
 have HX:=zh hx
 have HN:=zh hn
 have HP:=zh hp
 have HW:=zh hw
 have HL:=zh hL
 clear hx hn hp hw hL
 go_enter Tryz.func41,Tryz.ntmps41
 go_wp2_with fail
 go_loopg [8] n (fun gk iv wr=> ∃k:Nat,k+gk=n/\iv= .int .i64 k/\Hid (LayAt wr p (bs++numsL (ns.take k)))/\Hid (TurnI p w wr))
 case atStart=>exact⟨0,by omega,rfl,zh (by simpa [numsL] using HL.out),zh (TurnI.refl _)⟩
 case round=>
  obtain⟨k,hk,rfl,HLk,HT⟩:=hrel
  by_cases hlt:k<n
  ·have hkl:k<ns.length:=by have:=HN.out;omega
   obtain⟨b,o,hla,hlb,hc⟩:=(zjc HX.out HT.out HP.out).get k hkl
   have HTK:=zh (List.take_succ_eq_append_getElem hkl)
   have HWX:=zh (HW.out _ (List.getElem_mem hkl))
   have HTL:=zh (show(numsL (ns.take k)).length<=10*k from by
    have h1:=zxw (ns.take k) (fun x hx=>HW.out x (List.mem_of_mem_take hx))
    rw [List.length_take,Nat.min_eq_left (by omega)] at h1
    exact h1)
   generalize ns[k] =x at hc HTK HWX
   have g0:=hc 0 _ rfl
   simp only [Nat.add_zero,Nat.mul_one] at g0
   obtain⟨z,rfl⟩: ∃z:Nat,x=(z:Int):=⟨x.toNat,by have:=yxb HWX.out;omega⟩
   have hz:z<18446744073709551616:=by have:=yxb HWX.out;omega
   obtain⟨a,cap,h1,hE,h0, -⟩:=HLk.out.blk
   obtain⟨ys,hys⟩: ∃ys,ys=bs++numsL (ns.take k):=⟨_,rfl⟩
   have hyl:ys.length<800000000:=by have:=HTL.out;rw [hys,List.length_append];omega
   rw [<-hys] at HLk h1 hE
   have HPU:=zh (yyu a cap ys.length ys z wr hE rfl (by omega) h0 hz)
   obtain⟨zs,hzs⟩: ∃zs,zs=ys++putN z:=⟨_,rfl⟩
   rw [<-hzs] at HPU
   have HZS:=zh (show bs++numsL (ns.take (k+1))=zs from by rw [HTK.out,ywx,<-List.append_assoc,<-hys,hzs,Int.toNat_natCast])
   have c0:=zq0 h1 0
   simp at c0
   have HB:=zh h1
   have i0:(0:Int)<=(k:Int):=by omega
   have i1:(k:Int)<(n:Int):=by omega
   have hw1:IntKind.i64.wrap ((k:Int)+1)=(k:Int)+1:=IntWalk.i64_in _ (by omega)
   clear hc hE h0 h1 hys hyl hzs
   rw [hla]
   go_wp2_with(go_at_call 79;refine HPU.out.mono ?_;rintro e w1 ⟨a1,rfl,hE,hne,hfr,hB1⟩;have HS:=zh (yxx HLk.out a1 hE hne hfr hB1);have hp1:=zq4 HB.out hB1 (zq2 HB.out);have c1:=zq0 hp1 0;have f1:=zq1 hp1 0;simp at c1;clear hE hne hfr hB1 hp1 c0 g0)
   rw [<-hla]
   go_roundg(gk - 1)
   case measure=>omega
   case rel=>exact⟨k+1,by omega,by go_num,zh (by rw [HZS.out];exact HS.out.1),zh (HT.out.trans HS.out.2)⟩
  ·have hkn: ¬(k:Int)<(n:Int):=by omega
   have HE:=zh (show LayAt wr p (bs++numsL ns)from by
    have:=HLk.out
    rwa [List.take_of_length_le (by have:=HN.out;omega)] at this)
   go_wp2_with fail
   go_end0
   exact⟨rfl,HE.out,HT.out⟩
end Go.Proofs.YtchcelodeepjdaaGreatDoor.Ln
