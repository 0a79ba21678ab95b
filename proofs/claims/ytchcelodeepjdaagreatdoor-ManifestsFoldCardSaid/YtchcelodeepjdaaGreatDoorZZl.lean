/- Lemmas and walks towards ManifestsFold. Conditions: each one tells its own. -/
import Derived.Test.YtchcelodeepjdaaGreatDoorMp
import Derived.Test.YtchcelodeepjdaaGreatDoorZZp
namespace Go.Proofs.YtchcelodeepjdaaGreatDoor.Ln
open Go.RowKit Go.Shelf Go.Herb

theorem run_eqPt (a b c d:Int)(w:World):(Op.equalIn 10000 (78) (.agg #[.int .u64 a, .int .u64 b]) (.agg #[.int .u64 c, .int .u64 d])).run Tryz.prog w= .ok (decide (a=c/\b=d)) w:=by
 have hS:Tryz.prog.underlying (78)=some (.struct (Tryz.prog.fieldsOf (78))):=by kernel_rfl
 have hp:Tryz.prog.stoodInHeld (78)=false:=by kernel_rfl
 rw [show(10000:Nat)=9999+1 from rfl,run_equalIn_agg w 9999 (78) _ _ hS hp]
 simp only [Program.fieldsOf,Tryz.underlying78]
 have u9:=Tryz.underlying26
 go_simp
 by_cases h1:a=c<;>by_cases h2:b=d<;>simp [h1,h2]
theorem xq0 (a b c d:Int)(w:World):(binOp .neq (78) (.agg #[.int .u64 a, .int .u64 b]) (.agg #[.int .u64 c, .int .u64 d])).run Tryz.prog w= .ok (.bool (!decide (a=c/\b=d))) w:=by
 rw [run_neq_struct,run_eqPt];rfl
theorem guardPt:Tryz.prog.eqGuardType Tryz.prog.depth (78)=false:=by kernel_rfl
theorem run_eqBr (a d:ByteArray)(b c e f:Int)(w:World):(Op.equalIn 10000 (73) (.agg #[.string a, .int .u64 b, .int .u64 c]) (.agg #[.string d, .int .u64 e, .int .u64 f])).run Tryz.prog w= .ok (decide (a=d/\b=e/\c=f)) w:=by
 have hS:Tryz.prog.underlying (73)=some (.struct (Tryz.prog.fieldsOf (73))):=by kernel_rfl
 have hp:Tryz.prog.stoodInHeld (73)=false:=by kernel_rfl
 rw [show(10000:Nat)=9999+1 from rfl,run_equalIn_agg w 9999 (73) _ _ hS hp]
 simp only [Program.fieldsOf,Tryz.underlying73]
 have u9:=Tryz.underlying26
 have u8:=Tryz.underlying9
 go_simp
 by_cases h1:a=d
 ·by_cases h2:b=e<;>by_cases h3:c=f<;>simp [h1,h2,h3]
 ·have h4: ¬a.toList=d.toList:=fun e=>h1 (zzf e)
  by_cases h2:b=e<;>by_cases h3:c=f<;>simp [h1,h2,h3,h4]
theorem yyz (a d:ByteArray)(b c e f:Int)(w:World):(binOp .neq (73) (.agg #[.string a, .int .u64 b, .int .u64 c]) (.agg #[.string d, .int .u64 e, .int .u64 f])).run Tryz.prog w= .ok (.bool (!decide (a=d/\b=e/\c=f))) w:=by
 rw [run_neq_struct,run_eqBr];rfl
theorem guardBr:Tryz.prog.eqGuardType Tryz.prog.depth (73)=false:=by kernel_rfl
def yke (x y:Rt)(w:World)(e:Ending)(w':World):Prop:= ∃q:Bool,e= .returned (.bool q)/\(q=true↔x=y)/\Below w.heap.size w w'
structure Cmp (r:Rv):Prop where
 bs:r.bs.length<1000000
 ls:r.ls.length<1000000
 vs:r.vs.length<1000000
 pts: ∀v∈r.vs,v.ps.length<1000000
 sh:r.sh.length<1000000
 lev: ∀s∈r.sh,∀l∈s.lv,l.ts.length<=1000000
set_option maxRecDepth 100000 in
set_option maxHeartbeats 4000000 in
theorem yzi (r1 r2:Rv)(w:World)(h1:RtIn w r1)(h2:RtIn w r2)(k1:Cmp r1)(k2:Cmp r2):
  Calls Tryz.prog (14) #[rtV r1,rtV r2] w (yke r1.says r2.says w):=by
 obtain⟨sq,lg,nx,ba,bc,bs,la,lc,ls,va,vc,vs,sa,sc,sh⟩:=r1
 obtain⟨sq',lg',nx',ba',bc',bs',la',lc',ls',va',vc',vs',sa',sc',sh'⟩:=r2
 obtain⟨nb,hnb⟩: ∃n,n=bs.length:=⟨_,rfl⟩
 obtain⟨nb',hnb'⟩: ∃n,n=bs'.length:=⟨_,rfl⟩
 obtain⟨nl,hnl⟩: ∃n,n=ls.length:=⟨_,rfl⟩
 obtain⟨nl',hnl'⟩: ∃n,n=ls'.length:=⟨_,rfl⟩
 obtain⟨nv,hnv⟩: ∃n,n=vs.length:=⟨_,rfl⟩
 obtain⟨nv',hnv'⟩: ∃n,n=vs'.length:=⟨_,rfl⟩
 obtain⟨ns,hns⟩: ∃n,n=sh.length:=⟨_,rfl⟩
 obtain⟨ns',hns'⟩: ∃n,n=sh'.length:=⟨_,rfl⟩
 have hv1:rtV ⟨sq,lg,nx,ba,bc,bs,la,lc,ls,va,vc,vs,sa,sc,sh⟩= .agg #[.int .u64 sq, .int .u64 lg, .int .u64 nx, .slice ba nb bc, .slice la nl lc, .slice va nv vc, .slice sa ns sc] :=by rw [hnb,hnl,hnv,hns]
 have hv2:rtV ⟨sq',lg',nx',ba',bc',bs',la',lc',ls',va',vc',vs',sa',sc',sh'⟩= .agg #[.int .u64 sq', .int .u64 lg', .int .u64 nx', .slice ba' nb' bc', .slice la' nl' lc', .slice va' nv' vc', .slice sa' ns' sc'] :=by rw [hnb',hnl',hnv',hns']
 rw [hv1,hv2]
 obtain⟨W1,hW1⟩: ∃W:World,W=w.alloc (.cells #[.int .u64 sq, .int .u64 lg, .int .u64 nx, .slice ba nb bc, .slice la nl lc, .slice va nv vc, .slice sa ns sc] (32)):=⟨_,rfl⟩
 obtain⟨W,hW⟩: ∃W:World,W=W1.alloc (.cells #[.int .u64 sq', .int .u64 lg', .int .u64 nx', .slice ba' nb' bc', .slice la' nl' lc', .slice va' nv' vc', .slice sa' ns' sc'] (32)):=⟨_,rfl⟩
 have hB1:Below w.heap.size w W1:=by rw [hW1];exact zb.alloc zr _
 have hB2:Below W1.heap.size W1 W:=by rw [hW];exact zb.alloc zr _
 have hz1:W1.heap.size=w.heap.size+1:=by rw [hW1];simp
 have hx1:W.heap[w.heap.size]? =some (.cells #[.int .u64 sq, .int .u64 lg, .int .u64 nx, .slice ba nb bc, .slice la nl lc, .slice va nv vc, .slice sa ns sc] (32) (0,0)):=zq4 (by rw [hW1];exact zq3 rfl _) hB2 (by omega)
 have hx2:W.heap[w.heap.size+1]? =some (.cells #[.int .u64 sq', .int .u64 lg', .int .u64 nx', .slice ba' nb' bc', .slice la' nl' lc', .slice va' nv' vc', .slice sa' ns' sc'] (32) (0,0)):=by rw [hW];exact zq3 hz1.symm _
 have hBW:Below w.heap.size w W:=hB1.trans (hB2.mono hB1.size)
 have HBW:=zh (show∀u,Below W.heap.size W u->Below w.heap.size w u from fun u hu=>hBW.trans (hu.mono hBW.size))
 have HC:=zh (show∀u,Below W.heap.size W u->u.cell? ⟨w.heap.size,0,none⟩=some (.int .u64 sq)/\u.cell? ⟨w.heap.size,1,none⟩=some (.int .u64 lg)/\u.cell? ⟨w.heap.size,2,none⟩=some (.int .u64 nx)/\u.cell? ⟨w.heap.size,3,none⟩=some (.slice ba nb bc)/\u.cell? ⟨w.heap.size,4,none⟩=some (.slice la nl lc)/\u.cell? ⟨w.heap.size,5,none⟩=some (.slice va nv vc)/\u.cell? ⟨w.heap.size,6,none⟩=some (.slice sa ns sc)/\u.cell? ⟨w.heap.size+1,0,none⟩=some (.int .u64 sq')/\u.cell? ⟨w.heap.size+1,1,none⟩=some (.int .u64 lg')/\u.cell? ⟨w.heap.size+1,2,none⟩=some (.int .u64 nx')/\u.cell? ⟨w.heap.size+1,3,none⟩=some (.slice ba' nb' bc')/\u.cell? ⟨w.heap.size+1,4,none⟩=some (.slice la' nl' lc')/\u.cell? ⟨w.heap.size+1,5,none⟩=some (.slice va' nv' vc')/\u.cell? ⟨w.heap.size+1,6,none⟩=some (.slice sa' ns' sc')from fun u hu=>by
  have q:=zq0 (zq4 hx1 hu (zq2 hx1))
  have r:=zq0 (zq4 hx2 hu (zq2 hx2))
  have q0:=q 0
  have q1:=q 1
  have q2:=q 2
  have q3:=q 3
  have q4:=q 4
  have q5:=q 5
  have q6:=q 6
  have r0:=r 0
  have r1:=r 1
  have r2:=r 2
  have r3:=r 3
  have r4:=r 4
  have r5:=r 5
  have r6:=r 6
  simp at q0 q1 q2 q3 q4 q5 q6 r0 r1 r2 r3 r4 r5 r6
  exact⟨q0,q1,q2,q3,q4,q5,q6,r0,r1,r2,r3,r4,r5,r6⟩)
 have HI1:=zh h1
 have HI2:=zh h2
 have HK1:=zh k1
 have HK2:=zh k2
 have HW:=zh hW
 have HW1:=zh hW1
 have HNB:=zh (show nb=bs.length/\nb'=bs'.length from⟨hnb,hnb'⟩)
 have HNL:=zh (show nl=ls.length/\nl'=ls'.length from⟨hnl,hnl'⟩)
 have HNV:=zh (show nv=vs.length/\nv'=vs'.length from⟨hnv,hnv'⟩)
 have HNS:=zh (show ns=sh.length/\ns'=sh'.length from⟨hns,hns'⟩)
 have lnb:nb<1000000:=by rw [hnb];exact k1.bs
 have lnl:nl<1000000:=by rw [hnl];exact k1.ls
 have lnv:nv<1000000:=by rw [hnv];exact k1.vs
 have HX:Hid (∀u,Below W.heap.size W u->(⟨sq,lg,nx,bs,ls,Vx.vsOf vs,sh.map Sv.says⟩:Rt)≠⟨sq',lg',nx',bs',ls',Vx.vsOf vs',sh'.map Sv.says⟩->yke ⟨sq,lg,nx,bs,ls,Vx.vsOf vs,sh.map Sv.says⟩ ⟨sq',lg',nx',bs',ls',Vx.vsOf vs',sh'.map Sv.says⟩ w (.returned (.bool false)) u):=zh (fun u hu h=>⟨false,rfl,⟨(fun h=>by cases h),fun h2=>absurd h2 h⟩,HBW.out u hu⟩)
 have HB0:=zh (Below.refl W.heap.size W)
 show Calls _ _ _ _ (yke ⟨sq,lg,nx,bs,ls,Vx.vsOf vs,sh.map Sv.says⟩ ⟨sq',lg',nx',bs',ls',Vx.vsOf vs',sh'.map Sv.says⟩ w)
 obtain⟨X,hX⟩: ∃X:Rt,X=⟨sq,lg,nx,bs,ls,Vx.vsOf vs,sh.map Sv.says⟩:=⟨_,rfl⟩
 obtain⟨Y,hY⟩: ∃Y:Rt,Y=⟨sq',lg',nx',bs',ls',Vx.vsOf vs',sh'.map Sv.says⟩:=⟨_,rfl⟩
 rw [<-hX,<-hY] at HX ⊢
 have HXX:=zh hX
 have HYY:=zh hY
 clear h1 h2 k1 k2 hB1 hB2 hz1 hx1 hx2 hBW hnb hnb' hnl hnl' hnv hnv' hns hns' hv1 hv2 hX hY
 have qp:=xq0
 have gp:=guardPt
 have qb:=yyz
 have gb:=guardBr
 have ql:=zy5
 have gl:=yjg
 obtain⟨c0,c1,c2,c3,c4,c5,c6,d0,d1,d2,d3,d4,d5,d6⟩:=HC.out W zb
 rw [hW,hW1] at c0 c1 c2 c3 c4 c5 c6 d0 d1 d2 d3 d4 d5 d6
 by_cases e_sq:sq=sq'
 case neg=>
  have t1:(sq==sq')=false:=beq_eq_false_iff_ne.2 e_sq
  have t2:(sq !=sq')=true:=by simp [e_sq]
  have HF:=zh (show X≠Y from fun h=>e_sq (by rw [HXX.out,HYY.out] at h;exact congrArg Rt.seq h))
  clear e_sq hW hW1
  go_enter Tryz.func14,Tryz.ntmps14
  go_wp2_with fail
  rw [<-HW1.out,<-HW.out]
  go_ret
  exact HX.out _ HB0.out HF.out
 subst e_sq
 by_cases e_lg:lg=lg'
 case neg=>
  have t1:(lg==lg')=false:=beq_eq_false_iff_ne.2 e_lg
  have t2:(lg !=lg')=true:=by simp [e_lg]
  have HF:=zh (show X≠Y from fun h=>e_lg (by rw [HXX.out,HYY.out] at h;exact congrArg Rt.log h))
  clear e_lg hW hW1
  go_enter Tryz.func14,Tryz.ntmps14
  go_wp2_with fail
  rw [<-HW1.out,<-HW.out]
  go_ret
  exact HX.out _ HB0.out HF.out
 subst e_lg
 by_cases e_nx:nx=nx'
 case neg=>
  have t1:(nx==nx')=false:=beq_eq_false_iff_ne.2 e_nx
  have t2:(nx !=nx')=true:=by simp [e_nx]
  have HF:=zh (show X≠Y from fun h=>e_nx (by rw [HXX.out,HYY.out] at h;exact congrArg Rt.next h))
  clear e_nx hW hW1
  go_enter Tryz.func14,Tryz.ntmps14
  go_wp2_with fail
  rw [<-HW1.out,<-HW.out]
  go_ret
  exact HX.out _ HB0.out HF.out
 subst e_nx
 by_cases e_nb:nb=nb'
 case neg=>
  have t1:((nb:Int)==(nb':Int))=false:=beq_eq_false_iff_ne.2 (by omega)
  have t2:(nb==nb')=false:=beq_eq_false_iff_ne.2 e_nb
  have t3:((nb:Int)!=(nb':Int))=true:=by simp;omega
  have HF:=zh (show X≠Y from fun h=>e_nb (by
   rw [HXX.out,HYY.out] at h
   have h2:=congrArg List.length (congrArg Rt.bs h)
   simp only at h2
   rw [HNB.out.1,HNB.out.2,h2]))
  clear e_nb hW hW1
  go_enter Tryz.func14,Tryz.ntmps14
  go_wp2_with fail
  rw [<-HW1.out,<-HW.out]
  go_ret
  exact HX.out _ HB0.out HF.out
 subst e_nb
 by_cases e_nl:nl=nl'
 case neg=>
  have t1:((nl:Int)==(nl':Int))=false:=beq_eq_false_iff_ne.2 (by omega)
  have t2:(nl==nl')=false:=beq_eq_false_iff_ne.2 e_nl
  have t3:((nl:Int)!=(nl':Int))=true:=by simp;omega
  have HF:=zh (show X≠Y from fun h=>e_nl (by
   rw [HXX.out,HYY.out] at h
   have h2:=congrArg List.length (congrArg Rt.ls h)
   simp only at h2
   rw [HNL.out.1,HNL.out.2,h2]))
  clear e_nl hW hW1
  go_enter Tryz.func14,Tryz.ntmps14
  go_wp2_with fail
  rw [<-HW1.out,<-HW.out]
  go_ret
  exact HX.out _ HB0.out HF.out
 subst e_nl
 by_cases e_nv:nv=nv'
 case neg=>
  have t1:((nv:Int)==(nv':Int))=false:=beq_eq_false_iff_ne.2 (by omega)
  have t2:(nv==nv')=false:=beq_eq_false_iff_ne.2 e_nv
  have t3:((nv:Int)!=(nv':Int))=true:=by simp;omega
  have HF:=zh (show X≠Y from fun h=>e_nv (by
   rw [HXX.out,HYY.out] at h
   have h2:=congrArg List.length (congrArg Rt.vs h)
   simp only [Vx.zqk] at h2
   rw [HNV.out.1,HNV.out.2,h2]))
  clear e_nv hW hW1
  go_enter Tryz.func14,Tryz.ntmps14
  go_wp2_with fail
  rw [<-HW1.out,<-HW.out]
  go_ret
  exact HX.out _ HB0.out HF.out
 subst e_nv
 clear hW hW1
 go_enter Tryz.func14,Tryz.ntmps14
 go_upto_region 4 with fail
 rw [<-HW1.out,<-HW.out]
 clear c0 c1 c2 c3 c4 c5 c6 d0 d1 d2 d3 d4 d5 d6
 go_loopg [5] nb (fun gk iv wr=> ∃i:Nat,i+gk=nb/\iv= .int .i64 i/\Hid (bs.take i=bs'.take i)/\Hid (Below W.heap.size W wr))
 case atStart=>exact⟨0,by omega,rfl,zh rfl,HB0⟩
 case round=>
  obtain⟨i,hi,rfl,HT,HB⟩:=hrel
  obtain⟨c0,c1,c2,c3,c4,c5,c6,d0,d1,d2,d3,d4,d5,d6⟩:=HC.out wr HB.out
  by_cases hlt:i<nb
  ·have hix:i<bs.length:=by have:=HNB.out;omega
   have hiy:i<bs'.length:=by have:=HNB.out;omega
   obtain⟨b,o,hsa0,hlb,hcx0⟩:=HI1.out.brs.els.get i hix
   obtain⟨b',o',hsb0,hlb',hcy0⟩:=HI2.out.brs.els.get i hiy
   have HGX:=zh (List.getElem?_eq_getElem hix)
   have HGY:=zh (List.getElem?_eq_getElem hiy)
   have hcx: ∀(j:Nat) (c:Value),(brc bs[i])[j]? =some c->w.cell? ⟨b,o+i*3+j,none⟩=some c:=hcx0
   have hcy: ∀(j:Nat) (c:Value),(brc bs'[i])[j]? =some c->w.cell? ⟨b',o'+i*3+j,none⟩=some c:=hcy0
   clear hcx0 hcy0
   generalize bs[i] =x at hcx HGX
   generalize bs'[i] =y at hcy HGY
   have HBw:=zh (HBW.out wr HB.out)
   have a0:=(HBw.out.cell (p:=⟨b,_,none⟩) hlb).trans (hcx 0 _ rfl)
   have b0:=(HBw.out.cell (p:=⟨b',_,none⟩) hlb').trans (hcy 0 _ rfl)
   have a1:=(HBw.out.cell (p:=⟨b,_,none⟩) hlb).trans (hcx 1 _ rfl)
   have b1:=(HBw.out.cell (p:=⟨b',_,none⟩) hlb').trans (hcy 1 _ rfl)
   have a2:=(HBw.out.cell (p:=⟨b,_,none⟩) hlb).trans (hcx 2 _ rfl)
   have b2:=(HBw.out.cell (p:=⟨b',_,none⟩) hlb').trans (hcy 2 _ rfl)
   simp only [Nat.add_zero] at a0 b0
   have i0:(0:Int)<=(i:Int):=by omega
   have i1:(i:Int)<(nb:Int):=by omega
   have hw1:IntKind.i64.wrap ((i:Int)+1)=(i:Int)+1:=IntWalk.i64_in _ (by omega)
   have hsa:ba=some ⟨b,o,none⟩:=hsa0
   have hsb:ba'=some ⟨b',o',none⟩:=hsb0
   rw [hsa] at c3
   rw [hsb] at d3
   clear hcx hcy hsa hsb hsa0 hsb0
   by_cases hq:x.1=y.1/\x.2.1=y.2.1/\x.2.2=y.2.2
   ·have dq:decide (x.1=y.1/\x.2.1=y.2.1/\x.2.2=y.2.2)=true:=decide_eq_true hq
    have HT2:=zh (show bs.take (i+1)=bs'.take (i+1)from zxc HT.out HGX.out HGY.out (Prod.ext hq.1 (Prod.ext hq.2.1 hq.2.2)))
    clear hq
    go_upto_region 6 with fail
    go_quiet (fail)
    have HBn:=zh (zqo HB.out nq)
    go_wp2
    go_roundg(gk - 1)
    case measure=>omega
    case rel=>exact⟨i+1,by omega,by go_num,HT2,HBn⟩
   ·have dq:decide (x.1=y.1/\x.2.1=y.2.1/\x.2.2=y.2.2)=false:=decide_eq_false hq
    have HF:=zh (show X≠Y from fun h=>ne_at HGX.out HGY.out (fun h2=>hq (by rw [h2];exact⟨rfl,rfl,rfl⟩)) (by rw [HXX.out,HYY.out] at h;exact congrArg Rt.bs h))
    clear hq
    go_upto_region 6 with fail
    go_quiet (fail)
    go_wp2
    go_ret
    exact HX.out _ (zqo HB.out nq) HF.out
  have i1: ¬(i:Int)<(nb:Int):=by omega
  have HE5:=zh (show bs=bs' from by
   have:=HT.out
   rwa [List.take_of_length_le (by have:=HNB.out;omega),List.take_of_length_le (by have:=HNB.out;omega)] at this)
  have HB5:=zh HB.out
  go_upto_region 9 with fail
  clear hlt HT hi HB c0 c1 c2 c3 c4 c5 c6 d0 d1 d2 d3 d4 d5 d6
  go_loopg [6] nl (fun gk iv wr=> ∃i:Nat,i+gk=nl/\iv= .int .i64 i/\Hid (ls.take i=ls'.take i)/\Hid (Below W.heap.size W wr))
  case atStart=>exact⟨0,by omega,rfl,zh rfl,HB5⟩
  case round=>
   obtain⟨i,hi,rfl,HT,HB⟩:=hrel
   obtain⟨c0,c1,c2,c3,c4,c5,c6,d0,d1,d2,d3,d4,d5,d6⟩:=HC.out wr HB.out
   by_cases hlt:i<nl
   ·have hix:i<ls.length:=by have:=HNL.out;omega
    have hiy:i<ls'.length:=by have:=HNL.out;omega
    obtain⟨b,o,hsa0,hlb,hcx0⟩:=HI1.out.lns.els.get i hix
    obtain⟨b',o',hsb0,hlb',hcy0⟩:=HI2.out.lns.els.get i hiy
    have HGX:=zh (List.getElem?_eq_getElem hix)
    have HGY:=zh (List.getElem?_eq_getElem hiy)
    have hcx: ∀(j:Nat) (c:Value),(lnc ls[i])[j]? =some c->w.cell? ⟨b,o+i*2+j,none⟩=some c:=hcx0
    have hcy: ∀(j:Nat) (c:Value),(lnc ls'[i])[j]? =some c->w.cell? ⟨b',o'+i*2+j,none⟩=some c:=hcy0
    clear hcx0 hcy0
    generalize ls[i] =x at hcx HGX
    generalize ls'[i] =y at hcy HGY
    have HBw:=zh (HBW.out wr HB.out)
    have a0:=(HBw.out.cell (p:=⟨b,_,none⟩) hlb).trans (hcx 0 _ rfl)
    have b0:=(HBw.out.cell (p:=⟨b',_,none⟩) hlb').trans (hcy 0 _ rfl)
    have a1:=(HBw.out.cell (p:=⟨b,_,none⟩) hlb).trans (hcx 1 _ rfl)
    have b1:=(HBw.out.cell (p:=⟨b',_,none⟩) hlb').trans (hcy 1 _ rfl)
    simp only [Nat.add_zero] at a0 b0
    have i0:(0:Int)<=(i:Int):=by omega
    have i1:(i:Int)<(nl:Int):=by omega
    have hw1:IntKind.i64.wrap ((i:Int)+1)=(i:Int)+1:=IntWalk.i64_in _ (by omega)
    have hsa:la=some ⟨b,o,none⟩:=hsa0
    have hsb:la'=some ⟨b',o',none⟩:=hsb0
    rw [hsa] at c4
    rw [hsb] at d4
    clear hcx hcy hsa hsb hsa0 hsb0
    by_cases hq:x.1=y.1/\x.2=y.2
    ·have dq:decide (x.1=y.1/\x.2=y.2)=true:=decide_eq_true hq
     have HT2:=zh (show ls.take (i+1)=ls'.take (i+1)from zxc HT.out HGX.out HGY.out (Prod.ext hq.1 hq.2))
     clear hq
     go_upto_region 11 with fail
     go_quiet (fail)
     have HBn:=zh (zqo HB.out nq)
     go_wp2
     go_roundg(gk - 1)
     case measure=>omega
     case rel=>exact⟨i+1,by omega,by go_num,HT2,HBn⟩
    ·have dq:decide (x.1=y.1/\x.2=y.2)=false:=decide_eq_false hq
     have HF:=zh (show X≠Y from fun h=>ne_at HGX.out HGY.out (fun h2=>hq (by rw [h2];exact⟨rfl,rfl⟩)) (by rw [HXX.out,HYY.out] at h;exact congrArg Rt.ls h))
     clear hq
     go_upto_region 11 with fail
     go_quiet (fail)
     go_wp2
     go_ret
     exact HX.out _ (zqo HB.out nq) HF.out
   have i1: ¬(i:Int)<(nl:Int):=by omega
   have HE6:=zh (show ls=ls' from by
    have:=HT.out
    rwa [List.take_of_length_le (by have:=HNL.out;omega),List.take_of_length_le (by have:=HNL.out;omega)] at this)
   have HB6:=zh HB.out
   go_upto_region 14 with fail
   clear hlt HT hi HB c0 c1 c2 c3 c4 c5 c6 d0 d1 d2 d3 d4 d5 d6
   go_loopg [7] nv (fun gk iv wr=> ∃i:Nat,i+gk=nv/\iv= .int .i64 i/\Hid ((Vx.vsOf vs).take i=(Vx.vsOf vs').take i)/\Hid (Below W.heap.size W wr))
   case atStart=>exact⟨0,by omega,rfl,zh rfl,HB6⟩
   case round=>
    obtain⟨i,hi,rfl,HT,HB⟩:=hrel
    obtain⟨c0,c1,c2,c3,c4,c5,c6,d0,d1,d2,d3,d4,d5,d6⟩:=HC.out wr HB.out
    by_cases hlt:i<nv
    ·have hix:i<vs.length:=by have:=HNV.out;omega
     have hiy:i<vs'.length:=by have:=HNV.out;omega
     obtain⟨b,o,hsa0,hlb,hcx0⟩:=HI1.out.vcs.els.get i hix
     obtain⟨b',o',hsb0,hlb',hcy0⟩:=HI2.out.vcs.els.get i hiy
     have hcx: ∀(j:Nat) (c:Value),(Vx.vc vs[i])[j]? =some c->w.cell? ⟨b,o+i*2+j,none⟩=some c:=hcx0
     have hcy: ∀(j:Nat) (c:Value),(Vx.vc vs'[i])[j]? =some c->w.cell? ⟨b',o'+i*2+j,none⟩=some c:=hcy0
     have hsa:va=some ⟨b,o,none⟩:=hsa0
     have hsb:va'=some ⟨b',o',none⟩:=hsb0
     have HGX:=zh (show(Vx.vsOf vs)[i]? =some (vs[i].line,vs[i].ps)from by unfold Vx.vsOf;rw [List.getElem?_map,List.getElem?_eq_getElem hix];rfl)
     have HGY:=zh (show(Vx.vsOf vs')[i]? =some (vs'[i].line,vs'[i].ps)from by unfold Vx.vsOf;rw [List.getElem?_map,List.getElem?_eq_getElem hiy];rfl)
     have HPX:=zh (show Vx.Pts w vs[i].a vs[i].ps from HI1.out.vcs.inn _ (List.getElem_mem hix))
     have HPY:=zh (show Vx.Pts w vs'[i].a vs'[i].ps from HI2.out.vcs.inn _ (List.getElem_mem hiy))
     have HLX:=zh (show vs[i].ps.length<1000000 from HK1.out.pts _ (List.getElem_mem hix))
     have HLY:=zh (show vs'[i].ps.length<1000000 from HK2.out.pts _ (List.getElem_mem hiy))
     clear hcx0 hcy0 hsa0 hsb0
     generalize vs[i] =x at hcx HGX HPX HLX
     generalize vs'[i] =y at hcy HGY HPY HLY
     obtain⟨np,hnp⟩: ∃n,n=x.ps.length:=⟨_,rfl⟩
     obtain⟨np',hnp'⟩: ∃n,n=y.ps.length:=⟨_,rfl⟩
     have HCV:=zh (show∀u,Below W.heap.size W u->u.cell? ⟨b,o+i*2,none⟩=some (.int .u64 x.line)/\u.cell? ⟨b,o+i*2+1,none⟩=some (.slice x.a np x.c)/\u.cell? ⟨b',o'+i*2,none⟩=some (.int .u64 y.line)/\u.cell? ⟨b',o'+i*2+1,none⟩=some (.slice y.a np' y.c)/\u.cell? ⟨w.heap.size,5,none⟩=some (.slice (some ⟨b,o,none⟩) nv vc)/\u.cell? ⟨w.heap.size+1,5,none⟩=some (.slice (some ⟨b',o',none⟩) nv vc')from fun u hu=>by
      have hw:=HBW.out u hu
      obtain⟨c0,c1,c2,c3,c4,c5,c6,d0,d1,d2,d3,d4,d5,d6⟩:=HC.out u hu
      rw [hsa] at c5
      rw [hsb] at d5
      rw [hnp,hnp']
      exact⟨(hw.cell (p:=⟨b,_,none⟩) hlb).trans (hcx 0 _ rfl),(hw.cell (p:=⟨b,_,none⟩) hlb).trans (hcx 1 _ rfl),(hw.cell (p:=⟨b',_,none⟩) hlb').trans (hcy 0 _ rfl),(hw.cell (p:=⟨b',_,none⟩) hlb').trans (hcy 1 _ rfl),c5,d5⟩)
     have HNP:=zh hnp
     have HNP':=zh hnp'
     have lnp:np<1000000:=by rw [hnp];exact HLX.out
     clear c0 c1 c2 c3 c4 c5 c6 d0 d1 d2 d3 d4 d5 d6 hcx hcy hsa hsb hnp hnp'
     obtain⟨a0,a1,b0,b1,c5,d5⟩:=HCV.out wr HB.out
     have i0:(0:Int)<=(i:Int):=by omega
     have i1:(i:Int)<(nv:Int):=by omega
     have hw1:IntKind.i64.wrap ((i:Int)+1)=(i:Int)+1:=IntWalk.i64_in _ (by omega)
     have HFS:=zh (show(x.line,x.ps)≠(y.line,y.ps)->X≠Y from fun h1 h=>ne_at HGX.out HGY.out h1 (by rw [HXX.out,HYY.out] at h;exact congrArg Rt.vs h))
     by_cases hline:x.line=y.line
     case neg=>
      have t1:(x.line==y.line)=false:=beq_eq_false_iff_ne.2 hline
      have t2:(x.line !=y.line)=true:=by simp [hline]
      have HF:=zh (HFS.out (fun h=>hline (congrArg Prod.fst h)))
      clear hline
      go_upto_region 16 with fail
      go_quiet (fail)
      go_wp2
      go_ret
      exact HX.out _ (zqo HB.out nq) HF.out
     have t1:(x.line==y.line)=true:=beq_iff_eq.2 hline
     have t2:(x.line !=y.line)=false:=by simp [hline]
     have HLINE:=zh hline
     clear hline
     by_cases hnn:np=np'
     case neg=>
      have t3:((np:Int)==(np':Int))=false:=beq_eq_false_iff_ne.2 (by omega)
      have t4:(np==np')=false:=beq_eq_false_iff_ne.2 hnn
      have t5:((np:Int)!=(np':Int))=true:=by simp;omega
      have HF:=zh (HFS.out (fun h=>hnn (by rw [HNP.out,HNP'.out];exact congrArg (fun p:Int × Bh=>p.2.length) h)))
      clear hnn
      go_upto_region 16 with fail
      go_quiet (fail)
      go_wp2
      go_ret
      exact HX.out _ (zqo HB.out nq) HF.out
     subst hnn
     obtain⟨g9,hg9⟩: ∃g9,g9=gk:=⟨_,rfl⟩
     rw [<-hg9] at hi
     have HG9:=zh hg9
     clear hg9
     go_upto_region 16 with fail
     go_quiet (fail)
     have HB16:=zh (zqo HB.out nq)
     obtain⟨u16,hu16⟩: ∃u,u=wr.drewN nq:=⟨_,rfl⟩
     rw [<-hu16] at HB16 ⊢
     clear hu16 a0 a1 b0 b1 c5 d5 t1 t2
     go_upto_region 19 with fail
     go_loopg [8] np (fun gk iv wr=> ∃j:Nat,j+gk=np/\iv= .int .i64 j/\Hid (x.ps.take j=y.ps.take j)/\Hid (Below W.heap.size W wr))
     case atStart=>exact⟨0,by omega,rfl,zh rfl,HB16⟩
     case round=>
      obtain⟨j,hj,rfl,HTJ,HBj⟩:=hrel
      obtain⟨a0,a1,b0,b1,c5,d5⟩:=HCV.out wr HBj.out
      by_cases hltj:j<np
      ·have hjx:j<x.ps.length:=by have:=HNP.out;omega
       have hjy:j<y.ps.length:=by have:=HNP'.out;omega
       obtain⟨pb,po,hpa,hpl,hpc⟩:=HPX.out.get j hjx
       obtain⟨pb',po',hpa',hpl',hpc'⟩:=HPY.out.get j hjy
       have HTX:=zh (List.getElem?_eq_getElem hjx)
       have HTY:=zh (List.getElem?_eq_getElem hjy)
       generalize x.ps[j] =t at hpc HTX
       generalize y.ps[j] =t' at hpc' HTY
       have HBw:=zh (HBW.out wr HBj.out)
       have e0:=(HBw.out.cell (p:=⟨pb,_,none⟩) hpl).trans (hpc 0 _ rfl)
       have e1:=(HBw.out.cell (p:=⟨pb,_,none⟩) hpl).trans (hpc 1 _ rfl)
       have f0:=(HBw.out.cell (p:=⟨pb',_,none⟩) hpl').trans (hpc' 0 _ rfl)
       have f1:=(HBw.out.cell (p:=⟨pb',_,none⟩) hpl').trans (hpc' 1 _ rfl)
       simp only [Nat.add_zero] at e0 f0
       have l0:(0:Int)<=(j:Int):=by omega
       have l1:(j:Int)<(np:Int):=by omega
       have hw3:IntKind.i64.wrap ((j:Int)+1)=(j:Int)+1:=IntWalk.i64_in _ (by omega)
       rw [hpa] at a1
       rw [hpa'] at b1
       clear hpc hpc'
       by_cases hq:t.1=t'.1/\t.2=t'.2
       ·have dq:decide (t.1=t'.1/\t.2=t'.2)=true:=decide_eq_true hq
        have HTJ2:=zh (show x.ps.take (j+1)=y.ps.take (j+1)from zxc HTJ.out HTX.out HTY.out (Prod.ext hq.1 hq.2))
        clear hq
        go_upto_region 21 with fail
        go_quiet (fail)
        have HBn:=zh (zqo HBj.out nq)
        go_wp2
        go_roundg(gk - 1)
        case measure=>omega
        case rel=>exact⟨j+1,by omega,by go_num,HTJ2,HBn⟩
       ·have dq:decide (t.1=t'.1/\t.2=t'.2)=false:=decide_eq_false hq
        have HF:=zh (HFS.out (fun h=>ne_at HTX.out HTY.out (fun h2=>hq (by rw [h2];exact⟨rfl,rfl⟩)) (congrArg Prod.snd h)))
        clear hq
        go_upto_region 21 with fail
        go_quiet (fail)
        go_wp2
        go_ret
        exact HX.out _ (zqo HBj.out nq) HF.out
      ·have l1: ¬(j:Int)<(np:Int):=by omega
       have HT2:=zh (show(Vx.vsOf vs).take (i+1)=(Vx.vsOf vs').take (i+1)from zxc HT.out HGX.out HGY.out (Prod.ext HLINE.out (by
        have:=HTJ.out
        rwa [List.take_of_length_le (by have:=HNP.out;omega),List.take_of_length_le (by have:=HNP'.out;omega)] at this)))
       clear hltj hj
       go_wp2_with fail
       go_roundg(g9 - 1)
       case measure=>have:=HG9.out;omega
       case rel=>exact⟨i+1,by omega,by go_num,HT2,HBj⟩
    have i1: ¬(i:Int)<(nv:Int):=by omega
    have HE7:=zh (show Vx.vsOf vs=Vx.vsOf vs' from by
     have:=HT.out
     rwa [List.take_of_length_le (by rw [Vx.zqk];have:=HNV.out;omega),List.take_of_length_le (by rw [Vx.zqk];have:=HNV.out;omega)] at this)
    have HSS:=zh (zy7 sa sa' sc sc' ns ns' sh sh' wr (HI1.out.shs.ext (HBW.out wr HB.out)) (HI2.out.shs.ext (HBW.out wr HB.out)) HNS.out.1.symm HNS.out.2.symm (by rw [HNS.out.1];exact HK1.out.sh) (by rw [HNS.out.2];exact HK2.out.sh) HK1.out.lev HK2.out.lev)
    clear hlt hi
    go_wp2_with fail
    refine HSS.out.mono ?_
    rintro e w9 ⟨q,rfl,hq,hb⟩
    have HF:=zh (show yke X Y w (.returned (.bool q)) w9 from⟨q,rfl,by
     rw [hq,HXX.out,HYY.out,HE5.out,HE6.out,HE7.out]
     exact⟨fun h=>by rw [h],fun h=>congrArg Rt.sh h⟩,(HBW.out wr HB.out).trans (hb.mono (HBW.out wr HB.out).size)⟩)
    clear hq hb
    go_wp2_with fail
    go_ret
    exact HF.out
end Go.Proofs.YtchcelodeepjdaaGreatDoor.Ln
