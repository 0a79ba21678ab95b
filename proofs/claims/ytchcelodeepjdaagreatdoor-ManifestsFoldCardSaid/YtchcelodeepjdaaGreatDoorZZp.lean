/- Lemmas and walks towards ManifestsFold. Conditions: each one tells its own. -/
import Derived.Test.YtchcelodeepjdaaGreatDoorMp
import Derived.Test.YtchcelodeepjdaaGreatDoorZQ
import Derived.Lib.SlBytesConst
import Derived.Deep.QuietTactic
import Derived.BigQuiet
namespace Go.Proofs.YtchcelodeepjdaaGreatDoor.Ln
open Go.RowKit Go.Shelf Go.Herb

def zeroR:Rv:=⟨0,0,0,none,0, [],none,0, [],none,0, [],none,0, []⟩
theorem zero_in (w:World):RtIn w zeroR:=by
 have u0:U64 0:=zqs (n:=0) (by decide)
 have m0:(0:Nat)<=maxLen:=Nat.zero_le _
 exact⟨u0,u0,u0,⟨Els.nil _ _ _ _,fun _=>rfl,zr,m0,fun x hx=>by cases hx⟩,⟨Els.nil _ _ _ _,fun _=>rfl,zr,m0,fun x hx=>by cases hx⟩,⟨Els.nil _ _ _ _,(fun x hx=>by cases hx),(fun x hx=>by cases hx),m0,(fun x hx=>by cases hx)⟩,⟨Els.nil _ _ _ _,fun x hx=>by cases hx⟩,zr,m0,fun _=>rfl,⟨zr,m0⟩⟩
theorem yvf:zwn zeroR:=⟨(show 0<1000000 by decide),(show 0<1000000 by decide),(show 0<1000000 by decide),(show 0<1000000 by decide),(show 0<=1000000 by decide),(show 0<=1000000 by decide),fun s hs=>by cases hs⟩
theorem zero_bad: ¬GoodR zeroR:=fun h=>by
 have h1:1<=0:=h.1.b1
 omega
theorem yqk (w:World):Calls Tryz.prog (16) #[.agg #[.int .u64 0, .int .u64 0, .int .u64 0, .slice none 0 0, .slice none 0 0, .slice none 0 0, .slice none 0 0]] w fun e w'=>e= .returned (.int .i64 4)/\Below w.heap.size w w':=
 (zkk zeroR w (zero_in w) yvf).mono (by
  rintro e w' ⟨n,rfl,⟨-,h⟩|⟨rfl, -⟩,hb⟩
  ·exact absurd h zero_bad
  ·exact⟨rfl,hb⟩)
theorem yz6 (g:Nat)(w:World)(h:zk8 w g):Calls Tryz.prog (17) #[rtV (zzn g), .pointer none] w (zkj zyq w):=by
 have hw:=yjc g
 have hh:(headL (zzn g).says).length<19:=by
  have h1:(zqt (zzn g).says).length=19:=by rw [hw];rfl
  have h2:(shL (zzn g).says.sh).length=1:=by
   show(shL []).length=1
   simp [shL,numsL,zk1]
  unfold zqt at h1
  rw [List.length_cons,List.length_append,h2] at h1
  omega
 rw [<-hw]
 refine zws (zzn g) w h.laid (yjb g) (ywr g) (by rw [hw];decide) (fun p acc u hL hl hb hp=> ?_) (by unfold zkf;omega)
 have e:shL (zzn g).says.sh=numsL [0] :=by show shL [] =numsL [0];simp [shL]
 rw [e]
 exact yzk p acc u hL (by unfold zkf at hl;omega)
theorem yjm {w:World}{g B n:Nat}{xs:List Int}{cs:Array Value}(h:w.heap[g]? =some (.cells cs (5) (0,0)))(hc:cs.toList=xs.flatMap nb)(hn:xs.length=n)(hB:B<=g)(hm:n<=maxLen):OwnB B w (.slice (some ⟨g,0,none⟩) n n) xs:=by
 subst hn
 have hl:cs.size=xs.length:=by
  rw [<-Array.length_toList,hc,zq8 zqq,Nat.mul_one]
 refine⟨by rw [zq8 zqq], .inr ⟨g,xs.length,cs,rfl,hB,h,zr,hm,by rw [hl,Nat.mul_one],?_⟩⟩
 rw [hc]
 exact List.take_of_length_le (by rw [zq8 zqq];exact zr)
theorem zjp {w:World}{g:Nat}{xs:List Int}{cs:Array Value}{t:TypeId}{fr:Nat × Nat}(h:w.heap[g]? =some (.cells cs t fr))(hc:cs.toList=xs.flatMap nb):Byt w (some ⟨g,0,none⟩) xs:=
 ⟨fun i hi=>by
  refine⟨g,0,rfl,zq2 h,fun j c hj=> ?_⟩
  rw [zq0 h,<-Array.getElem?_toList,hc]
  have hj0:j=0:=by
   rcases Nat.eq_zero_or_pos j with h|h
   ·exact h
   ·rw [List.getElem?_eq_none (by rw [zqq];omega)] at hj;cases hj
  subst hj0
  have hfg:=zxn zqq xs i 0 hi (by omega)
  rw [hj] at hfg
  rw [<-hfg]
  congr 1
  omega⟩
theorem yzg (bd ad:Addr)(n k c:Nat)(ys xs:List Int)(w:World)(hb:Byt w (some bd) ys)(hn:ys.length=n)(hx:Byt w (some ad) xs)(hk:xs.length=k)(h0:0<k)(hl:n+k<1000000000)(ty:TypeId):
  ∃v' w',(Builtin.append_ #[(24),(24)] ty #[.slice (some bd) n n, .slice (some ad) k c]).run Tryz.prog w= .ok v' w'/\OwnB w.heap.size w' v' (ys++xs)/\Below w.heap.size w w':=by
 obtain⟨i0,hin,hz0,hz1,hz2⟩:=info_parts zyt
 have hyl:(ys.flatMap nb).length=n:=by rw [zq8 zqq,hn,Nat.mul_one]
 have hxl:(xs.flatMap nb).length=k:=by rw [zq8 zqq,hk,Nat.mul_one]
 have hr:=run_append_grow (P:=Tryz.prog) w (24) ty (5) i0 _ Tryz.underlying24 hin hz0 bd n n (ys.flatMap nb) (by rw [hyl,hz1,Nat.mul_one]) (hb.flat zqq (by decide)) ad k c (xs.flatMap nb) (by rw [hxl,hz1,Nat.mul_one]) (hx.flat zqq (by decide)) (by omega) (by omega) (growslice_fits (by omega) (by rw [hz2];omega))
 have hge:=grownCap_ge w (n+k) n (5)
 have hcm:grownCap w (n+k) n (5)<=maxLen:=grownCap_le_maxLen w (n+k) n (5) (by unfold maxLen;omega)
 have hlen:(ys++xs).length=n+k:=by rw [List.length_append,hn,hk]
 refine⟨_,_,hr,?_,((Below.refl w.heap.size w).drew).alloc (by simp) _⟩
 unfold OwnB
 rw [hlen]
 refine⟨by rw [zq8 zqq,hlen], .inr ⟨w.heap.size,_,_,rfl,zr,heap_alloc_new w.drew _,hge,hcm,?_,?_⟩⟩
 ·have hz:((Value.int IntKind.u8 0).cells).size=1:=rfl
  simp only [Array.size_append,List.size_toArray,size_zeroCells,hz,hyl,hxl]
  omega
 ·simp only [Array.toList_append,List.append_assoc]
  rw [List.flatMap_append,<-List.append_assoc]
  have e:(n+k)*1=(ys.flatMap nb++xs.flatMap nb).length:=by rw [List.length_append,hyl,hxl,Nat.mul_one]
  rw [e]
  exact List.take_left
theorem zqm {P:Program}(w:World){ops:Array Oper}{rest:List Oper}{o:Oper}{a:Act}{Q:Exit->Act->World->Prop}(hw:Region.wanted o (yielded ops a.tmps)=true)(s x:Operand)(t tn:TypeId)
  (ho:o.op= .call {callee:= .builtin .append,args:= #[s,x],argTypes:= #[t,tn]}) (vs vx:Value) (hs:a.eval s=vs) (hx:a.eval x=vx)
  (v':Value) (w':World) (hr:(Builtin.append_ #[t,tn] o.type #[vs,vx]).run P w= .ok v' w') (h:wpList P ops Q rest (a.put o.dst v') w'):wpList P ops Q (o::rest) a w:=by
 show(if _ then _ else _)
 rw [if_pos hw]
 exact Or.inl (Lib.wp_append_run w s x t tn ho vs vx hs hx v' w' hr h)
def yxh (w:World)(e:Ending)(w':World):Prop:=e= .returned (.bool true)/\Below w.heap.size w w'
set_option maxRecDepth 100000 in
set_option maxHeartbeats 2000000 in
theorem yy9 (w:World):Calls Tryz.prog (9) #[] w (yxh w):=by
 have HB0:=zh (Below.refl w.heap.size w)
 have HF:=zh zwq
 have HP:=zh yz6
 go_enter Tryz.func9,Tryz.ntmps9
 go_upto_region 3 with(first
  |(go_at_call 23;refine(yy1 _).mono ?_;rintro e w1 ⟨rfl,hF,hb⟩;have HF1:=zh hF;have HB1:=zh hb;clear hF hb)
  |(go_at_call 17;refine(HP.out _ _ HF1.out).mono ?_;rintro e w2 ⟨a,n,rfl,hn,hE,hb, -⟩;have HN:=zh hn;have HE:=zh hE;have HB2:=zh (HB1.out.trans (hb.mono HB1.out.size));clear hn hE hb)
  |(go_at_call 11;refine(HF.out _).mono ?_;rintro e w3 ⟨rfl,hb⟩;have HE3:=zh (HE.out.ext hb);have HB3:=zh (HB2.out.trans (hb.mono HB2.out.size));clear hb))
 obtain⟨V,hV⟩: ∃V:World,V=w3.alloc (.cells #[.int .u64 0, .int .u64 0, .int .u64 0, .slice none 0 0, .slice none 0 0, .slice none 0 0, .slice none 0 0] (32)):=⟨_,rfl⟩
 rw [<-hV]
 have HBV:=zh (show Below w.heap.size w V from by rw [hV];exact HB3.out.alloc HB3.out.size _)
 have HEV:=zh (show Byt V a zyq from by rw [hV];exact HE3.out.ext (zb.alloc zr _))
 clear hV HE3 HB3 HE HB2 HF1 HB1
 obtain⟨A1,hA1⟩: ∃A:World,A=V.alloc (.cells #[.int .u8 1, .int .u8 0, .int .u8 1, .int .u8 2, .int .u8 1, .int .u8 4] (5)):=⟨_,rfl⟩
 obtain⟨A2,hA2⟩: ∃A:World,A=A1.alloc (.cells #[.int .u8 109, .int .u8 97, .int .u8 105, .int .u8 110] (5) (4,5)):=⟨_,rfl⟩
 obtain⟨A3,hA3⟩: ∃A:World,A=A2.alloc (.cells #[.int .u8 0, .int .u8 0, .int .u8 1, .int .u8 0, .int .u8 0, .int .u8 1, .int .u8 0, .int .u8 0, .int .u8 0] (5)):=⟨_,rfl⟩
 have z1:A1.heap.size=V.heap.size+1:=by rw [hA1];simp
 have z2:A2.heap.size=V.heap.size+1+1:=by rw [hA2];simp [z1]
 have z3:A3.heap.size=V.heap.size+1+1+1:=by rw [hA3];simp [z2]
 have hBA1:Below V.heap.size V A1:=by rw [hA1];exact zb.alloc zr _
 have hBA2:Below A1.heap.size A1 A2:=by rw [hA2];exact zb.alloc zr _
 have hBA3:Below A2.heap.size A2 A3:=by rw [hA3];exact zb.alloc zr _
 have hx1:A1.heap[V.heap.size]? =some (.cells #[.int .u8 1, .int .u8 0, .int .u8 1, .int .u8 2, .int .u8 1, .int .u8 4] (5) (0,0)):=by rw [hA1];exact zq3 rfl _
 have hx2:A2.heap[V.heap.size+1]? =some (.cells #[.int .u8 109, .int .u8 97, .int .u8 105, .int .u8 110] (5) (4,5)):=by rw [hA2];exact zq3 z1.symm _
 have hx3:A3.heap[V.heap.size+1+1]? =some (.cells #[.int .u8 0, .int .u8 0, .int .u8 1, .int .u8 0, .int .u8 0, .int .u8 1, .int .u8 0, .int .u8 0, .int .u8 0] (5) (0,0)):=by rw [hA3];exact zq3 z2.symm _
 have hx1':=zq4 (zq4 hx1 hBA2 (by omega)) hBA3 (by omega)
 have hx2':=zq4 hx2 hBA3 (by omega)
 have mx:(10:Nat)<=maxLen:=by unfold maxLen;decide
 have hO1:OwnB V.heap.size A3 (.slice (some ⟨V.heap.size,0,none⟩) 6 6) [(1:Int),(0:Int),(1:Int),(2:Int),(1:Int),(4:Int)] :=yjm hx1' rfl rfl zr (Nat.le_trans (by decide) mx)
 have hE2:Byt A3 (some ⟨V.heap.size+1,0,none⟩) [(109:Int),(97:Int),(105:Int),(110:Int)] :=zjp hx2' rfl
 have hE3:Byt A3 (some ⟨V.heap.size+1+1,0,none⟩) [(0:Int),(0:Int),(1:Int),(0:Int),(0:Int),(1:Int),(0:Int),(0:Int),(0:Int)] :=zjp hx3 rfl
 obtain⟨v1,B1,hr1,hP1,hg1⟩:=yzg ⟨V.heap.size+1,0,none⟩ ⟨V.heap.size+1+1,0,none⟩ 4 9 9 [(109:Int),(97:Int),(105:Int),(110:Int)] [(0:Int),(0:Int),(1:Int),(0:Int),(0:Int),(1:Int),(0:Int),(0:Int),(0:Int)] A3 hE2 rfl hE3 rfl (by decide) (by decide) (24)
 have hQ1:OwnB V.heap.size B1 (.slice (some ⟨V.heap.size,0,none⟩) 6 6) [(1:Int),(0:Int),(1:Int),(2:Int),(1:Int),(4:Int)] :=ownsRow_below hO1 hg1 zr
 obtain⟨a1,c1,hv1, -,hF1⟩:=zq6 zqq hP1
 obtain⟨ad1,had1⟩: ∃ad,a1=some ad:=by
  obtain⟨b,o,h, -⟩:=hF1.get 0 (by decide)
  exact⟨_,h⟩
 subst had1
 have hv1':v1= .slice (some ad1) 13 c1:=hv1
 subst hv1'
 have hz4:V.heap.size<=B1.heap.size:=by have:=hg1.size;omega
 obtain⟨v2,B2,hr2,hP2,hg2⟩:=zz6 B1 V.heap.size _ [(1:Int),(0:Int),(1:Int),(2:Int),(1:Int),(4:Int)] ad1 13 c1 ([(109:Int),(97:Int),(105:Int),(110:Int)] ++ [(0:Int),(0:Int),(1:Int),(0:Int),(0:Int),(1:Int),(0:Int),(0:Int),(0:Int)]) rfl hQ1 hF1 (by decide) hz4 (24)
 obtain⟨a2,c2,hv2, -,hF2⟩:=zq6 zqq hP2
 have hv2':v2= .slice a2 19 c2:=hv2
 subst hv2'
 have hBB:Below V.heap.size V B2:=by
  have hA:Below V.heap.size V A3:=(hBA1.trans (hBA2.mono (by omega))).trans (hBA3.mono (by omega))
  have hB:Below V.heap.size V B1:=hA.trans (hg1.mono (by omega))
  exact hB.grown hg2 hB.size (fun k e=>by simp [Value.ownBlock] at e;omega)
 have HSB:=zh (yx8 a a2 n c2 n 19 zyq zyq B2 (HEV.out.ext hBB) hF2 HN.out.symm rfl (by rw [HN.out];decide))
 have HBB:=zh (HBV.out.trans (hBB.mono HBV.out.size))
 have hcv:=Lib.run_convert_bytes_const (P:=Tryz.prog) A1 (24) (5) #[.int .u8 109, .int .u8 97, .int .u8 105, .int .u8 110] 4 4 Tryz.underlying24 Tryz.underlying5
 rw [z1,hA1] at hcv
 have hcs:(#[.int .u8 109, .int .u8 97, .int .u8 105, .int .u8 110] :Array Value).size=4:=rfl
 rw [hcs] at hcv
 rw [hA3,hA2,hA1] at hr1
 clear hA1 hA2 hA3 z1 z2 z3 hBA1 hBA2 hBA3 hx1 hx2 hx3 hx1' hx2' hO1 hE2 hE3 hP1 hcs hg1 hQ1 hF1 hz4 hP2 hg2 hF2 hBB hv1 hv2 mx
 go_wp2_with(first
  |(at_builtin;refine zqm _ (by rfl) _ _ _ _ rfl _ _ rfl rfl _ _ hr1 ?_;clear hr1 hcv)
  |(at_builtin;refine zqm _ (by rfl) _ _ _ _ rfl _ _ rfl rfl _ _ hr2 ?_;clear hr2)
  |(go_at_call 18;refine HSB.out.mono ?_;rintro e w4 ⟨q,rfl,hq,hb⟩;have hq1:q=true:=hq.2 rfl;subst hq1;have HB4:=zh (HBB.out.trans (hb.mono HBB.out.size));clear hq hb)
  |(go_at_call 16;refine(yqk _).mono ?_;rintro e w5 ⟨rfl,hb⟩;have HB5:=zh (HB4.out.trans (hb.mono HB4.out.size));clear hb))
 go_ret
 exact⟨rfl,HB5.out⟩
end Go.Proofs.YtchcelodeepjdaaGreatDoor.Ln

namespace Go.Proofs.YtchcelodeepjdaaGreatDoor.Ln
open Go.RowKit Go.Shelf Go.Herb

theorem zzf {a d:ByteArray}(h:a.toList=d.toList):a=d:=by
 rw [ByteArray.toList_eq,ByteArray.toList_eq] at h
 cases a
 cases d
 exact congrArg ByteArray.mk (Array.toList_inj.1 h)
theorem run_eqTb (f f' b b':Int)(l l' h h':ByteArray)(w:World):(Op.equalIn 10000 (51) (.agg #[.int .u64 f, .int .u32 b, .string l, .string h]) (.agg #[.int .u64 f', .int .u32 b', .string l', .string h'])).run Tryz.prog w= .ok (decide (f=f'/\b=b'/\l=l'/\h=h')) w:=by
 have hS:Tryz.prog.underlying (51)=some (.struct (Tryz.prog.fieldsOf (51))):=by kernel_rfl
 have hp:Tryz.prog.stoodInHeld (51)=false:=by kernel_rfl
 rw [show(10000:Nat)=9999+1 from rfl,run_equalIn_agg w 9999 (51) _ _ hS hp]
 simp only [Program.fieldsOf,Tryz.underlying51]
 have u9:=Tryz.underlying26
 have u8:=Tryz.underlying9
 have u7:=Tryz.underlying49
 go_simp
 by_cases h1:f=f'
 ·by_cases h2:b=b'
  ·by_cases h3:l=l'
   ·by_cases h4:h=h'
    ·simp [h1,h2,h3,h4]
    ·have h5: ¬h.toList=h'.toList:=fun e=>h4 (zzf e)
     simp [h1,h2,h3,h4,h5]
   ·have h5: ¬l.toList=l'.toList:=fun e=>h3 (zzf e)
    simp [h1,h2,h3,h5]
  ·simp [h1,h2]
 ·simp [h1]
theorem zy6 (f f' b b':Int)(l l' h h':ByteArray)(w:World):(binOp .neq (51) (.agg #[.int .u64 f, .int .u32 b, .string l, .string h]) (.agg #[.int .u64 f', .int .u32 b', .string l', .string h'])).run Tryz.prog w= .ok (.bool (!decide (f=f'/\b=b'/\l=l'/\h=h'))) w:=by
 rw [run_neq_struct,run_eqTb];rfl
theorem yjh:Tryz.prog.eqGuardType Tryz.prog.depth (51)=false:=by kernel_rfl
def ykf (xs ys:List Sv)(w:World)(e:Ending)(w':World):Prop:= ∃q:Bool,e= .returned (.bool q)/\(q=true↔xs.map Sv.says=ys.map Sv.says)/\Below w.heap.size w w'
theorem zxc {α:Type}{l l':List α}{k:Nat}{x y:α}(h:l.take k=l'.take k)(hx:l[k]? =some x)(hy:l'[k]? =some y)(e:x=y):l.take (k+1)=l'.take (k+1):=by
 obtain⟨h1,rfl⟩:=List.getElem?_eq_some_iff.1 hx
 obtain⟨h2,rfl⟩:=List.getElem?_eq_some_iff.1 hy
 rw [List.take_succ_eq_append_getElem h1,List.take_succ_eq_append_getElem h2,h,e]
theorem ne_at {α:Type}{l l':List α}{k:Nat}{x y:α}(hx:l[k]? =some x)(hy:l'[k]? =some y)(e:x≠y):l≠l':=fun h=>by
 rw [h,hy] at hx
 exact e (Option.some.inj hx).symm
theorem zqo {B:Nat}{w u:World}(h:Below B w u)(n:Nat):Below B w (u.drewN n):=⟨h.os,h.tape,h.output,h.size,h.block⟩
set_option maxRecDepth 100000 in
set_option maxHeartbeats 4000000 in
theorem zy7 (a a':Option Addr)(c c' n m:Nat)(xs ys:List Sv)(w:World)(hE:ShIn w a xs)(hE':ShIn w a' ys)(hn:xs.length=n)(hm:ys.length=m)(hl:n<1000000)(hl2:m<1000000)(hlx: ∀s∈xs,∀l∈s.lv,l.ts.length<=1000000)(hly: ∀s∈ys,∀l∈s.lv,l.ts.length<=1000000):
  Calls Tryz.prog (29) #[.slice a n c, .slice a' m c'] w (ykf xs ys w):=by
 have HE:=zh hE
 have HE':=zh hE'
 have HN:=zh hn
 have HM:=zh hm
 have HLX:=zh hlx
 have HLY:=zh hly
 have qn:=zy6
 have qg:=yjh
 have HB0:=zh (Below.refl w.heap.size w)
 by_cases hnm:n=m
 case neg=>
  have d1:((n:Int)==(m:Int))=false:=beq_eq_false_iff_ne.2 (by omega)
  have d2:(n==m)=false:=beq_eq_false_iff_ne.2 hnm
  have d3:((n:Int)!=(m:Int))=true:=by simp;omega
  have HF:=zh (show xs.map Sv.says≠ys.map Sv.says from fun h=>by
   have:=congrArg List.length h
   rw [List.length_map,List.length_map,hn,hm] at this
   exact hnm this)
  clear hE hE' hn hm hlx hly hnm
  go_enter Tryz.func29,Tryz.ntmps29
  go_wp2_with fail
  go_ret
  unfold ykf
  exact⟨false,rfl,⟨(fun h=>by cases h),fun h=>absurd h HF.out⟩,HB0.out⟩
 subst hnm
 have HNO:=zh (show∀u,Below w.heap.size w u->xs.map Sv.says≠ys.map Sv.says->ykf xs ys w (.returned (.bool false)) u from fun u hu h=>⟨false,rfl,⟨(fun h=>by cases h),fun h2=>absurd h2 h⟩,hu⟩)
 clear hE hE' hn hm hlx hly
 go_enter Tryz.func29,Tryz.ntmps29
 go_wp2_with fail
 go_loopg [5] n (fun gk iv wr=> ∃i:Nat,i+gk=n/\iv= .int .i64 i/\Hid ((xs.map Sv.says).take i=(ys.map Sv.says).take i)/\Hid (Below w.heap.size w wr))
 case atStart=>exact⟨0,by omega,rfl,zh rfl,HB0⟩
 case round=>
  obtain⟨i,hi,rfl,HT,HB⟩:=hrel
  by_cases hlt:i<n
  ·have hix:i<xs.length:=by have:=HN.out;omega
   have hiy:i<ys.length:=by have:=HM.out;omega
   obtain⟨b,o,hsa,hlb,hcx⟩:=HE.out.els.get i hix
   obtain⟨b',o',hsb,hlb',hcy⟩:=HE'.out.els.get i hiy
   have HGX:=zh (show(xs.map Sv.says)[i]? =some xs[i].says from by rw [List.getElem?_map,List.getElem?_eq_getElem hix];rfl)
   have HGY:=zh (show(ys.map Sv.says)[i]? =some ys[i].says from by rw [List.getElem?_map,List.getElem?_eq_getElem hiy];rfl)
   have HOX:=zh (HE.out.ok _ (List.getElem_mem hix))
   have HOY:=zh (HE'.out.ok _ (List.getElem_mem hiy))
   have HLLX:=zh (HLX.out _ (List.getElem_mem hix))
   have HLLY:=zh (HLY.out _ (List.getElem_mem hiy))
   generalize xs[i] =x at hcx HGX HOX HLLX
   generalize ys[i] =y at hcy HGY HOY HLLY
   have HCX:=zh (show∀u,Below w.heap.size w u->u.cell? ⟨b,o+i*4,none⟩=some (.int .u64 x.line)/\u.cell? ⟨b',o'+i*4,none⟩=some (.int .u64 y.line)from fun u hu=>⟨(hu.cell (p:=⟨b,_,none⟩) hlb).trans (hcx 0 _ rfl),(hu.cell (p:=⟨b',_,none⟩) hlb').trans (hcy 0 _ rfl)⟩)
   have HCL:=zh (show∀u k,Below w.heap.size w u->k<3-> ∃lx ly,x.lv[k]? =some lx/\y.lv[k]? =some ly/\u.cell? ⟨b,o+i*4+1+k,none⟩=some (lvV lx)/\u.cell? ⟨b',o'+i*4+1+k,none⟩=some (lvV ly)from fun u k hu hk=>by
    match k,hk with
    |0,_=>exact⟨_,_,rfl,rfl,(hu.cell (p:=⟨b,_,none⟩) hlb).trans (hcx 1 _ rfl),(hu.cell (p:=⟨b',_,none⟩) hlb').trans (hcy 1 _ rfl)⟩
    |1,_=>exact⟨_,_,rfl,rfl,(hu.cell (p:=⟨b,_,none⟩) hlb).trans (hcx 2 _ rfl),(hu.cell (p:=⟨b',_,none⟩) hlb').trans (hcy 2 _ rfl)⟩
    |2,_=>exact⟨_,_,rfl,rfl,(hu.cell (p:=⟨b,_,none⟩) hlb).trans (hcx 3 _ rfl),(hu.cell (p:=⟨b',_,none⟩) hlb').trans (hcy 3 _ rfl)⟩)
   obtain⟨g0,g1⟩:=HCX.out wr HB.out
   have HSA:=zh hsa
   have HSB:=zh hsb
   have i0:(0:Int)<=(i:Int):=by omega
   have i1:(i:Int)<(n:Int):=by omega
   have hw1:IntKind.i64.wrap ((i:Int)+1)=(i:Int)+1:=IntWalk.i64_in _ (by omega)
   clear hcx hcy
   rw [hsa,hsb]
   clear hsa hsb
   by_cases hline:x.line=y.line
   case neg=>
    have d1:(x.line==y.line)=false:=beq_eq_false_iff_ne.2 hline
    have d2:(x.line !=y.line)=true:=by simp [hline]
    have HF:=zh (show xs.map Sv.says≠ys.map Sv.says from ne_at HGX.out HGY.out (fun h=>hline (congrArg Sd.line h)))
    clear hline
    go_upto_region 6 with fail
    go_quiet (fail)
    go_wp2
    go_ret
    exact HNO.out _ (zqo HB.out nq) HF.out
   have d1:(x.line==y.line)=true:=beq_iff_eq.2 hline
   have d2:(x.line !=y.line)=false:=by simp [hline]
   have HLINE:=zh hline
   clear hline
   obtain⟨g9,hg9⟩: ∃g9,g9=gk:=⟨_,rfl⟩
   rw [<-hg9] at hi
   have HG9:=zh hg9
   clear hg9
   go_upto_region 6 with fail
   go_quiet (fail)
   have HB6:=zh (zqo HB.out nq)
   obtain⟨u6,hu6⟩: ∃u,u=wr.drewN nq:=⟨_,rfl⟩
   rw [<-hu6] at HB6 ⊢
   clear hu6 g0 g1 d1 d2
   go_upto_region 9 with fail
   go_loopg [6] 3 (fun gk iv wr=> ∃k:Nat,k+gk=3/\iv= .int .i64 k/\Hid (x.says.lv.take k=y.says.lv.take k)/\Hid (Below w.heap.size w wr))
   case atStart=>exact⟨0,rfl,rfl,zh rfl,HB6⟩
   case round=>
    obtain⟨k,hk,rfl,HTK,HBk⟩:=hrel
    by_cases hltk:k<3
    ·have j0:(0:Int)<=(k:Int):=by omega
     have j1:(k:Int)<3:=by omega
     have hw2:IntKind.i64.wrap ((k:Int)+1)=(k:Int)+1:=IntWalk.i64_in _ (by omega)
     obtain⟨lx,ly,hlx,hly, -, -⟩:=HCL.out wr k HBk.out hltk
     have HLV:=zh (show∀u,Below w.heap.size w u->u.cell? ⟨b,o+i*4+1+k,none⟩=some (lvV lx)/\u.cell? ⟨b',o'+i*4+1+k,none⟩=some (lvV ly)from fun u hu=>by
      obtain⟨lx',ly',h1,h2,h3,h4⟩:=HCL.out u k hu hltk
      rw [hlx] at h1
      rw [hly] at h2
      cases h1
      cases h2
      exact⟨h3,h4⟩)
     have HXS:=zh (show x.says.lv[k]? =some lx.ts from by show(x.lv.map (·.ts))[k]? =_;rw [List.getElem?_map,hlx];rfl)
     have HYS:=zh (show y.says.lv[k]? =some ly.ts from by show(y.lv.map (·.ts))[k]? =_;rw [List.getElem?_map,hly];rfl)
     have HKX:=zh (show LvOk w lx from by
      have hm:=List.mem_of_getElem? hlx
      simp only [Sv.lv,List.mem_cons,List.not_mem_nil,or_false] at hm
      rcases hm with rfl|rfl|rfl
      ·exact HOX.out.l0
      ·exact HOX.out.l1
      ·exact HOX.out.l2)
     have HKY:=zh (show LvOk w ly from by
      have hm:=List.mem_of_getElem? hly
      simp only [Sv.lv,List.mem_cons,List.not_mem_nil,or_false] at hm
      rcases hm with rfl|rfl|rfl
      ·exact HOY.out.l0
      ·exact HOY.out.l1
      ·exact HOY.out.l2)
     obtain⟨nx,hnx⟩: ∃n,n=lx.ts.length:=⟨_,rfl⟩
     obtain⟨ny,hny⟩: ∃n,n=ly.ts.length:=⟨_,rfl⟩
     have hvx:lvV lx= .slice lx.a nx lx.cap:=by rw [hnx]
     have hvy:lvV ly= .slice ly.a ny ly.cap:=by rw [hny]
     rw [hvx,hvy] at HLV
     have hnx1:nx<=1000000:=by rw [hnx];exact HLLX.out lx (List.mem_of_getElem? hlx)
     have hny1:ny<=1000000:=by rw [hny];exact HLLY.out ly (List.mem_of_getElem? hly)
     have HNX:=zh hnx
     have HNY:=zh hny
     have HFS:=zh (show lx.ts≠ly.ts->xs.map Sv.says≠ys.map Sv.says from fun h=>ne_at HGX.out HGY.out (fun h2=>ne_at HXS.out HYS.out h (congrArg Sd.lv h2)))
     obtain⟨c1,c2⟩:=HLV.out wr HBk.out
     clear hlx hly hnx hny hvx hvy
     by_cases hxy:nx=ny
     case neg=>
      have d1:((nx:Int)==(ny:Int))=false:=beq_eq_false_iff_ne.2 (by omega)
      have d2:(nx==ny)=false:=beq_eq_false_iff_ne.2 hxy
      have d3:((nx:Int)!=(ny:Int))=true:=by simp;omega
      have HF:=zh (HFS.out (fun h=>hxy (by rw [HNX.out,HNY.out,h])))
      clear hxy
      go_upto_region 11 with fail
      go_quiet (fail)
      go_wp2
      go_ret
      exact HNO.out _ (zqo HBk.out nq) HF.out
     subst hxy
     obtain⟨g8,hg8⟩: ∃g8,g8=gk:=⟨_,rfl⟩
     rw [<-hg8] at hk
     have HG8:=zh hg8
     clear hg8
     go_upto_region 11 with fail
     go_quiet (fail)
     have HB11:=zh (zqo HBk.out nq)
     obtain⟨u11,hu11⟩: ∃u,u=wr.drewN nq:=⟨_,rfl⟩
     rw [<-hu11] at HB11 ⊢
     clear hu11 c1 c2
     go_upto_region 14 with fail
     go_loopg [7] nx (fun gk iv wr=> ∃j:Nat,j+gk=nx/\iv= .int .i64 j/\Hid (lx.ts.take j=ly.ts.take j)/\Hid (Below w.heap.size w wr))
     case atStart=>exact⟨0,by omega,rfl,zh rfl,HB11⟩
     case round=>
      obtain⟨j,hj,rfl,HTJ,HBj⟩:=hrel
      obtain⟨c1,c2⟩:=HLV.out wr HBj.out
      by_cases hltj:j<nx
      ·have hjx:j<lx.ts.length:=by have:=HNX.out;omega
       have hjy:j<ly.ts.length:=by have:=HNY.out;omega
       obtain⟨tb,tO,hta,htb,htc⟩:=HKX.out.tabs.get j hjx
       obtain⟨tb',tO',hta',htb',htc'⟩:=HKY.out.tabs.get j hjy
       have HTX:=zh (List.getElem?_eq_getElem hjx)
       have HTY:=zh (List.getElem?_eq_getElem hjy)
       generalize lx.ts[j] =t at htc HTX
       generalize ly.ts[j] =t' at htc' HTY
       have a0:=(HBj.out.cell (p:=⟨tb,_,none⟩) htb).trans (htc 0 _ rfl)
       have a1:=(HBj.out.cell (p:=⟨tb,_,none⟩) htb).trans (htc 1 _ rfl)
       have a2:=(HBj.out.cell (p:=⟨tb,_,none⟩) htb).trans (htc 2 _ rfl)
       have a3:=(HBj.out.cell (p:=⟨tb,_,none⟩) htb).trans (htc 3 _ rfl)
       have b0:=(HBj.out.cell (p:=⟨tb',_,none⟩) htb').trans (htc' 0 _ rfl)
       have b1:=(HBj.out.cell (p:=⟨tb',_,none⟩) htb').trans (htc' 1 _ rfl)
       have b2:=(HBj.out.cell (p:=⟨tb',_,none⟩) htb').trans (htc' 2 _ rfl)
       have b3:=(HBj.out.cell (p:=⟨tb',_,none⟩) htb').trans (htc' 3 _ rfl)
       simp only [Nat.add_zero] at a0 b0
       have l0:(0:Int)<=(j:Int):=by omega
       have l1:(j:Int)<(nx:Int):=by omega
       have hw3:IntKind.i64.wrap ((j:Int)+1)=(j:Int)+1:=IntWalk.i64_in _ (by omega)
       rw [hta] at c1
       rw [hta'] at c2
       clear htc htc'
       by_cases hq:t.file=t'.file/\t.bytes=t'.bytes/\t.low=t'.low/\t.high=t'.high
       ·have dq:decide (t.file=t'.file/\t.bytes=t'.bytes/\t.low=t'.low/\t.high=t'.high)=true:=decide_eq_true hq
        have HTJ2:=zh (show lx.ts.take (j+1)=ly.ts.take (j+1)from zxc HTJ.out HTX.out HTY.out (by
         obtain⟨h1,h2,h3,h4⟩:=hq
         cases t
         cases t'
         simp only at h1 h2 h3 h4
         rw [h1,h2,h3,h4]))
        clear hq
        go_upto_region 16 with fail
        go_quiet (fail)
        have HBn:=zh (zqo HBj.out nq)
        go_wp2
        go_roundg(gk - 1)
        case measure=>omega
        case rel=>exact⟨j+1,by omega,by go_num,HTJ2,HBn⟩
       ·have dq:decide (t.file=t'.file/\t.bytes=t'.bytes/\t.low=t'.low/\t.high=t'.high)=false:=decide_eq_false hq
        have HF:=zh (HFS.out (ne_at HTX.out HTY.out (fun h=>hq (by rw [h];exact⟨rfl,rfl,rfl,rfl⟩))))
        clear hq
        go_upto_region 16 with fail
        go_quiet (fail)
        go_wp2
        go_ret
        exact HNO.out _ (zqo HBj.out nq) HF.out
      ·have l1: ¬(j:Int)<(nx:Int):=by omega
       have HTK2:=zh (show x.says.lv.take (k+1)=y.says.lv.take (k+1)from zxc HTK.out HXS.out HYS.out (by
        have:=HTJ.out
        rwa [List.take_of_length_le (by have:=HNX.out;omega),List.take_of_length_le (by have:=HNY.out;omega)] at this))
       clear hltj hj
       go_wp2_with fail
       go_roundg(g8 - 1)
       case measure=>have:=HG8.out;omega
       case rel=>exact⟨k+1,by omega,by go_num,HTK2,HBj⟩
    ·have j1: ¬(k:Int)<3:=by omega
     have HT2:=zh (show(xs.map Sv.says).take (i+1)=(ys.map Sv.says).take (i+1)from zxc HT.out HGX.out HGY.out (by
      have h1:=HTK.out
      have e1:x.says.lv.length=3:=rfl
      have e2:y.says.lv.length=3:=rfl
      rw [List.take_of_length_le (by omega),List.take_of_length_le (by omega)] at h1
      have h2:x.says.line=y.says.line:=HLINE.out
      generalize x.says=p at h1 h2
      generalize y.says=q at h1 h2
      cases p
      cases q
      simp only at h1 h2
      rw [h1,h2]))
     clear hltk hk
     go_wp2_with fail
     rw [<-HSA.out,<-HSB.out]
     go_roundg(g9 - 1)
     case measure=>have:=HG9.out;omega
     case rel=>exact⟨i+1,by omega,by go_num,HT2,HBk⟩
  ·have i1: ¬(i:Int)<(n:Int):=by omega
   have HF:=zh (show ykf xs ys w (.returned (.bool true)) wr from⟨true,rfl,⟨fun _=>by
    have:=HT.out
    rwa [List.take_of_length_le (by rw [List.length_map];have:=HN.out;omega),List.take_of_length_le (by rw [List.length_map];have:=HM.out;omega)] at this,fun _=>rfl⟩,HB.out⟩)
   go_wp2_with fail
   go_ret
   exact HF.out
end Go.Proofs.YtchcelodeepjdaaGreatDoor.Ln

namespace Go.Proofs.YtchcelodeepjdaaGreatDoor.Ln
open Go.RowKit Go.Shelf Go.Herb

theorem zkl {w u:World}(h: ∃m,u=w.drewN m):Below w.heap.size w u:=by
 obtain⟨m,rfl⟩:=h
 exact zqo zb m
theorem zvj {w u:World}(h: ∃m,u=w.drewN m)(n:Nat): ∃m,u.drewN n=w.drewN m:=by
 obtain⟨m,rfl⟩:=h
 exact⟨m+n,by rw [World.drewN_drewN]⟩
def zv9 (xs ys:List Tb)(w:World)(e:Ending)(w':World):Prop:= ∃q:Bool,e= .returned (.bool q)/\(q=true↔xs=ys)/\ ∃m,w'=w.drewN m
set_option maxRecDepth 100000 in
set_option maxHeartbeats 2000000 in
theorem ywm (a a':Option Addr)(c c' n m:Nat)(xs ys:List Tb)(w:World)(hE:Els tbc 4 w a xs)(hE':Els tbc 4 w a' ys)(hn:xs.length=n)(hm:ys.length=m)(hl:n<=1000000)(hl2:m<=1000000):
  Calls Tryz.prog (81) #[.slice a n c, .slice a' m c'] w (zv9 xs ys w):=by
 have HE:=zh hE
 have HE':=zh hE'
 have HN:=zh hn
 have HM:=zh hm
 have qn:=zy6
 have qg:=yjh
 have HB0:=zh (show∃m,w=w.drewN m from⟨0,rfl⟩)
 by_cases hnm:n=m
 case neg=>
  have d1:((n:Int)==(m:Int))=false:=beq_eq_false_iff_ne.2 (by omega)
  have d2:(n==m)=false:=beq_eq_false_iff_ne.2 hnm
  have d3:((n:Int)!=(m:Int))=true:=by simp;omega
  have HF:=zh (show xs≠ys from fun h=>by
   rw [h] at hn
   exact hnm (hn.symm.trans hm))
  clear hE hE' hn hm hnm
  go_enter Tryz.func81,Tryz.ntmps81
  go_wp2_with fail
  go_ret
  unfold zv9
  exact⟨false,rfl,⟨(fun h=>by cases h),fun h=>absurd h HF.out⟩,HB0.out⟩
 subst hnm
 have HNO:=zh (show∀u,(∃m,u=w.drewN m)->xs≠ys->zv9 xs ys w (.returned (.bool false)) u from fun u hu h=>⟨false,rfl,⟨(fun h=>by cases h),fun h2=>absurd h2 h⟩,hu⟩)
 clear hE hE' hn hm
 go_enter Tryz.func81,Tryz.ntmps81
 go_wp2_with fail
 go_loopg [13] n (fun gk iv wr=> ∃j:Nat,j+gk=n/\iv= .int .i64 j/\Hid (xs.take j=ys.take j)/\Hid (∃m,wr=w.drewN m))
 case atStart=>exact⟨0,by omega,rfl,zh rfl,HB0⟩
 case round=>
  obtain⟨j,hj,rfl,HTJ,HBj⟩:=hrel
  by_cases hltj:j<n
  ·have hjx:j<xs.length:=by have:=HN.out;omega
   have hjy:j<ys.length:=by have:=HM.out;omega
   obtain⟨tb,tO,hta,htb,htc⟩:=HE.out.get j hjx
   obtain⟨tb',tO',hta',htb',htc'⟩:=HE'.out.get j hjy
   have HTX:=zh (List.getElem?_eq_getElem hjx)
   have HTY:=zh (List.getElem?_eq_getElem hjy)
   generalize xs[j] =t at htc HTX
   generalize ys[j] =t' at htc' HTY
   have hbw:=zkl HBj.out
   have a0:=(hbw.cell (p:=⟨tb,_,none⟩) htb).trans (htc 0 _ rfl)
   have a1:=(hbw.cell (p:=⟨tb,_,none⟩) htb).trans (htc 1 _ rfl)
   have a2:=(hbw.cell (p:=⟨tb,_,none⟩) htb).trans (htc 2 _ rfl)
   have a3:=(hbw.cell (p:=⟨tb,_,none⟩) htb).trans (htc 3 _ rfl)
   have b0:=(hbw.cell (p:=⟨tb',_,none⟩) htb').trans (htc' 0 _ rfl)
   have b1:=(hbw.cell (p:=⟨tb',_,none⟩) htb').trans (htc' 1 _ rfl)
   have b2:=(hbw.cell (p:=⟨tb',_,none⟩) htb').trans (htc' 2 _ rfl)
   have b3:=(hbw.cell (p:=⟨tb',_,none⟩) htb').trans (htc' 3 _ rfl)
   simp only [Nat.add_zero] at a0 b0
   have HTA:=zh hta
   have HTB:=zh hta'
   have l0:(0:Int)<=(j:Int):=by omega
   have l1:(j:Int)<(n:Int):=by omega
   have hw3:IntKind.i64.wrap ((j:Int)+1)=(j:Int)+1:=IntWalk.i64_in _ (by omega)
   rw [hta,hta']
   clear htc htc' hta hta' hbw
   by_cases hq:t.file=t'.file/\t.bytes=t'.bytes/\t.low=t'.low/\t.high=t'.high
   ·have dq:decide (t.file=t'.file/\t.bytes=t'.bytes/\t.low=t'.low/\t.high=t'.high)=true:=decide_eq_true hq
    have HTJ2:=zh (show xs.take (j+1)=ys.take (j+1)from zxc HTJ.out HTX.out HTY.out (by
     obtain⟨h1,h2,h3,h4⟩:=hq
     cases t
     cases t'
     simp only at h1 h2 h3 h4
     rw [h1,h2,h3,h4]))
    clear hq
    go_upto_region 6 with fail
    go_quiet (fail)
    have HBn:=zh (zvj HBj.out nq)
    go_wp2
    rw [<-HTA.out,<-HTB.out]
    go_roundg(gk - 1)
    case measure=>omega
    case rel=>exact⟨j+1,by omega,by go_num,HTJ2,HBn⟩
   ·have dq:decide (t.file=t'.file/\t.bytes=t'.bytes/\t.low=t'.low/\t.high=t'.high)=false:=decide_eq_false hq
    have HF:=zh (ne_at HTX.out HTY.out (fun h=>hq (by rw [h];exact⟨rfl,rfl,rfl,rfl⟩)))
    clear hq
    go_upto_region 6 with fail
    go_quiet (fail)
    go_wp2
    go_ret
    exact HNO.out _ (zvj HBj.out nq) HF.out
  ·have l1: ¬(j:Int)<(n:Int):=by omega
   have HF:=zh (show zv9 xs ys w (.returned (.bool true)) wr from⟨true,rfl,⟨fun _=>by
    have:=HTJ.out
    rwa [List.take_of_length_le (by have:=HN.out;omega),List.take_of_length_le (by have:=HM.out;omega)] at this,fun _=>rfl⟩,HBj.out⟩)
   go_wp2_with fail
   go_ret
   exact HF.out
def yqe (s t:Sv)(w:World)(e:Ending)(w':World):Prop:= ∃q:Bool,e= .returned (.bool q)/\(q=true↔s.says.lv=t.says.lv)/\Below w.heap.size w w'
theorem Sv.lvl {w:World}{s:Sv}(h:SvOk w s){k:Nat}{l:Lv}(hl:s.lv[k]? =some l):LvOk w l:=by
 have hm:=List.mem_of_getElem? hl
 simp only [Sv.lv,List.mem_cons,List.not_mem_nil,or_false] at hm
 rcases hm with rfl|rfl|rfl
 ·exact h.l0
 ·exact h.l1
 ·exact h.l2
set_option maxRecDepth 100000 in
set_option maxHeartbeats 2000000 in
theorem same_any (s t:Sv)(w:World)(hs:SvOk w s)(ht:SvOk w t)(hl: ∀l∈s.lv,l.ts.length<=1000000)(hl2: ∀l∈t.lv,l.ts.length<=1000000):
  Calls Tryz.prog (45) #[shV s,shV t] w (yqe s t w):=by
 have HS:=zh hs
 have HT:=zh ht
 have HL:=zh hl
 have HL2:=zh hl2
 obtain⟨V,hV⟩: ∃V:World,V=w.alloc (.cells #[.int .u64 s.line,lvV s.l0,lvV s.l1,lvV s.l2] (57)):=⟨_,rfl⟩
 have hVs:V.heap.size=w.heap.size+1:=by rw [hV];simp
 have hbV:Below w.heap.size w V:=by rw [hV];exact zb.alloc zr _
 have hx1:V.heap[w.heap.size]? =some (.cells #[.int .u64 s.line,lvV s.l0,lvV s.l1,lvV s.l2] (57) (0,0)):=by rw [hV];exact zq3 rfl _
 obtain⟨W,hW⟩: ∃W:World,W=V.alloc (.cells #[.int .u64 t.line,lvV t.l0,lvV t.l1,lvV t.l2] (57)):=⟨_,rfl⟩
 have hbW:Below V.heap.size V W:=by rw [hW];exact zb.alloc zr _
 have hx2:W.heap[w.heap.size]? =some (.cells #[.int .u64 s.line,lvV s.l0,lvV s.l1,lvV s.l2] (57) (0,0)):=zq4 hx1 hbW (zq2 hx1)
 have hy2:W.heap[w.heap.size+1]? =some (.cells #[.int .u64 t.line,lvV t.l0,lvV t.l1,lvV t.l2] (57) (0,0)):=by rw [hW,<-hVs];exact zq3 rfl _
 have HBW:=zh (hbV.trans (hbW.mono hbV.size))
 have hc1:=zq0 hx2
 have hc2:=zq0 hy2
 have HCL:=zh (show∀k,k<3-> ∃lx ly,s.lv[k]? =some lx/\t.lv[k]? =some ly/\W.cell? ⟨w.heap.size,1+k,none⟩=some (lvV lx)/\W.cell? ⟨w.heap.size+1,1+k,none⟩=some (lvV ly)from fun k hk=>by
  match k,hk with
  |0,_=>exact⟨_,_,rfl,rfl,by simpa using hc1 1,by simpa using hc2 1⟩
  |1,_=>exact⟨_,_,rfl,rfl,by simpa using hc1 2,by simpa using hc2 2⟩
  |2,_=>exact⟨_,_,rfl,rfl,by simpa using hc1 3,by simpa using hc2 3⟩)
 have HNO:=zh (show∀u,(∃m,u=W.drewN m)->s.says.lv≠t.says.lv->yqe s t w (.returned (.bool false)) u from fun u hu h=>⟨false,rfl,⟨(fun h=>by cases h),fun h2=>absurd h2 h⟩,HBW.out.trans ((zkl hu).mono HBW.out.size)⟩)
 have HYES:=zh (show∀u,(∃m,u=W.drewN m)->s.says.lv=t.says.lv->yqe s t w (.returned (.bool true)) u from fun u hu h=>⟨true,rfl,⟨fun _=>h,fun _=>rfl⟩,HBW.out.trans ((zkl hu).mono HBW.out.size)⟩)
 have HW:=zh hW
 have HV:=zh hV
 have HB0:=zh (show∃m,W=W.drewN m from⟨0,rfl⟩)
 clear hs ht hl hl2 hV hVs hbV hx1 hbW hx2 hy2 hc1 hc2 hW
 go_enter Tryz.func45,Tryz.ntmps45
 go_upto_region 2 with fail
 rw [<-HV.out,<-HW.out]
 go_loopg [6] 3 (fun gk iv wr=> ∃k:Nat,k+gk=3/\iv= .int .i64 k/\Hid (s.says.lv.take k=t.says.lv.take k)/\Hid (∃m,wr=W.drewN m))
 case atStart=>exact⟨0,rfl,rfl,zh rfl,HB0⟩
 case round=>
  obtain⟨k,hk,rfl,HTK,HBk⟩:=hrel
  by_cases hltk:k<3
  ·have j0:(0:Int)<=(k:Int):=by omega
   have j1:(k:Int)<3:=by omega
   have hw2:IntKind.i64.wrap ((k:Int)+1)=(k:Int)+1:=IntWalk.i64_in _ (by omega)
   obtain⟨lx,ly,hlx,hly,hc1,hc2⟩:=HCL.out k hltk
   have hbw:=zkl HBk.out
   have HXS:=zh (show s.says.lv[k]? =some lx.ts from by show(s.lv.map (·.ts))[k]? =_;rw [List.getElem?_map,hlx];rfl)
   have HYS:=zh (show t.says.lv[k]? =some ly.ts from by show(t.lv.map (·.ts))[k]? =_;rw [List.getElem?_map,hly];rfl)
   have hkx:=(Sv.lvl HS.out hlx).ext HBW.out
   have hky:=(Sv.lvl HT.out hly).ext HBW.out
   have hnx1:=HL.out lx (List.mem_of_getElem? hlx)
   have hny1:=HL2.out ly (List.mem_of_getElem? hly)
   obtain⟨nx,hnx⟩: ∃n,n=lx.ts.length:=⟨_,rfl⟩
   obtain⟨ny,hny⟩: ∃n,n=ly.ts.length:=⟨_,rfl⟩
   have hvx:lvV lx= .slice lx.a nx lx.cap:=by rw [hnx]
   have hvy:lvV ly= .slice ly.a ny ly.cap:=by rw [hny]
   have HEQ:=zh (show∀m,Calls Tryz.prog (81) #[.slice lx.a nx lx.cap, .slice ly.a ny ly.cap] (wr.drewN m) (zv9 lx.ts ly.ts (wr.drewN m))from fun m=>by
    have hb2:=zkl (zvj HBk.out m)
    exact ywm lx.a ly.a lx.cap ly.cap nx ny lx.ts ly.ts (wr.drewN m) (hkx.ext hb2).tabs (hky.ext hb2).tabs hnx.symm hny.symm (by omega) (by omega))
   have c1:=(hbw.cell (p:=⟨w.heap.size,1+k,none⟩) (by have:=HBW.out.size;have:=lt_of_cell hc1;exact this)).trans hc1
   have c2:=(hbw.cell (p:=⟨w.heap.size+1,1+k,none⟩) (by have:=lt_of_cell hc2;exact this)).trans hc2
   rw [hvx] at c1
   rw [hvy] at c2
   clear hlx hly hnx hny hvx hvy hkx hky hbw hc1 hc2
   by_cases hq:lx.ts=ly.ts
   ·have HE2:=zh (show∀m,Calls Tryz.prog (81) #[.slice lx.a nx lx.cap, .slice ly.a ny ly.cap] (wr.drewN m) (fun e w'=>e= .returned (.bool true)/\ ∃n,w'=(wr.drewN m).drewN n)from fun m=>(HEQ.out m).mono (by
     rintro e w' ⟨q,rfl,hq2,hm⟩
     rw [hq2.2 hq]
     exact⟨rfl,hm⟩))
    have HT2:=zh (show s.says.lv.take (k+1)=t.says.lv.take (k+1)from zxc HTK.out HXS.out HYS.out hq)
    clear hq
    go_upto_region 4 with fail
    go_quiet ((go_at_call 81;exact Calls.quiet_of (HE2.out _)))
    have HBn:=zh (zvj HBk.out nq)
    go_wp2
    go_roundg(gk - 1)
    case measure=>omega
    case rel=>exact⟨k+1,by omega,by go_num,HT2,HBn⟩
   ·have HE2:=zh (show∀m,Calls Tryz.prog (81) #[.slice lx.a nx lx.cap, .slice ly.a ny ly.cap] (wr.drewN m) (fun e w'=>e= .returned (.bool false)/\ ∃n,w'=(wr.drewN m).drewN n)from fun m=>(HEQ.out m).mono (by
     rintro e w' ⟨q,rfl,hq2,hm⟩
     cases q with
     |true=>exact absurd (hq2.1 rfl) hq
     |false=>exact⟨rfl,hm⟩))
    have HF:=zh (ne_at HXS.out HYS.out hq)
    clear hq
    go_upto_region 4 with fail
    go_quiet ((go_at_call 81;exact Calls.quiet_of (HE2.out _)))
    go_wp2
    go_ret
    exact HNO.out _ (zvj HBk.out nq) HF.out
  ·have j1: ¬(k:Int)<3:=by omega
   have HF:=zh (HYES.out _ HBk.out (by
    have h1:=HTK.out
    have e1:s.says.lv.length=3:=rfl
    have e2:t.says.lv.length=3:=rfl
    rwa [List.take_of_length_le (by omega),List.take_of_length_le (by omega)] at h1))
   clear hltk hk
   go_wp2_with fail
   go_ret
   exact HF.out
end Go.Proofs.YtchcelodeepjdaaGreatDoor.Ln
