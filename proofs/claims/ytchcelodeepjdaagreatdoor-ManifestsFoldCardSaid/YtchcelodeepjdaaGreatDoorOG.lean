/- Lemmas and walks towards ManifestsFold. Conditions: each one tells its own. -/
import Derived.Test.YtchcelodeepjdaaGreatDoorMp
import Derived.Test.YtchcelodeepjdaaGreatDoorO4
import Derived.Test.YtchcelodeepjdaaGreatDoorShp
import Derived.Laws.Bits64b
import Derived.Test.YtchcelodeepjdaaGreatDoorO5
import Derived.RangeFuncNested
import Derived.RangeFuncBound
import Derived.RangeFuncCalls
import Derived.RangeFuncLeaves
import Derived.RangeFuncBox
import Derived.RangeFuncWrites
import Derived.Shelf.Abstract
import Derived.Shelf.RegionOpen
import Derived.OwnWalkIn
import Derived.TacticsInMore
import Derived.LoopNIn
import Derived.LoopIn
import Derived.Sort.LoopGhostIn
import Derived.Laws.OwnMore
import Derived.Shelf.SlMaps.Clone
import Derived.Maps.Range
namespace Go.Proofs.YtchcelodeepjdaaGreatDoor.Vx
open Go.RowKit Go.Herb Go.Shelf Go.Sort Go.Lib

theorem yxt {a b:World}{row:Option Nat}{n:Nat}(h:a.grownBy b row)(hn:a.heap.size<=n)(v:Value):a.grownBy (b.setCell ⟨n,0,none⟩ v) row:=
 ⟨h.os,h.tape,h.output,by simpa using h.size,fun i hi hr=>(Below.heap_setCell b ⟨n,0,none⟩ v i (by show i≠n;omega)).trans (h.block i hi hr)⟩

structure RndSt (g cap rb r:Nat)(w wr:World)(ys:List Int):Prop where
 row:RowU wr g cap ys
 rnd:wr.heap[rb]? =some (.cells #[.int .u64 r] (206) (0,0))
 lt:r<18446744073709551616
 grown:w.grownBy wr (some g)
 ne:rb≠g
 new:w.heap.size<=rb
theorem RndSt.swap {g cap rb r:Nat}{w wr:World}{ys:List Int}(h:RndSt g cap rb r w wr ys)(i j:Nat):RndSt g cap rb r w ((wr.setCell ⟨g,i,none⟩ (.int .u64 (at_ ys j))).setCell ⟨g,j,none⟩ (.int .u64 (at_ ys i))).drew (swq ys i j):=
 ⟨zy3 (zy4 h.row i j),blk_setCell_other (a:=⟨g,j,none⟩) (blk_setCell_other (a:=⟨g,i,none⟩) h.rnd h.ne _) h.ne _,h.lt,zw8 (zz4 (zz4 h.grown _ _) _ _),h.ne,h.new⟩
theorem RndSt.next {g cap rb r:Nat}{w wr:World}{ys:List Int}(h:RndSt g cap rb r w wr ys)(r' n:Nat)(hr:r'<18446744073709551616):RndSt g cap rb r' w ((wr.setCell ⟨rb,0,none⟩ (.int .u64 r')).drewN n) ys:=
 ⟨zzl (h.row.same (Below.heap_setCell wr ⟨rb,0,none⟩ _ g (fun e=>h.ne e.symm))) n,by have:=zq7 (j:=0) h.rnd (.int .u64 r');simpa using this,hr,zxy (yxt h.grown h.new _) n,h.ne,h.new⟩

set_option maxRecDepth 100000 in
set_option maxHeartbeats 4000000 in
theorem zw4 (g cap a b N:Nat)(xs:List Int)(hN:xs.length=N)(hb:b<=N)(hab:a+12<b)(w:World)(h:RowU w g cap xs)(hl:N<1000000):
  Calls Tryz.prog (119) #[.slice (some ⟨g,0,none⟩) N cap, .int .i64 a, .int .i64 b] w (zqd a b (fun _=>True) g cap xs w):=by
 obtain⟨n,hn⟩: ∃n,n=b - a:=⟨_,rfl⟩
 obtain⟨k0,hk0⟩: ∃k0,k0=a+n / 4*2 - 1:=⟨_,rfl⟩
 have en:(b:Int) - (a:Int)=(n:Int):=by omega
 have ek:(a:Int)+(n:Int)/ 4*2 - 1=(k0:Int):=by omega
 have ek2:(a:Int)+(n:Int)/ 4*2+1=(k0:Int)+2:=by omega
 have hn8:(8:Int)<=(n:Int):=by omega
 have hk:a<=k0/\k0+3<=a+n:=by omega
 have hanN:a+n<=N:=by omega
 have HB:=zh (show a+n=b by omega)
 have hgl:=h.lt
 have HN:=zh hN
 have HST0:Hid (RndSt g cap w.heap.size n w (w.alloc (.cells #[.int .u64 n] (206))) xs):=zh ⟨h.below (zb.alloc zr _),zq3 rfl _,by omega,yjf (zqp _ _) _,by omega,zr⟩
 have hNP: ∀u,Calls Tryz.prog (146) #[.int .i64 n] u fun e w'=>e= .returned (.int .u64 ((1<<<bitsLen n:Nat):Int))/\w'=u:=fun u=>AnyF.nextPowerOfTwo (P:=Tryz.prog) (ρ:=Tryz.sortPoint_ren) {Tryz.sortPoint with } n (by omega) u
 obtain⟨M,hM⟩: ∃M:Nat,M=1<<<bitsLen n:=⟨_,rfl⟩
 have hM1:n<M:=by rw [hM,Nat.one_shiftLeft];exact lt_two_pow_bitsLen n
 have hM2:M<=2*n:=by rw [hM,Nat.one_shiftLeft];exact two_pow_bitsLen_le (by omega)
 have ww:IntKind.u64.wrap (n:Int)=(n:Int):=by rw [IntKind.wrap_u64];omega
 rw [<-hM] at hNP
 clear hM h hN hn hk0 hab hb
 go_enter Tryz.func119,Tryz.ntmps119
 go_wp2_with(first|(go_at_call 146;refine(hNP _).mono ?_;rintro e w' ⟨rfl,rfl⟩))
 clear en ek ww hNP
 go_loopg [9] 3 (fun gk iv wr=> ∃(t r:Nat) (ys:List Int),t+gk=3/\t<=3/\iv= .int .i64 ((k0:Int)+(t:Int))/\Hid (InR a (a+n) xs ys)/\RndSt g cap w.heap.size r w wr ys)
 case atStart=>exact⟨0,n,xs,rfl,by omega,by simp,zh (InR.refl _ _ _),HST0.out⟩
 case round=>
  obtain⟨t,r,ys,ht,ht3,rfl,HI,hst⟩:=hrel
  have HST:=zh hst
  have HYL:=zh (show ys.length=N from by rw [HI.out.len];exact HN.out)
  clear hst HST0
  by_cases htt:t<3
  ·have hle:(k0:Int)+(t:Int)<=(k0:Int)+2:=by omega
   obtain⟨R',hR'⟩: ∃R':Nat,R'=xorNextN r:=⟨_,rfl⟩
   have lR':R'<18446744073709551616:=by rw [hR'];exact xorNextN_lt r HST.out.lt
   have hNext:Calls Tryz.prog (147) #[.pointer (some ⟨w.heap.size,0,none⟩)] wr fun e w'=>e= .returned (.int .u64 (R':Int))/\w'=(wr.setCell ⟨w.heap.size,0,none⟩ (.int .u64 (R':Int))).drewN 3:=by
    rw [hR'];exact AnyF.xorshift_Next (P:=Tryz.prog) (ρ:=Tryz.sortPoint_ren) {Tryz.sortPoint with } _ _ r HST.out.lt wr (by rw [zq0 HST.out.rnd];rfl) (zq1 HST.out.rnd _)
   have HST2:=zh (HST.out.next R' 3 lR')
   generalize (wr.setCell ⟨w.heap.size,0,none⟩ (.int .u64 (R':Int))).drewN 3=w2 at hNext HST2
   obtain⟨O,hO⟩: ∃O:Nat,O=R'&&&(M - 1):=⟨_,rfl⟩
   have lO:O<=M - 1:=by rw [hO];exact Nat.and_le_right
   have eAnd:bits .and .u64 (R':Int) ((M:Int) - 1)=(O:Int):=by
    rw [show((M:Int) - 1)=((M - 1:Nat):Int)by omega,bits_and_u64_nat _ _ lR' (by omega),hO]
   clear HST hO hR'
   by_cases hLO:n<=O
   ·have hLOz:(n:Int)<=(O:Int):=by omega
    obtain⟨o2,ho2⟩: ∃o2:Nat,o2=O - n:=⟨_,rfl⟩
    have eo2:(O:Int) - (n:Int)=(o2:Int):=by omega
    have lo2:o2<n:=by omega
    clear ho2
    go_wp2_with(first|(go_at_call 147;refine hNext.mono ?_;rintro e w' ⟨rfl,hw'⟩;obtain rfl:w2=w':=hw'.symm))
    clear eo2 hLOz hLO eAnd hle hNext
    by_cases hpq:k0+t=a+o2
    ·have c0:=zq5 HST2.out.row (k0+t) (by have:=HYL.out;omega)
     have f0:=HST2.out.row.frozen (k0+t)
     have r0:(k0:Int)+(t:Int)<(N:Int):=by omega
     have p0:(0:Int)<=(k0:Int)+(t:Int):=by omega
     have q0:((k0:Int)+(t:Int)).toNat=k0+t:=by omega
     have w1:IntKind.i64.wrap ((a:Int)+(o2:Int))=(a:Int)+(o2:Int):=IntWalk.i64_in _ (by omega)
     have w0:IntKind.i64.wrap ((k0:Int)+(t:Int))=(k0:Int)+(t:Int):=IntWalk.i64_in _ (by omega)
     have p1:(0:Int)<=(a:Int)+(o2:Int):=by omega
     have q1:((a:Int)+(o2:Int)).toNat=k0+t:=by omega
     have r1:(a:Int)+(o2:Int)<(N:Int):=by omega
     have HST3:=zh (HST2.out.swap (k0+t) (k0+t))
     have HI3:=zh (HI.out.trans (InR.swq (a:=a) (b:=a+n) (xs:=ys) (i:=k0+t) (j:=k0+t) (by have:=HYL.out;omega) (by omega) (by omega) (by omega) (by omega)))
     clear hpq
     go_wp2_with fail
     go_region
     clear c0 f0 r0 p0 q0 w0 w1 p1 q1 r1 HST2
     go_wp2
     go_roundg(gk - 1)
     case measure=>omega
     case rel=>exact⟨t+1,R',swq ys (k0+t) (k0+t),by omega,by omega,by go_num,HI3,HST3.out⟩
    ·have c0:=zq5 HST2.out.row (k0+t) (by have:=HYL.out;omega)
     have f0:=HST2.out.row.frozen (k0+t)
     have r0:(k0:Int)+(t:Int)<(N:Int):=by omega
     have p0:(0:Int)<=(k0:Int)+(t:Int):=by omega
     have q0:((k0:Int)+(t:Int)).toNat=k0+t:=by omega
     have d0:=zq5 HST2.out.row (a+o2) (by have:=HYL.out;omega)
     have g0:=HST2.out.row.frozen (a+o2)
     have hne: ¬k0+t=a+o2:=hpq
     have w1:IntKind.i64.wrap ((a:Int)+(o2:Int))=(a:Int)+(o2:Int):=IntWalk.i64_in _ (by omega)
     have w0:IntKind.i64.wrap ((k0:Int)+(t:Int))=(k0:Int)+(t:Int):=IntWalk.i64_in _ (by omega)
     have p1:(0:Int)<=(a:Int)+(o2:Int):=by omega
     have q1:((a:Int)+(o2:Int)).toNat=a+o2:=by omega
     have r1:(a:Int)+(o2:Int)<(N:Int):=by omega
     have HST3:=zh (HST2.out.swap (k0+t) (a+o2))
     have HI3:=zh (HI.out.trans (InR.swq (a:=a) (b:=a+n) (xs:=ys) (i:=k0+t) (j:=a+o2) (by have:=HYL.out;omega) (by omega) (by omega) (by omega) (by omega)))
     clear hpq
     go_wp2_with fail
     go_region
     clear c0 f0 r0 p0 q0 w0 w1 p1 q1 r1 HST2 d0 g0 hne
     go_wp2
     go_roundg(gk - 1)
     case measure=>omega
     case rel=>exact⟨t+1,R',swq ys (k0+t) (a+o2),by omega,by omega,by go_num,HI3,HST3.out⟩
   ·have hLOz: ¬(n:Int)<=(O:Int):=by omega
    have lo2:O<n:=by omega
    go_wp2_with(first|(go_at_call 147;refine hNext.mono ?_;rintro e w' ⟨rfl,hw'⟩;obtain rfl:w2=w':=hw'.symm))
    clear hLOz hLO eAnd hle hNext
    by_cases hpq:k0+t=a+O
    ·have c0:=zq5 HST2.out.row (k0+t) (by have:=HYL.out;omega)
     have f0:=HST2.out.row.frozen (k0+t)
     have r0:(k0:Int)+(t:Int)<(N:Int):=by omega
     have p0:(0:Int)<=(k0:Int)+(t:Int):=by omega
     have q0:((k0:Int)+(t:Int)).toNat=k0+t:=by omega
     have w1:IntKind.i64.wrap ((a:Int)+(O:Int))=(a:Int)+(O:Int):=IntWalk.i64_in _ (by omega)
     have w0:IntKind.i64.wrap ((k0:Int)+(t:Int))=(k0:Int)+(t:Int):=IntWalk.i64_in _ (by omega)
     have p1:(0:Int)<=(a:Int)+(O:Int):=by omega
     have q1:((a:Int)+(O:Int)).toNat=k0+t:=by omega
     have r1:(a:Int)+(O:Int)<(N:Int):=by omega
     have HST3:=zh (HST2.out.swap (k0+t) (k0+t))
     have HI3:=zh (HI.out.trans (InR.swq (a:=a) (b:=a+n) (xs:=ys) (i:=k0+t) (j:=k0+t) (by have:=HYL.out;omega) (by omega) (by omega) (by omega) (by omega)))
     clear hpq
     go_wp2_with fail
     go_region
     clear c0 f0 r0 p0 q0 w0 w1 p1 q1 r1 HST2
     go_wp2
     go_roundg(gk - 1)
     case measure=>omega
     case rel=>exact⟨t+1,R',swq ys (k0+t) (k0+t),by omega,by omega,by go_num,HI3,HST3.out⟩
    ·have c0:=zq5 HST2.out.row (k0+t) (by have:=HYL.out;omega)
     have f0:=HST2.out.row.frozen (k0+t)
     have r0:(k0:Int)+(t:Int)<(N:Int):=by omega
     have p0:(0:Int)<=(k0:Int)+(t:Int):=by omega
     have q0:((k0:Int)+(t:Int)).toNat=k0+t:=by omega
     have d0:=zq5 HST2.out.row (a+O) (by have:=HYL.out;omega)
     have g0:=HST2.out.row.frozen (a+O)
     have hne: ¬k0+t=a+O:=hpq
     have w1:IntKind.i64.wrap ((a:Int)+(O:Int))=(a:Int)+(O:Int):=IntWalk.i64_in _ (by omega)
     have w0:IntKind.i64.wrap ((k0:Int)+(t:Int))=(k0:Int)+(t:Int):=IntWalk.i64_in _ (by omega)
     have p1:(0:Int)<=(a:Int)+(O:Int):=by omega
     have q1:((a:Int)+(O:Int)).toNat=a+O:=by omega
     have r1:(a:Int)+(O:Int)<(N:Int):=by omega
     have HST3:=zh (HST2.out.swap (k0+t) (a+O))
     have HI3:=zh (HI.out.trans (InR.swq (a:=a) (b:=a+n) (xs:=ys) (i:=k0+t) (j:=a+O) (by have:=HYL.out;omega) (by omega) (by omega) (by omega) (by omega)))
     clear hpq
     go_wp2_with fail
     go_region
     clear c0 f0 r0 p0 q0 w0 w1 p1 q1 r1 HST2 d0 g0 hne
     go_wp2
     go_roundg(gk - 1)
     case measure=>omega
     case rel=>exact⟨t+1,R',swq ys (k0+t) (a+O),by omega,by omega,by go_num,HI3,HST3.out⟩
  ·have hle: ¬(k0:Int)+(t:Int)<=(k0:Int)+2:=by omega
   go_wp2_with fail
   go_end0
   exact⟨rfl,ys,by rw [<-HB.out];exact HI.out,trivial,HST.out.row,HST.out.grown⟩
end Go.Proofs.YtchcelodeepjdaaGreatDoor.Vx

namespace Go.Proofs.YtchcelodeepjdaaGreatDoor.Vx
open Go.RowKit Go.Herb Go.Shelf Go.Sort Go.Lib

set_option maxRecDepth 100000 in
set_option maxHeartbeats 8000000 in
theorem pdq_any (g cap N:Nat)(hl:N<1000000): ∀(d a b lim:Nat) (xs:List Int) (w:World),b - a<=d->a<=b->b<=N->lim<1000->xs.length=N->RowU w g cap xs->LowR a b xs->
  Calls Tryz.prog (100) #[.slice (some ⟨g,0,none⟩) N cap, .int .i64 a, .int .i64 b, .int .i64 lim] w (zqd a b (SortR a b) g cap xs w):=by
 intro d
 induction d using Nat.strongRecOn with
 |ind d ih=>
 intro a b lim xs w hd hab hbN hlim hN h hlow
 have HIH:=zh ih
 have HN:=zh hN
 have HL0:=zh hlow
 have HST0:Hid (RowSt g cap w w xs):=zh ⟨h,zqp _ _⟩
 clear ih hN hlow h
 go_enter Tryz.func100,Tryz.ntmps100
 go_wp2_with fail
 go_loopg [1,2,3,8,9] (b - a) (fun gk av bv lv wb wp wr=> ∃(a1 b1 lim:Nat) (f1 f2:Bool) (ys:List Int),gk=b1 - a1/\a<=a1/\a1<=b1/\b1<=b/\lim<1000/\av= .int .i64 a1/\bv= .int .i64 b1/\lv= .int .i64 lim/\wb= .bool f1/\wp= .bool f2/\Hid (InR a b xs ys)/\Hid (LowR a1 b1 ys)/\Hid (RestR a b a1 b1 ys)/\RowSt g cap w wr ys)
 case atStart=>exact⟨a,b,lim,true,true,xs,rfl,zr,hab,zr,hlim,rfl,rfl,rfl,rfl,rfl,zh (InR.refl _ _ _),HL0,zh (RestR.start _ _ _),HST0.out⟩
 case round=>
  clear hlim lim
  obtain⟨a1,b1,lim,f1,f2,ys,hgk,haa,hab1,hbb,hlim,rfl,rfl,rfl,rfl,rfl,HI,HLOW,HK,hst⟩:=hrel
  have HST:=zh hst
  have HYL:=zh (show ys.length=N from by rw [HI.out.len];exact HN.out)
  clear hst HST0 HL0
  obtain⟨n,hn⟩: ∃n,n=b1 - a1:=⟨_,rfl⟩
  have en:(b1:Int) - (a1:Int)=(n:Int):=by omega
  have HNB:=zh (show a1+n=b1 by omega)
  have HGK:=zh hgk
  clear hn hgk
  by_cases h12:n<=12
  ·have h12':(n:Int)<=12:=by omega
   go_wp2_with fail
   refine(yqu g cap a1 b1 N ys HYL.out (by omega) wr HST.out.row hl hab1).mono ?_
   rintro e w3 ⟨rfl,zs,hi2,hq2,hr2,hg2⟩
   have HE:=zh (show zqd a b (SortR a b) g cap xs w (.returned (.tuple #[])) w3 from⟨rfl,zs,HI.out.trans (hi2.mono haa hbb),HK.out zs hi2 hq2,hr2,zqh HST.out.grown hg2⟩)
   clear hi2 hq2 hr2 hg2
   go_wp2
   first|go_end0|go_ret|go_ret2
   exact HE.out
  ·have h12': ¬(n:Int)<=12:=by omega
   have hab12:a1+12<b1:=by have:=HNB.out;omega
   by_cases hlim0:lim=0
   ·subst hlim0
    go_wp2_with fail
    refine(yxu g cap a1 b1 N ys HYL.out (by omega) (by omega) wr HST.out.row hl).mono ?_
    rintro e w3 ⟨rfl,zs,hi2,hq2,hr2,hg2⟩
    have HE:=zh (show zqd a b (SortR a b) g cap xs w (.returned (.tuple #[])) w3 from⟨rfl,zs,HI.out.trans (hi2.mono haa hbb),HK.out zs hi2 hq2,hr2,zqh HST.out.grown hg2⟩)
    clear hi2 hq2 hr2 hg2
    go_wp2
    first|go_end0|go_ret|go_ret2
    exact HE.out
   ·have e0:((lim:Int)==0)=false:=by simp;omega
    have hlim1:1<=lim:=by omega
    clear hlim0
    go_upto_if 35 with(fail)
    clear e0 en h12' h12
    go_cut [3] (fun lv wx=> ∃(lim2:Nat) (ys2:List Int),lv= .int .i64 lim2/\lim2<1000/\Hid (InR a1 b1 ys ys2)/\RowSt g cap w wx ys2)
    case first=>
     cases f1 with
     |true=>
      go_wp2_with fail
      go_meet
      exact⟨lim,ys,rfl,hlim,zh (InR.refl _ _ _),HST.out⟩
     |false=>
      go_wp2_with fail
      refine(zw4 g cap a1 b1 N ys HYL.out (by omega) hab12 wr HST.out.row hl).mono ?_
      rintro e w3 ⟨rfl,zs,hi2,hq2,hr2,hg2⟩
      have HI2:=zh hi2
      have HST2:Hid (RowSt g cap w w3 zs):=zh ⟨hr2,zqh HST.out.grown hg2⟩
      obtain⟨lim2,hl2⟩: ∃lim2,lim2=lim - 1:=⟨_,rfl⟩
      have el:(lim:Int) - 1=(lim2:Int):=by omega
      have hlim2:lim2<1000:=by omega
      clear hi2 hq2 hr2 hg2 hl2
      go_wp2_with fail
      go_meet
      exact⟨lim2,zs,rfl,hlim2,HI2,HST2.out⟩
    case rest=>
    clear hlim hlim1
    obtain⟨lim2,ys2,rfl,hlim2,HI2,hst⟩:=hcut
    have HST2:=zh hst
    have HYL2:=zh (show ys2.length=N from by rw [HI2.out.len];exact HYL.out)
    clear hst HST
    go_wp2_with fail
    refine(zvg g cap a1 b1 N ys2 HYL2.out (by omega) hab12 _ HST2.out.row hl).mono ?_
    rintro e w3 ⟨p,hint,rfl,hp1,hp2,hh,hr2,hb2⟩
    have HST3:Hid (RowSt g cap w w3 ys2):=zh ⟨hr2,zqh HST2.out.grown (zk4 hb2)⟩
    clear hr2 hb2 HST2
    go_upto_if 50 with(fail)
    go_cut [11,12] (fun pv hv wx=> ∃(p:Nat) (hint:Int) (ys3:List Int),pv= .int .i64 p/\hv= .int .i64 hint/\a1<p/\p+1<b1/\Hid (InR a1 b1 ys ys3)/\RowSt g cap w wx ys3)
    case first=>
     rcases hh with rfl|rfl|rfl
     ·go_wp2_with fail
      go_meet
      exact⟨p,0,ys2,rfl,rfl,hp1,hp2,HI2,HST3.out⟩
     ·go_wp2_with fail
      go_meet
      exact⟨p,1,ys2,rfl,rfl,hp1,hp2,HI2,HST3.out⟩
     ·go_wp2_with fail
      refine(yjw g cap a1 b1 N ys2 HYL2.out (by omega) (by omega) _ HST3.out.row hl).mono ?_
      rintro e w4 ⟨rfl,zs,hi3,hq3,hr3,hg3⟩
      have HI3:=zh (HI2.out.trans hi3)
      have HST4:Hid (RowSt g cap w w4 zs):=zh ⟨hr3,zqh HST3.out.grown hg3⟩
      obtain⟨q,hq⟩: ∃q,q=p - a1:=⟨_,rfl⟩
      obtain⟨p2,hp22⟩: ∃p2,p2=b1 - 1 - q:=⟨_,rfl⟩
      have eq1:(p:Int) - (a1:Int)=(q:Int):=by omega
      have eq2:(b1:Int) - 1 - (q:Int)=(p2:Int):=by omega
      have hpp:a1<p2/\p2+1<b1:=by omega
      clear hi3 hq3 hr3 hg3 hq hp22
      go_wp2_with fail
      go_meet
      exact⟨p2,1,zs,rfl,rfl,hpp.1,hpp.2,HI3,HST4.out⟩
    case rest=>
    clear hh hp1 hp2 p hint
    obtain⟨p,hint,ys3,rfl,rfl,hp1,hp2,HI3,hst⟩:=hcut
    have HST4:=zh hst
    have HYL3:=zh (show ys3.length=N from by rw [HI3.out.len];exact HYL.out)
    clear hst HST3 HI2 HYL2
    go_upto_region 15 with(fail)
    go_cut [68] (fun v wx=> ∃c:Bool,v= .bool c/\RowSt g cap w wx ys3)
    case first=>
     by_cases hh:hint=1
     ·subst hh
      cases f2<;>cases f1<;>(go_wp2_with fail;go_meet;exact⟨_,rfl,HST4.out⟩)
     ·have hh1:(hint==1)=false:=by simp;omega
      have hh2:decide (hint=1)=false:=decide_eq_false hh
      cases f2<;>cases f1<;>(go_wp2_with fail;go_meet;exact⟨_,rfl,HST4.out⟩)
    case rest=>
    obtain⟨c,rfl,hst⟩:=hcut
    have HST5:=zh hst
    clear hst HST4
    go_upto_if 68 with(fail)
    go_cut [] (fun wx=> ∃ys4:List Int,Hid (InR a1 b1 ys ys4)/\RowSt g cap w wx ys4)
    case first=>
     cases c with
     |false=>
      go_wp2_with fail
      go_meet
      exact⟨ys3,HI3,HST5.out⟩
     |true=>
      go_wp2_with fail
      refine(zk2 g cap a1 b1 N ys3 HYL3.out (by omega) (by omega) _ HST5.out.row hl (HLOW.out.kept HI3.out (by have:=HYL.out;omega))).mono ?_
      rintro e w6 ⟨fl,zs,rfl,hi4,hq4,hr4,hg4⟩
      have HI4:=zh (HI3.out.trans hi4)
      have HST6:Hid (RowSt g cap w w6 zs):=zh ⟨hr4,zqh HST5.out.grown hg4⟩
      have HQ4:=zh hq4
      clear hi4 hq4 hr4 hg4
      cases fl with
      |false=>
       go_wp2_with fail
       go_meet
       exact⟨zs,HI4,HST6.out⟩
      |true=>
       have HE:=zh (show zqd a b (SortR a b) g cap xs w (.returned (.tuple #[])) w6 from⟨rfl,zs,HI.out.trans (HI4.out.mono haa hbb),HK.out zs HI4.out (HQ4.out rfl),HST6.out.row,HST6.out.grown⟩)
       go_wp2
       first|go_end0|go_ret|go_ret2
       exact HE.out
    case rest=>
    obtain⟨ys4,HI4,hst⟩:=hcut
    have HST6:=zh hst
    have HYL4:=zh (show ys4.length=N from by rw [HI4.out.len];exact HYL.out)
    clear hst HST5 HI3 HYL3
    go_upto_region 17 with(fail)
    go_cut [87] (fun v wx=> ∃c:Bool,v= .bool c/\Hid (c=true->0<a1/\at_ ys4 p<=at_ ys4 (a1 - 1))/\RowSt g cap w wx ys4)
    case first=>
     by_cases ha0:0<a1
     ·have ha0':(0:Int)<(a1:Int):=by omega
      have c0:=zq5 HST6.out.row (a1 - 1) (by have:=HYL4.out;omega)
      have d0:=zq5 HST6.out.row p (by have:=HYL4.out;omega)
      have w1:IntKind.i64.wrap ((a1:Int) - 1)=(a1:Int) - 1:=IntWalk.i64_in _ (by omega)
      have p1:(0:Int)<=(a1:Int) - 1:=by omega
      have p1':(1:Int)<=(a1:Int):=by omega
      have q1:((a1:Int) - 1).toNat=a1 - 1:=by omega
      have r1:(a1:Int) - 1<(N:Int):=by omega
      have r2:(p:Int)<(N:Int):=by omega
      by_cases hs:at_ ys4 (a1 - 1)<at_ ys4 p
      ·have HL:=zh hs
       clear hs
       go_wp2_with fail
       go_quiet ((go_at_call 123;exact Calls.quiet_of_same (zzc HL.out _)))
       have HST7:=zh (HST6.out.drewN nq)
       go_wp2_with fail
       go_meet
       exact⟨false,rfl,zh (fun h=>by cases h),HST7.out⟩
      ·have HL:=zh (Int.not_lt.1 hs)
       clear hs
       go_wp2_with fail
       go_quiet ((go_at_call 123;exact Calls.quiet_of_same (zzb HL.out _)))
       have HST7:=zh (HST6.out.drewN nq)
       go_wp2_with fail
       go_meet
       exact⟨true,rfl,zh (fun _=>⟨ha0,HL.out⟩),HST7.out⟩
     ·have ha0': ¬(0:Int)<(a1:Int):=by omega
      have ha0d:decide ((0:Int)<(a1:Int))=false:=decide_eq_false ha0'
      have ha0e:decide (0<a1)=false:=decide_eq_false ha0
      go_wp2_with fail
      go_quiet (fail)
      have HST7:=zh (HST6.out.drewN nq)
      go_wp2_with fail
      go_meet
      exact⟨false,rfl,zh (fun h=>by cases h),HST7.out⟩
    case rest=>
    obtain⟨c,rfl,HC,hst⟩:=hcut
    have HST7:=zh hst
    clear hst HST6
    have HLOW4:=zh (HLOW.out.kept HI4.out (by have:=HYL.out;omega))
    have HK4:=zh (HK.out.kept HI4.out)
    have HIA:=zh (HI.out.trans (HI4.out.mono haa hbb))
    clear HLOW HK HI HI4
    cases c with
    |true=>
     have hC2:=HC.out rfl
     have HC2:=zh hC2
     clear hC2 HC
     go_wp2_with fail
     refine(zvt g cap a1 b1 p N (at_ ys4 p) ys4 HYL4.out (by omega) hp1 (by omega) rfl _ HST7.out.row hl).mono ?_
     rintro e w8 ⟨mid,zs,rfl,hm1,hm2,hi5,hlo,hhi,hr5,hg5⟩
     obtain⟨k1,k2⟩:=RestR.equals (HK4.out.kept hi5) (HLOW4.out.kept hi5 (by have:=HYL4.out;omega)) HC2.out.1 (p:=at_ ys4 p) (by rw [hi5.out (a1 - 1) (by have:=HC2.out.1;omega)];exact HC2.out.2) (by omega) hm2 (by rw [hi5.len];have:=HYL4.out;omega) hlo (fun k h1 h2=>Int.not_le.1 (hhi k h1 h2))
     have HK5:=zh k1
     have HL5:=zh k2
     have HI5:=zh (HIA.out.trans (hi5.mono haa hbb))
     have HST8:Hid (RowSt g cap w w8 zs):=zh ⟨hr5,zqh HST7.out.grown hg5⟩
     clear k1 k2 hi5 hlo hhi hr5 hg5 HK4 HLOW4 HIA HST7
     go_wp2
     go_roundg(b1 - mid)
     case measure=>have:=HGK.out;omega
     case rel=>exact⟨mid,b1,lim2,f1,f2,zs,rfl,by omega,hm2,hbb,hlim2,rfl,rfl,rfl,rfl,rfl,HI5,HL5,HK5,HST8.out⟩
    |false=>
     go_wp2_with fail
     refine(yqx g cap a1 b1 p N (at_ ys4 p) ys4 HYL4.out (by omega) hp1 (by omega) rfl _ HST7.out.row hl).mono ?_
     rintro e w8 ⟨mid,fl,zs,rfl,hm1,hm2,hi5,hpm,hlo,hhi,hr5,hg5⟩
     have HK5:=zh (HK4.out.kept hi5)
     have HL5:=zh (HLOW4.out.kept hi5 (by have:=HYL4.out;omega))
     have HI5:=zh (HIA.out.trans (hi5.mono haa hbb))
     have HST8:Hid (RowSt g cap w w8 zs):=zh ⟨hr5,zqh HST7.out.grown hg5⟩
     have HYL5:=zh (show zs.length=N from by rw [hi5.len];exact HYL4.out)
     have HPM:=zh hpm
     have HLO:=zh hlo
     have HHI:=zh (show∀k,mid<k->k<b1->(at_ ys4 p<=at_ zs k)from fun k h1 h2=>Int.not_lt.1 (hhi k h1 h2))
     clear hi5 hpm hlo hhi hr5 hg5 HK4 HLOW4 HIA HST7 HYL4
     obtain⟨ll,hll⟩: ∃ll,ll=mid - a1:=⟨_,rfl⟩
     obtain⟨rr,hrr⟩: ∃rr,rr=b1 - mid:=⟨_,rfl⟩
     have el:(mid:Int) - (a1:Int)=(ll:Int):=by omega
     have er:(b1:Int) - (mid:Int)=(rr:Int):=by omega
     have hnn:n<1000000:=by have:=HNB.out;omega
     clear hll hrr
     by_cases hlr:ll<rr
     ·have hlr':(ll:Int)<(rr:Int):=by omega
      go_wp2_with fail
      clear el er hlr' hlr
      refine(HIH.out (mid - a1) (by omega) a1 mid lim2 zs w8 zr hm1 (by omega) hlim2 HYL5.out HST8.out.row (HL5.out.less (by omega))).mono ?_
      rintro e w9 ⟨rfl,us,hi6,hq6,hr6,hg6⟩
      obtain⟨k1,k2⟩:=RestR.left HK5.out hm1 hm2 (by have:=HYL5.out;omega) HPM.out HLO.out (fun k h1 h2=>Int.not_lt.2 (HHI.out k h1 h2)) hi6 hq6
      have HK6:=zh k1
      have HL6:=zh k2
      have HI6:=zh (HI5.out.trans (hi6.mono haa (by omega)))
      have HST9:Hid (RowSt g cap w w9 us):=zh ⟨hr6,zqh HST8.out.grown hg6⟩
      clear k1 k2 hi6 hq6 hr6 hg6 HK5 HL5 HI5 HST8
      go_wp2
      go_roundg(b1 - (mid+1))
      case measure=>have:=HGK.out;omega
      case rel=>exact⟨mid+1,b1,lim2,_,fl,us,rfl,by omega,by omega,hbb,hlim2,by go_num,rfl,rfl,rfl,rfl,HI6,HL6,HK6,HST9.out⟩
     ·have hlr': ¬(ll:Int)<(rr:Int):=by omega
      obtain⟨m1,hm11⟩: ∃m1,m1=mid+1:=⟨_,rfl⟩
      have em:(mid:Int)+1=(m1:Int):=by omega
      have hm1a:m1<=b1:=by omega
      have hm1b:b1 - m1<d:=by omega
      have HM1:=zh hm11
      clear hm11
      go_wp2_with fail
      clear el er hlr' hlr em
      refine(HIH.out (b1 - m1) hm1b m1 b1 lim2 zs w8 zr hm1a (by omega) hlim2 HYL5.out HST8.out.row (by rw [HM1.out];exact LowR.behind HPM.out (fun k h1 h2=>Int.not_lt.2 (HHI.out k h1 h2)))).mono ?_
      rw [HM1.out]
      rintro e w9 ⟨rfl,us,hi6,hq6,hr6,hg6⟩
      obtain⟨k1,k2⟩:=RestR.right HK5.out HL5.out hm1 hm2 (by have:=HYL5.out;omega) HPM.out HLO.out (fun k h1 h2=>Int.not_lt.2 (HHI.out k h1 h2)) hi6 hq6
      have HK6:=zh k1
      have HL6:=zh k2
      have HI6:=zh (HI5.out.trans (hi6.mono (by omega) hbb))
      have HST9:Hid (RowSt g cap w w9 us):=zh ⟨hr6,zqh HST8.out.grown hg6⟩
      clear k1 k2 hi6 hq6 hr6 hg6 HK5 HL5 HI5 HST8
      go_wp2
      go_roundg(mid - a1)
      case measure=>have:=HGK.out;omega
      case rel=>exact⟨a1,mid,lim2,_,fl,us,rfl,haa,hm1,by omega,hlim2,rfl,rfl,rfl,rfl,rfl,HI6,HL6,HK6,HST9.out⟩

theorem xq6 (g cap N:Nat)(xs:List Int)(hN:xs.length=N)(w:World)(h:RowU w g cap xs)(hl:N<1000000):
  Calls Tryz.prog (74) #[.slice (some ⟨g,0,none⟩) N cap] w fun e w'=>e= .returned (.tuple #[])/\ ∃ys,ys.Perm xs/\ys.Pairwise (· <= ·)/\RowU w' g cap ys/\w.grownBy w' (some g):=by
 have hLen: ∀u,Calls Tryz.prog (101) #[.int .u64 (N:Int)] u fun e w'=>e= .returned (.int .i64 (bitsLen N:Nat))/\w'=u:=fun u=>by
  have h:=Any.bits_Len (SlLaysF0.n15.bits (P:=Tryz.prog) (ρ:=Tryz.sortPoint_ren) {Tryz.sortPoint with }) (N:Int) u (by omega) (by omega)
  rw [Int.toNat_natCast,bitLen_eq _ (by omega)] at h
  exact h
 obtain⟨lim,hlim⟩: ∃lim,lim=bitsLen N:=⟨_,rfl⟩
 have hlim2:lim<1000:=by
  have:=(bitsLen_le_iff N 62).2 (by omega)
  omega
 rw [<-hlim] at hLen
 have ww:IntKind.u64.wrap (N:Int)=(N:Int):=by rw [IntKind.wrap_u64];omega
 have HP:=zh (pdq_any g cap N hl N 0 N lim xs w (by omega) (by omega) zr hlim2 hN h (fun h=>by omega))
 have HN:=zh hN
 clear hlim h hN
 go_enter Tryz.func74,Tryz.ntmps74
 go_wp2_with(first|(go_at_call 101;refine(hLen _).mono ?_;rintro e w' ⟨rfl,rfl⟩))
 refine(HP.out).mono ?_
 rintro e w3 ⟨he,zs,hi2,hq2,hr2,hg2⟩
 subst he
 have HPM:=zh hi2.perm
 have HSO:=zh (SortR.whole (xs:=zs) (by rw [hi2.len,HN.out];exact hq2))
 have HRR:=zh hr2
 have HGG:=zh hg2
 clear hi2 hq2 hr2 hg2
 go_wp2
 first|go_end0|go_ret|go_ret2
 exact⟨rfl,zs,HPM.out,HSO.out,HRR.out,HGG.out⟩
end Go.Proofs.YtchcelodeepjdaaGreatDoor.Vx

namespace Go.Proofs.YtchcelodeepjdaaGreatDoor.Vx
open Go.RowKit Go.Shelf Go.Herb
attribute [local go_sem] Oper.semAt_some

abbrev eU (v:Int):Value:= .int .u64 v
abbrev eM (b:Nat):Value:= .map (some b)
theorem zjo: ∀a a',eU a=eU a'->a=a':=fun a a' h=>by injection h
theorem lawU:Maps.Keyed Tryz.prog (26):=Maps.int_keyed Tryz.underlying26
abbrev MapU (w:World)(b:Nat)(m:List (Int × Int)):Prop:=MapIs Tryz.prog (26) eU eU w b m
abbrev MapM (w:World)(b:Nat)(m:List (Int × Nat)):Prop:=MapIs Tryz.prog (26) eU eM w b m
abbrev OwnU (B:Nat)(w:World)(v:Value)(ys:List Int):Prop:=w.ownsRow B (26) 1 v ys.length (ys.flatMap nu)

theorem infoU:(Tryz.prog.info? (26)).map (fun i=>(i.zero,i.size,i.bytes))=some (some (.int .u64 0),1,8):=by kernel_rfl
theorem yze (w:World)(B:Nat)(v:Value)(ys:List Int)(vb:Nat)(x:Int)(ho:OwnU B w v ys)(hb:w.heap[vb]? =some (.cells #[.int .u64 x] (26) (0,0)))(hx:ys.length<1000000)(hB:B<=w.heap.size)(ty:TypeId):
  ∃v' w',(Builtin.append_ #[(88),(88)] ty #[v, .slice (some ⟨vb,0,none⟩) 1 1]).run Tryz.prog w= .ok v' w'/\OwnU B w' v' (ys++ [x])/\w.grownBy w' v.ownBlock:=by
 obtain⟨i0,hin,hz0,hz1,hz2⟩:=info_parts infoU
 obtain⟨v',w',hr,h2,h3,h4⟩:=run_append_own (P:=Tryz.prog) w B (88) ty (26) i0 _ 1 8 Tryz.underlying88 hin hz0 hz1 hz2 rfl (by decide) v ys.length (ys.flatMap nu) ho ⟨vb,0,none⟩ 1 1 (nu x) rfl (fun j u hj=>by
   have:((⟨vb,0,none⟩:Addr).add j)=⟨vb,0+j,none⟩:=addr_add _ _ _
   rw [this,Nat.zero_add,zq0 hb]
   simpa [nu] using hj) (by intro v hv;simp [nu] at hv;subst hv;rfl) (by unfold maxLen;omega) (by omega) hB
 refine⟨v',w',hr,?_,h3⟩
 unfold OwnU
 rw [List.length_append,List.flatMap_append]
 simpa using h2

theorem yji (w:World):Calls Tryz.prog (117) #[.slice none 0 0, .int .i64 0, .int .i64 0] w fun e w'=>e= .returned (.tuple #[])/\w=w':=by
 go_enter Tryz.func117,Tryz.ntmps117
 go_wp2
 go_loopg [6] 0 (fun _ iv wr=>iv= .int .i64 1/\wr=w)
 case atStart=>exact⟨rfl,rfl⟩
 case round=>
  obtain⟨rfl,rfl⟩:=hrel
  go_wp2
  go_end0
  exact⟨rfl,rfl⟩
set_option maxRecDepth 100000 in
theorem yjo (lim:Int)(w:World):Calls Tryz.prog (100) #[.slice none 0 0, .int .i64 0, .int .i64 0, .int .i64 lim] w fun e w'=>e= .returned (.tuple #[])/\w=w':=by
 go_enter Tryz.func100,Tryz.ntmps100
 go_wp2_with fail
 go_loopg [1,2,3,8,9] 0 (fun _ av bv lv _ _ wr=>av= .int .i64 0/\bv= .int .i64 0/\lv= .int .i64 lim/\wr=w)
 case atStart=>exact⟨rfl,rfl,rfl,rfl⟩
 case round=>
  obtain⟨rfl,rfl,rfl,rfl⟩:=hrel
  go_wp2_with fail
  refine(yji wr).mono ?_
  rintro e w' ⟨rfl,rfl⟩
  go_wp2
  refine bodyPost_ret (results_none rfl _ _ _) rfl ?_
  exact⟨rfl,rfl⟩
theorem yzm (w:World):Calls Tryz.prog (74) #[.slice none 0 0] w fun e w'=>e= .returned (.tuple #[])/\w=w':=by
 have hLen: ∀u,Calls Tryz.prog (101) #[.int .u64 0] u fun e w'=>(∃lim,e= .returned (.int .i64 lim))/\w'=u:=fun u=>
  (Any.bits_Len (SlLaysF0.n15.bits (P:=Tryz.prog) (ρ:=Tryz.sortPoint_ren) {Tryz.sortPoint with }) (0:Int) u (by omega) (by omega)).mono (fun e w' h=>⟨⟨_,h.1⟩,h.2⟩)
 go_enter Tryz.func74,Tryz.ntmps74
 go_wp2_with(first|(go_at_call 101;refine(hLen _).mono ?_;rintro e w' ⟨⟨lim,rfl⟩,rfl⟩))
 refine(yjo _ _).mono ?_
 rintro e w' ⟨rfl,rfl⟩
 go_wp2
 go_end0
 exact⟨rfl,rfl⟩
end Go.Proofs.YtchcelodeepjdaaGreatDoor.Vx

namespace Go.Herb
open Go

abbrev Bh:=List (Int × Int)
abbrev Vs:=List (Int × Bh)
def U64 (x:Int):Prop:=(Lit.int .u64 x).wf=true

def g0 (b:Bh)(k:Int):Int:=(getL b k).getD 0
def SrtK {β:Type}(b:List (Int × β)):Prop:=b.Pairwise (fun p q=>p.1<q.1)
structure Good (b:Bh):Prop where
 srt:SrtK b
 pos: ∀p∈b,0<p.2
 wf: ∀p∈b,U64 p.1/\U64 p.2
structure Okm (m:Bh):Prop where
 nodup:(m.map (·.1)).Nodup
 pos: ∀p∈m,0<p.2
 wf: ∀p∈m,U64 p.1/\U64 p.2

theorem SrtK.nodup {β:Type}{b:List (Int × β)}(h:SrtK b):(b.map (·.1)).Nodup:=by
 unfold List.Nodup
 rw [List.pairwise_map]
 exact h.imp (fun h e=>by omega)
theorem Good.ok {b:Bh}(h:Good b):Okm b:=⟨h.srt.nodup,h.pos,h.wf⟩
theorem Okm.perm {a b:Bh}(h:Okm a)(hp:a.Perm b):Okm b:=⟨(hp.map _).nodup_iff.1 h.nodup,fun p m=>h.pos p (hp.mem_iff.2 m),fun p m=>h.wf p (hp.mem_iff.2 m)⟩

theorem zzh {β:Type}{b:List (Int × β)}{k:Int}{v:β}(h:getL b k=some v):(k,v)∈b:=by
 unfold getL at h
 obtain⟨p,h1,h2⟩:=Option.map_eq_some_iff.1 h
 have h3:=List.find?_some h1
 simp at h3
 have h4:=List.mem_of_find?_eq_some h1
 rw [<-h2,<-h3]
 exact h4
theorem g0_mem {b:Bh}(hn:(b.map (·.1)).Nodup){p:Int × Int}(hp:p∈b):g0 b p.1=p.2:=by
 unfold g0;rw [(zx0 hn).2 (show(p.1,p.2)∈b from hp)];rfl
theorem ywu {b:Bh}{k:Int}(h:getL b k=none):g0 b k=0:=by unfold g0;rw [h];rfl
theorem ywv {b:Bh}{k v:Int}(h:getL b k=some v):g0 b k=v:=by unfold g0;rw [h];rfl
theorem Okm.mem_of {b:Bh}(_:Okm b){k:Int}(h:g0 b k≠0):(k,g0 b k)∈b:=by
 cases e:getL b k with
 |none=>exact absurd (ywu e) h
 |some v=>rw [ywv e];exact zzh e
theorem Okm.nn {b:Bh}(hb:Okm b)(k:Int):0<=g0 b k:=by
 by_cases h:g0 b k=0
 ·omega
 ·exact Int.le_of_lt (hb.pos _ (hb.mem_of h))
def putS {β:Type}(b:List (Int × β))(k:Int)(v:β):List (Int × β):=b.filter (fun p=>decide (p.1<k))++(k,v)::b.filter (fun p=>decide (k<p.1))
section
variable {β:Type} {b:List (Int × β)} {k k':Int} {v:β}
theorem zzi {p:Int × β}:p∈putS b k v↔p=(k,v)\/p∈b/\p.1≠k:=by
 unfold putS
 simp only [List.mem_append,List.mem_filter,List.mem_cons,decide_eq_true_eq]
 constructor
 ·rintro(⟨h1,h2⟩|h|⟨h1,h2⟩)
  ·exact .inr ⟨h1,by omega⟩
  ·exact .inl h
  ·exact .inr ⟨h1,by omega⟩
 ·rintro(h|⟨h1,h2⟩)
  ·exact .inr (.inl h)
  ·rcases Int.lt_or_gt_of_ne h2 with h|h
   ·exact .inl ⟨h1,h⟩
   ·exact .inr (.inr ⟨h1,h⟩)
theorem zv4 (h:SrtK b):SrtK (putS b k v):=by
 unfold putS SrtK
 rw [List.pairwise_append]
 refine⟨h.filter _,List.pairwise_cons.2 ⟨fun q hq=> ?_,h.filter _⟩,fun p hp q hq=> ?_⟩
 ·simp at hq;exact hq.2
 ·simp at hp hq
  rcases hq with rfl|hq
  ·exact hp.2
  ·omega
theorem zzo (h:SrtK b):getL (putS b k v) k'=if k'=k then some v else getL b k':=by
 have hs:=(zv4 (k:=k) (v:=v) h).nodup
 by_cases e:k'=k
 ·rw [if_pos e,e]
  exact(zx0 hs).2 (zzi.2 (.inl rfl))
 ·rw [if_neg e]
  cases e2:getL b k' with
  |some u=>exact(zx0 hs).2 (zzi.2 (.inr ⟨zzh e2,e⟩))
  |none=>
   rw [yxs] at e2 ⊢
   intro hm
   obtain⟨p,hp,rfl⟩:=List.mem_map.1 hm
   rcases zzi.1 hp with rfl|⟨h1,h2⟩
   ·exact e rfl
   ·exact e2 (List.mem_map.2 ⟨p,h1,rfl⟩)
theorem zks {x:Int}:x∈(putS b k v).map (·.1)↔x=k\/x∈b.map (·.1):=by
 simp only [List.mem_map]
 constructor
 ·rintro⟨p,hp,rfl⟩
  rcases zzi.1 hp with rfl|⟨h1,h2⟩
  ·exact .inl rfl
  ·exact .inr ⟨p,h1,rfl⟩
 ·rintro(rfl|⟨p,hp,rfl⟩)
  ·exact⟨_,zzi.2 (.inl rfl),rfl⟩
  ·by_cases e:p.1=k
   ·exact⟨(k,v),zzi.2 (.inl rfl),e.symm⟩
   ·exact⟨p,zzi.2 (.inr ⟨hp,e⟩),rfl⟩
theorem zkv:(putS b k v).length<=b.length+1:=by
 unfold putS
 rw [List.length_append,List.length_cons]
 have h:(b.filter (fun p=>decide (p.1<k))).length+(b.filter (fun p=>decide (k<p.1))).length<=b.length:=by
  induction b with
  |nil=>simp
  |cons p b ih=>
   rw [List.filter_cons,List.filter_cons]
   by_cases h1:p.1<k
   ·have h2: ¬k<p.1:=by omega
    simp only [h1,h2,decide_true,decide_false,if_true,List.length_cons]
    simp;omega
   ·by_cases h2:k<p.1
    ·simp only [h1,h2,decide_true,decide_false,if_true,List.length_cons]
     simp;omega
    ·simp only [h1,h2,decide_false,List.length_cons]
     simp;omega
 omega
end

structure zjm (a b:Bh)(p:Int × Int):Prop where
 top: ∀k,min (g0 a k) (g0 b k)<=p.2
 none:p.2=0->p.1=0
 nn:0<=p.2
 at_:0<p.2->min (g0 a p.1) (g0 b p.1)=p.2
 low: ∀k,0<p.2->min (g0 a k) (g0 b k)=p.2->p.1<=k
theorem zjm.symm {a b:Bh}{p:Int × Int}(h:zjm a b p):zjm b a p:=
 ⟨fun k=>by rw [Int.min_comm];exact h.top k,h.none,h.nn,fun h0=>by rw [Int.min_comm];exact h.at_ h0,fun k h0 hk=>h.low k h0 (by rw [Int.min_comm];exact hk)⟩
theorem zjm.uniq {a b:Bh}{p q:Int × Int}(h:zjm a b p)(k:zjm a b q):p=q:=by
 have e2:p.2=q.2:=by
  have hp:=h.nn
  have hq:=k.nn
  rcases Int.lt_trichotomy p.2 q.2 with e|e|e
  ·have:=h.top q.1;have:=k.at_ (by omega);omega
  ·exact e
  ·have:=k.top p.1;have:=h.at_ (by omega);omega
 have e1:p.1=q.1:=by
  rcases Int.lt_or_eq_of_le h.nn with h0|h0
  ·have h1:=h.low q.1 h0 (by rw [k.at_ (by omega),e2])
   have h2:=k.low p.1 (by omega) (by rw [h.at_ h0,e2])
   omega
  ·rw [h.none h0.symm,k.none (by omega)]
 exact Prod.ext e1 e2
/- Vectors of lines. -/
structure GoodV (L:Vs):Prop where
 srt:SrtK L
 inn: ∀p∈L,Good p.2
 wf: ∀p∈L,U64 p.1
theorem GoodV.put {L:Vs}(h:GoodV L){k:Int}{b:Bh}(hk:U64 k)(hb:Good b):GoodV (putS L k b):=by
 refine⟨zv4 h.srt,fun p hp=> ?_,fun p hp=> ?_⟩
 ·rcases zzi.1 hp with rfl|⟨h1,_⟩
  ·exact hb
  ·exact h.inn p h1
 ·rcases zzi.1 hp with rfl|⟨h1,_⟩
  ·exact hk
  ·exact h.wf p h1
theorem GoodV.get {L:Vs}(h:GoodV L){k:Int}{b:Bh}(hg:getL L k=some b):Good b/\U64 k:=⟨h.inn _ (zzh hg),h.wf _ (zzh hg)⟩
end Go.Herb

namespace Go.Proofs.YtchcelodeepjdaaGreatDoor.Vx
open Go.RowKit Go.Shelf Go.Herb

theorem keyU {x:Int}(h:U64 x): ∃kl,keyOf Tryz.prog (26) (.int .u64 x)=some kl:=⟨_,Maps.keyOf_int_mk Tryz.underlying26 h⟩

structure VecIs (w:World)(p mb:Nat)(M:List (Int × Nat))(L:Vs):Prop where
 blk:w.heap[p]? =some (.cells #[.map (some mb), .int .i64 1] (138) (0,0))
 out:MapM w mb M
 keys:(M.map (·.1)).Perm (L.map (·.1))
 inn: ∀q∈M,∃m b,MapU w q.2 m/\getL L q.1=some b/\m.Perm b
theorem VecIs.same {w w':World}{p mb:Nat}{M:List (Int × Nat)}{L:Vs}(h:VecIs w p mb M L)(hb: ∀b,b<w.heap.size->w'.heap[b]? =w.heap[b]?):VecIs w' p mb M L:=
 ⟨(hb _ (zq2 h.blk)).trans h.blk,h.out.same (hb _ h.out.lt),h.keys,fun q hq=>by obtain⟨m,b,h1,h2⟩:=h.inn q hq;exact⟨m,b,h1.same (hb _ h1.lt),h2⟩⟩
theorem VecIs.below {w w':World}{p mb:Nat}{M:List (Int × Nat)}{L:Vs}(h:VecIs w p mb M L)(hb:Below w.heap.size w w'):VecIs w' p mb M L:=h.same (fun b hl=>hb.block b hl)
theorem VecIs.drewN {w:World}{p mb:Nat}{M:List (Int × Nat)}{L:Vs}(h:VecIs w p mb M L)(n:Nat):VecIs (w.drewN n) p mb M L:=h.same (fun _ _=>rfl)
theorem VecIs.len {w:World}{p mb:Nat}{M:List (Int × Nat)}{L:Vs}(h:VecIs w p mb M L):M.length=L.length:=by have:=h.keys.length_eq;simpa using this

end Go.Proofs.YtchcelodeepjdaaGreatDoor.Vx

namespace Go.Proofs.YtchcelodeepjdaaGreatDoor.Vx
open Go.RowKit Go.Shelf Go.Herb

theorem VecIs.put {w w':World}{p0 mb0 p mb ib:Nat}{M:List (Int × Nat)}{L:Vs}{line:Int}{m B:Bh}(h:VecIs w p0 mb0 M L)(hL:SrtK L)(hb:Below w.heap.size w w')(blk:w'.heap[p]? =some (.cells #[.map (some mb), .int .i64 1] (138) (0,0)))
  (out:MapM w' mb (putL M line ib)) (hi:MapU w' ib m) (hp:m.Perm B):VecIs w' p mb (putL M line ib) (putS L line B):=by
 have hn:=out.nodup
 refine⟨blk,out,?_,fun q hq=> ?_⟩
 ·refine(List.perm_ext_iff_of_nodup hn (zv4 hL).nodup).2 fun k=> ?_
  rw [zks,zvv,<-h.keys.mem_iff]
  split
  ·rename_i hm
   constructor
   ·exact .inr
   ·rintro(rfl|h)
    ·exact hm
    ·exact h
  ·rw [List.mem_append,List.mem_singleton]
   exact or_comm
 ·have hg:=(zx0 hn).2 (show(q.1,q.2)∈putL M line ib from hq)
  by_cases e:q.1=line
  ·rw [e,zx2] at hg
   cases hg
   exact⟨m,B,hi,by rw [zzo hL,if_pos e],hp⟩
  ·rw [zxj _ _ _ e] at hg
   obtain⟨m2,b2,h1,h2,h3⟩:=h.inn _ (zzh hg)
   exact⟨m2,b2,h1.same (hb.block _ h1.lt),by rw [zzo hL,if_neg e];exact h2,h3⟩

abbrev mc (q:Nat × Bh):List Value:= [.map (some q.1)]
end Go.Proofs.YtchcelodeepjdaaGreatDoor.Vx

namespace Go.Herb
open Go.ChangeMaps Go.MapKept
open Go.WideElems (Fit rd rg pl rd_key rd_val rg_of other_key rd_mk)
open Go.Maps (Keyed)
theorem MapIs.drop {α β:Type} [DecidableEq α]{P:Program}{k:TypeId}{encK:α->Value}{encV:β->Value}{w:World}{b:Nat}{m:List (α × β)}(h:MapIs P k encK encV w b m)(K:Keyed P k)(hinj: ∀a a',encK a=encK a'->a=a'){t e:TypeId}(ht:P.underlying t=some (.map k e)){a:α}{kl:Lit}(hkey:keyOf P k (encK a)=some kl)(ty:TypeId):
  ∃w' m',(Builtin.delete_ #[t,k] ty #[.map (some b),encK a]).run P w= .ok (.tuple #[]) w'/\MapIs P k encK encV w' b m'/\w.grownBy w' (some b)/\w'.heap.size=w.heap.size/\m'.Sublist m/\ ∀p,p∈m'↔p∈m/\p.1≠a:=by
 have hh:=h
 have hnd:=h.nodup
 obtain⟨es,clock,hb,F,he⟩:=h.blk
 obtain⟨es',hrun,F',_,_,hsub,hmem⟩:=fit_drop_who (ty:=ty) K ht hb F hkey
 have hs2:(es'.toList.map kvOf).Sublist (m.map (fun p=>(encK p.1,encV p.2))):=by rw [<-he];exact hsub.map _
 obtain⟨m',hm1,hm2⟩:=List.sublist_map_iff.1 hs2
 refine⟨_,m',hrun,⟨es',clock,heap_setBlock_same hb _,F',hm2⟩,⟨rfl,rfl,rfl,by simp [setBlock],fun i _ hi=>heap_setBlock_other hb _ (fun e=>hi (by rw [e]))⟩,by simp [setBlock],hm1,fun p=> ?_⟩
 constructor
 ·intro hp
  refine⟨hm1.subset hp,fun e=> ?_⟩
  have:(encK p.1,encV p.2)∈es'.toList.map kvOf:=by rw [hm2];exact List.mem_map.2 ⟨p,hp,rfl⟩
  obtain⟨x,hx,ex⟩:=List.mem_map.1 this
  exact((hmem x).1 hx).2 ((congrArg Prod.fst ex).trans (by rw [<-e]))
 ·rintro⟨hp,hne⟩
  have:(encK p.1,encV p.2)∈es.toList.map kvOf:=by rw [he];exact List.mem_map.2 ⟨p,hp,rfl⟩
  obtain⟨x,hx,ex⟩:=List.mem_map.1 this
  have hxk:x.key=encK p.1:=congrArg Prod.fst ex
  have hx':x∈es'.toList:=(hmem x).2 ⟨hx,fun e=>hne (hinj _ _ (hxk.symm.trans e))⟩
  have h2:(encK p.1,encV p.2)∈es'.toList.map kvOf:=List.mem_map.2 ⟨x,hx',ex⟩
  rw [hm2] at h2
  obtain⟨y,hy,ey⟩:=List.mem_map.1 h2
  have hk:y.1=p.1:=hinj _ _ (congrArg Prod.fst ey)
  have h3:=(zx0 hnd).2 (show(y.1,y.2)∈m from hm1.subset hy)
  have h4:=(zx0 hnd).2 (show(p.1,p.2)∈m from hp)
  rw [hk,h4] at h3
  injection h3 with h3
  rw [show p=y from Prod.ext hk.symm h3]
  exact hy
end Go.Herb
namespace Go.Proofs.YtchcelodeepjdaaGreatDoor.Vx
open Go.RowKit Go.Shelf Go.Herb

structure Small (L:Vs):Prop where
 len:L.length<100000
 inn: ∀p∈L,p.2.length<100000
theorem Small.get {L:Vs}(h:Small L){k:Int}{b:Bh}(hg:getL L k=some b):b.length<100000:=h.inn _ (zzh hg)
end Go.Proofs.YtchcelodeepjdaaGreatDoor.Vx
