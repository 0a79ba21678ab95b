/- Lemmas and walks towards ManifestsFold. Conditions: each one tells its own. -/
import Derived.Test.YtchcelodeepjdaaGreatDoorMp
import Derived.Test.YtchcelodeepjdaaGreatDoorO4
namespace Go.Proofs.YtchcelodeepjdaaGreatDoor.Vx
open Go.RowKit Go.Herb

structure CtSt (g cap sb s:Nat)(xs:List Int)(w wr:World):Prop where
 row:RowU wr g cap xs
 cnt:wr.heap[sb]? =some (.cells #[.int .i64 s] (3) (0,0))
 grown:w.grownBy wr (some sb)
 ne:sb≠g
theorem CtSt.drewN {g cap sb s:Nat}{xs:List Int}{w wr:World}(h:CtSt g cap sb s xs w wr)(n:Nat):CtSt g cap sb s xs w (wr.drewN n):=⟨zzl h.row n,h.cnt,zxy h.grown n,h.ne⟩
theorem CtSt.trans {g cap sb s t:Nat}{xs:List Int}{w u v:World}(h:CtSt g cap sb s xs w u)(k:CtSt g cap sb t xs u v):CtSt g cap sb t xs w v:=⟨k.row,k.cnt,zqh h.grown k.grown,h.ne⟩
theorem CtSt.bump {g cap sb s:Nat}{xs:List Int}{w wr:World}(h:CtSt g cap sb s xs w wr)(t:Nat):CtSt g cap sb t xs w (wr.setCell ⟨sb,0,none⟩ (.int .i64 t)):=
 ⟨h.row.same (Below.heap_setCell wr ⟨sb,0,none⟩ _ g (fun e=>h.ne e.symm)),by have:=zq7 (j:=0) h.cnt (.int .i64 t);simpa using this,zz4 h.grown _ _,h.ne⟩

def OrdPost (g cap sb s a b:Nat)(xs:List Int)(w:World)(e:Ending)(w':World):Prop:=
 ∃p q t:Nat,e= .returned (.tuple #[.int .i64 p, .int .i64 q])/\(p=a\/p=b)/\(q=a\/q=b)/\t<=s+1/\CtSt g cap sb t xs w w'
set_option maxHeartbeats 1000000 in
theorem zwf (g cap sb s a b N:Nat)(xs:List Int)(hN:xs.length=N)(ha:a<N)(hb:b<N)(w:World)(h:CtSt g cap sb s xs w w)(_:N<1000000)(hs:s<1000):
  Calls Tryz.prog (161) #[.slice (some ⟨g,0,none⟩) N cap, .int .i64 a, .int .i64 b, .pointer (some ⟨sb,0,none⟩)] w (OrdPost g cap sb s a b xs w):=by
 have H:=zh h
 have c0:=zq5 h.row a (by omega)
 have d0:=zq5 h.row b (by omega)
 have r1:(a:Int)<(N:Int):=by omega
 have r2:(b:Int)<(N:Int):=by omega
 clear h hN
 by_cases hlt:at_ xs b<at_ xs a
 ·have HL:=zh hlt
  clear hlt
  go_enter Tryz.func161,Tryz.ntmps161
  go_wp2_with fail
  go_quiet ((go_at_call 123;exact Calls.quiet_of_same (zzc HL.out _)))
  clear c0 d0 r1 r2
  have H2:=zh (H.out.drewN nq)
  generalize w.drewN nq=w2 at*
  have s0:=zq0 H2.out.cnt 0
  have z0:=zq1 H2.out.cnt 0
  simp at s0
  have HB:=zh (H2.out.bump (s+1))
  have ws:IntKind.i64.wrap ((s:Int)+1)=(s:Int)+1:=IntWalk.i64_in _ (by omega)
  have ES:=zh (show(s:Int)+1=((s+1:Nat):Int)by omega)
  clear H H2
  go_wp2
  go_ret2
  exact⟨b,a,s+1,rfl, .inr rfl, .inl rfl,zr,by first|exact HB.out|(rw [ES.out];exact HB.out)⟩
 ·have HL:=zh (Int.not_lt.1 hlt)
  clear hlt
  go_enter Tryz.func161,Tryz.ntmps161
  go_wp2_with fail
  go_quiet ((go_at_call 123;exact Calls.quiet_of_same (zzb HL.out _)))
  clear c0 d0 r1 r2
  have H2:=zh (H.out.drewN nq)
  generalize w.drewN nq=w2 at*
  clear H
  go_wp2
  go_ret2
  exact⟨a,b,s,rfl, .inl rfl, .inr rfl,by omega,H2.out⟩

def yvl (g cap sb s lo hi:Nat)(xs:List Int)(w:World)(e:Ending)(w':World):Prop:=
 ∃p t:Nat,e= .returned (.int .i64 p)/\lo<=p/\p<=hi/\t<=s+3/\CtSt g cap sb t xs w w'
theorem CtSt.refl {g cap sb s:Nat}{xs:List Int}{w wr:World}(h:CtSt g cap sb s xs w wr):CtSt g cap sb s xs wr wr:=⟨h.row,h.cnt,zqp _ _,h.ne⟩
set_option maxHeartbeats 1000000 in
theorem zwd (g cap sb s a b c lo hi N:Nat)(xs:List Int)(hN:xs.length=N)(ha:lo<=a/\a<=hi)(hb:lo<=b/\b<=hi)(hc:lo<=c/\c<=hi)(hh:hi<N)(w:World)(h:CtSt g cap sb s xs w w)(hl:N<1000000)(hs:s<500):
  Calls Tryz.prog (149) #[.slice (some ⟨g,0,none⟩) N cap, .int .i64 a, .int .i64 b, .int .i64 c, .pointer (some ⟨sb,0,none⟩)] w (yvl g cap sb s lo hi xs w):=by
 have HN:=zh hN
 have H:=zh h
 clear h hN
 go_enter Tryz.func149,Tryz.ntmps149
 go_wp2_with fail
 refine(zwf g cap sb s a b N xs HN.out (by omega) (by omega) w H.out hl (by omega)).mono ?_
 rintro e w1 ⟨p,q,t,rfl,hp,hq,ht,hst⟩
 have H1:=zh hst
 have hp':lo<=p/\p<=hi:=by omega
 have hq':lo<=q/\q<=hi:=by omega
 clear hst hp hq H
 go_wp2_with fail
 refine(zwf g cap sb t q c N xs HN.out (by omega) (by omega) w1 H1.out.refl hl (by omega)).mono ?_
 rintro e w2 ⟨p2,q2,t2,rfl,hp2,hq2,ht2,hst⟩
 have H2:=zh (H1.out.trans hst)
 have hp2':lo<=p2/\p2<=hi:=by omega
 clear hst hp2 hq2 H1
 go_wp2_with fail
 refine(zwf g cap sb t2 p p2 N xs HN.out (by omega) (by omega) w2 H2.out.refl hl (by omega)).mono ?_
 rintro e w3 ⟨p3,q3,t3,rfl,hp3,hq3,ht3,hst⟩
 have H3:=zh (H2.out.trans hst)
 have hq3':lo<=q3/\q3<=hi:=by omega
 clear hst hp3 hq3 H2
 go_wp2
 go_ret
 exact⟨q3,t3,rfl,hq3'.1,hq3'.2,by omega,H3.out⟩

set_option maxHeartbeats 1000000 in
theorem zje (g cap sb s a N:Nat)(xs:List Int)(hN:xs.length=N)(ha:1<=a)(hb:a+1<N)(w:World)(h:CtSt g cap sb s xs w w)(hl:N<1000000)(hs:s<500):
  Calls Tryz.prog (148) #[.slice (some ⟨g,0,none⟩) N cap, .int .i64 a, .pointer (some ⟨sb,0,none⟩)] w (yvl g cap sb s (a - 1) (a+1) xs w):=by
 have HM:=zh (zwd g cap sb s (a - 1) a (a+1) (a - 1) (a+1) N xs hN (by omega) (by omega) (by omega) (by omega) w h hl hs)
 obtain⟨a0,ha0⟩: ∃a0,a0=a - 1:=⟨_,rfl⟩
 obtain⟨a1,ha1⟩: ∃a1,a1=a+1:=⟨_,rfl⟩
 rw [<-ha0,<-ha1] at HM ⊢
 have e0:(a:Int) - 1=(a0:Int):=by omega
 have e1:(a:Int)+1=(a1:Int):=by omega
 clear h hN ha0 ha1
 go_enter Tryz.func148,Tryz.ntmps148
 go_wp2_with fail
 clear e0 e1
 refine(HM.out).mono ?_
 rintro e w1 ⟨p,t,rfl,h1,h2,h3,h4⟩
 have H4:=zh h4
 clear h4 HM
 go_wp2
 go_ret
 exact⟨p,t,rfl,h1,h2,h3,H4.out⟩

def PivPost (g cap a b:Nat)(xs:List Int)(w:World)(e:Ending)(w':World):Prop:=
 ∃(p:Nat) (hint:Int),e= .returned (.tuple #[.int .i64 p, .int .i64 hint])/\a<p/\p+1<b/\(hint=0\/hint=1\/hint=2)/\RowU w' g cap xs/\Below w.heap.size w w'
theorem CtSt.below {g cap sb s:Nat}{xs:List Int}{w u:World}(h:CtSt g cap sb s xs (w.alloc (.cells #[.int .i64 0] (3))) u)(hs:sb=w.heap.size):RowU u g cap xs/\Below w.heap.size w u:=by
 refine⟨h.row,?_⟩
 have h1:Below w.heap.size w (w.alloc (.cells #[.int .i64 0] (3))):=zb.alloc zr _
 exact h1.grown h.grown h1.size (fun k e=>by cases e;omega)
set_option maxHeartbeats 2000000 in
theorem zvg (g cap a b N:Nat)(xs:List Int)(hN:xs.length=N)(hb:b<=N)(hab:a+12<b)(w:World)(h:RowU w g cap xs)(hl:N<1000000):
  Calls Tryz.prog (120) #[.slice (some ⟨g,0,none⟩) N cap, .int .i64 a, .int .i64 b] w (PivPost g cap a b xs w):=by
 obtain⟨n,hn⟩: ∃n,n=b - a:=⟨_,rfl⟩
 obtain⟨i,hi⟩: ∃i,i=a+n / 4:=⟨_,rfl⟩
 obtain⟨j,hj⟩: ∃j,j=a+n / 4*2:=⟨_,rfl⟩
 obtain⟨k,hk⟩: ∃k,k=a+n / 4*3:=⟨_,rfl⟩
 have en:(b:Int) - (a:Int)=(n:Int):=by omega
 have ei:(a:Int)+(n:Int)/ 4=(i:Int):=by omega
 have ej:(a:Int)+(n:Int)/ 4*2=(j:Int):=by omega
 have ek:(a:Int)+(n:Int)/ 4*3=(k:Int):=by omega
 have hgl:=h.lt
 have hst:CtSt g cap w.heap.size 0 xs (w.alloc (.cells #[.int .i64 0] (3))) (w.alloc (.cells #[.int .i64 0] (3))):=⟨h.below (zb.alloc zr _),zq3 rfl _,zqp _ _,by omega⟩
 have H:=zh hst
 have HN:=zh hN
 have hn8:(8:Int)<=(n:Int):=by omega
 have hbn:a+n=b:=by omega
 have hi1:a+3<=i/\i+3<=b/\a+3<=j/\j+3<=b/\a+3<=k/\k+3<=b:=by omega
 have HB:=zh hbn
 have HI:=zh hi1
 clear hst h hN hn hi hj hk hbn
 by_cases h50:50<=n
 ·have h50':(50:Int)<=(n:Int):=by omega
  clear hi1
  go_enter Tryz.func120,Tryz.ntmps120
  go_wp2_with fail
  clear en ei ej ek
  obtain⟨W,hW⟩: ∃W:World,W=w.alloc (.cells #[.int .i64 0] (3)):=⟨_,rfl⟩
  rw [<-hW] at H ⊢
  have HW:=zh hW
  clear hW
  refine(zje g cap w.heap.size 0 i N xs HN.out (by have:=HI.out;omega) (by have:=HI.out;omega) _ H.out.refl hl (by omega)).mono ?_
  rintro e w1 ⟨i',s1,rfl,i1,i2,i3,i4⟩
  have H1:=zh (H.out.trans i4)
  have hi':a+1<=i'/\i'+2<=b:=by have:=HI.out;omega
  clear i4 i1 i2
  go_wp2_with fail
  refine(zje g cap w.heap.size s1 j N xs HN.out (by have:=HI.out;omega) (by have:=HI.out;omega) _ H1.out.refl hl (by omega)).mono ?_
  rintro e w2 ⟨j',s2,rfl,i1,i2,j3,i4⟩
  have H2:=zh (H1.out.trans i4)
  have hj':a+1<=j'/\j'+2<=b:=by have:=HI.out;omega
  clear i4 i1 i2
  go_wp2_with fail
  refine(zje g cap w.heap.size s2 k N xs HN.out (by have:=HI.out;omega) (by have:=HI.out;omega) _ H2.out.refl hl (by omega)).mono ?_
  rintro e w3 ⟨k',s3,rfl,i1,i2,k3,i4⟩
  have H3:=zh (H2.out.trans i4)
  have hk':a+1<=k'/\k'+2<=b:=by have:=HI.out;omega
  clear i4 i1 i2
  go_wp2_with fail
  refine(zwd g cap w.heap.size s3 i' j' k' (a+1) (b - 2) N xs HN.out (by omega) (by omega) (by omega) (by omega) _ H3.out.refl hl (by omega)).mono ?_
  rintro e w4 ⟨p,s4,rfl,p1,p2,p3,i4⟩
  have H4:=zh (CtSt.below (by rw [<-HW.out];exact H3.out.trans i4) rfl)
  have s0:=zq0 i4.cnt 0
  simp at s0
  clear i4 H H1 H2 H3 hi' hj' hk' HI HW
  by_cases h0:s4=0
  ·subst h0
   go_wp2
   go_ret2
   exact⟨p,1,rfl,by omega,by omega, .inr (.inl rfl),H4.out.1,H4.out.2⟩
  ·have e0:((s4:Int)==0)=false:=by simp;omega
   by_cases h12:s4=12
   ·subst h12
    go_wp2
    go_ret2
    exact⟨p,2,rfl,by omega,by omega, .inr (.inr rfl),H4.out.1,H4.out.2⟩
   ·have e12:((s4:Int)==12)=false:=by simp;omega
    go_wp2
    go_ret2
    exact⟨p,0,rfl,by omega,by omega, .inl rfl,H4.out.1,H4.out.2⟩
 ·have h50': ¬(50:Int)<=(n:Int):=by omega
  clear hi1
  go_enter Tryz.func120,Tryz.ntmps120
  go_wp2_with fail
  clear en ei ej ek
  obtain⟨W,hW⟩: ∃W:World,W=w.alloc (.cells #[.int .i64 0] (3)):=⟨_,rfl⟩
  rw [<-hW] at H ⊢
  have HW:=zh hW
  clear hW
  refine(zwd g cap w.heap.size 0 i j k (a+1) (b - 2) N xs HN.out (by have:=HI.out;omega) (by have:=HI.out;omega) (by have:=HI.out;omega) (by omega) _ H.out.refl hl (by omega)).mono ?_
  rintro e w4 ⟨p,s4,rfl,p1,p2,p3,i4⟩
  have H4:=zh (CtSt.below (by rw [<-HW.out];exact H.out.trans i4) rfl)
  have s0:=zq0 i4.cnt 0
  simp at s0
  clear i4 H HI HW
  by_cases h0:s4=0
  ·subst h0
   go_wp2
   go_ret2
   exact⟨p,1,rfl,by omega,by omega, .inr (.inl rfl),H4.out.1,H4.out.2⟩
  ·have e0:((s4:Int)==0)=false:=by simp;omega
   by_cases h12:s4=12
   ·subst h12
    go_wp2
    go_ret2
    exact⟨p,2,rfl,by omega,by omega, .inr (.inr rfl),H4.out.1,H4.out.2⟩
   ·have e12:((s4:Int)==12)=false:=by simp;omega
    go_wp2
    go_ret2
    exact⟨p,0,rfl,by omega,by omega, .inl rfl,H4.out.1,H4.out.2⟩
end Go.Proofs.YtchcelodeepjdaaGreatDoor.Vx

namespace Go.Proofs.YtchcelodeepjdaaGreatDoor.Vx
open Go.RowKit Go.Herb

set_option maxHeartbeats 4000000 in
theorem yxu (g cap a b N:Nat)(xs:List Int)(hN:xs.length=N)(hb:b<=N)(hab:a<b)(w:World)(h:RowU w g cap xs)(hl:N<1000000):
  Calls Tryz.prog (118) #[.slice (some ⟨g,0,none⟩) N cap, .int .i64 a, .int .i64 b] w (zqd a b (SortR a b) g cap xs w):=by
 have H:Hid (RowSt g cap w w xs):=zh ⟨h,zqp _ _⟩
 have HN:=zh hN
 clear h hN
 obtain⟨n,hn⟩: ∃n,n=b - a:=⟨_,rfl⟩
 have en:(b:Int) - (a:Int)=(n:Int):=by omega
 have hb2:a+n=b:=by omega
 have hn0:0<n:=by omega
 have HB2:=zh hb2
 have hanN:a+n<=N:=by omega
 clear hn hb2 hb hab
 go_enter Tryz.func118,Tryz.ntmps118
 go_wp2_with fail
 clear en
 go_loopg [9] ((n - 1)/ 2+1) (fun gk iv wr=> ∃(ys:List Int),gk<=(n - 1)/ 2+1/\iv= .int .i64 ((gk:Int) - 1)/\Hid (HeapR a gk n ys)/\Hid (InR a (a+n) xs ys)/\RowSt g cap w wr ys)
 case atStart=>
  refine⟨xs,zr,?_,zh (HeapR.none _ _ (by omega)),zh (InR.refl _ _ _),H.out⟩
  first|rfl|(congr 1;omega)
 case round=>
  obtain⟨ys,hk,rfl,HH,HI,hst⟩:=hrel
  have HST:=zh hst
  have HYL:=zh (show ys.length=N from by rw [HI.out.len];exact HN.out)
  clear hst
  cases gk with
  |zero=>
   clear hk H
   go_wp2_with fail
   go_loopg [10] n (fun gk iv wr=> ∃(ys:List Int),gk<=n/\iv= .int .i64 ((gk:Int) - 1)/\Hid (PopR a gk n ys)/\Hid (InR a (a+n) xs ys)/\RowSt g cap w wr ys)
   case atStart=>exact⟨ys,zr,rfl,zh (PopR.start HH.out),HI,HST.out⟩
   case round=>
    clear HST HI HH HYL
    obtain⟨zs,hk,rfl,HP,HI,hst⟩:=hrel
    have HST:=zh hst
    have HYL:=zh (show zs.length=N from by rw [HI.out.len];exact HN.out)
    clear hst
    cases gk with
    |zero=>
     go_wp2_with fail
     go_end0
     exact⟨rfl,zs,by rw [<-HB2.out];exact HI.out,by rw [<-HB2.out];exact HP.out.done,HST.out.row,HST.out.grown⟩
    |succ i=>
     have hq1:(((i+1:Nat):Int) - 1)=(i:Int):=by omega
     rw [hq1]
     clear hq1
     obtain⟨hp1,hp2⟩:=PopR.step HP.out (by omega) (by have:=HYL.out;omega)
     have HP1:=zh hp1
     have HP2:=zh hp2
     clear hp1 hp2
     have c0:=zq5 HST.out.row a (by have:=HYL.out;omega)
     have d0:=zq5 HST.out.row (a+i) (by have:=HYL.out;omega)
     have f0:=HST.out.row.frozen a
     have g0:=HST.out.row.frozen (a+i)
     have ra:(a:Int)<(N:Int):=by omega
     have hst2:=HST.out.swap a (a+i)
     have hsl:(swq zs a (a+i)).length=N:=by rw [zjg];exact HYL.out
     have hsd:=fun(W:World) (hW:RowU W g cap (swq zs a (a+i)))=>zwv g cap a 0 i N (swq zs a (a+i)) hsl (by omega) (by omega) W hW hl HP1.out
     have HSD:=zh hsd
     have HSI:=zh (show InR a (a+n) zs (swq zs a (a+i))from InR.swq (by have:=HYL.out;omega) (by omega) (by omega) (by omega) (by omega))
     have HST2:=zh hst2
     clear hst2 hsl hsd
     rcases Nat.eq_zero_or_pos i with rfl|hi0
     ·simp only [Nat.add_zero] at c0 d0 f0 g0 HST2 HSD HSI
      clear d0 g0
      go_wp2_with fail
      go_region
      clear c0 f0 ra
      go_wp2_with fail
      refine(HSD.out _ HST2.out.row).mono ?_
      rintro e w3 ⟨rfl,ys2,hi2,hq2,hr2,hg2⟩
      have HI2:=zh hi2
      have HQ2:=zh hq2
      have HST3:Hid (RowSt g cap w w3 ys2):=zh ⟨hr2,zqh HST2.out.grown hg2⟩
      clear hi2 hq2 hr2 hg2 HSD HST2
      go_wp2
      go_roundg 0
      case measure=>omega
      case rel=>exact⟨ys2,by omega,by go_num,zh (HP2.out _ HI2.out HQ2.out),zh (HI.out.trans (HSI.out.trans (HI2.out.mono zr (by omega)))),HST3.out⟩
     ·have w1:IntKind.i64.wrap ((a:Int)+(i:Int))=(a:Int)+(i:Int):=IntWalk.i64_in _ (by omega)
      have p1:(0:Int)<=(a:Int)+(i:Int):=by omega
      have q1:((a:Int)+(i:Int)).toNat=a+i:=by omega
      have r1:(a:Int)+(i:Int)<(N:Int):=by omega
      have hne: ¬a=a+i:=by omega
      go_wp2_with fail
      go_region
      clear w1 p1 q1 r1 hne c0 d0 f0 g0 ra
      go_wp2_with fail
      refine(HSD.out _ HST2.out.row).mono ?_
      rintro e w3 ⟨rfl,ys2,hi2,hq2,hr2,hg2⟩
      have HI2:=zh hi2
      have HQ2:=zh hq2
      have HST3:Hid (RowSt g cap w w3 ys2):=zh ⟨hr2,zqh HST2.out.grown hg2⟩
      clear hi2 hq2 hr2 hg2 HSD HST2
      go_wp2
      go_roundg i
      case measure=>omega
      case rel=>exact⟨ys2,by omega,by go_num,zh (HP2.out _ HI2.out HQ2.out),zh (HI.out.trans (HSI.out.trans (HI2.out.mono zr (by omega)))),HST3.out⟩
  |succ i=>
   have hq1:(((i+1:Nat):Int) - 1)=(i:Int):=by omega
   rw [hq1]
   clear hq1
   have HSD:=zh (zwv g cap a i n N ys HYL.out hanN (by omega) wr HST.out.row hl HH.out)
   go_wp2_with fail
   refine(HSD.out).mono ?_
   rintro e w3 ⟨rfl,ys2,hi2,hq2,hr2,hg2⟩
   have HI2:=zh hi2
   have HQ2:=zh hq2
   have HST3:Hid (RowSt g cap w w3 ys2):=zh ⟨hr2,zqh HST.out.grown hg2⟩
   clear hi2 hq2 hr2 hg2 HSD HST
   go_wp2
   go_roundg i
   case measure=>omega
   case rel=>exact⟨ys2,by omega,by go_num,HQ2,zh (HI.out.trans HI2.out),HST3.out⟩

set_option maxHeartbeats 2000000 in
theorem yjw (g cap a b N:Nat)(xs:List Int)(hN:xs.length=N)(hb:b<=N)(hab:a<b)(w:World)(h:RowU w g cap xs)(hl:N<1000000):
  Calls Tryz.prog (121) #[.slice (some ⟨g,0,none⟩) N cap, .int .i64 a, .int .i64 b] w (zqd a b (fun _=>True) g cap xs w):=by
 have H:Hid (RowSt g cap w w xs):=zh ⟨h,zqp _ _⟩
 have HN:=zh hN
 clear h hN
 obtain⟨c,hc⟩: ∃c,c=b - 1:=⟨_,rfl⟩
 have en:(b:Int) - 1=(c:Int):=by omega
 have hcb:c+1=b:=by omega
 clear hc
 go_enter Tryz.func121,Tryz.ntmps121
 go_wp2_with fail
 clear en
 go_loopg [6,7] c (fun gk iv jv wr=> ∃(i j:Nat) (ys:List Int),gk=j/\a<=i/\j<=c/\a<=j+1/\i<=c+1/\iv= .int .i64 i/\jv= .int .i64 j/\Hid (InR a b xs ys)/\RowSt g cap w wr ys)
 case atStart=>exact⟨a,c,xs,rfl,zr,zr,by omega,by omega,rfl,rfl,zh (InR.refl _ _ _),H.out⟩
 case round=>
  obtain⟨i,j,ys,hk,hai,hjc,haj,hic,rfl,rfl,HI,hst⟩:=hrel
  have HST:=zh hst
  have HYL:=zh (show ys.length=N from by rw [HI.out.len];exact HN.out)
  clear hst H
  by_cases hij:i<j
  ·have c0:=zq5 HST.out.row i (by have:=HYL.out;omega)
   have d0:=zq5 HST.out.row j (by have:=HYL.out;omega)
   have f0:=HST.out.row.frozen i
   have g0:=HST.out.row.frozen j
   have r1:(i:Int)<(N:Int):=by omega
   have r2:(j:Int)<(N:Int):=by omega
   have hij':(i:Int)<(j:Int):=by omega
   have hne: ¬i=j:=by omega
   have HST2:=zh (HST.out.swap i j)
   go_wp2_with fail
   go_region
   clear c0 d0 f0 g0 r1 r2 hne HST
   have ej:(j:Int) - 1=((j - 1:Nat):Int):=by omega
   go_wp2
   go_roundg(j - 1)
   case measure=>omega
   case rel=>exact⟨i+1,j - 1,swq ys i j,rfl,by omega,by omega,by omega,by omega,by go_num,by first|rfl|go_num,zh (HI.out.trans (InR.swq (by have:=HYL.out;omega) (by omega) (by omega) (by omega) (by omega))),HST2.out⟩
  ·have hij': ¬(i:Int)<(j:Int):=by omega
   go_wp2_with fail
   go_end0
   exact⟨rfl,ys,HI.out,trivial,HST.out.row,HST.out.grown⟩
end Go.Proofs.YtchcelodeepjdaaGreatDoor.Vx
