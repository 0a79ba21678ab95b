/- Lemmas and walks towards ManifestsFold. Conditions: each one tells its own. -/
import Derived.Test.YtchcelodeepjdaaGreatDoorMp
import Derived.Test.YtchcelodeepjdaaGreatDoorO5
import Derived.Deep.Cut
import Derived.Deep.CutBlock
import Derived.Deep.DeepCutAuto
import Derived.Shelf.SlSortCmp.Xorshift
import Derived.Test.YtchcelodeepjdaaGreatDoorProg
namespace Go.Herb
open Go.RowKit
theorem PartR.up {lt:Int->Int->Prop}{a b i j:Nat}{p:Int}{xs:List Int}(h:PartR lt a b i j p xs)(hl:lt (at_ xs i) p):PartR lt a b (i+1) j p xs:=
 ⟨h.at0,fun k h1 h2=>by
  rcases Nat.lt_or_eq_of_le (Nat.le_of_lt_succ h2)with h3|h3
  ·exact h.low k h1 h3
  ·rw [h3];exact hl,h.high⟩
theorem PartR.down {lt:Int->Int->Prop}{a b i j:Nat}{p:Int}{xs:List Int}(h:PartR lt a b i j p xs)(hl: ¬lt (at_ xs j) p):PartR lt a b i (j - 1) p xs:=
 ⟨h.at0,h.low,fun k h1 h2=>by
  rcases Nat.lt_or_ge j k with h3|h3
  ·exact h.high k h3 h2
  ·rw [show k=j by omega];exact hl⟩
theorem PartR.start {lt:Int->Int->Prop}{a b:Nat}{xs:List Int}:PartR lt a b (a+1) (b - 1) (at_ xs a) xs:=
 ⟨rfl,fun k h1 h2=>by omega,fun k h1 h2=>by omega⟩
end Go.Herb
namespace Go.Proofs.YtchcelodeepjdaaGreatDoor.Vx
open Go.RowKit Go.Herb


def PartPost (g cap a b:Nat)(p:Int)(xs:List Int)(w:World)(e:Ending)(w':World):Prop:=
 ∃(m:Nat) (fl:Bool) (ys:List Int),e= .returned (.tuple #[.int .i64 m, .bool fl])/\a<=m/\m<b/\InR a b xs ys/\at_ ys m=p/\(∀k,a<=k->k<m->at_ ys k<p)/\(∀k,m<k->k<b-> ¬at_ ys k<p)/\RowU w' g cap ys/\w.grownBy w' (some g)
set_option maxRecDepth 100000 in
set_option maxHeartbeats 8000000 in
theorem yqx (g cap a b pv N:Nat)(p:Int)(xs:List Int)(hN:xs.length=N)(hb:b<=N)(hpa:a<pv)(hpb:pv<b)(hp:p=at_ xs pv)(w:World)(h:RowU w g cap xs)(hl:N<1000000):
  Calls Tryz.prog (125) #[.slice (some ⟨g,0,none⟩) N cap, .int .i64 a, .int .i64 b, .int .i64 pv] w (PartPost g cap a b p xs w):=by
 have H:Hid (RowSt g cap w w xs):=zh ⟨h,zqp _ _⟩
 have HN:=zh hN
 have c0:=zq5 h a (by omega)
 have d0:w.cell? ⟨g,pv,none⟩=some (.int .u64 p):=by rw [hp];exact zq5 h pv (by omega)
 have f0:=h.frozen a
 have g0:=h.frozen pv
 have r1:(a:Int)<(N:Int):=by omega
 have r2:(pv:Int)<(N:Int):=by omega
 have hne: ¬a=pv:=by omega
 have hst0:=H.out.swap a pv
 rw [<-hp] at hst0
 have HST:=zh hst0
 clear hst0
 have HI:=zh (InR.swq (a:=a) (b:=b) (i:=a) (j:=pv) (xs:=xs) (by omega) (by omega) (by omega) (by omega) (by omega))
 have HYL:=zh (show(swq xs a pv).length=N from by rw [zjg];exact hN)
 have hpv:at_ (swq xs a pv) a=p:=by rw [hp,zk3 (by omega) (by omega),if_neg (by omega),if_pos rfl]
 have HPV:=zh hpv
 clear h hN hpv hp
 go_enter Tryz.func125,Tryz.ntmps125
 go_wp2_with fail
 go_region
 clear c0 d0 f0 g0 r1 r2 hne H
 obtain⟨i,hi⟩: ∃i,i=a+1:=⟨_,rfl⟩
 obtain⟨j,hj⟩: ∃j,j=b - 1:=⟨_,rfl⟩
 have ei:(a:Int)+1=(i:Int):=by omega
 have ej:(b:Int) - 1=(j:Int):=by omega
 have hps:PartR (fun x y:Int=>x<y) a b i j p (swq xs a pv):=by
  have:=PartR.start (lt:=(fun x y:Int=>x<y)) (a:=a) (b:=b) (xs:=swq xs a pv)
  rw [HPV.out,<-hi,<-hj] at this
  exact this
 have HP:=zh hps
 generalize swq xs a pv=ys at*
 clear hps HPV
 have hai:a<i:=by omega
 have hjb:j<b:=by omega
 have hij:i<=j:=by omega
 clear hi hj
 go_upto_block 0 with fail
 go_cut [10] (fun iv wx=> ∃i2:Nat,iv= .int .i64 i2/\i<=i2/\i2<=j+1/\Hid (PartR (fun x y:Int=>x<y) a b i2 j p ys)/\Hid (j<i2\/ ¬(fun x y:Int=>x<y) (at_ ys i2) p)/\RowSt g cap w wx ys)
 case first=>
  go_wp2_with fail
  go_loopg [10] (j+1 - i) (fun gk iv wr=> ∃i2:Nat,i2+gk=j+1/\i<=i2/\iv= .int .i64 i2/\Hid (PartR (fun x y:Int=>x<y) a b i2 j p ys)/\RowSt g cap w wr ys)
  case atStart=>exact⟨i,by omega,zr,rfl,HP,HST.out⟩
  case round=>
   obtain⟨i2,hk,hii,rfl,HP2,hst⟩:=hrel
   have HST2:=zh hst
   clear hst HST HP
   by_cases hle:i2<=j
   ·have hle':(i2:Int)<=(j:Int):=by omega
    have c0:=zq5 HST2.out.row i2 (by have:=HYL.out;omega)
    have d0:=zq5 HST2.out.row a (by have:=HYL.out;omega)
    have r1:(i2:Int)<(N:Int):=by omega
    have r2:(a:Int)<(N:Int):=by omega
    by_cases hs:at_ ys i2<at_ ys a
    ·have HL:=zh hs
     clear hs
     go_wp2_with fail
     go_quiet ((go_at_call 123;exact Calls.quiet_of_same (zzc HL.out _)))
     clear c0 d0 r1 r2
     have HST3:=zh (HST2.out.drewN nq)
     go_wp2
     go_roundg(gk - 1)
     case measure=>omega
     case rel=>exact⟨i2+1,by omega,by omega,by go_num,zh (HP2.out.up (by have:=HP2.out.at0;rw [<-this];exact HL.out)),HST3.out⟩
    ·have HL:=zh (Int.not_lt.1 hs)
     clear hs
     go_wp2_with fail
     go_quiet ((go_at_call 123;exact Calls.quiet_of_same (zzb HL.out _)))
     clear c0 d0 r1 r2
     have HST3:=zh (HST2.out.drewN nq)
     go_wp2_with fail
     go_meet
     exact⟨i2,rfl,hii,by omega,HP2,zh (.inr (by have:=HP2.out.at0;rw [<-this];first|exact HL.out|exact Int.not_lt.2 HL.out|exact Int.not_le.2 HL.out)),HST3.out⟩
   ·have hle': ¬(i2:Int)<=(j:Int):=by omega
    go_wp2_with fail
    go_quiet (fail)
    have HST3:=zh (HST2.out.drewN nq)
    go_wp2_with fail
    go_meet
    exact⟨i2,rfl,hii,by omega,HP2,zh (.inl (by omega)),HST3.out⟩
 case rest=>
 obtain⟨i2,rfl,hii,hij2,HP2,HX,hst⟩:=hcut
 have HST2:=zh hst
 clear hst HST HP
 go_upto_block 2 with fail
 go_cut [11] (fun jv wx=> ∃j2:Nat,jv= .int .i64 j2/\j2<=j/\i2<=j2+1/\Hid (PartR (fun x y:Int=>x<y) a b i2 j2 p ys)/\Hid (j2<i2\/(fun x y:Int=>x<y) (at_ ys j2) p)/\RowSt g cap w wx ys)
 case first=>
  go_wp2_with fail
  go_loopg [11] j (fun gk jv wr=> ∃j2:Nat,gk=j2/\j2<=j/\i2<=j2+1/\jv= .int .i64 j2/\Hid (PartR (fun x y:Int=>x<y) a b i2 j2 p ys)/\RowSt g cap w wr ys)
  case atStart=>exact⟨j,rfl,zr,by omega,rfl,HP2,HST2.out⟩
  case round=>
   obtain⟨j2,hk,hjj,hij3,rfl,HP3,hst⟩:=hrel
   have HST3:=zh hst
   clear hst HST2 HP2
   by_cases hle:i2<=j2
   ·have hle':(i2:Int)<=(j2:Int):=by omega
    have c0:=zq5 HST3.out.row j2 (by have:=HYL.out;omega)
    have d0:=zq5 HST3.out.row a (by have:=HYL.out;omega)
    have r1:(j2:Int)<(N:Int):=by omega
    have r2:(a:Int)<(N:Int):=by omega
    by_cases hs:at_ ys a<=at_ ys j2
    ·have HL:=zh hs
     clear hs
     go_wp2_with fail
     go_quiet ((go_at_call 123;exact Calls.quiet_of_same (zzb HL.out _)))
     clear c0 d0 r1 r2
     have HST4:=zh (HST3.out.drewN nq)
     go_wp2
     go_roundg(j2 - 1)
     case measure=>omega
     case rel=>exact⟨j2 - 1,rfl,by omega,by omega,by first|rfl|go_num,zh (HP3.out.down (by have:=HP3.out.at0;rw [<-this];exact(fun h=>by have h1:=HL.out;have h2:at_ ys j2<at_ ys a:=h;omega))),HST4.out⟩
    ·have HL:=zh (Int.not_le.1 hs)
     clear hs
     go_wp2_with fail
     go_quiet ((go_at_call 123;exact Calls.quiet_of_same (zzc HL.out _)))
     clear c0 d0 r1 r2
     have HST4:=zh (HST3.out.drewN nq)
     go_wp2_with fail
     go_meet
     exact⟨j2,rfl,hjj,hij3,HP3,zh (.inr (by have:=HP3.out.at0;rw [<-this];exact HL.out)),HST4.out⟩
   ·have hle': ¬(i2:Int)<=(j2:Int):=by omega
    go_wp2_with fail
    go_quiet (fail)
    have HST4:=zh (HST3.out.drewN nq)
    go_wp2_with fail
    go_meet
    exact⟨j2,rfl,hjj,hij3,HP3,zh (.inl (by omega)),HST4.out⟩
 case rest=>
 obtain⟨j2,rfl,hjj,hij3,HP3,HX3,hst⟩:=hcut
 have HST3:=zh hst
 clear hst HST2 HP2
 by_cases hle:i2<=j2
 ·have hle': ¬(j2:Int)<(i2:Int):=by omega
  have hni: ¬(fun x y:Int=>x<y) (at_ ys i2) p:=by rcases HX.out with h|h;omega;exact h
  have hlj:(fun x y:Int=>x<y) (at_ ys j2) p:=by rcases HX3.out with h|h;omega;exact h
  obtain⟨hne,hps⟩:=PartR.swap HP3.out (by have:=HYL.out;omega) (by omega) hle (by omega) hni hlj
  have HPS:=zh hps
  have c0:=zq5 HST3.out.row i2 (by have:=HYL.out;omega)
  have d0:=zq5 HST3.out.row j2 (by have:=HYL.out;omega)
  have f0:=HST3.out.row.frozen i2
  have g0:=HST3.out.row.frozen j2
  have r1:(i2:Int)<(N:Int):=by omega
  have r2:(j2:Int)<(N:Int):=by omega
  have HST4:=zh (HST3.out.swap i2 j2)
  have HI4:=zh (HI.out.trans (InR.swq (a:=a) (b:=b) (i:=i2) (j:=j2) (by have:=HYL.out;omega) (by omega) (by omega) (by omega) (by omega)))
  have HY4:=zh (show(swq ys i2 j2).length=N from by rw [zjg];exact HYL.out)
  clear hni hlj hps HP3 HX HX3
  go_wp2_with fail
  go_region
  clear c0 d0 f0 g0 r1 r2 HST3 HI HYL
  obtain⟨i,hi⟩: ∃i,i=i2+1:=⟨_,rfl⟩
  obtain⟨j,hj⟩: ∃j,j=j2 - 1:=⟨_,rfl⟩
  rw [<-hi,<-hj] at HPS
  generalize swq ys i2 j2=zs at*
  have ei2:(i2:Int)+1=(i:Int):=by omega
  have ej2:(j2:Int) - 1=(j:Int):=by omega
  have hai2:a<i:=by omega
  have hjb2:j<b:=by omega
  have hij2:i<=j+1:=by omega
  have hdec:j<j2:=by omega
  clear hi hj
  go_wp2_with fail
  clear ei2 ej2
  go_loopg [10,11] (j+1) (fun gk iv jv wr=> ∃(i0 j0:Nat) (us:List Int),gk=j0+1/\a<i0/\j0<b/\i0<=j0+1/\iv= .int .i64 i0/\jv= .int .i64 j0/\Hid (PartR (fun x y:Int=>x<y) a b i0 j0 p us)/\Hid (InR a b xs us)/\RowSt g cap w wr us)
  case atStart=>exact⟨i,j,zs,rfl,hai2,hjb2,hij2,rfl,rfl,HPS,HI4,HST4.out⟩
  case round=>
   clear HPS HI4 HST4 HY4
   clear hai2 hjb2 hij2
   clear hne hle' hle hjj hij3 hii
   clear hai hjb hij
   obtain⟨i,j,ys,hgk,hai,hjb,hij,rfl,rfl,HP,HI,hst⟩:=hrel
   have HST:=zh hst
   have HYL:=zh (show ys.length=N from by rw [HI.out.len];exact HN.out)
   clear hst
   go_upto_block 6 with fail
   go_cut [10] (fun iv wx=> ∃i2:Nat,iv= .int .i64 i2/\i<=i2/\i2<=j+1/\Hid (PartR (fun x y:Int=>x<y) a b i2 j p ys)/\Hid (j<i2\/ ¬(fun x y:Int=>x<y) (at_ ys i2) p)/\RowSt g cap w wx ys)
   case first=>
    go_wp2_with fail
    go_loopg [10] (j+1 - i) (fun gk iv wr=> ∃i2:Nat,i2+gk=j+1/\i<=i2/\iv= .int .i64 i2/\Hid (PartR (fun x y:Int=>x<y) a b i2 j p ys)/\RowSt g cap w wr ys)
    case atStart=>exact⟨i,by omega,zr,rfl,HP,HST.out⟩
    case round=>
     obtain⟨i2,hk,hii,rfl,HP2,hst⟩:=hrel
     have HST2:=zh hst
     clear hst HST HP
     by_cases hle:i2<=j
     ·have hle':(i2:Int)<=(j:Int):=by omega
      have c0:=zq5 HST2.out.row i2 (by have:=HYL.out;omega)
      have d0:=zq5 HST2.out.row a (by have:=HYL.out;omega)
      have r1:(i2:Int)<(N:Int):=by omega
      have r2:(a:Int)<(N:Int):=by omega
      by_cases hs:at_ ys i2<at_ ys a
      ·have HL:=zh hs
       clear hs
       go_wp2_with fail
       go_quiet ((go_at_call 123;exact Calls.quiet_of_same (zzc HL.out _)))
       clear c0 d0 r1 r2
       have HST3:=zh (HST2.out.drewN nq)
       go_wp2
       go_roundg(gk - 1)
       case measure=>omega
       case rel=>exact⟨i2+1,by omega,by omega,by go_num,zh (HP2.out.up (by have:=HP2.out.at0;rw [<-this];exact HL.out)),HST3.out⟩
      ·have HL:=zh (Int.not_lt.1 hs)
       clear hs
       go_wp2_with fail
       go_quiet ((go_at_call 123;exact Calls.quiet_of_same (zzb HL.out _)))
       clear c0 d0 r1 r2
       have HST3:=zh (HST2.out.drewN nq)
       go_wp2_with fail
       go_meet
       exact⟨i2,rfl,hii,by omega,HP2,zh (.inr (by have:=HP2.out.at0;rw [<-this];first|exact HL.out|exact Int.not_lt.2 HL.out|exact Int.not_le.2 HL.out)),HST3.out⟩
     ·have hle': ¬(i2:Int)<=(j:Int):=by omega
      go_wp2_with fail
      go_quiet (fail)
      have HST3:=zh (HST2.out.drewN nq)
      go_wp2_with fail
      go_meet
      exact⟨i2,rfl,hii,by omega,HP2,zh (.inl (by omega)),HST3.out⟩
   case rest=>
   obtain⟨i2,rfl,hii,hij2,HP2,HX,hst⟩:=hcut
   have HST2:=zh hst
   clear hst HST HP
   go_upto_block 8 with fail
   go_cut [11] (fun jv wx=> ∃j2:Nat,jv= .int .i64 j2/\j2<=j/\i2<=j2+1/\Hid (PartR (fun x y:Int=>x<y) a b i2 j2 p ys)/\Hid (j2<i2\/(fun x y:Int=>x<y) (at_ ys j2) p)/\RowSt g cap w wx ys)
   case first=>
    go_wp2_with fail
    go_loopg [11] j (fun gk jv wr=> ∃j2:Nat,gk=j2/\j2<=j/\i2<=j2+1/\jv= .int .i64 j2/\Hid (PartR (fun x y:Int=>x<y) a b i2 j2 p ys)/\RowSt g cap w wr ys)
    case atStart=>exact⟨j,rfl,zr,by omega,rfl,HP2,HST2.out⟩
    case round=>
     obtain⟨j2,hk,hjj,hij3,rfl,HP3,hst⟩:=hrel
     have HST3:=zh hst
     clear hst HST2 HP2
     by_cases hle:i2<=j2
     ·have hle':(i2:Int)<=(j2:Int):=by omega
      have c0:=zq5 HST3.out.row j2 (by have:=HYL.out;omega)
      have d0:=zq5 HST3.out.row a (by have:=HYL.out;omega)
      have r1:(j2:Int)<(N:Int):=by omega
      have r2:(a:Int)<(N:Int):=by omega
      by_cases hs:at_ ys a<=at_ ys j2
      ·have HL:=zh hs
       clear hs
       go_wp2_with fail
       go_quiet ((go_at_call 123;exact Calls.quiet_of_same (zzb HL.out _)))
       clear c0 d0 r1 r2
       have HST4:=zh (HST3.out.drewN nq)
       go_wp2
       go_roundg(j2 - 1)
       case measure=>omega
       case rel=>exact⟨j2 - 1,rfl,by omega,by omega,by first|rfl|go_num,zh (HP3.out.down (by have:=HP3.out.at0;rw [<-this];exact(fun h=>by have h1:=HL.out;have h2:at_ ys j2<at_ ys a:=h;omega))),HST4.out⟩
      ·have HL:=zh (Int.not_le.1 hs)
       clear hs
       go_wp2_with fail
       go_quiet ((go_at_call 123;exact Calls.quiet_of_same (zzc HL.out _)))
       clear c0 d0 r1 r2
       have HST4:=zh (HST3.out.drewN nq)
       go_wp2_with fail
       go_meet
       exact⟨j2,rfl,hjj,hij3,HP3,zh (.inr (by have:=HP3.out.at0;rw [<-this];exact HL.out)),HST4.out⟩
     ·have hle': ¬(i2:Int)<=(j2:Int):=by omega
      go_wp2_with fail
      go_quiet (fail)
      have HST4:=zh (HST3.out.drewN nq)
      go_wp2_with fail
      go_meet
      exact⟨j2,rfl,hjj,hij3,HP3,zh (.inl (by omega)),HST4.out⟩
   case rest=>
   obtain⟨j2,rfl,hjj,hij3,HP3,HX3,hst⟩:=hcut
   have HST3:=zh hst
   clear hst HST2 HP2
   by_cases hle:i2<=j2
   ·have hle': ¬(j2:Int)<(i2:Int):=by omega
    have hni: ¬(fun x y:Int=>x<y) (at_ ys i2) p:=by rcases HX.out with h|h;omega;exact h
    have hlj:(fun x y:Int=>x<y) (at_ ys j2) p:=by rcases HX3.out with h|h;omega;exact h
    obtain⟨hne,hps⟩:=PartR.swap HP3.out (by have:=HYL.out;omega) (by omega) hle (by omega) hni hlj
    have HPS:=zh hps
    have c0:=zq5 HST3.out.row i2 (by have:=HYL.out;omega)
    have d0:=zq5 HST3.out.row j2 (by have:=HYL.out;omega)
    have f0:=HST3.out.row.frozen i2
    have g0:=HST3.out.row.frozen j2
    have r1:(i2:Int)<(N:Int):=by omega
    have r2:(j2:Int)<(N:Int):=by omega
    have HST4:=zh (HST3.out.swap i2 j2)
    have HI4:=zh (HI.out.trans (InR.swq (a:=a) (b:=b) (i:=i2) (j:=j2) (by have:=HYL.out;omega) (by omega) (by omega) (by omega) (by omega)))
    have HY4:=zh (show(swq ys i2 j2).length=N from by rw [zjg];exact HYL.out)
    clear hni hlj hps HP3 HX HX3
    go_wp2_with fail
    go_region
    clear c0 d0 f0 g0 r1 r2 HST3 HI HYL
    obtain⟨i,hi⟩: ∃i,i=i2+1:=⟨_,rfl⟩
    obtain⟨j,hj⟩: ∃j,j=j2 - 1:=⟨_,rfl⟩
    rw [<-hi,<-hj] at HPS
    generalize swq ys i2 j2=zs at*
    have ei2:(i2:Int)+1=(i:Int):=by omega
    have ej2:(j2:Int) - 1=(j:Int):=by omega
    have hai2:a<i:=by omega
    have hjb2:j<b:=by omega
    have hij2:i<=j+1:=by omega
    have hdec:j<j2:=by omega
    clear hi hj
    go_wp2_with fail
    clear ei2 ej2
    go_roundg(j+1)
    case measure=>omega
    case rel=>exact⟨i,j,zs,rfl,hai2,hjb2,hij2,rfl,rfl,HPS,HI4,HST4.out⟩
   ·have hle':(j2:Int)<(i2:Int):=by omega
    have hij4:i2=j2+1:=by omega
    obtain⟨f1,f2,f3⟩:=PartR.fin (a:=a) (b:=b) (j:=j2) (by have:=HP3.out;rwa [hij4] at this) (by have:=HYL.out;omega) (by omega) (by omega)
    have HF1:=zh f1
    have HF2:=zh (show∀k,a<=k->k<j2->at_ (swq ys j2 a) k<p from f2)
    have HF3:=zh (show∀k,j2<k->k<b-> ¬at_ (swq ys j2 a) k<p from f3)
    have c0:=zq5 HST3.out.row j2 (by have:=HYL.out;omega)
    have d0:=zq5 HST3.out.row a (by have:=HYL.out;omega)
    have f0:=HST3.out.row.frozen j2
    have g0:=HST3.out.row.frozen a
    have r1:(j2:Int)<(N:Int):=by omega
    have r2:(a:Int)<(N:Int):=by omega
    have HST4:=zh (HST3.out.swap j2 a)
    have HI4:=zh (HI.out.trans (InR.swq (a:=a) (b:=b) (i:=j2) (j:=a) (by have:=HYL.out;omega) (by omega) (by omega) (by omega) (by omega)))
    clear f1 f2 f3 HP3 HX HX3 hij4
    rcases Nat.eq_or_lt_of_le (show a<=j2 by omega)with hja|hja
    ·obtain rfl:j2=a:=hja.symm
     clear d0 g0 r2
     go_wp2_with fail
     go_region
     clear c0 f0 r1 HST3
     go_wp2_with fail
     go_ret2
     exact⟨j2,false,swq ys j2 j2,rfl,zr,by omega,HI4.out,HF1.out,HF2.out,fun k h1 h2=>Int.not_lt.2 (by simpa using HF3.out k h1 h2),HST4.out.row,HST4.out.grown⟩
    ·have hne: ¬j2=a:=by omega
     go_wp2_with fail
     go_region
     clear c0 d0 f0 g0 r1 r2 HST3
     go_wp2_with fail
     go_ret2
     exact⟨j2,false,swq ys j2 a,rfl,by omega,by omega,HI4.out,HF1.out,HF2.out,fun k h1 h2=>Int.not_lt.2 (by simpa using HF3.out k h1 h2),HST4.out.row,HST4.out.grown⟩
 ·have hle':(j2:Int)<(i2:Int):=by omega
  have hij4:i2=j2+1:=by omega
  obtain⟨f1,f2,f3⟩:=PartR.fin (a:=a) (b:=b) (j:=j2) (by have:=HP3.out;rwa [hij4] at this) (by have:=HYL.out;omega) (by omega) (by omega)
  have HF1:=zh f1
  have HF2:=zh (show∀k,a<=k->k<j2->at_ (swq ys j2 a) k<p from f2)
  have HF3:=zh (show∀k,j2<k->k<b-> ¬at_ (swq ys j2 a) k<p from f3)
  have c0:=zq5 HST3.out.row j2 (by have:=HYL.out;omega)
  have d0:=zq5 HST3.out.row a (by have:=HYL.out;omega)
  have f0:=HST3.out.row.frozen j2
  have g0:=HST3.out.row.frozen a
  have r1:(j2:Int)<(N:Int):=by omega
  have r2:(a:Int)<(N:Int):=by omega
  have HST4:=zh (HST3.out.swap j2 a)
  have HI4:=zh (HI.out.trans (InR.swq (a:=a) (b:=b) (i:=j2) (j:=a) (by have:=HYL.out;omega) (by omega) (by omega) (by omega) (by omega)))
  clear f1 f2 f3 HP3 HX HX3 hij4
  rcases Nat.eq_or_lt_of_le (show a<=j2 by omega)with hja|hja
  ·obtain rfl:j2=a:=hja.symm
   clear d0 g0 r2
   go_wp2_with fail
   go_region
   clear c0 f0 r1 HST3
   go_wp2_with fail
   go_ret2
   exact⟨j2,true,swq ys j2 j2,rfl,zr,by omega,HI4.out,HF1.out,HF2.out,fun k h1 h2=>Int.not_lt.2 (by simpa using HF3.out k h1 h2),HST4.out.row,HST4.out.grown⟩
  ·have hne: ¬j2=a:=by omega
   go_wp2_with fail
   go_region
   clear c0 d0 f0 g0 r1 r2 HST3
   go_wp2_with fail
   go_ret2
   exact⟨j2,true,swq ys j2 a,rfl,by omega,by omega,HI4.out,HF1.out,HF2.out,fun k h1 h2=>Int.not_lt.2 (by simpa using HF3.out k h1 h2),HST4.out.row,HST4.out.grown⟩

def ywf (g cap a b:Nat)(p:Int)(xs:List Int)(w:World)(e:Ending)(w':World):Prop:=
 ∃(m:Nat) (ys:List Int),e= .returned (.int .i64 m)/\a<m/\m<=b/\InR a b xs ys/\(∀k,a<=k->k<m->at_ ys k<=p)/\(∀k,m<=k->k<b-> ¬at_ ys k<=p)/\RowU w' g cap ys/\w.grownBy w' (some g)
set_option maxRecDepth 100000 in
set_option maxHeartbeats 8000000 in
theorem zvt (g cap a b pv N:Nat)(p:Int)(xs:List Int)(hN:xs.length=N)(hb:b<=N)(hpa:a<pv)(hpb:pv<b)(hp:p=at_ xs pv)(w:World)(h:RowU w g cap xs)(hl:N<1000000):
  Calls Tryz.prog (124) #[.slice (some ⟨g,0,none⟩) N cap, .int .i64 a, .int .i64 b, .int .i64 pv] w (ywf g cap a b p xs w):=by
 have H:Hid (RowSt g cap w w xs):=zh ⟨h,zqp _ _⟩
 have HN:=zh hN
 have c0:=zq5 h a (by omega)
 have d0:w.cell? ⟨g,pv,none⟩=some (.int .u64 p):=by rw [hp];exact zq5 h pv (by omega)
 have f0:=h.frozen a
 have g0:=h.frozen pv
 have r1:(a:Int)<(N:Int):=by omega
 have r2:(pv:Int)<(N:Int):=by omega
 have hne: ¬a=pv:=by omega
 have hst0:=H.out.swap a pv
 rw [<-hp] at hst0
 have HST:=zh hst0
 clear hst0
 have HI:=zh (InR.swq (a:=a) (b:=b) (i:=a) (j:=pv) (xs:=xs) (by omega) (by omega) (by omega) (by omega) (by omega))
 have HYL:=zh (show(swq xs a pv).length=N from by rw [zjg];exact hN)
 have hpv:at_ (swq xs a pv) a=p:=by rw [hp,zk3 (by omega) (by omega),if_neg (by omega),if_pos rfl]
 have HPV:=zh hpv
 clear h hN hpv hp
 go_enter Tryz.func124,Tryz.ntmps124
 go_wp2_with fail
 go_region
 clear c0 d0 f0 g0 r1 r2 hne H
 obtain⟨i,hi⟩: ∃i,i=a+1:=⟨_,rfl⟩
 obtain⟨j,hj⟩: ∃j,j=b - 1:=⟨_,rfl⟩
 have ei:(a:Int)+1=(i:Int):=by omega
 have ej:(b:Int) - 1=(j:Int):=by omega
 have hps:PartR (fun x y:Int=>x<=y) a b i j p (swq xs a pv):=by
  have:=PartR.start (lt:=(fun x y:Int=>x<=y)) (a:=a) (b:=b) (xs:=swq xs a pv)
  rw [HPV.out,<-hi,<-hj] at this
  exact this
 have HP:=zh hps
 generalize swq xs a pv=ys at*
 clear hps HPV
 have hai:a<i:=by omega
 have hjb:j<b:=by omega
 have hij:i<=j:=by omega
 clear hi hj
 go_wp2_with fail
 clear ei ej
 go_loopg [9,10] (j+1) (fun gk iv jv wr=> ∃(i0 j0:Nat) (us:List Int),gk=j0+1/\a<i0/\j0<b/\i0<=j0+1/\iv= .int .i64 i0/\jv= .int .i64 j0/\Hid (PartR (fun x y:Int=>x<=y) a b i0 j0 p us)/\Hid (InR a b xs us)/\RowSt g cap w wr us)
 case atStart=>exact⟨i,j,ys,rfl,hai,hjb,by omega,rfl,rfl,HP,HI,HST.out⟩
 case round=>
  clear HP HI HST HYL
  clear hai hjb hij
  obtain⟨i,j,ys,hgk,hai,hjb,hij,rfl,rfl,HP,HI,hst⟩:=hrel
  have HST:=zh hst
  have HYL:=zh (show ys.length=N from by rw [HI.out.len];exact HN.out)
  clear hst
  go_upto_block 2 with fail
  go_cut [9] (fun iv wx=> ∃i2:Nat,iv= .int .i64 i2/\i<=i2/\i2<=j+1/\Hid (PartR (fun x y:Int=>x<=y) a b i2 j p ys)/\Hid (j<i2\/ ¬(fun x y:Int=>x<=y) (at_ ys i2) p)/\RowSt g cap w wx ys)
  case first=>
   go_wp2_with fail
   go_loopg [9] (j+1 - i) (fun gk iv wr=> ∃i2:Nat,i2+gk=j+1/\i<=i2/\iv= .int .i64 i2/\Hid (PartR (fun x y:Int=>x<=y) a b i2 j p ys)/\RowSt g cap w wr ys)
   case atStart=>exact⟨i,by omega,zr,rfl,HP,HST.out⟩
   case round=>
    obtain⟨i2,hk,hii,rfl,HP2,hst⟩:=hrel
    have HST2:=zh hst
    clear hst HST HP
    by_cases hle:i2<=j
    ·have hle':(i2:Int)<=(j:Int):=by omega
     have c0:=zq5 HST2.out.row i2 (by have:=HYL.out;omega)
     have d0:=zq5 HST2.out.row a (by have:=HYL.out;omega)
     have r1:(i2:Int)<(N:Int):=by omega
     have r2:(a:Int)<(N:Int):=by omega
     by_cases hs:at_ ys i2<=at_ ys a
     ·have HL:=zh hs
      clear hs
      go_wp2_with fail
      go_quiet ((go_at_call 123;exact Calls.quiet_of_same (zzb HL.out _)))
      clear c0 d0 r1 r2
      have HST3:=zh (HST2.out.drewN nq)
      go_wp2
      go_roundg(gk - 1)
      case measure=>omega
      case rel=>exact⟨i2+1,by omega,by omega,by go_num,zh (HP2.out.up (by have:=HP2.out.at0;rw [<-this];exact HL.out)),HST3.out⟩
     ·have HL:=zh (Int.not_le.1 hs)
      clear hs
      go_wp2_with fail
      go_quiet ((go_at_call 123;exact Calls.quiet_of_same (zzc HL.out _)))
      clear c0 d0 r1 r2
      have HST3:=zh (HST2.out.drewN nq)
      go_wp2_with fail
      go_meet
      exact⟨i2,rfl,hii,by omega,HP2,zh (.inr (by have:=HP2.out.at0;rw [<-this];first|exact HL.out|exact Int.not_lt.2 HL.out|exact Int.not_le.2 HL.out)),HST3.out⟩
    ·have hle': ¬(i2:Int)<=(j:Int):=by omega
     go_wp2_with fail
     go_quiet (fail)
     have HST3:=zh (HST2.out.drewN nq)
     go_wp2_with fail
     go_meet
     exact⟨i2,rfl,hii,by omega,HP2,zh (.inl (by omega)),HST3.out⟩
  case rest=>
  obtain⟨i2,rfl,hii,hij2,HP2,HX,hst⟩:=hcut
  have HST2:=zh hst
  clear hst HST HP
  go_upto_block 4 with fail
  go_cut [10] (fun jv wx=> ∃j2:Nat,jv= .int .i64 j2/\j2<=j/\i2<=j2+1/\Hid (PartR (fun x y:Int=>x<=y) a b i2 j2 p ys)/\Hid (j2<i2\/(fun x y:Int=>x<=y) (at_ ys j2) p)/\RowSt g cap w wx ys)
  case first=>
   go_wp2_with fail
   go_loopg [10] j (fun gk jv wr=> ∃j2:Nat,gk=j2/\j2<=j/\i2<=j2+1/\jv= .int .i64 j2/\Hid (PartR (fun x y:Int=>x<=y) a b i2 j2 p ys)/\RowSt g cap w wr ys)
   case atStart=>exact⟨j,rfl,zr,by omega,rfl,HP2,HST2.out⟩
   case round=>
    obtain⟨j2,hk,hjj,hij3,rfl,HP3,hst⟩:=hrel
    have HST3:=zh hst
    clear hst HST2 HP2
    by_cases hle:i2<=j2
    ·have hle':(i2:Int)<=(j2:Int):=by omega
     have c0:=zq5 HST3.out.row j2 (by have:=HYL.out;omega)
     have d0:=zq5 HST3.out.row a (by have:=HYL.out;omega)
     have r1:(j2:Int)<(N:Int):=by omega
     have r2:(a:Int)<(N:Int):=by omega
     by_cases hs:at_ ys a<at_ ys j2
     ·have HL:=zh hs
      clear hs
      go_wp2_with fail
      go_quiet ((go_at_call 123;exact Calls.quiet_of_same (zzc HL.out _)))
      clear c0 d0 r1 r2
      have HST4:=zh (HST3.out.drewN nq)
      go_wp2
      go_roundg(j2 - 1)
      case measure=>omega
      case rel=>exact⟨j2 - 1,rfl,by omega,by omega,by first|rfl|go_num,zh (HP3.out.down (by have:=HP3.out.at0;rw [<-this];exact(fun h=>by have h1:=HL.out;have h2:at_ ys j2<=at_ ys a:=h;omega))),HST4.out⟩
     ·have HL:=zh (Int.not_lt.1 hs)
      clear hs
      go_wp2_with fail
      go_quiet ((go_at_call 123;exact Calls.quiet_of_same (zzb HL.out _)))
      clear c0 d0 r1 r2
      have HST4:=zh (HST3.out.drewN nq)
      go_wp2_with fail
      go_meet
      exact⟨j2,rfl,hjj,hij3,HP3,zh (.inr (by have:=HP3.out.at0;rw [<-this];exact HL.out)),HST4.out⟩
    ·have hle': ¬(i2:Int)<=(j2:Int):=by omega
     go_wp2_with fail
     go_quiet (fail)
     have HST4:=zh (HST3.out.drewN nq)
     go_wp2_with fail
     go_meet
     exact⟨j2,rfl,hjj,hij3,HP3,zh (.inl (by omega)),HST4.out⟩
  case rest=>
  obtain⟨j2,rfl,hjj,hij3,HP3,HX3,hst⟩:=hcut
  have HST3:=zh hst
  clear hst HST2 HP2
  by_cases hle:i2<=j2
  ·have hle': ¬(j2:Int)<(i2:Int):=by omega
   have hni: ¬(fun x y:Int=>x<=y) (at_ ys i2) p:=by rcases HX.out with h|h;omega;exact h
   have hlj:(fun x y:Int=>x<=y) (at_ ys j2) p:=by rcases HX3.out with h|h;omega;exact h
   obtain⟨hne,hps⟩:=PartR.swap HP3.out (by have:=HYL.out;omega) (by omega) hle (by omega) hni hlj
   have HPS:=zh hps
   have c0:=zq5 HST3.out.row i2 (by have:=HYL.out;omega)
   have d0:=zq5 HST3.out.row j2 (by have:=HYL.out;omega)
   have f0:=HST3.out.row.frozen i2
   have g0:=HST3.out.row.frozen j2
   have r1:(i2:Int)<(N:Int):=by omega
   have r2:(j2:Int)<(N:Int):=by omega
   have HST4:=zh (HST3.out.swap i2 j2)
   have HI4:=zh (HI.out.trans (InR.swq (a:=a) (b:=b) (i:=i2) (j:=j2) (by have:=HYL.out;omega) (by omega) (by omega) (by omega) (by omega)))
   have HY4:=zh (show(swq ys i2 j2).length=N from by rw [zjg];exact HYL.out)
   clear hni hlj hps HP3 HX HX3
   go_wp2_with fail
   go_region
   clear c0 d0 f0 g0 r1 r2 HST3 HI HYL
   obtain⟨i,hi⟩: ∃i,i=i2+1:=⟨_,rfl⟩
   obtain⟨j,hj⟩: ∃j,j=j2 - 1:=⟨_,rfl⟩
   rw [<-hi,<-hj] at HPS
   generalize swq ys i2 j2=zs at*
   have ei2:(i2:Int)+1=(i:Int):=by omega
   have ej2:(j2:Int) - 1=(j:Int):=by omega
   have hai2:a<i:=by omega
   have hjb2:j<b:=by omega
   have hij2:i<=j+1:=by omega
   have hdec:j<j2:=by omega
   clear hi hj
   go_wp2_with fail
   clear ei2 ej2
   go_roundg(j+1)
   case measure=>omega
   case rel=>exact⟨i,j,zs,rfl,hai2,hjb2,hij2,rfl,rfl,HPS,HI4,HST4.out⟩
  ·have hle':(j2:Int)<(i2:Int):=by omega
   go_wp2_with fail
   go_ret
   exact⟨i2,ys,rfl,by omega,by omega,HI.out,fun k h1 h2=>(by
    rcases Nat.eq_or_lt_of_le h1 with h|h
    ·rw [<-h,HP3.out.at0];exact Int.le_refl _
    ·exact HP3.out.low k h h2),fun k h1 h2=>HP3.out.high k (by omega) h2,HST3.out.row,HST3.out.grown⟩
end Go.Proofs.YtchcelodeepjdaaGreatDoor.Vx

namespace Go.Proofs.YtchcelodeepjdaaGreatDoor.Vx
open Go.RowKit Go.Herb

def yzx (g cap a b:Nat)(xs:List Int)(w:World)(e:Ending)(w':World):Prop:=
 ∃(fl:Bool) (ys:List Int),e= .returned (.bool fl)/\InR a b xs ys/\(fl=true->SortR a b ys)/\RowU w' g cap ys/\w.grownBy w' (some g)

theorem xq7 {a i:Nat}{ys:List Int}(h:SortR a i ys)(hai:a<i)(hle:at_ ys (i - 1)<=at_ ys i):SortR a (i+1) ys:=fun p q h1 h2 h3=>by
 rcases Nat.lt_or_eq_of_le (Nat.le_of_lt_succ h3)with h4|h4
 ·exact h p q h1 h2 h4
 ·rcases Nat.lt_or_eq_of_le h2 with h5|h5
  ·rw [h4]
   exact Int.le_trans (h p (i - 1) h1 (by omega) (by omega)) hle
  ·rw [h5];exact Int.le_refl _

set_option maxRecDepth 100000 in
set_option maxHeartbeats 8000000 in
theorem zk2 (g cap a b N:Nat)(xs:List Int)(hN:xs.length=N)(hb:b<=N)(hab:a<b)(w:World)(h:RowU w g cap xs)(hl:N<1000000)(hlow:LowR a b xs):
  Calls Tryz.prog (122) #[.slice (some ⟨g,0,none⟩) N cap, .int .i64 a, .int .i64 b] w (yzx g cap a b xs w):=by
 have H:Hid (RowSt g cap w w xs):=zh ⟨h,zqp _ _⟩
 have HN:=zh hN
 have HLOW:=zh hlow
 clear h hN hlow
 go_enter Tryz.func122,Tryz.ntmps122
 go_wp2_with fail
 go_loopg [7,8] 5 (fun gk iv jv wr=> ∃(i jj:Nat) (ys:List Int),jj+gk=5/\a<i/\i<=b/\iv= .int .i64 i/\jv= .int .i64 jj/\Hid (SortR a i ys)/\Hid (InR a b xs ys)/\RowSt g cap w wr ys)
 case atStart=>exact⟨a+1,0,xs,by omega,by omega,by omega,by go_num,rfl,zh (SortR.small (by omega) _),zh (InR.refl _ _ _),H.out⟩
 case round=>
  obtain⟨i0,jj,ys,hjj,hai0,hib0,rfl,rfl,HS0,HI,hst⟩:=hrel
  have HST0:=zh hst
  have HYL:=zh (show ys.length=N from by rw [HI.out.len];exact HN.out)
  clear hst H
  by_cases hj5:jj<5
  ·have hj5':(jj:Int)<5:=by omega
   go_upto_block 2 with fail
   go_cut [7] (fun iv wx=> ∃i:Nat,iv= .int .i64 i/\a<i/\i<=b/\Hid (SortR a i ys)/\Hid (i=b\/i<b/\at_ ys i<at_ ys (i - 1))/\RowSt g cap w wx ys)
   case first=>
    go_wp2_with fail
    go_loopg [7] (b - i0) (fun gk iv wr=> ∃i:Nat,i+gk=b/\a<i/\iv= .int .i64 i/\Hid (SortR a i ys)/\RowSt g cap w wr ys)
    case atStart=>exact⟨i0,by omega,hai0,rfl,HS0,HST0.out⟩
    case round=>
     obtain⟨i,hk,hai,rfl,HS,hst⟩:=hrel
     have HST:=zh hst
     clear hst HST0 HS0
     by_cases hib:i<b
     ·have hib':(i:Int)<(b:Int):=by omega
      have c0:=zq5 HST.out.row i (by have:=HYL.out;omega)
      have d0:=zq5 HST.out.row (i - 1) (by have:=HYL.out;omega)
      have w1:IntKind.i64.wrap ((i:Int) - 1)=(i:Int) - 1:=IntWalk.i64_in _ (by omega)
      have p1:(0:Int)<=(i:Int) - 1:=by omega
      have p1':(1:Int)<=(i:Int):=by omega
      have q1:((i:Int) - 1).toNat=i - 1:=by omega
      have r1:(i:Int) - 1<(N:Int):=by omega
      have r2:(i:Int)<(N:Int):=by omega
      by_cases hs:at_ ys (i - 1)<=at_ ys i
      ·have HL:=zh hs
       clear hs
       go_wp2_with fail
       go_quiet ((go_at_call 123;exact Calls.quiet_of_same (zzb HL.out _)))
       clear c0 d0 w1 p1 p1' q1 r1 r2
       have HST2:=zh (HST.out.drewN nq)
       go_wp2
       go_roundg(gk - 1)
       case measure=>omega
       case rel=>exact⟨i+1,by omega,by omega,by go_num,zh (xq7 HS.out hai HL.out),HST2.out⟩
      ·have HL:=zh (Int.not_le.1 hs)
       clear hs
       go_wp2_with fail
       go_quiet ((go_at_call 123;exact Calls.quiet_of_same (zzc HL.out _)))
       clear c0 d0 w1 p1 p1' q1 r1 r2
       have HST2:=zh (HST.out.drewN nq)
       go_wp2_with fail
       go_meet
       exact⟨i,rfl,hai,by omega,HS,zh (.inr ⟨hib,HL.out⟩),HST2.out⟩
     ·have hib': ¬(i:Int)<(b:Int):=by omega
      go_wp2_with fail
      go_quiet (fail)
      have HST2:=zh (HST.out.drewN nq)
      go_wp2_with fail
      go_meet
      exact⟨i,rfl,hai,by omega,HS,zh (.inl (by omega)),HST2.out⟩
   case rest=>
   obtain⟨i,rfl,hai,hib,HS,HX,hst⟩:=hcut
   have HST:=zh hst
   clear hst HST0 HS0
   by_cases hie:i=b
   ·subst hie
    have HE:=zh HS.out
    go_wp2_with fail
    go_ret
    exact⟨true,ys,rfl,HI.out,fun _=>HE.out,HST.out.row,HST.out.grown⟩
   ·have hlt:at_ ys i<at_ ys (i - 1):=by
     rcases HX.out with h|h
     ·exact absurd h hie
     ·exact h.2
    have hie1:((i:Int)==(b:Int))=false:=by simp;omega
    have hie2:decide ((i:Int)=(b:Int))=false:=decide_eq_false (by omega)
    have hie3:decide (i=b)=false:=decide_eq_false hie
    have HLT:=zh hlt
    have hilt:i<b:=by omega
    clear hlt HX
    by_cases h50:(b:Int) - (a:Int)<50
    ·go_wp2_with fail
     go_ret
     exact⟨false,ys,rfl,HI.out,fun h=>(by cases h),HST.out.row,HST.out.grown⟩
    ·have c0:=zq5 HST.out.row i (by have:=HYL.out;omega)
     have d0:=zq5 HST.out.row (i - 1) (by have:=HYL.out;omega)
     have f0:=HST.out.row.frozen i
     have g0:=HST.out.row.frozen (i - 1)
     have HST2:=zh (HST.out.swap i (i - 1))
     have HI2:=zh (HI.out.trans (InR.swq (a:=a) (b:=b) (i:=i) (j:=i - 1) (by have:=HYL.out;omega) (by omega) (by omega) (by omega) (by omega)))
     have HY2:=zh (show(swq ys i (i - 1)).length=N from by rw [zjg];exact HYL.out)
     have HS2:=zh (show SortR a (i - 1) (swq ys i (i - 1))from SortR.kept (fun p q h1 h2 h3=>HS.out p q h1 h2 (by omega)) (fun k h1 h2=>by rw [zk3 (by have:=HYL.out;omega) (by have:=HYL.out;omega),if_neg (by omega),if_neg (by omega)]))
     generalize swq ys i (i - 1)=zs at*
     go_wp2_with fail
     have w1:IntKind.i64.wrap ((i:Int) - 1)=(i:Int) - 1:=IntWalk.i64_in _ (by omega)
     have p1:(0:Int)<=(i:Int) - 1:=by omega
     have p1':(1:Int)<=(i:Int):=by omega
     have q1:((i:Int) - 1).toNat=i - 1:=by omega
     have r1:(i:Int) - 1<(N:Int):=by omega
     have r2:(i:Int)<(N:Int):=by omega
     have hne: ¬i=i - 1:=by omega
     go_region
     clear c0 d0 f0 g0 w1 p1 p1' q1 r1 r2 hne hie1 hie2 hie3 HST HI HYL HS HLT
     go_upto_if 61 with(fail)
     go_cut [] (fun wx=> ∃zs2:List Int,Hid (SortR a i zs2)/\Hid (InR a b xs zs2)/\RowSt g cap w wx zs2)
     case first=>
      by_cases hia:(2:Int)<=(i:Int) - (a:Int)
      ·obtain⟨i1,hi1⟩: ∃i1,i1=i - 1:=⟨_,rfl⟩
       have ei1:(i:Int) - 1=(i1:Int):=by omega
       have HIN:=zh (show InsR a i1 i1 zs from by rw [hi1];exact InsR.start HS2.out (by omega))
       have hi1':i1+1=i:=by omega
       have HI1:=zh hi1'
       clear hi1
       go_wp2_with fail
       clear ei1
       go_loopg [9] i1 (fun gk jv wr=> ∃(j:Nat) (us:List Int),gk=j/\a<=j/\j<=i1/\jv= .int .i64 j/\Hid (InsR a i1 j us)/\Hid (InR a b xs us)/\RowSt g cap w wr us)
       case atStart=>exact⟨i1,zs,rfl,by omega,zr,rfl,HIN,HI2,HST2.out⟩
       case round=>
        obtain⟨j,us,hjk,haj,hji,rfl,HIN2,HI3,hst⟩:=hrel
        have HST3:=zh hst
        have HY3:=zh (show us.length=N from by rw [HI3.out.len];exact HN.out)
        clear hst HST2 HI2 HIN HS2 HY2
        by_cases hj1:1<=j
        ·have hj1':(1:Int)<=(j:Int):=by omega
         have c0:=zq5 HST3.out.row j (by have:=HY3.out;omega)
         have d0:=zq5 HST3.out.row (j - 1) (by have:=HY3.out;omega)
         have w1:IntKind.i64.wrap ((j:Int) - 1)=(j:Int) - 1:=IntWalk.i64_in _ (by omega)
         have p1:(0:Int)<=(j:Int) - 1:=by omega
         have q1:((j:Int) - 1).toNat=j - 1:=by omega
         have r1:(j:Int) - 1<(N:Int):=by omega
         have r2:(j:Int)<(N:Int):=by omega
         by_cases hs:at_ us j<at_ us (j - 1)
         ·have haj2:a<j:=by
           rcases Nat.lt_or_eq_of_le haj with h|h
           ·exact h
           ·exfalso
            have hlw:=HLOW.out.kept HI3.out (by have:=HN.out;omega) (by omega) a zr hab
            rw [h] at hlw
            omega
          have HL:=zh hs
          clear hs
          go_wp2_with fail
          go_quiet ((go_at_call 123;exact Calls.quiet_of_same (zzc HL.out _)))
          have HST4:=zh (HST3.out.drewN nq)
          generalize wr.drewN nq=wq at*
          clear c0 d0 HST3
          have c0:=zq5 HST4.out.row j (by have:=HY3.out;omega)
          have d0:=zq5 HST4.out.row (j - 1) (by have:=HY3.out;omega)
          have f0:=HST4.out.row.frozen j
          have g0:=HST4.out.row.frozen (j - 1)
          have hne: ¬j=j - 1:=by omega
          have HST5:=zh (HST4.out.swap j (j - 1))
          go_wp2_with fail
          go_region
          clear c0 d0 f0 g0 w1 p1 q1 r1 r2 hne HST4
          go_wp2
          go_roundg(j - 1)
          case measure=>omega
          case rel=>exact⟨j - 1,swq us j (j - 1),rfl,by omega,by omega,by go_num,zh (HIN2.out.step haj2 (by have:=HY3.out;omega) HL.out),zh (HI3.out.trans (InR.swq (by have:=HY3.out;omega) (by omega) (by omega) (by omega) (by omega))),HST5.out⟩
         ·have HL:=zh (Int.not_lt.1 hs)
          clear hs
          go_wp2_with fail
          go_quiet ((go_at_call 123;exact Calls.quiet_of_same (zzb HL.out _)))
          clear c0 d0 w1 p1 q1 r1 r2
          have HST4:=zh (HST3.out.drewN nq)
          go_wp2_with fail
          go_meet
          exact⟨us,zh (by have:=HIN2.out.done (.inr HL.out);rwa [HI1.out] at this),HI3,HST4.out⟩
        ·have hj1': ¬(1:Int)<=(j:Int):=by omega
         have hja:j=a:=by omega
         have HJA:=zh hja
         clear hja
         go_wp2_with fail
         go_meet
         exact⟨us,zh (by have:=HIN2.out.done (.inl HJA.out);rwa [HI1.out] at this),HI3,HST3.out⟩
      ·have hia1:i=a+1:=by omega
       have HIA:=zh hia1
       clear hia1
       go_wp2_with fail
       go_meet
       exact⟨zs,zh (SortR.small (by have:=HIA.out;omega) _),HI2,HST2.out⟩
     case rest=>
     obtain⟨zs2,HS3,HI3,hst⟩:=hcut
     have HST3:=zh hst
     clear hst HST2 HI2 HS2 HY2
     by_cases hbi:(2:Int)<=(b:Int) - (i:Int)
     ·go_wp2_with fail
      obtain⟨g1,rfl⟩: ∃g1:Nat,g1=gk:=⟨_,rfl⟩
      go_loopg [10] (b - (i+1)) (fun gk jv wr=> ∃(j:Nat) (us:List Int),j+gk=b/\i<j/\jv= .int .i64 j/\Hid (SortR a i us)/\Hid (InR a b xs us)/\RowSt g cap w wr us)
      case atStart=>exact⟨i+1,zs2,by omega,by omega,by go_num,HS3,HI3,HST3.out⟩
      case round=>
       obtain⟨j,us,hjk,hij,rfl,HS4,HI4,hst⟩:=hrel
       have HST4:=zh hst
       have HY4:=zh (show us.length=N from by rw [HI4.out.len];exact HN.out)
       clear hst HST3 HI3 HS3
       by_cases hjb:j<b
       ·have hjb':(j:Int)<(b:Int):=by omega
        have c0:=zq5 HST4.out.row j (by have:=HY4.out;omega)
        have d0:=zq5 HST4.out.row (j - 1) (by have:=HY4.out;omega)
        have w1:IntKind.i64.wrap ((j:Int) - 1)=(j:Int) - 1:=IntWalk.i64_in _ (by omega)
        have p1:(0:Int)<=(j:Int) - 1:=by omega
        have p1':(1:Int)<=(j:Int):=by omega
        have q1:((j:Int) - 1).toNat=j - 1:=by omega
        have r1:(j:Int) - 1<(N:Int):=by omega
        have r2:(j:Int)<(N:Int):=by omega
        by_cases hs:at_ us j<at_ us (j - 1)
        ·have HL:=zh hs
         clear hs
         go_wp2_with fail
         go_quiet ((go_at_call 123;exact Calls.quiet_of_same (zzc HL.out _)))
         have HST5:=zh (HST4.out.drewN nq)
         generalize wr.drewN nq=wq at*
         clear c0 d0 HST4
         have c0:=zq5 HST5.out.row j (by have:=HY4.out;omega)
         have d0:=zq5 HST5.out.row (j - 1) (by have:=HY4.out;omega)
         have f0:=HST5.out.row.frozen j
         have g0:=HST5.out.row.frozen (j - 1)
         have hne: ¬j=j - 1:=by omega
         have HST6:=zh (HST5.out.swap j (j - 1))
         go_wp2_with fail
         go_region
         clear c0 d0 f0 g0 w1 p1 p1' q1 r1 r2 hne HST5
         go_wp2
         go_roundg(gk - 1)
         case measure=>omega
         case rel=>exact⟨j+1,swq us j (j - 1),by omega,by omega,by go_num,zh (SortR.kept HS4.out (fun k h1 h2=>by rw [zk3 (by have:=HY4.out;omega) (by have:=HY4.out;omega),if_neg (by omega),if_neg (by omega)])),zh (HI4.out.trans (InR.swq (by have:=HY4.out;omega) (by omega) (by omega) (by omega) (by omega))),HST6.out⟩
        ·have HL:=zh (Int.not_lt.1 hs)
         clear hs
         go_wp2_with fail
         go_quiet ((go_at_call 123;exact Calls.quiet_of_same (zzb HL.out _)))
         clear c0 d0 w1 p1 p1' q1 r1 r2
         have HST5:=zh (HST4.out.drewN nq)
         go_wp2
         go_roundg(g1 - 1)
         case measure=>omega
         case rel=>exact⟨i,jj+1,us,by omega,hai,hib,rfl,by go_num,HS4,HI4,HST5.out⟩
       ·have hjb': ¬(j:Int)<(b:Int):=by omega
        go_wp2
        go_roundg(g1 - 1)
        case measure=>omega
        case rel=>exact⟨i,jj+1,us,by omega,hai,hib,rfl,by go_num,HS4,HI4,HST4.out⟩
     ·go_wp2
      go_roundg(gk - 1)
      case measure=>omega
      case rel=>exact⟨i,jj+1,zs2,by omega,hai,hib,rfl,by go_num,HS3,HI3,HST3.out⟩
  ·have hj5': ¬(jj:Int)<5:=by omega
   go_wp2
   go_ret
   exact⟨false,ys,rfl,HI.out,fun h=>(by cases h),HST0.out.row,HST0.out.grown⟩
end Go.Proofs.YtchcelodeepjdaaGreatDoor.Vx

namespace Go.Proofs
open Go.Shelf
def Tryz.sortPoint_ren:Go.Shelf.Ren:=⟨fun|6=>92|15=>101|14=>111|28=>126|29=>127|20=>130|21=>131|22=>132|23=>133|24=>134|25=>135|26=>136|27=>137|46=>154|47=>146|48=>147|49=>155|50=>156|57=>166|n=>n,fun|22=>30|24=>57|25=>162|3=>3|39=>171|0=>0|53=>49|55=>26|4=>4|46=>185|45=>184|50=>179|5=>5|9=>9|66=>206|70=>209|76=>221|77=>222|n=>n,fun|n=>n⟩
theorem Tryz.sortPoint:Go.Proofs.SlLaysF0.n6 Tryz.prog Tryz.sortPoint_ren:={
 mixed:=by kernel_rfl
 f6:=⟨Tryz.f92.name,by decide,Tryz.func92.trans (congrArg some (by kernel_rfl))⟩
 f14:=⟨Tryz.f111.name,by decide,Tryz.func111.trans (congrArg some (by kernel_rfl))⟩
 f15:=Tryz.func101.trans (congrArg some (by kernel_rfl))
 f20:=⟨Tryz.f130.name,by decide,Tryz.func130.trans (congrArg some (by kernel_rfl))⟩
 f21:=⟨Tryz.f131.name,by decide,Tryz.func131.trans (congrArg some (by kernel_rfl))⟩
 f22:=⟨Tryz.f132.name,by decide,Tryz.func132.trans (congrArg some (by kernel_rfl))⟩
 f23:=⟨Tryz.f133.name,by decide,Tryz.func133.trans (congrArg some (by kernel_rfl))⟩
 f24:=⟨Tryz.f134.name,by decide,Tryz.func134.trans (congrArg some (by kernel_rfl))⟩
 f25:=⟨Tryz.f135.name,by decide,Tryz.func135.trans (congrArg some (by kernel_rfl))⟩
 f26:=⟨Tryz.f136.name,by decide,Tryz.func136.trans (congrArg some (by kernel_rfl))⟩
 f27:=⟨Tryz.f137.name,by decide,Tryz.func137.trans (congrArg some (by kernel_rfl))⟩
 f28:=Tryz.func126.trans (congrArg some (by kernel_rfl))
 f29:=Tryz.func127.trans (congrArg some (by kernel_rfl))
 f46:=⟨Tryz.f154.name,by decide,Tryz.func154.trans (congrArg some (by kernel_rfl))⟩
 f47:=Tryz.func146.trans (congrArg some (by kernel_rfl))
 f48:=Tryz.func147.trans (congrArg some (by kernel_rfl))
 f49:=⟨Tryz.f155.name,by decide,Tryz.func155.trans (congrArg some (by kernel_rfl))⟩
 f50:=⟨Tryz.f156.name,by decide,Tryz.func156.trans (congrArg some (by kernel_rfl))⟩
 f57:=⟨Tryz.f166.name,by decide,Tryz.func166.trans (congrArg some (by kernel_rfl))⟩
 t0:=Tryz.underlying0
 a0:=Tryz.isAgg0
 z0:=Tryz.sizeOf0
 v0:=Tryz.zeroValue0
 t3:=Tryz.underlying3
 a3:=Tryz.isAgg3
 z3:=Tryz.sizeOf3
 v3:=Tryz.zeroValue3
 t4:=Tryz.underlying4
 a4:=Tryz.isAgg4
 z4:=Tryz.sizeOf4
 v4:=Tryz.zeroValue4
 t5:=Tryz.underlying5
 a5:=Tryz.isAgg5
 z5:=Tryz.sizeOf5
 v5:=Tryz.zeroValue5
 t9:=Tryz.underlying9
 a9:=Tryz.isAgg9
 z9:=Tryz.sizeOf9
 v9:=Tryz.zeroValue9
 t22:=Tryz.underlying30
 a22:=Tryz.isAgg30
 z22:=Tryz.sizeOf30
 v22:=Tryz.zeroValue30
 t25:=Tryz.underlying162
 a25:=Tryz.isAgg162
 z25:=Tryz.sizeOf162
 v25:=Tryz.zeroValue162
 t39:=Tryz.underlying171
 a39:=Tryz.isAgg171
 z39:=Tryz.sizeOf171
 v39:=Tryz.zeroValue171
 t45:=Tryz.underlying184
 a45:=Tryz.isAgg184
 z45:=Tryz.sizeOf184
 v45:=Tryz.zeroValue184
 t46:=Tryz.underlying185
 a46:=Tryz.isAgg185
 z46:=Tryz.sizeOf185
 v46:=Tryz.zeroValue185
 t50:=Tryz.underlying179
 a50:=Tryz.isAgg179
 z50:=Tryz.sizeOf179
 v50:=Tryz.zeroValue179
 t53:=Tryz.underlying49
 a53:=Tryz.isAgg49
 z53:=Tryz.sizeOf49
 v53:=Tryz.zeroValue49
 t55:=Tryz.underlying26
 a55:=Tryz.isAgg26
 z55:=Tryz.sizeOf26
 v55:=Tryz.zeroValue26
 t66:=Tryz.underlying206
 a66:=Tryz.isAgg206
 z66:=Tryz.sizeOf206
 v66:=Tryz.zeroValue206
 t70:=Tryz.underlying209
 a70:=Tryz.isAgg209
 z70:=Tryz.sizeOf209
 v70:=Tryz.zeroValue209
 t76:=Tryz.underlying221
 a76:=Tryz.isAgg221
 z76:=Tryz.sizeOf221
 v76:=Tryz.zeroValue221
 t77:=Tryz.underlying222
 a77:=Tryz.isAgg222
 z77:=Tryz.sizeOf222
 v77:=Tryz.zeroValue222 }
end Go.Proofs
