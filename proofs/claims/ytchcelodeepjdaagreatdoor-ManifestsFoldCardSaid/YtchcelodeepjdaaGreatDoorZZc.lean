/- Lemmas and walks towards ManifestsFold. Conditions: each one tells its own. -/
import Derived.Test.YtchcelodeepjdaaGreatDoorMp
import Derived.Test.YtchcelodeepjdaaGreatDoorZZb
import Derived.Deep.DeepCutAuto
import Derived.Deep.RegionLaw
namespace Go.Proofs.YtchcelodeepjdaaGreatDoor.Ln
open Go.RowKit Go.Shelf Go.Herb

def RootV (M:Nat)(x:Rt)(v:Value)(w':World):Prop:= ∃r:Rv,v=rtV r/\RtOwn M w' r/\r.says=x/\r.sa=none/\r.sc=0/\r.sh= []
theorem yxz (p B:Nat)(ys:List Int)(w:World)(h:zqa w p B ys):
  (getN ys=none/\Calls Tryz.prog (89) #[.pointer (some ⟨p,0,none⟩)] w (fun e w'=>e= .panicked NONE/\TurnI p w w'))\/
  (∃(m:Nat) (zs:List Int),getN ys=some (m,zs)/\Calls Tryz.prog (89) #[.pointer (some ⟨p,0,none⟩)] w (fun e w'=>e= .returned (.int .u64 (m:Int))/\m<18446744073709551616/\TurnI p w w'/\zqa w' p B zs)):=by
 cases hg:getN ys with
 |none=>
  refine .inl ⟨rfl,(zxo p B ys w h).mono ?_⟩
  rintro e w' ⟨hT,⟨-,rfl⟩|⟨m,zs,v,h1, -⟩⟩
  ·exact⟨rfl,hT⟩
  ·rw [hg] at h1;cases h1
 |some q=>
  obtain⟨m,zs⟩:=q
  refine .inr ⟨m,zs,rfl,(zxo p B ys w h).mono ?_⟩
  rintro e w' ⟨hT,⟨h1, -⟩|⟨m',zs',v,h1,rfl,⟨rfl,h3⟩,hR⟩⟩
  ·rw [hg] at h1;cases h1
  ·rw [hg] at h1
   cases h1
   exact⟨rfl,h3,hT,hR⟩
set_option maxRecDepth 100000 in
set_option maxHeartbeats 4000000 in
theorem zy1 (p B:Nat)(ys:List Int)(w:World)(h:zqa w p B ys)(hyl:ys.length<1000000):
  Calls Tryz.prog (61) #[.pointer (some ⟨p,0,none⟩)] w (zyl p B w (rtP ys) (RootV w.heap.size)):=by
 obtain⟨W,hW⟩: ∃W:World,W=w.alloc (.cells #[.int .u64 0, .int .u64 0, .int .u64 0, .slice none 0 0, .slice none 0 0, .slice none 0 0, .slice none 0 0] (32)):=⟨_,rfl⟩
 have hB:Below w.heap.size w W:=by rw [hW];exact zb.alloc zr _
 have HS0:=zh (show RS zqa p B w W ys w.heap.size #[.int .u64 0, .int .u64 0, .int .u64 0, .slice none 0 0, .slice none 0 0, .slice none 0 0, .slice none 0 0] (32)from⟨h.ext hB,by rw [hW];exact zq3 rfl _,TurnI.of_below hB,h.lt,zr,readK⟩)
 have HW:=zh hW
 have HN:=zh (zxo p B ys W HS0.out.read)
 have HYL:=zh hyl
 rw [hW] at HN
 clear h hB hW hyl
 go_enter Tryz.func61,Tryz.ntmps61
 go_wp2_with fail
 refine HN.out.mono ?_
 rw [<-HW.out]
 rintro e w1 ⟨hT,⟨hg,rfl⟩|⟨sq,z1,v,hg,rfl,⟨rfl,hf⟩,hR⟩⟩
 ·have HF:=zh (show rtP ys=none from by unfold rtP;rw [hg])
  have HT:=zh (HS0.out.turn.trans hT)
  clear hg hT
  go_wp2_with fail
  exact⟨rfl,HT.out, .inl ⟨HF.out,rfl⟩⟩
 have HS1:=zh (HS0.out.next hT hR)
 have HG1:=zh hg
 have HU1:=zh (zx7 hf)
 have HN1:=zh (zxo p B z1 w1 HS1.out.read)
 clear hT hg hf hR HN
 go_wp2_with fail
 refine HN1.out.mono ?_
 rintro e w2 ⟨hT,⟨hg,rfl⟩|⟨lg,z2,v,hg,rfl,⟨rfl,hf⟩,hR⟩⟩
 ·have HF:=zh (show rtP ys=none from by unfold rtP;rw [HG1.out];simp only;rw [hg])
  have HT:=zh (HS1.out.turn.trans hT)
  clear hg hT
  go_wp2_with fail
  exact⟨rfl,HT.out, .inl ⟨HF.out,rfl⟩⟩
 have HS2:=zh (HS1.out.next hT hR)
 have HG2:=zh hg
 have HU2:=zh (zx7 hf)
 have HN2:=zh (zxo p B z2 w2 HS2.out.read)
 clear hT hg hf hR HN1
 go_wp2_with fail
 refine HN2.out.mono ?_
 rintro e w3 ⟨hT,⟨hg,rfl⟩|⟨nx,z3,v,hg,rfl,⟨rfl,hf⟩,hR⟩⟩
 ·have HF:=zh (show rtP ys=none from by unfold rtP;rw [HG1.out];simp only;rw [HG2.out];simp only;rw [hg])
  have HT:=zh (HS2.out.turn.trans hT)
  clear hg hT
  go_wp2_with fail
  exact⟨rfl,HT.out, .inl ⟨HF.out,rfl⟩⟩
 have HS3:=zh (HS2.out.next hT hR)
 have HG3:=zh (show rtP ys=match manyP brP z3 with
   |none=>none
   |some (bs,l4)=>match manyP lnP l4 with
    |none=>none
    |some (ls,l5)=>match manyP vcP l5 with
     |none=>none
     |some (vs,l6)=>some (⟨sq,lg,nx,bs,ls,vs, []⟩,l6)from by unfold rtP;rw [HG1.out];simp only;rw [HG2.out];simp only;rw [hg];rfl)
 have HU3:=zh (zx7 hf)
 have HZ3:=zh (show z3.length<1000000 from by
  have h1:=zqc HG1.out
  have h2:=zqc HG2.out
  have h3:=zqc hg
  have:=HYL.out
  omega)
 have c0:=zq0 HS3.out.box 0
 have c1:=zq0 HS3.out.box 1
 have c2:=zq0 HS3.out.box 2
 have f0:=zq1 HS3.out.box 0
 have f1:=zq1 HS3.out.box 1
 have f2:=zq1 HS3.out.box 2
 simp at c0 c1 c2
 have HS4:=zh (((HS3.out.store 0 (.int .u64 (sq:Int)) _ rfl).store 1 (.int .u64 (lg:Int)) _ rfl).store 2 (.int .u64 (nx:Int)) #[.int .u64 (sq:Int), .int .u64 (lg:Int), .int .u64 (nx:Int), .slice none 0 0, .slice none 0 0, .slice none 0 0, .slice none 0 0] rfl)
 have HM:=zh (zjd p B z3 _ HS4.out.read)
 clear hT hg hf hR HN2 HG1 HG2
 go_wp2_with fail
 refine HM.out.mono ?_
 rintro e u4 ⟨hT,⟨hg,rfl⟩|⟨n,z4,v,hg,rfl,⟨rfl,hf⟩,hR⟩⟩
 ·have HF:=zh (show rtP ys=none from by rw [HG3.out,zxr brP hg])
  have HT:=zh (HS4.out.turn.trans hT)
  clear hg hT
  go_wp2_with fail
  exact⟨rfl,HT.out, .inl ⟨HF.out,rfl⟩⟩
 have HS5:=zh (HS4.out.next hT hR)
 have HG4:=zh (zxq brP hg)
 have HZ4:=zh (show z4.length<1000000/\n<1000000 from by
  have h1:=zzp hg
  have:=HZ3.out
  omega)
 clear hT hg hf hR HM c0 c1 c2 f0 f1 f2 HS4 HS3
 have hn1:n<1000000:=HZ4.out.2
 have hMp:p<w.heap.size:=HS5.out.hp
 go_upto_region 3 with fail
 go_loopg [18] n (fun gk iv wr=> ∃(k c:Nat) (xs:List Br) (zs:List Int) (a:Option Addr),k+gk=n/\iv= .int .i64 k/\Hid (StepP brP n k z4 xs zs)/\Hid (zqn zqa p B w wr zs sq lg nx k 0 0 a c none 0 none 0 xs [] [])/\Hid (zs.length<1000000))
 case atStart=>exact⟨0,0, [],z4,none,by omega,rfl,zh (StepP.zero _ _ _),zh ⟨HS5.out,rfl,rfl,rfl,World.ownsRow_nil _ _ _ _,World.ownsRow_nil _ _ _ _,World.ownsRow_nil _ _ _ _,(fun v hv=>by cases hv),(fun v hv=>by cases hv),(fun v hv=>by cases hv),(fun v hv=>by cases hv)⟩,zh HZ4.out.1⟩
 case round=>
  obtain⟨k,c,xs,zs,a,hk,rfl,HST,HS,HZS⟩:=hrel
  by_cases hlt:k<n
  ·have HTX:=zh (zyb p B zs wr HS.out.rs.read)
   have i1:(k:Int)<(n:Int):=by omega
   have hw1:IntKind.i64.wrap ((k:Int)+1)=(k:Int)+1:=IntWalk.i64_in _ (by omega)
   go_wp2_with fail
   refine HTX.out.mono ?_
   rintro e w5 ⟨hT,⟨hg,rfl⟩|⟨s,y1,v,hg,rfl,⟨rfl,hf⟩,hR⟩⟩
   ·have HF:=zh (show rtP ys=none from by rw [HG3.out,HG4.out,HST.out.fail hlt (by unfold brP;rw [hg])])
    have HT:=zh (HS.out.rs.turn.trans hT)
    clear hg hT
    go_wp2_with fail
    exact⟨rfl,HT.out, .inl ⟨HF.out,rfl⟩⟩
   have HS6:=zh (HS.out.next hT hR)
   have HGA:=zh hg
   have HSW:=zh hf
   obtain⟨A,hA⟩: ∃A:World,A=w5.alloc (.cells #[.string s, .int .u64 0, .int .u64 0] (73)):=⟨_,rfl⟩
   have HI0:=zh (show RS zqa p B w5 A y1 w5.heap.size #[.string s, .int .u64 0, .int .u64 0] (73)from⟨by rw [hA];exact hR.ext (zb.alloc zr _),by rw [hA];exact zq3 rfl _,by rw [hA];exact TurnI.of_below (zb.alloc zr _),hR.lt,zr,readK⟩)
   have HNA:=zh (zxo p B y1 A HI0.out.read)
   have HA:=zh hA
   rw [hA] at HNA
   clear hT hg hf hR HTX hA
   go_wp2_with fail
   refine HNA.out.mono ?_
   rw [<-HA.out]
   rintro e w6 ⟨hT,⟨hg,rfl⟩|⟨a1,y2,v,hg,rfl,⟨rfl,hf⟩,hR⟩⟩
   ·have HF:=zh (show rtP ys=none from by rw [HG3.out,HG4.out,HST.out.fail hlt (by unfold brP;rw [HGA.out];simp only;rw [hg])])
    have HT:=zh ((HS6.out.next HI0.out.turn HI0.out.read).rs.turn.trans hT)
    clear hg hT
    go_wp2_with fail
    exact⟨rfl,HT.out, .inl ⟨HF.out,rfl⟩⟩
   have HI1:=zh (HI0.out.next hT hR)
   have HGB:=zh hg
   have HUA:=zh (zx7 hf)
   have HNB:=zh (zxo p B y2 w6 HI1.out.read)
   clear hT hg hf hR HNA
   go_wp2_with fail
   refine HNB.out.mono ?_
   rintro e w7 ⟨hT,⟨hg,rfl⟩|⟨b1,y3,v,hg,rfl,⟨rfl,hf⟩,hR⟩⟩
   ·have HF:=zh (show rtP ys=none from by rw [HG3.out,HG4.out,HST.out.fail hlt (by unfold brP;rw [HGA.out];simp only;rw [HGB.out];simp only;rw [hg])])
    have HT:=zh ((HS6.out.next HI1.out.turn HI1.out.read).rs.turn.trans hT)
    clear hg hT
    go_wp2_with fail
    exact⟨rfl,HT.out, .inl ⟨HF.out,rfl⟩⟩
   have HI2:=zh (HI1.out.next hT hR)
   have HST2:=zh (show StepP brP n (k+1) z4 (xs++ [(s,(a1:Int),(b1:Int))]) y3 from HST.out.step hlt (by unfold brP;rw [HGA.out];simp only;rw [HGB.out];simp only;rw [hg]))
   have HZ5:=zh (show y3.length<1000000 from by
    have h1:=zv1 HGA.out
    have h2:=zqc HGB.out
    have h3:=zqc hg
    have:=HZS.out
    omega)
   have HUB:=zh (zx7 hf)
   have c0:=zq0 HI2.out.box 1
   have c1:=zq0 HI2.out.box 2
   have f0:=zq1 HI2.out.box 1
   have f1:=zq1 HI2.out.box 2
   simp at c0 c1
   clear hT hg hf hR HNB
   go_upto_region 6 with fail
   have HI3:=zh ((HI2.out.store 1 (.int .u64 (a1:Int)) _ rfl).store 2 (.int .u64 (b1:Int)) #[.string s, .int .u64 (a1:Int), .int .u64 (b1:Int)] rfl)
   obtain⟨U,hU⟩:=HI3.out.name
   rw [<-hU] at HI3 ⊢
   clear hU c0 c1 f0 f1 HI0 HI1 HI2
   have HS7:=zh (HS6.out.next HI3.out.turn HI3.out.read)
   have c0:=zq0 HI3.out.box 0
   have c1:=zq0 HI3.out.box 1
   have c2:=zq0 HI3.out.box 2
   have c3:=zq0 HS7.out.rs.box 3
   simp at c0 c1 c2 c3
   obtain⟨a',c',w8,hr,d3,e3,hS9⟩:=HS7.out.br (s,(a1:Int),(b1:Int)) ⟨by show s.size<=maxLen;have:=HSW.out;unfold maxLen;omega,HUA.out,HUB.out⟩ (by omega)
   have HS9:=zh hS9
   clear hS9
   go_wp2_with(at_builtin;refine zqm _ (by rfl) _ _ _ _ rfl _ _ rfl rfl _ _ hr ?_;clear hr)
   go_roundg(gk - 1)
   case measure=>omega
   case rel=>exact⟨k+1,c',xs++ [(s,(a1:Int),(b1:Int))],y3,a',by omega,by go_num,HST2,HS9,HZ5⟩
  have i1: ¬(k:Int)<(n:Int):=by omega
  obtain rfl:n=k:=by omega
  have HB1:=zh (show rtP ys=match manyP lnP zs with
   |none=>none
   |some (ls,l5)=>match manyP vcP l5 with
    |none=>none
    |some (vs,l6)=>some (⟨sq,lg,nx,xs,ls,vs, []⟩,l6)from by rw [HG3.out,HG4.out,HST.out.done])
  have HM:=zh (zjd p B zs wr HS.out.rs.read)
  clear HST HG3 HG4 HZ4 HS5 hlt hk hn1 HZ3
  go_wp2_with fail
  refine HM.out.mono ?_
  rintro e w5 ⟨hT,⟨hg,rfl⟩|⟨nL,z5,v,hg,rfl,⟨rfl,hf⟩,hR⟩⟩
  ·have HF:=zh (show rtP ys=none from by rw [HB1.out,zxr lnP hg])
   have HT:=zh (HS.out.rs.turn.trans hT)
   clear hg hT
   go_wp2_with fail
   exact⟨rfl,HT.out, .inl ⟨HF.out,rfl⟩⟩
  have HS5:=zh (HS.out.next hT hR)
  have HG5:=zh (zxq lnP hg)
  have HZ5:=zh (show z5.length<1000000/\nL<1000000 from by
   have h1:=zzp hg
   have:=HZS.out
   omega)
  clear hT hg hf hR HM HS
  have hn2:nL<1000000:=HZ5.out.2
  go_upto_region 9 with fail
  go_loopg [38] nL (fun gk iv wr=> ∃(j c2:Nat) (xl:List Ln) (zs:List Int) (a2:Option Addr),j+gk=nL/\iv= .int .i64 j/\Hid (StepP lnP nL j z5 xl zs)/\Hid (zqn zqa p B w wr zs sq lg nx n j 0 a c a2 c2 none 0 xs xl [])/\Hid (zs.length<1000000))
  case atStart=>exact⟨0,0, [],z5,none,by omega,rfl,zh (StepP.zero _ _ _),HS5,zh HZ5.out.1⟩
  case round=>
   obtain⟨j,c2,xl,zs,a2,hj,rfl,HST,HS,HZS⟩:=hrel
   by_cases hlt:j<nL
   ·have HTX:=zh (zxo p B zs wr HS.out.rs.read)
    have i1:(j:Int)<(nL:Int):=by omega
    have hw1:IntKind.i64.wrap ((j:Int)+1)=(j:Int)+1:=IntWalk.i64_in _ (by omega)
    go_wp2_with fail
    refine HTX.out.mono ?_
    rintro e w5 ⟨hT,⟨hg,rfl⟩|⟨a1,y1,v,hg,rfl,⟨rfl,hf⟩,hR⟩⟩
    ·have HF:=zh (show rtP ys=none from by rw [HB1.out,HG5.out,HST.out.fail hlt (by unfold lnP;rw [hg])])
     have HT:=zh (HS.out.rs.turn.trans hT)
     clear hg hT
     go_wp2_with fail
     exact⟨rfl,HT.out, .inl ⟨HF.out,rfl⟩⟩
    have HS6:=zh (HS.out.next hT hR)
    have HGA:=zh hg
    have HUA:=zh (zx7 hf)
    have HS6d:=zh (HS6.out.next (TurnI.of_below ((Below.refl w5.heap.size w5).drew)) (hR.ext ((Below.refl w5.heap.size w5).drew)))
    have c4:=zq0 HS6.out.rs.box 4
    simp at c4
    clear hT hg hf hR HTX
    go_upto_region 11 with fail
    rcases yxz p B y1 w5.drew HS6d.out.rs.read with⟨hg,hc⟩|⟨b1,y2,hg,hc⟩
    ·have HF:=zh (show rtP ys=none from by rw [HB1.out,HG5.out,HST.out.fail hlt (by unfold lnP;rw [HGA.out];simp only;rw [hg])])
     have HC:=zh hc
     clear hg hc
     refine wp_region_any (by kernel_rfl) ?_
     change wpAny _ _ _ _ _ _ _ (World.drew _)
     refine wpAny_take (i:=0) (v:= .pointer (some ⟨w.heap.size,4,none⟩)) rfl (by kernel_rfl) (by kernel_rfl) (by kernel_rfl) (fun _ _ _ h=>h) (Or.inl ⟨by rfl,(by intro w;go_simp)⟩) ?_
     refine wpAny_take (i:=2) (v:= .int .u64 (a1:Int)) rfl (by kernel_rfl) (by kernel_rfl) (by kernel_rfl) (fun _ _ _ h=>h) (Or.inl ⟨by rfl,(by intro w;go_simp)⟩) ?_
     refine wpAny_take (i:=3) (v:= .pointer (some ⟨p,0,none⟩)) rfl (by kernel_rfl) (by kernel_rfl) (by kernel_rfl) (fun _ _ _ h=>h) (Or.inl ⟨by rfl,(by intro w;go_simp)⟩) ?_
     refine wpAny_ready (rs:= [1,4]) (by kernel_rfl) (by simp) ?_
     refine AllReady.cons rfl (fun K hK=> ?_) ?_
     ·go_simp
      refine hK _ _ ?_
      clear hK K
      refine wpAny_ready (rs:= [4]) (by kernel_rfl) (by simp) ?_
      refine AllReady.cons rfl (fun K hK=> ?_) AllReady.nil
      go_simp
      go_at_call 89
      refine HC.out.mono ?_
      rintro e u ⟨rfl,hT⟩
      exact⟨rfl,HS6d.out.rs.turn.trans hT, .inl ⟨HF.out,rfl⟩⟩
     ·refine AllReady.cons rfl (fun K hK=> ?_) AllReady.nil
      go_simp
      go_at_call 89
      refine HC.out.mono ?_
      rintro e u ⟨rfl,hT⟩
      exact⟨rfl,HS6d.out.rs.turn.trans hT, .inl ⟨HF.out,rfl⟩⟩
    ·have HST2:=zh (show StepP lnP nL (j+1) z5 (xl++ [((a1:Int),(b1:Int))]) y2 from HST.out.step hlt (by unfold lnP;rw [HGA.out];simp only;rw [hg]))
     have HZ6:=zh (show y2.length<1000000 from by
      have h1:=zqc HGA.out
      have h2:=zqc hg
      have:=HZS.out
      omega)
     have HC:=zh hc
     have hjm:j<1000000:=by omega
     clear hg hc
     go_region_law (first
      |(go_simp;go_at_call 89;refine HC.out.mono ?_;rintro e u6 ⟨rfl,hb1,hT6,hR6⟩;have HS7:=zh (HS6d.out.next hT6 hR6);have c5:=zq0 HS7.out.rs.box 4;simp at c5;have hlt6:w.heap.size<u6.heap.size:=zq2 HS7.out.rs.box;obtain⟨a',c',w8,hr,d4,e4,hS9⟩:=HS7.out.ln ((a1:Int),(b1:Int)) ⟨HUA.out,zx7 hb1⟩ hjm;have HS9:=zh hS9;clear hS9 hT6 hR6 hb1)
      |(refine Vx.zqj rfl (.tmp 43) (.tmp 48) (28) (28) rfl (.slice a2 j c2) (.slice (some ⟨u6.heap.size,0,none⟩) 1 1) (by simp [Act.eval]) (by simp [Act.eval]) _ _ hr ?_))
     all_goals
      go_wp2_with fail
      go_roundg(gk - 1)
      case measure=>omega
      case rel=>exact⟨j+1,c',xl++ [((a1:Int),(b1:Int))],y2,a',by omega,by go_num,HST2,HS9,HZ6⟩
   have i1: ¬(j:Int)<(nL:Int):=by omega
   obtain rfl:nL=j:=by omega
   have HB2:=zh (show rtP ys=match manyP vcP zs with
    |none=>none
    |some (vs,l6)=>some (⟨sq,lg,nx,xs,xl,vs, []⟩,l6)from by rw [HB1.out,HG5.out,HST.out.done])
   have HM:=zh (zjd p B zs wr HS.out.rs.read)
   clear HST HG5 HB1 HZ5 HS5 hlt hj hn2
   go_wp2_with fail
   refine HM.out.mono ?_
   rintro e w5 ⟨hT,⟨hg,rfl⟩|⟨nV,z6,v,hg,rfl,⟨rfl,hf⟩,hR⟩⟩
   ·have HF:=zh (show rtP ys=none from by rw [HB2.out,zxr vcP hg])
    have HT:=zh (HS.out.rs.turn.trans hT)
    clear hg hT
    go_wp2_with fail
    exact⟨rfl,HT.out, .inl ⟨HF.out,rfl⟩⟩
   have HS5:=zh (HS.out.next hT hR)
   have HG6:=zh (zxq vcP hg)
   have HZ6:=zh (show z6.length<1000000/\nV<1000000 from by
    have h1:=zzp hg
    have:=HZS.out
    omega)
   clear hT hg hf hR HM HS
   have hn3:nV<1000000:=HZ6.out.2
   go_upto_region 14 with fail
   go_loopg [54] nV (fun gk iv wr=> ∃(q cv:Nat) (xv:List Vx.Vc) (zs:List Int) (av:Option Addr),q+gk=nV/\iv= .int .i64 q/\Hid (StepP vcP nV q z6 (Vx.vsOf xv) zs)/\Hid (zqn zqa p B w wr zs sq lg nx n nL q a c a2 c2 av cv xs xl xv)/\Hid (zs.length<1000000)/\Hid (∀v∈xv,v.ps.length<1000000))
   case atStart=>exact⟨0,0, [],z6,none,by omega,rfl,zh (StepP.zero _ _ _),HS5,zh HZ6.out.1,zh (fun v hv=>by cases hv)⟩
   case round=>
    obtain⟨q,cv,xv,zs,av,hq,rfl,HST,HS,HZS,HPL⟩:=hrel
    by_cases hlt:q<nV
    ·have HTX:=zh (zxo p B zs wr HS.out.rs.read)
     have i1:(q:Int)<(nV:Int):=by omega
     have hw1:IntKind.i64.wrap ((q:Int)+1)=(q:Int)+1:=IntWalk.i64_in _ (by omega)
     go_wp2_with fail
     refine HTX.out.mono ?_
     rintro e w5 ⟨hT,⟨hg,rfl⟩|⟨a1,y1,v,hg,rfl,⟨rfl,hf⟩,hR⟩⟩
     ·have HF:=zh (show rtP ys=none from by rw [HB2.out,HG6.out,HST.out.fail hlt (by unfold vcP;rw [hg])])
      have HT:=zh (HS.out.rs.turn.trans hT)
      clear hg hT
      go_wp2_with fail
      exact⟨rfl,HT.out, .inl ⟨HF.out,rfl⟩⟩
     have HS6:=zh (HS.out.next hT hR)
     have HGA:=zh hg
     have HUA:=zh (zx7 hf)
     obtain⟨A,hA⟩: ∃A:World,A=w5.alloc (.cells #[.int .u64 (a1:Int), .slice none 0 0] (76)):=⟨_,rfl⟩
     have HI0:=zh (show RS zqa p B w5 A y1 w5.heap.size #[.int .u64 (a1:Int), .slice none 0 0] (76)from⟨by rw [hA];exact hR.ext (zb.alloc zr _),by rw [hA];exact zq3 rfl _,by rw [hA];exact TurnI.of_below (zb.alloc zr _),hR.lt,zr,readK⟩)
     have HNA:=zh (zjd p B y1 A HI0.out.read)
     have HA:=zh hA
     rw [hA] at HNA
     clear hT hg hf hR HTX hA
     go_wp2_with fail
     refine HNA.out.mono ?_
     rw [<-HA.out]
     rintro e w6 ⟨hT,⟨hg,rfl⟩|⟨m,y2,v,hg,rfl,⟨rfl,hf⟩,hR⟩⟩
     ·have HF:=zh (show rtP ys=none from by rw [HB2.out,HG6.out,HST.out.fail hlt (by unfold vcP;rw [HGA.out];simp only;rw [zxr ptP hg])])
      have HT:=zh ((HS6.out.next HI0.out.turn HI0.out.read).rs.turn.trans hT)
      clear hg hT
      go_wp2_with fail
      exact⟨rfl,HT.out, .inl ⟨HF.out,rfl⟩⟩
     have HI1:=zh (HI0.out.next hT hR)
     have HGM:=zh (zxq ptP hg)
     have HZ7:=zh (show y2.length<1000000/\m<1000000 from by
      have h1:=zzp hg
      have h2:=zqc HGA.out
      have:=HZS.out
      omega)
     clear hT hg hf hR HNA HI0
     have hm1:m<1000000:=HZ7.out.2
     obtain⟨g9,hg9⟩: ∃g9,g9=gk:=⟨_,rfl⟩
     rw [<-hg9] at hq
     have HG9:=zh hg9
     clear hg9
     have hpw5:p<w5.heap.size:=HI1.out.hp
     go_upto_region 17 with fail
     go_loopg [61] m (fun gk iv wr=> ∃(t cp:Nat) (ps:Bh) (zs':List Int) (ap:Option Addr),t+gk=m/\iv= .int .i64 t/\Hid (StepP ptP m t y2 ps zs')/\Hid (ps.length=t)/\Hid (RS zqa p B w5 wr zs' w5.heap.size #[.int .u64 (a1:Int), .slice ap t cp] (76))/\Hid (Vx.OwnP w5.heap.size wr (.slice ap t cp) ps)/\Hid (∀q∈ps,U64 q.1/\U64 q.2)/\Hid (zs'.length<1000000))
     case atStart=>exact⟨0,0, [],y2,none,by omega,rfl,zh (StepP.zero _ _ _),zh rfl,HI1,zh (World.ownsRow_nil _ _ _ _),zh (fun q hq=>by cases hq),zh HZ7.out.1⟩
     case round=>
      obtain⟨t,cp,ps,zs',ap,ht,rfl,HSP,HPS,HI,HOP,HPW,HZT⟩:=hrel
      by_cases hltt:t<m
      ·have HTX:=zh (zxo p B zs' wr HI.out.read)
       have l1:(t:Int)<(m:Int):=by omega
       have hw2:IntKind.i64.wrap ((t:Int)+1)=(t:Int)+1:=IntWalk.i64_in _ (by omega)
       go_wp2_with fail
       refine HTX.out.mono ?_
       rintro e w7 ⟨hT,⟨hg,rfl⟩|⟨b1,y3,v,hg,rfl,⟨rfl,hf⟩,hR⟩⟩
       ·have HF:=zh (show rtP ys=none from by rw [HB2.out,HG6.out,HST.out.fail hlt (by unfold vcP;rw [HGA.out];simp only;rw [HGM.out,HSP.out.fail hltt (by unfold ptP lnP;rw [hg])])])
        have HT:=zh ((HS6.out.next HI.out.turn HI.out.read).rs.turn.trans hT)
        clear hg hT
        go_wp2_with fail
        exact⟨rfl,HT.out, .inl ⟨HF.out,rfl⟩⟩
       have HI2:=zh (HI.out.next hT hR)
       have HOP2:=zh (zqf HOP.out hT hpw5)
       have HGB:=zh hg
       have HUB:=zh (zx7 hf)
       have HI2d:=zh (HI2.out.next (TurnI.of_below ((Below.refl w7.heap.size w7).drew)) (hR.ext ((Below.refl w7.heap.size w7).drew)))
       have HOP2d:=zh (zqf HOP2.out (TurnI.of_below ((Below.refl w7.heap.size w7).drew)) hpw5)
       have c4:=zq0 HI2.out.box 1
       simp at c4
       clear hT hg hf hR HTX
       go_upto_region 19 with fail
       rcases yxz p B y3 w7.drew HI2d.out.read with⟨hg,hc⟩|⟨b2,y4,hg,hc⟩
       ·have HF:=zh (show rtP ys=none from by rw [HB2.out,HG6.out,HST.out.fail hlt (by unfold vcP;rw [HGA.out];simp only;rw [HGM.out,HSP.out.fail hltt (by unfold ptP lnP;rw [HGB.out];simp only;rw [hg])])])
        have HC:=zh hc
        have HT:=zh ((HS6.out.next HI2d.out.turn HI2d.out.read).rs.turn)
        clear hg hc
        refine wp_region_any (by kernel_rfl) ?_
        change wpAny _ _ _ _ _ _ _ (World.drew _)
        refine wpAny_take (i:=0) (v:= .pointer (some ⟨w5.heap.size,1,none⟩)) rfl (by kernel_rfl) (by kernel_rfl) (by kernel_rfl) (fun _ _ _ h=>h) (Or.inl ⟨by rfl,(by intro w;go_simp)⟩) ?_
        refine wpAny_take (i:=2) (v:= .int .u64 (b1:Int)) rfl (by kernel_rfl) (by kernel_rfl) (by kernel_rfl) (fun _ _ _ h=>h) (Or.inl ⟨by rfl,(by intro w;go_simp)⟩) ?_
        refine wpAny_take (i:=3) (v:= .pointer (some ⟨p,0,none⟩)) rfl (by kernel_rfl) (by kernel_rfl) (by kernel_rfl) (fun _ _ _ h=>h) (Or.inl ⟨by rfl,(by intro w;go_simp)⟩) ?_
        refine wpAny_ready (rs:= [1,4]) (by kernel_rfl) (by simp) ?_
        refine AllReady.cons rfl (fun K hK=> ?_) ?_
        ·go_simp
         refine hK _ _ ?_
         clear hK K
         refine wpAny_ready (rs:= [4]) (by kernel_rfl) (by simp) ?_
         refine AllReady.cons rfl (fun K hK=> ?_) AllReady.nil
         go_simp
         go_at_call 89
         refine HC.out.mono ?_
         rintro e u ⟨rfl,hT⟩
         exact⟨rfl,HT.out.trans hT, .inl ⟨HF.out,rfl⟩⟩
        ·refine AllReady.cons rfl (fun K hK=> ?_) AllReady.nil
         go_simp
         go_at_call 89
         refine HC.out.mono ?_
         rintro e u ⟨rfl,hT⟩
         exact⟨rfl,HT.out.trans hT, .inl ⟨HF.out,rfl⟩⟩
       ·have HSP2:=zh (show StepP ptP m (t+1) y2 (ps++ [((b1:Int),(b2:Int))]) y4 from HSP.out.step hltt (by unfold ptP lnP;rw [HGB.out];simp only;rw [hg]))
        have HZ8:=zh (show y4.length<1000000 from by
         have h1:=zqc HGB.out
         have h2:=zqc hg
         have:=HZT.out
         omega)
        have HC:=zh hc
        have htm:t<1000000:=by omega
        clear hg hc
        go_region_law (first
         |(go_simp;go_at_call 89;refine HC.out.mono ?_;rintro e u6 ⟨rfl,hb2,hT6,hR6⟩;have HI7:=zh (HI2d.out.next hT6 hR6);have HUB2:=zh (zx7 hb2);have c5:=zq0 HI7.out.box 1;simp at c5;have hlt6:w5.heap.size<u6.heap.size:=zq2 HI7.out.box;obtain⟨a',c',w8,hr,d4,e4,hS9,hO9,hL9⟩:=vec_pt HI7.out (zqf HOP2d.out hT6 hpw5) HPS.out ((b1:Int),(b2:Int)) htm;have HS9:=zh hS9;have HO9:=zh hO9;have HL9:=zh hL9;clear hS9 hO9 hL9 hT6 hR6 hb2)
         |(refine Vx.zqj rfl (.tmp 66) (.tmp 71) (74) (74) rfl (.slice ap t cp) (.slice (some ⟨u6.heap.size,0,none⟩) 1 1) (by simp [Act.eval]) (by simp [Act.eval]) _ _ hr ?_))
        all_goals
         go_wp2_with fail
         go_roundg(gk - 1)
         case measure=>omega
         case rel=>exact⟨t+1,c',ps++ [((b1:Int),(b2:Int))],y4,a',by omega,by go_num,HSP2,HL9,HS9,HO9,zh (fun y hy=>by
          rcases List.mem_append.1 hy with h1|h1
          ·exact HPW.out y h1
          ·rw [List.mem_singleton.1 h1];exact⟨HUB.out,HUB2.out⟩),HZ8⟩
      ·have l1: ¬(t:Int)<(m:Int):=by omega
       obtain rfl:m=t:=by omega
       have HS8:=zh (HS6.out.next HI.out.turn HI.out.read)
       have HST2:=zh (show StepP vcP nV (q+1) z6 (Vx.vsOf (xv++ [⟨(a1:Int),ap,cp,ps⟩])) zs' from by
        have h1:=HST.out.step (x:=((a1:Int),ps)) hlt (by unfold vcP;rw [HGA.out];simp only;rw [HGM.out,HSP.out.done])
        simpa [Vx.vsOf] using h1)
       have HPL2:=zh (show∀v∈xv++ [(⟨(a1:Int),ap,cp,ps⟩:Vx.Vc)],v.ps.length<1000000 from fun v hv=>by
        rcases List.mem_append.1 hv with h1|h1
        ·exact HPL.out v h1
        ·rw [List.mem_singleton.1 h1];show ps.length<1000000;rw [HPS.out];exact hm1)
       have c0:=zq0 HI.out.box 0
       have c1:=zq0 HI.out.box 1
       have c5:=zq0 HS8.out.rs.box 5
       simp at c0 c1 c5
       obtain⟨a',c',w8,hr,d5,e5,hS9⟩:=HS8.out.vec ⟨(a1:Int),ap,cp,ps⟩ ⟨HUA.out,HPW.out⟩ m HPS.out (zq9 HOP.out HS6.out.rs.turn.size) (by omega)
       have HS9:=zh hS9
       clear hS9 ht hltt
       go_wp2_with(at_builtin;refine zqm _ (by rfl) _ _ _ _ rfl _ _ rfl rfl _ _ hr ?_;clear hr)
       go_roundg(g9 - 1)
       case measure=>have:=HG9.out;omega
       case rel=>exact⟨q+1,c',xv++ [⟨(a1:Int),ap,cp,ps⟩],zs',a',by omega,by go_num,HST2,HS9,HZT,HPL2⟩
    ·have i1: ¬(q:Int)<(nV:Int):=by omega
     obtain rfl:nV=q:=by omega
     have HF:=zh (show rtP ys=some (⟨sq,lg,nx,xs,xl,Vx.vsOf xv, []⟩,zs)from by rw [HB2.out,HG6.out,HST.out.done])
     have q0:=zq0 HS.out.rs.box 0
     have q1:=zq0 HS.out.rs.box 1
     have q2:=zq0 HS.out.rs.box 2
     have q3:=zq0 HS.out.rs.box 3
     have q4:=zq0 HS.out.rs.box 4
     have q5:=zq0 HS.out.rs.box 5
     have q6:=zq0 HS.out.rs.box 6
     have f0:=zq1 HS.out.rs.box 0
     have f1:=zq1 HS.out.rs.box 1
     have f2:=zq1 HS.out.rs.box 2
     have f3:=zq1 HS.out.rs.box 3
     have f4:=zq1 HS.out.rs.box 4
     have f5:=zq1 HS.out.rs.box 5
     have f6:=zq1 HS.out.rs.box 6
     simp at q0 q1 q2 q3 q4 q5 q6
     clear HST HG6 HB2 HZ6 HS5 hlt hq hn3
     go_wp2_with fail
     have HSF:=zh (((((((HS.out.same 0 (.int .u64 (sq:Int)) rfl).same 1 (.int .u64 (lg:Int)) rfl).same 2 (.int .u64 (nx:Int)) rfl).same 3 (.slice a n c) rfl).same 4 (.slice a2 nL c2) rfl).same 5 (.slice av nV cv) rfl).same 6 (.slice none 0 0) rfl)
     obtain⟨Z,hZ⟩:=HSF.out.name
     rw [<-hZ] at HSF ⊢
     clear q0 q1 q2 q3 q4 q5 q6 f0 f1 f2 f3 f4 f5 f6 hZ
     have q0:=zq0 HSF.out.rs.box 0
     have q1:=zq0 HSF.out.rs.box 1
     have q2:=zq0 HSF.out.rs.box 2
     have q3:=zq0 HSF.out.rs.box 3
     have q4:=zq0 HSF.out.rs.box 4
     have q5:=zq0 HSF.out.rs.box 5
     have q6:=zq0 HSF.out.rs.box 6
     simp at q0 q1 q2 q3 q4 q5 q6
     refine bodyPost_ret (v:= .agg #[.int .u64 (sq:Int), .int .u64 (lg:Int), .int .u64 (nx:Int), .slice a n c, .slice a2 nL c2, .slice av nV cv, .slice none 0 0]) (by simp [results,Tryz.results61,go_sem,q0,q1,q2,q3,q4,q5,q6]) rfl ?_
     refine⟨HSF.out.rs.turn, .inr ⟨_,zs,_,HF.out,rfl,⟨⟨sq,lg,nx,a,c,xs,a2,c2,xl,av,cv,xv,none,0, []⟩,?_,HSF.out.own HU1.out HU2.out HU3.out (fun v hv=>by have:=HPL.out v hv;unfold maxLen;omega),rfl,rfl,rfl,rfl⟩,HSF.out.rs.read⟩⟩
     show _=Value.agg #[.int .u64 (sq:Int), .int .u64 (lg:Int), .int .u64 (nx:Int), .slice a xs.length c, .slice a2 xl.length c2, .slice av xv.length cv, .slice none 0 0]
     rw [HSF.out.lb,HSF.out.ll,HSF.out.lv]
end Go.Proofs.YtchcelodeepjdaaGreatDoor.Ln
