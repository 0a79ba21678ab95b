/- Lemmas and walks towards ManifestsFold. Conditions: each one tells its own. -/
import Derived.Test.YtchcelodeepjdaaGreatDoorMp
import Derived.Test.YtchcelodeepjdaaGreatDoorZZ6
namespace Go.Proofs.YtchcelodeepjdaaGreatDoor.Ln
open Go.RowKit Go.Shelf Go.Herb
set_option maxRecDepth 100000 in
set_option maxHeartbeats 4000000 in
theorem yzr (f:Bool)(p B:Nat)(ys:List Int)(w:World)(h:TkAt f w p B ys)(hyl:ys.length<1000000):
  Calls Tryz.prog (65) #[.pointer (some ⟨p,0,none⟩)] w (zvf p B f ys w (rtP ys) (RootV w.heap.size)):=by
 obtain⟨W,hW⟩: ∃W:World,W=w.alloc (.cells #[.int .u64 0, .int .u64 0, .int .u64 0, .slice none 0 0, .slice none 0 0, .slice none 0 0, .slice none 0 0] (32)):=⟨_,rfl⟩
 have hB:Below w.heap.size w W:=by rw [hW];exact zb.alloc zr _
 have HX:=zh (show W.heap[w.heap.size]? =some (.cells #[.int .u64 0, .int .u64 0, .int .u64 0, .slice none 0 0, .slice none 0 0, .slice none 0 0, .slice none 0 0] (32) (0,0))from by rw [hW];exact zq3 rfl _)
 have HT0:=zh (show TurnI p w W from TurnI.of_below hB)
 have HPL:=zh h.lt
 have HN:=zh (zqi f p B ys W ((takeK f).ext h hB))
 have HK0:=zh (Lk.zero f rtP ys)
 have HW:=zh hW
 have HYL:=zh hyl
 rw [hW] at HN
 clear h hB hW hyl
 go_enter Tryz.func65,Tryz.ntmps65
 go_wp2_with fail
 refine HN.out.mono ?_
 rw [<-HW.out]
 rintro e w1 ⟨hT,f1,z1,sq,v,rfl,⟨rfl,hf⟩,hR,hle,hg,hb⟩
 have HT1:=zh hT
 have HK1:=zh (HK0.out.step (p:=getN) (K':=fun s l1=>match getN l1 with
  |none=>none
  |some (g,l2)=>match getN l2 with
   |none=>none
   |some (n,l3)=>match manyP brP l3 with
    |none=>none
    |some (bs,l4)=>match manyP lnP l4 with
     |none=>none
     |some (ls,l5)=>match manyP vcP l5 with
      |none=>none
      |some (vs,l6)=>some (⟨s,g,n,bs,ls,vs, []⟩,l6)) (fun l=>by unfold rtP;rcases getN l with _|⟨x,r⟩<;>rfl) hg hb)
 have HU1:=zh (zx7 hf)
 have HL1:=zh hle
 have HN1:=zh (zqi f1 p B z1 w1 hR)
 clear hT hg hb hf hR hle HN
 go_wp2_with fail
 refine HN1.out.mono ?_
 rintro e w2 ⟨hT,f2,z2,lg,v,rfl,⟨rfl,hf⟩,hR,hle,hg,hb⟩
 have HT2:=zh (HT1.out.trans hT)
 have HK2:=zh (HK1.out.step (p:=getN) (K':=fun g l2=>match getN l2 with
   |none=>none
   |some (n,l3)=>match manyP brP l3 with
    |none=>none
    |some (bs,l4)=>match manyP lnP l4 with
     |none=>none
     |some (ls,l5)=>match manyP vcP l5 with
      |none=>none
      |some (vs,l6)=>some (⟨sq,g,n,bs,ls,vs, []⟩,l6)) (fun l=>by rcases getN l with _|⟨x,r⟩<;>rfl) hg hb)
 have HU2:=zh (zx7 hf)
 have HL2:=zh (Nat.le_trans hle HL1.out)
 have HN2:=zh (zqi f2 p B z2 w2 hR)
 clear hT hg hb hf hR hle HN1
 go_wp2_with fail
 refine HN2.out.mono ?_
 rintro e w3 ⟨hT,f3,z3,nx,v,rfl,⟨rfl,hf⟩,hR,hle,hg,hb⟩
 have HT3:=zh (HT2.out.trans hT)
 have HK3:=zh (HK2.out.step (p:=getN) (K':=fun n l3=>match manyP brP l3 with
    |none=>none
    |some (bs,l4)=>match manyP lnP l4 with
     |none=>none
     |some (ls,l5)=>match manyP vcP l5 with
      |none=>none
      |some (vs,l6)=>some (⟨sq,lg,n,bs,ls,vs, []⟩,l6)) (fun l=>by rcases getN l with _|⟨x,r⟩<;>rfl) hg hb)
 have HU3:=zh (zx7 hf)
 have HL3:=zh (Nat.le_trans hle HL2.out)
 have HR3:=zh hR
 clear hT hg hb hf hR hle HN2
 obtain⟨X,hX⟩: ∃X:World,X=w3.alloc (.cells #[.int .u64 (sq:Int), .int .u64 (lg:Int), .int .u64 (nx:Int), .slice none 0 0, .slice none 0 0, .slice none 0 0, .slice none 0 0] (32)):=⟨_,rfl⟩
 have hBX:Below w3.heap.size w3 X:=by rw [hX];exact zb.alloc zr _
 have HS3:=zh (show RS (TkAt f3) p B w3 X z3 w3.heap.size #[.int .u64 (sq:Int), .int .u64 (lg:Int), .int .u64 (nx:Int), .slice none 0 0, .slice none 0 0, .slice none 0 0, .slice none 0 0] (32)from⟨(takeK f3).ext HR3.out hBX,by rw [hX];exact zq3 rfl _,TurnI.of_below hBX,HR3.out.lt,zr,takeK f3⟩)
 have HM:=zh (zxb f3 p B z3 X HS3.out.read)
 have HXX:=zh hX
 rw [hX] at HM
 clear hX hBX
 go_wp2_with fail
 refine HM.out.mono ?_
 rw [<-HXX.out]
 rintro e u4 ⟨hT,f4,z4,n,v,rfl,⟨rfl,hnl⟩,hR,hle,hg,hb⟩
 have HS5:=zh (HS3.out.to (takeK f4) hT hR)
 have HK4:=zh (HK3.out.many (p:=brP) (K2:=fun bs l4=>match manyP lnP l4 with
     |none=>none
     |some (ls,l5)=>match manyP vcP l5 with
      |none=>none
      |some (vs,l6)=>some ((⟨sq,lg,nx,bs,ls,vs, []⟩:Rt),l6)) (fun l=>by rcases manyP brP l with _|⟨x,r⟩<;>rfl) hg hb)
 have HL4:=zh (Nat.le_trans hle HL3.out)
 have hn1:n<1000000:=Nat.lt_of_le_of_lt (Nat.le_trans hnl HL3.out) HYL.out
 clear hT hg hb hR hle hnl HM HS3 HR3
 go_upto_region 4 with fail
 go_loopg [5] n (fun gk iv wr=> ∃(k c:Nat) (xs:List Br) (zs:List Int) (a:Option Addr) (g:Bool),k+gk=n/\iv= .int .i64 k/\Hid (Lk f (rtP ys) g (restP brP (fun bs l4=>match manyP lnP l4 with
     |none=>none
     |some (ls,l5)=>match manyP vcP l5 with
      |none=>none
      |some (vs,l6)=>some ((⟨sq,lg,nx,bs,ls,vs, []⟩:Rt),l6)) gk xs) zs)/\Hid (zqn (TkAt g) p B w3 wr zs sq lg nx k 0 0 a c none 0 none 0 xs [] [])/\Hid (zs.length<=ys.length))
 case atStart=>exact⟨0,0, [],z4,none,f4,by omega,rfl,HK4,zh ⟨HS5.out,rfl,rfl,rfl,World.ownsRow_nil _ _ _ _,World.ownsRow_nil _ _ _ _,World.ownsRow_nil _ _ _ _,(fun v hv=>by cases hv),(fun v hv=>by cases hv),(fun v hv=>by cases hv),(fun v hv=>by cases hv)⟩,HL4⟩
 case round=>
  obtain⟨k,c,xs,zs,a,g,hk,rfl,HLK,HS,HZS⟩:=hrel
  by_cases hlt:k<n
  ·have i1:(k:Int)<(n:Int):=by omega
   have hw1:IntKind.i64.wrap ((k:Int)+1)=(k:Int)+1:=IntWalk.i64_in _ (by omega)
   have HSd:=zh (HS.out.next (TurnI.of_below ((Below.refl wr.heap.size wr).drew)) ((takeK g).ext HS.out.rs.read ((Below.refl wr.heap.size wr).drew)))
   have HTX:=zh (zju g p B zs wr.drew HSd.out.rs.read)
   have c4:=zq0 HS.out.rs.box 3
   simp at c4
   have hkm:k<1000000:=by omega
   have hgk:gk=gk - 1+1:=by omega
   have HGK:=zh hgk
   clear hgk
   go_upto_region 6 with fail
   go_region_law (first
    |(go_simp;go_at_call 96;(with_reducible refine HTX.out.mono ?_);rintro e w5 ⟨hT5,g1,y1,s,v,rfl,⟨rfl,hf5⟩,hR5,hl5,hg5,hb5⟩;have HS6:=zh (HSd.out.to (takeK g1) hT5 hR5);have c5:=zq0 HS6.out.rs.box 3;simp at c5;have HNA:=zh (zqi g1 p B y1 w5 hR5);have HG5:=zh (And.intro hg5 hb5);have HL5:=zh (And.intro hf5 hl5);clear hT5 hR5 hl5 hg5 hb5 hf5)
    |(go_simp;go_at_call 68;(with_reducible refine HNA.out.mono ?_);rintro e w6 ⟨hT6,g2,y2,a1,v,rfl,⟨rfl,hf6⟩,hR6,hl6,hg6,hb6⟩;have HS7:=zh (HS6.out.to (takeK g2) hT6 hR6);have c6:=zq0 HS7.out.rs.box 3;simp at c6;have HNB:=zh (zqi g2 p B y2 w6 hR6);have HG6:=zh (And.intro hg6 hb6);have HL6:=zh (And.intro hf6 hl6);clear hT6 hR6 hl6 hg6 hb6 hf6)
    |(go_simp;go_at_call 68;(with_reducible refine HNB.out.mono ?_);rintro e w7 ⟨hT7,g3,y3,b1,v,rfl,⟨rfl,hf7⟩,hR7,hl7,hg7,hb7⟩;have HS8:=zh (HS7.out.to (takeK g3) hT7 hR7);have c7:=zq0 HS8.out.rs.box 3;simp at c7;have hlt7:w3.heap.size<w7.heap.size:=zq2 HS8.out.rs.box;obtain⟨a',c',w8,hr,d3,e3,hS9⟩:=HS8.out.br (s,(a1:Int),(b1:Int)) ⟨by show s.size<=maxLen;have:=HL5.out.1;unfold maxLen;omega,zx7 HL6.out.1,zx7 hf7⟩ hkm;have HS9:=zh hS9;have HG7:=zh (And.intro hg7 hb7);have HL7:=zh hl7;clear hT7 hR7 hl7 hg7 hb7 hf7 hS9)
    |(refine Vx.zqj rfl (.tmp 26) (.tmp 34) (27) (27) rfl (.slice a k c) (.slice (some ⟨w7.heap.size,0,none⟩) 1 1) (by simp [Act.eval]) (by simp [Act.eval]) _ _ hr ?_))
   all_goals
    go_wp2_with fail
    go_roundg(gk - 1)
    case measure=>omega
    case rel=>
     have hs:=br_soft HG5.out.1 HG5.out.2 HG6.out.1 HG6.out.2 HG7.out.1 HG7.out.2
     exact⟨k+1,c',xs++ [(s,(a1:Int),(b1:Int))],y3,a',g3,by omega,by go_num,zh (HLK.out.round HGK.out hs.1 hs.2),HS9,zh (by have:=HL5.out.2;have:=HL6.out.2;have:=HL7.out;have:=HZS.out;omega)⟩
  have i1: ¬(k:Int)<(n:Int):=by omega
  obtain rfl:n=k:=by omega
  obtain rfl:gk=0:=by omega
  have HLB:=zh HLK.out.done
  have HM:=zh (zxb g p B zs wr HS.out.rs.read)
  clear HLK HK4 HS5 hlt hk hn1 HL4
  go_wp2_with fail
  refine HM.out.mono ?_
  rintro e w5 ⟨hT,f5,z5,nL,v,rfl,⟨rfl,hnl⟩,hR,hle,hg,hb⟩
  have HS5:=zh (HS.out.to (takeK f5) hT hR)
  have HK5:=zh (HLB.out.many (p:=lnP) (K2:=fun ls l5=>match manyP vcP l5 with
      |none=>none
      |some (vs,l6)=>some ((⟨sq,lg,nx,xs,ls,vs, []⟩:Rt),l6)) (fun l=>by rcases manyP lnP l with _|⟨x,r⟩<;>rfl) hg hb)
  have HL5:=zh (Nat.le_trans hle HZS.out)
  have hn2:nL<1000000:=Nat.lt_of_le_of_lt (Nat.le_trans hnl HZS.out) HYL.out
  clear hT hg hb hR hle hnl HM HS HLB
  go_upto_region 9 with fail
  go_loopg [6] nL (fun gk iv wr=> ∃(j c2:Nat) (xl:List Ln) (zs:List Int) (a2:Option Addr) (g:Bool),j+gk=nL/\iv= .int .i64 j/\Hid (Lk f (rtP ys) g (restP lnP (fun ls l5=>match manyP vcP l5 with
      |none=>none
      |some (vs,l6)=>some ((⟨sq,lg,nx,xs,ls,vs, []⟩:Rt),l6)) gk xl) zs)/\Hid (zqn (TkAt g) p B w3 wr zs sq lg nx n j 0 a c a2 c2 none 0 xs xl [])/\Hid (zs.length<=ys.length))
  case atStart=>exact⟨0,0, [],z5,none,f5,by omega,rfl,HK5,HS5,HL5⟩
  case round=>
   obtain⟨j,c2,xl,zs,a2,g,hj,rfl,HLK,HS,HZS⟩:=hrel
   by_cases hlt:j<nL
   ·have i1:(j:Int)<(nL:Int):=by omega
    have hw1:IntKind.i64.wrap ((j:Int)+1)=(j:Int)+1:=IntWalk.i64_in _ (by omega)
    have HSd:=zh (HS.out.next (TurnI.of_below ((Below.refl wr.heap.size wr).drew)) ((takeK g).ext HS.out.rs.read ((Below.refl wr.heap.size wr).drew)))
    have HNA:=zh (zqi g p B zs wr.drew HSd.out.rs.read)
    have c4:=zq0 HS.out.rs.box 4
    simp at c4
    have hjm:j<1000000:=by omega
    have HGK:=zh (show gk=gk - 1+1 from by omega)
    go_upto_region 11 with fail
    go_region_law (first
     |(go_simp;go_at_call 68;(with_reducible refine HNA.out.mono ?_);rintro e w6 ⟨hT6,g2,y2,a1,v,rfl,⟨rfl,hf6⟩,hR6,hl6,hg6,hb6⟩;have HS7:=zh (HSd.out.to (takeK g2) hT6 hR6);have c6:=zq0 HS7.out.rs.box 4;simp at c6;have HNB:=zh (zqi g2 p B y2 w6 hR6);have HG6:=zh (And.intro hg6 hb6);have HL6:=zh (And.intro hf6 hl6);clear hT6 hR6 hl6 hg6 hb6 hf6)
     |(go_simp;go_at_call 68;(with_reducible refine HNB.out.mono ?_);rintro e w7 ⟨hT7,g3,y3,b1,v,rfl,⟨rfl,hf7⟩,hR7,hl7,hg7,hb7⟩;have HS8:=zh (HS7.out.to (takeK g3) hT7 hR7);have c7:=zq0 HS8.out.rs.box 4;simp at c7;have hlt7:w3.heap.size<w7.heap.size:=zq2 HS8.out.rs.box;obtain⟨a',c',w8,hr,d3,e3,hS9⟩:=HS8.out.ln ((a1:Int),(b1:Int)) ⟨zx7 HL6.out.1,zx7 hf7⟩ hjm;have HS9:=zh hS9;have HG7:=zh (And.intro hg7 hb7);have HL7:=zh hl7;clear hT7 hR7 hl7 hg7 hb7 hf7 hS9)
     |(refine Vx.zqj rfl (.tmp 45) (.tmp 51) (28) (28) rfl (.slice a2 j c2) (.slice (some ⟨w7.heap.size,0,none⟩) 1 1) (by simp [Act.eval]) (by simp [Act.eval]) _ _ hr ?_))
    all_goals
     go_wp2_with fail
     go_roundg(gk - 1)
     case measure=>omega
     case rel=>
      have hs:=yyb HG6.out.1 HG6.out.2 HG7.out.1 HG7.out.2
      exact⟨j+1,c',xl++ [((a1:Int),(b1:Int))],y3,a',g3,by omega,by go_num,zh (HLK.out.round HGK.out hs.1 hs.2),HS9,zh (by have:=HL6.out.2;have:=HL7.out;have:=HZS.out;omega)⟩
   have i1: ¬(j:Int)<(nL:Int):=by omega
   obtain rfl:nL=j:=by omega
   obtain rfl:gk=0:=by omega
   have HLB:=zh HLK.out.done
   have HM:=zh (zxb g p B zs wr HS.out.rs.read)
   clear HLK HK5 HS5 hlt hj hn2 HL5
   go_wp2_with fail
   refine HM.out.mono ?_
   rintro e w5 ⟨hT,f6,z6,nV,v,rfl,⟨rfl,hnl⟩,hR,hle,hg,hb⟩
   have HS5:=zh (HS.out.to (takeK f6) hT hR)
   have HK6:=zh (HLB.out.many (p:=vcP) (K2:=fun vs l6=>some ((⟨sq,lg,nx,xs,xl,vs, []⟩:Rt),l6)) (fun l=>by rcases manyP vcP l with _|⟨x,r⟩<;>rfl) hg hb)
   have HL6:=zh (Nat.le_trans hle HZS.out)
   have hn3:nV<1000000:=Nat.lt_of_le_of_lt (Nat.le_trans hnl HZS.out) HYL.out
   clear hT hg hb hR hle hnl HM HS HLB
   go_upto_region 14 with fail
   go_loopg [7] nV (fun gk iv wr=> ∃(q cv:Nat) (xv:List Vx.Vc) (zs:List Int) (av:Option Addr) (g:Bool),q+gk=nV/\iv= .int .i64 q/\Hid (Lk f (rtP ys) g (restP vcP (fun vs l6=>some ((⟨sq,lg,nx,xs,xl,vs, []⟩:Rt),l6)) gk (Vx.vsOf xv)) zs)/\Hid (zqn (TkAt g) p B w3 wr zs sq lg nx n nL q a c a2 c2 av cv xs xl xv)/\Hid (zs.length<=ys.length)/\Hid (∀v∈xv,v.ps.length<1000000))
   case atStart=>exact⟨0,0, [],z6,none,f6,by omega,rfl,HK6,HS5,HL6,zh (fun v hv=>by cases hv)⟩
   case round=>
    obtain⟨q,cv,xv,zs,av,g,hq,rfl,HLK,HS,HZS,HPV⟩:=hrel
    by_cases hlt:q<nV
    ·have HTX:=zh (zqi g p B zs wr HS.out.rs.read)
     have i1:(q:Int)<(nV:Int):=by omega
     have hw1:IntKind.i64.wrap ((q:Int)+1)=(q:Int)+1:=IntWalk.i64_in _ (by omega)
     have hqm:q<1000000:=by omega
     have HGK:=zh (show gk=gk - 1+1 from by omega)
     go_wp2_with fail
     refine HTX.out.mono ?_
     rintro e w5 ⟨hT,g1,y1,a1,v,rfl,⟨rfl,hf⟩,hR,hle,hg,hb⟩
     have HS6:=zh (HS.out.to (takeK g1) hT hR)
     have HUA:=zh (zx7 hf)
     have HV1:=zh ((Lk.zero g vcP zs).step (p:=getN) (K':=fun a l1=>match manyP ptP l1 with
      |none=>none
      |some (ps,l2)=>some (((a:Int),ps),l2)) (fun l=>by unfold vcP;rcases getN l with _|⟨x,r⟩<;>rfl) hg hb)
     have HL7:=zh (Nat.le_trans hle HZS.out)
     obtain⟨A,hA⟩: ∃A:World,A=w5.alloc (.cells #[.int .u64 (a1:Int), .slice none 0 0] (76)):=⟨_,rfl⟩
     have HI0:=zh (show RS (TkAt g1) p B w5 A y1 w5.heap.size #[.int .u64 (a1:Int), .slice none 0 0] (76)from⟨by rw [hA];exact(takeK g1).ext hR (zb.alloc zr _),by rw [hA];exact zq3 rfl _,by rw [hA];exact TurnI.of_below (zb.alloc zr _),hR.lt,zr,takeK g1⟩)
     have HNA:=zh (zxb g1 p B y1 A HI0.out.read)
     have HA:=zh hA
     rw [hA] at HNA
     clear hT hg hb hf hR hle HTX hA
     go_wp2_with fail
     refine HNA.out.mono ?_
     rw [<-HA.out]
     rintro e w6 ⟨hT,g2,y2,m,v,rfl,⟨rfl,hnl⟩,hR,hle,hg,hb⟩
     have HI1:=zh (HI0.out.to (takeK g2) hT hR)
     have HV2:=zh (HV1.out.many (p:=ptP) (K2:=fun ps l2=>some (((a1:Int),ps),l2)) (fun l=>by rcases manyP ptP l with _|⟨x,r⟩<;>rfl) hg hb)
     have HL8:=zh (Nat.le_trans hle HL7.out)
     have hm1:m<1000000:=Nat.lt_of_le_of_lt (Nat.le_trans hnl HL7.out) HYL.out
     clear hT hg hb hR hle hnl HNA HI0
     obtain⟨g9,hg9⟩: ∃g9,g9=gk:=⟨_,rfl⟩
     rw [<-hg9] at hq
     have HG9:=zh hg9
     clear hg9
     have hpw5:p<w5.heap.size:=HI1.out.hp
     go_upto_region 19 with fail
     go_loopg [10] m (fun gk iv wr=> ∃(t cp:Nat) (ps:Bh) (zs':List Int) (ap:Option Addr) (g':Bool),t+gk=m/\iv= .int .i64 t/\Hid (Lk g (vcP zs) g' (restP ptP (fun ps l2=>some (((a1:Int),ps),l2)) gk ps) zs')/\Hid (ps.length=t)/\Hid (RS (TkAt g') p B w5 wr zs' w5.heap.size #[.int .u64 (a1:Int), .slice ap t cp] (76))/\Hid (Vx.OwnP w5.heap.size wr (.slice ap t cp) ps)/\Hid (∀q∈ps,U64 q.1/\U64 q.2)/\Hid (zs'.length<=ys.length))
     case atStart=>exact⟨0,0, [],y2,none,g2,by omega,rfl,HV2,zh rfl,HI1,zh (World.ownsRow_nil _ _ _ _),zh (fun q hq=>by cases hq),HL8⟩
     case round=>
      obtain⟨t,cp,ps,zs',ap,g',ht,rfl,HVK,HPS,HI,HOP,HPW,HZT⟩:=hrel
      by_cases hltt:t<m
      ·have l1:(t:Int)<(m:Int):=by omega
       have hw2:IntKind.i64.wrap ((t:Int)+1)=(t:Int)+1:=IntWalk.i64_in _ (by omega)
       have HId:=zh (HI.out.next (TurnI.of_below ((Below.refl wr.heap.size wr).drew)) ((takeK g').ext HI.out.read ((Below.refl wr.heap.size wr).drew)))
       have HOPd:=zh (zqf HOP.out (TurnI.of_below ((Below.refl wr.heap.size wr).drew)) hpw5)
       have HNA:=zh (zqi g' p B zs' wr.drew HId.out.read)
       have c4:=zq0 HI.out.box 1
       simp at c4
       have htm:t<1000000:=by omega
       have HGT:=zh (show gk=gk - 1+1 from by omega)
       go_upto_region 21 with fail
       go_region_law (first
        |(go_simp;go_at_call 68;(with_reducible refine HNA.out.mono ?_);rintro e w6 ⟨hT6,g6,y6,b1,v,rfl,⟨rfl,hf6⟩,hR6,hl6,hg6,hb6⟩;have HI6:=zh (HId.out.to (takeK g6) hT6 hR6);have c6:=zq0 HI6.out.box 1;simp at c6;have HO6:=zh (zqf HOPd.out hT6 hpw5);have HNB:=zh (zqi g6 p B y6 w6 hR6);have HG6:=zh (And.intro hg6 hb6);have HM6:=zh (And.intro hf6 hl6);clear hT6 hR6 hl6 hg6 hb6 hf6)
        |(go_simp;go_at_call 68;(with_reducible refine HNB.out.mono ?_);rintro e w7 ⟨hT7,g7,y7,b2,v,rfl,⟨rfl,hf7⟩,hR7,hl7,hg7,hb7⟩;have HI7:=zh (HI6.out.to (takeK g7) hT7 hR7);have c7:=zq0 HI7.out.box 1;simp at c7;have hlt7:w5.heap.size<w7.heap.size:=zq2 HI7.out.box;obtain⟨a',c',w8,hr,d4,e4,hS9,hO9,hL9⟩:=vec_pt HI7.out (zqf HO6.out hT7 hpw5) HPS.out ((b1:Int),(b2:Int)) htm;have HS9:=zh hS9;have HO9:=zh hO9;have HL9:=zh hL9;have HG7:=zh (And.intro hg7 hb7);have HM7:=zh (And.intro hf7 hl7);clear hS9 hO9 hL9 hT7 hR7 hl7 hg7 hb7 hf7)
        |(refine Vx.zqj rfl (.tmp 72) (.tmp 78) (74) (74) rfl (.slice ap t cp) (.slice (some ⟨w7.heap.size,0,none⟩) 1 1) (by simp [Act.eval]) (by simp [Act.eval]) _ _ hr ?_))
       all_goals
        go_wp2_with fail
        go_roundg(gk - 1)
        case measure=>omega
        case rel=>
         have hs:=yyb HG6.out.1 HG6.out.2 HG7.out.1 HG7.out.2
         exact⟨t+1,c',ps++ [((b1:Int),(b2:Int))],y7,a',g7,by omega,by go_num,zh (HVK.out.round HGT.out hs.1 hs.2),HL9,HS9,HO9,zh (fun y hy=>by
          rcases List.mem_append.1 hy with h1|h1
          ·exact HPW.out y h1
          ·rw [List.mem_singleton.1 h1];exact⟨zx7 HM6.out.1,zx7 HM7.out.1⟩),zh (by have:=HM6.out.2;have:=HM7.out.2;have:=HZT.out;omega)⟩
      ·have l1: ¬(t:Int)<(m:Int):=by omega
       obtain rfl:m=t:=by omega
       obtain rfl:gk=0:=by omega
       have HS8:=zh (HS6.out.to (takeK g') HI.out.turn HI.out.read)
       have HVD:=zh HVK.out.done
       have HLK2:=zh (show Lk f (rtP ys) g' (restP vcP (fun vs l6=>some ((⟨sq,lg,nx,xs,xl,vs, []⟩:Rt),l6)) (g9 - 1) (Vx.vsOf (xv++ [⟨(a1:Int),ap,cp,ps⟩]))) zs' from by
        have h1:=HLK.out.round (m':=g9 - 1) (x:=((a1:Int),ps)) (by have:=HG9.out;have:=HGK.out;omega) HVD.out.1 HVD.out.2
        simpa [Vx.vsOf] using h1)
       have HPL2:=zh (show∀v∈xv++ [(⟨(a1:Int),ap,cp,ps⟩:Vx.Vc)],v.ps.length<1000000 from fun v hv=>by
        rcases List.mem_append.1 hv with h1|h1
        ·exact HPV.out v h1
        ·rw [List.mem_singleton.1 h1];show ps.length<1000000;rw [HPS.out];exact hm1)
       have c0:=zq0 HI.out.box 0
       have c1:=zq0 HI.out.box 1
       have c5:=zq0 HS8.out.rs.box 5
       simp at c0 c1 c5
       obtain⟨a',c',w8,hr,d5,e5,hS9⟩:=HS8.out.vec ⟨(a1:Int),ap,cp,ps⟩ ⟨HUA.out,HPW.out⟩ m HPS.out (zq9 HOP.out HS6.out.rs.turn.size) hqm
       have HS9:=zh hS9
       clear hS9 ht hltt
       go_wp2_with(at_builtin;refine zqm _ (by rfl) _ _ _ _ rfl _ _ rfl rfl _ _ hr ?_;clear hr)
       go_roundg(g9 - 1)
       case measure=>have:=HG9.out;have:=HGK.out;omega
       case rel=>exact⟨q+1,c',xv++ [⟨(a1:Int),ap,cp,ps⟩],zs',a',g',by have:=HG9.out;have:=HGK.out;omega,by go_num,HLK2,HS9,HZT,HPL2⟩
    ·have i1: ¬(q:Int)<(nV:Int):=by omega
     obtain rfl:nV=q:=by omega
     obtain rfl:gk=0:=by omega
     have HFIN:=zh HLK.out.done.fin
     have q0:=zq0 HS.out.rs.box 0
     have q1:=zq0 HS.out.rs.box 1
     have q2:=zq0 HS.out.rs.box 2
     have q3:=zq0 HS.out.rs.box 3
     have q4:=zq0 HS.out.rs.box 4
     have q5:=zq0 HS.out.rs.box 5
     have q6:=zq0 HS.out.rs.box 6
     simp at q0 q1 q2 q3 q4 q5 q6
     have HTT:=zh (HT3.out.trans HS.out.rs.turn)
     have hww:w.heap.size<=w3.heap.size:=Nat.le_trans HT0.out.size HT3.out.size
     have HC0:=zh (show CpSt g p B w zs w.heap.size ⟨sq,lg,nx,a,c,xs,a2,c2,xl,av,cv,xv,none,0, []⟩ wr #[.int .u64 0, .int .u64 0, .int .u64 0, .slice none 0 0, .slice none 0 0, .slice none 0 0, .slice none 0 0] from⟨HTT.out.kept _ _ HX.out (by have:=HPL.out;omega),(HS.out.own HU1.out HU2.out HU3.out (fun v hv=>by have:=HPV.out v hv;unfold maxLen;omega)).mono hww,HS.out.rs.read,HT0.out.trans HTT.out,HPL.out⟩)
     obtain⟨b0,b1,b2,b3,b4,b5,b6⟩:=zqb HC0.out.box
     have f0:=zq1 HC0.out.box 0
     have f1:=zq1 HC0.out.box 1
     have f2:=zq1 HC0.out.box 2
     have f3:=zq1 HC0.out.box 3
     have f4:=zq1 HC0.out.box 4
     have f5:=zq1 HC0.out.box 5
     have f6:=zq1 HC0.out.box 6
     have HLV:=zh (show xs.length=n/\xl.length=nL/\xv.length=nV from⟨HS.out.lb,HS.out.ll,HS.out.lv⟩)
     have HCF:=zh (((((((HC0.out.set 0 (.int .u64 (sq:Int)) _ rfl).set 1 (.int .u64 (lg:Int)) _ rfl).set 2 (.int .u64 (nx:Int)) _ rfl).set 3 (.slice a n c) _ rfl).set 4 (.slice a2 nL c2) _ rfl).set 5 (.slice av nV cv) _ rfl).set 6 (.slice none 0 0) #[.int .u64 (sq:Int), .int .u64 (lg:Int), .int .u64 (nx:Int), .slice a n c, .slice a2 nL c2, .slice av nV cv, .slice none 0 0] rfl)
     clear HLK HK6 HS5 hlt hq hn3 HTT hww
     go_wp2_with fail
     obtain⟨Z,hZ⟩:=HCF.out.name
     rw [<-hZ] at HCF ⊢
     clear q0 q1 q2 q3 q4 q5 q6 b0 b1 b2 b3 b4 b5 b6 f0 f1 f2 f3 f4 f5 f6 hZ
     obtain⟨q0,q1,q2,q3,q4,q5,q6⟩:=zqb HCF.out.box
     refine bodyPost_ret (v:= .agg #[.int .u64 (sq:Int), .int .u64 (lg:Int), .int .u64 (nx:Int), .slice a n c, .slice a2 nL c2, .slice av nV cv, .slice none 0 0]) (by simp [results,Tryz.results65,go_sem,q0,q1,q2,q3,q4,q5,q6]) rfl ?_
     refine⟨HCF.out.turn,g,zs,_,_,rfl,⟨⟨sq,lg,nx,a,c,xs,a2,c2,xl,av,cv,xv,none,0, []⟩,?_,HCF.out.own,rfl,rfl,rfl,rfl⟩,HCF.out.read,HZS.out,HFIN.out.1,HFIN.out.2⟩
     show _=Value.agg #[.int .u64 (sq:Int), .int .u64 (lg:Int), .int .u64 (nx:Int), .slice a xs.length c, .slice a2 xl.length c2, .slice av xv.length cv, .slice none 0 0]
     rw [HLV.out.1,HLV.out.2.1,HLV.out.2.2]
end Go.Proofs.YtchcelodeepjdaaGreatDoor.Ln
