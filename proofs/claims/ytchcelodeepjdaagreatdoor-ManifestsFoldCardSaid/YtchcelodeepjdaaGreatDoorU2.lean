/- Lemmas and walks towards ManifestsFold. Conditions: each one tells its own. -/
import Derived.Test.YtchcelodeepjdaaGreatDoorMp
import Derived.Test.YtchcelodeepjdaaGreatDoorU2b
import Derived.Test.YtchcelodeepjdaaGreatDoorLT4
namespace Go.Proofs.YtchcelodeepjdaaGreatDoor.Ln
open Go.RowKit Go.Shelf Go.Herb
theorem zk0 {ls:List Ln}{k:Int}:hasL ls k=true↔ ∃q,parL ls k=some q:=by
 rw [yqs]
 constructor
 ·rintro⟨x,hx,rfl⟩
  cases hp:parL ls x.1 with
  |some q=>exact⟨q,rfl⟩
  |none=>
   unfold parL at hp
   rw [Option.map_eq_none_iff,List.find?_eq_none] at hp
   exact absurd (hp x hx) (by simp)
 ·rintro⟨q,hq⟩
  obtain⟨i,hi⟩:=yz4 hq
  exact⟨_,List.mem_of_getElem? hi,rfl⟩
structure yqd (w:World)(p:Nat)(bs:List Br)(ls:List Ln):Prop where
 blk: ∃ba bc la lc,w.heap[p]? =some (.cells #[.slice ba bs.length bc, .slice la ls.length lc] (155) (0,0))/\Brs w ba bs/\Lns w la ls
theorem yqd.ext {w w':World}{p:Nat}{bs:List Br}{ls:List Ln}(h:yqd w p bs ls)(hb:Below w.heap.size w w'):yqd w' p bs ls:=by
 obtain⟨ba,bc,la,lc,h1,h2,h3⟩:=h.blk
 exact⟨ba,bc,la,lc,zq4 h1 hb (zq2 h1),h2.ext hb,h3.ext hb⟩
def yqb (bs:List Br)(ls:List Ln)(w:World)(e:Ending)(w':World):Prop:=
 ((¬GoodT bs ls/\e= .returned (.tuple #[.pointer none, .int .i64 4]))\/(GoodT bs ls/\ ∃p:Nat,e= .returned (.tuple #[.pointer (some ⟨p,0,none⟩), .int .i64 0])/\yqd w' p bs ls))/\Below w.heap.size w w'
set_option maxRecDepth 100000 in
set_option maxHeartbeats 4000000 in
theorem ofR_any (ba:Option Addr)(bc n:Nat)(la:Option Addr)(lc m:Nat)(bs:List Br)(ls:List Ln)(w:World)(hBs:Brs w ba bs)(hbn:bs.length=n)(hLs:Lns w la ls)(hln:ls.length=m)(hle:m<=lc)(hmx:lc<=maxLen)(hn:n<=100000)(hm:m<=100000)(hst: ∀x∈bs,x.1.size<=9223372036854775807):
  Calls Tryz.prog (54) #[.slice ba n bc, .slice la m lc] w (yqb bs ls w):=by
 have HOUT:=zh (show¬GoodT bs ls->Hid (∀u,Below w.heap.size w u->yqb bs ls w (.returned (.tuple #[.pointer none, .int .i64 4])) u)from fun h=>zh (fun u hu=>⟨.inl ⟨h,rfl⟩,hu⟩))
 have HE:=zh hBs
 have HL:=zh hLs
 have HN:=zh (show bs.length=n/\ls.length=m/\n<=100000/\m<=100000/\m<=lc/\lc<=maxLen from⟨hbn,hln,hn,hm,hle,hmx⟩)
 have HST:=zh hst
 have hneq:=zy5
 have hgt:=yjg
 have HB0:=zh (Below.refl w.heap.size w)
 clear hBs hLs hbn hln hle hmx hst
 go_enter Tryz.func54,Tryz.ntmps54
 by_cases h1:m<1
 ·have HF:=HOUT.out (fun h=>by have:=h.l1;have:=HN.out;omega)
  have h1':(m:Int)<1:=by omega
  clear hneq hgt
  go_wp2_with fail
  go_ret2
  exact HF.out _ HB0.out
 by_cases h2:48<m
 ·have HF:=HOUT.out (fun h=>by have:=h.nl;have:=HN.out;omega)
  have h1': ¬(m:Int)<1:=by omega
  have h2':(48:Int)<(m:Int):=by omega
  clear hneq hgt
  go_wp2_with fail
  go_ret2
  exact HF.out _ HB0.out
 have h1': ¬(m:Int)<1:=by omega
 have h2': ¬(48:Int)<(m:Int):=by omega
 have hn0:0<ls.length:=by have:=HN.out;omega
 have hidx:(0:Int)<(m:Int):=by omega
 obtain⟨lb,lo,rfl,hllb,hcell⟩:=HL.out.get 0 hn0
 have x0:=hcell 0 _ rfl
 have x1:=hcell 1 _ rfl
 simp only [Nat.zero_mul,Nat.add_zero] at x0 x1
 have HX:=zh (List.getElem?_eq_getElem hn0)
 generalize ls[0] =x at x0 x1 HX
 clear hcell
 by_cases hf: ¬(x.1=0/\x.2=0)
 ·have hfd:decide (x.1=0/\x.2=0)=false:=decide_eq_false hf
  have HF:=HOUT.out (fun h=>by
   have:=h.formed.first
   rw [HX.out] at this
   injection this with this
   exact hf ⟨by rw [this],by rw [this]⟩)
  clear hf
  go_wp2_with fail
  go_ret2
  exact HF.out _ HB0.out
 have hf:=Classical.not_not.1 hf
 have hfd:decide (x.1=0/\x.2=0)=true:=decide_eq_true hf
 have hf1:decide (x.1=0)=true:=decide_eq_true hf.1
 have hf2:decide (x.2=0)=true:=decide_eq_true hf.2
 by_cases h3:n<1
 ·have HF:=HOUT.out (fun h=>by have:=h.b1;have:=HN.out;omega)
  have h3':(n:Int)<1:=by omega
  clear hf
  go_wp2_with fail
  go_ret2
  exact HF.out _ HB0.out
 by_cases h4:12<n
 ·have HF:=HOUT.out (fun h=>by have:=h.b12;have:=HN.out;omega)
  have h3': ¬(n:Int)<1:=by omega
  have h4':(12:Int)<(n:Int):=by omega
  clear hf
  go_wp2_with fail
  go_ret2
  exact HF.out _ HB0.out
 have h3': ¬(n:Int)<1:=by omega
 have h4': ¬(12:Int)<(n:Int):=by omega
 have HX0:=zh (show ls[0]? =some (0,0)by rw [HX.out];exact congrArg some (Prod.ext hf.1 hf.2))
 have HP0:=zh (show zx9 (ls.take 1)by
  have ht:ls.take 1= [(0,0)] :=by
   cases hxs:ls with
   |nil=>rw [hxs] at hn0;simp at hn0
   |cons z t=>
    have:=HX0.out
    rw [hxs] at this
    simp at this
    simp [this]
  rw [ht]
  exact⟨rfl,List.pairwise_singleton _ _,fun i y hi hy=>by
   rw [List.getElem?_eq_none (by simp;omega)] at hy;cases hy⟩)
 obtain⟨m1,hm1⟩: ∃m1,m=m1+1:=⟨m - 1,by omega⟩
 have HM1:=zh (show m=m1+1/\1<=n/\n<=12 from⟨hm1,by omega,by omega⟩)
 clear hf hm1
 go_wp2_with fail
 clear x0 x1 hneq hgt hfd hf1 hf2 hidx
 go_loopg [6] m1 (fun gk iv wr=> ∃i j:Nat,j+gk=m1/\Hid (i=j+1)/\iv= .int .i64 i/\Hid (zx9 (ls.take i))/\Hid (Below w.heap.size w wr))
 case atStart=>exact⟨1,0,by omega,zh rfl,rfl,HP0,HB0⟩
 case round=>
  obtain⟨i,j,hj,HIJ,rfl,HFI,HBW⟩:=hrel
  by_cases hlt:i<m
  ·have hjl:j<ls.length:=by have:=HN.out;have:=HIJ.out;omega
   have hil:i<ls.length:=by have:=HN.out;omega
   obtain⟨b',o',he',_,hcy⟩:=HL.out.get j hjl
   injection he' with he'
   cases he'
   obtain⟨b',o',he',_,hcx⟩:=HL.out.get i hil
   injection he' with he'
   cases he'
   have HY:=zh (List.getElem?_eq_getElem hjl)
   have HZ:=zh (show ls[j+1]? =some ls[i] from by rw [<-HIJ.out];exact List.getElem?_eq_getElem hil)
   generalize ls[j] =y at HY hcy
   generalize ls[i] =z at HZ hcx
   have HCE:Hid (∀u,Below w.heap.size w u->u.cell? ⟨lb,lo+j*2,none⟩=some (.int .u64 y.1)/\u.cell? ⟨lb,lo+i*2,none⟩=some (.int .u64 z.1)/\u.cell? ⟨lb,lo+i*2+1,none⟩=some (.int .u64 z.2)):=zh (fun u hu=>by
    have f0:=(hu.cell (p:=⟨lb,_,none⟩) hllb).trans (hcy 0 _ rfl)
    have f1:=(hu.cell (p:=⟨lb,_,none⟩) hllb).trans (hcx 0 _ rfl)
    have f2:=(hu.cell (p:=⟨lb,_,none⟩) hllb).trans (hcx 1 _ rfl)
    exact⟨f0,f1,f2⟩)
   obtain⟨g0,g1,g2⟩:=HCE.out wr HBW.out
   have hi0:(0:Int)<=(i:Int):=by omega
   have hi1:(i:Int)<(m:Int):=by omega
   have hj0:(0:Int)<=(j:Int):=by omega
   have hj1:(j:Int)<(m:Int):=by have:=HIJ.out;omega
   have hw1:IntKind.i64.wrap ((i:Int)+1)=(i:Int)+1:=IntWalk.i64_in _ (by omega)
   have hw2:IntKind.i64.wrap ((i:Int) - 1)=(j:Int):=by have:=HIJ.out;rw [IntWalk.i64_in _ (by omega)];omega
   have hlo:=yzl (b:=lb) (o:=lo) (n:=m) (lc:=lc) (k:=i) (z:=(i:Int)) rfl (by have:=HN.out;omega) (by have:=HN.out;omega)
   have HHS:Hid (∀u,Below w.heap.size w u->Calls Tryz.prog (85) #[.slice (some ⟨lb,lo,none⟩) i lc, .int .u64 z.2] u fun e w'=>e= .returned (.bool (hasL (ls.take i) z.2))/\u=w'):=zh (fun u hu=>ykp (some ⟨lb,lo,none⟩) lc i (ls.take i) z.2 u ((HL.out.take i).ext hu) (by rw [List.length_take];omega) (by omega))
   have HDA:=zh (show Below w.heap.size w wr.drew from bdrw HBW.out)
   clear hcy hcx hil hjl
   by_cases hyz:y.1<z.1
   ·have d1:decide (z.1<=y.1)=false:=decide_eq_false (by omega)
    cases hh:hasL (ls.take i) z.2 with
    |false=>
     have HF:=HOUT.out (fun h=>by
      obtain⟨-,q,hq⟩:=zjy h.formed HY.out HZ.out
      rw [<-HIJ.out] at hq
      have:=zk0.2 ⟨q,hq⟩
      rw [hh] at this;cases this)
     rw [hh] at HHS
     clear hyz hh
     go_upto_region 6 with fail
     go_region_held3 (fun u=>u.cell? ⟨lb,lo+j*2,none⟩=some (.int .u64 y.1)/\u.cell? ⟨lb,lo+i*2,none⟩=some (.int .u64 z.1)/\u.cell? ⟨lb,lo+i*2+1,none⟩=some (.int .u64 z.2)) (first|exact HCE.out _ HDA.out) (first|(go_at_call 85;(with_reducible refine(HHS.out _ HDA.out).mono ?_);rintro e w5 ⟨rfl,rfl⟩))
     all_goals
      go_wp2
      go_ret2
      exact HF.out _ HDA.out
    |true=>
     obtain⟨q,hq⟩:=zk0.1 hh
     have HFN:=zh (show zx9 (ls.take (i+1))from by
      have h5:=HIJ.out
      subst h5
      exact zvm HFI.out HY.out HZ.out hyz hq)
     rw [hh] at HHS
     clear hyz hh hq
     go_upto_region 6 with fail
     go_region_held3 (fun u=>u.cell? ⟨lb,lo+j*2,none⟩=some (.int .u64 y.1)/\u.cell? ⟨lb,lo+i*2,none⟩=some (.int .u64 z.1)/\u.cell? ⟨lb,lo+i*2+1,none⟩=some (.int .u64 z.2)) (first|exact HCE.out _ HDA.out) (first|(go_at_call 85;(with_reducible refine(HHS.out _ HDA.out).mono ?_);rintro e w5 ⟨rfl,rfl⟩))
     all_goals
      go_wp2
      go_roundg(gk - 1)
      case measure=>have:=HIJ.out;have:=HM1.out;omega
      case rel=>exact⟨i+1,j+1,by have:=HIJ.out;have:=HM1.out;omega,zh (by rw [HIJ.out]),by go_num,HFN,HDA⟩
   ·have d1:decide (z.1<=y.1)=true:=decide_eq_true (by omega)
    have HF:=HOUT.out (fun h=>hyz (zjy h.formed HY.out HZ.out).1)
    clear hyz HHS
    go_upto_region 6 with fail
    go_quiet (fail)
    have HBU:=zh (show Below w.heap.size w (wr.drewN nq)from⟨HBW.out.os,HBW.out.tape,HBW.out.output,HBW.out.size,HBW.out.block⟩)
    go_wp2
    go_ret2
    exact HF.out _ HBU.out
  have h5: ¬(i:Int)<(m:Int):=by omega
  have HFM:=zh (show zx9 ls from by have:=HFI.out;rwa [List.take_of_length_le (by have:=HN.out;omega)] at this)
  have HBz:=HBW
  clear HFI hj HIJ HP0
  go_wp2_with fail
  go_loopg [7] n (fun gk iv wr=> ∃i:Nat,i+gk=n/\iv= .int .i64 i/\Hid (zz2 (bs.take i) ls)/\Hid (Below w.heap.size w wr))
  case atStart=>exact⟨0,by omega,rfl,zh (zz2.nil ls),HBz⟩
  case round=>
   clear HBz
   obtain⟨i,hi,rfl,HFI,HBW⟩:=hrel
   by_cases hlt:i<n
   ·have hil:i<bs.length:=by have:=HN.out;omega
    obtain⟨b,o,rfl,hlb,hcx⟩:=HE.out.get i hil
    have HXE:=zh (List.getElem?_eq_getElem hil)
    have HSZ:=zh (HST.out _ (List.getElem_mem hil))
    generalize bs[i] =x at HXE hcx HSZ
    obtain⟨k,hk⟩: ∃k:Nat,k=i - 1:=⟨_,rfl⟩
    obtain⟨yn,HYN,HYC⟩: ∃yn:ByteArray,Hid (∀y,0<i->bs[i - 1]? =some y->y.1=yn)/\Hid (∀u,Below w.heap.size w u->u.cell? ⟨b,o+k*3,none⟩=some (.string yn)):=by
     have hil1:i - 1<bs.length:=by omega
     obtain⟨b',o',he',_,hcy⟩:=HE.out.get (i - 1) hil1
     injection he' with he'
     cases he'
     exact⟨bs[i - 1].1,zh (fun y _ hy=>by rw [List.getElem?_eq_getElem hil1] at hy;injection hy with hy;rw [<-hy]),zh (fun u hu=>by rw [hk];exact(hu.cell (p:=⟨b,_,none⟩) hlb).trans (hcy 0 _ rfl))⟩
    have HCE:Hid (∀u,Below w.heap.size w u->u.cell? ⟨b,o+i*3+1,none⟩=some (.int .u64 x.2.1)):=zh (fun u hu=>(hu.cell (p:=⟨b,_,none⟩) hlb).trans (hcx 1 _ rfl))
    have HKP:Hid (∀u,Below wr.heap.size wr u->u.cell? ⟨b,o+i*3,none⟩=some (.string x.1)/\u.cell? ⟨b,o+i*3+1,none⟩=some (.int .u64 x.2.1)/\u.cell? ⟨b,o+k*3,none⟩=some (.string yn)):=zh (fun u hu=>by
     have hu2:=HBW.out.trans (hu.mono HBW.out.size)
     exact⟨(hu2.cell (p:=⟨b,_,none⟩) hlb).trans (hcx 0 _ rfl),HCE.out u hu2,HYC.out u hu2⟩)
    have HHS:Hid (∀u,Below wr.heap.size wr u->Calls Tryz.prog (85) #[.slice (some ⟨lb,lo,none⟩) m lc, .int .u64 x.2.1] u (fun e w'=>e= .returned (.bool (hasL ls x.2.1))/\Below u.heap.size u w')):=zh (fun u hu=>(ykp (some ⟨lb,lo,none⟩) lc m ls x.2.1 u (HL.out.ext (HBW.out.trans (hu.mono HBW.out.size))) HN.out.2.1 (by omega)).mono (by
     rintro e w' ⟨h5,rfl⟩
     exact⟨h5,zb⟩))
    have hi0:(0:Int)<=(i:Int):=by omega
    have hi1:(i:Int)<(n:Int):=by omega
    have hw1:IntKind.i64.wrap ((i:Int)+1)=(i:Int)+1:=IntWalk.i64_in _ (by omega)
    have hw3:0<i->IntKind.i64.wrap ((i:Int) - 1)=(k:Int):=fun h=>by rw [IntWalk.i64_in _ (by omega)];omega
    have hk0:(0:Int)<=(k:Int):=by omega
    have hk1:(k:Int)<(n:Int):=by omega
    clear hcx HYC hk hil
    go_upto_region 11 with fail
    by_cases hnm:nameB x.1=true
    ·have HNM:=zh hnm
     have HIN:=zh (show∀u,Below wr.heap.size wr u->Calls Tryz.prog (86) #[.string x.1] u (fun e w'=>e= .returned (.bool true)/\Below u.heap.size u w')from fun u hu=>(yxy x.1 u HSZ.out).mono fun e w' ⟨h3,h4⟩=>⟨by rw [h3,hnm],by rw [h4];exact zb⟩)
     clear hnm
     by_cases h0i:0<i
     ·have d0:decide ((0:Int)<(i:Int))=true:=decide_eq_true (by omega)
      have hw3:=hw3 h0i
      by_cases hle:yn.toList<x.1.toList
      ·have d1:Op.bytesLess x.1.toList yn.toList=false:=by rw [bytesLess_eq];exact decide_eq_false (fun h=>List.lt_irrefl _ (List.lt_trans hle h))
       have d2:(x.1.toList==yn.toList)=false:=beq_eq_false_iff_ne.2 (fun h=>by rw [h] at hle;exact List.lt_irrefl _ hle)
       have HLT0:=zh (show∀y,0<i->bs[i - 1]? =some y->y.1.toList<x.1.toList from fun y h5 h6=>by rw [HYN.out y h5 h6];exact hle)
       clear hle
       cases hh:hasL ls x.2.1 with
       |false=>
        have HF:=HOUT.out (fun h=>by
         obtain⟨-, -,hq, -⟩:=h.named.at HXE.out
         have:=zk0.2 hq
         rw [hh] at this;cases this)
        rw [hh] at HHS
        clear hh
        refine o11_D hi0 hi1 HKP HIN HHS h0i d0 hw3 hk0 hk1 d1 d2 (by rintro ch ⟨t,d⟩ ⟨t',d'⟩ w' rfl h;exact h) ?_
        intro v70 v71 v72 v73 v74 v75 v76 v77 v78 v79 v80 v81 v82 v83 v84 v85 v86 v87 v88 v89 v90 v91 v92 v93 v94 v95 v96 v97 v98 v99 v100 v101 v102 v103 wq hbu
        have HBU:=zh (HBW.out.trans (hbu.mono HBW.out.size))
        clear hbu
        go_wp2
        go_ret2
        exact HF.out _ HBU.out
       |true=>
        rw [hh] at HHS
        refine o11_D hi0 hi1 HKP HIN HHS h0i d0 hw3 hk0 hk1 d1 d2 (by rintro ch ⟨t,d⟩ ⟨t',d'⟩ w' rfl h;exact h) ?_
        intro v70 v71 v72 v73 v74 v75 v76 v77 v78 v79 v80 v81 v82 v83 v84 v85 v86 v87 v88 v89 v90 v91 v92 v93 v94 v95 v96 v97 v98 v99 v100 v101 v102 v103 wq hbu
        have HBU:=zh (HBW.out.trans (hbu.mono HBW.out.size))
        clear hbu
        obtain⟨q,hq⟩:=zk0.1 hh
        have HQ:=zh hq
        clear hh hq
        go_wp2_with fail
        obtain⟨gi,hgi⟩: ∃gi,gi=gk:=⟨_,rfl⟩
        rw [<-hgi] at hi
        have HGI:=zh hgi
        clear hgi
        go_loopg [8] i (fun gj jv wz=> ∃k:Nat,k+gj=i/\jv= .int .i64 k/\Hid (∀y∈bs.take k,y.2.1≠x.2.1)/\Hid (Below w.heap.size w wz))
        case atStart=>exact⟨0,by omega,rfl,zh (by simp),HBU⟩
        case round=>
         obtain⟨k,hk,rfl,HNE,HBK⟩:=hrel
         by_cases hki:k<i
         ·have hkl:k<bs.length:=by have:=HN.out;omega
          obtain⟨b',o',he',_,hck⟩:=HE.out.get k hkl
          injection he' with he'
          cases he'
          have HTKk:=zh (List.take_succ_eq_append_getElem hkl)
          have HMK:=zh (show bs[k] ∈bs.take i from by
           have:(bs.take i)[k]? =some bs[k] :=by rw [List.getElem?_take_of_lt hki];exact List.getElem?_eq_getElem hkl
           exact List.mem_of_getElem? this)
          generalize bs[k] =v at hck HTKk HMK
          have f1:=(HBK.out.cell (p:=⟨b,_,none⟩) hlb).trans (hck 1 _ rfl)
          have f2:=HCE.out wr HBK.out
          have k0:(0:Int)<=(k:Int):=by omega
          have k1:(k:Int)<(n:Int):=by omega
          have k2:(k:Int)<(i:Int):=by omega
          have kw:IntKind.i64.wrap ((k:Int)+1)=(k:Int)+1:=IntWalk.i64_in _ (by omega)
          clear hck
          by_cases hvx:v.2.1=x.2.1
          ·have hd:(v.2.1==x.2.1)=true:=by rw [hvx];exact beq_self_eq_true _
           have HF:=HOUT.out (fun h=>(h.named.at HXE.out).2.2.2 (List.mem_map.2 ⟨v,HMK.out,hvx⟩))
           clear hvx
           go_upto_region 16 with fail
           go_quiet (fail)
           have HBV:=zh (show Below w.heap.size w (wr.drewN nq)from⟨HBK.out.os,HBK.out.tape,HBK.out.output,HBK.out.size,HBK.out.block⟩)
           go_wp2
           go_ret2
           exact HF.out _ HBV.out
          ·have hd:(v.2.1==x.2.1)=false:=beq_eq_false_iff_ne.2 hvx
           have HN2:=zh (show∀y∈bs.take (k+1),y.2.1≠x.2.1 from by
            rw [HTKk.out]
            intro y hy
            rcases List.mem_append.1 hy with h7|h7
            ·exact HNE.out y h7
            ·rw [List.mem_singleton.1 h7];exact hvx)
           clear hvx
           go_upto_region 16 with fail
           go_quiet (fail)
           have HBV:=zh (show Below w.heap.size w (wr.drewN nq)from⟨HBK.out.os,HBK.out.tape,HBK.out.output,HBK.out.size,HBK.out.block⟩)
           go_wp2
           go_roundg(gk - 1)
           case measure=>omega
           case rel=>exact⟨k+1,by omega,by go_num,HN2,HBV⟩
         ·have h7: ¬(k:Int)<(i:Int):=by omega
          have HFN:=zh (HFI.out.next HXE.out HNM.out HLT0.out HQ.out (fun h=>by
           obtain⟨y,hy,e⟩:=List.mem_map.1 h
           exact HNE.out y (by rw [show k=i by omega];exact hy) e))
          go_wp2_with fail
          go_roundg(gi - 1)
          case measure=>have:=HGI.out;omega
          case rel=>exact⟨i+1,by omega,by go_num,HFN,HBK⟩
      ·have d1:(Op.bytesLess x.1.toList yn.toList||x.1.toList==yn.toList)=true:=by rw [bytesLess_eq];rcases List.le_iff_lt_or_eq.1 (List.not_lt.1 hle)with h|h<;>simp [h]
       have HF:=HOUT.out (fun h=>by
        have hi1:i - 1<bs.length:=by have:=HN.out;omega
        have h5:=(h.named.at HXE.out).2.1 _ h0i (List.getElem?_eq_getElem hi1)
        rw [HYN.out _ h0i (List.getElem?_eq_getElem hi1)] at h5
        exact hle h5)
       clear hle HHS
       refine o11_C hi0 hi1 HKP HIN h0i d0 hw3 hk0 hk1 d1 (by rintro ch ⟨t,d⟩ ⟨t',d'⟩ w' rfl h;exact h) ?_
       intro v70 v71 v72 v73 v74 v75 v76 v77 v78 v79 v80 v81 v82 v83 v84 v85 v86 v87 v88 v89 v90 v91 v92 v93 v94 v95 v96 v97 v98 v99 v100 v101 v102 v103 wq hbu
       have HBU:=zh (HBW.out.trans (hbu.mono HBW.out.size))
       clear hbu
       go_wp2
       go_ret2
       exact HF.out _ HBU.out
     ·have d0:decide ((0:Int)<(i:Int))=false:=decide_eq_false (by omega)
      have HLT0:=zh (show∀y,0<i->bs[i - 1]? =some y->y.1.toList<x.1.toList from fun y h5 h6=>absurd h5 h0i)
      cases hh:hasL ls x.2.1 with
      |false=>
       have HF:=HOUT.out (fun h=>by
        obtain⟨-, -,hq, -⟩:=h.named.at HXE.out
        have:=zk0.2 hq
        rw [hh] at this;cases this)
       rw [hh] at HHS
       clear hh
       refine o11_B hi0 hi1 HKP HIN HHS h0i d0 (by rintro ch ⟨t,d⟩ ⟨t',d'⟩ w' rfl h;exact h) ?_
       intro v70 v71 v72 v73 v74 v75 v76 v77 v78 v79 v80 v81 v82 v83 v84 v85 v86 v87 v88 v89 v90 v91 v92 v93 v94 v95 v96 v97 v98 v99 v100 v101 v102 v103 wq hbu
       have HBU:=zh (HBW.out.trans (hbu.mono HBW.out.size))
       clear hbu
       go_wp2
       go_ret2
       exact HF.out _ HBU.out
      |true=>
       rw [hh] at HHS
       refine o11_B hi0 hi1 HKP HIN HHS h0i d0 (by rintro ch ⟨t,d⟩ ⟨t',d'⟩ w' rfl h;exact h) ?_
       intro v70 v71 v72 v73 v74 v75 v76 v77 v78 v79 v80 v81 v82 v83 v84 v85 v86 v87 v88 v89 v90 v91 v92 v93 v94 v95 v96 v97 v98 v99 v100 v101 v102 v103 wq hbu
       have HBU:=zh (HBW.out.trans (hbu.mono HBW.out.size))
       clear hbu
       obtain⟨q,hq⟩:=zk0.1 hh
       have HQ:=zh hq
       clear hh hq
       go_wp2_with fail
       obtain⟨gi,hgi⟩: ∃gi,gi=gk:=⟨_,rfl⟩
       rw [<-hgi] at hi
       have HGI:=zh hgi
       clear hgi
       go_loopg [8] i (fun gj jv wz=> ∃k:Nat,k+gj=i/\jv= .int .i64 k/\Hid (∀y∈bs.take k,y.2.1≠x.2.1)/\Hid (Below w.heap.size w wz))
       case atStart=>exact⟨0,by omega,rfl,zh (by simp),HBU⟩
       case round=>
        obtain⟨k,hk,rfl,HNE,HBK⟩:=hrel
        by_cases hki:k<i
        ·have hkl:k<bs.length:=by have:=HN.out;omega
         obtain⟨b',o',he',_,hck⟩:=HE.out.get k hkl
         injection he' with he'
         cases he'
         have HTKk:=zh (List.take_succ_eq_append_getElem hkl)
         have HMK:=zh (show bs[k] ∈bs.take i from by
          have:(bs.take i)[k]? =some bs[k] :=by rw [List.getElem?_take_of_lt hki];exact List.getElem?_eq_getElem hkl
          exact List.mem_of_getElem? this)
         generalize bs[k] =v at hck HTKk HMK
         have f1:=(HBK.out.cell (p:=⟨b,_,none⟩) hlb).trans (hck 1 _ rfl)
         have f2:=HCE.out wr HBK.out
         have k0:(0:Int)<=(k:Int):=by omega
         have k1:(k:Int)<(n:Int):=by omega
         have k2:(k:Int)<(i:Int):=by omega
         have kw:IntKind.i64.wrap ((k:Int)+1)=(k:Int)+1:=IntWalk.i64_in _ (by omega)
         clear hck
         by_cases hvx:v.2.1=x.2.1
         ·have hd:(v.2.1==x.2.1)=true:=by rw [hvx];exact beq_self_eq_true _
          have HF:=HOUT.out (fun h=>(h.named.at HXE.out).2.2.2 (List.mem_map.2 ⟨v,HMK.out,hvx⟩))
          clear hvx
          go_upto_region 16 with fail
          go_quiet (fail)
          have HBV:=zh (show Below w.heap.size w (wr.drewN nq)from⟨HBK.out.os,HBK.out.tape,HBK.out.output,HBK.out.size,HBK.out.block⟩)
          go_wp2
          go_ret2
          exact HF.out _ HBV.out
         ·have hd:(v.2.1==x.2.1)=false:=beq_eq_false_iff_ne.2 hvx
          have HN2:=zh (show∀y∈bs.take (k+1),y.2.1≠x.2.1 from by
           rw [HTKk.out]
           intro y hy
           rcases List.mem_append.1 hy with h7|h7
           ·exact HNE.out y h7
           ·rw [List.mem_singleton.1 h7];exact hvx)
          clear hvx
          go_upto_region 16 with fail
          go_quiet (fail)
          have HBV:=zh (show Below w.heap.size w (wr.drewN nq)from⟨HBK.out.os,HBK.out.tape,HBK.out.output,HBK.out.size,HBK.out.block⟩)
          go_wp2
          go_roundg(gk - 1)
          case measure=>omega
          case rel=>exact⟨k+1,by omega,by go_num,HN2,HBV⟩
        ·have h7: ¬(k:Int)<(i:Int):=by omega
         have HFN:=zh (HFI.out.next HXE.out HNM.out HLT0.out HQ.out (fun h=>by
          obtain⟨y,hy,e⟩:=List.mem_map.1 h
          exact HNE.out y (by rw [show k=i by omega];exact hy) e))
         go_wp2_with fail
         go_roundg(gi - 1)
         case measure=>have:=HGI.out;omega
         case rel=>exact⟨i+1,by omega,by go_num,HFN,HBK⟩
    ·have HF:=HOUT.out (fun h=>hnm (h.named.at HXE.out).1)
     have HIN:=zh (show∀u,Below wr.heap.size wr u->Calls Tryz.prog (86) #[.string x.1] u (fun e w'=>e= .returned (.bool false)/\Below u.heap.size u w')from fun u hu=>(yxy x.1 u HSZ.out).mono fun e w' ⟨h3,h4⟩=>⟨by rw [h3];simp [hnm],by rw [h4];exact zb⟩)
     clear hnm HHS
     refine o11_A hi0 hi1 HKP HIN (by rintro ch ⟨t,d⟩ ⟨t',d'⟩ w' rfl h;exact h) ?_
     intro v70 v71 v72 v73 v74 v75 v76 v77 v78 v79 v80 v81 v82 v83 v84 v85 v86 v87 v88 v89 v90 v91 v92 v93 v94 v95 v96 v97 v98 v99 v100 v101 v102 v103 wq hbu
     have HBU:=zh (HBW.out.trans (hbu.mono HBW.out.size))
     clear hbu
     go_wp2
     go_ret2
     exact HF.out _ HBU.out
   have h6: ¬(i:Int)<(n:Int):=by omega
   have HGD:=zh (show GoodT bs ls from⟨HFM.out,by have:=HN.out;omega,by have:=HFI.out;rwa [List.take_of_length_le (by have:=HN.out;omega)] at this,by have:=HN.out;have:=HM1.out;omega,by have:=HN.out;have:=HM1.out;omega⟩)
   obtain⟨i0,hin,hz0,hz1,hz2⟩:=info_parts infoB
   obtain⟨i1,hin1,hy0,hy1,hy2⟩:=info_parts infoL
   have hb0:0<bs.length:=by have:=HN.out;have:=HM1.out;omega
   obtain⟨bb,bo,rfl, -, -⟩:=HE.out.get 0 hb0
   obtain⟨v1,W1,hr1,hO1,hg1, -⟩:=run_append_own (P:=Tryz.prog) wr wr.heap.size (27) (27) (73) i0 _ 3 32 Tryz.underlying27 hin hz0 hz1 hz2 rfl (by decide) (.slice none 0 0) 0 [] (World.ownsRow_nil _ _ _ _) ⟨bb,bo,none⟩ n bc (bs.flatMap brc) (by rw [zq8 zk9,HN.out.1]) ((HE.out.ext HBW.out).flat zk9 (by decide)) (fun v hv=>by
    obtain⟨x,_,hx⟩:=List.mem_flatMap.1 hv
    exact yj0 x v hx) (by unfold maxLen;omega) (by omega) zr
   have hB1:Below wr.heap.size wr W1:=zb.grown hg1 zr (fun k e=>by cases e)
   obtain⟨v2,W2,hr2,hO2,hg2, -⟩:=run_append_own (P:=Tryz.prog) W1 W1.heap.size (28) (28) (53) i1 _ 2 16 Tryz.underlying28 hin1 hy0 hy1 hy2 rfl (by decide) (.slice none 0 0) 0 [] (World.ownsRow_nil _ _ _ _) ⟨lb,lo,none⟩ m lc (ls.flatMap lnc) (by rw [zq8 zkd,HN.out.2.1]) ((HL.out.ext (HBW.out.trans (hB1.mono HBW.out.size))).flat zkd (by decide)) (fun v hv=>by
    obtain⟨x,_,hx⟩:=List.mem_flatMap.1 hv
    exact yjj x v hx) (by unfold maxLen;omega) (by omega) zr
   have hB2:Below W1.heap.size W1 W2:=zb.grown hg2 zr (fun k e=>by cases e)
   simp only [Nat.zero_add,List.nil_append] at hO1 hO2
   obtain⟨b1,c1,hv1, -,hE1⟩:=zq6 (xs:=bs) zk9 (by rw [HN.out.1];exact hO1)
   obtain⟨b2,c2,hv2, -,hE2⟩:=zq6 (xs:=ls) zkd (by rw [HN.out.2.1];exact hO2)
   rw [HN.out.1] at hv1
   rw [HN.out.2.1] at hv2
   subst hv1 hv2
   have HFIN:=zh (show∀(p:Nat) (u:World),u.heap[p]? =some (.cells #[.slice b1 n c1, .slice b2 m c2] (155) (0,0))->Below W2.heap.size W2 u->yqb bs ls w (.returned (.tuple #[.pointer (some ⟨p,0,none⟩), .int .i64 0])) u from fun p u hu hb=>⟨.inr ⟨HGD.out,p,rfl,⟨b1,c1,b2,c2,by rw [HN.out.1,HN.out.2.1];exact hu,(hE1.ext hB2).ext hb,hE2.ext hb⟩⟩,HBW.out.trans (((hB1.trans (hB2.mono hB1.size)).trans (hb.mono (Nat.le_trans hB1.size hB2.size))).mono HBW.out.size)⟩)
   clear hin hz0 hz1 hz2 hin1 hy0 hy1 hy2 hO1 hO2 hg1 hg2 hB1 hB2 hE1 hE2 hb0 HGD HFI HFM
   go_wp2_with(at_builtin;first|refine Lib.wpList_append_run _ rfl _ _ _ _ rfl _ _ rfl rfl _ _ hr1 ?_ |refine Lib.wpList_append_run _ rfl _ _ _ _ rfl _ _ rfl rfl _ _ hr2 ?_)
   go_ret2
   exact HFIN.out _ _ (zq3 rfl _) (zb.alloc zr _)
end Go.Proofs.YtchcelodeepjdaaGreatDoor.Ln
