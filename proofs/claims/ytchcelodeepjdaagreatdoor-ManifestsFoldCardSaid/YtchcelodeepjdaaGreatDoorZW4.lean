/- Lemmas and walks towards ManifestsFold. Conditions: each one tells its own. -/
import Derived.Test.YtchcelodeepjdaaGreatDoorMp
import Derived.Test.YtchcelodeepjdaaGreatDoorZW3
namespace Go.Proofs.YtchcelodeepjdaaGreatDoor.Ln
open Go.RowKit Go.Shelf Go.Herb

abbrev zRv:Rv:=⟨0,0,0,none,0, [],none,0, [],none,0, [],none,0, []⟩
theorem yxc:U64 0:=by unfold U64;decide
theorem xqi (w:World):RtIn w zRv:=by
 have h:RtOwn 0 w zRv:=⟨yxc,yxc,yxc,World.ownsRow_nil _ _ _ _,World.ownsRow_nil _ _ _ _,World.ownsRow_nil _ _ _ _,(fun v hv=>by cases hv),World.ownsRow_nil _ _ _ _,(fun v hv=>by cases hv),(fun v hv=>by cases hv),(fun v hv=>by cases hv),(fun v hv=>by cases hv),(fun v hv=>by cases hv),(fun v hv=>by cases hv)⟩
 exact h.in_
theorem yk9:Cmp zRv:=⟨by decide,by decide,by decide,(fun v hv=>by cases hv),by decide,(fun v hv=>by cases hv)⟩
def yqa (rs:List (List Int))(x:Rt)(er:Int):Prop:=(rs= [] /\er=7/\x=zRv.says)\/(rs≠ [] /\(¬ ∃y,Told rs y)/\er=4/\x=zRv.says)\/(rs≠ [] /\Told rs x/\er=0)
theorem yqa.same {rs:List (List Int)}{x y:Rt}{a b:Int}(h:yqa rs x a)(k:yqa rs y b):x=y/\a=b:=by
 rcases h with⟨h0,h1,h2⟩|⟨h0,h1,h2,h3⟩|⟨h0,h1,h2⟩<;>rcases k with⟨k0,k1,k2⟩|⟨k0,k1,k2,k3⟩|⟨k0,k1,k2⟩
 ·exact⟨h2.trans k2.symm,h1.trans k1.symm⟩
 ·exact absurd h0 k0
 ·exact absurd h0 k0
 ·exact absurd k0 h0
 ·exact⟨h3.trans k3.symm,h2.trans k2.symm⟩
 ·exact absurd ⟨_,k1⟩ h1
 ·exact absurd k0 h0
 ·exact absurd ⟨_,h1⟩ k1
 ·have:=yzv zkt h1 k1
  cases this
  exact⟨rfl,h2.trans k2.symm⟩
def yzw (rs:List (List Int))(w:World)(e:Ending)(w':World):Prop:=Below w.heap.size w w'/\ ∃(r:Rv) (er:Int),e= .returned (.tuple #[rtV r, .int .i64 er])/\RtIn w' r/\Cmp r/\yqa rs r.says er
theorem zyr {rs:List (List Int)}{w w':World}{e:Ending}(h0:rs≠ [])(h:zkh rs w e w'):yzw rs w e w':=by
 obtain⟨hb,⟨h1,rfl⟩|⟨r,h1,rfl,h2,h3⟩⟩:=h
 ·exact⟨hb,zRv,4,rfl,xqi _,yk9, .inr (.inl ⟨h0,h1,rfl,rfl⟩)⟩
 ·exact⟨hb,r,0,rfl,h2,h3.cmp, .inr (.inr ⟨h0,h1,rfl⟩)⟩
theorem yxr {w wr:World}{xs:List Rc}{ra:Option Addr}{rc n:Nat}{rcs:List Rc}(h:TwSt w wr xs n (.slice ra n rc) rcs)(hn:xs.length=n)(h12:n<=12)(hx: ∀c∈xs,∀y∈c.ys,U8 y)(h0:n=0->ra=none/\rc=0):
  Calls Tryz.prog (11) #[.slice ra n rc] wr (yzw (xs.map Rc.ys) wr):=by
 subst hn
 obtain⟨h1,h2,h3⟩:=h.recs hx
 rcases Nat.eq_zero_or_pos xs.length with hz|hz
 ·obtain⟨rfl,rfl⟩:=h0 hz
  rw [hz]
  have hxs:xs= [] :=List.length_eq_zero_iff.1 hz
  subst hxs
  exact(zwq wr).mono (fun e w' ⟨e1,hb⟩=>⟨hb,zRv,7,e1,xqi _,yk9, .inl ⟨rfl,rfl,rfl⟩⟩)
 ·obtain⟨g,go,cl,hv,hr,hg⟩:=recs_in h.own h.len hz h2
  rw [hv]
  rw [h1] at hr
  refine(fold_any g go cl xs.length (xs.map Rc.ys) wr hr hg (by rw [List.length_map]) hz (by omega) (yq6 (by rw [List.length_map];exact h12) (fun ys hy=>by
   obtain⟨c,hc,rfl⟩:=List.mem_map.1 hy
   exact h3 c hc))).mono (fun e w' hp=>zyr (fun e=>by
    have:=congrArg List.length e
    rw [List.length_map] at this
    simp at this
    rw [this] at hz
    simp at hz) hp)
theorem yjd {w u:World}{xs:List Rc}{la:Option Addr}{lc n lb lo:Nat}(hl:Els rcc 1 w la xs)(ha: ∀i,i<n->la=some ⟨lb,lo,none⟩)(hx: ∀c∈xs,RecA w c)(hf: ∀c∈xs,c.ys.length<=4000)(hn:xs.length=n)(h12:n<=12)(hb:Below w.heap.size w u):
  Calls Tryz.prog (12) #[.slice la n lc] u (yzw (xs.map Rc.ys) u):=by
 subst hn
 rcases Nat.eq_zero_or_pos xs.length with hz|hz
 ·rw [hz]
  have hxs:xs= [] :=List.length_eq_zero_iff.1 hz
  subst hxs
  exact(yza la lc u).mono (fun e w' ⟨hb,e1⟩=>⟨hb,zRv,7,e1,xqi _,yk9, .inl ⟨rfl,rfl,rfl⟩⟩)
 ·have hr:=recsA_in (hl.ext hb) ha (fun c hc=>(hx c hc).ext hb) hf
  obtain⟨b,o,h1,h2, -⟩:=hl.get 0 hz
  rw [ha 0 hz] at h1
  cases h1
  rw [ha 0 hz]
  have hf': ∀ys∈xs.map Rc.ys,ys.length<=4000:=fun ys hy=>by
   obtain⟨c,hc,rfl⟩:=List.mem_map.1 hy
   exact hf c hc
  refine(yju lb lo lc xs.length (xs.map Rc.ys) u hr (fun ys hy=>by have:=hf' ys hy;omega) (Nat.lt_of_lt_of_le h2 hb.size) (by rw [List.length_map]) hz (by omega) (yq6 (by rw [List.length_map];exact h12) hf')).mono (fun e w' hp=>zyr (fun e=>by
    have:=congrArg List.length e
    rw [List.length_map] at this
    simp at this
    rw [this] at hz
    simp at hz) hp)
set_option maxRecDepth 100000 in
set_option maxHeartbeats 4000000 in
theorem zwb (la:Option Addr)(lc:Nat)(xs:List Rc)(w:World)(hl:Els rcc 1 w la xs)(hx: ∀c∈xs,RecA w c):
  Calls Tryz.prog (3) #[.slice la xs.length lc] w (yxh w):=by
 obtain⟨n,hn⟩: ∃n,n=xs.length:=⟨_,rfl⟩
 rw [<-hn]
 obtain⟨lb,lo,hla⟩: ∃lb lo,∀i,i<n->la=some ⟨lb,lo,none⟩:=by
  by_cases h0:0<n
  ·obtain⟨b,o,e, -⟩:=hl.get 0 (by omega)
   exact⟨b,o,fun _ _=>e⟩
  ·exact⟨0,0,fun i hi=>by omega⟩
 have HLS:=zh hl
 have HX:=zh hx
 have HLA:=zh hla
 have HN:=zh hn
 have HL:=zh yy9
 clear hl hx hla hn
 by_cases h12:12<n
 ·have t1:(n:Int)> 12:=by omega
  have t2:decide ((12:Int)<(n:Int))=true:=decide_eq_true (by omega)
  go_enter Tryz.func3,Tryz.ntmps3
  go_wp2_with(go_at_call 9;refine(HL.out _).mono ?_;rintro e w2 ⟨rfl,hb2⟩;have HB2:=zh hb2;clear hb2)
  go_ret
  exact⟨rfl,HB2.out⟩
 have t1: ¬(n:Int)> 12:=by omega
 have t2:decide ((12:Int)<(n:Int))=false:=decide_eq_false (by omega)
 have H12:=zh (show n<=12 from by omega)
 clear h12
 go_enter Tryz.func3,Tryz.ntmps3
 go_upto_region 5 with fail
 go_loopg [4,3] n (fun gk iv v3 wr=> ∃(k:Nat) (ra:Option Addr) (rc:Nat) (rcs:List Rc),k+gk=n/\iv= .int .i64 k/\v3= .slice ra k rc/\Hid (k=0->ra=none/\rc=0)/\Hid (TwSt w wr xs k (.slice ra k rc) rcs))
 case atStart=>exact⟨0,none,0, [],by omega,rfl,rfl,zh (fun _=>⟨rfl,rfl⟩),zh ⟨zb,World.ownsRow_nil _ _ _ _,rfl,fun j c hj=>by omega⟩⟩
 case round=>
  obtain⟨k,ra,rc,rcs,hk,rfl,rfl,HZ,HST⟩:=hrel
  by_cases hkn:k<n
  case pos=>
   have hkl:k<xs.length:=by have:=HN.out;omega
   obtain⟨b,o,h1,hlb,hc⟩:=HLS.out.get k hkl
   have e1:=HLA.out k hkn
   rw [e1] at h1
   cases h1
   have HCX:=zh (HX.out _ (List.getElem_mem hkl))
   have HGE:=zh (List.getElem?_eq_getElem hkl)
   have g0:=(HST.out.below.cell (p:=⟨lb,_,none⟩) hlb).trans (hc 0 _ rfl)
   generalize xs[k] =c at g0 HCX HGE
   obtain⟨m,hm⟩: ∃m,m=c.ys.length:=⟨_,rfl⟩
   have hg0:wr.cell? ⟨lb,lo+k,none⟩=some (.slice c.a m c.cap):=by rw [hm];simpa using g0
   have HM:=zh hm
   have HSL:=zh (show∀i,i<n->la=some ⟨lb,lo,none⟩from HLA.out)
   have i0:(0:Int)<=(k:Int):=by omega
   have i1:(k:Int)<(n:Int):=by omega
   have hw1:IntKind.i64.wrap ((k:Int)+1)=(k:Int)+1:=IntWalk.i64_in _ (by have:=H12.out;omega)
   subst e1
   clear hc g0 hm
   by_cases hbig:4000<m
   ·have d1:(m:Int)> 4000:=by omega
    have d2:decide ((4000:Int)<(m:Int))=true:=decide_eq_true (by omega)
    have HBW:=zh HST.out.below
    go_wp2_with(go_at_call 9;refine(HL.out _).mono ?_;rintro e w2 ⟨rfl,hb2⟩;have HB2:=zh (HBW.out.trans (hb2.mono HBW.out.size));clear hb2)
    go_ret
    exact⟨rfl,HB2.out⟩
   ·have d1: ¬(m:Int)> 4000:=by omega
    have d2:decide ((4000:Int)<(m:Int))=false:=decide_eq_false (by omega)
    have HML:=zh (show m<=4000 from by omega)
    have HTW:=zh (xqf c.a c.cap m c.ys wr (HCX.out.byt.ext HST.out.below) HM.out.symm HML.out)
    clear hbig
    go_wp2_with fail
    refine HTW.out.mono ?_
    rintro e w5 ⟨hb5,rfl,hx5⟩
    rw [<-HM.out]
    have HST5:=zh (HST.out.ext hb5)
    obtain⟨v',w',hr,ho,hb,hkp⟩:=yyx ⟨some ⟨wr.heap.size,0,none⟩,m+2,c.ys⟩ HM.out.symm HST5.out.below.size HST5.out.own (by rw [HST5.out.len];have:=H12.out;omega)
    have hlen:(rcs++ [(⟨some ⟨wr.heap.size,0,none⟩,m+2,c.ys⟩:Rc)]).length=k+1:=by rw [List.length_append,HST5.out.len];rfl
    obtain⟨a',c',hv', -, -⟩:=zq6 yx2 ho
    rw [hlen] at hv'
    subst hv'
    have HS6:=zh (show TwSt w w' xs (k+1) (.slice a' (k+1) c') (rcs++ [(⟨some ⟨wr.heap.size,0,none⟩,m+2,c.ys⟩:Rc)])from⟨HST5.out.below.trans hb,ho,hlen,fun j d hj hd=>by
     by_cases hjk:j<k
     ·obtain⟨tb,h1,h2,h3⟩:=HST5.out.tw j d hjk hd
      exact⟨tb,by rw [List.getElem?_append_left (by rw [HST5.out.len];exact hjk)];exact h1,hkp tb _ h2,h3⟩
     ·have e:j=k:=by omega
      subst e
      rw [HGE.out] at hd
      cases hd
      refine⟨wr.heap.size,?_,hkp _ _ hx5,by rw [<-HM.out];exact HML.out⟩
      rw [List.getElem?_append_right (by rw [HST5.out.len];exact zr),HST5.out.len,<-HM.out]
      simp⟩)
    have g1:=hg0
    clear ho hb hkp hlen hx5 hb5 HTW
    go_wp2_with(at_builtin;refine Lib.wpList_append_run _ rfl _ _ _ _ rfl _ _ rfl rfl _ _ hr ?_)
    go_roundg(gk - 1)
    case measure=>omega
    case rel=>exact⟨k+1,a',c',_,by omega,by go_num,rfl,zh (fun e=>by omega),HS6⟩
  case neg=>
   have i1: ¬(k:Int)<(n:Int):=by omega
   obtain rfl:k=n:=by omega
   have HF4:=zh (show∀c∈xs,c.ys.length<=4000 from(show TwSt w wr xs xs.length (.slice ra k rc) rcs from by rw [<-HN.out];exact HST.out).recs (fun c hc=>(HX.out c hc).u8)|>.2.2)
   have HFA:=zh (yxr HST.out HN.out.symm H12.out (fun c hc=>(HX.out c hc).u8) HZ.out)
   clear hkn
   go_wp2_with fail
   refine HFA.out.mono ?_
   rintro e w6 ⟨hb6,r1,er1,rfl,hi1,hc1,hA1⟩
   obtain⟨mb,hmb⟩: ∃n,n=r1.bs.length:=⟨_,rfl⟩
   obtain⟨ml,hml⟩: ∃n,n=r1.ls.length:=⟨_,rfl⟩
   obtain⟨mv,hmv⟩: ∃n,n=r1.vs.length:=⟨_,rfl⟩
   obtain⟨ms,hms⟩: ∃n,n=r1.sh.length:=⟨_,rfl⟩
   have hr1:rtV r1= .agg #[.int .u64 r1.seq, .int .u64 r1.log, .int .u64 r1.next, .slice r1.ba mb r1.bc, .slice r1.la ml r1.lc, .slice r1.va mv r1.vc, .slice r1.sa ms r1.sc] :=by rw [hmb,hml,hmv,hms]
   rw [hr1]
   have HR1:=zh hr1
   obtain⟨X,hX⟩: ∃X:World,X=w6.alloc (.cells #[.int .u64 r1.seq, .int .u64 r1.log, .int .u64 r1.next, .slice r1.ba mb r1.bc, .slice r1.la ml r1.lc, .slice r1.va mv r1.vc, .slice r1.sa ms r1.sc] (32)):=⟨_,rfl⟩
   have hbX:Below w6.heap.size w6 X:=by rw [hX];exact zb.alloc zr _
   have HBX:=zh (hb6.trans (hbX.mono hb6.size))
   have HAX:=zh (show X.heap[w6.heap.size]? =some (.cells #[.int .u64 r1.seq, .int .u64 r1.log, .int .u64 r1.next, .slice r1.ba mb r1.bc, .slice r1.la ml r1.lc, .slice r1.va mv r1.vc, .slice r1.sa ms r1.sc] (32) (0,0))from by rw [hX];exact zq3 rfl _)
   have HI1:=zh (hi1.ext hbX)
   have HC1:=zh (And.intro hc1 hA1)
   have HWX:=zh (HST.out.below.trans (HBX.out.mono HST.out.below.size))
   have HFR:=zh (yjd (lc:=lc) HLS.out HLA.out HX.out HF4.out HN.out.symm H12.out HWX.out)
   have HXX:=zh hX
   rw [hX] at HFR
   clear hb6 hi1 hc1 hA1 hmb hml hmv hms hr1 hX hbX HFA
   go_wp2_with fail
   refine HFR.out.mono ?_
   rw [<-HXX.out]
   rintro e w7 ⟨hb7,r2,er2,rfl,hi2,hc2,hA2⟩
   obtain⟨nb,hnb⟩: ∃n,n=r2.bs.length:=⟨_,rfl⟩
   obtain⟨nl,hnl⟩: ∃n,n=r2.ls.length:=⟨_,rfl⟩
   obtain⟨nv,hnv⟩: ∃n,n=r2.vs.length:=⟨_,rfl⟩
   obtain⟨ns,hns⟩: ∃n,n=r2.sh.length:=⟨_,rfl⟩
   have hr2:rtV r2= .agg #[.int .u64 r2.seq, .int .u64 r2.log, .int .u64 r2.next, .slice r2.ba nb r2.bc, .slice r2.la nl r2.lc, .slice r2.va nv r2.vc, .slice r2.sa ns r2.sc] :=by rw [hnb,hnl,hnv,hns]
   rw [hr2]
   have HR2:=zh hr2
   obtain⟨Y,hY⟩: ∃Y:World,Y=w7.alloc (.cells #[.int .u64 r2.seq, .int .u64 r2.log, .int .u64 r2.next, .slice r2.ba nb r2.bc, .slice r2.la nl r2.lc, .slice r2.va nv r2.vc, .slice r2.sa ns r2.sc] (32)):=⟨_,rfl⟩
   have hbY:Below w7.heap.size w7 Y:=by rw [hY];exact zb.alloc zr _
   have hXY:=hb7.trans (hbY.mono hb7.size)
   have HAY:=zh (zq4 HAX.out hXY (zq2 HAX.out))
   have HBY:=zh (show Y.heap[w7.heap.size]? =some (.cells #[.int .u64 r2.seq, .int .u64 r2.log, .int .u64 r2.next, .slice r2.ba nb r2.bc, .slice r2.la nl r2.lc, .slice r2.va nv r2.vc, .slice r2.sa ns r2.sc] (32) (0,0))from by rw [hY];exact zq3 rfl _)
   have HI1Y:=zh (HI1.out.ext hXY)
   have HI2Y:=zh (hi2.ext hbY)
   obtain⟨hsay,her⟩:=HC1.out.2.same hA2
   subst her
   have HSAY:=zh hsay
   have HC2:=zh hc2
   have HWY:=zh (HWX.out.trans (hXY.mono HWX.out.size))
   have HSTY:=zh ((HST.out.ext HBX.out).ext hXY)
   have HYY:=zh hY
   clear hb7 hi2 hc2 hA2 hnb hnl hnv hns hr2 hY hbY hXY hsay HFR HST HAX HI1
   go_upto_region 13 with fail
   rw [<-HYY.out]
   clear HYY
   go_loopg [9] k (fun gk iv wr=> ∃j:Nat,j+gk=k/\iv= .int .i64 j/\Hid (Below Y.heap.size Y wr))
   case atStart=>exact⟨0,by omega,rfl,zh zb⟩
   case round=>
    obtain⟨j,hj,rfl,HB⟩:=hrel
    by_cases hjk:j<k
    case pos=>
     have hjl:j<xs.length:=by have:=HN.out;omega
     obtain⟨b,o,h1,hlb,hc⟩:=HLS.out.get j hjl
     have e1:=HLA.out j hjk
     rw [e1] at h1
     cases h1
     have HCX:=zh (HX.out _ (List.getElem_mem hjl))
     have hge:=List.getElem?_eq_getElem hjl
     have hbw:=HWY.out.trans (HB.out.mono HWY.out.size)
     have g0:=fun u (hu:Below wr.heap.size wr u)=>((hbw.trans (hu.mono hbw.size)).cell (p:=⟨lb,_,none⟩) hlb).trans (hc 0 _ rfl)
     generalize xs[j] =c at g0 HCX hge
     obtain⟨tb,ht1,ht2,ht3⟩:=HSTY.out.tw j c hjk hge
     obtain⟨m,hm⟩: ∃m,m=c.ys.length:=⟨_,rfl⟩
     rw [<-hm] at ht1 ht3
     obtain⟨a9,c9,hv9, -,hE9⟩:=zq6 yx2 HSTY.out.own
     rw [HSTY.out.len] at hv9
     cases hv9
     have hjr:j<rcs.length:=by rw [HSTY.out.len];exact hjk
     obtain⟨b9,o9,h9,hlb9,hc9⟩:=hE9.get j hjr
     rw [List.getElem?_eq_getElem hjr] at ht1
     rw [Option.some.inj ht1] at hc9
     subst h9
     have k0:=fun u (hu:Below wr.heap.size wr u)=>((HB.out.trans (hu.mono HB.out.size)).cell (p:=⟨b9,_,none⟩) hlb9).trans (hc9 0 _ rfl)
     have HS:=zh (show∀u,Below wr.heap.size wr u->u.cell? ⟨b9,o9+j,none⟩=some (.slice (some ⟨tb,0,none⟩) m (m+2))/\u.cell? ⟨lb,lo+j,none⟩=some (.slice c.a m c.cap)from fun u hu=>⟨by have:=k0 u hu;rw [<-hm] at this;simpa using this,by have:=g0 u hu;rw [<-hm] at this;simpa using this⟩)
     have HD:=zh (show Below wr.heap.size wr wr.drew from zb.drew)
     have HLB:=zh (yy8 c.a c.cap m tb c.ys wr.drew (HCX.out.byt.ext (hbw.trans (HD.out.mono hbw.size))) hm.symm ht3 (by
      have h2:=ht2
      unfold rowB at h2 ⊢
      exact zq4 (zq4 h2 HB.out (zq2 h2)) HD.out (Nat.lt_of_lt_of_le (zq2 h2) HB.out.size)))
     have i0:(0:Int)<=(j:Int):=by omega
     have i1:(j:Int)<(k:Int):=by omega
     have hw1:IntKind.i64.wrap ((j:Int)+1)=(j:Int)+1:=IntWalk.i64_in _ (by have:=H12.out;omega)
     subst e1
     clear hc g0 hm hbw ht1 ht2 ht3 hE9 hc9 k0 hge hlb hlb9 hjr hjl
     go_upto_region 15 with fail
     go_region_held3 (fun u=>u.cell? ⟨b9,o9+j,none⟩=some (.slice (some ⟨tb,0,none⟩) m (m+2))/\u.cell? ⟨lb,lo+j,none⟩=some (.slice c.a m c.cap))
      (first|exact HS.out _ (by assumption)|exact HS.out _ HD.out|exact HS.out _ zb)
      (first
       |(go_at_call 13;(with_reducible refine HLB.out.mono ?_);rintro e w9 ⟨rfl,hb9⟩;have hA:Below wr.heap.size wr w9:=HD.out.trans (hb9.mono HD.out.size);clear hb9))
     all_goals
      have HB9:=zh (HB.out.trans (hA.mono HB.out.size))
      clear hA
      go_wp2_with fail
      go_roundg(gk - 1)
      case measure=>omega
      case rel=>exact⟨j+1,by omega,by go_num,HB9⟩
    case neg=>
     have i1: ¬(j:Int)<(k:Int):=by omega
     have HSR:=zh (show Calls Tryz.prog (14) #[.agg #[.int .u64 r1.seq, .int .u64 r1.log, .int .u64 r1.next, .slice r1.ba mb r1.bc, .slice r1.la ml r1.lc, .slice r1.va mv r1.vc, .slice r1.sa ms r1.sc], .agg #[.int .u64 r2.seq, .int .u64 r2.log, .int .u64 r2.next, .slice r2.ba nb r2.bc, .slice r2.la nl r2.lc, .slice r2.va nv r2.vc, .slice r2.sa ns r2.sc]] wr (fun e w'=>e= .returned (.bool true)/\Below wr.heap.size wr w')from by
      have h:=yzi r1 r2 wr (HI1Y.out.ext HB.out) (HI2Y.out.ext HB.out) HC1.out.1 HC2.out
      rw [HR1.out,HR2.out] at h
      exact h.mono (fun e w' ⟨q,h1,h2,h3⟩=>⟨by rw [h1,h2.2 HSAY.out],h3⟩))
     have hba:=zq4 HAY.out HB.out (zq2 HAY.out)
     have hbb:=zq4 HBY.out HB.out (zq2 HBY.out)
     obtain⟨a0,a1,a2,a3,a4,a5,a6⟩:=zqb hba
     obtain⟨b0,b1,b2,b3,b4,b5,b6⟩:=zqb hbb
     have HBW:=zh (HWY.out.trans (HB.out.mono HWY.out.size))
     have de:(er1==er1)=true:=by simp
     clear hba hbb hjk hj
     go_wp2_with fail
     refine HSR.out.mono ?_
     rintro e w9 ⟨rfl,hb9⟩
     have HB9:=zh (HBW.out.trans (hb9.mono HBW.out.size))
     clear hb9 a0 a1 a2 a3 a4 a5 a6 b0 b1 b2 b3 b4 b5 b6
     go_wp2_with(go_at_call 9;refine(HL.out _).mono ?_;rintro e w2 ⟨rfl,hb2⟩;have HB2:=zh (HB9.out.trans (hb2.mono HB9.out.size));clear hb2)
     go_ret
     exact⟨rfl,HB2.out⟩
end Go.Proofs.YtchcelodeepjdaaGreatDoor.Ln
