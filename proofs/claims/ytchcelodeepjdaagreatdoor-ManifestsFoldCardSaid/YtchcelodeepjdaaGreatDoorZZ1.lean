/- Lemmas and walks towards ManifestsFold. Conditions: each one tells its own. -/
import Derived.Test.YtchcelodeepjdaaGreatDoorMp
import Derived.Test.YtchcelodeepjdaaGreatDoorZZK
import Derived.Test.YtchcelodeepjdaaGreatDoorZZV
import Derived.Test.YtchcelodeepjdaaGreatDoorZUb
namespace Go.Proofs.YtchcelodeepjdaaGreatDoor.Ln
open Go.RowKit Go.Shelf Go.Herb
theorem yw7 {o:Sv}: ∀{out:List Sv} {j:Nat},(∀s∈out.take j,s.line<o.line)->(j=out.length\/ ∃s,out[j]? =some s/\ ¬s.line<o.line)->insE out o=(out.take j++ [o])++out.drop j
 | [],j,_,h2=>by simp [insE]
 |a::out,0,_,h2=>by
  rcases h2 with h2|⟨s,h3,h4⟩
  ·simp at h2
  ·simp at h3
   subst h3
   unfold insE
   rw [List.takeWhile_cons,List.dropWhile_cons,if_neg (by simp [h4]),if_neg (by simp [h4])]
   simp
 |a::out,j+1,h1,h2=>by
  have h0:a.line<o.line:=h1 a (by simp)
  have ih:=yw7 (o:=o) (out:=out) (j:=j) (fun s hs=>h1 s (by simp [hs])) (by
   rcases h2 with h2|⟨s,h3,h4⟩
   ·left;simpa using h2
   ·right;exact⟨s,by simpa using h3,h4⟩)
  unfold insE at ih ⊢
  rw [List.takeWhile_cons,List.dropWhile_cons,if_pos (by simp [h0]),if_pos (by simp [h0])]
  simp only [List.cons_append,List.take_succ_cons,List.drop_succ_cons]
  rw [ih]
theorem sh_head {ka:Option Addr}{kc m n:Nat}(hle:n<=kc)(hk:m<=n): ∀W,(Instr.slice (30) (.slice ka n kc) none (some (.int .i64 (m:Int))) none).run Tryz.prog W= .ok (.slice ka m kc) W:=by
 intro W
 rw [run_slice_h (P:=Tryz.prog) W (30) ka n kc (by kernel_rfl) .i64 m (by omega) (by omega)]
 rw [show Tryz.prog.elem (30)=(57)from by kernel_rfl,Tryz.sizeOf57]
 cases ka<;>simp [sliced,Result.andThen,Addr.add]
theorem sh_tail {w:World}{ka:Option Addr}{kc k n:Nat}{ys:List Sv}(hE:Els shc 4 w ka ys)(hn:ys.length=n)(_:n<=kc)(hk:k<=n)(h0:ka=none->kc=0):
  ∃a2,(∀W,(Instr.slice (30) (.slice ka n kc) (some (.int .i64 (k:Int))) none none).run Tryz.prog W= .ok (.slice a2 (n - k) (kc - k)) W)/\Els shc 4 w a2 (ys.drop k)/\(a2=none->kc - k=0):=by
 refine⟨if kc=k then ka else ka.map (·.add (k*4)),fun W=> ?_,?_,?_⟩
 ·rw [run_slice_l (P:=Tryz.prog) W (30) ka n kc (by kernel_rfl) .i64 k (by omega) (by omega)]
  rw [show Tryz.prog.elem (30)=(57)from by kernel_rfl,Tryz.sizeOf57]
  simp [sliced,Result.andThen]
 ·by_cases hz:kc=k
  ·have:ys.drop k= [] :=List.length_eq_zero_iff.1 (by simp;omega)
   rw [this]
   exact Els.nil _ _ _ _
  ·rw [if_neg hz]
   cases ka with
   |none=>exact absurd (h0 rfl) (by intro h;omega)
   |some ad=>
    rw [Option.map_some]
    refine⟨fun i hi=> ?_⟩
    have hi2:k+i<ys.length:=by rw [List.length_drop] at hi;omega
    obtain⟨b,o,ha,hlt,hc⟩:=hE.get (k+i) hi2
    injection ha with ha
    subst ha
    refine⟨b,o+k*4,by rw [addr_add],hlt,fun j c hj=> ?_⟩
    have e:(ys.drop k)[i] =ys[k+i] :=by simp
    rw [e] at hj
    have:=hc j c hj
    rw [<-this]
    congr 2
    omega
 ·intro h
  by_cases hz:kc=k
  ·omega
  ·rw [if_neg hz] at h
   cases ka with
   |none=>have:=h0 rfl;omega
   |some ad=>cases h
def EdPost (xs:List Sv)(gs:List Int)(os:List Sv)(w:World)(e:Ending)(w':World):Prop:=Below w.heap.size w w'/\ ∃v,e= .returned v/\OwnSh w.heap.size w' v (edE xs gs os)
theorem zw9 {l:List Sv}{gs:List Int}{os:List Sv}{s:Sv}:keepE (l++ [s]) gs os=if s.line∉gs/\s.line∉os.map Sv.line then keepE l gs os++ [s] else keepE l gs os:=by
 unfold keepE
 rw [List.filter_append]
 split
 ·rename_i h;rw [List.filter_cons,if_pos (by simpa using h)];rfl
 ·rename_i h;rw [List.filter_cons,if_neg (by simpa using h)];simp
theorem yxw (l:List Sv)(gs:List Int)(os:List Sv):(keepE l gs os).length<=l.length:=by
 unfold keepE
 exact List.length_filter_le _ _
theorem yy2 (os:List Sv): ∀out:List Sv,(os.foldl insE out).length=os.length+out.length:=by
 induction os with
 |nil=>intro out;simp
 |cons o os ih=>intro out;rw [List.foldl_cons,ih,insE_len,List.length_cons];omega
set_option maxRecDepth 100000 in
set_option maxHeartbeats 4000000 in
theorem yx4 (la ga oa:Option Addr)(lc gc oc n q m:Nat)(xs os:List Sv)(gs:List Int)(w:World)(hX:ShIn w la xs)(hG:Els (fun x:Int=> [.int .u64 x]) 1 w ga gs)(hO:ShIn w oa os)(hn:xs.length=n)(hq:gs.length=q)(hm:os.length=m)(hnl:n<500000)(hql:q<1000000)(hml:m<400000):
  Calls Tryz.prog (69) #[.slice la n lc, .slice ga q gc, .slice oa m oc] w (EdPost xs gs os w):=by
 have HX:=zh hX
 have HG:=zh hG
 have HO:=zh hO
 have HN:=zh hn
 have HQ:=zh hq
 have HM:=zh hm
 have HOF:=zh (show∀line u,Below w.heap.size w u->Calls Tryz.prog (49) #[.slice oa m oc, .int .u64 line] u (fun e w'=>Below u.heap.size u w'/\((∃s,s∈os/\s.line=line/\e= .returned (.tuple #[.agg #[.int .u64 s.line,lvV s.l0,lvV s.l1,lvV s.l2], .bool true]))\/(line∉os.map Sv.line/\e= .returned (.tuple #[.agg #[.int .u64 0, .slice none 0 0, .slice none 0 0, .slice none 0 0], .bool false]))))from fun line u hu=>zvy oa oc m os line u (hO.ext hu) hm (by omega))
 clear hX hG hO hn hq hm
 go_enter Tryz.func69,Tryz.ntmps69
 go_upto_region 3 with fail
 go_loopg [8,7] n (fun gk iv v7 wr=> ∃(i n2 c2:Nat) (a2:Option Addr),i+gk=n/\iv= .int .i64 i/\v7= .slice a2 n2 c2/\Hid (OwnSh w.heap.size wr (.slice a2 n2 c2) (keepE (xs.take i) gs os))/\Hid (Below w.heap.size w wr))
 case atStart=>exact⟨0,0,0,none,by omega,rfl,rfl,zh (World.ownsRow_nil _ _ _ _),zh zb⟩
 case round=>
  obtain⟨i,n2,c2,a2,hi,rfl,rfl,HOW,HB⟩:=hrel
  by_cases hlt:i<n
  case neg=>
   have i1: ¬(i:Int)<(n:Int):=by omega
   obtain⟨L0,hL0⟩: ∃L,L=keepE xs gs os:=⟨_,rfl⟩
   have HL0:=zh hL0
   have HOW0:=zh (show OwnSh w.heap.size wr (.slice a2 n2 c2) L0 from by have:=HOW.out;rw [List.take_of_length_le (by have:=HN.out;omega)] at this;rw [hL0];exact this)
   have HLL:=zh (show L0.length<=n from by rw [hL0,<-HN.out];exact yxw _ _ _)
   have HB0:=HB
   clear HOW hlt hi hL0 HB
   go_upto_region 14 with fail
   go_loopg [13,7] m (fun gk iv v7 wr=> ∃(i n2 c2:Nat) (a2:Option Addr),i+gk=m/\iv= .int .i64 i/\v7= .slice a2 n2 c2/\Hid (OwnSh w.heap.size wr (.slice a2 n2 c2) ((os.take i).foldl insE L0))/\Hid (Below w.heap.size w wr))
   case atStart=>exact⟨0,n2,c2,a2,by omega,rfl,rfl,HOW0,HB0⟩
   case round=>
    obtain⟨i,n2,c2,a2,hi,rfl,rfl,HOW,HB⟩:=hrel
    by_cases hlt:i<m
    case neg=>
     have i1: ¬(i:Int)<(m:Int):=by omega
     have HF:=zh (show OwnSh w.heap.size wr (.slice a2 n2 c2) (edE xs gs os)from by have:=HOW.out;rw [List.take_of_length_le (by have:=HM.out;omega),HL0.out] at this;exact this)
     clear HOW hlt hi
     go_wp2_with fail
     go_ret
     exact⟨HB.out,_,rfl,HF.out⟩
    have him:i<os.length:=by have:=HM.out;omega
    obtain⟨b,o,hoa,hlb,hcx⟩:=HO.out.els.get i him
    have HTK:=zh (List.take_succ_eq_append_getElem him)
    generalize os[i] =s at hcx HTK
    obtain⟨L,hL⟩: ∃L,L=(os.take i).foldl insE L0:=⟨_,rfl⟩
    have HL:=zh hL
    have HLN:=zh (show L.length<900000 from by
     have h1:=yy2 (os.take i) L0
     have:=HLL.out
     rw [List.length_take] at h1
     rw [hL]
     omega)
    obtain⟨a2',c2',hv,hE,hle,hmx,hnn⟩:=HOW.out.parts
    rw [<-hL] at hv hE hle
    cases hv
    have HE:=zh hE
    have HLE:=zh (And.intro hle hnn)
    obtain⟨n2,hn2⟩: ∃n2,n2=L.length:=⟨_,rfl⟩
    rw [<-hn2]
    have HN2:=zh hn2
    have HS:=zh (show∀u,Below wr.heap.size wr u->u.cell? ⟨b,o+i*4,none⟩=some (.int .u64 s.line)/\u.cell? ⟨b,o+i*4+1,none⟩=some (lvV s.l0)/\u.cell? ⟨b,o+i*4+2,none⟩=some (lvV s.l1)/\u.cell? ⟨b,o+i*4+3,none⟩=some (lvV s.l2)from fun u hu=>by
     have hw:=HB.out.trans (hu.mono HB.out.size)
     have k0:=(hw.cell (p:=⟨b,_,none⟩) hlb).trans (hcx 0 _ rfl)
     have k1:=(hw.cell (p:=⟨b,_,none⟩) hlb).trans (hcx 1 _ rfl)
     have k2:=(hw.cell (p:=⟨b,_,none⟩) hlb).trans (hcx 2 _ rfl)
     have k3:=(hw.cell (p:=⟨b,_,none⟩) hlb).trans (hcx 3 _ rfl)
     simp only [Nat.add_zero] at k0
     exact⟨k0,k1,k2,k3⟩)
    have i0:(0:Int)<=(i:Int):=by omega
    have i1:(i:Int)<(m:Int):=by omega
    have HW1:=zh (show IntKind.i64.wrap ((i:Int)+1)=(i:Int)+1 from IntWalk.i64_in _ (by omega))
    have hn2l:n2<900000:=by have:=HLN.out;omega
    subst hoa
    clear hcx hE hle hmx hnn hL hn2
    obtain⟨g9,hg9⟩: ∃g9,g9=gk:=⟨_,rfl⟩
    rw [<-hg9] at hi
    have HG9:=zh hg9
    obtain⟨wo,hwo⟩: ∃wo,wo=wr:=⟨_,rfl⟩
    subst hwo
    clear hg9
    go_upto_region 17 with fail
    go_loopg [14] n2 (fun gk iv wr=> ∃j:Nat,j+gk=n2/\iv= .int .i64 j/\Hid (∀t∈L.take j,t.line<s.line)/\Hid (Below wo.heap.size wo wr))
    case atStart=>exact⟨0,by omega,rfl,zh (fun t ht=>by simp at ht),zh zb⟩
    case round=>
     obtain⟨j,hj,rfl,HLT,HBk⟩:=hrel
     have j0:(0:Int)<=(j:Int):=by omega
     obtain⟨g0, -, -, -⟩:=HS.out _ HBk.out
     by_cases hgo: ∃hjl:j<n2,(L[j]'(by have:=HN2.out;omega)).line<s.line
     case pos=>
      obtain⟨hjl,hlt2⟩:=hgo
      have hjl2:j<L.length:=by have:=HN2.out;omega
      have j1:(j:Int)<(n2:Int):=by omega
      have jd:decide ((j:Int)<(n2:Int))=true:=decide_eq_true j1
      have hw2:IntKind.i64.wrap ((j:Int)+1)=(j:Int)+1:=IntWalk.i64_in _ (by omega)
      obtain⟨b2,o2,ha2,hlb2,hc2⟩:=HE.out.get j hjl2
      have HTJ:=zh (List.take_succ_eq_append_getElem hjl2)
      have hk0:=(HBk.out.cell (p:=⟨b2,_,none⟩) hlb2).trans (hc2 0 _ rfl)
      simp only [Nat.add_zero] at hk0
      generalize L[j] =t at hc2 HTJ hlt2 hk0
      have d1:decide (t.line<s.line)=true:=decide_eq_true hlt2
      have HLT2:=zh (show∀u∈L.take (j+1),u.line<s.line from fun u hu=>by
       rw [HTJ.out] at hu
       rcases List.mem_append.1 hu with h|h
       ·exact HLT.out u h
       ·rw [List.mem_singleton.1 h];exact hlt2)
      subst ha2
      clear hc2 hlt2
      go_upto_region 17 with fail
      go_quiet (fail)
      have HBQ:=zh (below_drewN HBk.out nq)
      go_wp2_with fail
      go_roundg(gk - 1)
      case measure=>omega
      case rel=>exact⟨j+1,by omega,by go_num,HLT2,HBQ⟩
     case neg=>
      have hjn:j<=n2:=by omega
      have HINS:=zh (show insE L s=(L.take j++ [s])++L.drop j from yw7 HLT.out (by
       by_cases hjl:j<n2
       ·right
        exact⟨L[j]'(by have:=HN2.out;omega),List.getElem?_eq_getElem _,fun h=>hgo ⟨hjl,h⟩⟩
       ·left;have:=HN2.out;omega))
      obtain⟨a3,hs3,hE3,hn3⟩:=sh_tail HE.out HN2.out.symm (by rw [HN2.out];exact HLE.out.1) hjn HLE.out.2
      have hs4:=sh_head (ka:=a2) (kc:=c2) (m:=j) (n:=n2) (by rw [HN2.out];exact HLE.out.1) hjn
      have HTE:=zh (HE.out.take j)
      have HDE:=zh hE3
      have HDN:=zh hn3
      have HTL:=zh (show(L.take j).length=j from by rw [List.length_take];have:=HN2.out;omega)
      have HDL:=zh (show(L.drop j).length=n2 - j from by rw [List.length_drop];have:=HN2.out;omega)
      have HTS:=zh (show(L.take j++ [s]).length=j+1 from by rw [List.length_append,HTL.out];rfl)
      clear hE3 hn3
      by_cases hjl:j<n2
      case' pos=>
       have hjl2:j<L.length:=by have:=HN2.out;omega
       have j1:(j:Int)<(n2:Int):=by omega
       have jd:decide ((j:Int)<(n2:Int))=true:=decide_eq_true j1
       obtain⟨b2,o2,ha2,hlb2,hc2⟩:=HE.out.get j hjl2
       have hk0:=(HBk.out.cell (p:=⟨b2,_,none⟩) hlb2).trans (hc2 0 _ rfl)
       simp only [Nat.add_zero] at hk0
       have hnl: ¬(L[j]).line<s.line:=fun h=>hgo ⟨hjl,h⟩
       generalize L[j] =t at hc2 hnl hk0
       have d1:decide (t.line<s.line)=false:=decide_eq_false hnl
       subst ha2
       clear hc2 hnl hgo
       go_upto_region 17 with fail
       go_quiet (fail)
       go_upto_region 19 with fail
       have HBQ:=zh (below_drewN HBk.out nq)
       obtain⟨X,hX⟩: ∃X,X=wr.drewN nq:=⟨_,rfl⟩
       rw [<-hX] at HBQ ⊢
       clear hX hk0 jd d1
      case' neg=>
       have j1: ¬(j:Int)<(n2:Int):=by omega
       have jd:decide ((j:Int)<(n2:Int))=false:=decide_eq_false j1
       clear hgo
       go_upto_region 17 with fail
       go_quiet (fail)
       go_upto_region 19 with fail
       have HBQ:=zh (below_drewN HBk.out nq)
       obtain⟨X,hX⟩: ∃X,X=wr.drewN nq:=⟨_,rfl⟩
       rw [<-hX] at HBQ ⊢
       clear hX jd
      all_goals
       clear g0 j1 hjl
       have HSX:=zh (show∀u,Below X.heap.size X u->u.cell? ⟨b,o+i*4,none⟩=some (.int .u64 s.line)/\u.cell? ⟨b,o+i*4+1,none⟩=some (lvV s.l0)/\u.cell? ⟨b,o+i*4+2,none⟩=some (lvV s.l1)/\u.cell? ⟨b,o+i*4+3,none⟩=some (lvV s.l2)from fun u hu=>HS.out u (HBQ.out.trans (hu.mono HBQ.out.size)))
       have HTX:=zh (HTE.out.ext HBQ.out)
       have HDX:=zh (HDE.out.ext HBQ.out)
       have HNA:=zh HLE.out.2
       go_region_held3 (fun u=>u.cell? ⟨b,o+i*4,none⟩=some (.int .u64 s.line)/\u.cell? ⟨b,o+i*4+1,none⟩=some (lvV s.l0)/\u.cell? ⟨b,o+i*4+2,none⟩=some (lvV s.l1)/\u.cell? ⟨b,o+i*4+3,none⟩=some (lvV s.l2))
        (first|exact HSX.out _ (by assumption)|exact HSX.out _ (zb.drew)|exact HSX.out _ ((zb.alloc zr _).drew)|exact HSX.out _ (zb.alloc zr _)|exact HSX.out _ (hb1.alloc hb1.size _)|exact HSX.out _ ((hb1.alloc hb1.size _).drew)|exact HSX.out _ ((hb1.drew).alloc hb1.size _)|exact HSX.out _ zb)
        (first
         |(refine zzk (.const (.slice none 0 0)) (.tmp 89) (by rfl) X.heap.size (.slice none 0 0) [] _ c2 j (L.take j) HTL.out (by rfl) (by rfl) (World.ownsRow_nil _ _ _ _) (HTX.out.ext (by first|exact zb.drew|go_grown)) (by simp) (by omega) HNA.out (by simp) ?_;intro v1 w6 hO1 hg1;have hb1:Below X.heap.size X w6:=Below.grown (by first|exact zb.drew|go_grown) hg1 (by simp) (fun k e=>by cases e))
         |(refine zzk (.tmp 90) (.tmp 95) (by rfl) X.heap.size v1 (L.take j) (some ⟨w6.heap.size,0,none⟩) 1 1 [s] (by rfl) (by rfl) (by rfl) (OwnSh.below hO1 (by first|exact zb.alloc zr _|exact(zb.alloc zr _).drew|exact zb.drew)) (zwj (zq3 (by rfl) _)) (by rw [HTL.out];omega) (by omega) (fun h=>by cases h) (by have:=hb1.size;first|omega|(simp only [World.size_alloc];omega)|(show X.heap.size<=(w6.heap.push _).size;rw [Array.size_push];omega)) ?_;intro v2 w7 hO2 hg2;have hb2:Below X.heap.size X w7:=Below.grown (by first|exact hb1.alloc hb1.size _|exact(hb1.alloc hb1.size _).drew|exact(hb1.drew).alloc hb1.size _) hg2 (by have:=hb1.size;first|omega|(simp only [World.size_alloc];omega)|(show X.heap.size<=(w6.heap.push _).size;rw [Array.size_push];omega)) (fun k e=>(World.ownsRow.lt hO1 k e).1))
         |(refine zzk (.tmp 90) (.tmp 95) (by rfl) X.heap.size v1 (L.take j) (some ⟨X.heap.size,0,none⟩) 1 1 [s] (by rfl) (by rfl) (by rfl) hO1 (zwj ((hg1.block _ (by simp) (fun e=>by cases e)).trans (zq3 (by rfl) _))) (by rw [HTL.out];omega) (by omega) (fun h=>by cases h) hb1.size ?_;intro v2 w7 hO2 hg2;have hb2:Below X.heap.size X w7:=Below.grown hb1 hg2 hb1.size (fun k e=>(World.ownsRow.lt hO1 k e).1))
         |(refine zzk (.tmp 96) (.tmp 99) (by rfl) X.heap.size v2 (L.take j++ [s]) a3 (c2 - j) (n2 - j) (L.drop j) HDL.out (by rfl) (by rfl) hO2 (HDX.out.ext hb2) (by rw [HTS.out];omega) (by omega) HDN.out hb2.size ?_;intro v3 w8 hO3 hg3;have hb3:Below X.heap.size X w8:=Below.grown hb2 hg3 hb2.size (fun k e=>(World.ownsRow.lt hO2 k e).1)))
       all_goals
        have HO8:=zh (show OwnSh w.heap.size w8 v3 ((os.take (i+1)).foldl insE L0)from by
         rw [HTK.out,List.foldl_append]
         show OwnSh w.heap.size w8 v3 (insE ((os.take i).foldl insE L0) s)
         rw [<-HL.out,HINS.out]
         exact zq9 hO3 (Nat.le_trans HB.out.size HBQ.out.size))
        have HB8:=zh (HB.out.trans ((HBQ.out.trans (hb3.mono HBQ.out.size)).mono HB.out.size))
        obtain⟨a',c',hv', -, -⟩:=zq6 zqe HO8.out
        obtain⟨n',hn'⟩: ∃n',n'=((os.take (i+1)).foldl insE L0).length:=⟨_,rfl⟩
        rw [<-hn'] at hv'
        subst hv'
        have hw1:=HW1.out
        clear hO1 hO2 hO3 hg1 hg2 hg3 hb1 hb2 hb3 hn'
        go_wp2_with fail
        go_roundg(g9 - 1)
        case measure=>have:=HG9.out;omega
        case rel=>exact⟨i+1,n',c',a',by have:=HG9.out;omega,by go_num,rfl,HO8,HB8⟩
  have hil:i<xs.length:=by have:=HN.out;omega
  obtain⟨b,o,hla,hlb,hcx⟩:=HX.out.els.get i hil
  have HTK:=zh (List.take_succ_eq_append_getElem hil)
  generalize xs[i] =s at hcx HTK
  have HS:=zh (show∀u,Below wr.heap.size wr u->u.cell? ⟨b,o+i*4,none⟩=some (.int .u64 s.line)/\u.cell? ⟨b,o+i*4+1,none⟩=some (lvV s.l0)/\u.cell? ⟨b,o+i*4+2,none⟩=some (lvV s.l1)/\u.cell? ⟨b,o+i*4+3,none⟩=some (lvV s.l2)from fun u hu=>by
   have hw:=HB.out.trans (hu.mono HB.out.size)
   have k0:=(hw.cell (p:=⟨b,_,none⟩) hlb).trans (hcx 0 _ rfl)
   have k1:=(hw.cell (p:=⟨b,_,none⟩) hlb).trans (hcx 1 _ rfl)
   have k2:=(hw.cell (p:=⟨b,_,none⟩) hlb).trans (hcx 2 _ rfl)
   have k3:=(hw.cell (p:=⟨b,_,none⟩) hlb).trans (hcx 3 _ rfl)
   simp only [Nat.add_zero] at k0
   exact⟨k0,k1,k2,k3⟩)
  have i0:(0:Int)<=(i:Int):=by omega
  have i1:(i:Int)<(n:Int):=by omega
  have HW1:=zh (show IntKind.i64.wrap ((i:Int)+1)=(i:Int)+1 from IntWalk.i64_in _ (by omega))
  have HKL:=zh (show(keepE (xs.take i) gs os).length<1000000 from by
   have h1:=yxw (xs.take i) gs os
   rw [List.length_take] at h1
   omega)
  have HGW:=zh (HG.out.ext HB.out)
  subst hla
  clear hcx hlt
  obtain⟨g9,hg9⟩: ∃g9,g9=gk:=⟨_,rfl⟩
  rw [<-hg9] at hi
  have HG9:=zh hg9
  obtain⟨wo,hwo⟩: ∃wo,wo=wr:=⟨_,rfl⟩
  subst hwo
  clear hg9
  go_upto_region 7 with fail
  go_loopg [10,9] q (fun gk iv v9 wr=> ∃k:Nat,k+gk=q/\iv= .int .i64 k/\v9= .bool (decide (s.line∉gs.take k))/\Hid (Below wo.heap.size wo wr))
  case atStart=>exact⟨0,by omega,rfl,by simp,zh zb⟩
  case round=>
   obtain⟨k,hk,rfl,rfl,HBk⟩:=hrel
   by_cases hkq:k<q
   case pos=>
    have hkl:k<gs.length:=by have:=HQ.out;omega
    obtain⟨b2,o2,hga,hlb2,hc2⟩:=HGW.out.get k hkl
    have hk0:=(HBk.out.cell (p:=⟨b2,_,none⟩) hlb2).trans (hc2 0 _ rfl)
    have HTG:=zh (List.take_succ_eq_append_getElem hkl)
    generalize gs[k] =g at hc2 HTG hk0
    simp only [Nat.mul_one,Nat.add_zero] at hk0
    obtain⟨g0, -, -, -⟩:=HS.out _ HBk.out
    have k0:(0:Int)<=(k:Int):=by omega
    have k1:(k:Int)<(q:Int):=by omega
    have hw2:IntKind.i64.wrap ((k:Int)+1)=(k:Int)+1:=IntWalk.i64_in _ (by omega)
    subst hga
    clear hc2
    by_cases his:s.line∈gs.take k
    ·have d0:decide (s.line∉gs.take k)=false:=decide_eq_false (fun h=>h his)
     have HD2:=zh (show decide (s.line∉gs.take (k+1))=false from decide_eq_false (fun h=>h (by rw [HTG.out];exact List.mem_append.2 (.inl his))))
     rw [d0]
     clear his d0
     go_upto_region 9 with fail
     go_quiet (fail)
     have HBQ:=zh (below_drewN HBk.out nq)
     go_wp2_with fail
     go_roundg(gk - 1)
     case measure=>omega
     case rel=>exact⟨k+1,by omega,by go_num,by rw [HD2.out],HBQ⟩
    ·have d0:decide (s.line∉gs.take k)=true:=decide_eq_true his
     have HD2:=zh (show decide (s.line∉gs.take (k+1))=(g !=s.line)from by
      by_cases h:g=s.line
      ·rw [decide_eq_false (by rw [HTG.out];intro h2;exact h2 (List.mem_append.2 (.inr (by simp [h]))))]
       simp [h]
      ·rw [decide_eq_true (by rw [HTG.out,List.mem_append];rintro(h2|h2);exact his h2;exact h (List.mem_singleton.1 h2).symm)]
       simp [h])
     rw [d0]
     obtain⟨bb,hbb⟩: ∃bb,(g !=s.line)=bb:=⟨_,rfl⟩
     rw [hbb] at HD2
     clear his d0
     go_upto_region 9 with fail
     go_quiet (fail)
     have HBQ:=zh (below_drewN HBk.out nq)
     go_wp2_with fail
     go_roundg(gk - 1)
     case measure=>omega
     case rel=>exact⟨k+1,by omega,by go_num,by rw [HD2.out],HBQ⟩
   case neg=>
    have k1: ¬(k:Int)<(q:Int):=by omega
    have hkt:gs.take k=gs:=List.take_of_length_le (by have:=HQ.out;omega)
    rw [hkt]
    obtain⟨ib,hib⟩: ∃ib:Bool,decide (s.line∉gs)=ib:=⟨_,rfl⟩
    rw [hib]
    have HIB:=zh hib
    obtain⟨g0, -, -, -⟩:=HS.out _ HBk.out
    have HOC:=zh (HOF.out s.line wr (HB.out.trans (HBk.out.mono HB.out.size)))
    clear hkt hib hkq hk
    go_wp2_with fail
    refine HOC.out.mono ?_
    rintro e w5 ⟨hb5,hc5⟩
    have HA5:=zh (HBk.out.trans (hb5.mono HBk.out.size))
    clear g0 HOC
    rcases hc5 with⟨t,ht1,ht2,rfl⟩|⟨ht1,rfl⟩
    ·have HNK:=zh (show keepE (xs.take (i+1)) gs os=keepE (xs.take i) gs os from by
      rw [HTK.out,zw9,if_neg (fun h=>h.2 (by rw [<-ht2];exact List.mem_map_of_mem ht1))])
     have HB6:=zh (HA5.out.alloc HA5.out.size (.cells #[.int .u64 t.line,lvV t.l0,lvV t.l1,lvV t.l2] (57)))
     have HO6:=zh (show OwnSh w.heap.size _ (.slice a2 n2 c2) (keepE (xs.take (i+1)) gs os)from by rw [HNK.out];exact OwnSh.below HOW.out HB6.out)
     have HBB6:=zh (HB.out.trans (HB6.out.mono HB.out.size))
     clear ht1 ht2 hb5
     have hw1:=HW1.out
     cases ib with
     |true=>
      go_wp2_with fail
      go_roundg(g9 - 1)
      case measure=>have:=HG9.out;omega
      case rel=>exact⟨i+1,n2,c2,a2,by have:=HG9.out;omega,by go_num,rfl,HO6,HBB6⟩
     |false=>
      go_wp2_with fail
      go_roundg(g9 - 1)
      case measure=>have:=HG9.out;omega
      case rel=>exact⟨i+1,n2,c2,a2,by have:=HG9.out;omega,by go_num,rfl,HO6,HBB6⟩
    ·have HB6:=zh (HA5.out.alloc HA5.out.size (.cells #[.int .u64 0, .slice none 0 0, .slice none 0 0, .slice none 0 0] (57)))
     have HBB6:=zh (HB.out.trans (HB6.out.mono HB.out.size))
     have HNM:=zh ht1
     clear ht1 hb5
     have hw1:=HW1.out
     cases ib with
     |false=>
      have HO6:=zh (show OwnSh w.heap.size _ (.slice a2 n2 c2) (keepE (xs.take (i+1)) gs os)from by
       rw [HTK.out,zw9,if_neg (fun h=>absurd (decide_eq_true h.1) (by rw [HIB.out];simp))]
       exact OwnSh.below HOW.out HB6.out)
      go_wp2_with fail
      go_roundg(g9 - 1)
      case measure=>have:=HG9.out;omega
      case rel=>exact⟨i+1,n2,c2,a2,by have:=HG9.out;omega,by go_num,rfl,HO6,HBB6⟩
     |true=>
      obtain⟨Y,hY⟩: ∃Y:World,Y=w5.alloc (.cells #[.int .u64 0, .slice none 0 0, .slice none 0 0, .slice none 0 0] (57)):=⟨_,rfl⟩
      rw [<-hY] at HB6 HBB6
      have HYY:=zh hY
      clear hY
      go_upto_region 12 with fail
      rw [<-HYY.out]
      obtain⟨v',w',hr,ho',hb'⟩:=yx0 s HBB6.out.size (OwnSh.below HOW.out HB6.out) HKL.out
      have HO6:=zh (show OwnSh w.heap.size w' v' (keepE (xs.take (i+1)) gs os)from by
       rw [HTK.out,zw9,if_pos ⟨of_decide_eq_true HIB.out,HNM.out⟩]
       exact ho')
      have HB7:=zh (HBB6.out.trans hb')
      obtain⟨a',c',hv', -, -⟩:=zq6 zqe HO6.out
      obtain⟨n',hn'⟩: ∃n',n'=(keepE (xs.take (i+1)) gs os).length:=⟨_,rfl⟩
      rw [<-hn'] at hv'
      subst hv'
      obtain⟨g0,g1,g2,g3⟩:=HS.out _ HB6.out
      clear ho' hb' hn' HYY
      go_wp2_with(at_builtin;refine Lib.wpList_append_run _ rfl _ _ _ _ rfl _ _ rfl rfl _ _ hr ?_)
      go_roundg(g9 - 1)
      case measure=>have:=HG9.out;omega
      case rel=>exact⟨i+1,n',c',a',by have:=HG9.out;omega,by go_num,rfl,HO6,HB7⟩
end Go.Proofs.YtchcelodeepjdaaGreatDoor.Ln

namespace Go.Proofs.YtchcelodeepjdaaGreatDoor.Ln
open Go.RowKit Go.Shelf Go.Herb
set_option maxRecDepth 100000 in
set_option maxHeartbeats 1000000 in
theorem yq0 (a:Option Addr)(cap n:Nat)(ys:List Int)(w:World)(hb:Byt w a ys)(hn:ys.length=n)(hy: ∀y∈ys,U8 y)(hl:n<1000000000):
  Calls Tryz.prog (97) #[.slice a n cap] w (yvj ys w):=by
 have HE:=zh hb
 have HN:=zh hn
 have HY:=zh hy
 clear hb hn hy
 go_enter Tryz.func97,Tryz.ntmps97
 go_wp2_with fail
 go_loopg [7,5,6] n (fun gk iv nv pv wr=> ∃i acc pl:Nat,i+gk=n/\iv= .int .i64 i/\nv= .int .u64 (acc:Int)/\pv= .int .u64 (pl:Int)/\i<=9/\Hid (pl=128 ^ i)/\Hid (acc<128 ^ i)/\Hid (getN ys=getA i acc (ys.drop i))/\wr=w)
 case atStart=>exact⟨0,0,1,by omega,rfl,rfl,rfl,by omega,zh rfl,zh (by decide),zh rfl,rfl⟩
 case round=>
  obtain⟨i,acc,pl,hi,rfl,rfl,rfl,hi9,HPL,HA,HG,rfl⟩:=hrel
  by_cases hlt:i<n
  ·have hil:i<ys.length:=by have:=HN.out;omega
   obtain⟨b,o,hla,hlb,hc⟩:=HE.out.get i hil
   have HDR:=zh (List.drop_eq_getElem_cons hil)
   have HU:=zh (HY.out _ (List.getElem_mem hil))
   generalize ys[i] =c at hc HDR HU
   have g0:=hc 0 _ rfl
   simp only [Nat.add_zero,Nat.mul_one] at g0
   have i0:(0:Int)<=(i:Int):=by omega
   have i1:(i:Int)<(n:Int):=by omega
   have hw1:IntKind.i64.wrap ((i:Int)+1)=(i:Int)+1:=IntWalk.i64_in _ (by omega)
   clear hc
   rw [hla]
   obtain⟨z,rfl⟩: ∃z:Nat,c=(z:Int):=⟨c.toNat,by have:=HU.out.1;omega⟩
   have hz:z<256:=by have:=HU.out.2;omega
   obtain⟨x,hx⟩: ∃x,x=z % 128:=⟨_,rfl⟩
   have hxl:x<128:=by omega
   have hmod:(z:Int) % 128=(x:Int):=by omega
   have htm:Int.tmod (z:Int) 128=(x:Int):=by rw [Int.tmod_eq_emod_of_nonneg (by omega)];exact hmod
   have c1:IntKind.u8.wrap (x:Int)=(x:Int):=by rw [IntKind.wrap_u8];omega
   have c4:IntKind.u64.wrap (x:Int)=(x:Int):=by rw [IntKind.wrap_u64];omega
   by_cases hf1:0<i/\z=0
   ·obtain⟨hp,rfl⟩:=hf1
    have gi:(i:Int)> 0:=by omega
    have gd:decide ((0:Int)<(i:Int))=true:=decide_eq_true (by omega)
    have HF:=zh (show getN ys=none from by rw [HG.out,HDR.out,zxu,if_pos (.inl ⟨hp,rfl⟩)])
    go_wp2_with fail
    refine bodyPost_ret (v:= .tuple #[.int .u64 0, .int .i64 0, .int .i64 4]) (by simp [results,Tryz.results97,go_sem]) rfl ?_
    exact⟨rfl, .inr ⟨HF.out,4, .inl rfl,rfl⟩⟩
   by_cases hf2:i=9/\1<z
   ·obtain⟨rfl,hc1⟩:=hf2
    have gi:((9:Nat):Int)> 0:=by omega
    have gd:decide ((0:Int)<((9:Nat):Int))=true:=decide_eq_true (by omega)
    have gc:((z:Int)==0)=false:=by simp;omega
    have gc1:decide (1<(z:Int))=true:=decide_eq_true (by omega)
    have gc2:(1:Int)<(z:Int):=by omega
    have HF:=zh (show getN ys=none from by rw [HG.out,HDR.out,zxu,if_pos (.inr ⟨rfl,by omega⟩)])
    clear hx
    go_wp2_with fail
    refine bodyPost_ret (v:= .tuple #[.int .u64 0, .int .i64 0, .int .i64 4]) (by simp [results,Tryz.results97,go_sem]) rfl ?_
    exact⟨rfl, .inr ⟨HF.out,4, .inl rfl,rfl⟩⟩
   have HGA:=zh (show getN ys=if z<128 then some (acc+x*pl,ys.drop (i+1))else getA (i+1) (acc+x*pl) (ys.drop (i+1))from by
    rw [HG.out,HDR.out,zxu,if_neg (by rintro(h|h);exact hf1 ⟨h.1,by omega⟩;exact hf2 ⟨h.1,by omega⟩),Int.toNat_natCast,hx,HPL.out]
    by_cases h:z<128
    ·rw [if_pos (by omega),if_pos h,Nat.mod_eq_of_lt h]
    ·rw [if_neg (by omega),if_neg h,show z - 128=z % 128 from by omega])
   have hpb:pl<=9223372036854775808:=by rw [HPL.out];exact yqz hi9
   obtain⟨hs1,hs2⟩:=yzc hi9 HA.out hxl (fun h=>by
    have h1: ¬1<z:=fun h1=>hf2 ⟨h,h1⟩
    have:z<128:=by omega
    rw [hx,Nat.mod_eq_of_lt this]
    omega)
   rw [<-HPL.out] at hs1 hs2
   obtain⟨y,hy⟩: ∃y,y=x*pl:=⟨_,rfl⟩
   have hmul:IntKind.u64.wrap ((x:Int)*(pl:Int))=(y:Int):=by
    rw [show(x:Int)*(pl:Int)=(y:Int)from by rw [hy];push_cast;rfl,IntKind.wrap_u64]
    rw [<-hy] at hs1
    omega
   obtain⟨acc2,hacc2⟩: ∃a,a=acc+y:=⟨_,rfl⟩
   rw [<-hy,<-hacc2] at HGA hs1 hs2
   have hadd:IntKind.u64.wrap ((acc:Int)+(y:Int))=(acc2:Int):=by
    rw [show(acc:Int)+(y:Int)=(acc2:Int)from by rw [hacc2];push_cast;rfl,IntKind.wrap_u64]
    omega
   have HS:=zh (show acc2<18446744073709551616/\acc2<128 ^(i+1)from⟨hs1,hs2⟩)
   have HF1:=zh hf1
   have HF2:=zh hf2
   have HPB:=zh hpb
   clear hx hy hacc2 hs1 hs2 hf1 hf2 hpb
   have hcase:(i=0)\/(0<i/\z≠0/\i≠9)\/(i=9/\z=1):=by
    have h1:=HF1.out
    have h2:=HF2.out
    omega
   rcases hcase with h|h|h
   case' inl=>
    have gd:decide ((0:Int)<(i:Int))=false:=decide_eq_false (by omega)
    have gi: ¬(i:Int)> 0:=by omega
    have g9:((i:Int)==9)=false:=by simp;omega
    clear h
    go_upto_region 12 with fail
   case' inr.inl=>
    have gd:decide ((0:Int)<(i:Int))=true:=decide_eq_true (by omega)
    have gi:(i:Int)> 0:=by omega
    have g9:((i:Int)==9)=false:=by simp;omega
    have gz:((z:Int)==0)=false:=by simp;omega
    clear h
    go_upto_region 12 with fail
   case' inr.inr=>
    have gd:decide ((0:Int)<(i:Int))=true:=decide_eq_true (by omega)
    have gi:(i:Int)> 0:=by omega
    have g9:((i:Int)==9)=true:=by simp;omega
    have gz:((z:Int)==0)=false:=by simp;omega
    have gz1:decide (1<(z:Int))=false:=decide_eq_false (by omega)
    clear h
    go_upto_region 12 with fail
   all_goals
    by_cases hz7:z<128
    ·have gz7:(z:Int)<128:=by omega
     have gz8:decide ((z:Int)<128)=true:=decide_eq_true gz7
     have HF:=zh (show getN ys=some (acc2,ys.drop (i+1))from by rw [HGA.out,if_pos hz7])
     have HI:=zh (show i+1<=ys.length from hil)
     clear hz7
     go_wp2_with fail
     refine bodyPost_ret (v:= .tuple #[.int .u64 (acc2:Int), .int .i64 ((i:Int)+1), .int .i64 0]) (by simp [results,Tryz.results97,go_sem]) rfl ?_
     exact⟨rfl, .inl ⟨acc2,i+1,HF.out,by omega,HI.out,HS.out.1,by push_cast;rfl⟩⟩
    ·have gz7: ¬(z:Int)<128:=by omega
     have gz8:decide ((z:Int)<128)=false:=decide_eq_false gz7
     have HF:=zh (show getN ys=getA (i+1) acc2 (ys.drop (i+1))from by rw [HGA.out,if_neg hz7])
     have H9:=zh (show i+1<=9 from by
      have h1:=HF2.out
      omega)
     obtain⟨pl2,hpl2⟩: ∃p,p=pl*128:=⟨_,rfl⟩
     have HP2:=zh (show pl2=128 ^(i+1)from by rw [hpl2,HPL.out,Nat.pow_succ])
     have hplace:IntKind.u64.wrap ((pl:Int)*128)=(pl2:Int):=by
      have h1:=yqz H9.out
      rw [<-HP2.out] at h1
      rw [show(pl:Int)*128=(pl2:Int)from by rw [hpl2];push_cast;rfl,IntKind.wrap_u64]
      omega
     clear hz7 hpl2
     go_wp2_with fail
     rw [<-hla]
     go_roundg(gk - 1)
     case measure=>omega
     case rel=>exact⟨i+1,acc2,pl2,by omega,by go_num,rfl,rfl,H9.out,HP2,zh HS.out.2,HF,rfl⟩
  ·have i1: ¬(i:Int)<(n:Int):=by omega
   have HF:=zh (show getN ys=none from by rw [HG.out,List.drop_of_length_le (by have:=HN.out;omega)];rfl)
   go_wp2_with fail
   refine bodyPost_ret (v:= .tuple #[.int .u64 0, .int .i64 0, .int .i64 5]) (by simp [results,Tryz.results97,go_sem]) rfl ?_
   exact⟨rfl, .inr ⟨HF.out,5, .inr rfl,rfl⟩⟩
end Go.Proofs.YtchcelodeepjdaaGreatDoor.Ln

namespace Go.Proofs.YtchcelodeepjdaaGreatDoor.Ln
open Go.RowKit Go.Shelf Go.Herb
theorem yk2 {ka:Option Addr}{kc m n:Nat}(hle:n<=kc)(hk:m<=n): ∀W,(Instr.slice (24) (.slice ka n kc) none (some (.int .u64 (m:Int))) none).run Tryz.prog W= .ok (.slice ka m kc) W:=by
 intro W
 rw [run_slice_h (P:=Tryz.prog) W (24) ka n kc (by kernel_rfl) .u64 m (by omega) (by omega)]
 rw [show Tryz.prog.elem (24)=(5)from by kernel_rfl,Tryz.sizeOf5]
 cases ka<;>simp [sliced,Result.andThen,Addr.add]
set_option maxRecDepth 100000 in
theorem yjv (a:Option Addr)(cap n:Nat)(ys:List Int)(w:World)(hb:Byt w a ys)(hn:ys.length=n)(hy: ∀y∈ys,U8 y)(hl:n<1000000000)(hle:n<=cap)(h0:a=none->cap=0):
  Calls Tryz.prog (113) #[.slice a n cap] w (ykb ys w):=by
 have HG:=zh (yq0 a cap n ys w hb hn hy hl)
 have HE:=zh hb
 have HN:=zh hn
 have HL:=zh hle
 have H0:=zh h0
 clear hb hn hy hle h0
 go_enter Tryz.func113,Tryz.ntmps113
 go_wp2_with fail
 refine HG.out.mono ?_
 rintro e w' ⟨rfl,H⟩
 rcases H with⟨m,k,hg,h1,h2,h3,rfl⟩|⟨hg,er,her,rfl⟩
 ·have hkn:k<=n:=by have:=HN.out;omega
  obtain⟨a2,hs,hE2,h02, -⟩:=zx8 HE.out HN.out HL.out hkn H0.out
  have hwu:IntKind.u64.wrap ((n - k:Nat):Int)=((n - k:Nat):Int):=by rw [IntKind.wrap_u64];omega
  by_cases hgt:n - k<m
  ·have hd:decide (((n - k:Nat):Int)<(m:Int))=true:=decide_eq_true (by omega)
   have hd2:decide (n - k<m)=true:=decide_eq_true hgt
   have HF:=zh (show getT ys=none from by unfold getT;rw [hg];simp only;rw [if_neg (by rw [List.length_drop];have:=HN.out;omega)])
   clear hg hgt hE2 h02
   go_wp2_with fail
   refine bodyPost_ret (v:= .tuple #[.string ⟨#[]⟩, .int .i64 0, .int .i64 5]) (by simp [results,Tryz.results113,go_sem]) rfl ?_
   exact⟨rfl, .inr ⟨HF.out,5, .inr rfl,rfl⟩⟩
  ·have hd:decide (((n - k:Nat):Int)<(m:Int))=false:=decide_eq_false (by omega)
   have hd2:decide (n - k<m)=false:=decide_eq_false hgt
   have hwm:IntKind.i64.wrap (m:Int)=(m:Int):=IntWalk.i64_in _ (by omega)
   have hwk:IntKind.i64.wrap ((k:Int)+(m:Int))=(k:Int)+(m:Int):=IntWalk.i64_in _ (by omega)
   have hs3:=yk2 (ka:=a2) (kc:=cap - k) (m:=m) (n:=n - k) (by have:=HL.out;omega) (by omega)
   have hlm:((ys.drop k).take m).length=m:=by rw [List.length_take,List.length_drop];have:=HN.out;omega
   have hcv:=zjx a2 m (cap - k) _ w (hE2.take m) hlm (fun h=>by have:=h02 h;have:=HL.out;omega)
   obtain⟨s,hs2⟩: ∃s,s=strOf ((ys.drop k).take m):=⟨_,rfl⟩
   rw [<-hs2] at hcv
   have HSZ:=zh (show s.size=m from by rw [hs2,yzp,hlm])
   have HF:=zh (show getT ys=some (s,ys.drop (k+m))from by unfold getT;rw [hg];simp only;rw [if_pos (by rw [List.length_drop];have:=HN.out;omega),hs2,List.drop_drop])
   have H1:=zh (show 1<=k+m/\k+m<=n from⟨by omega,by omega⟩)
   clear hg hgt hE2 h02 hlm hs2 h1 h2 h3
   go_wp2_with fail
   refine bodyPost_ret (v:= .tuple #[.string s, .int .i64 ((k:Int)+(m:Int)), .int .i64 0]) (by simp [results,Tryz.results113,go_sem]) rfl ?_
   exact⟨rfl, .inl ⟨s,k+m,HF.out,H1.out.1,by have:=HN.out;have:=H1.out;omega,by have:=HSZ.out;have:=HN.out;have:=H1.out;omega,by have:=HSZ.out;have:=H1.out;omega,by push_cast;rfl⟩⟩
 ·have HF:=zh (show getT ys=none from by unfold getT;rw [hg])
  have hne:(er !=0)=true:=by rcases her with rfl|rfl<;>rfl
  have HR:=zh her
  clear hg her
  go_wp2_with fail
  refine bodyPost_ret (v:= .tuple #[.string ⟨#[]⟩, .int .i64 0, .int .i64 er]) (by simp [results,Tryz.results113,go_sem]) rfl ?_
  exact⟨rfl, .inr ⟨HF.out,er,HR.out,rfl⟩⟩
structure TkAt (f:Bool)(w:World)(p B:Nat)(ys:List Int):Prop where
 blk: ∃a cap,w.heap[p]? =some (.cells #[.slice a ys.length cap, .bool f] (128) (0,0))/\Byt w a ys/\(a=none->cap=0)/\ys.length<=cap/\(ys≠ [] -> ∀ad,a=some ad->ad.block<B)
 u8: ∀y∈ys,U8 y
 len:ys.length<1000000000
 low:B<=p
theorem TkAt.lt {f:Bool}{w:World}{p B:Nat}{ys:List Int}(h:TkAt f w p B ys):p<w.heap.size:=by
 obtain⟨a,cap,h1, -⟩:=h.blk
 exact zq2 h1
theorem takeK (f:Bool):RdK (TkAt f):=⟨fun h hk=>by
 obtain⟨a,cap,h1,h2,h3,h4,h5⟩:=h.blk
 exact⟨⟨a,cap,hk _ _ h1 (.inr rfl),zkm h2 h5 (fun _ _ hb hlt=>hk _ _ hb (.inl hlt)),h3,h4,h5⟩,h.u8,h.len,h.low⟩,fun h=>h.low⟩
theorem yq5 {f:Bool}{w:World}{p B:Nat}{ys:List Int}(h:TkAt f w p B ys)(k kc:Nat)(a2:Option Addr)(hk:k<=ys.length)(hb:Byt w a2 (ys.drop k))(h0:a2=none->kc=0)(hl:ys.length - k<=kc)(hp:ys≠ [] -> ∀ad,a2=some ad->ad.block<B):
  TkAt f (w.setCell ⟨p,0,none⟩ (.slice a2 (ys.length - k) kc)) p B (ys.drop k):=by
 obtain⟨a,cap,h1, -⟩:=h.blk
 have hne:ys.drop k≠ [] ->ys≠ [] :=fun h e=>h (by rw [e];simp)
 have hlow:=h.low
 refine⟨⟨a2,kc,?_,zkm hb (fun h=>hp (hne h)) (fun _ _ ho hlt=>blk_setCell_other ho (show _≠p by omega) _),h0,by rw [List.length_drop];exact hl,fun h=>hp (hne h)⟩,fun y hy=>h.u8 y (List.mem_of_mem_drop hy),by rw [List.length_drop];have:=h.len;omega,h.low⟩
 rw [List.length_drop]
 exact zq7 h1 _
theorem zwl {f:Bool}{w:World}{p B:Nat}{ys:List Int}(h:TkAt f w p B ys):TkAt true (w.setCell ⟨p,1,none⟩ (.bool true)) p B ys:=by
 obtain⟨a,cap,h1,h2,h3,h4,h5⟩:=h.blk
 have hlow:=h.low
 exact⟨⟨a,cap,zq7 h1 _,zkm h2 h5 (fun _ _ ho hlt=>blk_setCell_other ho (show _≠p by omega) _),h3,h4,h5⟩,h.u8,h.len,h.low⟩
def zvf {α:Type}(p B:Nat)(f:Bool)(ys:List Int)(w:World)(r:Option (α × List Int))(V:α->Value->World->Prop)(e:Ending)(w':World):Prop:=
 TurnI p w w'/\ ∃(f':Bool) (zs:List Int) (x:α) (v:Value),e= .returned v/\V x v w'/\TkAt f' w' p B zs/\zs.length<=ys.length/\(f'=false->f=false/\r=some (x,zs))/\(f'=true->f=true\/r=none)
set_option maxRecDepth 100000 in
theorem zqi (f:Bool)(p B:Nat)(ys:List Int)(w:World)(h:TkAt f w p B ys):
  Calls Tryz.prog (68) #[.pointer (some ⟨p,0,none⟩)] w (zvf p B f ys w (getN ys) NumV):=by
 obtain⟨a,cap,hblk,hE,h0,hle,hap⟩:=h.blk
 obtain⟨n,hn⟩: ∃n,n=ys.length:=⟨_,rfl⟩
 rw [<-hn] at hblk hle
 have hnl:n<1000000000:=by rw [hn];exact h.len
 have HG:=zh (yq0 a cap n ys w hE hn.symm h.u8 hnl)
 have c0:=zq0 hblk 0
 have c1:=zq0 hblk 1
 have f0:=zq1 hblk 0
 have f1:=zq1 hblk 1
 simp at c0 c1
 have HR:=zh h
 have HE:=zh hE
 have H0:=zh h0
 have HP:=zh hap
 have HN:=zh hn
 have HNO:=zh (zwl h)
 have HZ:=zh (show∀(g:Bool),(f=true\/getN ys=none)->zvf p B f ys w (getN ys) NumV (.returned (.int .u64 0)) (w.setCell ⟨p,1,none⟩ (.bool true))from fun _ hq=>⟨TurnI.setCell (j:=1) _,true,ys,0,_,rfl,⟨rfl,by decide⟩,zwl h,zr,(fun e=>by cases e),fun _=>hq⟩)
 clear h hblk hE h0 hap hn
 go_enter Tryz.func68,Tryz.ntmps68
 go_wp2_with fail
 refine HG.out.mono ?_
 rintro e w' ⟨rfl,H⟩
 rcases H with⟨m,k,hg,h1,h2,h3,rfl⟩|⟨hg,er,her,rfl⟩
 ·cases f with
  |true=>
   clear hg
   go_wp2_with fail
   go_ret
   exact HZ.out true (by simp)
  |false=>
   have hkn:k<=n:=by have:=HN.out;omega
   obtain⟨a2,hs,hE2,h02,hp2⟩:=zx8 HE.out HN.out.symm hle hkn H0.out
   have HS:=zh (yq5 HR.out k (cap - k) a2 h2 hE2 h02 (by have:=HN.out;omega) (fun hy ad h=>by obtain⟨ad',h4,h5⟩:=hp2 ad h;rw [h5];exact HP.out hy ad' h4))
   rw [<-HN.out] at HS
   have HF:=zh hg
   have H3:=zh h3
   have HK:=zh (show(ys.drop k).length<=ys.length from by rw [List.length_drop];exact Nat.sub_le _ _)
   clear hE2 h02 hp2 hg h1 h2 h3 hkn
   go_wp2_with fail
   go_ret
   exact⟨TurnI.setCell (j:=0) _,false,ys.drop k,_,_,rfl,⟨rfl,H3.out⟩,HS.out,HK.out,fun _=>⟨rfl,HF.out⟩,fun e=>by cases e⟩
 ·have HF:=zh hg
  have hne:(er !=0)=true:=by rcases her with rfl|rfl<;>rfl
  clear hg her
  cases f with
  |true=>
   go_wp2_with fail
   go_ret
   exact HZ.out true (by simp)
  |false=>
   go_wp2_with fail
   go_ret
   exact HZ.out true (by rw [HF.out];simp)
set_option maxRecDepth 100000 in
theorem zju (f:Bool)(p B:Nat)(ys:List Int)(w:World)(h:TkAt f w p B ys):
  Calls Tryz.prog (96) #[.pointer (some ⟨p,0,none⟩)] w (zvf p B f ys w (getT ys) TextV):=by
 obtain⟨a,cap,hblk,hE,h0,hle,hap⟩:=h.blk
 obtain⟨n,hn⟩: ∃n,n=ys.length:=⟨_,rfl⟩
 rw [<-hn] at hblk hle
 have hnl:n<1000000000:=by rw [hn];exact h.len
 have HG:=zh (yjv a cap n ys w hE hn.symm h.u8 hnl hle h0)
 have c0:=zq0 hblk 0
 have c1:=zq0 hblk 1
 have f0:=zq1 hblk 0
 have f1:=zq1 hblk 1
 simp at c0 c1
 have HR:=zh h
 have HE:=zh hE
 have H0:=zh h0
 have HP:=zh hap
 have HN:=zh hn
 have HNO:=zh (zwl h)
 have HZ:=zh (show∀(g:Bool),(f=true\/getT ys=none)->zvf p B f ys w (getT ys) TextV (.returned (.string ⟨#[]⟩)) (w.setCell ⟨p,1,none⟩ (.bool true))from fun _ hq=>⟨TurnI.setCell (j:=1) _,true,ys,⟨#[]⟩,_,rfl,⟨rfl,by decide⟩,zwl h,zr,(fun e=>by cases e),fun _=>hq⟩)
 clear h hblk hE h0 hap hn
 go_enter Tryz.func96,Tryz.ntmps96
 go_wp2_with fail
 refine HG.out.mono ?_
 rintro e w' ⟨rfl,H⟩
 rcases H with⟨s,k,hg,h1,h2,h4,h3,rfl⟩|⟨hg,er,her,rfl⟩
 ·cases f with
  |true=>
   clear hg
   go_wp2_with fail
   go_ret
   exact HZ.out true (by simp)
  |false=>
   have hkn:k<=n:=by have:=HN.out;omega
   obtain⟨a2,hs,hE2,h02,hp2⟩:=zx8 HE.out HN.out.symm hle hkn H0.out
   have HS:=zh (yq5 HR.out k (cap - k) a2 h2 hE2 h02 (by have:=HN.out;omega) (fun hy ad h=>by obtain⟨ad',h4,h5⟩:=hp2 ad h;rw [h5];exact HP.out hy ad' h4))
   rw [<-HN.out] at HS
   have HF:=zh hg
   have H3:=zh h3
   have HK:=zh (show(ys.drop k).length<=ys.length from by rw [List.length_drop];exact Nat.sub_le _ _)
   clear hE2 h02 hp2 hg h1 h2 h3 h4 hkn
   go_wp2_with fail
   go_ret
   exact⟨TurnI.setCell (j:=0) _,false,ys.drop k,_,_,rfl,⟨rfl,H3.out⟩,HS.out,HK.out,fun _=>⟨rfl,HF.out⟩,fun e=>by cases e⟩
 ·have HF:=zh hg
  have hne:(er !=0)=true:=by rcases her with rfl|rfl<;>rfl
  clear hg her
  cases f with
  |true=>
   go_wp2_with fail
   go_ret
   exact HZ.out true (by simp)
  |false=>
   go_wp2_with fail
   go_ret
   exact HZ.out true (by rw [HF.out];simp)
def ManyL (n m:Nat)(v:Value)(_:World):Prop:=v= .int .i64 (m:Int)/\m<=n
set_option maxRecDepth 100000 in
theorem zxb (f:Bool)(p B:Nat)(ys:List Int)(w:World)(h:TkAt f w p B ys):
  Calls Tryz.prog (67) #[.pointer (some ⟨p,0,none⟩)] w (zvf p B f ys w (manyN ys) (ManyL ys.length)):=by
 have HN:=zh (zqi f p B ys w h)
 clear h
 go_enter Tryz.func67,Tryz.ntmps67
 go_wp2_with fail
 refine HN.out.mono ?_
 rintro e w' ⟨hT,f',zs,m,v,rfl,⟨rfl,h3⟩,hR,hle,hg,hb⟩
 obtain⟨a,cap,hblk, -, -, -, -⟩:=hR.blk
 have c0:=zq0 hblk 0
 have c1:=zq0 hblk 1
 have f1:=zq1 hblk 1
 simp at c0 c1
 obtain⟨n,hn⟩: ∃n,n=zs.length:=⟨_,rfl⟩
 rw [<-hn] at c0
 have hnl:n<1000000000:=by rw [hn];exact hR.len
 have hwn:IntKind.u64.wrap (n:Int)=(n:Int):=by rw [IntKind.wrap_u64];omega
 have HNN:=zh hn
 have HLE:=zh hle
 have HG:=zh hg
 have HNO:=zh hb
 have HT:=zh hT
 have HR:=zh hR
 clear hT hR hblk hle hn hg hb
 by_cases hlt:n<m
 ·have hd:decide ((n:Int)<(m:Int))=true:=decide_eq_true (by omega)
  have hd2:(n:Int)<(m:Int):=by omega
  have hd3:decide (n<m)=true:=decide_eq_true hlt
  have HQ:=zh (show f'=false->manyN ys=none from fun e=>by unfold manyN;rw [(HG.out e).2];simp only;rw [if_neg (by rw [<-HNN.out];omega)])
  clear hlt
  go_wp2_with fail
  go_ret
  exact⟨HT.out.trans (TurnI.setCell (j:=1) _),true,zs,0,_,rfl,⟨rfl,Nat.zero_le _⟩,zwl HR.out,HLE.out,(fun e=>by cases e),fun _=>by
   cases f' with
   |true=>
    rcases HNO.out rfl with h|h
    ·exact .inl h
    ·exact .inr (by unfold manyN;rw [h])
   |false=>exact .inr (HQ.out rfl)⟩
 ·have hd:decide ((n:Int)<(m:Int))=false:=decide_eq_false (by omega)
  have hd2: ¬(n:Int)<(m:Int):=by omega
  have hd3:decide (n<m)=false:=decide_eq_false hlt
  have hwm:IntKind.i64.wrap (m:Int)=(m:Int):=IntWalk.i64_in _ (by omega)
  have HM:=zh (show m<=n from by omega)
  clear hlt
  go_wp2_with fail
  go_ret
  exact⟨HT.out,f',zs,m,_,rfl,⟨rfl,by have:=HM.out;have:=HNN.out;have:=HLE.out;omega⟩,HR.out,HLE.out,(fun e=>⟨(HG.out e).1,by unfold manyN;rw [(HG.out e).2];simp only;rw [if_pos (by rw [<-HNN.out];exact HM.out)]⟩),fun e=>by
   rcases HNO.out e with h|h
   ·exact .inl h
   ·exact .inr (by unfold manyN;rw [h])⟩
end Go.Proofs.YtchcelodeepjdaaGreatDoor.Ln
