/- Lemmas and walks towards ManifestsFold. Conditions: each one tells its own. -/
import Derived.Test.YtchcelodeepjdaaGreatDoorMp
import Derived.Test.YtchcelodeepjdaaGreatDoorZZp
import Derived.Lib.SliceRun
import Derived.Deep.RegionLaw
import Derived.Test.YtchcelodeepjdaaGreatDoorZF
namespace Go.Herb
open Go.RowKit
theorem zji (z:Array Value)(n:Nat):(Builtin.zeroCells z n).toList.length=n*z.size:=by
 simp [Builtin.zeroCells]
theorem yxf {z:Array Value}{n:Nat}(h: ∀v∈z.toList,v.oneCell'=true): ∀v∈(Builtin.zeroCells z n).toList,v.oneCell'=true:=by
 intro v hv
 simp only [Builtin.zeroCells,Array.toList_map,Array.toList_range,List.mem_map,List.mem_range] at hv
 obtain⟨i,hi,rfl⟩:=hv
 have hz:0<z.size:=by
  rcases Nat.eq_zero_or_pos z.size with h0|h0
  ·rw [h0] at hi;omega
  ·exact h0
 have h2:=Nat.mod_lt i hz
 rw [getElem!_pos z _ h2]
 exact h _ (by simp)
theorem yx7 {P:Program}(w:World)(t e:TypeId)(z:Value)(ht:P.underlying t=some (.slice e))(hv: ∀w,(zeroValue e).run P w= .ok z w)(g o n c:Nat)(cur:Array Value)(et:TypeId)
  (hg:w.heap[g]? =some (.cells cur et (0,0))) (hn:0<n) (hfit:o+n*z.cells.size<=cur.size) (h1: ∀v∈z.cells.toList,v.oneCell'=true) (ty:TypeId):
  (Builtin.clear_ #[t] ty #[.slice (some ⟨g,o,none⟩) n c]).run P w= .ok (.tuple #[]) (w.setRow g (cur.toList.take o++(Builtin.zeroCells z.cells n).toList++cur.toList.drop (o+n*z.cells.size)).toArray):=by
 have hst:=run_storeCells_at P g o et (Builtin.zeroCells z.cells n).toList 0 cur w hg (by rw [zji];simpa using hfit) (yxf h1)
 rw [zji] at hst
 simp only [Nat.add_zero] at hst
 obtain⟨m,rfl⟩: ∃m,n=m+1:=⟨n - 1,by omega⟩
 simp [Builtin.clear_,run_underlying ht,hv,hst]
theorem zyd {P:Program}(w:World){ops:Array Oper}{rest:List Oper}{o:Oper}{a:Act}{Q:Exit->Act->World->Prop}(hgd:o.guard=none)(d:Operand)(t:TypeId)
  (ho:o.op= .call {callee:= .builtin .clear,args:= #[d],argTypes:= #[t]}) (v:Value) (hd:a.eval d=v) {v':Value} {w':World}
  (hr:(Builtin.clear_ #[t] o.type #[v]).run P w= .ok v' w') (h:wpList P ops Q rest (a.put o.dst v') w'):wpList P ops Q (o::rest) a w:=
 wpList_plain hgd fun _ hK=>by
  unfold Oper.wp execOp
  simp only [ho,resolve,invoke,builtin,Sem.run_bind,Sem.run_pure,Result.andThen_ok,List.map_toArray,List.map_cons,List.map_nil,hd,hr]
  exact hK _ _ h
theorem set_four {α:Type}(A M T:List α)(k:Nat)(a b c d:α)(hA:A.length=k)(hM:4<=M.length):(((((A++(M++T)).toArray.setIfInBounds k a).setIfInBounds (k+1) b).setIfInBounds (k+2) c).setIfInBounds (k+3) d)=(A++(a::b::c::d::(M.drop 4++T))).toArray:=by
 match M,hM with
 |m0::m1::m2::m3::M,_=>
  subst hA
  simp
theorem zz9 {α:Type}(p:α->Bool)(ls:List α)(k:Nat)(h:k<ls.length):(ls.take (k+1)).filter p=(ls.take k).filter p++if p ls[k] then [ls[k]] else [] :=by
 rw [List.take_succ_eq_append_getElem h,List.filter_append]
 congr 1
 cases hp:p ls[k] <;>simp [hp]
end Go.Herb
namespace Go.Proofs.YtchcelodeepjdaaGreatDoor.Ln
open Go.RowKit Go.Shelf Go.Herb

def PredS (h kb:Nat)(ls:List Sv)(p:Sv->Bool)(w:World):Prop:= ∀(u:World) (x:Sv),x∈ls->TurnI h w u->Calls Tryz.prog (44) #[shV x, .pointer (some ⟨kb,0,none⟩)] u fun e w'=>e= .returned (.bool (p x))/\Below u.heap.size u w'
def IdxSPost (ls:List Sv)(p:Sv->Bool)(w:World)(e:Ending)(w':World):Prop:=
 ∃r:Int,e= .returned (.int .i64 r)/\Hid ((r= -1/\ ∀x∈ls,p x=false)\/(∃(i:Nat) (x:Sv),r=i/\ls[i]? =some x/\p x=true/\ ∀y∈ls.take i,p y=false))/\Below w.heap.size w w'
set_option maxRecDepth 100000 in
theorem zye (h kb c n:Nat)(p:Sv->Bool)(ls:List Sv)(w:World)(hh:Els shc 4 w (some ⟨h,0,none⟩) ls)(hn:ls.length=n)(hn1:n<1000000)(hp:PredS h kb ls p w):
  Calls Tryz.prog 80 #[.slice (some ⟨h,0,none⟩) n c, .func (.func (44)) #[] #[.pointer (some ⟨kb,0,none⟩)]] w (IdxSPost ls p w):=by
 have HE:=zh hh
 have HP:=zh hp
 have HN:=zh hn
 clear hh hn hp
 go_enter Tryz.func80,Tryz.ntmps80
 go_wp2_with fail
 go_loopg [8] n (fun gk iv wr=> ∃i:Nat,i+gk=n/\iv= .int .i64 i/\Hid (∀y∈ls.take i,p y=false)/\Hid (Below w.heap.size w wr))
 case atStart=>exact⟨0,by omega,rfl,zh (by simp),zh zb⟩
 case round=>
  obtain⟨i,hi,rfl,HX,HB⟩:=hrel
  by_cases hlt:i<n
  ·have hil:i<ls.length:=by have:=HN.out;omega
   obtain⟨b,o,he,hlb,hcx⟩:=HE.out.get i hil
   injection he with he
   injection he with e1 e2
   subst e1 e2
   have HTK:=zh (List.take_succ_eq_append_getElem hil)
   have HMM:=zh (List.getElem?_eq_getElem hil)
   have hxm:ls[i] ∈ls:=List.getElem_mem hil
   generalize ls[i] =x at hcx HTK HMM hxm
   have g0:=(HB.out.cell (p:=⟨_,_,none⟩) hlb).trans (hcx 0 _ rfl)
   have g1:=(HB.out.cell (p:=⟨_,_,none⟩) hlb).trans (hcx 1 _ rfl)
   have g2:=(HB.out.cell (p:=⟨_,_,none⟩) hlb).trans (hcx 2 _ rfl)
   have g3:=(HB.out.cell (p:=⟨_,_,none⟩) hlb).trans (hcx 3 _ rfl)
   simp only [Nat.zero_add,Nat.add_zero] at g0 g1 g2 g3
   have i0:(0:Int)<=(i:Int):=by omega
   have i1:(i:Int)<(n:Int):=by omega
   have iw:IntKind.i64.wrap ((i:Int)+1)=(i:Int)+1:=IntWalk.i64_in _ (by omega)
   have HCP:=zh (HP.out wr x hxm (TurnI.of_below (by exact⟨HB.out.os,HB.out.tape,HB.out.output,HB.out.size,HB.out.block⟩)))
   clear hcx
   cases hq:p x with
   |true=>
    have HR:=zh (show((i:Int)= -1/\ ∀x∈ls,p x=false)\/(∃(j:Nat) (x:Sv),(i:Int)=j/\ls[j]? =some x/\p x=true/\ ∀y∈ls.take j,p y=false)from .inr ⟨i,x,rfl,HMM.out,hq,HX.out⟩)
    rw [hq] at HCP
    clear hq
    go_wp2_with(go_at_call 44;refine HCP.out.mono ?_;rintro e w3 ⟨rfl,hB3⟩;have HB3:=zh (HB.out.trans (hB3.mono HB.out.size));clear hB3)
    go_ret
    exact⟨_,rfl,HR,HB3.out⟩
   |false=>
    have HX2:=zh (show∀y∈ls.take (i+1),p y=false from by
     rw [HTK.out]
     intro y hy
     rcases List.mem_append.1 hy with h1|h1
     ·exact HX.out y h1
     ·rw [List.mem_singleton.1 h1];exact hq)
    rw [hq] at HCP
    clear hq
    go_wp2_with(go_at_call 44;refine HCP.out.mono ?_;rintro e w3 ⟨rfl,hB3⟩;have HB3:=zh (HB.out.trans (hB3.mono HB.out.size));clear hB3)
    go_roundg(gk - 1)
    case measure=>omega
    case rel=>exact⟨i+1,by omega,by go_num,HX2,HB3⟩
  ·have h1: ¬(i:Int)<(n:Int):=by omega
   have HA:=zh (show∀x∈ls,p x=false from by have:=HX.out;rwa [List.take_of_length_le (by have:=HN.out;omega)] at this)
   go_wp2_with fail
   go_ret
   exact⟨_,rfl,zh (.inl ⟨rfl,HA.out⟩),HB.out⟩
def DelSPost (h c:Nat)(ls:List Sv)(p:Sv->Bool)(w:World)(r0:Nat)(e:Ending)(w':World):Prop:=
 ∃R:List Value,R.length+(ls.filter (fun x=> !p x)).length*4=ls.length*4+r0/\e= .returned (.slice (some ⟨h,0,none⟩) (ls.filter (fun x=> !p x)).length c)/\w'.heap[h]? =some (.cells ((ls.filter (fun x=> !p x)).flatMap shc++R).toArray (57) (0,0))/\TurnI h w w'
structure yvi (h:Nat)(ls:List Sv)(p:Sv->Bool)(R0:List Value)(i j:Nat)(w wr:World):Prop where
 row: ∃M:List Value,M.length=(j - i)*4/\wr.heap[h]? =some (.cells (((ls.take j).filter (fun x=> !p x)).flatMap shc++(M++((ls.drop j).flatMap shc++R0))).toArray (57) (0,0))
 len:((ls.take j).filter (fun x=> !p x)).length=i
 lt:i<j
 le:j<=ls.length
 turn:TurnI h w wr
theorem yv5 {g n c k:Nat}(hk:k<=c)(h0:0<c): ∀W,(Instr.slice (30) (.slice (some ⟨g,0,none⟩) n c) none (some (.int .i64 (k:Int))) none).run Tryz.prog W= .ok (.slice (some ⟨g,0,none⟩) k c) W:=fun W=>by
 have h1:c≠0:=by omega
 rw [run_slice_h (P:=Tryz.prog) W (30) (some ⟨g,0,none⟩) n c (by kernel_rfl) .i64 k (by omega) (by omega)]
 rw [show Tryz.prog.elem (30)=(57)from by kernel_rfl,Tryz.sizeOf57]
 simp [sliced,Result.andThen,addr_add,h1]
theorem yv4 {g n c i:Nat}(hi:i<=n)(hc:i<c): ∀W,(Instr.slice (30) (.slice (some ⟨g,0,none⟩) n c) (some (.int .i64 (i:Int))) none none).run Tryz.prog W= .ok (.slice (some ⟨g,i*4,none⟩) (n - i) (c - i)) W:=fun W=>by
 rw [run_slice_l (P:=Tryz.prog) W (30) (some ⟨g,0,none⟩) n c (by kernel_rfl) .i64 i (by omega) (by omega)]
 rw [show Tryz.prog.elem (30)=(57)from by kernel_rfl,Tryz.sizeOf57]
 have e2: ¬c=i:=by omega
 simp [sliced,Result.andThen,addr_add,e2]
set_option maxRecDepth 100000 in
set_option maxHeartbeats 1000000 in
theorem zvh (h kb n:Nat)(p:Sv->Bool)(ls:List Sv)(w:World)(c:Nat)(R0:List Value)(hh:w.heap[h]? =some (.cells (ls.flatMap shc++R0).toArray (57) (0,0)))(hE:Els shc 4 w (some ⟨h,0,none⟩) ls)(hnc:n<=c)(hn:ls.length=n)(hn1:n<1000000)(hp:PredS h kb ls p w):
  Calls Tryz.prog 42 #[.slice (some ⟨h,0,none⟩) n c, .func (.func (44)) #[] #[.pointer (some ⟨kb,0,none⟩)]] w (DelSPost h c ls p w R0.length):=by
 have HI:=zh (zye h kb c n p ls w hE hn hn1 hp)
 have HH:=zh hh
 have HP:=zh hp
 have HN:=zh hn
 clear hh hn hp hE
 go_enter Tryz.func42,Tryz.ntmps42
 go_wp2_with fail
 refine HI.out.mono ?_
 rintro e w1 ⟨r,rfl,HR,hB1⟩
 have HB1:=zh hB1
 clear HI hB1
 rcases HR.out with⟨rfl,hall⟩|⟨i0,x0,rfl,hx0,hp0,hpre⟩
 ·have HK:=zh (show ls.filter (fun x=> !p x)=ls from List.filter_eq_self.2 (fun x hx=>by rw [hall x hx];rfl))
  clear hall HR
  go_wp2_with fail
  go_ret
  exact⟨R0,by rw [HK.out];omega,by rw [HK.out,HN.out];rfl,by rw [HK.out];exact zq4 HH.out HB1.out (zq2 HH.out),TurnI.of_below HB1.out⟩
 have hil0:i0<n:=by obtain⟨h1, -⟩:=List.getElem?_eq_some_iff.1 hx0;have:=HN.out;omega
 have HD0:=zh (show yvi h ls p R0 i0 (i0+1) w w1 from by
  obtain⟨h1,h2⟩:=List.getElem?_eq_some_iff.1 hx0
  have e1:(ls.take i0).filter (fun x=> !p x)=ls.take i0:=List.filter_eq_self.2 (fun x hx=>by rw [hpre x hx];rfl)
  have e2:(ls.take (i0+1)).filter (fun x=> !p x)=ls.take i0:=by
   rw [zz9 _ ls i0 h1,e1,h2,hp0]
   simp
  refine⟨⟨shc x0,by rw [zqe];omega,?_⟩,by rw [e2,List.length_take];omega,by omega,by omega,TurnI.of_below HB1.out⟩
  rw [e2,<-List.append_assoc (shc x0),<-List.flatMap_cons,<-h2,<-List.drop_eq_getElem_cons h1,<-List.append_assoc,<-List.flatMap_append,List.take_append_drop]
  exact zq4 HH.out HB1.out (zq2 HH.out))
 have q1:((i0:Int)== -1)=false:=beq_eq_false_iff_ne.2 (by omega)
 have q2:IntKind.i64.wrap ((i0:Int)+1)=(i0:Int)+1:=IntWalk.i64_in _ (by omega)
 clear HR hx0 hp0 hpre HB1
 go_wp2_with fail
 go_loopg [5,6] n (fun gk iv jv wr=> ∃i j:Nat,n<=j+gk/\iv= .int .i64 i/\jv= .int .i64 j/\Hid (yvi h ls p R0 i j w wr))
 case atStart=>exact⟨i0,i0+1,by omega,rfl,by rw [Int.natCast_add];rfl,HD0⟩
 case round=>
  obtain⟨i,j,hj,rfl,rfl,HD⟩:=hrel
  obtain⟨M,hM,hrow⟩:=HD.out.row
  have hij:=HD.out.lt
  have hKl:(((ls.take j).filter (fun x=> !p x)).flatMap shc).length=i*4:=by rw [zq8 zqe,HD.out.len]
  by_cases hlt:j<n
  ·have hjl:j<ls.length:=by have:=HN.out;omega
   have hdrop:(ls.drop j).flatMap shc++R0=shc ls[j] ++((ls.drop (j+1)).flatMap shc++R0):=by rw [List.drop_eq_getElem_cons hjl,List.flatMap_cons,List.append_assoc]
   have hxm:ls[j] ∈ls:=List.getElem_mem hjl
   have HFT:=zh (zz9 (fun x=> !p x) ls j hjl)
   rw [hdrop] at hrow
   generalize ls[j] =x at hrow HFT hdrop hxm
   have c0:wr.cell? ⟨h,j*4,none⟩=some (.int .u64 x.line):=by
    rw [zq0 hrow,List.getElem?_toArray,List.getElem?_append_right (by omega),List.getElem?_append_right (by omega),show j*4 - (((ls.take j).filter (fun x=> !p x)).flatMap shc).length - M.length=0 by omega];rfl
   have c1:wr.cell? ⟨h,j*4+1,none⟩=some (lvV x.l0):=by
    rw [zq0 hrow,List.getElem?_toArray,List.getElem?_append_right (by omega),List.getElem?_append_right (by omega),show j*4+1 - (((ls.take j).filter (fun x=> !p x)).flatMap shc).length - M.length=1 by omega];rfl
   have c2:wr.cell? ⟨h,j*4+2,none⟩=some (lvV x.l1):=by
    rw [zq0 hrow,List.getElem?_toArray,List.getElem?_append_right (by omega),List.getElem?_append_right (by omega),show j*4+2 - (((ls.take j).filter (fun x=> !p x)).flatMap shc).length - M.length=2 by omega];rfl
   have c3:wr.cell? ⟨h,j*4+3,none⟩=some (lvV x.l2):=by
    rw [zq0 hrow,List.getElem?_toArray,List.getElem?_append_right (by omega),List.getElem?_append_right (by omega),show j*4+3 - (((ls.take j).filter (fun x=> !p x)).flatMap shc).length - M.length=3 by omega];rfl
   obtain⟨W2,hW2⟩: ∃W2:World,W2=wr.alloc (.cells #[.int .u64 x.line,lvV x.l0,lvV x.l1,lvV x.l2] (57)):=⟨_,rfl⟩
   have hB2:Below wr.heap.size wr W2:=by rw [hW2];exact balc zb
   have hv2:W2.heap[wr.heap.size]? =some (.cells #[.int .u64 x.line,lvV x.l0,lvV x.l1,lvV x.l2] (57) (0,0)):=by rw [hW2];exact zq3 rfl _
   have HT2:=zh (HD.out.turn.trans (TurnI.of_below hB2))
   have HCP:=zh (HP.out W2 x hxm HT2.out)
   have HV2:=zh hv2
   have HROW2:=zh (zq4 hrow hB2 (zq2 hrow))
   have v0:=zq0 hv2 0
   have v1:=zq0 hv2 1
   have v2:=zq0 hv2 2
   have v3:=zq0 hv2 3
   simp at v0 v1 v2 v3
   have HW2:=zh hW2
   have j0:(0:Int)<=(j:Int):=by omega
   have j1:(j:Int)<(n:Int):=by omega
   have jw:IntKind.i64.wrap ((j:Int)+1)=(j:Int)+1:=IntWalk.i64_in _ (by omega)
   have HM:=zh hM
   have HKL:=zh hKl
   clear hrow hdrop hB2 hv2 hW2 hM hKl q1 q2
   go_upto_region 8 with fail
   rw [<-HW2.out]
   clear c0 c1 c2 c3
   cases hq:p x with
   |true=>
    have HE:=zh (show(ls.take (j+1)).filter (fun x=> !p x)=(ls.take j).filter (fun x=> !p x)from by rw [HFT.out,hq];simp)
    rw [hq] at HCP
    clear hq
    go_wp2_with(go_at_call 44;refine HCP.out.mono ?_;rintro e w3 ⟨rfl,hB3⟩;have HB3:=zh hB3;clear hB3)
    go_roundg(gk - 1)
    case measure=>omega
    case rel=>
     exact⟨i,j+1,by omega,rfl,by go_num,zh ⟨⟨M++shc x,by rw [List.length_append,HM.out,zqe];omega,by
      rw [HE.out,List.append_assoc]
      exact zq4 HROW2.out HB3.out (zq2 HROW2.out)⟩,by rw [HE.out];exact HD.out.len,by omega,by omega,HT2.out.trans (TurnI.of_below HB3.out)⟩⟩
   |false=>
    have HE:=zh (show(ls.take (j+1)).filter (fun x=> !p x)=(ls.take j).filter (fun x=> !p x)++ [x] from by rw [HFT.out,hq];simp)
    rw [hq] at HCP
    clear hq
    have i0':(0:Int)<=(i:Int):=by omega
    have i1':(i:Int)<(n:Int):=by omega
    have iw':IntKind.i64.wrap ((i:Int)+1)=(i:Int)+1:=IntWalk.i64_in _ (by omega)
    go_upto_region 9 with(go_at_call 44;refine HCP.out.mono ?_;rintro e w3 ⟨rfl,hB3⟩)
    have HROW3:=zh (zq4 HROW2.out hB3 (zq2 HROW2.out))
    have vv:=zq4 HV2.out hB3 (zq2 HV2.out)
    have u0:=zq0 vv 0
    have u1:=zq0 vv 1
    have u2:=zq0 vv 2
    have u3:=zq0 vv 3
    simp at u0 u1 u2 u3
    have HB3:=zh hB3
    obtain⟨m0,m1,m2,m3,M',hMM⟩: ∃m0 m1 m2 m3 M',M=m0::m1::m2::m3::M':=by
     have hl:4<=M.length:=by have:=HM.out;omega
     match M,hl with
     |m0::m1::m2::m3::M',_=>exact⟨m0,m1,m2,m3,M',rfl⟩
    have e0:w3.cell? ⟨h,i*4,none⟩=some m0:=by
     rw [zq0 HROW3.out,List.getElem?_toArray,List.getElem?_append_right (by have:=HKL.out;omega),hMM,show i*4 - (((ls.take j).filter (fun x=> !p x)).flatMap shc).length=0 by have:=HKL.out;omega];rfl
    have e1:w3.cell? ⟨h,i*4+1,none⟩=some m1:=by
     rw [zq0 HROW3.out,List.getElem?_toArray,List.getElem?_append_right (by have:=HKL.out;omega),hMM,show i*4+1 - (((ls.take j).filter (fun x=> !p x)).flatMap shc).length=1 by have:=HKL.out;omega];rfl
    have e2:w3.cell? ⟨h,i*4+2,none⟩=some m2:=by
     rw [zq0 HROW3.out,List.getElem?_toArray,List.getElem?_append_right (by have:=HKL.out;omega),hMM,show i*4+2 - (((ls.take j).filter (fun x=> !p x)).flatMap shc).length=2 by have:=HKL.out;omega];rfl
    have e3:w3.cell? ⟨h,i*4+3,none⟩=some m3:=by
     rw [zq0 HROW3.out,List.getElem?_toArray,List.getElem?_append_right (by have:=HKL.out;omega),hMM,show i*4+3 - (((ls.take j).filter (fun x=> !p x)).flatMap shc).length=3 by have:=HKL.out;omega];rfl
    have f0:=zq1 HROW3.out (i*4)
    have f1:=zq1 HROW3.out (i*4+1)
    have f2:=zq1 HROW3.out (i*4+2)
    have f3:=zq1 HROW3.out (i*4+3)
    obtain⟨W4,hW4⟩: ∃W4:World,W4=(((w3.setCell ⟨h,i*4,none⟩ (.int .u64 x.line)).setCell ⟨h,i*4+1,none⟩ (lvV x.l0)).setCell ⟨h,i*4+2,none⟩ (lvV x.l1)).setCell ⟨h,i*4+3,none⟩ (lvV x.l2):=⟨_,rfl⟩
    have HROW4:=zh (show W4.heap[h]? =some (.cells (((ls.take j).filter (fun x=> !p x)++ [x]).flatMap shc++((M.drop 4++shc x)++((ls.drop (j+1)).flatMap shc++R0))).toArray (57) (0,0))from by
     have h1:=zq7 (j:=i*4+3) (zq7 (j:=i*4+2) (zq7 (j:=i*4+1) (zq7 (j:=i*4) HROW3.out (.int .u64 x.line)) (lvV x.l0)) (lvV x.l1)) (lvV x.l2)
     rw [hW4,h1,set_four _ M _ _ _ _ _ _ HKL.out (by have:=HM.out;omega)]
     rw [List.flatMap_append]
     simp [shc])
    have HT4:=zh (show TurnI h w W4 from by rw [hW4];exact(HT2.out.trans (TurnI.of_below HB3.out)).trans ((((TurnI.setCell _).trans (TurnI.setCell _)).trans (TurnI.setCell _)).trans (TurnI.setCell _)))
    have HW4:=zh hW4
    clear hB3 vv hMM HCP v0 v1 v2 v3
    go_wp2_with fail
    go_roundg(gk - 1)
    case measure=>omega
    case rel=>
     rw [<-HW4.out]
     exact⟨i+1,j+1,by omega,by go_num,by go_num,zh ⟨⟨M.drop 4++shc x,by rw [List.length_append,List.length_drop,HM.out,zqe];omega,by
      rw [HE.out]
      exact HROW4.out⟩,by rw [HE.out,List.length_append,HD.out.len];rfl,by omega,by omega,HT4.out⟩⟩
  ·have hjn:j=n:=by have:=HD.out.le;have:=HN.out;omega
   have h1: ¬(j:Int)<(n:Int):=by omega
   have hin:i<n:=by omega
   have e1:(ls.take j).filter (fun x=> !p x)=ls.filter (fun x=> !p x):=by rw [List.take_of_length_le (by have:=HN.out;omega)]
   have e2:(ls.drop j).flatMap shc= [] :=by rw [List.drop_eq_nil_of_le (by have:=HN.out;omega)];rfl
   have hin2:i<c:=by omega
   have hlen:=HD.out.len
   rw [e1] at hrow hKl hlen
   rw [e2,List.nil_append] at hrow
   have hcl:=fun ty=>yx7 (P:=Tryz.prog) wr (30) (57) _ Tryz.underlying30 zeroS h (i*4) (n - i) (c - i) _ (57) hrow (by omega) (by simp [Value.cells,hKl,hM];omega) (by simp [Value.cells,Value.oneCell']) ty
   obtain⟨Z,hZ⟩: ∃Z:List Value,Z=(Builtin.zeroCells (Value.agg #[.int .u64 0, .slice none 0 0, .slice none 0 0, .slice none 0 0]).cells (n - i)).toList++(((ls.filter (fun x=> !p x)).flatMap shc++(M++R0)).toArray.toList.drop (i*4+(n - i)*(Value.agg #[.int .u64 0, .slice none 0 0, .slice none 0 0, .slice none 0 0]).cells.size)):=⟨_,rfl⟩
   have e3:((ls.filter (fun x=> !p x)).flatMap shc++(M++R0)).toArray.toList.take (i*4)=(ls.filter (fun x=> !p x)).flatMap shc:=by rw [<-hKl];exact List.take_left
   have hZL:Z.length+(ls.filter (fun x=> !p x)).length*4=ls.length*4+R0.length:=by
    rw [hZ,List.length_append,zji,List.length_drop,hlen]
    simp [Value.cells,hKl,hM]
    have:=HN.out
    omega
   rw [e3,List.append_assoc,<-hZ] at hcl
   obtain⟨W3,hW3⟩: ∃W3:World,W3=wr.setRow h ((ls.filter (fun x=> !p x)).flatMap shc++Z).toArray:=⟨_,rfl⟩
   rw [<-hW3] at hcl
   have HE:=zh (show W3.heap[h]? =some (.cells ((ls.filter (fun x=> !p x)).flatMap shc++Z).toArray (57) (0,0))/\TurnI h w W3 from⟨by rw [hW3];exact setRow_heap wr _ _ _ _ _ hrow,by
    rw [hW3]
    exact HD.out.turn.trans ⟨rfl,rfl,rfl,by simp [World.setRow],fun k o ho hk=>(setRow_other wr h k _ hk).trans ho⟩⟩)
   have s1:= @yv4 h n c i (by omega) hin2
   have s2:= @yv5 h n c i (by omega) (by omega)
   obtain⟨m,hm⟩: ∃m,m=n - i:=⟨_,rfl⟩
   obtain⟨mc,hmc⟩: ∃m,m=c - i:=⟨_,rfl⟩
   obtain⟨o,ho⟩: ∃o,o=i*4:=⟨_,rfl⟩
   rw [<-hm,<-ho,<-hmc] at s1 hcl
   have HLEN:=zh hlen
   have HZL:=zh hZL
   clear hrow hKl hlen e1 e2 e3 hZ hW3 hM hij q1 q2 hm hmc ho hin hin2 hj hZL
   go_wp2_with(at_builtin;refine zyd _ rfl _ _ rfl _ rfl (hcl _) ?_)
   go_ret
   exact⟨Z,HZL.out,by rw [HLEN.out];rfl,HE.out.1,HE.out.2⟩
end Go.Proofs.YtchcelodeepjdaaGreatDoor.Ln

namespace Go.Proofs.YtchcelodeepjdaaGreatDoor.Ln
open Go.RowKit Go.Shelf Go.Herb

noncomputable instance:DecidableEq Tb:=fun _ _=>Classical.propDecidable _
noncomputable def keptP (m:List (Int × Sv))(s:Sv):Bool:=match getL m s.line with|some x=>decide (x.says.lv=s.says.lv)|none=>false
theorem MapIs.lookS {w:World}{b:Nat}{m:List (Int × Sv)}(h:MapS w b m)(k:Int)(hk:U64 k):
  (Instr.lookup (94) (.map (some b)) (.int .u64 k) true).run Tryz.prog w= .ok (match getL m k with|some v=> .tuple #[shV v, .bool true] |none=> .tuple #[.agg #[.int .u64 0, .slice none 0 0, .slice none 0 0, .slice none 0 0], .bool false]) w:=by
 have h2:=(MapIs.look h lawU zjo Tryz.underlying94 (zeroS w) (Maps.keyOf_int_mk Tryz.underlying26 hk)).2
 cases hg:getL m k with
 |none=>rw [hg] at h2;exact h2
 |some v=>rw [hg] at h2;exact h2
structure MapOk (w:World)(m:List (Int × Sv)):Prop where
 ok: ∀x∈m,SvOk w x.2
 few: ∀x∈m,∀l∈x.2.lv,l.ts.length<=1000000
theorem MapOk.ext {w w':World}{m:List (Int × Sv)}(h:MapOk w m)(hb:Below w.heap.size w w'):MapOk w' m:=⟨fun x hx=>(h.ok x hx).ext hb,h.few⟩
set_option maxRecDepth 100000 in
set_option maxHeartbeats 2000000 in
theorem put1_any (kb mb:Nat)(m:List (Int × Sv))(s:Sv)(w:World)(hc:w.cell? ⟨kb,0,none⟩=some (.map (some mb)))(hm:MapS w mb m)(ho:MapOk w m)(hs:SvOk w s)(hl: ∀l∈s.lv,l.ts.length<=1000000):
  Calls Tryz.prog (44) #[shV s, .pointer (some ⟨kb,0,none⟩)] w (fun e w'=>e= .returned (.bool (keptP m s))/\Below w.heap.size w w'):=by
 obtain⟨A,hA⟩: ∃A:World,A=w.alloc (.cells #[.int .u64 s.line,lvV s.l0,lvV s.l1,lvV s.l2] (57)):=⟨_,rfl⟩
 have hBA:Below w.heap.size w A:=by rw [hA];exact zb.alloc zr _
 have hkb:=lt_of_cell hc
 have hc2:A.cell? ⟨kb,0,none⟩=some (.map (some mb)):=(hBA.cell (p:=⟨kb,0,none⟩) hkb).trans hc
 have hmA:MapS A mb m:=hm.same (hBA.block _ hm.lt)
 have hlk:=MapIs.lookS hmA s.line hs.wf
 have hx1:A.heap[w.heap.size]? =some (.cells #[.int .u64 s.line,lvV s.l0,lvV s.l1,lvV s.l2] (57) (0,0)):=by rw [hA];exact zq3 rfl _
 cases hg:getL m s.line with
 |none=>
  rw [hg] at hlk
  have hk:keptP m s=false:=by unfold keptP;rw [hg]
  rw [hk]
  have HB:=zh (show∀o,Below w.heap.size w (A.alloc o)from fun o=>hBA.alloc hBA.size o)
  have HA:=zh hA
  rw [hA] at hlk hc2
  clear hA hBA hkb hc hmA hx1 hg hk hm ho hs hl
  go_enter Tryz.func44,Tryz.ntmps44
  go_wp2_with fail
  go_ret
  rw [<-HA.out]
  exact⟨rfl,HB.out _⟩
 |some x=>
  rw [hg] at hlk
  obtain⟨hxm⟩:Nonempty ((s.line,x)∈m):=⟨(zx0 hm.nodup).1 hg⟩
  obtain⟨X,hX⟩: ∃X:World,X=A.alloc (.cells #[.int .u64 x.line,lvV x.l0,lvV x.l1,lvV x.l2] (57)):=⟨_,rfl⟩
  have hBX:Below A.heap.size A X:=by rw [hX];exact zb.alloc zr _
  have hBw:=hBA.trans (hBX.mono hBA.size)
  have HSM:=zh (same_any x s X ((ho.ok _ hxm).ext hBw) (hs.ext hBw) (ho.few _ hxm) hl)
  have HB:=zh hBw
  have hk:keptP m s=decide (x.says.lv=s.says.lv):=by unfold keptP;rw [hg]
  rw [hk]
  have hx2:=zq4 hx1 hBX (zq2 hx1)
  have d0:=zq0 hx2 0
  have d1:=zq0 hx2 1
  have d2:=zq0 hx2 2
  have d3:=zq0 hx2 3
  simp at d0 d1 d2 d3
  have HA:=zh hA
  have HX:=zh hX
  rw [hX] at d0 d1 d2 d3
  rw [hA] at hlk hc2 d0 d1 d2 d3
  clear hA hX hBA hBX hBw hkb hc hmA hx1 hx2 hg hk hm ho hs hl hxm
  go_enter Tryz.func44,Tryz.ntmps44
  go_wp2_with fail
  rw [<-HA.out,<-HX.out]
  refine HSM.out.mono ?_
  rintro e w2 ⟨q,rfl,hq,hb⟩
  have HE:=zh (show Below w.heap.size w w2/\q=decide (x.says.lv=s.says.lv)from⟨HB.out.trans (hb.mono HB.out.size),by
   cases q with
   |true=>exact(decide_eq_true (hq.1 rfl)).symm
   |false=>exact(decide_eq_false (fun h=>by have:=hq.2 h;cases this)).symm⟩)
  clear hq hb d0 d1 d2 d3
  go_wp2_with fail
  go_ret
  exact⟨by rw [HE.out.2];rfl,HE.out.1⟩
end Go.Proofs.YtchcelodeepjdaaGreatDoor.Ln

namespace Go.Herb
open Go

def getA:Nat->Nat->List Int->Option (Nat × List Int)
 |_,_, [] =>none
 |i,n,c::l=>if(0<i/\c=0)\/(i=9/\1<c)then none else if c<128 then some (n+c.toNat*128 ^ i,l)else getA (i+1) (n+(c.toNat - 128)*128 ^ i) l
theorem zxu (i n:Nat)(c:Int)(l:List Int):getA i n (c::l)=if(0<i/\c=0)\/(i=9/\1<c)then none else if c<128 then some (n+c.toNat*128 ^ i,l)else getA (i+1) (n+(c.toNat - 128)*128 ^ i) l:=rfl
def getN (l:List Int):Option (Nat × List Int):=getA 0 0 l
theorem getA_put: ∀(n i acc:Nat) (l:List Int),n*128 ^ i<18446744073709551616->(0<i->0<n)->getA i acc (putN n++l)=some (acc+n*128 ^ i,l):=by
 intro n
 induction n using Nat.strongRecOn with
 |ind n ih=>
  intro i acc l hn hp
  have h9:i=9->n<2:=fun h=>by
   subst h
   rw [show(128:Nat)^ 9=9223372036854775808 from by decide+kernel] at hn
   omega
  by_cases h:n<128
  ·rw [zk1 h]
   show getA i acc ((n:Int)::l)=_
   rw [zxu,if_neg ?_,if_pos (by omega),Int.toNat_natCast]
   rintro(⟨h1,h2⟩|⟨h1,h2⟩)
   ·have:=hp h1;omega
   ·have:=h9 h1;omega
  ·rw [yky h]
   show getA i acc ((((n % 128:Nat):Int)+128)::(putN (n / 128)++l))=_
   have e:n / 128*128 ^(i+1)=(128*(n / 128))*128 ^ i:=by rw [Nat.pow_succ,Nat.mul_comm (128 ^ i) 128,<-Nat.mul_assoc,Nat.mul_comm (n / 128) 128]
   have hd:n / 128*128 ^(i+1)<=n*128 ^ i:=by
    rw [e]
    exact Nat.mul_le_mul_right _ (Nat.mul_div_le n 128)
   rw [zxu,if_neg ?_,if_neg (by omega),ih (n / 128) (by omega) (i+1) _ l (by omega) (fun _=>by omega)]
   ·rw [show(((n % 128:Nat):Int)+128).toNat - 128=n % 128 from by omega,e,Nat.add_assoc,<-Nat.add_mul,Nat.mod_add_div]
   ·rintro(⟨h1,h2⟩|⟨h1,h2⟩)
    ·omega
    ·have:=h9 h1;omega
theorem yqq (n:Nat)(l:List Int)(h:n<18446744073709551616):getN (putN n++l)=some (n,l):=by
 unfold getN
 rw [getA_put n 0 0 l (by simpa using h) (fun h=>by omega)]
 simp
def strOf (l:List Int):ByteArray:=⟨(l.map (fun c=>UInt8.ofNat c.toNat)).toArray⟩
theorem yv9 (s:ByteArray):strOf (strL s)=s:=by
 obtain⟨d⟩:=s
 unfold strOf strL
 rw [List.map_map]
 have:((fun c:Int=>UInt8.ofNat c.toNat)∘ fun b:UInt8=>(b.toNat:Int))=id:=by funext b;simp
 rw [this,List.map_id]
def getT (l:List Int):Option (ByteArray × List Int):=match getN l with
 |none=>none
 |some (n,r)=>if n<=r.length then some (strOf (r.take n),r.drop n)else none
theorem yqr (s:ByteArray)(l:List Int)(h:s.size<18446744073709551616):getT (putT s++l)=some (s,l):=by
 unfold getT putT
 rw [List.append_assoc,yqq _ _ h]
 have hl:=zw1 s
 simp only
 rw [if_pos (by rw [List.length_append];omega),List.take_append_of_le_length (by omega),List.take_of_length_le (by omega),List.drop_append_of_le_length (by omega),List.drop_of_length_le (by omega),yv9]
 rfl

abbrev Ps (α:Type):=List Int->Option (α × List Int)
def repP {α:Type}(p:Ps α):Nat->Ps (List α)
 |0,l=>some ([],l)
 |k+1,l=>match p l with
  |none=>none
  |some (x,r)=>match repP p k r with
   |none=>none
   |some (xs,r)=>some (x::xs,r)
theorem zja {α:Type}(p:Ps α)(k:Nat)(l:List Int):repP p (k+1) l=match p l with
  |none=>none
  |some (x,r)=>match repP p k r with
   |none=>none
   |some (xs,r)=>some (x::xs,r):=rfl
def manyP {α:Type}(p:Ps α):Ps (List α):=fun l=>match getN l with
 |none=>none
 |some (n,r)=>if n<=r.length then repP p n r else none
theorem yx6 {α:Type}{p:Ps α}{f:α->List Int}: ∀(xs:List α),(∀x∈xs,∀l,p (f x++l)=some (x,l))-> ∀l,repP p xs.length (xs.flatMap f++l)=some (xs,l)
 | [],_,l=>rfl
 |x::xs,h,l=>by
  rw [List.length_cons,zja,List.flatMap_cons,List.append_assoc,h x List.mem_cons_self]
  simp only
  rw [yx6 xs (fun y hy=>h y (List.mem_cons_of_mem _ hy))]
theorem zwp {α:Type}{f:α->List Int}: ∀(xs:List α),(∀x∈xs,0<(f x).length)->xs.length<=(xs.flatMap f).length
 | [],_=>zr
 |x::xs,h=>by
  have h1:=h x List.mem_cons_self
  have h2:=zwp xs (fun y hy=>h y (List.mem_cons_of_mem _ hy))
  rw [List.flatMap_cons,List.length_append,List.length_cons]
  omega
theorem zxa (n:Nat):numsL [(n:Int)] =putN n:=by simp [numsL]
theorem zzq {α:Type}{p:Ps α}{f:α->List Int}(xs:List α)(h: ∀x∈xs,∀l,p (f x++l)=some (x,l))(hf: ∀x∈xs,0<(f x).length)(hl:xs.length<18446744073709551616)(l:List Int):
  manyP p (numsL [(xs.length:Int)] ++xs.flatMap f++l)=some (xs,l):=by
 unfold manyP
 rw [zxa,List.append_assoc,yqq _ _ hl]
 have:=zwp xs hf
 simp only
 rw [if_pos (by rw [List.length_append];omega),yx6 xs h]
end Go.Herb
