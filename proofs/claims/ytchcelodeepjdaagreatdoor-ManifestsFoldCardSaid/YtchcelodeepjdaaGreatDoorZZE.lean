/- Lemmas and walks towards ManifestsFold. Conditions: each one tells its own. -/
import Derived.Test.YtchcelodeepjdaaGreatDoorMp
import Derived.Test.YtchcelodeepjdaaGreatDoorZQ
import Derived.Test.YtchcelodeepjdaaGreatDoorZZx
import Derived.Test.YtchcelodeepjdaaGreatDoorZZv
namespace Go.Herb
open Go
def egP:Ps (List Int × List Sd):=fun l=>match manyP nmP l with
 |none=>none
 |some (gs,l1)=>match shP l1 with
  |none=>none
  |some (sh,l2)=>some ((gs,sh),l2)
theorem yw1 {α:Type}{p:Ps α}: ∀{n:Nat} {l r:List Int} {xs:List α},repP p n l=some (xs,r)->xs.length=n
 |0,l,r,xs,h=>by
  cases h
  rfl
 |n+1,l,r,xs,h=>by
  rw [zja] at h
  cases h1:p l with
  |none=>rw [h1] at h;cases h
  |some q=>
   obtain⟨x,l1⟩:=q
   rw [h1] at h
   simp only at h
   cases h2:repP p n l1 with
   |none=>rw [h2] at h;cases h
   |some q2=>
    obtain⟨ys,l2⟩:=q2
    rw [h2] at h
    simp only [Option.some.injEq,Prod.mk.injEq] at h
    rw [<-h.1,List.length_cons,yw1 h2]
theorem manyP_le {α:Type}{p:Ps α}{l r:List Int}{xs:List α}(h:manyP p l=some (xs,r)):xs.length<=l.length:=by
 unfold manyP at h
 cases h1:getN l with
 |none=>rw [h1] at h;cases h
 |some q=>
  obtain⟨n,l1⟩:=q
  rw [h1] at h
  simp only at h
  have h3:=zqc h1
  split at h
  ·have:=yw1 h
   omega
  ·cases h
def delsL {β:Type}(m:List (Int × β))(gs:List Int):List (Int × β):=gs.foldl delL m
end Go.Herb
namespace Go.Proofs.YtchcelodeepjdaaGreatDoor.Ln
open Go.RowKit Go.Shelf Go.Herb

theorem push_sh {wr:World}{B:Nat}{v:Value}{ss:List Sv}(s:Sv)(hBw:B<=wr.heap.size)(ho:OwnSh B wr v ss)(hl:ss.length<100000000):
  ∃v' w',(Builtin.append_ #[(30),(30)] (30) #[v, .slice (some ⟨wr.heap.size+1,0,none⟩) 1 1]).run Tryz.prog ((wr.alloc (.cells #[.int .u64 s.line,lvV s.l0,lvV s.l1,lvV s.l2] (57))).alloc (.cells #[.int .u64 s.line,lvV s.l0,lvV s.l1,lvV s.l2] (57)))= .ok v' w'/\OwnSh B w' v' (ss++ [s])/\Below B wr w':=by
 have hb1:Below wr.heap.size wr (wr.alloc (.cells #[.int .u64 s.line,lvV s.l0,lvV s.l1,lvV s.l2] (57))):=zb.alloc zr _
 have hb2:=hb1.alloc hb1.size (.cells #[.int .u64 s.line,lvV s.l0,lvV s.l1,lvV s.l2] (57))
 have ho2:=OwnSh.below ho hb2
 have hT:=zwj (x:=s) (w:=(wr.alloc (.cells #[.int .u64 s.line,lvV s.l0,lvV s.l1,lvV s.l2] (57))).alloc (.cells #[.int .u64 s.line,lvV s.l0,lvV s.l1,lvV s.l2] (57))) (b:=wr.heap.size+1) (zq3 (by simp) _)
 obtain⟨i0,hin,hz0,hz1,hz2⟩:=info_parts ykr
 obtain⟨v',w',hr,h2,h3,h4⟩:=run_append_own (P:=Tryz.prog) _ B (30) (30) (57) i0 _ 4 80 Tryz.underlying30 hin hz0 hz1 hz2 rfl (by decide) v ss.length (ss.flatMap shc) ho2 ⟨wr.heap.size+1,0,none⟩ 1 1 ([s].flatMap shc) (zq8 zqe _) (hT.flat zqe (by decide)) (fun u hu=>by
  obtain⟨q,_,hq⟩:=List.mem_flatMap.1 hu
  exact zy8 q u hq) (by unfold maxLen;omega) (by omega) (Nat.le_trans hBw hb2.size)
 have h2:OwnSh B w' v' (ss++ [s]):=by
  unfold OwnSh
  rw [List.length_append,List.flatMap_append]
  exact h2
 exact⟨v',w',hr,h2,Below.appended (hb2.mono hBw) ho2 zr (Nat.le_trans hBw hb2.size) h3⟩
structure EdS (p B:Nat)(w u:World)(ys:List Int)(b:Nat)(m:List (Int × Sv)):Prop where
 read:zqa u p B ys
 map:MapS u b m
 turn:TurnI p w u
 hp:p<w.heap.size
 hb:w.heap.size<=b
theorem ywa {b:Nat}{w u u':World}(h:TurnI b w u)(hg:u.grownBy u' (some b)):TurnI b w u':=
 ⟨hg.os.trans h.os,hg.tape.trans h.tape,hg.output.trans h.output,Nat.le_trans h.size hg.size,fun k o ho hk=>by
  have h1:=h.kept k o ho hk
  exact(hg.block k (zq2 h1) (fun e=>hk (by injection e))).trans h1⟩
theorem ywc {p b:Nat}{w u u':World}(h:TurnI p w u)(h2:TurnI b u u')(hb:w.heap.size<=b):TurnI p w u':=
 ⟨h2.os.trans h.os,h2.tape.trans h.tape,h2.output.trans h.output,Nat.le_trans h.size h2.size,fun k o ho hk=>h2.kept k o (h.kept k o ho hk) (by have:=zq2 ho;omega)⟩
theorem yw9 {r:Nat}{w u u':World}(h:TurnI r w u)(hb:Below w.heap.size u u'):TurnI r w u':=
 ⟨hb.os.trans h.os,hb.tape.trans h.tape,hb.output.trans h.output,Nat.le_trans h.size hb.size,fun k o ho hk=>(hb.block k (zq2 ho)).trans (h.kept k o ho hk)⟩
theorem EdS.next {p B b:Nat}{w u u':World}{ys zs:List Int}{m:List (Int × Sv)}(h:EdS p B w u ys b m)(ht:TurnI p u u')(hr:zqa u' p B zs):EdS p B w u' zs b m:=by
 refine⟨hr,?_,h.turn.trans ht,h.hp,h.hb⟩
 obtain⟨es,c,h1,r⟩:=h.map.blk
 exact⟨es,c,ht.kept b _ h1 (by have:=h.hp;have:=h.hb;omega),r⟩
theorem EdS.turned {p B b:Nat}{w u u':World}{ys:List Int}{m m':List (Int × Sv)}(h:EdS p B w u ys b m)(hg:u.grownBy u' (some b))(hm:MapS u' b m'):EdS p B w u' ys b m':=by
 have h1:=h.hp
 have h2:=h.hb
 have h3:=h.read.low
 refine⟨h.read.kept (fun k o ho hk=> ?_),hm,yq7 h.turn hg (fun k e=>by injection e with e;rw [<-e];exact h.hb),h.hp,h.hb⟩
 exact(hg.block k (zq2 ho) (fun e=>by injection e with e;omega)).trans ho
theorem zwy {P:Program}(w:World){ops:Array Oper}{rest:List Oper}{o:Oper}{a:Act}{Q:Exit->Act->World->Prop}(hgd:o.guard=none)(m x:Operand)(t k:TypeId)
  (ho:o.op= .call {callee:= .builtin .delete,args:= #[m,x],argTypes:= #[t,k]}) (vm vx:Value) (hm:a.eval m=vm) (hx:a.eval x=vx) {v':Value} {w':World}
  (hr:(Builtin.delete_ #[t,k] o.type #[vm,vx]).run P w= .ok v' w') (h:wpList P ops Q rest (a.put o.dst v') w'):wpList P ops Q (o::rest) a w:=
 wpList_plain hgd fun _ hK=>by
  unfold Oper.wp execOp
  simp only [ho,resolve,invoke,builtin,Sem.run_bind,Sem.run_pure,Result.andThen_ok,List.map_toArray,List.map_cons,List.map_nil,hm,hx,hr]
  exact hK _ _ h
theorem ywk {β:Type}(m:List (Int × β))(gs:List Int)(a:Int):delsL m (gs++ [a])=delL (delsL m gs) a:=by
 unfold delsL
 rw [List.foldl_append]
 rfl
def zyi (p B:Nat)(w:World)(xs:List Sv)(ys:List Int)(e:Ending)(w':World):Prop:=
 TurnI p w w'/\((egP ys=none/\e= .panicked NONE)\/ ∃(gs:List Int) (sh:List Sd) (zs:List Int),egP ys=some ((gs,sh),zs)/\zqa w' p B zs/\ ∃(v:Value) (ss os:List Sv),e= .returned v/\ss.map Sv.says=sh/\os.Perm ((putS (delsL (putS [] xs) gs) ss).map (·.2))/\os.Pairwise (fun a b=> ¬b.line<a.line)/\OwnSh w.heap.size w' v os/\(∀s∈ss,∀l∈s.lv,OwnT w.heap.size w' (lvV l) l.ts)/\(∀s∈ss,U64 s.line/\ ∀l∈s.lv,∀t∈l.ts,TbW t))
set_option maxRecDepth 100000 in
set_option maxHeartbeats 2000000 in
theorem ywl (p B n c:Nat)(a:Option Addr)(xs:List Sv)(ys:List Int)(w:World)(h:zqa w p B ys)(hyl:ys.length<1000000)(hS:ShIn w a xs)(hn:xs.length=n)(hl:n<1000000):
  Calls Tryz.prog (62) #[.pointer (some ⟨p,0,none⟩), .slice a n c] w (zyi p B w xs ys):=by
 have HBY:=zh (zw5 a c n xs w hS hn hl)
 have HR:=zh h
 have HYL:=zh hyl
 have HXN:=zh (show xs.length<1000000 from by omega)
 have hpl:=h.lt
 clear h hyl hS hn
 go_enter Tryz.func62,Tryz.ntmps62
 go_upto_region 2 with(go_at_call 40;refine HBY.out.mono ?_;rintro e w1 ⟨b,rfl,hm,hb1,hbl⟩)
 have HS1:=zh (show EdS p B w w1 ys b (putS [] xs)from⟨HR.out.ext hb1,hm,TurnI.of_below hb1,hpl,hbl⟩)
 have HM:=zh (zjd p B ys w1 HS1.out.read)
 clear hm hb1 hbl HBY
 go_wp2_with fail
 refine HM.out.mono ?_
 rintro e w2 ⟨hT,⟨hg,rfl⟩|⟨k0,z1,v,hg,rfl,⟨rfl,hf⟩,hR⟩⟩
 ·have HF:=zh (show egP ys=none from by unfold egP;rw [zxr nmP hg])
  have HT:=zh (HS1.out.turn.trans hT)
  clear hg hT
  go_wp2_with fail
  exact⟨rfl,HT.out, .inl ⟨HF.out,rfl⟩⟩
 have HG1:=zh (show manyP nmP ys=repP nmP k0 z1 from zxq nmP hg)
 have HS2:=zh (HS1.out.next hT hR)
 have HZ1:=zh (show z1.length<1000000/\k0<1000000 from by
  have h1:=zzp hg
  have:=HYL.out
  omega)
 clear hT hg hf hR HM
 have hk1:k0<1000000:=HZ1.out.2
 go_upto_region 3 with fail
 go_loopg [14] k0 (fun gk iv wr=> ∃(k:Nat) (gs zs:List Int),k+gk=k0/\iv= .int .i64 k/\Hid (StepP nmP k0 k z1 gs zs)/\Hid (EdS p B w wr zs b (delsL (putS [] xs) gs))/\Hid (zs.length<1000000))
 case atStart=>exact⟨0, [],z1,by omega,rfl,zh (StepP.zero _ _ _),HS2,zh HZ1.out.1⟩
 case round=>
  obtain⟨k,gs,zs,hk,rfl,HST,HS,HZS⟩:=hrel
  by_cases hlt:k<k0
  ·have HTX:=zh (zxo p B zs wr HS.out.read)
   have i1:(k:Int)<(k0:Int):=by omega
   have hw1:IntKind.i64.wrap ((k:Int)+1)=(k:Int)+1:=IntWalk.i64_in _ (by omega)
   go_wp2_with fail
   refine HTX.out.mono ?_
   rintro e w5 ⟨hT,⟨hg,rfl⟩|⟨a1,y1,v,hg,rfl,⟨rfl,hf⟩,hR⟩⟩
   ·have HF:=zh (show egP ys=none from by
     unfold egP
     rw [HG1.out,HST.out.fail hlt (by unfold nmP;rw [hg])])
    have HT:=zh (HS.out.turn.trans hT)
    clear hg hT
    go_wp2_with fail
    exact⟨rfl,HT.out, .inl ⟨HF.out,rfl⟩⟩
   have HS5:=HS.out.next hT hR
   have HST2:=zh (show StepP nmP k0 (k+1) z1 (gs++ [(a1:Int)]) y1 from HST.out.step hlt (by unfold nmP;rw [hg]))
   have HY1:=zh (show y1.length<1000000 from by have h1:=zqc hg;have:=HZS.out;omega)
   obtain⟨w6,hr,hm6,hg6, -⟩:=MapIs.dropS HS5.map (a1:Int) (zx7 hf) 0
   have HS6:=zh (show EdS p B w w6 y1 b (delsL (putS [] xs) (gs++ [(a1:Int)]))from by rw [ywk];exact HS5.turned hg6 hm6)
   clear hT hg hf hR HTX HS5 hm6 hg6
   go_wp2_with(at_builtin;refine zwy _ rfl _ _ _ _ rfl _ _ rfl rfl hr ?_)
   go_roundg(gk - 1)
   case measure=>omega
   case rel=>exact⟨k+1,_,y1,by omega,by go_num,HST2,HS6,HY1⟩
  ·have i1: ¬(k:Int)<(k0:Int):=by omega
   obtain rfl:k0=k:=by omega
   have HG2:=zh (show egP ys=(match shP zs with|none=>none|some (sh,l2)=>some ((gs,sh),l2))from by unfold egP;rw [HG1.out,HST.out.done])
   clear HST hlt hk
   have HSH:=zh (zjs p B zs wr HS.out.read HZS.out)
   have HWR:=zh (show b<wr.heap.size from HS.out.map.lt)
   go_wp2_with fail
   refine HSH.out.mono ?_
   rintro e w7 ⟨hT,⟨hg,rfl⟩|⟨sh,z7,v,hg,rfl,hV,hR⟩⟩
   ·have HF:=zh (show egP ys=none from by rw [HG2.out,hg])
    have HT:=zh (HS.out.turn.trans hT)
    clear hg hT
    go_wp2_with fail
    exact⟨rfl,HT.out, .inl ⟨HF.out,rfl⟩⟩
   have HG3:=zh (show egP ys=some ((gs,sh),z7)from by rw [HG2.out,hg])
   have HS7:=zh (HS.out.next hT hR)
   have HZ7:=zh (manyP_le hg)
   obtain⟨a7,c7,ss,rfl,hO7,hL7,hW7,hs7⟩:=hV
   obtain⟨m,hm⟩: ∃m,m=ss.length:=⟨_,rfl⟩
   rw [<-hm] at hO7 ⊢
   have hm1:m<1000000:=by
    have h1:=HZ7.out
    have h2:=HZS.out
    rw [<-hs7,List.length_map,<-hm] at h1
    omega
   have hE7:Els shc 4 w7 a7 ss:=by
    rw [hm] at hO7
    obtain⟨a',c',h1, -,h4⟩:=zq6 zqe hO7
    injection h1 with h1 h2 h3
    rw [h1]
    exact h4
   have hna: ∀ad,a7=some ad->ad.block≠b:=fun ad had=>by
    obtain⟨_,⟨h1,_⟩|⟨g,cap,cur,h1,hg,_⟩⟩:=hO7
    ·injection h1 with h1;rw [h1] at had;cases had
    ·injection h1 with h1
     rw [h1] at had
     cases had
     have:=HWR.out
     show g≠b
     omega
   have HEL:=zh (fun(u:World) (hu:TurnI b w7 u)=>zjc hE7 hu hna)
   have HW7:=zh (fun(s:Sv) (hs:s∈ss)=>(hW7 s hs).1)
   have HO7:=zh hO7
   have HL7:=zh hL7
   have HWW:=zh hW7
   have HSS:=zh hs7
   have HMM:=zh hm
   obtain⟨m0,hm0⟩: ∃l,l=delsL (putS [] xs) gs:=⟨_,rfl⟩
   have HM0:=zh hm0
   have HML:=zh (show m0.length<3000000 from by
    have h1: ∀(g:List Int) (l:List (Int × Sv)),(delsL l g).length<=l.length:=fun g=>by
     induction g with
     |nil=>exact fun _=>zr
     |cons x g ih=>
      intro l
      exact Nat.le_trans (ih _) (List.length_filter_le _ _)
    have h2:=h1 gs (putS [] xs)
    have h3:=zkv [] xs
    have h4:=HXN.out
    rw [hm0]
    simp at h3
    omega)
   rw [<-hm0] at HS7
   clear hT hg hR hE7 hna hO7 hL7 hW7 hs7 hm hm0 HSH HG2
   go_upto_region 7 with fail
   go_loopg [23] m (fun gk iv w8=> ∃k:Nat,k+gk=m/\iv= .int .i64 k/\Hid (MapS w8 b (putS m0 (ss.take k)))/\Hid (TurnI b w7 w8))
   case atStart=>exact⟨0,by omega,rfl,zh (by simpa [putS] using HS7.out.map),zh (TurnI.refl _)⟩
   case round=>
    obtain⟨k,hk,rfl,HMk,HTk⟩:=hrel
    by_cases hlt:k<m
    ·have hkl:k<ss.length:=by have:=HMM.out;omega
     obtain⟨b8,o8,hsa,hlb,hcx⟩:=(HEL.out _ HTk.out).get k hkl
     have hgk:ss[k]? =some ss[k] :=List.getElem?_eq_getElem hkl
     have hwf:=HW7.out _ (List.getElem_mem hkl)
     generalize ss[k] =s at hcx hgk hwf
     have g0:=hcx 0 _ rfl
     have g1:=hcx 1 _ rfl
     have g2:=hcx 2 _ rfl
     have g3:=hcx 3 _ rfl
     simp only [Nat.add_zero] at g0
     obtain⟨A,hA⟩: ∃A:World,A=wr.alloc (.cells #[.int .u64 s.line,lvV s.l0,lvV s.l1,lvV s.l2] (57)):=⟨_,rfl⟩
     have hBA:Below wr.heap.size wr A:=by rw [hA];exact zb.alloc zr _
     have hml:=zkv m0 (ss.take k)
     have hmA:MapS A b (putS m0 (ss.take k)):=zzy HMk.out hBA
     obtain⟨Z,hst,hM3,hg3,hs3⟩:=MapIs.storeS hmA s hwf (by have:=HML.out;rw [List.length_take] at hml;omega)
     have HTZ:=zh (show TurnI b w7 Z from ywa (HTk.out.trans (TurnI.of_below hBA)) hg3)
     have HMZ:=zh (show MapS Z b (putS m0 (ss.take (k+1)))from by rw [yz7 _ hgk];exact hM3)
     have i0:(0:Int)<=(k:Int):=by omega
     have i1:(k:Int)<(m:Int):=by omega
     have hw1:IntKind.i64.wrap ((k:Int)+1)=(k:Int)+1:=IntWalk.i64_in _ (by omega)
     rw [hA] at hst
     have HSA:=zh hsa
     clear hcx hBA hA hgk hwf hml hmA hM3 hg3 hs3
     rw [hsa]
     clear hsa
     go_wp2_with fail
     rw [<-HSA.out]
     go_roundg(gk - 1)
     case measure=>omega
     case rel=>exact⟨k+1,by omega,by go_num,HMZ,HTZ⟩
    ·have i2: ¬(k:Int)<(m:Int):=by omega
     obtain⟨fm,hfm⟩: ∃l,l=putS m0 ss:=⟨_,rfl⟩
     have hMf:MapS wr b fm:=by
      have h1:=HMk.out
      rwa [List.take_of_length_le (by have:=HMM.out;omega),<-hfm] at h1
     have HFM:=zh hfm
     have HR8:=zh (show zqa wr p B z7/\TurnI p w wr from⟨HS7.out.read.kept (fun k o ho hk=>HTk.out.kept k o ho (by have:=HS7.out.hp;have:=HS7.out.hb;have:=HS7.out.read.low;omega)),ywc HS7.out.turn HTk.out HS7.out.hb⟩)
     have HFN:=zh (show fm.length<4000000 from by
      have:=zkv m0 ss
      have:=HML.out
      have:=HMM.out
      rw [hfm];omega)
     obtain⟨w9,hrg,hit,hB9,hs9⟩:=MapIs.range hMf Tryz.underlying94
     have HIT:=zh hit
     have HRD:=zh (show zqa w9 p B z7/\TurnI p w w9 from⟨HR8.out.1.ext hB9,HR8.out.2.trans (TurnI.of_below hB9)⟩)
     have HBL:=zh (show b<w9.heap.size/\wr.heap.size<w9.heap.size from⟨by have:=hMf.lt;omega,by omega⟩)
     have HW9:=zh (show w.heap.size<=w9.heap.size from HRD.out.2.size)
     have HB9:=zh hB9
     have HTK:=zh HTk.out
     clear hMf hit hB9 hs9 hfm HMk hlt
     obtain⟨r8,hr8⟩: ∃r,r=wr.heap.size:=⟨_,rfl⟩
     rw [<-hr8] at HIT HBL
     have HR88:=zh hr8
     clear hr8
     go_upto_region 12 with fail
     clear hrg
     rw [<-HR88.out]
     go_loopg [4] fm.length (fun gk v4 wx=> ∃(done todo:List (Int × Sv)) (a4:Option Addr) (n4 c4:Nat),todo.length=gk/\v4= .slice a4 n4 c4/\Hid (fm.Perm (done++todo))/\Hid (zzw Tryz.prog (26) eU shV wx b r8 fm todo)/\Hid (OwnSh w9.heap.size wx (.slice a4 n4 c4) (done.map (·.2)))/\Hid (TurnI r8 w9 wx))
     case atStart=>exact⟨[],fm,none,0,0,rfl,rfl,zh (List.Perm.refl _),HIT,zh (World.ownsRow_nil _ _ _ _),zh (TurnI.refl _)⟩
     case round=>
      obtain⟨done,todo,a4,n4,c4,htl,rfl,HP,HI,HO,HBx⟩:=hrel
      rcases HI.out.next 0 with⟨rfl,hnx⟩|⟨⟨l,sv⟩,todo',w10,htp,hpm,hnx,hit2,hg2,hs2,hen⟩
      ·have hpd:fm.Perm done:=by have h1:=HP.out;rwa [List.append_nil] at h1
       have hdl:(done.map (·.2)).length<100000000:=by
        have h1:=hpd.length_eq
        have h2:=HFN.out
        rw [List.length_map]
        omega
       have HSO:=zh (yzn w9.heap.size (.slice a4 n4 c4) (done.map (·.2)) wr HO.out hdl)
       have HPD:=zh hpd
       have HR8S:=zh (show w.heap.size<=r8 from by rw [HR88.out];exact HR8.out.2.size)
       clear hpd hdl htl HP HI
       go_wp2_with fail
       refine HSO.out.mono ?_
       rintro e w12 ⟨rfl,os,hpo,hso,hoo,hgo⟩
       have hB12:Below w9.heap.size wr w12:=zb.grown hgo HBx.out.size (fun k e=>(World.ownsRow.lt HO.out k e).1)
       have hT12:=yw9 HBx.out hB12
       have HE:=zh (show zyi p B w xs ys (.returned (.slice a4 n4 c4)) w12 from⟨ywc HRD.out.2 hT12 HR8S.out, .inr ⟨gs,sh,z7,HG3.out,HRD.out.1.kept (fun k o ho hk=>hT12.kept k o ho (by have:=HS7.out.hp;have:=HS7.out.read.low;have:=HR8S.out;omega)),_,ss,os,rfl,HSS.out,hpo.trans (by rw [<-HM0.out,<-HFM.out];exact(HPD.out.map _).symm),hso,hoo.mono HW9.out,(fun s hs l hl=>zq9 (zqx (HL7.out s hs l hl) (fun g cs hh _=>by
        have hgb:g≠b:=fun e=>by
         obtain⟨es,c,h1, -⟩:=HS7.out.map.blk
         rw [e,h1] at hh
         cases hh
        have h2:=HTK.out.kept g _ hh hgb
        have h3:=zq2 h2
        exact hT12.kept g _ (zq4 h2 HB9.out h3) (by have:=HR88.out;omega))) HS.out.turn.size),HWW.out⟩⟩)
       clear hpo hso hoo hgo hB12 hT12
       go_wp2_with fail
       go_ret
       exact HE.out
      ·have htl2:todo'.length+1=gk:=by have:=htp.length_eq;simp only [List.length_cons] at this;omega
       have HP2:=zh (show fm.Perm ((done++ [(l,sv)])++todo')from by rw [List.append_assoc];exact HP.out.trans (List.Perm.append_left _ htp))
       have hT10:=ywa HBx.out hg2
       have hO10:OwnSh w9.heap.size w10 (.slice a4 n4 c4) (done.map (·.2)):=World.ownsRow.kept HO.out hg2 (.inr (fun e=>by have:=(World.ownsRow.lt HO.out r8 e).1;have:=HBL.out.2;omega))
       have hdl:(done.map (·.2)).length<100000000:=by
        have h1:=HP.out.length_eq
        have h2:=HFN.out
        rw [List.length_append] at h1
        rw [List.length_map]
        omega
       obtain⟨v',w11,hr,hO11,hB11⟩:=push_sh sv (hT10.size) hO10 hdl
       obtain⟨a',c',hv', -, -⟩:=zq6 zqe hO11
       have HI2:=zh (hit2.same (hB11.block _ HBL.out.1) (hB11.block _ HBL.out.2))
       have HO2:=zh (show OwnSh w9.heap.size w11 (.slice a' ((done++ [(l,sv)]).map (·.2)).length c') ((done++ [(l,sv)]).map (·.2))from by
        rw [hv'] at hO11
        rw [List.map_append]
        exact hO11)
       have HT2:=zh (yw9 hT10 hB11)
       have hv2:v'= .slice a' ((done++ [(l,sv)]).map (·.2)).length c':=by rw [hv',List.map_append];rfl
       obtain⟨n5,hn5⟩: ∃n5,n5=((done++ [(l,sv)]).map (·.2)).length:=⟨_,rfl⟩
       rw [<-hn5] at HO2 hv2
       subst hv2
       clear htp hpm hit2 hg2 hs2 hT10 hO10 hdl hO11 hB11 hv' hn5 HI HO HBx HP htl
       go_wp2_with(at_builtin;refine Lib.wpList_append_run _ rfl _ _ _ _ rfl _ _ rfl rfl _ _ hr ?_)
       go_roundg todo'.length
       case measure=>omega
       case rel=>exact⟨done++ [(l,sv)],todo',a',n5,c',rfl,rfl,HP2,HI2,HO2,HT2⟩
end Go.Proofs.YtchcelodeepjdaaGreatDoor.Ln

namespace Go.Proofs.YtchcelodeepjdaaGreatDoor.Ln
open Go.RowKit Go.Shelf Go.Herb

structure WasIn (w:World)(q:Rv)(rb:Nat):Prop where
 iq:RtIn w q
 gq:GoodR q
 fq:FewX q.says
 wq:(q.says.sh.map (fun s=>1+(s.lv.map List.length).sum)).sum<=400000
 box: ∃f,w.heap[rb]? =some (.cells #[.int .u64 q.seq, .int .u64 q.log, .int .u64 q.next, .slice q.ba q.bs.length q.bc, .slice q.la q.ls.length q.lc, .slice q.va q.vs.length q.vc, .slice q.sa q.sh.length q.sc] (32) f)
theorem zv2 {M:Nat}{u:World}{l:Lv}(ho:OwnT M u (lvV l) l.ts)(hw: ∀t∈l.ts,TbW t):LvOk u l:=by
 obtain⟨t1,t2,t3⟩:=zku ho
 exact⟨Vx.zx3 yk5 ho,t3,t1,t2,hw⟩
structure EdB (w u:World)(cs:Array Value)(M B:Nat)(r0:Rv)(sa:Option Addr)(sc:Nat)(os ss:List Sv):Prop where
 box:u.heap[w.heap.size]? =some (.cells cs (32) (0,0))
 below:Below w.heap.size w u
 own:RtOwn M u r0
 sh:OwnSh B u (.slice sa os.length sc) os
 lev: ∀s∈ss,∀l∈s.lv,OwnT B u (lvV l) l.ts
theorem EdB.store {w u:World}{cs:Array Value}{M B:Nat}{r0:Rv}{sa:Option Addr}{sc:Nat}{os ss:List Sv}(h:EdB w u cs M B r0 sa sc os ss)(j:Nat)(v:Value)(cs':Array Value)(hc:cs.setIfInBounds j v=cs'):EdB w (u.setCell ⟨w.heap.size,j,none⟩ v) cs' M B r0 sa sc os ss:=
 ⟨by rw [<-hc];exact zq7 h.box v,Below.setCell h.below (p:=⟨w.heap.size,j,none⟩) (Nat.le_refl w.heap.size) v,h.own.set h.box v,zqr h.sh h.box (by decide) _,fun s hs l hl=>zqr (h.lev s hs l hl) h.box (by decide) _⟩
theorem EdB.ext {w u u':World}{cs:Array Value}{M B:Nat}{r0:Rv}{sa:Option Addr}{sc:Nat}{os ss:List Sv}(h:EdB w u cs M B r0 sa sc os ss)(hb:Below u.heap.size u u'):EdB w u' cs M B r0 sa sc os ss:=
 ⟨zq4 h.box hb (zq2 h.box),h.below.trans (hb.mono h.below.size),h.own.ext hb,OwnSh.below h.sh hb,fun s hs l hl=>ownsRow_below (h.lev s hs l hl) hb zr⟩
theorem EdB.name {w u:World}{cs:Array Value}{M B:Nat}{r0:Rv}{sa:Option Addr}{sc:Nat}{os ss:List Sv}(_:EdB w u cs M B r0 sa sc os ss): ∃Z,Z=u:=⟨u,rfl⟩
theorem EdB.in_ {w u:World}{cs:Array Value}{M B:Nat}{sq lg nx:Int}{ba la va:Option Addr}{bc lc vc:Nat}{bs:List Br}{ls:List Ln}{vs:List Vx.Vc}{sa:Option Addr}{sc:Nat}{os ss:List Sv}{q:Rv}(h:EdB w u cs M B ⟨sq,lg,nx,ba,bc,bs,la,lc,ls,va,vc,vs,none,0, []⟩ sa sc os ss)(hq:RtIn w q)(hmem: ∀s∈os,s∈ss\/s∈q.sh)(hW: ∀s∈ss,U64 s.line/\ ∀l∈s.lv,∀t∈l.ts,TbW t):
  RtIn u ⟨sq,lg,nx,ba,bc,bs,la,lc,ls,va,vc,vs,sa,sc,os⟩:=by
 have hsi:ShIn u sa os:=⟨Vx.zx3 zqe h.sh,fun s hs=>by
  rcases hmem s hs with h1|h1
  ·have hlv: ∀l∈s.lv,LvOk u l:=fun l hl=>zv2 (h.lev s h1 l hl) ((hW s h1).2 l hl)
   exact⟨hlv _ (by simp [Sv.lv]),hlv _ (by simp [Sv.lv]),hlv _ (by simp [Sv.lv]),(hW s h1).1⟩
  ·exact(hq.shs.ok s h1).ext h.below⟩
 obtain⟨s1,s2,s3⟩:=zku h.sh
 have hri:=h.own.in_
 exact⟨hri.seq,hri.log,hri.next,hri.brs,hri.lns,hri.vcs,hsi,s1,s2,s3,hri.vl⟩
theorem ykj (x was:Rt): ∀y∈editL x was,0<=y/\y<256:=by
 intro y hy
 unfold editL at hy
 rcases List.mem_cons.1 hy with rfl|h
 ·omega
 ·exact zza (zza (zza (ykq x) (zxf _)) (zxf _)) (shL_u8 _) y h
theorem nm_le: ∀{n:Nat} {l r:List Int} {xs:List Int},repP nmP n l=some (xs,r)->r.length<=l.length
 |0,l,r,xs,h=>by
  cases h
  exact zr
 |n+1,l,r,xs,h=>by
  rw [zja] at h
  unfold nmP at h
  cases h1:getN l with
  |none=>rw [h1] at h;cases h
  |some q=>
   obtain⟨x,l1⟩:=q
   rw [h1] at h
   simp only at h
   have h3:=zqc h1
   cases h2:repP nmP n l1 with
   |none=>unfold nmP at h2;rw [h2] at h;cases h
   |some q2=>
    obtain⟨ys,l2⟩:=q2
    have h4:=nm_le h2
    unfold nmP at h2
    rw [h2] at h
    simp only [Option.some.injEq,Prod.mk.injEq] at h
    rw [<-h.2]
    omega
theorem egP_w {l r gs:List Int}{sh:List Sd}(h:egP l=some ((gs,sh),r)):(sh.map (fun x=>1+(x.lv.map List.length).sum)).sum<=l.length:=by
 unfold egP manyP at h
 cases h1:getN l with
 |none=>rw [h1] at h;cases h
 |some q=>
  obtain⟨n,l1⟩:=q
  rw [h1] at h
  simp only at h
  have h3:=zqc h1
  by_cases h0:n<=l1.length
  ·rw [if_pos h0] at h
   cases h2:repP nmP n l1 with
   |none=>rw [h2] at h;cases h
   |some q2=>
    obtain⟨ns,l2⟩:=q2
    rw [h2] at h
    simp only at h
    have h4:=nm_le h2
    cases h5:shP l2 with
    |none=>rw [h5] at h;cases h
    |some q3=>
     obtain⟨sh',l3⟩:=q3
     rw [h5] at h
     simp only [Option.some.injEq,Prod.mk.injEq] at h
     have h6:=shP_w l2 sh' l3 h5
     rw [<-h.1.2]
     omega
  ·rw [if_neg h0] at h;cases h
theorem yvv {gs:List Int}: ∀{m:List (Int × Sv)} {p:Int × Sv},p∈delsL m gs->p∈m:=by
 induction gs with
 |nil=>exact fun h=>h
 |cons g gs ih=>exact fun h=>(List.mem_filter.1 (ih h)).1
theorem zka {gs:List Int}: ∀{m:List (Int × Sv)},(m.map (·.1)).Nodup->((delsL m gs).map (·.1)).Nodup:=by
 induction gs with
 |nil=>exact fun h=>h
 |cons g gs ih=>exact fun h=>ih (h.sublist ((List.filter_sublist).map _))
def wS (s:Sv):Nat:=1+(s.says.lv.map List.length).sum
theorem repl_sum (m:List (Int × Sv))(a:Int)(b:Sv)(hn:(m.map (·.1)).Nodup):((m.map (fun p=>if p.1=a then(a,b)else p)).map (fun p=>wS p.2)).sum<=(m.map (fun p=>wS p.2)).sum+wS b:=by
 induction m with
 |nil=>simp
 |cons p m ih=>
  rw [List.map_cons,List.nodup_cons] at hn
  have h1:=ih hn.2
  simp only [List.map_cons,List.sum_cons]
  by_cases h:p.1=a
  ·have e:m.map (fun p=>if p.1=a then(a,b)else p)=m:=by
    conv=>rhs;rw [<-List.map_id m]
    apply List.map_congr_left
    intro q hq
    have: ¬q.1=a:=fun e=>hn.1 (by rw [h,<-e];exact List.mem_map_of_mem hq)
    simp [this]
   rw [e,if_pos h]
   show wS b+_<=_
   omega
  ·rw [if_neg h]
   omega
theorem putL_sum {m:List (Int × Sv)}(a:Int)(b:Sv)(hn:(m.map (·.1)).Nodup):((putL m a b).map (fun p=>wS p.2)).sum<=(m.map (fun p=>wS p.2)).sum+wS b:=by
 unfold putL
 split
 ·exact repl_sum m a b hn
 ·rw [List.map_append,List.sum_append]
  simp
theorem ykz {xs:List Sv}: ∀{m:List (Int × Sv)},(m.map (·.1)).Nodup->((putS m xs).map (fun p=>wS p.2)).sum<=(m.map (fun p=>wS p.2)).sum+(xs.map wS).sum:=by
 induction xs with
 |nil=>intro m _;simp [putS]
 |cons x xs ih=>
  intro m hn
  have h1:=ih (zyy hn x.line x)
  have h2:=putL_sum x.line x hn
  rw [List.map_cons,List.sum_cons]
  show((putS (putL m x.line x) xs).map _).sum<=_
  omega
theorem yvw {gs:List Int}: ∀{m:List (Int × Sv)},((delsL m gs).map (fun p=>wS p.2)).sum<=(m.map (fun p=>wS p.2)).sum:=by
 induction gs with
 |nil=>exact zr
 |cons g gs ih=>
  intro m
  refine Nat.le_trans (ih (m:=delL m g)) ?_
  unfold delL
  induction m with
  |nil=>simp
  |cons p m ihm=>
   rw [List.filter_cons]
   split
   ·simp only [List.map_cons,List.sum_cons];omega
   ·simp only [List.map_cons,List.sum_cons];omega
theorem zj9 {xs:List Sv}: ∀{m:List (Int × Sv)},(m.map (·.1)).Nodup->((putS m xs).map (·.1)).Nodup:=by
 induction xs with
 |nil=>exact fun h=>h
 |cons x xs ih=>exact fun h=>ih (zyy h x.line x)
end Go.Proofs.YtchcelodeepjdaaGreatDoor.Ln

namespace Go.Proofs.YtchcelodeepjdaaGreatDoor.Ln
open Go.RowKit Go.Shelf Go.Herb

theorem n64 {x:Int}(h:U64 x):N64 x:=by
 unfold U64 at h
 simp [Lit.wf,IntKind.min,IntKind.max,IntKind.signed,IntKind.bits] at h
 unfold N64
 omega
theorem zjq {n:Nat}(h:n<=maxLen):n<18446744073709551616:=by unfold maxLen at h;omega
theorem yyy {w:World}{r:Rv}(hi:RtIn w r)(hf:FewX r.says):RtN r.says:=by
 have h1:=hf.bs
 have h2:=hf.ls
 have h3:=hf.vs
 refine⟨n64 hi.seq,n64 hi.log,n64 hi.next,fun x hx=> ?_,fun x hx=> ?_,fun x hx=> ?_,by omega,by omega,by omega⟩
 ·have h:=hi.brs.all x hx
  exact⟨zjq h.1,n64 h.2.1,n64 h.2.2⟩
 ·have h:=hi.lns.all x hx
  exact⟨n64 h.1,n64 h.2⟩
 ·obtain⟨y,hy,rfl⟩:=List.mem_map.1 hx
  have h:=hi.vcs.wf y hy
  exact⟨n64 h.1,zjq (hi.vcs.lens y hy),fun p hp=>⟨n64 (h.2 p hp).1,n64 (h.2 p hp).2⟩⟩
theorem yw5 {w:World}{r:Rv}(hi:RtIn w r): ∀s∈r.says.sh,SdN s:=fun s hs=>by
 obtain⟨y,hy,rfl⟩:=List.mem_map.1 hs
 have h:=hi.shs.ok y hy
 refine⟨n64 h.wf,rfl,fun l hl=> ?_⟩
 obtain⟨v,hv,rfl⟩:=List.mem_map.1 (show l∈y.lv.map (·.ts)from hl)
 obtain⟨k,hk⟩:=List.mem_iff_getElem?.1 hv
 have ho:=Sv.lvl h hk
 exact⟨zjq (Nat.le_trans ho.le ho.max),fun t ht=>by
  have h2:=ho.wf t ht
  exact⟨n64 h2.1,⟨h2.2.1.1,by have:=h2.2.1.2;omega⟩,zjq h2.2.2.1,zjq h2.2.2.2⟩⟩
theorem yjk {w:World}{r:Rv}(hi:RtIn w r)(hg:GoodR r)(hf:FewX r.says):OneIs (zqt r.says) r.says:=by
 have h:=yjz (yw5 hi) (by have h1:=zj0 hf;show(r.sh.map Sv.says).length<_;rw [List.length_map];omega) []
 rw [List.append_nil] at h
 exact⟨⟨headL r.says++shL r.says.sh,{r.says with sh:= []},shL r.says.sh, [],r.says.sh,rfl,yjx (yyy hi hf) _,h,rfl⟩,(zx5 r).1 hg,rfl⟩
theorem edN_rv {w w':World}{r q:Rv}(hi:RtIn w r)(hf:FewX r.says)(hq:RtIn w' q)(fq:FewX q.says):EdN r.says q.says:=
 edN_of (yyy hi hf) (yw5 hi) (yw5 hq) (by have h1:=zj0 hf;show(r.sh.map Sv.says).length<_;rw [List.length_map];omega) (by have h1:=zj0 fq;show(q.sh.map Sv.says).length<_;rw [List.length_map];omega)
end Go.Proofs.YtchcelodeepjdaaGreatDoor.Ln

namespace Go.Herb
open Go
def RiseL (l:List Sd):Prop:=l.Pairwise (fun a b=>a.line<b.line)
theorem zkw: ∀{x y:List Sd},RiseL x->RiseL y->(∀s,s∈x↔s∈y)->x=y
 | [], [],_,_,_=>rfl
 | [],b::y,_,_,h=>by have:=(h b).2 List.mem_cons_self;cases this
 |a::x, [],_,_,h=>by have:=(h a).1 List.mem_cons_self;cases this
 |a::x,b::y,hx,hy,h=>by
  obtain⟨ha,hx⟩:=List.pairwise_cons.1 hx
  obtain⟨hb,hy2⟩:=List.pairwise_cons.1 hy
  have e:a=b:=by
   rcases List.mem_cons.1 ((h a).1 List.mem_cons_self)with e|h1
   ·exact e
   ·rcases List.mem_cons.1 ((h b).2 List.mem_cons_self)with e|h2
    ·exact e.symm
    ·have h3:=hb a h1
     have h4:=ha b h2
     omega
  subst e
  have e:x=y:=zkw (x:=x) (y:=y) hx hy2 (fun s=>⟨fun hs=>by
   rcases List.mem_cons.1 ((h s).1 (List.mem_cons_of_mem _ hs))with rfl|h1
   ·exact absurd (ha s hs) (Int.lt_irrefl _)
   ·exact h1,fun hs=>by
   rcases List.mem_cons.1 ((h s).2 (List.mem_cons_of_mem _ hs))with rfl|h1
   ·exact absurd (hb s hs) (Int.lt_irrefl _)
   ·exact h1⟩)
  rw [e]
theorem RiseL.nodup {l:List Sd}(h:RiseL l):(l.map Sd.line).Nodup:=by
 unfold RiseL at h
 unfold List.Nodup
 rw [List.pairwise_map]
 exact h.imp (fun h e=>absurd h (by rw [e];exact Int.lt_irrefl _))
theorem RiseL.one {l:List Sd}(h:RiseL l){a b:Sd}(ha:a∈l)(hb:b∈l)(e:a.line=b.line):a=b:=by
 induction l with
 |nil=>cases ha
 |cons c l ih=>
  obtain⟨h1,h2⟩:=List.pairwise_cons.1 h
  rcases List.mem_cons.1 ha with e1|h3
  ·rcases List.mem_cons.1 hb with e2|h4
   ·rw [e1,e2]
   ·rw [e1] at e;exact absurd (h1 b h4) (by rw [e];exact Int.lt_irrefl _)
  ·rcases List.mem_cons.1 hb with e2|h4
   ·rw [e2] at e;exact absurd (h1 a h3) (by rw [e];exact Int.lt_irrefl _)
   ·exact ih h2 h3 h4
theorem Sd.same {a b:Sd}(h1:a.line=b.line)(h2:a.lv=b.lv):a=b:=by
 cases a;cases b;cases h1;cases h2;rfl
theorem zv0 {x q:List Sd}(hx:RiseL x)(hq:RiseL q)(s:Sd):s∈x↔s∈newL x q\/(s∈q/\s.line∉goneL x q/\s.line∉(newL x q).map Sd.line):=by
 have hw: ∀y,asWas q y=true↔y∈q:=fun y=>by
  unfold asWas
  rw [decide_eq_true_eq]
  exact⟨fun⟨z,h1,h2,h3⟩=>by rw [<-Sd.same h2 h3];exact h1,fun h=>⟨y,h,rfl,rfl⟩⟩
 have hn: ∀y,y∈newL x q↔y∈x/\y∉q:=fun y=>by
  unfold newL
  rw [List.mem_filter]
  cases h:asWas q y with
  |true=>simp [(hw y).1 h]
  |false=>
   have:y∉q:=fun h1=>by rw [(hw y).2 h1] at h;cases h
   simp [this]
 have hg: ∀k,k∈goneL x q↔ ∃z∈q,z.line=k/\k∉x.map Sd.line:=fun k=>by
  unfold goneL
  rw [List.mem_map]
  constructor
  ·rintro⟨z,h1,rfl⟩
   obtain⟨h1,h2⟩:=List.mem_filter.1 h1
   exact⟨z,h1,rfl,of_decide_eq_true h2⟩
  ·rintro⟨z,h1,rfl,h2⟩
   exact⟨z,List.mem_filter.2 ⟨h1,decide_eq_true h2⟩,rfl⟩
 constructor
 ·intro h
  by_cases hs:s∈q
  ·refine .inr ⟨hs,fun h1=> ?_,fun h1=> ?_⟩
   ·obtain⟨z,_,_,h2⟩:=(hg _).1 h1
    exact h2 (List.mem_map_of_mem h)
   ·obtain⟨y,h2,h3⟩:=List.mem_map.1 h1
    obtain⟨h4,h5⟩:=(hn y).1 h2
    rw [hx.one h4 h h3] at h5
    exact h5 hs
  ·exact .inl ((hn s).2 ⟨h,hs⟩)
 ·rintro(h|⟨h1,h2,h3⟩)
  ·exact((hn s).1 h).1
  ·have h4:s.line∈x.map Sd.line:=Classical.byContradiction (fun h4=>h2 ((hg _).2 ⟨s,h1,rfl,h4⟩))
   obtain⟨y,h5,h6⟩:=List.mem_map.1 h4
   have h7:y∈q:=Classical.byContradiction (fun h7=>h3 (by rw [<-h6];exact List.mem_map_of_mem ((hn y).2 ⟨h5,h7⟩)))
   rw [<-hq.one h7 h1 h6]
   exact h5
end Go.Herb
namespace Go.Proofs.YtchcelodeepjdaaGreatDoor.Ln
open Go.RowKit Go.Shelf Go.Herb

theorem zvr {gs:List Int}: ∀{m:List (Int × Sv)} {p:Int × Sv},p∈delsL m gs↔p∈m/\p.1∉gs:=by
 induction gs with
 |nil=>intro m p;exact⟨fun h=>⟨h,by simp⟩,fun h=>h.1⟩
 |cons g gs ih=>
  intro m p
  show p∈delsL (delL m g) gs↔_
  rw [ih]
  unfold delL
  rw [List.mem_filter,decide_eq_true_eq,List.mem_cons,not_or]
  exact⟨fun⟨⟨h1,h2⟩,h3⟩=>⟨h1,h2,h3⟩,fun⟨h1,h2,h3⟩=>⟨⟨h1,h2⟩,h3⟩⟩
theorem zwe {q:List Sv}{gs:List Int}{ss os:List Sv}(hq:(q.map Sv.line).Nodup)(hs:(ss.map Sv.line).Nodup)(hp:os.Perm ((putS (delsL (putS [] q) gs) ss).map (·.2)))(s:Sv):s∈os↔s∈ss\/(s∈q/\s.line∉gs/\s.line∉ss.map Sv.line):=by
 have n1:((putS [] q).map (·.1)).Nodup:=zj9 List.nodup_nil
 have n2:((delsL (putS [] q) gs).map (·.1)).Nodup:=zka n1
 have n3:((putS (delsL (putS [] q) gs) ss).map (·.1)).Nodup:=zj9 n2
 have hk0: ∀p∈putS [] q,p.1=p.2.line:=fun p hp=>by
  rcases zzj hp with h|h
  ·cases h
  ·exact h.2
 have hk: ∀p∈putS (delsL (putS [] q) gs) ss,p.1=p.2.line:=fun p hp=>by
  rcases zzj hp with h|h
  ·exact hk0 p (zvr.1 h).1
  ·exact h.2
 have h1:s∈os↔getL (putS (delsL (putS [] q) gs) ss) s.line=some s:=by
  rw [hp.mem_iff,zx0 n3,List.mem_map]
  exact⟨fun⟨p,h2,h3⟩=>by have:=hk p h2;rw [<-h3,<-this];exact h2,fun h=>⟨_,h,rfl⟩⟩
 rw [h1]
 by_cases h:s.line∈ss.map Sv.line
 ·obtain⟨y,h2,h3⟩:=List.mem_map.1 h
  have h4:=zxi h2 hs (delsL (putS [] q) gs)
  rw [h3] at h4
  rw [h4]
  constructor
  ·intro e;injection e with e;rw [<-e];exact .inl h2
  ·rintro(h5|⟨_,_,h5⟩)
   ·have h6:=zxi h5 hs (delsL (putS [] q) gs)
    rw [h4] at h6
    exact h6
   ·exact absurd h h5
 ·rw [zj2 h,zx0 n2,zvr]
  constructor
  ·rintro⟨h2,h3⟩
   rcases zzj h2 with h4|⟨h4,_⟩
   ·cases h4
   ·exact .inr ⟨h4,h3,h⟩
  ·rintro(h2|⟨h2,h3,_⟩)
   ·exact absurd (List.mem_map_of_mem h2) h
   ·exact⟨(zx0 n1).1 (zxi h2 hq []),h3⟩
theorem yj8 {q ss os:List Sv}{x:List Sd}(hq:RiseL (q.map Sv.says))(hx:RiseL x)(hss:ss.map Sv.says=newL x (q.map Sv.says))(hp:os.Perm ((putS (delsL (putS [] q) (goneL x (q.map Sv.says))) ss).map (·.2)))(hso:os.Pairwise (fun a b=> ¬b.line<a.line)):os.map Sv.says=x:=by
 have hqn:(q.map Sv.line).Nodup:=by rw [<-zxd];exact hq.nodup
 have hsn:(ss.map Sv.line).Nodup:=by
  rw [<-zxd,hss]
  refine List.Nodup.sublist (List.Sublist.map _ ?_) hx.nodup
  unfold newL
  exact List.filter_sublist
 have n3:((putS (delsL (putS [] q) (goneL x (q.map Sv.says))) ss).map (·.1)).Nodup:=zj9 (zka (zj9 List.nodup_nil))
 have hk: ∀p∈putS (delsL (putS [] q) (goneL x (q.map Sv.says))) ss,p.1=p.2.line:=fun p hp=>by
  rcases zzj hp with h|h
  ·rcases zzj (zvr.1 h).1 with h|h
   ·cases h
   ·exact h.2
  ·exact h.2
 have hon:(os.map Sv.line).Nodup:=by
  refine(hp.map Sv.line).nodup_iff.2 ?_
  rw [List.map_map]
  have:(putS (delsL (putS [] q) (goneL x (q.map Sv.says))) ss).map (Sv.line ∘(fun p=>p.2))=(putS (delsL (putS [] q) (goneL x (q.map Sv.says))) ss).map (·.1):=List.map_congr_left (fun p hp=>(hk p hp).symm)
  rw [this]
  exact n3
 have hor:RiseL (os.map Sv.says):=by
  unfold RiseL
  rw [List.pairwise_map]
  unfold List.Nodup at hon
  rw [List.pairwise_map] at hon
  exact(hso.and hon).imp (fun⟨h1,h2⟩=>by
   show Sv.line _<Sv.line _
   omega)
 refine zkw hor hx (fun s=> ?_)
 rw [zv0 hx hq s,List.mem_map]
 constructor
 ·rintro⟨y,h1,rfl⟩
  rcases(zwe hqn hsn hp y).1 h1 with h|⟨h2,h3,h4⟩
  ·exact .inl (by rw [<-hss];exact List.mem_map_of_mem h)
  ·refine .inr ⟨List.mem_map_of_mem h2,h3,?_⟩
   rw [<-hss,zxd]
   exact h4
 ·rintro(h|⟨h1,h2,h3⟩)
  ·rw [<-hss] at h
   obtain⟨y,h4,rfl⟩:=List.mem_map.1 h
   exact⟨y,(zwe hqn hsn hp y).2 (.inl h4),rfl⟩
  ·obtain⟨y,h4,rfl⟩:=List.mem_map.1 h1
   rw [<-hss,zxd] at h3
   exact⟨y,(zwe hqn hsn hp y).2 (.inr ⟨h4,h2,h3⟩),rfl⟩
structure EdIs (ys:List Int)(q x:Rt):Prop where
 num:EdN x q
 good:GoodX x
 again:editL x q=ys
theorem EdIs.read {ys:List Int}{q x:Rt}(h:EdIs ys q x): ∃l l1,ys=2::l/\rtP l=some ({x with sh:= []},l1)/\egP l1=some ((goneL x.sh q.sh,newL x.sh q.sh), []):=by
 obtain⟨l,e1,e2⟩:=yj6 h.num []
 rw [List.append_nil,h.again] at e1
 unfold edP at e2
 cases h1:rtP l with
 |none=>rw [h1] at e2;cases e2
 |some r1=>
  obtain⟨r,l1⟩:=r1
  rw [h1] at e2
  simp only at e2
  refine⟨l,l1,e1,?_⟩
  unfold egP
  cases h2:manyP nmP l1 with
  |none=>rw [h2] at e2;cases e2
  |some r2=>
   obtain⟨gs,l2⟩:=r2
   rw [h2] at e2
   simp only at e2
   cases h3:shP l2 with
   |none=>rw [h3] at e2;cases e2
   |some r3=>
    obtain⟨sh,l3⟩:=r3
    rw [h3] at e2
    simp only [Option.some.injEq,Prod.mk.injEq] at e2
    obtain⟨⟨rfl,rfl,rfl⟩,rfl⟩:=e2
    exact⟨h1,by simp [h3]⟩
theorem EdIs.uniq {ys:List Int}{q x y:Rt}(hq:GoodX q)(h:EdIs ys q x)(k:EdIs ys q y):x=y:=by
 obtain⟨l,l1,e1,e2,e3⟩:=h.read
 obtain⟨l',l1',f1,f2,f3⟩:=k.read
 rw [e1] at f1
 cases f1
 rw [e2] at f2
 simp only [Option.some.injEq,Prod.mk.injEq] at f2
 obtain⟨f2,rfl⟩:=f2
 rw [e3] at f3
 simp only [Option.some.injEq,Prod.mk.injEq,and_true] at f3
 have hs:x.sh=y.sh:=zkw h.good.2.shelved.rise k.good.2.shelved.rise (fun s=>by
  rw [zv0 h.good.2.shelved.rise hq.2.shelved.rise s,zv0 k.good.2.shelved.rise hq.2.shelved.rise s,f3.1,f3.2])
 cases x
 cases y
 simp only [Rt.mk.injEq] at f2 hs ⊢
 obtain⟨a1,a2,a3,a4,a5,a6,_⟩:=f2
 exact⟨a1,a2,a3,a4,a5,a6,hs⟩
end Go.Proofs.YtchcelodeepjdaaGreatDoor.Ln
