/- Lemmas and walks towards ManifestsFold. Conditions: each one tells its own. -/
import Derived.Test.YtchcelodeepjdaaGreatDoorMp
import Derived.Test.YtchcelodeepjdaaGreatDoorZZc
import Derived.Deep.RegionLaw
namespace Go.Proofs.YtchcelodeepjdaaGreatDoor.Ln
open Go.RowKit Go.Shelf Go.Herb

theorem infoTb:(Tryz.prog.info? (51)).map (fun i=>(i.zero,i.size,i.bytes))=some (some (.agg #[.int .u64 0, .int .u32 0, .string ⟨#[]⟩, .string ⟨#[]⟩]),4,48):=by kernel_rfl
structure T2 (p q:Nat)(A B:World):Prop where
 size:A.heap.size<=B.heap.size
 kept: ∀k o,A.heap[k]? =some o->k≠p->k≠q->B.heap[k]? =some o
theorem T2.refl (p q:Nat)(A:World):T2 p q A A:=⟨zr,fun _ _ h _ _=>h⟩
theorem T2.trans {p q:Nat}{A B C:World}(h:T2 p q A B)(k:T2 p q B C):T2 p q A C:=⟨Nat.le_trans h.size k.size,fun b o hb h1 h2=>k.kept b o (h.kept b o hb h1 h2) h1 h2⟩
theorem T2.of_turn {p q:Nat}{A B:World}(h:TurnI p A B):T2 p q A B:=⟨h.size,fun b o hb h1 _=>h.kept b o hb h1⟩
theorem T2.alloc {p q:Nat}{A B:World}(h:T2 p q A B)(o:Obj):T2 p q A (B.alloc o):=h.trans (T2.of_turn (TurnI.of_below (zb.alloc zr o)))
theorem T2.set {p q j:Nat}{A B:World}(h:T2 p q A B)(v:Value):T2 p q A (B.setCell ⟨q,j,none⟩ v):=
 ⟨Nat.le_trans h.size (by simp [World.setCell]),fun b o hb h1 h2=>blk_setCell_other (h.kept b o hb h1 h2) (show b≠q from h2) v⟩
theorem T2.grown {p q:Nat}{A B C:World}{row:Option Nat}(h:T2 p q A B)(hg:B.grownBy C row)(hr: ∀k,row=some k->A.heap.size<=k):T2 p q A C:=
 ⟨Nat.le_trans h.size hg.size,fun b o hb h1 h2=>by
  have h3:=h.kept b o hb h1 h2
  exact(hg.block b (zq2 h3) (fun e=>by have:=hr b e.symm;have:=zq2 hb;omega)).trans h3⟩
theorem own_t2 {p q M e s n:Nat}{A B:World}{v:Value}{xs:List Value}{cs:Array Value}{t:TypeId}{fr:Nat × Nat}(h:A.ownsRow M e s v n xs)(ht:T2 p q A B)(hp:p<M)(hq:A.heap[q]? =some (.cells cs t fr))(hne:t≠e):B.ownsRow M e s v n xs:=
 zqx h (fun g _ hh hg=>ht.kept g _ hh (by omega) (fun e2=>by rw [e2,hq] at hh;cases hh;exact hne rfl))
def Sv.set (s:Sv)(i:Nat)(l:Lv):Sv:=match i with
 |0=>{s with l0:=l }
 |1=>{s with l1:=l }
 |_=>{s with l2:=l }
theorem Sv.set_lv (s:Sv)(i:Nat)(hi:i<3)(l:Lv):(s.set i l).lv=s.lv.set i l:=by
 match i,hi with
 |0,_=>rfl
 |1,_=>rfl
 |2,_=>rfl
theorem Sv.set_line (s:Sv)(i:Nat)(l:Lv):(s.set i l).line=s.line:=by
 match i with
 |0=>rfl
 |1=>rfl
 |i+2=>rfl
theorem Sv.set_set (s:Sv)(i:Nat)(l l':Lv):(s.set i l).set i l'=s.set i l':=by
 match i with
 |0=>rfl
 |1=>rfl
 |i+2=>rfl
theorem zv6 (s:Sv)(i:Nat)(l:Lv)(h:s.lv[i]? =some l):(shc s).toArray[1+i]? =some (lvV l):=by
 match i,h with
 |0,h=>cases h;rfl
 |1,h=>cases h;rfl
 |2,h=>cases h;rfl
 |i+3,h=>simp [Sv.lv] at h
theorem shc_set (s:Sv)(i:Nat)(hi:i<3)(l:Lv):(shc s).toArray.setIfInBounds (1+i) (lvV l)=(shc (s.set i l)).toArray:=by
 match i,hi with
 |0,_=>rfl
 |1,_=>rfl
 |2,_=>rfl
theorem Sv.set_get (s:Sv)(i:Nat)(hi:i<3)(l:Lv):(s.set i l).lv[i]? =some l:=by
 match i,hi with
 |0,_=>rfl
 |1,_=>rfl
 |2,_=>rfl
theorem Sv.set_other (s:Sv)(i j:Nat)(hi:i<3)(l:Lv)(hij:i≠j):(s.set i l).lv[j]? =s.lv[j]? :=by
 rw [Sv.set_lv s i hi,List.getElem?_set_ne hij]
theorem yzj {R:RdR}{p B bb i k c:Nat}{w5 w6 u:World}{zs:List Int}{s:Sv}{a:Option Addr}{ts:List Tb}(h:RS R p B w5 u zs bb (shc (s.set i ⟨a,c,ts⟩)).toArray (57))(hi:i<3)(ho:OwnT w6.heap.size u (.slice a k c) ts)(hl:ts.length=k)(x:Tb)(hk:k<1000000)(h56:w5.heap.size<=w6.heap.size)(ht:T2 p bb w6 u):
  ∃(a':Option Addr) (c':Nat) (w8:World),(Builtin.append_ #[(54),(54)] (54) #[.slice a k c, .slice (some ⟨u.heap.size,0,none⟩) 1 1]).run Tryz.prog (u.alloc (.cells #[.int .u64 x.file, .int .u32 x.bytes, .string x.low, .string x.high] (51)))= .ok (.slice a' (k+1) c') w8/\w8.cell? ⟨bb,1+i,none⟩=some (.slice a k c)/\w8.frozen? ⟨bb,1+i,none⟩=false/\RS R p B w5 (w8.setCell ⟨bb,1+i,none⟩ (.slice a' (k+1) c')) zs bb (shc (s.set i ⟨a',c',ts++ [x]⟩)).toArray (57)/\OwnT w6.heap.size (w8.setCell ⟨bb,1+i,none⟩ (.slice a' (k+1) c')) (.slice a' (k+1) c') (ts++ [x])/\(ts++ [x]).length=k+1/\T2 p bb w6 (w8.setCell ⟨bb,1+i,none⟩ (.slice a' (k+1) c')):=by
 obtain⟨U,hU⟩: ∃U:World,U=u.alloc (.cells #[.int .u64 x.file, .int .u32 x.bytes, .string x.low, .string x.high] (51)):=⟨_,rfl⟩
 have hA:RS R p B w5 U zs bb (shc (s.set i ⟨a,c,ts⟩)).toArray (57):=by rw [hU];exact h.alloc _
 have hOA:OwnT w6.heap.size U (.slice a k c) ts:=by rw [hU];exact zzs ho _
 have hTA:T2 p bb w6 U:=by rw [hU];exact ht.alloc _
 obtain⟨v',w8,hr,hO,hgr⟩:=zql (54) (51) _ yk5 tbc_one Tryz.underlying54 infoTb rfl (by decide) U w6.heap.size (.slice a k c) ts u.heap.size x #[.int .u64 x.file, .int .u32 x.bytes, .string x.low, .string x.high] hOA (by rw [hU];exact zq3 rfl _) rfl (by decide) (by rw [hl];exact hk) hTA.size (54)
 rw [<-hU]
 obtain⟨a',c',hv', -, -, -, -⟩:=Vx.zqv hO
 have hl2:(ts++ [x]).length=k+1:=by rw [List.length_append,hl];rfl
 rw [hl2] at hv'
 subst hv'
 have hG:=hA.grown hOA h56 hgr (by decide)
 have hc:=zq0 hG.box (1+i)
 rw [zv6 _ i _ (Sv.set_get s i hi _)] at hc
 refine⟨a',c',w8,hr,by rw [hc];show some (Value.slice a ts.length c)=_;rw [hl],zq1 hG.box (1+i),hG.store (1+i) _ _ ?_,zqr hO hG.box (by decide) _,hl2,(hTA.grown hgr (fun k hk=>yjn hOA hk)).set _⟩
 have e:=shc_set (s.set i ⟨a,c,ts⟩) i hi ⟨a',c',ts++ [x]⟩
 rw [Sv.set_set] at e
 rw [<-e]
 show _=(shc (s.set i ⟨a,c,ts⟩)).toArray.setIfInBounds (1+i) (.slice a' (ts++ [x]).length c')
 rw [hl2]
theorem yk4 (p B:Nat)(ys:List Int)(w:World)(h:zqa w p B ys):
  (tbP ys=none/\Calls Tryz.prog (95) #[.pointer (some ⟨p,0,none⟩)] w (fun e w'=>e= .panicked NONE/\TurnI p w w'))\/
  (∃(t:Tb) (zs:List Int),tbP ys=some (t,zs)/\Calls Tryz.prog (95) #[.pointer (some ⟨p,0,none⟩)] w (fun e w'=>e= .returned (.agg #[.int .u64 t.file, .int .u32 t.bytes, .string t.low, .string t.high])/\TbW t/\TurnI p w w'/\zqa w' p B zs)):=by
 cases hg:tbP ys with
 |none=>
  refine .inl ⟨rfl,(yq4 p B ys w h).mono ?_⟩
  rintro e w' ⟨hT,⟨-,rfl⟩|⟨m,zs,v,h1, -⟩⟩
  ·exact⟨rfl,hT⟩
  ·rw [hg] at h1;cases h1
 |some q=>
  obtain⟨m,zs⟩:=q
  refine .inr ⟨m,zs,rfl,(yq4 p B ys w h).mono ?_⟩
  rintro e w' ⟨hT,⟨h1, -⟩|⟨m',zs',v,h1,rfl,⟨rfl,h3⟩,hR⟩⟩
  ·rw [hg] at h1;cases h1
  ·rw [hg] at h1
   cases h1
   exact⟨rfl,h3,hT,hR⟩
end Go.Proofs.YtchcelodeepjdaaGreatDoor.Ln

namespace Go.Herb
open Go

theorem xqb {l r:List Int}{t:Tb}(h:tbP l=some (t,r)):r.length+1<=l.length:=by
 unfold tbP at h
 cases h1:getN l with
 |none=>rw [h1] at h;cases h
 |some q1=>
  obtain⟨f,l1⟩:=q1
  rw [h1] at h
  simp only at h
  cases h2:getN l1 with
  |none=>rw [h2] at h;cases h
  |some q2=>
   obtain⟨b,l2⟩:=q2
   rw [h2] at h
   simp only at h
   split at h
   ·cases h3:getT l2 with
    |none=>rw [h3] at h;cases h
    |some q3=>
     obtain⟨lo,l3⟩:=q3
     rw [h3] at h
     simp only at h
     cases h4:getT l3 with
     |none=>rw [h4] at h;cases h
     |some q4=>
      obtain⟨hi,l4⟩:=q4
      rw [h4] at h
      cases h
      have e1:=zqc h1
      have e2:=zqc h2
      have e3:=zv1 h3
      have e4:=zv1 h4
      omega
   ·cases h
end Go.Herb
namespace Go.Proofs.YtchcelodeepjdaaGreatDoor.Ln
open Go.RowKit Go.Shelf Go.Herb

structure RdS (R:RdR)(p B:Nat)(w u:World)(zs:List Int)(a:Option Addr)(c k:Nat)(xs:List Sv):Prop where
 read:R u p B zs
 turn:TurnI p w u
 hp:p<w.heap.size
 len:xs.length=k
 own:OwnSh w.heap.size u (.slice a k c) xs
 lev: ∀s∈xs,∀l∈s.lv,OwnT w.heap.size u (lvV l) l.ts
 wf: ∀s∈xs,U64 s.line/\ ∀l∈s.lv,∀t∈l.ts,TbW t
 rk:RdK R
theorem RdS.next {R:RdR}{p B c k:Nat}{w u u':World}{zs zs':List Int}{a:Option Addr}{xs:List Sv}(h:RdS R p B w u zs a c k xs)(ht:TurnI p u u')(hr:R u' p B zs'):RdS R p B w u' zs' a c k xs:=
 ⟨hr,h.turn.trans ht,h.hp,h.len,zqf h.own ht h.hp,fun s hs l hl=>zqf (h.lev s hs l hl) ht h.hp,h.wf,h.rk⟩
theorem RdS.push {R:RdR}{p B c k:Nat}{w u:World}{zs:List Int}{a:Option Addr}{xs:List Sv}(h:RdS R p B w u zs a c k xs)(x:Sv)(hx:U64 x.line/\ ∀l∈x.lv,∀t∈l.ts,TbW t)(hl: ∀l∈x.lv,OwnT w.heap.size u (lvV l) l.ts)(hk:k<1000000):
  ∃(a':Option Addr) (c':Nat) (w8:World),(Builtin.append_ #[(30),(30)] (30) #[.slice a k c, .slice (some ⟨u.heap.size,0,none⟩) 1 1]).run Tryz.prog (u.alloc (.cells #[.int .u64 x.line,lvV x.l0,lvV x.l1,lvV x.l2] (57)))= .ok (.slice a' (k+1) c') w8/\RdS R p B w w8 zs a' c' (k+1) (xs++ [x]):=by
 obtain⟨U,hU⟩: ∃U:World,U=u.alloc (.cells #[.int .u64 x.line,lvV x.l0,lvV x.l1,lvV x.l2] (57)):=⟨_,rfl⟩
 have hb:Below u.heap.size u U:=by rw [hU];exact zb.alloc zr _
 have hA:RdS R p B w U zs a c k xs:=h.next (TurnI.of_below hb) (h.rk.ext h.read hb)
 obtain⟨v',w8,hr,hO,hgr⟩:=zql (30) (57) _ zqe zy8 Tryz.underlying30 ykr rfl (by decide) U w.heap.size (.slice a k c) xs u.heap.size x #[.int .u64 x.line,lvV x.l0,lvV x.l1,lvV x.l2] hA.own (by rw [hU];exact zq3 rfl _) rfl (by decide) (by rw [h.len];exact hk) hA.turn.size (30)
 rw [<-hU]
 obtain⟨a',c',hv', -, -, -, -⟩:=Vx.zqv hO
 have hl2:(xs++ [x]).length=k+1:=by rw [List.length_append,h.len];rfl
 rw [hl2] at hv'
 subst hv'
 have hrow: ∀b,(Value.slice a k c).ownBlock=some b->w.heap.size<=b:=fun b hb=>yjn hA.own hb
 have hlow:=h.rk.low h.read
 have hp:=h.hp
 refine⟨a',c',w8,hr,⟨h.rk.kept hA.read (fun b o hb hlt=>(hgr.block b (zq2 hb) (fun e=>by have:=hrow b e.symm;omega)).trans hb),yq7 hA.turn hgr hrow,h.hp,hl2,hO,fun s hs l hl'=> ?_,fun s hs=> ?_,h.rk⟩⟩
 ·rcases List.mem_append.1 hs with h1|h1
  ·exact zx6 (hA.lev s h1 l hl') hA.own hgr (by decide)
  ·rw [List.mem_singleton.1 h1] at hl'
   exact zx6 (zqf (hl l hl') (TurnI.of_below hb) h.hp) hA.own hgr (by decide)
 ·rcases List.mem_append.1 hs with h1|h1
  ·exact h.wf s h1
  ·rw [List.mem_singleton.1 h1];exact hx
structure LvS (R:RdR)(p B:Nat)(w5 u:World)(zs:List Int)(bb:Nat)(s:Sv)(i:Nat):Prop where
 rs:RS R p B w5 u zs bb (shc s).toArray (57)
 own: ∀l∈s.lv,OwnT w5.heap.size u (lvV l) l.ts
 wf: ∀l∈s.lv,∀t∈l.ts,TbW t
 rest: ∀j,i<=j->j<3->s.lv[j]? =some ⟨none,0, []⟩
theorem LvS.next {R:RdR}{p B bb i:Nat}{w5 u u':World}{zs zs':List Int}{s:Sv}(h:LvS R p B w5 u zs bb s i)(ht:TurnI p u u')(hr:R u' p B zs'):LvS R p B w5 u' zs' bb s i:=
 ⟨h.rs.next ht hr,fun l hl=>zqf (h.own l hl) ht h.rs.hp,h.wf,h.rest⟩
theorem Sv.set_same (s:Sv)(i:Nat)(hi:i<3)(l:Lv)(h:s.lv[i]? =some l):s.set i l=s:=by
 match i,hi,h with
 |0,_,h=>cases h;rfl
 |1,_,h=>cases h;rfl
 |2,_,h=>cases h;rfl
theorem LvS.level {R:RdR}{p B bb i k c:Nat}{w5 w6 u:World}{zs zs6:List Int}{s:Sv}{a:Option Addr}{ts:List Tb}(h6:LvS R p B w5 w6 zs6 bb s i)(hi:i<3)(h:RS R p B w5 u zs bb (shc (s.set i ⟨a,c,ts⟩)).toArray (57))(ho:OwnT w6.heap.size u (.slice a k c) ts)(hl:ts.length=k)(ht:T2 p bb w6 u)(hw: ∀t∈ts,TbW t):LvS R p B w5 u zs bb (s.set i ⟨a,c,ts⟩) (i+1):=by
 have hm: ∀l∈(s.set i ⟨a,c,ts⟩).lv,l=⟨a,c,ts⟩\/l∈s.lv:=fun l hl=>by
  rw [Sv.set_lv s i hi] at hl
  exact(List.mem_or_eq_of_mem_set hl).symm
 refine⟨h,fun l hl'=> ?_,fun l hl'=> ?_,fun j h1 h2=> ?_⟩
 ·rcases hm l hl' with rfl|h1
  ·show OwnT w5.heap.size u (.slice a ts.length c) ts
   rw [hl]
   exact zq9 ho h6.rs.turn.size
  ·exact own_t2 (h6.own l h1) ht h6.rs.hp h6.rs.box (by decide)
 ·rcases hm l hl' with rfl|h1
  ·exact hw
  ·exact h6.wf l h1
 ·rw [Sv.set_other s i j hi _ (by omega)]
  exact h6.rest j (by omega) h2
theorem yyd (s:Sv)(i:Nat)(hi:i<3)(l:Lv):(((s.set i l).lv.take (i+1)).map (·.ts))=((s.lv.take i).map (·.ts))++ [l.ts] :=by
 match i,hi with
 |0,_=>rfl
 |1,_=>rfl
 |2,_=>rfl
def yqf (M:Nat)(x:List Sd)(v:Value)(w':World):Prop:= ∃(a:Option Addr) (c:Nat) (xs:List Sv),v= .slice a xs.length c/\OwnSh M w' (.slice a xs.length c) xs/\(∀s∈xs,∀l∈s.lv,OwnT M w' (lvV l) l.ts)/\(∀s∈xs,U64 s.line/\ ∀l∈s.lv,∀t∈l.ts,TbW t)/\xs.map Sv.says=x
theorem RdS.in_ {R:RdR}{p B c k:Nat}{w u:World}{zs:List Int}{a:Option Addr}{xs:List Sv}(h:RdS R p B w u zs a c k xs):yqf w.heap.size (xs.map Sv.says) (.slice a k c) u:=by
 have hl:=h.len
 subst hl
 exact⟨a,c,xs,rfl,h.own,h.lev,h.wf,rfl⟩
end Go.Proofs.YtchcelodeepjdaaGreatDoor.Ln

namespace Go.Proofs.YtchcelodeepjdaaGreatDoor.Ln
open Go.RowKit Go.Shelf Go.Herb

set_option maxRecDepth 100000 in
set_option maxHeartbeats 4000000 in
theorem zjs (p B:Nat)(ys:List Int)(w:World)(h:zqa w p B ys)(hyl:ys.length<1000000):
  Calls Tryz.prog (63) #[.pointer (some ⟨p,0,none⟩)] w (zyl p B w (shP ys) (yqf w.heap.size)):=by
 have HM:=zh (zjd p B ys w h)
 have HYL:=zh hyl
 have hMp:=h.lt
 clear h hyl
 go_enter Tryz.func63,Tryz.ntmps63
 go_wp2_with fail
 refine HM.out.mono ?_
 rintro e w1 ⟨hT,⟨hg,rfl⟩|⟨n,z1,v,hg,rfl,⟨rfl,hf⟩,hR⟩⟩
 ·have HF:=zh (show shP ys=none from zxr sdP hg)
  have HT:=zh hT
  clear hg hT
  go_wp2_with fail
  exact⟨rfl,HT.out, .inl ⟨HF.out,rfl⟩⟩
 have HG1:=zh (show shP ys=repP sdP n z1 from zxq sdP hg)
 have HS1:=zh (show RdS zqa p B w w1 z1 none 0 0 [] from⟨hR,hT,hMp,rfl,World.ownsRow_nil _ _ _ _,(fun s hs=>by cases hs),(fun s hs=>by cases hs),readK⟩)
 have HZ1:=zh (show z1.length<1000000/\n<1000000 from by
  have h1:=zzp hg
  have:=HYL.out
  omega)
 clear hT hg hf hR HM
 have hn1:n<1000000:=HZ1.out.2
 go_upto_region 2 with fail
 go_loopg [7,2] n (fun gk iv v2 wr=> ∃(k c:Nat) (xs:List Sv) (zs:List Int) (a:Option Addr),k+gk=n/\iv= .int .i64 k/\v2= .slice a k c/\Hid (StepP sdP n k z1 (xs.map Sv.says) zs)/\Hid (RdS zqa p B w wr zs a c k xs)/\Hid (zs.length<1000000))
 case atStart=>exact⟨0,0, [],z1,none,by omega,rfl,rfl,zh (StepP.zero _ _ _),HS1,zh HZ1.out.1⟩
 case round=>
  obtain⟨k,c,xs,zs,a,hk,rfl,rfl,HST,HS,HZS⟩:=hrel
  by_cases hlt:k<n
  ·have HTX:=zh (zxo p B zs wr HS.out.read)
   have i1:(k:Int)<(n:Int):=by omega
   have hw1:IntKind.i64.wrap ((k:Int)+1)=(k:Int)+1:=IntWalk.i64_in _ (by omega)
   go_wp2_with fail
   refine HTX.out.mono ?_
   rintro e w5 ⟨hT,⟨hg,rfl⟩|⟨a1,y1,v,hg,rfl,⟨rfl,hf⟩,hR⟩⟩
   ·have HF:=zh (show shP ys=none from by rw [HG1.out,HST.out.fail hlt (by unfold sdP;rw [hg])])
    have HT:=zh (HS.out.turn.trans hT)
    clear hg hT
    go_wp2_with fail
    exact⟨rfl,HT.out, .inl ⟨HF.out,rfl⟩⟩
   have HS6:=zh (HS.out.next hT hR)
   have HGA:=zh hg
   have HUA:=zh (zx7 hf)
   have HY1:=zh (show y1.length<1000000 from by have h1:=zqc hg;have:=HZS.out;omega)
   obtain⟨A,hA⟩: ∃A:World,A=w5.alloc (.cells #[.int .u64 (a1:Int), .slice none 0 0, .slice none 0 0, .slice none 0 0] (57)):=⟨_,rfl⟩
   have HL0:=zh (show LvS zqa p B w5 A y1 w5.heap.size ⟨(a1:Int),⟨none,0, []⟩,⟨none,0, []⟩,⟨none,0, []⟩⟩ 0 from⟨⟨by rw [hA];exact hR.ext (zb.alloc zr _),by rw [hA];exact zq3 rfl _,by rw [hA];exact TurnI.of_below (zb.alloc zr _),hR.lt,zr,readK⟩,(fun l hl=>by
    simp only [Sv.lv,List.mem_cons,List.not_mem_nil,or_false] at hl
    rcases hl with rfl|rfl|rfl<;>exact World.ownsRow_nil _ _ _ _),(fun l hl t ht=>by
    simp only [Sv.lv,List.mem_cons,List.not_mem_nil,or_false] at hl
    rcases hl with rfl|rfl|rfl<;>cases ht),fun j h1 h2=>by
    match j,h2 with
    |0,_=>rfl
    |1,_=>rfl
    |2,_=>rfl⟩)
   have HA:=zh hA
   clear hT hg hf hR HTX
   obtain⟨g9,hg9⟩: ∃g9,g9=gk:=⟨_,rfl⟩
   rw [<-hg9] at hk
   have HG9:=zh hg9
   clear hg9
   go_upto_region 5 with fail
   rw [<-hA]
   clear hA
   go_loopg [12] 3 (fun gk iv wr=> ∃(i:Nat) (s:Sv) (zs':List Int),i+gk=3/\iv= .int .i64 i/\Hid (StepP levP 3 i y1 ((s.lv.take i).map (·.ts)) zs')/\Hid (LvS zqa p B w5 wr zs' w5.heap.size s i)/\Hid (s.line=(a1:Int))/\Hid (zs'.length<1000000))
   case atStart=>exact⟨0,_,y1,rfl,rfl,zh (StepP.zero _ _ _),HL0,zh rfl,HY1⟩
   case round=>
    obtain⟨i,s,zs',hi,rfl,HSL,HL,HLI,HZL⟩:=hrel
    by_cases hlti:i<3
    ·have HMI:=zh (zjd p B zs' wr HL.out.rs.read)
     have j1:(i:Int)<3:=by omega
     have j0:(0:Int)<=(i:Int):=by omega
     have hw2:IntKind.i64.wrap ((i:Int)+1)=(i:Int)+1:=IntWalk.i64_in _ (by omega)
     go_wp2_with fail
     refine HMI.out.mono ?_
     rintro e w6 ⟨hT,⟨hg,rfl⟩|⟨m,y2,v,hg,rfl,⟨rfl,hf⟩,hR⟩⟩
     ·have HF:=zh (show shP ys=none from by rw [HG1.out,HST.out.fail hlt (by unfold sdP;rw [HGA.out];simp only;rw [HSL.out.fail hlti (zxr tbP hg)])])
      have HT:=zh ((HS6.out.next HL.out.rs.turn HL.out.rs.read).turn.trans hT)
      clear hg hT
      go_wp2_with fail
      exact⟨rfl,HT.out, .inl ⟨HF.out,rfl⟩⟩
     have HL6:=zh (HL.out.next hT hR)
     have HGM:=zh (zxq tbP hg)
     have HZ7:=zh (show y2.length<1000000/\m<1000000 from by
      have h1:=zzp hg
      have:=HZL.out
      omega)
     clear hT hg hf hR HMI
     have hm1:m<1000000:=HZ7.out.2
     obtain⟨g8,hg8⟩: ∃g8,g8=gk:=⟨_,rfl⟩
     rw [<-hg8] at hi
     have HG8:=zh hg8
     clear hg8
     have HI3:=zh hlti
     go_upto_region 8 with fail
     go_loopg [17] m (fun gk iv wr=> ∃(k c:Nat) (ts:List Tb) (zs'':List Int) (a:Option Addr),k+gk=m/\iv= .int .i64 k/\Hid (StepP tbP m k y2 ts zs'')/\Hid (ts.length=k)/\Hid (RS zqa p B w5 wr zs'' w5.heap.size (shc (s.set i ⟨a,c,ts⟩)).toArray (57))/\Hid (OwnT w6.heap.size wr (.slice a k c) ts)/\Hid (T2 p w5.heap.size w6 wr)/\Hid (∀t∈ts,TbW t)/\Hid (zs''.length<1000000))
     case atStart=>exact⟨0,0, [],y2,none,by omega,rfl,zh (StepP.zero _ _ _),zh rfl,zh (by rw [Sv.set_same s i HI3.out _ (HL6.out.rest i zr HI3.out)];exact HL6.out.rs),zh (World.ownsRow_nil _ _ _ _),zh (T2.refl _ _ _),zh (fun t ht=>by cases ht),zh HZ7.out.1⟩
     case round=>
      obtain⟨t,ct,ts,zt,at_,ht,rfl,HSP,HTL,HI,HOT,HT2,HTW,HZT⟩:=hrel
      by_cases hltt:t<m
      ·have l1:(t:Int)<(m:Int):=by omega
       have hw3:IntKind.i64.wrap ((t:Int)+1)=(t:Int)+1:=IntWalk.i64_in _ (by omega)
       have HId:=zh (HI.out.next (TurnI.of_below ((Below.refl wr.heap.size wr).drew)) (HI.out.read.ext ((Below.refl wr.heap.size wr).drew)))
       have HOTd:=zh (show OwnT w6.heap.size wr.drew (.slice at_ t ct) ts from zqx HOT.out (fun _ _ hh _=>hh))
       have HT2d:=zh (HT2.out.trans (T2.of_turn (p:=p) (q:=w5.heap.size) (TurnI.of_below ((Below.refl wr.heap.size wr).drew))))
       have c4:=zq0 HI.out.box (1+i)
       rw [zv6 _ i _ (Sv.set_get s i HI3.out _)] at c4
       have c4':wr.cell? ⟨w5.heap.size,1+i,none⟩=some (.slice at_ t ct):=by rw [c4];show some (Value.slice at_ ts.length ct)=_;rw [HTL.out]
       clear c4
       go_upto_region 9 with fail
       rcases yk4 p B zt wr.drew HId.out.read with⟨hg,hc⟩|⟨x,y4,hg,hc⟩
       ·have HF:=zh (show shP ys=none from by rw [HG1.out,HST.out.fail hlt (by unfold sdP;rw [HGA.out];simp only;rw [HSL.out.fail HI3.out (by unfold levP;rw [HGM.out,HSP.out.fail hltt hg])])])
        have HC:=zh hc
        have HT:=zh ((HS6.out.next HId.out.turn HId.out.read).turn)
        clear hg hc
        refine wp_region_any (by kernel_rfl) ?_
        change wpAny _ _ _ _ _ _ _ (World.drew _)
        refine wpAny_take (i:=0) (v:= .int .i64 (i:Int)) rfl (by kernel_rfl) (by kernel_rfl) (by kernel_rfl) (fun _ _ _ h=>h) (Or.inl ⟨by rfl,(by intro w;go_simp)⟩) ?_
        refine wpAny_take (i:=1) (v:= .int .i64 (i:Int)) rfl (by kernel_rfl) (by kernel_rfl) (by kernel_rfl) (fun _ _ _ h=>h) (Or.inl ⟨by rfl,(by intro w;go_simp)⟩) ?_
        refine wpAny_take (i:=2) (v:= .pointer (some ⟨w5.heap.size,1,none⟩)) rfl (by kernel_rfl) (by kernel_rfl) (by kernel_rfl) (fun _ _ _ h=>h) (Or.inl ⟨by rfl,(by intro w;go_simp)⟩) ?_
        refine wpAny_take (i:=3) (v:= .pointer (some ⟨w5.heap.size,1+i,none⟩)) rfl (by kernel_rfl) (by kernel_rfl) (by kernel_rfl) (fun _ _ _ h=>h) (Or.inl ⟨by rfl,(by intro w;go_simp)⟩) ?_
        refine wpAny_take (i:=5) (v:= .pointer (some ⟨p,0,none⟩)) rfl (by kernel_rfl) (by kernel_rfl) (by kernel_rfl) (fun _ _ _ h=>h) (Or.inl ⟨by rfl,(by intro w;go_simp)⟩) ?_
        refine wpAny_take (i:=9) (v:= .pointer (some ⟨w5.heap.size,1,none⟩)) rfl (by kernel_rfl) (by kernel_rfl) (by kernel_rfl) (fun _ _ _ h=>h) (Or.inl ⟨by rfl,(by intro w;go_simp)⟩) ?_
        refine wpAny_ready (rs:= [4,6]) (by kernel_rfl) (by simp) ?_
        refine AllReady.cons rfl (fun K hK=> ?_) ?_
        ·go_simp
         refine hK _ _ ?_
         clear hK K
         refine wpAny_ready (rs:= [6]) (by kernel_rfl) (by simp) ?_
         refine AllReady.cons rfl (fun K hK=> ?_) AllReady.nil
         go_simp
         go_at_call 95
         refine HC.out.mono ?_
         rintro e u ⟨rfl,hT⟩
         exact⟨rfl,HT.out.trans hT, .inl ⟨HF.out,rfl⟩⟩
        ·refine AllReady.cons rfl (fun K hK=> ?_) AllReady.nil
         go_simp
         go_at_call 95
         refine HC.out.mono ?_
         rintro e u ⟨rfl,hT⟩
         exact⟨rfl,HT.out.trans hT, .inl ⟨HF.out,rfl⟩⟩
       ·have HSP2:=zh (show StepP tbP m (t+1) y2 (ts++ [x]) y4 from HSP.out.step hltt hg)
        have HZ8:=zh (show y4.length<1000000 from by
         have h1:=xqb hg
         have:=HZT.out
         omega)
        have HC:=zh hc
        have htm:t<1000000:=by omega
        clear hg hc
        go_region_law (first
         |(go_simp;go_at_call 95;refine HC.out.mono ?_;rintro e u6 ⟨rfl,hx6,hT6,hR6⟩;have HI7:=zh (HId.out.next hT6 hR6);have HX6:=zh hx6;have c5:=zq0 HI7.out.box (1+i);rw [zv6 _ i _ (Sv.set_get s i HI3.out _)] at c5;have c5':u6.cell? ⟨w5.heap.size,1+i,none⟩=some (.slice at_ t ct):=by{rw [c5];show some (Value.slice at_ ts.length ct)=_;rw [HTL.out]};have hlt6:w5.heap.size<u6.heap.size:=zq2 HI7.out.box;obtain⟨a',c',w8,hr,d4,e4,hS9,hO9,hL9,hT9⟩:=yzj HI7.out HI3.out (zqf HOTd.out hT6 (Nat.lt_of_lt_of_le HL6.out.rs.hp HL6.out.rs.turn.size)) HTL.out x htm HL6.out.rs.turn.size (HT2d.out.trans (T2.of_turn hT6));have HS9:=zh hS9;have HO9:=zh hO9;have HL9:=zh hL9;have HT9:=zh hT9;clear hS9 hO9 hL9 hT9 hT6 hR6 hx6 c5)
         |(refine Vx.zqj rfl (.tmp 23) (.tmp 26) (54) (54) rfl (.slice at_ t ct) (.slice (some ⟨u6.heap.size,0,none⟩) 1 1) (by simp [Act.eval]) (by simp [Act.eval]) _ _ hr ?_))
        all_goals
         go_wp2_with fail
         go_roundg(gk - 1)
         case measure=>omega
         case rel=>exact⟨t+1,c',ts++ [x],y4,a',by omega,by go_num,HSP2,HL9,HS9,HO9,HT9,zh (fun y hy=>by
          rcases List.mem_append.1 hy with h1|h1
          ·exact HTW.out y h1
          ·rw [List.mem_singleton.1 h1];exact HX6.out),HZ8⟩
      ·have l1: ¬(t:Int)<(m:Int):=by omega
       obtain rfl:m=t:=by omega
       have HL8:=zh (HL6.out.level HI3.out HI.out HOT.out HTL.out HT2.out HTW.out)
       have HSL2:=zh (show StepP levP 3 (i+1) y1 (((s.set i ⟨at_,ct,ts⟩).lv.take (i+1)).map (·.ts)) zt from by
        rw [yyd s i HI3.out]
        exact HSL.out.step HI3.out (by unfold levP;rw [HGM.out,HSP.out.done]))
       have HLI2:=zh (show(s.set i ⟨at_,ct,ts⟩).line=(a1:Int)from by rw [Sv.set_line];exact HLI.out)
       clear ht hltt hlti
       go_wp2_with fail
       go_roundg(g8 - 1)
       case measure=>have:=HG8.out;omega
       case rel=>exact⟨i+1,s.set i ⟨at_,ct,ts⟩,zt,by omega,by go_num,HSL2,HL8,HLI2,HZT⟩
    ·have j1: ¬(i:Int)<3:=by omega
     obtain rfl:3=i:=by omega
     have HS8:=zh (HS6.out.next HL.out.rs.turn HL.out.rs.read)
     have HST2:=zh (show StepP sdP n (k+1) z1 ((xs++ [s]).map Sv.says) zs' from by
      have h1:=HST.out.step (x:=s.says) hlt (by
       have h2:=HSL.out.done
       unfold sdP
       rw [HGA.out]
       simp only
       rw [h2]
       simp only
       rw [<-HLI.out]
       rfl)
      rw [List.map_append]
      exact h1)
     have c0:=zq0 HL.out.rs.box 0
     have c1:=zq0 HL.out.rs.box 1
     have c2:=zq0 HL.out.rs.box 2
     have c3:=zq0 HL.out.rs.box 3
     simp [shc] at c0 c1 c2 c3
     obtain⟨a',c',w8,hr,hS9⟩:=HS8.out.push s ⟨by rw [HLI.out];exact HUA.out,HL.out.wf⟩ (fun l hl=>zq9 (HL.out.own l hl) HS6.out.turn.size) (by omega)
     have HS9:=zh hS9
     clear hS9 hi
     go_wp2_with(at_builtin;refine zqm _ (by rfl) _ _ _ _ rfl _ _ rfl rfl _ _ hr ?_;clear hr)
     go_roundg(g9 - 1)
     case measure=>have:=HG9.out;omega
     case rel=>exact⟨k+1,c',xs++ [s],zs',a',by omega,by go_num,rfl,HST2,HS9,HZL⟩
  ·have i1: ¬(k:Int)<(n:Int):=by omega
   obtain rfl:n=k:=by omega
   have HF:=zh (show shP ys=some (xs.map Sv.says,zs)from by rw [HG1.out,HST.out.done])
   have HV:=zh HS.out.in_
   clear HST HG1 hk hlt
   go_wp2_with fail
   go_ret
   exact⟨HS.out.turn, .inr ⟨_,zs,_,HF.out,rfl,HV.out,HS.out.read⟩⟩
end Go.Proofs.YtchcelodeepjdaaGreatDoor.Ln

namespace Go.Herb
open Go

theorem yyv {α:Type}{p:Ps α}{μ:α->Nat}(h: ∀l x r,p l=some (x,r)->μ x+r.length<=l.length): ∀(n:Nat) (l:List Int) (xs:List α) (r:List Int),repP p n l=some (xs,r)->(xs.map μ).sum+r.length<=l.length
 |0,l,xs,r,e=>by cases e;simp
 |n+1,l,xs,r,e=>by
  rw [zja] at e
  cases h1:p l with
  |none=>rw [h1] at e;cases e
  |some q=>
   obtain⟨x,r1⟩:=q
   rw [h1] at e
   simp only at e
   cases h2:repP p n r1 with
   |none=>rw [h2] at e;cases e
   |some q2=>
    obtain⟨ys,r2⟩:=q2
    rw [h2] at e
    cases e
    have e1:=h _ _ _ h1
    have e2:=yyv h n r1 ys r h2
    simp only [List.map_cons,List.sum_cons]
    omega
theorem zwc {α:Type}{p:Ps α}{μ:α->Nat}(h: ∀l x r,p l=some (x,r)->μ x+r.length<=l.length)(l:List Int)(xs:List α)(r:List Int)(e:manyP p l=some (xs,r)):(xs.map μ).sum+r.length+1<=l.length:=by
 unfold manyP at e
 cases h1:getN l with
 |none=>rw [h1] at e;cases e
 |some q=>
  obtain⟨n,r1⟩:=q
  rw [h1] at e
  simp only at e
  split at e
  ·have e1:=zqc h1
   have e2:=yyv h n r1 xs r e
   omega
  ·cases e
theorem zxm {α:Type}(l:List α):(l.map (fun _=>1)).sum=l.length:=by
 induction l with
 |nil=>rfl
 |cons a l ih=>simp only [List.map_cons,List.sum_cons,List.length_cons];omega
theorem brP_w (l:List Int)(x:Br)(r:List Int)(h:brP l=some (x,r)):1+r.length<=l.length:=by
 unfold brP at h
 cases h1:getT l with
 |none=>rw [h1] at h;cases h
 |some q=>
  obtain⟨s,l1⟩:=q
  rw [h1] at h
  simp only at h
  cases h2:getN l1 with
  |none=>rw [h2] at h;cases h
  |some q=>
   obtain⟨a,l2⟩:=q
   rw [h2] at h
   simp only at h
   cases h3:getN l2 with
   |none=>rw [h3] at h;cases h
   |some q=>
    obtain⟨b,l3⟩:=q
    rw [h3] at h
    cases h
    have e1:=zv1 h1
    have e2:=zqc h2
    have e3:=zqc h3
    omega
theorem lnP_w (l:List Int)(x:Ln)(r:List Int)(h:lnP l=some (x,r)):1+r.length<=l.length:=by
 unfold lnP at h
 cases h1:getN l with
 |none=>rw [h1] at h;cases h
 |some q=>
  obtain⟨s,l1⟩:=q
  rw [h1] at h
  simp only at h
  cases h2:getN l1 with
  |none=>rw [h2] at h;cases h
  |some q=>
   obtain⟨a,l2⟩:=q
   rw [h2] at h
   cases h
   have e1:=zqc h1
   have e2:=zqc h2
   omega
theorem vcP_w (l:List Int)(x:Int × Bh)(r:List Int)(h:vcP l=some (x,r)):(1+x.2.length)+r.length<=l.length:=by
 unfold vcP at h
 cases h1:getN l with
 |none=>rw [h1] at h;cases h
 |some q=>
  obtain⟨s,l1⟩:=q
  rw [h1] at h
  simp only at h
  cases h2:manyP ptP l1 with
  |none=>rw [h2] at h;cases h
  |some q=>
   obtain⟨ps,l2⟩:=q
   rw [h2] at h
   cases h
   have e1:=zqc h1
   have e2:=zwc (μ:=fun _=>1) lnP_w l1 ps r h2
   rw [zxm] at e2
   show 1+ps.length+r.length<=l.length
   omega
theorem levP_w (l:List Int)(ts:List Tb)(r:List Int)(h:levP l=some (ts,r)):ts.length+r.length<=l.length:=by
 have e2:=zwc (μ:=fun _=>1) (fun l x r h=>by have:=xqb h;omega) l ts r h
 rw [zxm] at e2
 omega
theorem sdP_w (l:List Int)(x:Sd)(r:List Int)(h:sdP l=some (x,r)):(1+(x.lv.map List.length).sum)+r.length<=l.length:=by
 unfold sdP at h
 cases h1:getN l with
 |none=>rw [h1] at h;cases h
 |some q=>
  obtain⟨s,l1⟩:=q
  rw [h1] at h
  simp only at h
  cases h2:repP levP 3 l1 with
  |none=>rw [h2] at h;cases h
  |some q=>
   obtain⟨lv,l2⟩:=q
   rw [h2] at h
   cases h
   have e1:=zqc h1
   have e2:=yyv (μ:=List.length) levP_w 3 l1 lv r h2
   show 1+(lv.map List.length).sum+r.length<=l.length
   omega
theorem shP_w (l:List Int)(xs:List Sd)(r:List Int)(h:shP l=some (xs,r)):(xs.map (fun x=>1+(x.lv.map List.length).sum)).sum+r.length<=l.length:=by
 have:=zwc sdP_w l xs r h
 omega
theorem rtP_w (l:List Int)(x:Rt)(r:List Int)(h:rtP l=some (x,r)):x.bs.length+x.ls.length+(x.vs.map (fun v=>1+v.2.length)).sum+r.length<=l.length:=by
 unfold rtP at h
 cases h1:getN l with
 |none=>rw [h1] at h;cases h
 |some q=>
  obtain⟨a1,l1⟩:=q
  rw [h1] at h
  simp only at h
  cases h2:getN l1 with
  |none=>rw [h2] at h;cases h
  |some q=>
   obtain⟨a2,l2⟩:=q
   rw [h2] at h
   simp only at h
   cases h3:getN l2 with
   |none=>rw [h3] at h;cases h
   |some q=>
    obtain⟨a3,l3⟩:=q
    rw [h3] at h
    simp only at h
    cases h4:manyP brP l3 with
    |none=>rw [h4] at h;cases h
    |some q=>
     obtain⟨bs,l4⟩:=q
     rw [h4] at h
     simp only at h
     cases h5:manyP lnP l4 with
     |none=>rw [h5] at h;cases h
     |some q=>
      obtain⟨ls,l5⟩:=q
      rw [h5] at h
      simp only at h
      cases h6:manyP vcP l5 with
      |none=>rw [h6] at h;cases h
      |some q=>
       obtain⟨vs,l6⟩:=q
       rw [h6] at h
       cases h
       have e1:=zqc h1
       have e2:=zqc h2
       have e3:=zqc h3
       have e4:=zwc (μ:=fun _=>1) brP_w l3 bs l4 h4
       have e5:=zwc (μ:=fun _=>1) lnP_w l4 ls l5 h5
       have e6:=zwc vcP_w l5 vs r h6
       rw [zxm] at e4 e5
       show bs.length+ls.length+(vs.map (fun v=>1+v.2.length)).sum+r.length<=l.length
       omega
theorem yqp {α β:Type}(f:α->List β)(l:List α):(l.flatMap f).length=(l.map (fun x=>(f x).length)).sum:=by
 induction l with
 |nil=>rfl
 |cons a l ih=>simp only [List.flatMap_cons,List.length_append,List.map_cons,List.sum_cons,ih]
theorem zjl {α:Type}{f g:α->Nat}(l:List α)(h: ∀x∈l,f x<=g x):(l.map f).sum<=(l.map g).sum:=by
 induction l with
 |nil=>exact zr
 |cons a l ih=>
  have h1:=h a List.mem_cons_self
  have h2:=ih (fun x hx=>h x (List.mem_cons_of_mem _ hx))
  simp only [List.map_cons,List.sum_cons]
  omega
theorem zke {α:Type}{f:α->Nat}{l:List α}{x:α}(h:x∈l):f x<=(l.map f).sum:=by
 induction l with
 |nil=>cases h
 |cons a l ih=>
  simp only [List.map_cons,List.sum_cons]
  rcases List.mem_cons.1 h with rfl|h
  ·omega
  ·have:=ih h;omega
theorem yys (n:Nat): ∀y∈putN n,0<=y/\y<256:=by
 intro y hy
 unfold putN at hy
 obtain⟨x,hx,rfl⟩:=List.mem_map.1 hy
 have:=yko n x hx
 unfold laidG
 split<;>omega
theorem strL_u8 (s:ByteArray): ∀y∈strL s,0<=y/\y<256:=by
 intro y hy
 unfold strL at hy
 obtain⟨b,hb,rfl⟩:=List.mem_map.1 hy
 have:=b.toNat_lt
 omega
theorem zxf (l:List Int): ∀y∈numsL l,0<=y/\y<256:=by
 intro y hy
 unfold numsL at hy
 obtain⟨x,hx,hy⟩:=List.mem_flatMap.1 hy
 exact yys _ y hy
theorem yjr (s:ByteArray): ∀y∈putT s,0<=y/\y<256:=by
 intro y hy
 unfold putT at hy
 rcases List.mem_append.1 hy with h|h
 ·exact yys _ y h
 ·exact strL_u8 s y h
theorem zza {a b:List Int}(ha: ∀y∈a,0<=y/\y<256)(hb: ∀y∈b,0<=y/\y<256): ∀y∈a++b,0<=y/\y<256:=fun y hy=>(List.mem_append.1 hy).elim (ha y) (hb y)
theorem zkb {α:Type}{f:α->List Int}(h: ∀x,∀y∈f x,0<=y/\y<256)(l:List α): ∀y∈l.flatMap f,0<=y/\y<256:=fun y hy=>by
 obtain⟨x,_,hy⟩:=List.mem_flatMap.1 hy
 exact h x y hy
theorem ykq (r:Rt): ∀y∈headL r,0<=y/\y<256:=by
 unfold headL
 refine zza (zza (zza (zza (zza (zxf _) (zkb (fun x=> ?_) _)) (zxf _)) (zkb (fun x=>zxf _) _)) (zxf _)) (zkb (fun x=> ?_) _)
 ·exact zza (yjr _) (zxf _)
 ·exact zza (zxf _) (zkb (fun x=>zxf _) _)
theorem shL_u8 (l:List Sd): ∀y∈shL l,0<=y/\y<256:=by
 unfold shL
 refine zza (zxf _) (zkb (fun x=> ?_) _)
 exact zza (zxf _) (zkb (fun x=>zza (zxf _) (zkb (fun t=>zza (zza (zxf _) (yjr _)) (yjr _)) _)) _)
theorem zyc (r:Rt): ∀y∈zqt r,0<=y/\y<256:=by
 intro y hy
 unfold zqt at hy
 rcases List.mem_cons.1 hy with rfl|h
 ·omega
 ·exact zza (ykq r) (shL_u8 r.sh) y h
theorem yzo {a b:List Int}(ha: ∀y∈a,0<=y/\y<256)(hb: ∀y∈b,0<=y/\y<256)(h:strOf a=strOf b):a=b:=by
 have e: ∀l:List Int,(∀y∈l,0<=y/\y<256)->strL (strOf l)=l:=fun l hl=>by
  unfold strOf strL
  simp only [List.map_map]
  have: ∀y∈l,((fun b:UInt8=>(b.toNat:Int))∘ fun c:Int=>UInt8.ofNat c.toNat) y=y:=fun y hy=>by
   have:=hl y hy
   simp only [Function.comp,UInt8.toNat_ofNat']
   omega
  rw [List.map_congr_left this]
  simp
 rw [<-e a ha,<-e b hb,h]
end Go.Herb
