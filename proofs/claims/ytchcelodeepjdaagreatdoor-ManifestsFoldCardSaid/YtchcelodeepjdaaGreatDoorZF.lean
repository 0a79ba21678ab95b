/- Lemmas and walks towards ManifestsFold. Conditions: each one tells its own. -/
import Derived.Test.YtchcelodeepjdaaGreatDoorU2b
import Derived.Test.YtchcelodeepjdaaGreatDoorMp
import Derived.Test.YtchcelodeepjdaaGreatDoorLN9d
import Derived.Test.YtchcelodeepjdaaGreatDoorLT4
import Derived.Test.YtchcelodeepjdaaGreatDoorY7
import Derived.Test.YtchcelodeepjdaaGreatDoorRd
import Derived.Test.YtchcelodeepjdaaGreatDoorProg
import Derived.Test.YtchcelodeepjdaaGreatDoorOG
import Derived.Deep.Cut
import Derived.Deep.CutBlock
import Derived.BigQuiet
import Derived.Lib.AppendZeros
namespace Go.Herb
open Go

def grpN (n:Nat):List (Int × Bool):=if n<128 then [((n:Int),false)] else(((n % 128:Nat):Int),true)::grpN (n / 128)
termination_by n
decreasing_by omega
theorem zxz {n:Nat}(h:n<128):grpN n= [((n:Int),false)] :=by rw [grpN,if_pos h]
theorem zjz {n:Nat}(h: ¬n<128):grpN n=(((n % 128:Nat):Int),true)::grpN (n / 128):=by rw [grpN,if_neg h]
def laidG (x:Int × Bool):Int:=if x.2 then x.1+128 else x.1
def putN (n:Nat):List Int:=(grpN n).map laidG
theorem zk1 {n:Nat}(h:n<128):putN n= [(n:Int)] :=by rw [putN,zxz h];rfl
theorem yky {n:Nat}(h: ¬n<128):putN n=(((n % 128:Nat):Int)+128)::putN (n / 128):=by rw [putN,zjz h];rfl
theorem yko: ∀(n:Nat),∀x∈grpN n,0<=x.1/\x.1<128:=by
 intro n
 induction n using Nat.strongRecOn with
 |ind n ih=>
  intro x hx
  by_cases h:n<128
  ·rw [zxz h,List.mem_singleton] at hx
   subst hx
   constructor<;>(dsimp only;omega)
  ·rw [zjz h] at hx
   rcases List.mem_cons.1 hx with rfl|hx
   ·constructor<;>(dsimp only;omega)
   ·exact ih _ (by omega) x hx
theorem ykn: ∀(k n:Nat),n<128 ^(k+1)->(grpN n).length<=k+1:=by
 intro k
 induction k with
 |zero=>
  intro n hn
  rw [zxz (Nat.lt_of_lt_of_le hn (by decide))]
  simp
 |succ k ih=>
  intro n hn
  by_cases h:n<128
  ·rw [zxz h];simp
  ·rw [zjz h,List.length_cons]
   have:=ih (n / 128) (by rw [Nat.div_lt_iff_lt_mul (by omega)];rw [Nat.pow_succ] at hn;exact hn)
   omega
theorem grpN_pos (n:Nat):0<(grpN n).length:=by
 by_cases h:n<128
 ·rw [zxz h];simp
 ·rw [zjz h];simp
theorem zzz (n:Nat)(h:n<18446744073709551616):(putN n).length<=10:=by
 rw [putN,List.length_map]
 exact ykn 9 n (Nat.lt_of_lt_of_le h (by decide+kernel))
theorem zv3 (n:Nat):0<(putN n).length:=by rw [putN,List.length_map];exact grpN_pos n
def strL (s:ByteArray):List Int:=s.data.toList.map (fun b=>(b.toNat:Int))
theorem zw1 (s:ByteArray):(strL s).length=s.size:=by unfold strL;rw [List.length_map,Array.length_toList];rfl
def putT (s:ByteArray):List Int:=putN s.size++strL s
def numsL (l:List Int):List Int:=l.flatMap (fun x=>putN x.toNat)
def brL (b:Br):List Int:=putT b.1++numsL [b.2.1,b.2.2]
def lnL (l:Ln):List Int:=numsL [l.1,l.2]
def ptL (p:Int × Int):List Int:=numsL [p.1,p.2]
def vcL (v:Int × Bh):List Int:=numsL [v.1,(v.2.length:Int)] ++v.2.flatMap ptL
def headL (r:Rt):List Int:=numsL [r.seq,r.log,r.next,(r.bs.length:Int)] ++r.bs.flatMap brL++numsL [(r.ls.length:Int)] ++r.ls.flatMap lnL++numsL [(r.vs.length:Int)] ++r.vs.flatMap vcL
def tbL (t:Tb):List Int:=numsL [t.file,t.bytes] ++putT t.low++putT t.high
def levL (l:List Tb):List Int:=numsL [(l.length:Int)] ++l.flatMap tbL
def sdL (s:Sd):List Int:=numsL [s.line] ++s.lv.flatMap levL
def shL (l:List Sd):List Int:=numsL [(l.length:Int)] ++l.flatMap sdL
def zqt (r:Rt):List Int:=1::(headL r++shL r.sh)
end Go.Herb

namespace Go.Proofs.YtchcelodeepjdaaGreatDoor.Ln
open Go.RowKit Go.Shelf Go.Herb

abbrev encG (x:Int × Bool):Array Value:= #[.int .u8 x.1, .bool x.2]
set_option maxRecDepth 100000 in
set_option maxHeartbeats 1000000 in
theorem yy5 (n:Nat)(hn:1<=n){w:World}{b:Nat}{x:Nat}(hx:x<18446744073709551616)(hb:w.heap[b]? =some (.cells #[.int .u64 (x:Int)] (26) (0,0))):
  SeqKp n Tryz.prog (128) #[.pointer (some ⟨b,0,none⟩)] b (fun k=>k=b) encG (grpN x) w:=fun l J W hW hJ hY h0=>by
 refine callsIn_wide.2 ?_
 have hbl:=zq2 hb
 have HW:=zh (zq4 hb hW hbl)
 have HJ:=zh hJ
 have HY:=zh hY
 have H0:=zh h0
 have HSZ:=zh hW.size
 clear hW hJ hY h0 hb
 have hgoal:(#[Value.func (.yield l) #[] #[]] ++ #[.pointer (some ⟨b,0,none⟩)] :Array Value)= #[Value.func (.yield l) #[] #[], .pointer (some ⟨b,0,none⟩)] :=rfl
 rw [hgoal]
 clear hgoal
 go_enter Tryz.func128,Tryz.ntmps128
 go_wp2_with fail
 go_loopg [13] x (fun y _ wr=> ∃(pre:List (Int × Bool)),y<=x/\Hid (grpN x=pre++grpN y)/\Hid (wr.heap[b]? =some (.cells #[.int .u64 (y:Int)] (26) (0,0)))/\Hid (J pre wr)/\Hid (w.heap.size<=wr.heap.size))
 case atStart=>exact⟨[],zr,zh rfl,HW,H0,HSZ⟩
 case round=>
  clear HW H0 HSZ
  obtain⟨y,rfl⟩: ∃y,y=gk:=⟨_,rfl⟩
  obtain⟨pre,hyx,HG,HB,HJP,HSZ⟩:=hrel
  have hcb:=zq0 HB.out 0
  simp at hcb
  have hpre:(pre++ [((y:Int) % 128,decide ((128:Int)<=(y:Int)))])<+:grpN x:=by
   rw [HG.out]
   by_cases h:y<128
   ·rw [zxz h,show decide ((128:Int)<=(y:Int))=false from decide_eq_false (by omega),show(y:Int) % 128=(y:Int)from by omega]
    exact List.prefix_refl _
   ·rw [zjz h,show decide ((128:Int)<=(y:Int))=true from decide_eq_true (by omega),show(y:Int) % 128=((y % 128:Nat):Int)from by omega]
    exact⟨grpN (y / 128),by simp⟩
  have HPRE:=zh hpre
  obtain⟨fn,tmps,assign,body,hy,hR⟩:=HY.out pre ((y:Int) % 128,decide ((128:Int)<=(y:Int))) wr HJP.out hpre
  dsimp only [encG] at hy
  clear hpre
  refine(wpIn_wide (n:=n)).1 ?_
  gi_wp2
  refine hR.mono ?_
  rintro e W3 ⟨rfl,hJ3,hK3⟩
  have hB3:W3.heap[b]? =some (.cells #[.int .u64 (y:Int)] (26) (0,0)):=(hK3.kept b rfl).trans HB.out
  have hc3:=zq0 hB3 0
  have hf3:=zq1 hB3 0
  simp at hc3
  have HB3:=zh hB3
  have HJ3:=zh hJ3
  have HZ3:=zh (Nat.le_trans HSZ.out hK3.size)
  clear hy hR hcb hB3 hJ3 hK3
  by_cases hlt:y<128
  ·have hd:decide ((128:Int)<=(y:Int))=false:=decide_eq_false (by omega)
   have hd2: ¬(128:Int)<=(y:Int):=by omega
   have HE:=zh (show J (grpN x) W3 from by
    have h:=HJ3.out
    rw [hd,show(y:Int) % 128=(y:Int)from by omega] at h
    rw [HG.out,zxz hlt]
    exact h)
   clear hlt
   gi_wp2
   go_end0
   exact⟨⟨_,rfl⟩,HE.out⟩
  ·have hd:decide ((128:Int)<=(y:Int))=true:=decide_eq_true (by omega)
   have hd2:(128:Int)<=(y:Int):=by omega
   have HG2:=zh (show grpN x=(pre++ [((y:Int) % 128,decide ((128:Int)<=(y:Int)))])++grpN (y / 128)from by
    rw [HG.out,zjz hlt,hd,show(y:Int) % 128=((y % 128:Nat):Int)from by omega]
    simp)
   have HB4:=zh (show(W3.setCell ⟨b,0,none⟩ (.int .u64 ((y:Int)/ 128))).heap[b]? =some (.cells #[.int .u64 ((y / 128:Nat):Int)] (26) (0,0))from by
    have h:=zq7 (j:=0) HB3.out (.int .u64 ((y:Int)/ 128))
    rw [show((y / 128:Nat):Int)=(y:Int)/ 128 from by omega]
    exact h)
   have HJ4:=zh (HJ.out _ _ _ HJ3.out (TurnI.setCell (j:=0) (.int .u64 ((y:Int)/ 128))))
   have HZ4:=zh (show w.heap.size<=(W3.setCell ⟨b,0,none⟩ (.int .u64 ((y:Int)/ 128))).heap.size from by rw [World.size_setCell];exact HZ3.out)
   gi_wp2
   go_roundg(y / 128)
   case measure=>omega
   case rel=>exact⟨_,by omega,HG2,HB4,HJ4,HZ4⟩
theorem yww (x:Int)(w:World):Calls Tryz.prog 105 #[.int .u64 x] w fun e w'=>e= .returned (.func (.func 128) #[] #[.pointer (some ⟨w.heap.size,0,none⟩)])/\w'=w.alloc (.cells #[.int .u64 x] (26)):=by
 go_enter Tryz.func105,Tryz.ntmps105
 go_wp2
 go_ret
 exact⟨rfl,rfl⟩
theorem yxm (a:Option Addr)(cap n:Nat)(w:World)(hn:a=none->n=0/\cap=0)(hl:n<1000000000)(hle:n<=cap)(hm:cap<=maxLen):
  Calls Tryz.prog 106 #[.slice a n cap] w fun e w'=>e= .returned (.slice a n n)/\w=w':=by
 cases a with
 |none=>
  obtain⟨rfl,rfl⟩:=hn rfl
  clear hn
  go_enter Tryz.func106,Tryz.ntmps106
  go_wp2
  go_ret
  exact⟨rfl,rfl⟩
 |some ad=>
  clear hn
  unfold maxLen at hm
  go_enter Tryz.func106,Tryz.ntmps106
  go_wp2
  go_ret
  exact⟨rfl,rfl⟩
def nb (x:Int):List Value:= [.int .u8 x]
theorem zqq (x:Int):(nb x).length=1:=rfl
theorem zyt:(Tryz.prog.info? (5)).map (fun i=>(i.zero,i.size,i.bytes))=some (some (.int .u8 0),1,1):=by kernel_rfl
abbrev OwnB (B:Nat)(w:World)(v:Value)(ys:List Int):Prop:=w.ownsRow B (5) 1 v ys.length (ys.flatMap nb)
abbrev Byt (w:World)(a:Option Addr)(xs:List Int):Prop:=Els nb 1 w a xs
theorem zz6 (w:World)(B:Nat)(v:Value)(ys:List Int)(ad:Addr)(n c:Nat)(xs:List Int)(hn:xs.length=n)(ho:OwnB B w v ys)(hb:Byt w (some ad) xs)(hx:ys.length+n<1000000000)(hB:B<=w.heap.size)(ty:TypeId):
  ∃v' w',(Builtin.append_ #[(24),(24)] ty #[v, .slice (some ad) n c]).run Tryz.prog w= .ok v' w'/\OwnB B w' v' (ys++xs)/\w.grownBy w' v.ownBlock:=by
 obtain⟨i0,hin,hz0,hz1,hz2⟩:=info_parts zyt
 obtain⟨v',w',hr,h2,h3,h4⟩:=run_append_own (P:=Tryz.prog) w B (24) ty (5) i0 _ 1 1 Tryz.underlying24 hin hz0 hz1 hz2 rfl (by decide) v ys.length (ys.flatMap nb) ho ad n c (xs.flatMap nb) (by rw [zq8 zqq,hn,Nat.mul_one]) (hb.flat zqq (by decide)) (by intro v hv;obtain⟨x, -,hx⟩:=List.mem_flatMap.1 hv;simp [nb] at hx;subst hx;rfl) (by unfold maxLen;omega) (by omega) hB
 refine⟨v',w',hr,?_,h3⟩
 unfold OwnB
 rw [List.length_append,List.flatMap_append,hn]
 exact h2
theorem zvs (xs:List Int): ∀u∈xs.flatMap nb,u.oneCell'=true:=by
 intro u hu
 obtain⟨x, -,hx⟩:=List.mem_flatMap.1 hu
 simp [nb] at hx
 subst hx
 rfl
set_option maxHeartbeats 400000 in
theorem ywi (a:Option Addr)(cap n:Nat)(xs:List Int)(w:World)(hx:Byt w a xs)(hn:xs.length=n)(hl:n<1000000000)(h0:a=none->cap=0):
  Calls Tryz.prog (104) #[.slice a n cap] w fun e w'=> ∃v,e= .returned v/\OwnB w.heap.size w' v xs/\Below w.heap.size w w':=by
 obtain⟨i0,hi,hz0,hz1,hz2⟩:=info_parts zyt
 have hqn:= @Lib.run_eql_slice_nil Tryz.prog
 have HN:=zh hn
 cases a with
 |none=>
  have h1:xs= [] :=by
   cases xs with
   |nil=>rfl
   |cons x xs=>obtain⟨b,o,h,_⟩:=hx.get 0 (by simp);cases h
  subst h1
  subst hn
  clear hx h0 HN
  go_enter Tryz.func104,Tryz.ntmps104
  go_wp2
  go_ret
  exact⟨_,rfl,World.ownsRow_nil _ _ _ _,zb⟩
 |some ad=>
  have hfl:=Els.flat hx zqq (by decide)
  have HF:=zh hfl
  clear h0 hx hfl hn
  go_enter Tryz.func104,Tryz.ntmps104
  go_wp2_with((at_builtin;refine wpList_append_own _ rfl _ _ (24) rfl w.heap.size (5) i0 _ 1 1 Tryz.underlying24 hi hz0 hz1 hz2 rfl (by decide) _ _ _ rfl (World.ownsRow_made w #[] 0 zr (by decide) rfl) ad n cap (xs.flatMap nb) rfl ((zq8 zqq xs).trans (by rw [HN.out])) ?c1 ?c2 ?c3 ?c4 ?c5 ?_))
  case c1=>exact fun j u hu=>yvr (HF.out j u hu)
  case c2=>exact zvs xs
  case c3=>unfold maxLen;omega
  case c4=>omega
  case c5=>simp
  intro v' w2 hO2 hg _
  have hB2:Below w.heap.size w w2:=(zb.alloc zr _).grown hg (by simp) (fun k hk=>by simp [Value.ownBlock] at hk;omega)
  clear hg HF
  go_wp2
  go_ret
  exact⟨_,rfl,by unfold OwnB;rw [HN.out];simpa using hO2,hB2⟩
end Go.Proofs.YtchcelodeepjdaaGreatDoor.Ln

namespace Go.Proofs.YtchcelodeepjdaaGreatDoor.Ln
open Go.RowKit Go.Shelf Go.Herb
attribute [local go_sem] Oper.semAt_some

theorem yxi {w w':World}{B:Nat}{v v':Value}{ys xs:List Int}{ad:Addr}{n c:Nat}{ty:TypeId}(hr:(Builtin.append_ #[(24),(24)] ty #[v, .slice (some ad) n c]).run Tryz.prog w= .ok v' w')(hn:xs.length=n)(ho:OwnB B w v ys)(hb:Byt w (some ad) xs)(hx:ys.length+n<1000000000)(h0:0<n):
  ∀k,v'.ownBlock=some k->v.ownBlock=some k\/w.heap.size<=k:=by
 obtain⟨i0,hin,hz0,hz1,hz2⟩:=info_parts zyt
 have hfl:=hb.flat zqq (by decide)
 have hxl:(xs.flatMap nb).length=n*i0.size:=by rw [zq8 zqq,hn,hz1]
 have hyl:(ys.flatMap nb).length=ys.length*i0.size:=by rw [zq8 zqq,hz1]
 obtain⟨hl1,h|⟨g,cap,cur,rfl,hbg,hg,hle,hcm,hcs,htk⟩⟩:=ho
 ·obtain⟨rfl,hl⟩:=h
  have hr2:=run_append_nil (P:=Tryz.prog) w (24) ty (5) i0 _ Tryz.underlying24 hin hz0 ad n c (xs.flatMap nb) hxl hfl h0 (by omega) (by rw [hz2];omega)
  rw [hr] at hr2
  injection hr2 with e1 e2
  intro k hk
  rw [e1] at hk
  simp [Value.ownBlock] at hk
  exact .inr (by omega)
 ·by_cases hroom:ys.length+n<=cap
  ·have hr2:=run_append_room (P:=Tryz.prog) w (24) ty (5) i0 Tryz.underlying24 hin g ys.length cap cur hg ad n c (xs.flatMap nb) hxl hfl (zvs xs) hroom (by rw [hxl,hcs,hz1,Nat.mul_one,Nat.mul_one,Nat.mul_one];omega)
   rw [hr] at hr2
   injection hr2 with e1 e2
   intro k hk
   rw [e1] at hk
   exact .inl hk
  ·have holds: ∀j u,(ys.flatMap nb)[j]? =some u->w.cell? ((⟨g,0,none⟩:Addr).add j)=some u:=World.ownsRow.cells (g:=g) (show OwnB B w (.slice (some ⟨g,0,none⟩) ys.length cap) ys from⟨hl1, .inr ⟨g,cap,cur,rfl,hbg,hg,hle,hcm,hcs,htk⟩⟩) rfl
   have hr2:=run_append_grow (P:=Tryz.prog) w (24) ty (5) i0 _ Tryz.underlying24 hin hz0 ⟨g,0,none⟩ ys.length cap (ys.flatMap nb) hyl holds ad n c (xs.flatMap nb) hxl hfl (by omega) (by omega) (growslice_fits (by omega) (by rw [hz2];omega))
   rw [hr] at hr2
   injection hr2 with e1 e2
   intro k hk
   rw [e1] at hk
   simp [Value.ownBlock] at hk
   exact .inr (by omega)

theorem or128 (y:Int)(h:0<=y/\y<128):bits BinOp.or IntKind.u8 y 128=y+128:=by
 obtain⟨k,rfl⟩: ∃k:Nat,y=k:=⟨y.toNat,by omega⟩
 have hall: ∀k:Fin 128,bits BinOp.or IntKind.u8 (k.val:Int) 128=(k.val:Int)+128:=by decide+kernel
 exact hall ⟨k,by omega⟩
def zwm (a:Option Addr)(B:Nat)(w:World):Prop:= ∀ad,a=some ad->B<=ad.block/\ ∃cs,w.heap[ad.block]? =some (.cells cs (5) (0,0))
theorem yyn {B B' n c:Nat}{w:World}{a:Option Addr}{xs:List Int}(h:OwnB B w (.slice a n c) xs)(hB:B'<=B):zwm a B' w:=fun ad had=>by
 obtain⟨_,h2|⟨g,c',cur,hv,hg,hh,_⟩⟩:=h
 ·obtain⟨h3, -⟩:=h2
  rw [had] at h3
  cases h3
 ·rw [had] at hv
  cases hv
  exact⟨Nat.le_trans hB hg,_,hh⟩
def yq9 (ys:List Int)(w:World)(e:Ending)(w':World):Prop:= ∃a,e= .returned (.slice a ys.length ys.length)/\Byt w' a ys/\(a=none->ys= [])/\zwm a w.heap.size w'/\Below w.heap.size w w'
theorem yym {B b N:Nat}{A C:World}{v:Value}{xs:List Int}(h:OwnB B A v xs)(ht:Turn b N A C)(hb:v.ownBlock≠some b):OwnB B C v xs:=by
 obtain⟨h1,h2⟩:=h
 refine⟨h1,?_⟩
 rcases h2 with h2|⟨g,cap,cur,hv,hg,hh,hr⟩
 ·exact .inl h2
 ·exact .inr ⟨g,cap,cur,hv,hg,ht.kept g _ hh (fun e=>hb (by rw [hv,<-e];rfl)) (.inr rfl),hr⟩
theorem ywz {B k:Nat}{w:World}{v:Value}{xs:List Int}{o:Obj}(h:OwnB B w v xs)(hk:w.heap[k]? =some o)(ho:o.isCells=false):some k≠v.ownBlock:=by
 intro e
 obtain⟨_,h2|⟨g,cap,cur,hv,hg,hh,_⟩⟩:=h
 ·rw [h2.1] at e;cases e
 ·rw [hv] at e
  injection e with e
  have e:k=g:=e
  subst e
  rw [hk] at hh
  injection hh with hh
  rw [hh] at ho
  cases ho
set_option maxRecDepth 100000 in
set_option maxHeartbeats 1000000 in
theorem put_in (a:Option Addr)(cap n:Nat)(xs:List Int)(x:Nat)(w:World)(hb:Byt w a xs)(hn:xs.length=n)(hl:n<900000000)(h0:a=none->cap=0)(hx:x<18446744073709551616):
  CallsIn Fence.wide 5 Tryz.prog (79) #[.slice a n cap, .int .u64 (x:Int)] w (yq9 (xs++putN x) w):=by
 obtain⟨w1,hw1⟩: ∃w1:World,w1=w.alloc (.cells #[.slice a n cap] (24)):=⟨_,rfl⟩
 have hB1:Below w.heap.size w w1:=by rw [hw1];exact balc zb
 have hs1:w1.heap.size=w.heap.size+1:=by rw [hw1];simp
 have hp1:w1.heap[w.heap.size]? =some (.cells #[.slice a n cap] (24) (0,0)):=by rw [hw1];exact zq3 rfl _
 have HCL:=zh (ywi a cap n xs w1 (hb.ext hB1) hn (by omega) h0)
 rw [hw1] at HCL
 refine callsIn_of_wp_marks Tryz.func79 rfl trivial ?_ rfl
 simp only [Tryz.ntmps79,List.size_toArray,List.length_cons,List.length_nil,Nat.reduceAdd,Nat.reduceSub,Array.replicate_succ,Array.replicate_zero,List.push_toArray,List.append_toArray,List.nil_append,List.cons_append]
 have c0:=zq0 hp1 0
 have f0:=zq1 hp1 0
 rw [hw1] at c0 f0
 simp at c0 f0
 gi_wp2_with (refine⟨trivial,?_⟩;gi_at_call 104;refine(callsIn_wide.2 HCL.out).mono ?_;rintro e w2 ⟨v0,rfl,hO2,hB2⟩;rw [<-hw1] at hO2 hB2;obtain⟨a9,c9,hv9, -, -⟩:=zq6 zqq hO2;rw [hn] at hv9;subst hv9;have hp2:=zq4 hp1 hB2 (zq2 hp1);have c2:=zq0 hp2 0;have f2:=zq1 hp2 0;simp at c2)
 gi_wp2_with (refine⟨trivial,?_⟩;gi_at_call 105;refine(callsIn_wide.2 (yww _ _)).mono ?_;rintro e w' ⟨rfl,rfl⟩)
 clear c0 f0 c2 f2 HCL
 obtain⟨w3,hw3⟩: ∃w3:World,w3=w2.setCell ⟨w.heap.size,0,none⟩ (.slice a9 n c9):=⟨_,rfl⟩
 have hz3:w3.heap.size=w2.heap.size:=by rw [hw3,World.size_setCell]
 have hp3:w3.heap[w.heap.size]? =some (.cells #[.slice a9 n c9] (24) (0,0)):=by rw [hw3];exact zq7 hp2 _
 have hO3:OwnB w1.heap.size w3 (.slice a9 n c9) xs:=by rw [hw3];exact ownsRow_setCell_below (a:=⟨w.heap.size,0,none⟩) hO2 (by show w.heap.size<w1.heap.size;omega) _
 have hB3:Below w.heap.size w w3:=by rw [hw3];exact(hB1.trans (hB2.mono hB1.size)).setCell zr _
 have hne3:(Value.slice a9 n c9).ownBlock≠some w2.heap.size:=fun e=>by have:=(World.ownsRow.lt hO2 _ e).2;omega
 have hs2:w1.heap.size<=w2.heap.size:=hB2.size
 rw [<-hw3]
 clear hw3 hp2 hO2 hB2 hp1
 obtain⟨w4,hw4⟩: ∃w4:World,w4=w3.alloc (.cells #[.int .u64 (x:Int)] (26)):=⟨_,rfl⟩
 have hz4:w4.heap.size=w2.heap.size+1:=by rw [hw4];simp [hz3]
 have hB34:Below w3.heap.size w3 w4:=by rw [hw4];exact balc zb
 have hx4:w4.heap[w2.heap.size]? =some (.cells #[.int .u64 (x:Int)] (26) (0,0)):=by rw [hw4];exact zq3 hz3.symm _
 have hp4:=zq4 hp3 hB34 (zq2 hp3)
 have hO4:OwnB w1.heap.size w4 (.slice a9 n c9) xs:=ownsRow_below hO3 hB34 zr
 have hB4:Below w.heap.size w w4:=hB3.trans (hB34.mono hB3.size)
 have HSQ:=zh (yy5 4 (by omega) hx hx4)
 have HGL:=zh (show(grpN x).length<=10 from ykn 9 x (Nat.lt_of_lt_of_le hx (by decide+kernel)))
 rw [<-hw4]
 clear hw4 hB34 hx4 hp3 hO3 hB3
 refine yxe (n:=5) (gf:=128) (lb:= #[.pointer (some ⟨w2.heap.size,0,none⟩)]) rfl (enters_of Tryz.func128 (by kernel_rfl) rfl) (encs:=encG) (fun _=>rfl) (grpN x) (b:=w2.heap.size) (kp:=fun k=>k=w2.heap.size) (fun k hk=>by rw [hk];omega) (by omega) HSQ.out
  (fun pre W=> ∃v,W.heap[w.heap.size]? =some (.cells #[v] (24) (0,0))/\OwnB w1.heap.size W v (xs++pre.map laidG)/\v.ownBlock≠some w2.heap.size/\Below w.heap.size w W/\w4.heap.size<=W.heap.size)
  (fun pre A B hi ht=>by
   obtain⟨v,hv,hO,hne,hb,hsz⟩:=hi
   exact⟨v,ht.kept _ _ hv (by omega) (.inl (by omega)),yym hO ht hne,hne,ht.below hb (by omega) (by omega) zr,Nat.le_trans hsz ht.size⟩)
  ⟨_,hp4,by simpa using hO4,hne3,hB4,zr⟩
  (fun y=>{tmps:= #[.slice a n cap, .int .u64 (x:Int), .pointer (some ⟨w.heap.size,0,none⟩),undef, .slice none 0 0, .int .u8 y.1, .bool y.2, .slice a n cap, .slice a9 n c9, .int .u64 (x:Int), .func (.func 128) #[] #[.pointer (some ⟨w2.heap.size,0,none⟩)], .int .u8 y.1, .bool y.2,undef,undef,undef,undef,undef,undef,undef,undef,undef],defers:= []}) ?assign ?body ?done
 case assign=>
  intro l x W K hK
  gi_wp2
  exact hK
 case body=>
  rintro l pre y W ⟨v,hv,hO,hne,hB,hNW⟩ hpre
  have hc:=zq0 hv 0
  simp at hc
  have hpl:pre.length<=10:=by
   have h1:=hpre.length_le
   have h2:=HGL.out
   rw [List.length_append,List.length_singleton] at h1
   omega
  have hym:=yko x y (hpre.subset (by simp))
  obtain⟨y1,y2⟩:=y
  obtain⟨z,hz⟩: ∃z,z=laidG (y1,y2):=⟨_,rfl⟩
  obtain⟨X,hX⟩: ∃X:World,X=W.alloc (.cells #[.int .u8 z] (5)):=⟨_,rfl⟩
  have hBX:Below W.heap.size W X:=by rw [hX];exact zb.alloc zr _
  have hXs:X.heap.size=W.heap.size+1:=by rw [hX];simp
  have hOX:=ownsRow_below hO hBX zr
  have hEz:Byt X (some ⟨W.heap.size,0,none⟩) [z] :=⟨fun i hi=>by
   have hi0:i=0:=by simp at hi;omega
   subst hi0
   refine⟨W.heap.size,0,rfl,by omega,fun j c hj=> ?_⟩
   rw [hX,yqj]
   simpa [nb] using hj⟩
  have hlen:(xs++pre.map laidG).length+1<1000000000:=by rw [List.length_append,List.length_map];omega
  obtain⟨v',w',hr,hO',hg⟩:=zz6 X w1.heap.size v (xs++pre.map laidG) ⟨W.heap.size,0,none⟩ 1 1 [z] rfl hOX hEz hlen (by omega) (24)
  have hblk:=yxi hr rfl hOX hEz hlen (by omega)
  have hne':v'.ownBlock≠some w2.heap.size:=fun e=>by
   rcases hblk _ e with h|h
   ·exact hne h
   ·omega
  have hown: ∀k,v.ownBlock=some k->w1.heap.size<=k:=fun k e=>(World.ownsRow.lt hO _ e).1
  have hv':w'.heap[w.heap.size]? =some (.cells #[v] (24) (0,0)):=(hg.block _ (zq2 (zq4 hv hBX (zq2 hv))) (fun e=>by have:=hown _ e.symm;omega)).trans (zq4 hv hBX (zq2 hv))
  have hcw:=zq0 hv' 0
  have hfw:=zq1 hv' 0
  simp at hcw
  have hsX:=hBX.size
  have hsg:=hg.size
  obtain⟨a',cap',hvv, -, -⟩:=zq6 zqq hO'
  have HE:=zh (show∀u:Value,(w'.setCell ⟨w.heap.size,0,none⟩ u).heap[w2.heap.size]? =W.heap[w2.heap.size]? /\(∀(k:Nat) (o:Obj),w4.heap.size<=k->W.heap[k]? =some o->o.isCells=false->(w'.setCell ⟨w.heap.size,0,none⟩ u).heap[k]? =some o)/\Below w.heap.size w (w'.setCell ⟨w.heap.size,0,none⟩ u)from fun u=>by
   refine⟨?_,fun k o hk ho hoc=> ?_,?_⟩
   ·rw [Below.heap_setCell _ _ _ _ (by show w2.heap.size≠w.heap.size;omega),hg.block w2.heap.size (by omega) (fun e=>hne e.symm),hBX.block w2.heap.size (by omega)]
   ·exact blk_setCell_other ((hg.block k (by have:=zq2 ho;omega) (ywz hO ho hoc)).trans (zq4 ho hBX (zq2 ho))) (by show k≠w.heap.size;omega) _
   ·exact((hB.trans (hBX.mono hB.size)).grown hg (by have:=hB.size;omega) (fun k e=>by have:=hown _ e;omega)).setCell zr _)
  have HO2:=zh (show∀u:Value,OwnB w1.heap.size (w'.setCell ⟨w.heap.size,0,none⟩ u) v' (xs++(pre++ [(y1,y2)]).map laidG)from fun u=>by
   have h:=ownsRow_setCell_below (a:=⟨w.heap.size,0,none⟩) hO' (by show w.heap.size<w1.heap.size;omega) u
   rw [List.map_append,<-List.append_assoc]
   rw [hz] at h
   exact h)
  have HV':=zh hv'
  have HNE:=zh hne'
  have HFIN:=zh (show w'.heap.size >= w4.heap.size/\W.heap.size<=w'.heap.size from⟨by omega,by omega⟩)
  rw [hX] at hr
  subst hvv
  clear hX hO' hO hg hB hown hblk hOX hEz hne hne' hv'
  have hfin: ∀(ac:Act) (u:Value),u= .slice a' (xs++pre.map laidG++ [z]).length cap'->kpPost w4.heap.size (fun k=>k=w2.heap.size) (fun pre W=> ∃v,W.heap[w.heap.size]? =some (.cells #[v] (24) (0,0))/\OwnB w1.heap.size W v (xs++pre.map laidG)/\v.ownBlock≠some w2.heap.size/\Below w.heap.size w W/\w4.heap.size<=W.heap.size) (pre++ [(y1,y2)]) W .normal ac (w'.setCell ⟨w.heap.size,0,none⟩ u):=fun ac u hu=>by
   obtain⟨e1,e2,e3⟩:=HE.out u
   have hh:=HFIN.out
   rw [<-hu] at HO2 HNE
   exact⟨⟨by rw [World.size_setCell];exact hh.2,fun k hk=>by rw [hk];exact e1⟩,e2,u,zq7 HV'.out _,HO2.out u,HNE.out,e3,by rw [World.size_setCell];exact hh.1⟩
  have HEND:=zh hfin
  clear hfin HE HO2 HNE HFIN hz4 hs1 hXs hz3 hw1
  obtain⟨Lz,hLz⟩: ∃Lz,Lz=(xs++pre.map laidG++ [z]).length:=⟨_,rfl⟩
  rw [<-hLz] at HEND hr
  have HLZ:=zh hLz
  clear hLz
  cases y2
  ·have hzy:z=y1:=hz
   subst hzy
   clear hz
   gi_wp2_with (gi_at_builtin;refine zzv _ rfl _ _ _ _ rfl _ _ rfl rfl _ _ hr ?_)
   exact HEND.out _ _ rfl
  ·have hor:bits BinOp.or IntKind.u8 y1 128=z:=by rw [or128 _ hym,hz];rfl
   clear hz
   gi_wp2_with (gi_at_builtin;refine zzv _ rfl _ _ _ _ rfl _ _ rfl rfl _ _ hr ?_)
   exact HEND.out _ _ rfl
 case done=>
  rintro W ⟨v,hv,hO,hne,hB,hNW⟩ hK
  have HGL2:=zh (show(xs++putN x).length<=n+10 from by rw [List.length_append,hn];have:=zzz x hx;omega)
  have hO':OwnB w1.heap.size W v (xs++putN x):=hO
  obtain⟨k,hk⟩: ∃k,k=xs++putN x:=⟨_,rfl⟩
  rw [<-hk] at hO' HGL2 ⊢
  obtain⟨q,hq⟩: ∃q,q=k.length:=⟨_,rfl⟩
  obtain⟨a8,c8,hv8,hle,hE⟩:=zq6 zqq hO'
  have hform:(a8=none->k.length=0/\c8=0)/\c8<=maxLen:=by
   obtain⟨_,h2|⟨g,c,cur,hv,hg,hh,_,hm,_⟩⟩:=hO'
   ·obtain⟨h3,h4⟩:=h2
    rw [hv8] at h3
    injection h3 with h3 h5 h6
    exact⟨fun _=>⟨h5,h6⟩,by rw [h6];unfold maxLen;omega⟩
   ·rw [hv8] at hv
    injection hv with h3 h5 h6
    subst h6
    exact⟨fun h=>by rw [h3] at h;(cases h),hm⟩
  rw [<-hq] at hv8 hform hle
  subst hv8
  have hc:=zq0 hv 0
  have hf:=zq1 hv 0
  simp at hc
  have HQ:=zh hq
  have HCLP:=zh (yxm a8 c8 q W hform.1 (by have:=HGL2.out;omega) hle hform.2)
  have HKK:=zh hk
  have HOO:=zh (show OwnB w1.heap.size W (.slice a8 q c8) k from hO')
  have HEN:=zh (show a8=none->k= [] from fun h=>List.length_eq_zero_iff.1 (by rw [<-hq];exact(hform.1 h).1))
  clear hO hO' hv hk hform hle hq
  gi_wp2_with (refine⟨trivial,?_⟩;gi_at_call 106;refine(callsIn_wide.2 HCLP.out).mono ?_;rintro e w5 ⟨rfl,rfl⟩)
  rw [hz4] at hK
  refine⟨by simp, .inl ⟨_,_,rfl,run_takeDeferred hK,?_⟩⟩
  have hB5:=belowK_b (w:=w) zr W (w2.heap.size+1) _ (.deferred none) (by omega) hK rfl rfl
  have hO3:=ownsRow_putObj HOO.out (.deferred none) hK rfl
  refine⟨_,results_tmp rfl _ _ _,?_⟩
  rw [<-HKK.out]
  obtain⟨a7,c7,hv7, -,hE7⟩:=zq6 zqq hO3
  rw [<-HQ.out] at hv7
  cases hv7
  have HQQ:=HQ.out
  exact⟨a8,by rw [<-HQQ];rfl,hE7,HEN.out,yyn hO3 (by omega),hB.trans hB5⟩
theorem yyu (a:Option Addr)(cap n:Nat)(xs:List Int)(x:Nat)(w:World)(hb:Byt w a xs)(hn:xs.length=n)(hl:n<900000000)(h0:a=none->cap=0)(hx:x<18446744073709551616):
  Calls Tryz.prog (79) #[.slice a n cap, .int .u64 (x:Int)] w (yq9 (xs++putN x) w):=
 (callsIn_wide (n:=5)).1 (put_in a cap n xs x w hb hn hl h0 hx)
end Go.Proofs.YtchcelodeepjdaaGreatDoor.Ln

namespace Go.Proofs.YtchcelodeepjdaaGreatDoor.Ln
open Go.ChangeShapes Go.WideShapes Go.ChangeAt Go.RowKit Go.Herb Go.Deep

section
variable {H:Type} {enc:TypeId × Value->H} {w:World}
structure Rv where
 seq:Int
 log:Int
 next:Int
 ba:Option Addr
 bc:Nat
 bs:List Br
 la:Option Addr
 lc:Nat
 ls:List Ln
 va:Option Addr
 vc:Nat
 vs:List Vx.Vc
 sa:Option Addr
 sc:Nat
 sh:List Sv
abbrev rtV (r:Rv):Value:= .agg #[.int .u64 r.seq, .int .u64 r.log, .int .u64 r.next, .slice r.ba r.bs.length r.bc, .slice r.la r.ls.length r.lc, .slice r.va r.vs.length r.vc, .slice r.sa r.sh.length r.sc]
def Rv.says (r:Rv):Rt:=⟨r.seq,r.log,r.next,r.bs,r.ls,Vx.vsOf r.vs,r.sh.map Sv.says⟩
structure RtIn (w:World)(r:Rv):Prop where
 seq:U64 r.seq
 log:U64 r.log
 next:U64 r.next
 brs:SIn brc 3 (fun q:Br=>q.1.size<=maxLen/\U64 q.2.1/\U64 q.2.2) w r.ba r.bc r.bs
 lns:SIn lnc 2 (fun q:Ln=>U64 q.1/\U64 q.2) w r.la r.lc r.ls
 vcs:Vx.VIn w r.va r.vs
 shs:ShIn w r.sa r.sh
 sl:r.sh.length<=r.sc
 sm:r.sc<=maxLen
 sn:r.sa=none->r.sc=0
 vl:r.vs.length<=r.vc/\r.vc<=maxLen
end
end Go.Proofs.YtchcelodeepjdaaGreatDoor.Ln

namespace Go.Proofs.YtchcelodeepjdaaGreatDoor.Ln
open Go.RowKit Go.Shelf Go.Herb

set_option maxRecDepth 100000 in
theorem zyo (a b:Option Addr)(ca cb n m:Nat)(xs ys:List Int)(w:World)(hx:Els Vx.nu 1 w a xs)(hy:Els Vx.nu 1 w b ys)(hn:xs.length=n)(hm:ys.length=m)(hl:n<1000000):
  Calls Tryz.prog (75) #[.slice a n ca, .slice b m cb] w fun e w'=> ∃q:Bool,e= .returned (.bool q)/\(q=true↔xs=ys)/\Below w.heap.size w w':=by
 have HX:=zh hx
 have HY:=zh hy
 have HN:=zh hn
 have HM:=zh hm.symm
 have HB0:=zh (Below.refl w.heap.size w)
 clear hx hy hn hm
 go_enter Tryz.func75,Tryz.ntmps75
 by_cases hnm:n=m
 case neg=>
  have h1:((n:Int)==(m:Int))=false:=beq_eq_false_iff_ne.2 (by omega)
  have h2: ¬(n:Int)=(m:Int):=by omega
  go_wp2_with fail
  go_ret
  exact⟨false,rfl,⟨(fun h=>by cases h),fun h=>absurd (by rw [<-HN.out,h,<-HM.out]) hnm⟩,HB0.out⟩
 subst hnm
 have h1:((n:Int)==(n:Int))=true:=beq_self_eq_true _
 go_wp2_with fail
 go_loopg [13] n (fun gk iv wr=> ∃k:Nat,k+gk=n/\iv= .int .i64 k/\Hid (xs.take k=ys.take k)/\Hid (Below w.heap.size w wr))
 case atStart=>exact⟨0,by omega,rfl,zh rfl,HB0⟩
 case round=>
  obtain⟨k,hk,rfl,HE,HB⟩:=hrel
  by_cases hlt:k<n
  ·have hkx:k<xs.length:=by have:=HN.out;omega
   have hky:k<ys.length:=by have:=HM.out;omega
   obtain⟨xb,xo,rfl,hxl,hxc⟩:=HX.out.get k hkx
   obtain⟨yb,yo,rfl,hyl,hyc⟩:=HY.out.get k hky
   have c0:=(HB.out.cell (p:=⟨xb,_,none⟩) hxl).trans (hxc 0 _ rfl)
   have c1:=(HB.out.cell (p:=⟨yb,_,none⟩) hyl).trans (hyc 0 _ rfl)
   simp only [Nat.add_zero,Nat.mul_one] at c0 c1
   have HXE:=zh (List.take_succ_eq_append_getElem hkx)
   have HYE:=zh (List.take_succ_eq_append_getElem hky)
   have HXG:=zh (List.getElem?_eq_getElem hkx)
   have HYG:=zh (List.getElem?_eq_getElem hky)
   clear hxc hyc
   generalize xs[k] =x at*
   generalize ys[k] =y at*
   have i0:(0:Int)<=(k:Int):=by omega
   have i1:(k:Int)<(n:Int):=by omega
   have hw1:IntKind.i64.wrap ((k:Int)+1)=(k:Int)+1:=IntWalk.i64_in _ (by omega)
   by_cases hxy:x=y
   ·have d1:(x==y)=true:=by rw [hxy];exact beq_self_eq_true _
    have HE2:=zh (show xs.take (k+1)=ys.take (k+1)by rw [HXE.out,HYE.out,HE.out,hxy])
    clear hxy
    go_upto_region 6 with fail
    go_quiet (fail)
    have HBu:=zh (show Below w.heap.size w (wr.drewN nq)from⟨HB.out.os,HB.out.tape,HB.out.output,HB.out.size,HB.out.block⟩)
    go_wp2
    go_roundg(gk - 1)
    case measure=>omega
    case rel=>exact⟨k+1,by omega,by go_num,HE2,HBu⟩
   ·have d1:(x==y)=false:=beq_eq_false_iff_ne.2 hxy
    have HNE:=zh (show xs≠ys from fun h=>hxy (by
     have:=HXG.out
     rw [h,HYG.out] at this
     exact(Option.some.inj this).symm))
    clear hxy
    go_upto_region 6 with fail
    go_quiet (fail)
    have HBu:=zh (show Below w.heap.size w (wr.drewN nq)from⟨HB.out.os,HB.out.tape,HB.out.output,HB.out.size,HB.out.block⟩)
    go_wp2
    go_ret
    exact⟨false,rfl,⟨(fun h=>by cases h),fun h=>absurd h HNE.out⟩,HBu.out⟩
  ·have HT:=zh (show xs=ys from by
    have:=HE.out
    rwa [List.take_of_length_le (by have:=HN.out;omega),List.take_of_length_le (by have:=HM.out;omega)] at this)
   go_wp2_with fail
   go_ret
   exact⟨true,rfl,⟨fun _=>HT.out,fun _=>rfl⟩,HB.out⟩

theorem zyx {wr:World}{B:Nat}{v:Value}{ys:List Int}(x:Int)(o:Obj)(hBw:B<=wr.heap.size)(ho:Vx.OwnU B wr v ys)(hl:ys.length<1000000):
  ∃v' w',(Builtin.append_ #[(88),(88)] (88) #[v, .slice (some ⟨wr.heap.size+1,0,none⟩) 1 1]).run Tryz.prog ((wr.alloc o).alloc (.cells #[.int .u64 x] (26)))= .ok v' w'/\Vx.OwnU B w' v' (ys++ [x])/\Below B wr w':=by
 have hb1:Below wr.heap.size wr (wr.alloc o):=zb.alloc zr _
 have hb2:Below wr.heap.size wr ((wr.alloc o).alloc (.cells #[.int .u64 x] (26))):=hb1.alloc hb1.size _
 have ho2:Vx.OwnU B ((wr.alloc o).alloc (.cells #[.int .u64 x] (26))) v ys:=ownsRow_below ho hb2 zr
 obtain⟨v',w',hr,h2,h3⟩:=Vx.yze _ B v ys (wr.heap.size+1) x ho2 (zq3 (by simp) _) hl (Nat.le_trans hBw hb2.size) (88)
 exact⟨v',w',hr,h2,Below.appended (hb2.mono hBw) ho2 zr (Nat.le_trans hBw hb2.size) h3⟩
end Go.Proofs.YtchcelodeepjdaaGreatDoor.Ln
