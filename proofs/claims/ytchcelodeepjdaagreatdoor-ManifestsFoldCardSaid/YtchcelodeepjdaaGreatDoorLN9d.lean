/- Lemmas and walks towards ManifestsFold. Conditions: each one tells its own. -/
import Derived.Test.YtchcelodeepjdaaGreatDoorMp
import Derived.Test.YtchcelodeepjdaaGreatDoorLN8
import Derived.Laws.CopyRow
import Derived.Laws.MakeOwn
import Derived.Deep.RegionHeld3
import Derived.Deep.DeepCutAuto
import Derived.Deep.AppendSrc
import Derived.Lib.AppendZerosOnto
import Derived.RangeFuncNested
import Derived.RangeFuncBound
import Derived.RangeFuncCalls
import Derived.RangeFuncLeaves
import Derived.Shelf.Abstract
import Derived.Shelf.RegionOpen
import Derived.WalkKit
import Derived.OwnWalkIn
import Derived.TacticsInMore
import Derived.LoopNIn
import Derived.LoopIn
import Derived.Sort.Walk0
namespace Go.Herb
open Go.RowKit
variable {s:Nat}

theorem yzh {P:Program}(w:World)(dT sT ty elem:TypeId)(s g o dLen dCap:Nat)(a:Addr)(sLen sCap:Nat)(cur:Array Value)(t:TypeId)(cs:List Value)
  (hu:P.underlying dT=some (.slice elem)) (hs:(P.info? elem).map (·.size)=some s)
  (hg:w.heap[g]? =some (.cells cur t (0,0))) (hn:cs.length=Nat.min sLen dLen*s)
  (hsrc: ∀j v,cs[j]? =some v->w.cell? (a.add j)=some v) (hfit:o+cs.length<=cur.size) (h1: ∀v∈cs,v.oneCell'=true):
  (Builtin.copy_ #[dT,sT] ty #[.slice (some ⟨g,o,none⟩) dLen dCap, .slice (some a) sLen sCap]).run P w=
   .ok (goInt (Nat.min sLen dLen)) (w.setRow g (cur.toList.take o++cs++cur.toList.drop (o+cs.length)).toArray):=by
 have hl:=run_loadCells_list (P:=P) w a cs hsrc
 have hst:=run_storeCells_at P g o t cs 0 cur w hg (by simpa using hfit) h1
 cases hq:P.info? elem with
 |none=>simp [hq] at hs
 |some i=>
  have hi:i.size=s:=by simpa [hq] using hs
  simp [Builtin.copy_,run_underlying hu,Builtin.lenOf,Builtin.firstCells,sizeOf,typeInfo,hq,hi,<-hn,hl,hst]
theorem zw0 {P:Program}{α:Type}{enc:α->List Value}(hel: ∀x,(enc x).length=s)(hpos:0<s)(hone: ∀x,∀v∈enc x,v.oneCell'=true)(w:World)(dT sT elem:TypeId)(hu:P.underlying dT=some (.slice elem))(hs:(P.info? elem).map (·.size)=some s)
  (g n dCap sCap:Nat) (a:Option Addr) (cur:Array Value) (t:TypeId) (xs:List α) (hE:Els enc s w a xs) (hn:xs.length=n) (h0:0<n) (hg:w.heap[g]? =some (.cells cur t (0,0))) (hcs:cur.size=n*s):
  ∃w',(∀ty,(Builtin.copy_ #[dT,sT] ty #[.slice (some ⟨g,0,none⟩) n dCap, .slice a n sCap]).run P w= .ok (goInt n) w')/\w'.heap[g]? =some (.cells (xs.flatMap enc).toArray t (0,0))/\(∀b,b≠g->w'.heap[b]? =w.heap[b]?)/\w'.heap.size=w.heap.size/\(∀B w0,B<=g->Below B w0 w->Below B w0 w'):=by
 obtain⟨b,o,rfl,_,_⟩:=hE.get 0 (by omega)
 have hl:(xs.flatMap enc).length=n*s:=by rw [zq8 hel,hn]
 have hr:=fun ty=>yzh (P:=P) w dT sT ty elem s g 0 n dCap ⟨b,o,none⟩ n sCap cur t (xs.flatMap enc) hu hs hg (by rw [hl];simp) (hE.flat hel hpos) (by omega) (fun v hv=>by
  obtain⟨x,_,hx⟩:=List.mem_flatMap.1 hv
  exact hone x v hx)
 have he:(cur.toList.take 0++xs.flatMap enc++cur.toList.drop (0+(xs.flatMap enc).length)).toArray=(xs.flatMap enc).toArray:=by
  congr 1
  rw [List.drop_eq_nil_of_le (by simp only [Array.length_toList];omega)]
  simp
 rw [he] at hr
 refine⟨w.setRow g (xs.flatMap enc).toArray,fun ty=>by rw [hr ty,show Nat.min n n=n from Nat.min_self n],setRow_heap w g _ _ t _ hg,fun b hb=>setRow_other w g b _ hb,by simp [World.setRow],fun B w0 hB hw=>hw.trans ⟨rfl,rfl,rfl,by simp [World.setRow],fun k hk=>setRow_other w g k _ (by omega)⟩⟩
theorem zk7 {P:Program}(w:World){ops:Array Oper}{rest:List Oper}{o:Oper}{a:Act}{Q:Exit->Act->World->Prop}(hgd:o.guard=none)(d s:Operand)(t t':TypeId)
  (ho:o.op= .call {callee:= .builtin .copy,args:= #[d,s],argTypes:= #[t,t']}) (v u:Value) (hd:a.eval d=v) (hs:a.eval s=u) {v':Value} {w':World}
  (hr:(Builtin.copy_ #[t,t'] o.type #[v,u]).run P w= .ok v' w') (h:wpList P ops Q rest (a.put o.dst v') w'):wpList P ops Q (o::rest) a w:=
 wpList_plain hgd fun _ hK=>by
  unfold Oper.wp execOp
  simp only [ho,resolve,invoke,builtin,Sem.run_bind,Sem.run_pure,Result.andThen_ok,List.map_toArray,List.map_cons,List.map_nil,hd,hs,hr]
  exact hK _ _ h
theorem balc {w u:World}{o:Obj}(h:Below w.heap.size w u):Below w.heap.size w (u.alloc o):=h.alloc h.size o
theorem yqg {u:World}{b:Nat}{o:Obj}(h:u.heap[b]? =some o):u.drew.heap[b]? =some o:=h
theorem bdrw {B:Nat}{w u:World}(h:Below B w u):Below B w u.drew:=⟨h.os,h.tape,h.output,h.size,h.block⟩
end Go.Herb
namespace Go.Proofs.YtchcelodeepjdaaGreatDoor.Ln
open Go.RowKit Go.Shelf Go.Herb

theorem infoB:(Tryz.prog.info? (73)).map (fun i=>(i.zero,i.size,i.bytes))=some (some (.agg #[.string ⟨#[]⟩, .int .u64 0, .int .u64 0]),3,32):=by kernel_rfl
theorem infoL:(Tryz.prog.info? (53)).map (fun i=>(i.zero,i.size,i.bytes))=some (some (.agg #[.int .u64 0, .int .u64 0]),2,16):=by kernel_rfl
theorem yj0 (x:Br): ∀v∈brc x,v.oneCell'=true:=by
 intro v hv
 simp [brc] at hv
 rcases hv with rfl|rfl|rfl<;>rfl
theorem yjj (x:Ln): ∀v∈lnc x,v.oneCell'=true:=by
 intro v hv
 simp [lnc] at hv
 rcases hv with rfl|rfl<;>rfl

structure zj5 (w:World)(p:Nat)(bs:List Br)(ls:List Ln):Prop where
 blk: ∃ba bc la lc,w.heap[p]? =some (.cells #[.slice ba bs.length bc, .slice la ls.length lc, .int .i64 1] (168) (0,0))/\Brs w ba bs/\Lns w la ls
theorem zj5.lt {w:World}{p:Nat}{bs:List Br}{ls:List Ln}(h:zj5 w p bs ls):p<w.heap.size:=by
 obtain⟨_,_,_,_,h,_⟩:=h.blk
 exact zq2 h
theorem zj5.ext {w w':World}{p:Nat}{bs:List Br}{ls:List Ln}(h:zj5 w p bs ls)(hb:Below w.heap.size w w'):zj5 w' p bs ls:=by
 have hl:=h.lt
 obtain⟨ba,bc,la,lc,h1,h2,h3⟩:=h.blk
 exact⟨ba,bc,la,lc,zq4 h1 hb hl,h2.ext hb,h3.ext hb⟩

theorem made_any (ba:Option Addr)(bn bc:Nat)(la:Option Addr)(ln lc:Nat)(w:World):
  Calls Tryz.prog (72) #[zxx ba bn bc la ln lc] w fun e w'=>e= .returned (.pointer (some ⟨w.heap.size+1,0,none⟩))/\w'.heap[w.heap.size+1]? =some (.cells #[.slice ba bn bc, .slice la ln lc, .int .i64 1] (168) (0,0))/\Below w.heap.size w w':=by
 go_enter Tryz.func72,Tryz.ntmps72
 go_wp2_with fail
 go_ret
 exact⟨rfl,zq3 (by simp) _,balc (balc zb)⟩
set_option maxRecDepth 100000 in
theorem ywj (ba:Option Addr)(bc n:Nat)(la:Option Addr)(lc m:Nat)(bs:List Br)(ls:List Ln)(w:World)(hB:Brs w ba bs)(hL:Lns w la ls)(hn:bs.length=n)(hm:ls.length=m)(h0:0<n)(h1:0<m)(hn1:n<1000000)(hm1:m<1000000):
  Calls Tryz.prog (73) #[zxx ba n bc la m lc] w fun e w'=> ∃g h:Nat,e= .returned (zxx (some ⟨g,0,none⟩) n n (some ⟨h,0,none⟩) m m)/\
   w'.heap[g]? =some (.cells (bs.flatMap brc).toArray (73) (0,0))/\w'.heap[h]? =some (.cells (ls.flatMap lnc).toArray (53) (0,0))/\w.heap.size<=g/\w.heap.size<=h/\g≠h/\Below w.heap.size w w':=by
 obtain⟨i0,hin,hz0,hz1,hz2⟩:=info_parts infoB
 obtain⟨i1,hin1,hy0,hy1,hy2⟩:=info_parts infoL
 obtain⟨RB,hRB⟩: ∃RB:Array Value,RB=madeCells (Value.agg #[.string ⟨#[]⟩, .int .u64 0, .int .u64 0]).cells (n*3):=⟨_,rfl⟩
 obtain⟨RL,hRL⟩: ∃RL:Array Value,RL=madeCells (Value.agg #[.int .u64 0, .int .u64 0]).cells (m*2):=⟨_,rfl⟩
 have hmB: ∀u,(Instr.makeSlice (27) (.int .i64 (n:Int)) (.int .i64 (n:Int))).run Tryz.prog u= .ok (.slice (some ⟨u.heap.size,0,none⟩) n n) (u.alloc (.cells RB (73))):=fun u=>by
  have:=run_make (P:=Tryz.prog) u (27) (73) i0 _ Tryz.underlying27 hin hz0 .i64 .i64 n n (by omega) (by omega) (by rw [hz2];omega) (by omega)
  rw [this,hRB,hz1]
  rfl
 have hmL: ∀u,(Instr.makeSlice (28) (.int .i64 (m:Int)) (.int .i64 (m:Int))).run Tryz.prog u= .ok (.slice (some ⟨u.heap.size,0,none⟩) m m) (u.alloc (.cells RL (53))):=fun u=>by
  have:=run_make (P:=Tryz.prog) u (28) (53) i1 _ Tryz.underlying28 hin1 hy0 .i64 .i64 m m (by omega) (by omega) (by rw [hy2];omega) (by omega)
  rw [this,hRL,hy1]
  rfl
 have hRBs:RB.size=n*3:=by rw [hRB];exact size_madeCells _ _
 have hRLs:RL.size=m*2:=by rw [hRL];exact size_madeCells _ _
 obtain⟨W,hW⟩: ∃W:World,W=(w.alloc (.cells #[.slice ba n bc, .slice la m lc] (133))).alloc (.cells #[.slice none 0 0, .slice none 0 0] (133)):=⟨_,rfl⟩
 have hx0:W.heap[w.heap.size]? =some (.cells #[.slice ba n bc, .slice la m lc] (133) (0,0)):=by rw [hW];exact zz3 (zq3 rfl _)
 have HC:Hid (∀u,Below W.heap.size W u->u.cell? ⟨w.heap.size,0,none⟩=some (.slice ba n bc)/\u.cell? ⟨w.heap.size,1,none⟩=some (.slice la m lc)):=zh (fun u hu=>by
  have h0:=zq0 (zq4 hx0 hu (zq2 hx0)) 0
  have h1:=zq0 (zq4 hx0 hu (zq2 hx0)) 1
  simp at h0 h1
  exact⟨h0,h1⟩)
 have hx1:W.heap[w.heap.size+1]? =some (.cells #[.slice none 0 0, .slice none 0 0] (133) (0,0)):=by rw [hW];exact zq3 (by simp) _
 clear hRB hRL hin hin1 hx0
 go_enter Tryz.func73,Tryz.ntmps73
 go_upto_region 1 with fail
 go_cut [3] (fun v wx=> ∃g h p:Nat,v= .pointer (some ⟨p,0,none⟩)/\Hid (wx.heap[p]? =some (.cells #[.slice (some ⟨g,0,none⟩) n n, .slice (some ⟨h,0,none⟩) m m] (133) (0,0))/\wx.heap[g]? =some (.cells RB (73) (0,0))/\wx.heap[h]? =some (.cells RL (53) (0,0))/\w.heap.size+2<=g/\w.heap.size+2<=h/\g≠h/\w.heap.size+2<=p/\Below W.heap.size W wx))
 case first=>
  go_region_held3 (fun u=>u.cell? ⟨w.heap.size,0,none⟩=some (.slice ba n bc)/\u.cell? ⟨w.heap.size,1,none⟩=some (.slice la m lc)) (exact HC.out _ (by rw [hW];repeat(first|exact zb|refine balc ?_ |refine bdrw ?_))) (first|fail)
  all_goals go_wp2_with fail
  all_goals go_meet
  all_goals refine⟨_,_,_,rfl,zh ⟨by repeat(first|exact zq3 (by simp) _|refine zz3 ?_ |refine yqg ?_),by repeat(first|exact zq3 (by simp) _|refine zz3 ?_ |refine yqg ?_),by repeat(first|exact zq3 (by simp) _|refine zz3 ?_ |refine yqg ?_),by omega,by omega,by omega,by omega,by rw [hW];repeat(first|exact zb|refine balc ?_ |refine bdrw ?_)⟩⟩
 case rest=>
  obtain⟨g,h,p,rfl,hf⟩:=hcut
  obtain⟨hp,hgB,hhL,f1,f2,f3,f4,hbw⟩:=hf.out
  have hWs:W.heap.size=w.heap.size+2:=by rw [hW];simp
  have hBW:Below w.heap.size w W:=by rw [hW];exact balc (balc zb)
  have hBw:=hBW.trans (hbw.mono (by omega))
  obtain⟨w1,hr1,hg1,ho1,hs1,hb1⟩:=zw0 (P:=Tryz.prog) zk9 (by decide) yj0 wc (27) (27) (73) Tryz.underlying27 (by kernel_rfl) g n n bc ba RB (73) bs (hB.ext hBw) hn h0 hgB hRBs
  have hb1W:=hb1 _ _ (by omega) hbw
  have hb1w:=hBW.trans (hb1W.mono (by omega))
  obtain⟨w2,hr2,hg2,ho2,hs2,hb2⟩:=zw0 (P:=Tryz.prog) zkd (by decide) yjj w1 (28) (28) (53) Tryz.underlying28 (by kernel_rfl) h m m lc la RL (53) ls (hL.ext hb1w) hm h1 (by rw [ho1 _ (fun e=>f3 e.symm)];exact hhL) hRLs
  have hb2W:=hb2 _ _ (by omega) hb1W
  have hpl:=zq2 hp
  have hgl:=zq2 hgB
  have hhl:=zq2 hhL
  have hpg:p≠g:=fun e=>by
   rw [e,hgB] at hp
   injection hp with hp
   injection hp with h2 h3
   exact absurd h3 (by decide)
  have hph:p≠h:=fun e=>by
   rw [e,hhL] at hp
   injection hp with hp
   injection hp with h2 h3
   exact absurd h3 (by decide)
  have hp1:=(ho1 p hpg).trans hp
  have hp2:=(ho2 p hph).trans hp1
  have a0:=zq0 hp 0
  have a1:=zq0 hp1 1
  have a2:=zq0 hp2 0
  have a3:=zq0 hp2 1
  simp at a0 a1 a2 a3
  obtain⟨k0, -⟩:=HC.out wc hbw
  obtain⟨-,k1⟩:=HC.out w1 hb1W
  have hx2:=zq4 hx1 hb2W (by omega)
  have e0:=zq0 hx2 0
  have e1:=zq0 hx2 1
  have e2:=zq1 hx2 0
  have e3:=zq1 hx2 1
  simp at e0 e1
  have HG:=zh (show w2.heap[g]? =some (.cells (bs.flatMap brc).toArray (73) (0,0))/\w2.heap[h]? =some (.cells (ls.flatMap lnc).toArray (53) (0,0))/\Below W.heap.size W w2/\Below w.heap.size w W/\W.heap.size=w.heap.size+2 from⟨by rw [ho2 _ f3];exact hg1,hg2,hb2W,hBW,hWs⟩)
  clear hB hL hn hm hg1 ho1 hs1 hb1 hb1W hb1w hg2 ho2 hs2 hb2 hb2W hBW hBw hbw hp hp1 hp2 hx1 hx2 hgB hhL hf hpl hgl hhl HC hmB hmL hRBs hRLs hW hz0 hz1 hz2 hy0 hy1 hy2
  go_wp2_with(at_builtin;first|refine zk7 _ rfl _ _ (27) (27) rfl _ _ rfl rfl (hr1 _) ?_ |refine zk7 _ rfl _ _ (28) (28) rfl _ _ rfl rfl (hr2 _) ?_)
  (try simp only [Exit.inBlock,Exit.then])
  refine bodyPost_ret (v:=zxx (some ⟨g,0,none⟩) n n (some ⟨h,0,none⟩) m m) (by simp [results,Tryz.results73,go_sem, *]) rfl ?_
  obtain⟨q1,q2,q3,q4,q5⟩:=HG.out
  exact⟨g,h,rfl,blk_setCell_other (blk_setCell_other q1 (by show g≠w.heap.size+1;omega) _) (by show g≠w.heap.size+1;omega) _,blk_setCell_other (blk_setCell_other q2 (by show h≠w.heap.size+1;omega) _) (by show h≠w.heap.size+1;omega) _,by omega,by omega,f3,
   ((q4.trans (q3.mono (by omega))).setCell (by show w.heap.size<=w.heap.size+1;omega) _).setCell (by show w.heap.size<=w.heap.size+1;omega) _⟩
end Go.Proofs.YtchcelodeepjdaaGreatDoor.Ln

namespace Go.Herb
open Go.RowKit
theorem zw6 {α:Type}{enc:α->List Value}{s g:Nat}{w:World}{t:TypeId}{fr:Nat × Nat}{xs:List α}(hs: ∀x,(enc x).length=s)(h:w.heap[g]? =some (.cells (xs.flatMap enc).toArray t fr)):Els enc s w (some ⟨g,0,none⟩) xs:=
 ⟨fun i hi=>⟨g,0,rfl,zq2 h,fun j c hj=>by
  have hjs:j<s:=by
   rcases Nat.lt_or_ge j s with h'|h'
   ·exact h'
   ·rw [List.getElem?_eq_none (by rw [hs];exact h')] at hj;cases hj
  rw [zq0 h,Nat.zero_add]
  simp only [List.getElem?_toArray]
  rw [zxn hs xs i j hi hjs]
  exact hj⟩⟩
theorem zzf {a b:ByteArray}(h:a.toList=b.toList):a=b:=by
 rw [ByteArray.toList_eq,ByteArray.toList_eq] at h
 obtain⟨⟨a⟩⟩:=a
 obtain⟨⟨b⟩⟩:=b
 simp at h
 rw [h]
end Go.Herb
namespace Go.Proofs.YtchcelodeepjdaaGreatDoor.Ln
open Go.RowKit Go.Shelf Go.Herb

theorem zj5.mk2 {w:World}{p g h n m bc lc:Nat}{bs:List Br}{ls:List Ln}(hn:bs.length=n)(hm:ls.length=m)(hp:w.heap[p]? =some (.cells #[.slice (some ⟨g,0,none⟩) n bc, .slice (some ⟨h,0,none⟩) m lc, .int .i64 1] (168) (0,0)))
  (hg:w.heap[g]? =some (.cells (bs.flatMap brc).toArray (73) (0,0))) (hh:w.heap[h]? =some (.cells (ls.flatMap lnc).toArray (53) (0,0))):zj5 w p bs ls:=
 ⟨⟨_,_,_,_,by rw [hn,hm];exact hp,zw6 zk9 hg,zw6 zkd hh⟩⟩

def mainB:ByteArray:=⟨#[109,97,105,110]⟩
end Go.Proofs.YtchcelodeepjdaaGreatDoor.Ln

namespace Go.Herb
open Go.RowKit

structure Turn (b N:Nat)(A B:World):Prop where
 os:B.os=A.os
 tape:B.tape=A.tape
 output:B.output=A.output
 size:A.heap.size<=B.heap.size
 kept: ∀(k:Nat) (o:Obj),A.heap[k]? =some o->k≠b->(k<N\/o.isCells=true)->B.heap[k]? =some o
structure TurnI (b:Nat)(A B:World):Prop where
 os:B.os=A.os
 tape:B.tape=A.tape
 output:B.output=A.output
 size:A.heap.size<=B.heap.size
 kept: ∀(k:Nat) (o:Obj),A.heap[k]? =some o->k≠b->B.heap[k]? =some o
theorem TurnI.turn {b N:Nat}{A B:World}(h:TurnI b A B):Turn b N A B:=⟨h.os,h.tape,h.output,h.size,fun k o ho hk _=>h.kept k o ho hk⟩
theorem TurnI.of_below {b:Nat}{A B:World}(h:Below A.heap.size A B):TurnI b A B:=⟨h.os,h.tape,h.output,h.size,fun _ _ ho _=>zq4 ho h (zq2 ho)⟩
theorem TurnI.setCell {b j:Nat}{A:World}(v:Value):TurnI b A (A.setCell ⟨b,j,none⟩ v):=
 ⟨rfl,rfl,rfl,by rw [World.size_setCell];exact zr,fun _ _ ho hk=>blk_setCell_other ho hk v⟩
theorem TurnI.trans {b:Nat}{A B C:World}(h:TurnI b A B)(k:TurnI b B C):TurnI b A C:=
 ⟨k.os.trans h.os,k.tape.trans h.tape,k.output.trans h.output,Nat.le_trans h.size k.size,fun i o ho hi=>k.kept i o (h.kept i o ho hi) hi⟩
theorem TurnI.below {b B0:Nat}{w A B:World}(h:TurnI b A B)(hw:Below B0 w A)(hb:B0<=b)(hB:B0<=w.heap.size):Below B0 w B:=
 ⟨h.os.trans hw.os,h.tape.trans hw.tape,h.output.trans hw.output,Nat.le_trans hw.size h.size,fun k hk=>by
  have hl:k<A.heap.size:=by have:=hw.size;omega
  rw [<-hw.block k hk,Array.getElem?_eq_getElem hl]
  exact h.kept k _ (Array.getElem?_eq_getElem hl) (by omega)⟩
theorem Turn.below {b N B0:Nat}{w A B:World}(h:Turn b N A B)(hw:Below B0 w A)(hb:B0<=b)(hN:B0<=N)(hB:B0<=w.heap.size):Below B0 w B:=
 ⟨h.os.trans hw.os,h.tape.trans hw.tape,h.output.trans hw.output,Nat.le_trans hw.size h.size,fun k hk=>by
  have hl:k<A.heap.size:=by have:=hw.size;omega
  rw [<-hw.block k hk,Array.getElem?_eq_getElem hl]
  exact h.kept k _ (Array.getElem?_eq_getElem hl) (by omega) (.inl (by omega))⟩
theorem Turn.putObj {b N l:Nat}{A:World}{o:Obj}(o':Obj)(hl:A.heap[l]? =some o)(ho:o.isCells=false)(hN:N<=l):Turn b N A (A.putObj l o'):=
 ⟨rfl,rfl,rfl,by simp [World.putObj],fun k x hk _ hx=>by
  have hne:k≠l:=fun e=>by
   subst e
   rw [hl] at hk
   injection hk with hk
   subst hk
   rcases hx with h1|h1
   ·omega
   ·rw [ho] at h1;cases h1
  exact(World.putObj_heap_other hne).trans hk⟩
variable {P:Program}
end Go.Herb

namespace Go.Proofs.YtchcelodeepjdaaGreatDoor.Ln
open Go.RowKit Go.Shelf Go.Herb

theorem ykk {α:Type}{enc:α->List Value}{s:Nat}{w w':World}{a:Option Addr}{xs:List α}(h:Els enc s w a xs)(hs:w.heap.size<=w'.heap.size)(hw: ∀k,k<w.heap.size->w'.heap[k]? =w.heap[k]?):Els enc s w' a xs:=
 ⟨fun i hi=>by
  obtain⟨b,o',ha,hlt,hc⟩:=h.get i hi
  refine⟨b,o',ha,by omega,fun j c hj=> ?_⟩
  rw [<-hc j c hj]
  unfold World.cell?
  simp only [hw b hlt]⟩
theorem zj5.keep {w w':World}{p:Nat}{bs:List Br}{ls:List Ln}(h:zj5 w p bs ls)(hs:w.heap.size<=w'.heap.size)(hw: ∀k,k<w.heap.size->w'.heap[k]? =w.heap[k]?):zj5 w' p bs ls:=by
 have hl:=h.lt
 obtain⟨ba,bc,la,lc,h1,h2,h3⟩:=h.blk
 exact⟨ba,bc,la,lc,(hw p hl).trans h1,ykk h2 hs hw,ykk h3 hs hw⟩
end Go.Proofs.YtchcelodeepjdaaGreatDoor.Ln

namespace Go.Proofs.YtchcelodeepjdaaGreatDoor.Ln
open Go.RowKit Go.Shelf Go.Herb
attribute [local go_sem] Oper.semAt_some

theorem zzv {F:Fence}{n:Nat}{P:Program}{ops:Array Oper}{rest:List Oper}{o:Oper}{a:Act}{Q:Exit->Act->World->Prop}(w:World)(hgd:o.guard=none)(s x:Operand)(t tn:TypeId)
  (ho:o.op= .call {callee:= .builtin .append,args:= #[s,x],argTypes:= #[t,tn]}) (vs vx:Value) (hs:a.eval s=vs) (hx:a.eval x=vx)
  (v':Value) (w':World) (hr:(Builtin.append_ #[t,tn] o.type #[vs,vx]).run P w= .ok v' w')
  (h:wpListIn F n P ops Q rest (a.put o.dst v') w'):wpListIn F n P ops Q (o::rest) a w:=by
 refine wpListIn_plain hgd fun K hK'=> ?_
 unfold Oper.wpIn
 refine⟨?_,?_⟩
 ·simp [Oper.about,ho,resolve,Target.leads,Sem.run_pure]
 ·rw [Oper.semAt_plain F _ _ (by rw [ho];intro c hc';cases hc')]
  simp [execOp,ho,resolve,invoke,builtin,hs,hx,hr,Result.andThen]
  exact hK' _ _ h
end Go.Proofs.YtchcelodeepjdaaGreatDoor.Ln

namespace Go.Herb
def zxg (k:Nat):Code->Option Code
 | .region i ops d=>if i=k then some (.region i ops d)else none
 | .loop c=>zxg k c
 | .seq a b=>match zxg k a with
  |some c=>some c
  |none=>zxg k b
 | .block _ c=>zxg k c
 | .scope c=>zxg k c
 | .cond _ a b=>match zxg k a with
  |some c=>some c
  |none=>zxg k b
 |_=>none
end Go.Herb
namespace Go.Proofs.YtchcelodeepjdaaGreatDoor.Ln
open Go.RowKit Go.Herb
noncomputable def R9:Code:=((Tryz.f71.body.bind (zxg 9)).getD .skip)
set_option maxRecDepth 100000 in
set_option maxHeartbeats 2000000 in
theorem r9_A {p1 p6 M b o n bc m lc i k:Nat}{la:Option Addr}{xn yn:ByteArray}{xl c:Int}{X:World}{u0 u2 u3 u7 u8 u9 u10 u11 u12 u13 u14 u15 u16 u17 u18 u19 u20 u21 u22 u23 u24 u25 u26 u27 u28 u29 u30 u31 u32 u33 u34 u35 u36 u37 u38 u39 u40 u41 u42 u43 u44 u45 u46 u47 u48 u49 u50 u51 u52 u53 u54 u55 u56 u57 u58 u59 u60 u61 u62 u63 u64:Value}{Q:Exit->Act->World->Prop}
  (HKP:Hid (∀u,Below X.heap.size X u->u.cell? ⟨p6,0,none⟩=some (.string xn)/\u.cell? ⟨p6,1,none⟩=some (.int .u64 xl)/\u.cell? ⟨p1,0,none⟩=some (.slice (some ⟨b,o,none⟩) n bc)/\u.cell? ⟨p1,1,none⟩=some (.slice la m lc)/\u.cell? ⟨b,o+k*3,none⟩=some (.string yn)/\(Instr.lookup (144) (.map (some M)) (.int .u64 xl) false).run Tryz.prog u= .ok (.int .i64 (c+1)) u))
  (HIN:Hid (∀u,Below X.heap.size X u->Calls Tryz.prog (99) #[.string xn] u (fun e w'=>e= .returned (.bool false)/\Below u.heap.size u w')))
  (hP: ∀ch a a' w',a'.defers=a.defers->Q (.panic ch) a w'->Q (.panic ch) a' w')
  (hQ: ∀(v30 v31 v32 v33 v34 v35 v36 v37 v38 v39 v40 v41 v42 v43 v44 v45 v46 v47 v48 v49 v50 v51 v52 v53 v54 v55 v56 v57 v58 v59 v60 v61 v62:Value) (w':World),Below X.heap.size X w'->Q .normal ⟨#[u0, .pointer (some ⟨p1,0,none⟩),u2,u3, .map (some M), .int .i64 (i:Int), .pointer (some ⟨p6,0,none⟩),u7,u8,u9,u10,u11,u12,u13,u14,u15,u16,u17,u18,u19,u20,u21,u22,u23,u24,u25,u26,u27,u28,u29,v30,v31,v32,v33,v34,v35,v36,v37,v38,v39,v40,v41,v42,v43,v44,v45,v46,v47,v48,v49,v50,v51,v52,v53,v54,v55,v56,v57,v58,v59,v60,v61,v62, .bool (true),u64], []⟩ w'):
  Code.wp Tryz.prog R9 Q ⟨#[u0, .pointer (some ⟨p1,0,none⟩),u2,u3, .map (some M), .int .i64 (i:Int), .pointer (some ⟨p6,0,none⟩),u7,u8,u9,u10,u11,u12,u13,u14,u15,u16,u17,u18,u19,u20,u21,u22,u23,u24,u25,u26,u27,u28,u29,u30,u31,u32,u33,u34,u35,u36,u37,u38,u39,u40,u41,u42,u43,u44,u45,u46,u47,u48,u49,u50,u51,u52,u53,u54,u55,u56,u57,u58,u59,u60,u61,u62,u63,u64], []⟩ X:=by
 conv=>arg 2;whnf
 have HP:=zh hP
 have HQ:=zh hQ
 clear hP hQ
 have HDA:=zh (show Below X.heap.size X X.drew from(Below.refl X.heap.size X).drew)
 refine wp_region_held_drew (S:=fun u=>u.cell? ⟨p6,0,none⟩=some (.string xn)/\u.cell? ⟨p6,1,none⟩=some (.int .u64 xl)/\u.cell? ⟨p1,0,none⟩=some (.slice (some ⟨b,o,none⟩) n bc)/\u.cell? ⟨p1,1,none⟩=some (.slice la m lc)/\u.cell? ⟨b,o+k*3,none⟩=some (.string yn)/\(Instr.lookup (144) (.map (some M)) (.int .u64 xl) false).run Tryz.prog u= .ok (.int .i64 (c+1)) u) (by kernel_rfl) (by first|exact HKP.out _ hbu|exact HKP.out _ HDA.out) (fun hHeld=> ?_)
 refine tkI HP.out 0 (h:= ?_)
 refine tkI HP.out 1 (h:= ?_)
 try simp only [Act.put,lsa,lsz,lss]
 refine tkC 2 (h:=fun K hK=> ?_)
 go_wp2_with(go_at_call 99;(with_reducible refine(HIN.out _ HDA.out).mono ?_);rintro e w5 ⟨rfl,hb5⟩;have hbu:=HDA.out.trans (hb5.mono HDA.out.size))
 refine hK.out _ _ (by first|exact HKP.out _ hbu|exact HKP.out _ HDA.out) (fun hHeld=> ?_)
 clear hK K
 try simp only [Act.put,lsa,lsz,lss]
 refine tkI HP.out 3 (h:= ?_)
 refine tkI HP.out 4 (h:= ?_)
 try simp only [Act.put,lsa,lsz,lss]
 refine tkO HP.out 5 (h:= ?_)
 refine tkO HP.out 6 (h:= ?_)
 refine tkO HP.out 7 (h:= ?_)
 try simp only [Act.put,lsa,lsz,lss]
 refine tkO HP.out 8 (h:= ?_)
 refine tkO HP.out 9 (h:= ?_)
 refine tkO HP.out 10 (h:= ?_)
 try simp only [Act.put,lsa,lsz,lss]
 refine tkO HP.out 11 (h:= ?_)
 refine tkO HP.out 12 (h:= ?_)
 refine tkO HP.out 13 (h:= ?_)
 try simp only [Act.put,lsa,lsz,lss]
 refine tkO HP.out 14 (h:= ?_)
 refine tkO HP.out 15 (h:= ?_)
 refine tkO HP.out 16 (h:= ?_)
 try simp only [Act.put,lsa,lsz,lss]
 refine tkO HP.out 17 (h:= ?_)
 refine tkO HP.out 18 (h:= ?_)
 refine tkI HP.out 19 (h:= ?_)
 try simp only [Act.put,lsa,lsz,lss]
 refine tkI HP.out 20 (h:= ?_)
 refine tkO HP.out 21 (h:= ?_)
 refine tkO HP.out 22 (h:= ?_)
 try simp only [Act.put,lsa,lsz,lss]
 refine tkO HP.out 23 (h:= ?_)
 refine tkO HP.out 24 (h:= ?_)
 refine tkO HP.out 25 (h:= ?_)
 try simp only [Act.put,lsa,lsz,lss]
 refine tkI HP.out 26 (h:= ?_)
 refine tkI HP.out 27 (h:= ?_)
 refine tkO HP.out 28 (h:= ?_)
 try simp only [Act.put,lsa,lsz,lss]
 refine tkO HP.out 29 (h:= ?_)
 refine tkO HP.out 30 (h:= ?_)
 refine tkO HP.out 31 (h:= ?_)
 try simp only [Act.put,lsa,lsz,lss]
 refine tkO HP.out 32 (h:= ?_)
 refine tkI HP.out 33 (h:= ?_)
 try simp only [Act.put,lsa,lsz,lss]
 refine wpAnyH_done (by kernel_rfl) ?_ _
 exact HQ.out _ _ _ _ _ _ _ _ _ _ _ _ _ _ _ _ _ _ _ _ _ _ _ _ _ _ _ _ _ _ _ _ _ _ hbu
end Go.Proofs.YtchcelodeepjdaaGreatDoor.Ln

namespace Go.Proofs.YtchcelodeepjdaaGreatDoor.Ln
open Go.RowKit Go.Herb
set_option maxRecDepth 100000 in
set_option maxHeartbeats 2000000 in
theorem r9_B1 {p1 p6 M b o n bc m lc i k:Nat}{la:Option Addr}{xn yn:ByteArray}{xl c:Int}{X:World}{u0 u2 u3 u7 u8 u9 u10 u11 u12 u13 u14 u15 u16 u17 u18 u19 u20 u21 u22 u23 u24 u25 u26 u27 u28 u29 u30 u31 u32 u33 u34 u35 u36 u37 u38 u39 u40 u41 u42 u43 u44 u45 u46 u47 u48 u49 u50 u51 u52 u53 u54 u55 u56 u57 u58 u59 u60 u61 u62 u63 u64:Value}{Q:Exit->Act->World->Prop}
  (HKP:Hid (∀u,Below X.heap.size X u->u.cell? ⟨p6,0,none⟩=some (.string xn)/\u.cell? ⟨p6,1,none⟩=some (.int .u64 xl)/\u.cell? ⟨p1,0,none⟩=some (.slice (some ⟨b,o,none⟩) n bc)/\u.cell? ⟨p1,1,none⟩=some (.slice la m lc)/\u.cell? ⟨b,o+k*3,none⟩=some (.string yn)/\(Instr.lookup (144) (.map (some M)) (.int .u64 xl) false).run Tryz.prog u= .ok (.int .i64 (c+1)) u))
  (HIN:Hid (∀u,Below X.heap.size X u->Calls Tryz.prog (99) #[.string xn] u (fun e w'=>e= .returned (.bool true)/\Below u.heap.size u w')))
  (HLI:Hid (∀u,Below X.heap.size X u->Calls Tryz.prog (98) #[zxx (some ⟨b,o,none⟩) n bc la m lc, .int .u64 xl] u (fun e w'=>e= .returned (.int .i64 (-1))/\Below u.heap.size u w')))
  (h0i: ¬0<i) (_d0:decide ((0:Int)<(i:Int))=false)
  (hP: ∀ch a a' w',a'.defers=a.defers->Q (.panic ch) a w'->Q (.panic ch) a' w')
  (hQ: ∀(v30 v31 v32 v33 v34 v35 v36 v37 v38 v39 v40 v41 v42 v43 v44 v45 v46 v47 v48 v49 v50 v51 v52 v53 v54 v55 v56 v57 v58 v59 v60 v61 v62:Value) (w':World),Below X.heap.size X w'->Q .normal ⟨#[u0, .pointer (some ⟨p1,0,none⟩),u2,u3, .map (some M), .int .i64 (i:Int), .pointer (some ⟨p6,0,none⟩),u7,u8,u9,u10,u11,u12,u13,u14,u15,u16,u17,u18,u19,u20,u21,u22,u23,u24,u25,u26,u27,u28,u29,v30,v31,v32,v33,v34,v35,v36,v37,v38,v39,v40,v41,v42,v43,v44,v45,v46,v47,v48,v49,v50,v51,v52,v53,v54,v55,v56,v57,v58,v59,v60,v61,v62, .bool (true),u64], []⟩ w'):
  Code.wp Tryz.prog R9 Q ⟨#[u0, .pointer (some ⟨p1,0,none⟩),u2,u3, .map (some M), .int .i64 (i:Int), .pointer (some ⟨p6,0,none⟩),u7,u8,u9,u10,u11,u12,u13,u14,u15,u16,u17,u18,u19,u20,u21,u22,u23,u24,u25,u26,u27,u28,u29,u30,u31,u32,u33,u34,u35,u36,u37,u38,u39,u40,u41,u42,u43,u44,u45,u46,u47,u48,u49,u50,u51,u52,u53,u54,u55,u56,u57,u58,u59,u60,u61,u62,u63,u64], []⟩ X:=by
 conv=>arg 2;whnf
 have HP:=zh hP
 have HQ:=zh hQ
 clear hP hQ
 have HDA:=zh (show Below X.heap.size X X.drew from(Below.refl X.heap.size X).drew)
 have hm2:decide ((-1:Int)<0)=true:=by decide
 refine wp_region_held_drew (S:=fun u=>u.cell? ⟨p6,0,none⟩=some (.string xn)/\u.cell? ⟨p6,1,none⟩=some (.int .u64 xl)/\u.cell? ⟨p1,0,none⟩=some (.slice (some ⟨b,o,none⟩) n bc)/\u.cell? ⟨p1,1,none⟩=some (.slice la m lc)/\u.cell? ⟨b,o+k*3,none⟩=some (.string yn)/\(Instr.lookup (144) (.map (some M)) (.int .u64 xl) false).run Tryz.prog u= .ok (.int .i64 (c+1)) u) (by kernel_rfl) (by first|exact HKP.out _ hbu|exact HKP.out _ HDA.out) (fun hHeld=> ?_)
 refine tkI HP.out 0 (h:= ?_)
 refine tkI HP.out 1 (h:= ?_)
 try simp only [Act.put,lsa,lsz,lss]
 refine tkC 2 (h:=fun K hK=> ?_)
 go_wp2_with(go_at_call 99;(with_reducible refine(HIN.out _ HDA.out).mono ?_);rintro e w5 ⟨rfl,hb5⟩;have hbu:=HDA.out.trans (hb5.mono HDA.out.size))
 refine hK.out _ _ (by first|exact HKP.out _ hbu|exact HKP.out _ HDA.out) (fun hHeld=> ?_)
 clear hK K
 try simp only [Act.put,lsa,lsz,lss]
 refine tkI HP.out 3 (h:= ?_)
 refine tkI HP.out 4 (h:= ?_)
 try simp only [Act.put,lsa,lsz,lss]
 refine tkI HP.out 5 (h:= ?_)
 refine tkI HP.out 6 (h:= ?_)
 refine tkI HP.out 7 (h:= ?_)
 try simp only [Act.put,lsa,lsz,lss]
 refine tkO HP.out 8 (h:= ?_)
 refine tkO HP.out 9 (h:= ?_)
 refine tkO HP.out 10 (h:= ?_)
 try simp only [Act.put,lsa,lsz,lss]
 refine tkO HP.out 11 (h:= ?_)
 refine tkO HP.out 12 (h:= ?_)
 refine tkO HP.out 13 (h:= ?_)
 try simp only [Act.put,lsa,lsz,lss]
 refine tkO HP.out 14 (h:= ?_)
 refine tkO HP.out 15 (h:= ?_)
 refine tkO HP.out 16 (h:= ?_)
 try simp only [Act.put,lsa,lsz,lss]
 refine tkO HP.out 17 (h:= ?_)
 refine tkI HP.out 18 (h:= ?_)
 refine tkI HP.out 19 (h:= ?_)
 try simp only [Act.put,lsa,lsz,lss]
 refine tkI HP.out 20 (h:= ?_)
 refine tkI HP.out 21 (h:= ?_)
 refine tkI HP.out 22 (h:= ?_)
 try simp only [Act.put,lsa,lsz,lss]
 refine tkI HP.out 23 (h:= ?_)
 try simp only [Act.put,lsa,lsz,lss]
 refine tkC 24 (h:=fun K hK=> ?_)
 go_wp2_with(go_at_call 98;(with_reducible refine(HLI.out _ hbu).mono ?_);rintro e w6 ⟨rfl,hb6⟩;have hbu:=hbu.trans (hb6.mono hbu.size))
 refine hK.out _ _ (by first|exact HKP.out _ hbu|exact HKP.out _ HDA.out) (fun hHeld=> ?_)
 clear hK K
 try simp only [Act.put,lsa,lsz,lss]
 refine tkI HP.out 25 (h:= ?_)
 refine tkI HP.out 26 (h:= ?_)
 refine tkI HP.out 27 (h:= ?_)
 try simp only [Act.put,lsa,lsz,lss]
 refine tkO HP.out 28 (h:= ?_)
 refine tkO HP.out 29 (h:= ?_)
 refine tkO HP.out 30 (h:= ?_)
 try simp only [Act.put,lsa,lsz,lss]
 refine tkO HP.out 31 (h:= ?_)
 refine tkO HP.out 32 (h:= ?_)
 refine tkI HP.out 33 (h:= ?_)
 try simp only [Act.put,lsa,lsz,lss]
 refine wpAnyH_done (by kernel_rfl) ?_ _
 exact HQ.out _ _ _ _ _ _ _ _ _ _ _ _ _ _ _ _ _ _ _ _ _ _ _ _ _ _ _ _ _ _ _ _ _ _ hbu
end Go.Proofs.YtchcelodeepjdaaGreatDoor.Ln

namespace Go.Proofs.YtchcelodeepjdaaGreatDoor.Ln
open Go.RowKit Go.Herb
set_option maxRecDepth 100000 in
set_option maxHeartbeats 2000000 in
theorem r9_B2 {p1 p6 M b o n bc m lc i k:Nat}{la:Option Addr}{xn yn:ByteArray}{xl c:Int}{X:World}{u0 u2 u3 u7 u8 u9 u10 u11 u12 u13 u14 u15 u16 u17 u18 u19 u20 u21 u22 u23 u24 u25 u26 u27 u28 u29 u30 u31 u32 u33 u34 u35 u36 u37 u38 u39 u40 u41 u42 u43 u44 u45 u46 u47 u48 u49 u50 u51 u52 u53 u54 u55 u56 u57 u58 u59 u60 u61 u62 u63 u64:Value}{Q:Exit->Act->World->Prop}
  (HKP:Hid (∀u,Below X.heap.size X u->u.cell? ⟨p6,0,none⟩=some (.string xn)/\u.cell? ⟨p6,1,none⟩=some (.int .u64 xl)/\u.cell? ⟨p1,0,none⟩=some (.slice (some ⟨b,o,none⟩) n bc)/\u.cell? ⟨p1,1,none⟩=some (.slice la m lc)/\u.cell? ⟨b,o+k*3,none⟩=some (.string yn)/\(Instr.lookup (144) (.map (some M)) (.int .u64 xl) false).run Tryz.prog u= .ok (.int .i64 (c+1)) u))
  (HIN:Hid (∀u,Below X.heap.size X u->Calls Tryz.prog (99) #[.string xn] u (fun e w'=>e= .returned (.bool true)/\Below u.heap.size u w')))
  (HLI:Hid (∀u,Below X.heap.size X u->Calls Tryz.prog (98) #[zxx (some ⟨b,o,none⟩) n bc la m lc, .int .u64 xl] u (fun e w'=> ∃j:Nat,e= .returned (.int .i64 (j:Int))/\Below u.heap.size u w')))
  (h0i: ¬0<i) (_d0:decide ((0:Int)<(i:Int))=false)
  (hP: ∀ch a a' w',a'.defers=a.defers->Q (.panic ch) a w'->Q (.panic ch) a' w')
  (hQ: ∀(v30 v31 v32 v33 v34 v35 v36 v37 v38 v39 v40 v41 v42 v43 v44 v45 v46 v47 v48 v49 v50 v51 v52 v53 v54 v55 v56 v57 v58 v59 v60 v61 v62:Value) (w':World),Below X.heap.size X w'->Q .normal ⟨#[u0, .pointer (some ⟨p1,0,none⟩),u2,u3, .map (some M), .int .i64 (i:Int), .pointer (some ⟨p6,0,none⟩),u7,u8,u9,u10,u11,u12,u13,u14,u15,u16,u17,u18,u19,u20,u21,u22,u23,u24,u25,u26,u27,u28,u29,v30,v31,v32,v33,v34,v35,v36,v37,v38,v39,v40,v41,v42,v43,v44,v45,v46,v47,v48,v49,v50,v51,v52,v53,v54,v55,v56,v57,v58,v59,v60,v61,v62, .bool (decide (1<c+1)),u64], []⟩ w'):
  Code.wp Tryz.prog R9 Q ⟨#[u0, .pointer (some ⟨p1,0,none⟩),u2,u3, .map (some M), .int .i64 (i:Int), .pointer (some ⟨p6,0,none⟩),u7,u8,u9,u10,u11,u12,u13,u14,u15,u16,u17,u18,u19,u20,u21,u22,u23,u24,u25,u26,u27,u28,u29,u30,u31,u32,u33,u34,u35,u36,u37,u38,u39,u40,u41,u42,u43,u44,u45,u46,u47,u48,u49,u50,u51,u52,u53,u54,u55,u56,u57,u58,u59,u60,u61,u62,u63,u64], []⟩ X:=by
 conv=>arg 2;whnf
 have HP:=zh hP
 have HQ:=zh hQ
 clear hP hQ
 have HDA:=zh (show Below X.heap.size X X.drew from(Below.refl X.heap.size X).drew)
 refine wp_region_held_drew (S:=fun u=>u.cell? ⟨p6,0,none⟩=some (.string xn)/\u.cell? ⟨p6,1,none⟩=some (.int .u64 xl)/\u.cell? ⟨p1,0,none⟩=some (.slice (some ⟨b,o,none⟩) n bc)/\u.cell? ⟨p1,1,none⟩=some (.slice la m lc)/\u.cell? ⟨b,o+k*3,none⟩=some (.string yn)/\(Instr.lookup (144) (.map (some M)) (.int .u64 xl) false).run Tryz.prog u= .ok (.int .i64 (c+1)) u) (by kernel_rfl) (by first|exact HKP.out _ hbu|exact HKP.out _ HDA.out) (fun hHeld=> ?_)
 refine tkI HP.out 0 (h:= ?_)
 refine tkI HP.out 1 (h:= ?_)
 try simp only [Act.put,lsa,lsz,lss]
 refine tkC 2 (h:=fun K hK=> ?_)
 go_wp2_with(go_at_call 99;(with_reducible refine(HIN.out _ HDA.out).mono ?_);rintro e w5 ⟨rfl,hb5⟩;have hbu:=HDA.out.trans (hb5.mono HDA.out.size))
 refine hK.out _ _ (by first|exact HKP.out _ hbu|exact HKP.out _ HDA.out) (fun hHeld=> ?_)
 clear hK K
 try simp only [Act.put,lsa,lsz,lss]
 refine tkI HP.out 3 (h:= ?_)
 refine tkI HP.out 4 (h:= ?_)
 try simp only [Act.put,lsa,lsz,lss]
 refine tkI HP.out 5 (h:= ?_)
 refine tkI HP.out 6 (h:= ?_)
 refine tkI HP.out 7 (h:= ?_)
 try simp only [Act.put,lsa,lsz,lss]
 refine tkO HP.out 8 (h:= ?_)
 refine tkO HP.out 9 (h:= ?_)
 refine tkO HP.out 10 (h:= ?_)
 try simp only [Act.put,lsa,lsz,lss]
 refine tkO HP.out 11 (h:= ?_)
 refine tkO HP.out 12 (h:= ?_)
 refine tkO HP.out 13 (h:= ?_)
 try simp only [Act.put,lsa,lsz,lss]
 refine tkO HP.out 14 (h:= ?_)
 refine tkO HP.out 15 (h:= ?_)
 refine tkO HP.out 16 (h:= ?_)
 try simp only [Act.put,lsa,lsz,lss]
 refine tkO HP.out 17 (h:= ?_)
 refine tkI HP.out 18 (h:= ?_)
 refine tkI HP.out 19 (h:= ?_)
 try simp only [Act.put,lsa,lsz,lss]
 refine tkI HP.out 20 (h:= ?_)
 refine tkI HP.out 21 (h:= ?_)
 refine tkI HP.out 22 (h:= ?_)
 try simp only [Act.put,lsa,lsz,lss]
 refine tkI HP.out 23 (h:= ?_)
 try simp only [Act.put,lsa,lsz,lss]
 refine tkC 24 (h:=fun K hK=> ?_)
 go_wp2_with(go_at_call 98;(with_reducible refine(HLI.out _ hbu).mono ?_);rintro e w6 ⟨j,rfl,hb6⟩;have hbu:=hbu.trans (hb6.mono hbu.size);have hj0:decide ((j:Int)<0)=false:=decide_eq_false (by omega))
 refine hK.out _ _ (by first|exact HKP.out _ hbu|exact HKP.out _ HDA.out) (fun hHeld=> ?_)
 clear hK K
 try simp only [Act.put,lsa,lsz,lss]
 refine tkI HP.out 25 (h:= ?_)
 refine tkI HP.out 26 (h:= ?_)
 refine tkI HP.out 27 (h:= ?_)
 try simp only [Act.put,lsa,lsz,lss]
 refine tkI HP.out 28 (h:= ?_)
 refine tkI HP.out 29 (h:= ?_)
 refine tkI HP.out 30 (h:= ?_)
 try simp only [Act.put,lsa,lsz,lss]
 refine tkI HP.out 31 (h:= ?_)
 refine tkI HP.out 32 (h:= ?_)
 refine tkI HP.out 33 (h:= ?_)
 try simp only [Act.put,lsa,lsz,lss]
 refine wpAnyH_done (by kernel_rfl) ?_ _
 exact HQ.out _ _ _ _ _ _ _ _ _ _ _ _ _ _ _ _ _ _ _ _ _ _ _ _ _ _ _ _ _ _ _ _ _ _ hbu
end Go.Proofs.YtchcelodeepjdaaGreatDoor.Ln

namespace Go.Proofs.YtchcelodeepjdaaGreatDoor.Ln
open Go.RowKit Go.Herb
set_option maxRecDepth 100000 in
set_option maxHeartbeats 2000000 in
theorem r9_C1 {p1 p6 M b o n bc m lc i k:Nat}{la:Option Addr}{xn yn:ByteArray}{xl c:Int}{X:World}{u0 u2 u3 u7 u8 u9 u10 u11 u12 u13 u14 u15 u16 u17 u18 u19 u20 u21 u22 u23 u24 u25 u26 u27 u28 u29 u30 u31 u32 u33 u34 u35 u36 u37 u38 u39 u40 u41 u42 u43 u44 u45 u46 u47 u48 u49 u50 u51 u52 u53 u54 u55 u56 u57 u58 u59 u60 u61 u62 u63 u64:Value}{Q:Exit->Act->World->Prop}
  (HKP:Hid (∀u,Below X.heap.size X u->u.cell? ⟨p6,0,none⟩=some (.string xn)/\u.cell? ⟨p6,1,none⟩=some (.int .u64 xl)/\u.cell? ⟨p1,0,none⟩=some (.slice (some ⟨b,o,none⟩) n bc)/\u.cell? ⟨p1,1,none⟩=some (.slice la m lc)/\u.cell? ⟨b,o+k*3,none⟩=some (.string yn)/\(Instr.lookup (144) (.map (some M)) (.int .u64 xl) false).run Tryz.prog u= .ok (.int .i64 (c+1)) u))
  (HIN:Hid (∀u,Below X.heap.size X u->Calls Tryz.prog (99) #[.string xn] u (fun e w'=>e= .returned (.bool true)/\Below u.heap.size u w')))
  (h0i:0<i) (_d0:decide ((0:Int)<(i:Int))=true) (hw3:IntKind.i64.wrap ((i:Int) - 1)=(k:Int)) (hk0:(0:Int)<=(k:Int)) (hk1:(k:Int)<(n:Int))
  (d1:(Op.bytesLess xn.toList yn.toList||xn.toList==yn.toList)=true)
  (hP: ∀ch a a' w',a'.defers=a.defers->Q (.panic ch) a w'->Q (.panic ch) a' w')
  (hQ: ∀(v30 v31 v32 v33 v34 v35 v36 v37 v38 v39 v40 v41 v42 v43 v44 v45 v46 v47 v48 v49 v50 v51 v52 v53 v54 v55 v56 v57 v58 v59 v60 v61 v62:Value) (w':World),Below X.heap.size X w'->Q .normal ⟨#[u0, .pointer (some ⟨p1,0,none⟩),u2,u3, .map (some M), .int .i64 (i:Int), .pointer (some ⟨p6,0,none⟩),u7,u8,u9,u10,u11,u12,u13,u14,u15,u16,u17,u18,u19,u20,u21,u22,u23,u24,u25,u26,u27,u28,u29,v30,v31,v32,v33,v34,v35,v36,v37,v38,v39,v40,v41,v42,v43,v44,v45,v46,v47,v48,v49,v50,v51,v52,v53,v54,v55,v56,v57,v58,v59,v60,v61,v62, .bool (true),u64], []⟩ w'):
  Code.wp Tryz.prog R9 Q ⟨#[u0, .pointer (some ⟨p1,0,none⟩),u2,u3, .map (some M), .int .i64 (i:Int), .pointer (some ⟨p6,0,none⟩),u7,u8,u9,u10,u11,u12,u13,u14,u15,u16,u17,u18,u19,u20,u21,u22,u23,u24,u25,u26,u27,u28,u29,u30,u31,u32,u33,u34,u35,u36,u37,u38,u39,u40,u41,u42,u43,u44,u45,u46,u47,u48,u49,u50,u51,u52,u53,u54,u55,u56,u57,u58,u59,u60,u61,u62,u63,u64], []⟩ X:=by
 conv=>arg 2;whnf
 have HP:=zh hP
 have HQ:=zh hQ
 clear hP hQ
 have HDA:=zh (show Below X.heap.size X X.drew from(Below.refl X.heap.size X).drew)
 refine wp_region_held_drew (S:=fun u=>u.cell? ⟨p6,0,none⟩=some (.string xn)/\u.cell? ⟨p6,1,none⟩=some (.int .u64 xl)/\u.cell? ⟨p1,0,none⟩=some (.slice (some ⟨b,o,none⟩) n bc)/\u.cell? ⟨p1,1,none⟩=some (.slice la m lc)/\u.cell? ⟨b,o+k*3,none⟩=some (.string yn)/\(Instr.lookup (144) (.map (some M)) (.int .u64 xl) false).run Tryz.prog u= .ok (.int .i64 (c+1)) u) (by kernel_rfl) (by first|exact HKP.out _ hbu|exact HKP.out _ HDA.out) (fun hHeld=> ?_)
 refine tkI HP.out 0 (h:= ?_)
 refine tkI HP.out 1 (h:= ?_)
 try simp only [Act.put,lsa,lsz,lss]
 refine tkC 2 (h:=fun K hK=> ?_)
 go_wp2_with(go_at_call 99;(with_reducible refine(HIN.out _ HDA.out).mono ?_);rintro e w5 ⟨rfl,hb5⟩;have hbu:=HDA.out.trans (hb5.mono HDA.out.size))
 refine hK.out _ _ (by first|exact HKP.out _ hbu|exact HKP.out _ HDA.out) (fun hHeld=> ?_)
 clear hK K
 try simp only [Act.put,lsa,lsz,lss]
 refine tkI HP.out 3 (h:= ?_)
 refine tkI HP.out 4 (h:= ?_)
 try simp only [Act.put,lsa,lsz,lss]
 refine tkI HP.out 5 (h:= ?_)
 refine tkI HP.out 6 (h:= ?_)
 refine tkI HP.out 7 (h:= ?_)
 try simp only [Act.put,lsa,lsz,lss]
 refine tkI HP.out 8 (h:= ?_)
 refine tkI HP.out 9 (h:= ?_)
 refine tkI HP.out 10 (h:= ?_)
 try simp only [Act.put,lsa,lsz,lss]
 refine tkI HP.out 11 (h:= ?_)
 refine tkI HP.out 12 (h:= ?_)
 refine tkI HP.out 13 (h:= ?_)
 try simp only [Act.put,lsa,lsz,lss]
 refine tkI HP.out 14 (h:= ?_)
 refine tkI HP.out 15 (h:= ?_)
 refine tkI HP.out 16 (h:= ?_)
 try simp only [Act.put,lsa,lsz,lss]
 refine tkI HP.out 17 (h:= ?_)
 refine tkI HP.out 18 (h:= ?_)
 refine tkI HP.out 19 (h:= ?_)
 try simp only [Act.put,lsa,lsz,lss]
 refine tkI HP.out 20 (h:= ?_)
 refine tkO HP.out 21 (h:= ?_)
 refine tkO HP.out 22 (h:= ?_)
 try simp only [Act.put,lsa,lsz,lss]
 refine tkO HP.out 23 (h:= ?_)
 refine tkO HP.out 24 (h:= ?_)
 refine tkO HP.out 25 (h:= ?_)
 try simp only [Act.put,lsa,lsz,lss]
 refine tkI HP.out 26 (h:= ?_)
 refine tkI HP.out 27 (h:= ?_)
 refine tkO HP.out 28 (h:= ?_)
 try simp only [Act.put,lsa,lsz,lss]
 refine tkO HP.out 29 (h:= ?_)
 refine tkO HP.out 30 (h:= ?_)
 refine tkO HP.out 31 (h:= ?_)
 try simp only [Act.put,lsa,lsz,lss]
 refine tkO HP.out 32 (h:= ?_)
 refine tkI HP.out 33 (h:= ?_)
 try simp only [Act.put,lsa,lsz,lss]
 refine wpAnyH_done (by kernel_rfl) ?_ _
 exact HQ.out _ _ _ _ _ _ _ _ _ _ _ _ _ _ _ _ _ _ _ _ _ _ _ _ _ _ _ _ _ _ _ _ _ _ hbu
end Go.Proofs.YtchcelodeepjdaaGreatDoor.Ln
