/- Lemmas and walks towards ManifestsFold. Conditions: each one tells its own. -/
import Derived.Test.YtchcelodeepjdaaGreatDoorMp
import Derived.Test.YtchcelodeepjdaaGreatDoorZUb
import Derived.Deep.DeepCutAuto
namespace Go.Proofs.YtchcelodeepjdaaGreatDoor.Ln
open Go.RowKit Go.Shelf Go.Herb

theorem zqx {u u':World}{M e s n:Nat}{v:Value}{xs:List Value}(h:u.ownsRow M e s v n xs)(hk: ∀g cs,u.heap[g]? =some (.cells cs e (0,0))->M<=g->u'.heap[g]? =some (.cells cs e (0,0))):u'.ownsRow M e s v n xs:=by
 obtain⟨h0,h1⟩:=h
 refine⟨h0,?_⟩
 rcases h1 with h1|⟨g,cap,cur,hv,hg,hh,hr⟩
 ·exact .inl h1
 ·exact .inr ⟨g,cap,cur,hv,hg,hk g cur hh hg,hr⟩
theorem zqf {u u':World}{p M e s n:Nat}{v:Value}{xs:List Value}(h:u.ownsRow M e s v n xs)(ht:TurnI p u u')(hp:p<M):u'.ownsRow M e s v n xs:=
 zqx h (fun g _ hh hg=>ht.kept g _ hh (by omega))
theorem zqr {u:World}{M e s n b j:Nat}{v:Value}{xs:List Value}{cs:Array Value}{t:TypeId}{fr:Nat × Nat}(h:u.ownsRow M e s v n xs)(hb:u.heap[b]? =some (.cells cs t fr))(ht:t≠e)(x:Value):(u.setCell ⟨b,j,none⟩ x).ownsRow M e s v n xs:=
 zqx h (fun g cs' hh _=>blk_setCell_other hh (show g≠b from fun e2=>by rw [e2,hb] at hh;cases hh;exact ht rfl) x)
theorem zzs {u:World}{M e s n:Nat}{v:Value}{xs:List Value}(h:u.ownsRow M e s v n xs)(o:Obj):(u.alloc o).ownsRow M e s v n xs:=ownsRow_below h (zb.alloc zr o) zr
theorem zx6 {u u':World}{M M' e s n e' s' n':Nat}{v v':Value}{xs xs':List Value}(h:u.ownsRow M e s v n xs)(h':u.ownsRow M' e' s' v' n' xs')(hg:u.grownBy u' v'.ownBlock)(hne:e≠e'):u'.ownsRow M e s v n xs:=
 zqx h (fun g cs hh _=>(hg.block g (zq2 hh) (fun hk=>by
  obtain⟨-,⟨h1, -⟩|⟨g',cap,cur,hv, -,hh', -⟩⟩:=h'
  ·rw [h1] at hk;cases hk
  ·rw [hv] at hk
   cases hk
   rw [hh] at hh'
   cases hh'
   exact hne rfl)).trans hh)
theorem yvp {u u':World}{M' e' s' n' g:Nat}{v':Value}{xs':List Value}{cs:Array Value}{t:TypeId}{fr:Nat × Nat}(h:u.heap[g]? =some (.cells cs t fr))(h':u.ownsRow M' e' s' v' n' xs')(hg:u.grownBy u' v'.ownBlock)(hne:t≠e'):u'.heap[g]? =some (.cells cs t fr):=
 (hg.block g (zq2 h) (fun hk=>by
  obtain⟨-,⟨h1, -⟩|⟨g',cap,cur,hv, -,hh', -⟩⟩:=h'
  ·rw [h1] at hk;cases hk
  ·rw [hv] at hk
   cases hk
   rw [h] at hh'
   cases hh'
   exact hne rfl)).trans h
theorem yjn {u:World}{M e s n k:Nat}{v:Value}{xs:List Value}(h:u.ownsRow M e s v n xs)(hk:v.ownBlock=some k):M<=k:=by
 obtain⟨-,⟨h1, -⟩|⟨g',cap,cur,hv,hg, -⟩⟩:=h
 ·rw [h1] at hk;cases hk
 ·rw [hv] at hk
  cases hk
  exact hg
theorem RS.alloc {R:RdR}{p B bx:Nat}{w u:World}{ys:List Int}{cs:Array Value}{t:TypeId}(h:RS R p B w u ys bx cs t)(o:Obj):RS R p B w (u.alloc o) ys bx cs t:=by
 have hb:Below u.heap.size u (u.alloc o):=zb.alloc zr o
 exact⟨h.rk.ext h.read hb,zq4 h.box hb (zq2 h.box),h.turn.trans (TurnI.of_below hb),h.hp,h.hb,h.rk⟩
theorem yq7 {p:Nat}{w u u':World}{row:Option Nat}(h:TurnI p w u)(hg:u.grownBy u' row)(hr: ∀k,row=some k->w.heap.size<=k):TurnI p w u':=
 ⟨hg.os.trans h.os,hg.tape.trans h.tape,hg.output.trans h.output,Nat.le_trans h.size hg.size,fun k o ho hk=>by
  have h1:=h.kept k o ho hk
  exact(hg.block k (zq2 h1) (fun e=>by have:=hr k e.symm;have:=zq2 ho;omega)).trans h1⟩
theorem RS.grown {R:RdR}{p B bx M e s n:Nat}{w u u':World}{ys:List Int}{cs:Array Value}{t:TypeId}{v:Value}{xs:List Value}(h:RS R p B w u ys bx cs t)(ho:u.ownsRow M e s v n xs)(hM:w.heap.size<=M)(hg:u.grownBy u' v.ownBlock)(hne:t≠e):RS R p B w u' ys bx cs t:=by
 have hr: ∀k,v.ownBlock=some k->w.heap.size<=k:=fun k hk=>Nat.le_trans hM (yjn ho hk)
 have hlow:=h.rk.low h.read
 have hp:=h.hp
 refine⟨h.rk.kept h.read (fun b o hb hlt=>(hg.block b (zq2 hb) (fun e=>by have:=hr b e.symm;omega)).trans hb),yvp h.box ho hg hne,?_,h.hp,h.hb,h.rk⟩
 exact⟨hg.os.trans h.turn.os,hg.tape.trans h.turn.tape,hg.output.trans h.turn.output,Nat.le_trans h.turn.size hg.size,fun k o ho hk=>by
  have h1:=h.turn.kept k o ho hk
  exact(hg.block k (zq2 h1) (fun e=>by have:=hr k e.symm;have:=zq2 ho;omega)).trans h1⟩
theorem zql {α:Type}{enc:α->List Value}{s by_:Nat}(T E:TypeId)(z:Value)(hlen: ∀x,(enc x).length=s)(hone: ∀x,∀u∈enc x,u.oneCell'=true)(hu:Tryz.prog.underlying T=some (.slice E))(hi:(Tryz.prog.info? E).map (fun i=>(i.zero,i.size,i.bytes))=some (some z,s,by_))(hz:z.cells.size=s)(hb0:by_<=1000)
  (w:World) (M:Nat) (v:Value) (ss:List α) (g:Nat) (x:α) (cs:Array Value) (ho:w.ownsRow M E s v ss.length (ss.flatMap enc)) (hg:w.heap[g]? =some (.cells cs E (0,0))) (hc:cs.toList=enc x) (hs:0<s) (hx:ss.length<1000000) (hB:M<=w.heap.size) (ty:TypeId):
  ∃v' w',(Builtin.append_ #[T,T] ty #[v, .slice (some ⟨g,0,none⟩) 1 1]).run Tryz.prog w= .ok v' w'/\w'.ownsRow M E s v' (ss++ [x]).length ((ss++ [x]).flatMap enc)/\w.grownBy w' v.ownBlock:=by
 obtain⟨i0,hin,hz0,hz1,hz2⟩:=info_parts hi
 have hE:Els enc s w (some ⟨g,0,none⟩) [x] :=yql x hg hc
 have hl:([x].flatMap enc).length=1*s:=zq8 hlen [x]
 obtain⟨v',w',hr,h2,h3,h4⟩:=run_append_own (P:=Tryz.prog) w M T ty E i0 z s by_ hu hin hz0 hz1 hz2 hz hs v ss.length (ss.flatMap enc) ho ⟨g,0,none⟩ 1 1 ([x].flatMap enc) hl (hE.flat hlen hs) (fun u hu=>by
  obtain⟨q,_,hq⟩:=List.mem_flatMap.1 hu
  exact hone q u hq) (by unfold maxLen;omega) (by
   have:(ss.length+1)*by_<=1000000*1000:=Nat.mul_le_mul (by omega) hb0
   omega) hB
 refine⟨v',w',hr,?_,h3⟩
 rw [List.length_append,List.flatMap_append]
 exact h2
end Go.Proofs.YtchcelodeepjdaaGreatDoor.Ln

namespace Go.Herb
open Go

theorem ykm: ∀(l:List Int) (i n m:Nat) (r:List Int),getA i n l=some (m,r)->r.length+1<=l.length
 | [],i,n,m,r,h=>by cases h
 |c::l,i,n,m,r,h=>by
  rw [zxu] at h
  split at h
  ·cases h
  ·split at h
   ·cases h;simp
   ·have:=ykm l _ _ _ _ h
    rw [List.length_cons]
    omega
theorem zqc {l r:List Int}{m:Nat}(h:getN l=some (m,r)):r.length+1<=l.length:=ykm l 0 0 m r h
theorem zv1 {l r:List Int}{s:ByteArray}(h:getT l=some (s,r)):s.size+r.length+1<=l.length:=by
 unfold getT at h
 cases hg:getN l with
 |none=>rw [hg] at h;cases h
 |some q=>
  obtain⟨n,r1⟩:=q
  rw [hg] at h
  simp only at h
  split at h
  ·rename_i hle
   cases h
   have:=zqc hg
   rw [show(strOf (r1.take n)).size=(r1.take n).length from by simp [strOf,ByteArray.size],List.length_take,List.length_drop]
   omega
  ·cases h
theorem zxq {l r:List Int}{n:Nat}{α:Type}(p:Ps α)(h:manyN l=some (n,r)):manyP p l=repP p n r:=by
 unfold manyN at h
 unfold manyP
 cases hg:getN l with
 |none=>rw [hg] at h;cases h
 |some q=>
  obtain⟨m,r1⟩:=q
  rw [hg] at h
  simp only at h ⊢
  split at h
  ·rename_i hle
   cases h
   rw [if_pos hle]
  ·cases h
theorem zxr {l:List Int}{α:Type}(p:Ps α)(h:manyN l=none):manyP p l=none:=by
 unfold manyN at h
 unfold manyP
 cases hg:getN l with
 |none=>rfl
 |some q=>
  obtain⟨m,r1⟩:=q
  rw [hg] at h
  simp only at h ⊢
  split at h
  ·cases h
  ·rename_i hle
   rw [if_neg hle]
theorem zzp {l r:List Int}{n:Nat}(h:manyN l=some (n,r)):r.length+1<=l.length/\n<=r.length:=by
 unfold manyN at h
 cases hg:getN l with
 |none=>rw [hg] at h;cases h
 |some q=>
  obtain⟨m,r1⟩:=q
  rw [hg] at h
  simp only at h
  split at h
  ·rename_i hle
   cases h
   exact⟨zqc hg,hle⟩
  ·cases h
end Go.Herb
namespace Go.Proofs.YtchcelodeepjdaaGreatDoor.Ln
open Go.RowKit Go.Shelf Go.Herb

theorem infoBr:(Tryz.prog.info? (73)).map (fun i=>(i.zero,i.size,i.bytes))=some (some (.agg #[.string ⟨#[]⟩, .int .u64 0, .int .u64 0]),3,32):=by kernel_rfl
theorem infoLn:(Tryz.prog.info? (53)).map (fun i=>(i.zero,i.size,i.bytes))=some (some (.agg #[.int .u64 0, .int .u64 0]),2,16):=by kernel_rfl
theorem infoVc:(Tryz.prog.info? (76)).map (fun i=>(i.zero,i.size,i.bytes))=some (some (.agg #[.int .u64 0, .slice none 0 0]),2,32):=by kernel_rfl
abbrev OwnBr (B:Nat)(w:World)(v:Value)(xs:List Br):Prop:=w.ownsRow B (73) 3 v xs.length (xs.flatMap brc)
abbrev OwnT (B:Nat)(w:World)(v:Value)(ts:List Tb):Prop:=w.ownsRow B (51) 4 v ts.length (ts.flatMap tbc)
abbrev OwnLn (B:Nat)(w:World)(v:Value)(xs:List Ln):Prop:=w.ownsRow B (53) 2 v xs.length (xs.flatMap lnc)
theorem vc_one (x:Vx.Vc): ∀u∈Vx.vc x,u.oneCell'=true:=by
 intro u hu;simp [Vx.vc] at hu;rcases hu with rfl|rfl<;>rfl
def BrW (x:Br):Prop:=x.1.size<=maxLen/\U64 x.2.1/\U64 x.2.2
def LnW (x:Ln):Prop:=U64 x.1/\U64 x.2
structure zqn (R:RdR)(p B:Nat)(w u:World)(zs:List Int)(sq lg nx:Int)(nb nl nv:Nat)(ba:Option Addr)(bc:Nat)(la:Option Addr)(lc:Nat)(va:Option Addr)(vC:Nat)(bs:List Br)(ls:List Ln)(vs:List Vx.Vc):Prop where
 rs:RS R p B w u zs w.heap.size #[.int .u64 sq, .int .u64 lg, .int .u64 nx, .slice ba nb bc, .slice la nl lc, .slice va nv vC, .slice none 0 0] (32)
 lb:bs.length=nb
 ll:ls.length=nl
 lv:vs.length=nv
 ob:OwnBr w.heap.size u (.slice ba nb bc) bs
 ol:OwnLn w.heap.size u (.slice la nl lc) ls
 ov:Vx.OwnV w.heap.size u (.slice va nv vC) vs
 op: ∀v∈vs,Vx.OwnP w.heap.size u (.slice v.a v.ps.length v.c) v.ps
 wb: ∀x∈bs,BrW x
 wl: ∀x∈ls,LnW x
 wv: ∀v∈vs,Go.Herb.U64 v.line/\ ∀q∈v.ps,Go.Herb.U64 q.1/\Go.Herb.U64 q.2
section
variable {R:RdR} {p B:Nat} {w u:World} {zs:List Int} {sq lg nx:Int} {nb nl nv:Nat} {ba la va:Option Addr} {bc lc vC:Nat} {bs:List Br} {ls:List Ln} {vs:List Vx.Vc}
theorem zqn.next {u':World}{zs':List Int}(h:zqn R p B w u zs sq lg nx nb nl nv ba bc la lc va vC bs ls vs)(ht:TurnI p u u')(hr:R u' p B zs'):zqn R p B w u' zs' sq lg nx nb nl nv ba bc la lc va vC bs ls vs:=
 ⟨h.rs.next ht hr,h.lb,h.ll,h.lv,zqf h.ob ht h.rs.hp,zqf h.ol ht h.rs.hp,zqf h.ov ht h.rs.hp,fun v hv=>zqf (h.op v hv) ht h.rs.hp,h.wb,h.wl,h.wv⟩
theorem zqn.alloc (h:zqn R p B w u zs sq lg nx nb nl nv ba bc la lc va vC bs ls vs)(o:Obj):zqn R p B w (u.alloc o) zs sq lg nx nb nl nv ba bc la lc va vC bs ls vs:=
 ⟨h.rs.alloc o,h.lb,h.ll,h.lv,zzs h.ob o,zzs h.ol o,zzs h.ov o,fun v hv=>zzs (h.op v hv) o,h.wb,h.wl,h.wv⟩
theorem zqn.br (h:zqn R p B w u zs sq lg nx nb nl nv ba bc la lc va vC bs ls vs)(x:Br)(hx:BrW x)(hn:nb<1000000):
  ∃(a':Option Addr) (c':Nat) (w8:World),(Builtin.append_ #[(27),(27)] (27) #[.slice ba nb bc, .slice (some ⟨u.heap.size,0,none⟩) 1 1]).run Tryz.prog (u.alloc (.cells #[.string x.1, .int .u64 x.2.1, .int .u64 x.2.2] (73)))= .ok (.slice a' (nb+1) c') w8/\w8.cell? ⟨w.heap.size,3,none⟩=some (.slice ba nb bc)/\w8.frozen? ⟨w.heap.size,3,none⟩=false/\zqn R p B w (w8.setCell ⟨w.heap.size,3,none⟩ (.slice a' (nb+1) c')) zs sq lg nx (nb+1) nl nv a' c' la lc va vC (bs++ [x]) ls vs:=by
 obtain⟨U,hU⟩: ∃U:World,U=u.alloc (.cells #[.string x.1, .int .u64 x.2.1, .int .u64 x.2.2] (73)):=⟨_,rfl⟩
 have hA:zqn R p B w U zs sq lg nx nb nl nv ba bc la lc va vC bs ls vs:=by rw [hU];exact h.alloc _
 obtain⟨v',w8,hr,hO,hgr⟩:=zql (27) (73) _ zk9 yj0 Tryz.underlying27 infoBr rfl (by decide) U w.heap.size (.slice ba nb bc) bs u.heap.size x #[.string x.1, .int .u64 x.2.1, .int .u64 x.2.2] hA.ob (by rw [hU];exact zq3 rfl _) rfl (by decide) (by rw [h.lb];exact hn) hA.rs.turn.size (27)
 rw [<-hU]
 obtain⟨a',c',hv', -, -, -, -⟩:=Vx.zqv hO
 have hl:(bs++ [x]).length=nb+1:=by rw [List.length_append,h.lb];rfl
 rw [hl] at hv'
 subst hv'
 have hG:=hA.rs.grown hA.ob zr hgr (by decide)
 refine⟨a',c',w8,hr,?_,zq1 hG.box 3,?_⟩
 ·have:=zq0 hG.box 3
  simpa using this
 have hbx:=hG.box
 refine⟨hG.store 3 _ _ rfl,hl,h.ll,h.lv,zqr hO hbx (by decide) _,zqr (zx6 hA.ol hA.ob hgr (by decide)) hbx (by decide) _,zqr (zx6 hA.ov hA.ob hgr (by decide)) hbx (by decide) _,fun v hv=>zqr (zx6 (hA.op v hv) hA.ob hgr (by decide)) hbx (by decide) _,fun y hy=>by
  rcases List.mem_append.1 hy with h1|h1
  ·exact h.wb y h1
  ·rw [List.mem_singleton.1 h1];exact hx,h.wl,h.wv⟩
theorem zqn.ln (h:zqn R p B w u zs sq lg nx nb nl nv ba bc la lc va vC bs ls vs)(x:Ln)(hx:LnW x)(hn:nl<1000000):
  ∃(a':Option Addr) (c':Nat) (w8:World),(Builtin.append_ #[(28),(28)] (28) #[.slice la nl lc, .slice (some ⟨u.heap.size,0,none⟩) 1 1]).run Tryz.prog (u.alloc (.cells #[.int .u64 x.1, .int .u64 x.2] (53)))= .ok (.slice a' (nl+1) c') w8/\w8.cell? ⟨w.heap.size,4,none⟩=some (.slice la nl lc)/\w8.frozen? ⟨w.heap.size,4,none⟩=false/\zqn R p B w (w8.setCell ⟨w.heap.size,4,none⟩ (.slice a' (nl+1) c')) zs sq lg nx nb (nl+1) nv ba bc a' c' va vC bs (ls++ [x]) vs:=by
 obtain⟨U,hU⟩: ∃U:World,U=u.alloc (.cells #[.int .u64 x.1, .int .u64 x.2] (53)):=⟨_,rfl⟩
 have hA:zqn R p B w U zs sq lg nx nb nl nv ba bc la lc va vC bs ls vs:=by rw [hU];exact h.alloc _
 obtain⟨v',w8,hr,hO,hgr⟩:=zql (28) (53) _ zkd yjj Tryz.underlying28 infoLn rfl (by decide) U w.heap.size (.slice la nl lc) ls u.heap.size x #[.int .u64 x.1, .int .u64 x.2] hA.ol (by rw [hU];exact zq3 rfl _) rfl (by decide) (by rw [h.ll];exact hn) hA.rs.turn.size (28)
 rw [<-hU]
 obtain⟨a',c',hv', -, -, -, -⟩:=Vx.zqv hO
 have hl:(ls++ [x]).length=nl+1:=by rw [List.length_append,h.ll];rfl
 rw [hl] at hv'
 subst hv'
 have hG:=hA.rs.grown hA.ol zr hgr (by decide)
 refine⟨a',c',w8,hr,?_,zq1 hG.box 4,?_⟩
 ·have:=zq0 hG.box 4
  simpa using this
 have hbx:=hG.box
 refine⟨hG.store 4 _ _ rfl,h.lb,hl,h.lv,zqr (zx6 hA.ob hA.ol hgr (by decide)) hbx (by decide) _,zqr hO hbx (by decide) _,zqr (zx6 hA.ov hA.ol hgr (by decide)) hbx (by decide) _,fun v hv=>zqr (zx6 (hA.op v hv) hA.ol hgr (by decide)) hbx (by decide) _,h.wb,fun y hy=>by
  rcases List.mem_append.1 hy with h1|h1
  ·exact h.wl y h1
  ·rw [List.mem_singleton.1 h1];exact hx,h.wv⟩
theorem zqn.vec (h:zqn R p B w u zs sq lg nx nb nl nv ba bc la lc va vC bs ls vs)(x:Vx.Vc)(hx:Go.Herb.U64 x.line/\ ∀q∈x.ps,Go.Herb.U64 q.1/\Go.Herb.U64 q.2)(m:Nat)(hm:x.ps.length=m)(hp:Vx.OwnP w.heap.size u (.slice x.a m x.c) x.ps)(hn:nv<1000000):
  ∃(a':Option Addr) (c':Nat) (w8:World),(Builtin.append_ #[(29),(29)] (29) #[.slice va nv vC, .slice (some ⟨u.heap.size,0,none⟩) 1 1]).run Tryz.prog (u.alloc (.cells #[.int .u64 x.line, .slice x.a m x.c] (76)))= .ok (.slice a' (nv+1) c') w8/\w8.cell? ⟨w.heap.size,5,none⟩=some (.slice va nv vC)/\w8.frozen? ⟨w.heap.size,5,none⟩=false/\zqn R p B w (w8.setCell ⟨w.heap.size,5,none⟩ (.slice a' (nv+1) c')) zs sq lg nx nb nl (nv+1) ba bc la lc a' c' bs ls (vs++ [x]):=by
 subst hm
 obtain⟨U,hU⟩: ∃U:World,U=u.alloc (.cells #[.int .u64 x.line, .slice x.a x.ps.length x.c] (76)):=⟨_,rfl⟩
 have hA:zqn R p B w U zs sq lg nx nb nl nv ba bc la lc va vC bs ls vs:=by rw [hU];exact h.alloc _
 obtain⟨v',w8,hr,hO,hgr⟩:=zql (29) (76) _ Vx.ywd vc_one Tryz.underlying29 infoVc rfl (by decide) U w.heap.size (.slice va nv vC) vs u.heap.size x #[.int .u64 x.line, .slice x.a x.ps.length x.c] hA.ov (by rw [hU];exact zq3 rfl _) rfl (by decide) (by rw [h.lv];exact hn) hA.rs.turn.size (29)
 rw [<-hU]
 obtain⟨a',c',hv', -, -, -, -⟩:=Vx.zqv hO
 have hl:(vs++ [x]).length=nv+1:=by rw [List.length_append,h.lv];rfl
 rw [hl] at hv'
 subst hv'
 have hG:=hA.rs.grown hA.ov zr hgr (by decide)
 refine⟨a',c',w8,hr,?_,zq1 hG.box 5,?_⟩
 ·have:=zq0 hG.box 5
  simpa using this
 have hbx:=hG.box
 refine⟨hG.store 5 _ _ rfl,h.lb,h.ll,hl,zqr (zx6 hA.ob hA.ov hgr (by decide)) hbx (by decide) _,zqr (zx6 hA.ol hA.ov hgr (by decide)) hbx (by decide) _,zqr hO hbx (by decide) _,fun v hv=>by
  rcases List.mem_append.1 hv with h1|h1
  ·exact zqr (zx6 (hA.op v h1) hA.ov hgr (by decide)) hbx (by decide) _
  ·rw [List.mem_singleton.1 h1]
   exact zqr (zx6 (show Vx.OwnP w.heap.size U (.slice x.a x.ps.length x.c) x.ps from by rw [hU];exact zzs hp _) hA.ov hgr (by decide)) hbx (by decide) _,h.wb,h.wl,fun y hy=>by
  rcases List.mem_append.1 hy with h1|h1
  ·exact h.wv y h1
  ·rw [List.mem_singleton.1 h1];exact hx⟩
theorem zqn.same (h:zqn R p B w u zs sq lg nx nb nl nv ba bc la lc va vC bs ls vs)(j:Nat)(v:Value)(hc:(#[.int .u64 sq, .int .u64 lg, .int .u64 nx, .slice ba nb bc, .slice la nl lc, .slice va nv vC, .slice none 0 0] :Array Value).setIfInBounds j v= #[.int .u64 sq, .int .u64 lg, .int .u64 nx, .slice ba nb bc, .slice la nl lc, .slice va nv vC, .slice none 0 0]):
  zqn R p B w (u.setCell ⟨w.heap.size,j,none⟩ v) zs sq lg nx nb nl nv ba bc la lc va vC bs ls vs:=
 ⟨h.rs.store j v _ hc,h.lb,h.ll,h.lv,zqr h.ob h.rs.box (by decide) v,zqr h.ol h.rs.box (by decide) v,zqr h.ov h.rs.box (by decide) v,fun x hx=>zqr (h.op x hx) h.rs.box (by decide) v,h.wb,h.wl,h.wv⟩
theorem zqn.name (_:zqn R p B w u zs sq lg nx nb nl nv ba bc la lc va vC bs ls vs): ∃Z,Z=u:=⟨u,rfl⟩
end
structure RtOwn (M:Nat)(u:World)(r:Rv):Prop where
 sq:U64 r.seq
 lg:U64 r.log
 nx:U64 r.next
 ob:OwnBr M u (.slice r.ba r.bs.length r.bc) r.bs
 ol:OwnLn M u (.slice r.la r.ls.length r.lc) r.ls
 ov:Vx.OwnV M u (.slice r.va r.vs.length r.vc) r.vs
 op: ∀v∈r.vs,Vx.OwnP M u (.slice v.a v.ps.length v.c) v.ps
 os:OwnSh M u (.slice r.sa r.sh.length r.sc) r.sh
 ot: ∀s∈r.sh,∀l∈s.lv,OwnT M u (lvV l) l.ts
 wb: ∀x∈r.bs,BrW x
 wl: ∀x∈r.ls,LnW x
 wv: ∀v∈r.vs,Go.Herb.U64 v.line/\ ∀q∈v.ps,Go.Herb.U64 q.1/\Go.Herb.U64 q.2
 ws: ∀s∈r.sh,U64 s.line/\ ∀l∈s.lv,∀t∈l.ts,TbW t
 lp: ∀v∈r.vs,v.ps.length<=maxLen
theorem RtOwn.kept {M:Nat}{u u':World}{r:Rv}(h:RtOwn M u r)(hk: ∀g cs e,u.heap[g]? =some (.cells cs e (0,0))->M<=g->e≠(32)->u'.heap[g]? =some (.cells cs e (0,0))):RtOwn M u' r:=
 ⟨h.sq,h.lg,h.nx,zqx h.ob (fun g cs hh hg=>hk g cs _ hh hg (by decide)),zqx h.ol (fun g cs hh hg=>hk g cs _ hh hg (by decide)),zqx h.ov (fun g cs hh hg=>hk g cs _ hh hg (by decide)),fun v hv=>zqx (h.op v hv) (fun g cs hh hg=>hk g cs _ hh hg (by decide)),zqx h.os (fun g cs hh hg=>hk g cs _ hh hg (by decide)),fun s hs l hl=>zqx (h.ot s hs l hl) (fun g cs hh hg=>hk g cs _ hh hg (by decide)),h.wb,h.wl,h.wv,h.ws,h.lp⟩
theorem RtOwn.ext {M:Nat}{u u':World}{r:Rv}(h:RtOwn M u r)(hb:Below u.heap.size u u'):RtOwn M u' r:=h.kept (fun _ _ _ hh _ _=>zq4 hh hb (zq2 hh))
theorem RtOwn.turn {M p:Nat}{u u':World}{r:Rv}(h:RtOwn M u r)(ht:TurnI p u u')(hp:p<M):RtOwn M u' r:=h.kept (fun g _ _ hh hg _=>ht.kept g _ hh (by omega))
theorem RtOwn.set {M b j:Nat}{u:World}{r:Rv}{cs:Array Value}{fr:Nat × Nat}(h:RtOwn M u r)(hb:u.heap[b]? =some (.cells cs (32) fr))(v:Value):RtOwn M (u.setCell ⟨b,j,none⟩ v) r:=
 h.kept (fun g _ _ hh _ hne=>blk_setCell_other hh (show g≠b from fun e2=>by rw [e2,hb] at hh;cases hh;exact hne rfl) v)
theorem zku {M e s n cap:Nat}{u:World}{a:Option Addr}{xs:List Value}(h:u.ownsRow M e s (.slice a n cap) n xs):n<=cap/\cap<=maxLen/\(a=none->cap=0):=by
 obtain⟨a1,c1,e1,n1,le1,m1, -⟩:=Vx.zqv h
 obtain⟨rfl, -,rfl⟩:=Value.slice.inj e1
 exact⟨le1,m1,fun e=>(n1 e).2⟩
theorem RtOwn.in_ {M:Nat}{u:World}{r:Rv}(h:RtOwn M u r):RtIn u r:=by
 obtain⟨b1,b2,b3⟩:=zku h.ob
 obtain⟨l1,l2,l3⟩:=zku h.ol
 obtain⟨v1,v2, -⟩:=zku h.ov
 obtain⟨s1,s2,s3⟩:=zku h.os
 refine⟨h.sq,h.lg,h.nx,⟨Vx.zx3 zk9 h.ob,b3,b1,b2,h.wb⟩,⟨Vx.zx3 zkd h.ol,l3,l1,l2,h.wl⟩,⟨Vx.zx3 Vx.ywd h.ov,fun v hv=>Vx.zx3 Vx.yz5 (h.op v hv),h.wv,Nat.le_trans v1 v2,h.lp⟩,⟨Vx.zx3 zqe h.os,fun s hs=> ?_⟩,s1,s2,s3,⟨v1,v2⟩⟩
 have hlv: ∀l∈s.lv,LvOk u l:=fun l hl=>by
  have ho:=h.ot s hs l hl
  obtain⟨t1,t2,t3⟩:=zku ho
  exact⟨Vx.zx3 yk5 ho,t3,t1,t2,(h.ws s hs).2 l hl⟩
 exact⟨hlv _ (by simp [Sv.lv]),hlv _ (by simp [Sv.lv]),hlv _ (by simp [Sv.lv]),(h.ws s hs).1⟩
theorem zqn.own {R:RdR}{p B:Nat}{w u:World}{zs:List Int}{sq lg nx:Int}{nb nl nv:Nat}{ba la va:Option Addr}{bc lc vC:Nat}{bs:List Br}{ls:List Ln}{vs:List Vx.Vc}(h:zqn R p B w u zs sq lg nx nb nl nv ba bc la lc va vC bs ls vs)(h1:U64 sq)(h2:U64 lg)(h3:U64 nx)(hm: ∀v∈vs,v.ps.length<=maxLen):RtOwn w.heap.size u ⟨sq,lg,nx,ba,bc,bs,la,lc,ls,va,vC,vs,none,0, []⟩:=by
 have hb:=h.lb
 have hl:=h.ll
 have hv:=h.lv
 subst hb hl hv
 exact⟨h1,h2,h3,h.ob,h.ol,h.ov,h.op,World.ownsRow_nil _ _ _ _,(fun s hs=>by cases hs),h.wb,h.wl,h.wv,(fun s hs=>by cases hs),hm⟩
theorem yyp (x:Int × Int): ∀u∈Vx.pc x,u.oneCell'=true:=by
 intro u hu;simp [Vx.pc] at hu;rcases hu with rfl|rfl<;>rfl
theorem vec_pt {R:RdR}{p B bb t cp:Nat}{w5 u:World}{zs:List Int}{l:Int}{ap:Option Addr}{ps:Bh}(h:RS R p B w5 u zs bb #[.int .u64 l, .slice ap t cp] (76))(ho:Vx.OwnP w5.heap.size u (.slice ap t cp) ps)(hl:ps.length=t)(x:Int × Int)(ht:t<1000000):
  ∃(a':Option Addr) (c':Nat) (w8:World),(Builtin.append_ #[(74),(74)] (74) #[.slice ap t cp, .slice (some ⟨u.heap.size,0,none⟩) 1 1]).run Tryz.prog (u.alloc (.cells #[.int .u64 x.1, .int .u64 x.2] (78)))= .ok (.slice a' (t+1) c') w8/\w8.cell? ⟨bb,1,none⟩=some (.slice ap t cp)/\w8.frozen? ⟨bb,1,none⟩=false/\RS R p B w5 (w8.setCell ⟨bb,1,none⟩ (.slice a' (t+1) c')) zs bb #[.int .u64 l, .slice a' (t+1) c'] (76)/\Vx.OwnP w5.heap.size (w8.setCell ⟨bb,1,none⟩ (.slice a' (t+1) c')) (.slice a' (t+1) c') (ps++ [x])/\(ps++ [x]).length=t+1:=by
 obtain⟨U,hU⟩: ∃U:World,U=u.alloc (.cells #[.int .u64 x.1, .int .u64 x.2] (78)):=⟨_,rfl⟩
 have hA:RS R p B w5 U zs bb #[.int .u64 l, .slice ap t cp] (76):=by rw [hU];exact h.alloc _
 have hOA:Vx.OwnP w5.heap.size U (.slice ap t cp) ps:=by rw [hU];exact zzs ho _
 obtain⟨v',w8,hr,hO,hgr⟩:=zql (74) (78) _ Vx.yz5 yyp Tryz.underlying74 Vx.infoP rfl (by decide) U w5.heap.size (.slice ap t cp) ps u.heap.size x #[.int .u64 x.1, .int .u64 x.2] hOA (by rw [hU];exact zq3 rfl _) rfl (by decide) (by rw [hl];exact ht) hA.turn.size (74)
 rw [<-hU]
 obtain⟨a',c',hv', -, -, -, -⟩:=Vx.zqv hO
 have hl2:(ps++ [x]).length=t+1:=by rw [List.length_append,hl];rfl
 rw [hl2] at hv'
 subst hv'
 have hG:=hA.grown hOA zr hgr (by decide)
 refine⟨a',c',w8,hr,?_,zq1 hG.box 1,hG.store 1 _ _ rfl,zqr hO hG.box (by decide) _,hl2⟩
 have:=zq0 hG.box 1
 simpa using this
end Go.Proofs.YtchcelodeepjdaaGreatDoor.Ln
