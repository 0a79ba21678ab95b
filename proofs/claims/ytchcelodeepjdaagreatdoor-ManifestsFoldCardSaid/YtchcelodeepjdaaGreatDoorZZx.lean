/- Lemmas and walks towards ManifestsFold. Conditions: each one tells its own. -/
import Derived.Test.YtchcelodeepjdaaGreatDoorMp
import Derived.Test.YtchcelodeepjdaaGreatDoorZZs
import Derived.Test.YtchcelodeepjdaaGreatDoorZZp
import Derived.Test.YtchcelodeepjdaaGreatDoorZZl
import Derived.Test.YtchcelodeepjdaaGreatDoorZUb
import Derived.Deep.RegionHeld3
namespace Go.Proofs.YtchcelodeepjdaaGreatDoor.Ln
open Go.RowKit Go.Shelf Go.Herb

def zeroC:Array Value:= #[.int .u64 0, .int .u64 0, .int .u64 0, .slice none 0 0, .slice none 0 0, .slice none 0 0, .slice none 0 0]
structure Caught (x e:Nat)(w w':World):Prop where
 root:w'.heap[x]? =some (.cells zeroC (32) (0,0))
 errno:w'.heap[e]? =some (.cells #[.int .i64 4] (33) (0,0))
 below: ∀B,B<=x->B<=e->B<=w.heap.size->Below B w w'
structure CX (x e:Nat)(w u:World)(cs es:Array Value):Prop where
 root:u.heap[x]? =some (.cells cs (32) (0,0))
 errno:u.heap[e]? =some (.cells es (33) (0,0))
 below: ∀B,B<=x->B<=e->B<=w.heap.size->Below B w u
 kept: ∀k o,w.heap[k]? =some o->k≠x->k≠e->u.heap[k]? =some o
theorem CX.x {x e:Nat}{w u:World}{cs es:Array Value}(h:CX x e w u cs es)(hxe:x≠e)(j:Nat)(v:Value)(cs':Array Value)(hc:cs.setIfInBounds j v=cs'):CX x e w (u.setCell ⟨x,j,none⟩ v) cs' es:=
 ⟨by rw [<-hc];exact zq7 h.root v,blk_setCell_other h.errno (show e≠x from fun e2=>hxe e2.symm) v,fun B h1 h2 h3=>Below.setCell (h.below B h1 h2 h3) (p:=⟨x,j,none⟩) h1 v,fun k o hk h1 h2=>blk_setCell_other (h.kept k o hk h1 h2) (show k≠x from h1) v⟩
theorem CX.e {x e:Nat}{w u:World}{cs es:Array Value}(h:CX x e w u cs es)(hxe:x≠e)(j:Nat)(v:Value)(es':Array Value)(hc:es.setIfInBounds j v=es'):CX x e w (u.setCell ⟨e,j,none⟩ v) cs es':=
 ⟨blk_setCell_other h.root (show x≠e from hxe) v,by rw [<-hc];exact zq7 h.errno v,fun B h1 h2 h3=>Below.setCell (h.below B h1 h2 h3) (p:=⟨e,j,none⟩) h2 v,fun k o hk h1 h2=>blk_setCell_other (h.kept k o hk h1 h2) (show k≠e from h2) v⟩
theorem CX.alloc {x e:Nat}{w u:World}{cs es:Array Value}(h:CX x e w u cs es)(hs:w.heap.size<=u.heap.size)(o:Obj):CX x e w (u.alloc o) cs es:=
 ⟨zq4 h.root (zb.alloc zr o) (zq2 h.root),zq4 h.errno (zb.alloc zr o) (zq2 h.errno),fun B h1 h2 h3=>(h.below B h1 h2 h3).alloc (Nat.le_trans h3 hs) o,fun k o' hk h1 h2=>zq4 (h.kept k o' hk h1 h2) (zb.alloc zr o) (zq2 (h.kept k o' hk h1 h2))⟩
theorem CX.name {x e:Nat}{w u:World}{cs es:Array Value}(_:CX x e w u cs es): ∃Z,Z=u:=⟨u,rfl⟩
set_option maxRecDepth 100000 in
set_option maxHeartbeats 1000000 in
theorem ywh (x e:Nat)(v0 v1 v2 v3 v4 v5 v6 v:Value)(w:World)(hx:w.heap[x]? =some (.cells #[v0,v1,v2,v3,v4,v5,v6] (32) (0,0)))(he:w.heap[e]? =some (.cells #[v] (33) (0,0)))(hxe:x≠e):
  CallsD Tryz.prog (25) #[.pointer (some ⟨x,0,none⟩), .pointer (some ⟨e,0,none⟩)] (.panicking NONE) w fun en u' w'=>en= .returned (.tuple #[])/\u'= .panicking [{v:= .iface (66) (.agg #[]),recovered:=true }] /\Caught x e w w':=by
 have c0:=zq0 hx 0
 have c1:=zq0 hx 1
 have c2:=zq0 hx 2
 have c3:=zq0 hx 3
 have c4:=zq0 hx 4
 have c5:=zq0 hx 5
 have c6:=zq0 hx 6
 have f0:=zq1 hx 0
 have f1:=zq1 hx 1
 have f2:=zq1 hx 2
 have f3:=zq1 hx 3
 have f4:=zq1 hx 4
 have f5:=zq1 hx 5
 have f6:=zq1 hx 6
 have d0:=zq0 he 0
 have k0:=zq1 he 0
 simp at c0 c1 c2 c3 c4 c5 c6 d0
 have hta: ∀w:World,(Instr.typeAssert (.iface (66) (.agg #[])) (20) (66) true).run Tryz.prog w= .ok (.tuple #[.agg #[], .bool true]) w:=fun _=>by kernel_rfl
 have hlx:=zq2 hx
 have hle:=zq2 he
 have HX:=zh hx
 have HE:=zh he
 refine callsD_of_wpS Tryz.func25 rfl fun c₀ cs₀ hu=> ?_
 apply wpS_seq
 apply wpS_region
 simp [wpOpsS,go_sem,recoverD,hu,NONE,Tryz.ntmps25,Exit.thenS]
 apply wpS_seq
 apply wpS_region
 simp [wpOpsS,go_sem,Exit.thenS]
 refine wpS_cond (t:=true) (by simp [Act.eval]) ?_
 simp only [if_true]
 refine wpS_of_wp ?_
 clear hx he
 change Code.wp _ _ _ {tmps:= #[.pointer (some ⟨x,0,none⟩), .pointer (some ⟨e,0,none⟩), .iface (66) (.agg #[]),undef,undef, .iface (66) (.agg #[]), .iface (66) (.agg #[]), .bool true,undef,undef,undef,undef,undef,undef,undef,undef,undef],defers:= []} _
 go_wp2_with fail
 have HC0:=zh (show CX x e w w #[v0,v1,v2,v3,v4,v5,v6] #[v] from⟨HX.out,HE.out,fun B _ _ _=>zb,fun _ _ hk _ _=>hk⟩)
 have HC:=zh ((((((((HC0.out.x hxe 0 (.int .u64 0) _ rfl).x hxe 1 (.int .u64 0) _ rfl).x hxe 2 (.int .u64 0) _ rfl).x hxe 3 (.slice none 0 0) _ rfl).x hxe 4 (.slice none 0 0) _ rfl).x hxe 5 (.slice none 0 0) _ rfl).x hxe 6 (.slice none 0 0) zeroC rfl).e hxe 0 (.int .i64 4) #[.int .i64 4] rfl)
 have HC2:=zh (HC.out.alloc (by simp [World.setCell]) (.cells #[] (66)))
 obtain⟨Z,hZ⟩:=HC2.out.name
 rw [<-hZ] at HC2 ⊢
 clear hZ
 have HF:=zh (show Caught x e w Z from⟨HC2.out.root,HC2.out.errno,HC2.out.below⟩)
 simp [bodyPostS,results,Tryz.results25]
 exact HF.out
end Go.Proofs.YtchcelodeepjdaaGreatDoor.Ln

namespace Go.Proofs.YtchcelodeepjdaaGreatDoor.Ln
open Go.RowKit Go.Shelf Go.Herb

theorem FewX.cmp {r:Rv}(h:FewX r.says):Cmp r:=by
 have hs:=FewX.small h
 refine⟨hs.bs,hs.ls,hs.vs,fun v hv=> ?_,?_,hs.lev⟩
 ·have hn:=h.nums
  have e2:r.says.vs=Vx.vsOf r.vs:=rfl
  have h1:=zke (f:=fun v:Int × Bh=>1+v.2.length) (l:=r.says.vs) (x:=(v.line,v.ps)) (by rw [e2];exact List.mem_map_of_mem (f:=fun x:Vx.Vc=>(x.line,x.ps)) hv)
  simp only at h1
  omega
 ·have h1:=zjl (f:=fun _=>1) (g:=fun s:Sd=>1+(s.lv.map List.length).sum) (r.sh.map Sv.says) (fun _ _=>by omega)
  rw [zxm,List.length_map] at h1
  have:=h.sh
  have h3:r.says.sh=r.sh.map Sv.says:=rfl
  rw [h3] at this
  omega
theorem OneIs.few {ys:List Int}{x:Rt}(h:OneIs ys x)(hl:ys.length<=1000000):FewX x:=by
 obtain⟨l,r0,l1,l2,sh,rfl,h1,h2,rfl⟩:=h.read
 exact zkn h1 h2 (by rw [List.length_cons] at hl;omega)
end Go.Proofs.YtchcelodeepjdaaGreatDoor.Ln

namespace Go.Herb
open Go
noncomputable def goneL (now was:List Sd):List Int:=(was.filter (fun s=>decide (s.line∉now.map Sd.line))).map Sd.line
noncomputable def asWas (was:List Sd)(s:Sd):Bool:=by classical exact decide (∃x∈was,x.line=s.line/\x.lv=s.lv)
noncomputable def newL (now was:List Sd):List Sd:=now.filter (fun s=> !asWas was s)
noncomputable def editL (r was:Rt):List Int:=2::(headL r++numsL [((goneL r.sh was.sh).length:Int)] ++numsL (goneL r.sh was.sh)++shL (newL r.sh was.sh))
end Go.Herb
namespace Go.Proofs.YtchcelodeepjdaaGreatDoor.Ln
open Go.RowKit Go.Shelf Go.Herb

theorem putL_mem {m:List (Int × Sv)}{a:Int}{b:Sv}{p:Int × Sv}(h:p∈putL m a b):p∈m\/p=(a,b):=by
 unfold putL at h
 split at h
 ·obtain⟨q,hq,rfl⟩:=List.mem_map.1 h
  by_cases e:q.1=a
  ·rw [if_pos e];exact .inr rfl
  ·rw [if_neg e];exact .inl hq
 ·rcases List.mem_append.1 h with h|h
  ·exact .inl h
  ·exact .inr (List.mem_singleton.1 h)
theorem zzj {xs:List Sv}: ∀{m:List (Int × Sv)} {p:Int × Sv},p∈putS m xs->p∈m\/(p.2∈xs/\p.1=p.2.line):=by
 induction xs with
 |nil=>exact fun h=> .inl h
 |cons x xs ih=>
  intro m p h
  rcases ih (m:=putL m x.line x) h with h|⟨h1,h2⟩
  ·rcases putL_mem h with h|rfl
   ·exact .inl h
   ·exact .inr ⟨List.mem_cons_self,rfl⟩
  ·exact .inr ⟨List.mem_cons_of_mem _ h1,h2⟩
theorem zj2 {xs:List Sv}{k:Int}(h:k∉xs.map Sv.line): ∀(m:List (Int × Sv)),getL (putS m xs) k=getL m k:=by
 induction xs with
 |nil=>exact fun _=>rfl
 |cons x xs ih=>
  intro m
  rw [List.map_cons,List.mem_cons,not_or] at h
  show getL (putS (putL m x.line x) xs) k=_
  rw [ih h.2,zxj _ _ _ h.1]
theorem zxi {xs:List Sv}{x:Sv}(hx:x∈xs)(hn:(xs.map Sv.line).Nodup): ∀(m:List (Int × Sv)),getL (putS m xs) x.line=some x:=by
 induction xs with
 |nil=>cases hx
 |cons y xs ih=>
  intro m
  rw [List.map_cons,List.nodup_cons] at hn
  show getL (putS (putL m y.line y) xs) x.line=_
  rcases List.mem_cons.1 hx with rfl|hx
  ·rw [zj2 hn.1,zx2]
  ·exact ih hx hn.2 _
theorem zzo {xs:List Sv}(hn:(xs.map Sv.line).Nodup)(k:Int):(getL (putS [] xs) k=none/\k∉xs.map Sv.line)\/ ∃x∈xs,x.line=k/\getL (putS [] xs) k=some x:=by
 by_cases h:k∈xs.map Sv.line
 ·obtain⟨x,hx,rfl⟩:=List.mem_map.1 h
  exact .inr ⟨x,hx,rfl,zxi hx hn []⟩
 ·exact .inl ⟨by rw [zj2 h];rfl,h⟩
theorem zxd (xs:List Sv):(xs.map Sv.says).map Sd.line=xs.map Sv.line:=by rw [List.map_map];rfl
def goneV (m:List (Int × Sv))(xs:List Sv):List Int:=(xs.filter (fun s=>(getL m s.line).isNone)).map Sv.line
theorem goneV_eq {now xs:List Sv}(hn:(now.map Sv.line).Nodup):goneV (putS [] now) xs=goneL (now.map Sv.says) (xs.map Sv.says):=by
 unfold goneV goneL
 rw [zxd,List.filter_map,List.map_map]
 have:xs.filter (fun s=>(getL (putS [] now) s.line).isNone)=xs.filter ((fun s:Sd=>decide (s.line∉now.map Sv.line))∘ Sv.says):=by
  apply List.filter_congr
  intro s _
  show _=decide (s.line∉now.map Sv.line)
  rcases zzo hn s.line with⟨h1,h2⟩|⟨x,hx,h1,h2⟩
  ·rw [h1];exact(decide_eq_true h2).symm
  ·rw [h2];exact(decide_eq_false (fun h=>h (by rw [<-h1];exact List.mem_map_of_mem hx))).symm
 rw [this]
 rfl
theorem zys (m:List (Int × Sv)){xs:List Sv}{k:Nat}{x:Sv}(h:xs[k]? =some x):goneV m (xs.take (k+1))=goneV m (xs.take k)++(if(getL m x.line).isNone then [x.line] else []):=by
 obtain⟨hk,rfl⟩:=List.getElem?_eq_some_iff.1 h
 unfold goneV
 rw [zz9 _ xs k hk,List.map_append]
 congr 1
 split<;>rfl
theorem newL_eq {now was:List Sv}(hn:(was.map Sv.line).Nodup):(now.filter (fun s=> !keptP (putS [] was) s)).map Sv.says=newL (now.map Sv.says) (was.map Sv.says):=by
 unfold newL
 rw [List.filter_map]
 congr 1
 apply List.filter_congr
 intro s _
 show(!keptP (putS [] was) s)= !asWas (was.map Sv.says) s.says
 congr 1
 unfold keptP asWas
 rcases zzo hn s.line with⟨h1,h2⟩|⟨x,hx,h1,h2⟩
 ·rw [h1]
  symm
  simp only [decide_eq_false_iff_not]
  rintro⟨y,hy,h3,h4⟩
  obtain⟨z,hz,rfl⟩:=List.mem_map.1 hy
  exact h2 (by rw [show s.line=z.line from h3.symm];exact List.mem_map_of_mem hz)
 ·rw [h2]
  simp only
  by_cases e:x.says.lv=s.says.lv
  ·rw [decide_eq_true e]
   symm
   simp only [decide_eq_true_eq]
   exact⟨x.says,List.mem_map_of_mem hx,h1,e⟩
  ·rw [decide_eq_false e]
   symm
   simp only [decide_eq_false_iff_not]
   rintro⟨y,hy,h3,h4⟩
   obtain⟨z,hz,rfl⟩:=List.mem_map.1 hy
   have hzx:=zxi hz hn []
   rw [show z.line=s.line from h3,h2] at hzx
   cases hzx
   exact e h4
structure yzy (U X:World)(kb b1 b2:Nat)(m1 m2:List (Int × Sv)):Prop where
 one:MapS X b1 m1
 two:MapS X b2 m2
 box:X.cell? ⟨kb,0,none⟩=some (.map (some b2))
 below:Below U.heap.size U X
 ge:U.heap.size<=kb
theorem yq8 {U Y:World}{kb b1 b2:Nat}{m1 m2:List (Int × Sv)}{v:Value}{fr:Nat × Nat}(h1:MapS Y b1 m1)(h2:MapS Y b2 m2)(hb:Y.heap[kb]? =some (.cells #[v] (94) fr))(hB:Below U.heap.size U Y)(hk:U.heap.size<=kb):
  yzy U (Y.setCell ⟨kb,0,none⟩ (.map (some b2))) kb b1 b2 m1 m2:=by
 have hne: ∀{b:Nat} {m:List (Int × Sv)},MapS Y b m->b≠kb:=fun h e=>by
  obtain⟨es,c,h1, -⟩:=h.blk
  rw [e,hb] at h1
  cases h1
 have hkeep: ∀{b:Nat} {m:List (Int × Sv)},MapS Y b m->MapS (Y.setCell ⟨kb,0,none⟩ (.map (some b2))) b m:=fun h=>by
  have hn:=hne h
  obtain⟨es,c,h1,r⟩:=h.blk
  exact⟨es,c,blk_setCell_other h1 hn _,r⟩
 refine⟨hkeep h1,hkeep h2,?_,Below.setCell hB (p:=⟨kb,0,none⟩) hk _,hk⟩
 rw [zq0 (zq7 hb _)]
 simp
end Go.Proofs.YtchcelodeepjdaaGreatDoor.Ln

namespace Go.Herb
open Go

def N64 (x:Int):Prop:=0<=x/\x<18446744073709551616
theorem zxe (x:Int)(l:List Int):numsL (x::l)=numsL [x] ++numsL l:=by simp [numsL]
theorem zxk {x:Int}(h:N64 x)(l:List Int):getN (numsL [x] ++l)=some (x.toNat,l):=by
 have:numsL [x] =putN x.toNat:=by simp [numsL]
 rw [this]
 exact yqq _ _ (by have:=h.1;have:=h.2;omega)
theorem zxl {x:Int}(h:N64 x):(x.toNat:Int)=x:=Int.toNat_of_nonneg h.1
theorem zzr (x:Int)(l:List Int):0<(numsL (x::l)).length:=by
 rw [zxe,List.length_append]
 have:numsL [x] =putN x.toNat:=by simp [numsL]
 rw [this]
 have:=zv3 x.toNat
 omega
def BrN (x:Br):Prop:=x.1.size<18446744073709551616/\N64 x.2.1/\N64 x.2.2
def LnN (x:Ln):Prop:=N64 x.1/\N64 x.2
def TbN (t:Tb):Prop:=N64 t.file/\(0<=t.bytes/\t.bytes<=4294967295)/\t.low.size<18446744073709551616/\t.high.size<18446744073709551616
def VcN (v:Int × Bh):Prop:=N64 v.1/\v.2.length<18446744073709551616/\ ∀p∈v.2,LnN p
def SdN (s:Sd):Prop:=N64 s.line/\s.lv.length=3/\ ∀l∈s.lv,l.length<18446744073709551616/\ ∀t∈l,TbN t
structure RtN (r:Rt):Prop where
 seq:N64 r.seq
 log:N64 r.log
 next:N64 r.next
 bs: ∀x∈r.bs,BrN x
 ls: ∀x∈r.ls,LnN x
 vs: ∀x∈r.vs,VcN x
 nb:r.bs.length<18446744073709551616
 nl:r.ls.length<18446744073709551616
 nv:r.vs.length<18446744073709551616
theorem brP_put {x:Br}(h:BrN x)(l:List Int):brP (brL x++l)=some (x,l):=by
 unfold brP brL
 rw [List.append_assoc,yqr _ _ h.1,zxe,List.append_assoc]
 simp only
 rw [zxk h.2.1]
 simp only
 rw [zxk h.2.2]
 simp only
 rw [zxl h.2.1,zxl h.2.2]
theorem yya {x:Ln}(h:LnN x)(l:List Int):lnP (lnL x++l)=some (x,l):=by
 unfold lnP lnL
 rw [zxe,List.append_assoc,zxk h.1]
 simp only
 rw [zxk h.2]
 simp only
 rw [zxl h.1,zxl h.2]
theorem vcP_put {v:Int × Bh}(h:VcN v)(l:List Int):vcP (vcL v++l)=some (v,l):=by
 unfold vcP vcL
 rw [zxe,List.append_assoc,List.append_assoc,zxk h.1]
 simp only
 rw [<-List.append_assoc,zzq (p:=ptP) (f:=ptL) v.2 (fun x hx l=>yya (h.2.2 x hx) l) (fun x _=>zzr _ _) h.2.1]
 simp only
 rw [zxl h.1]
theorem tbP_put {t:Tb}(h:TbN t)(l:List Int):tbP (tbL t++l)=some (t,l):=by
 have hb:N64 t.bytes:=⟨h.2.1.1,by have:=h.2.1.2;omega⟩
 unfold tbP tbL
 rw [zxe]
 simp only [List.append_assoc]
 rw [zxk h.1]
 simp only
 rw [zxk hb]
 simp only
 rw [if_pos (by have:=h.2.1;omega),yqr _ _ h.2.2.1]
 simp only
 rw [yqr _ _ h.2.2.2]
 simp only
 rw [zxl h.1,zxl hb]
theorem tbL_pos (t:Tb):0<(tbL t).length:=by
 unfold tbL
 rw [List.length_append,List.length_append]
 have:=zzr t.file [t.bytes]
 omega
theorem levP_put {l:List Tb}(h:l.length<18446744073709551616/\ ∀t∈l,TbN t)(r:List Int):levP (levL l++r)=some (l,r):=
 zzq (f:=tbL) l (fun x hx l=>tbP_put (h.2 x hx) l) (fun x _=>tbL_pos x) h.1 r
theorem sdP_put {s:Sd}(h:SdN s)(l:List Int):sdP (sdL s++l)=some (s,l):=by
 unfold sdP sdL
 rw [List.append_assoc,zxk h.1]
 simp only
 have h3:=yx6 (p:=levP) (f:=levL) s.lv (fun x hx l=>levP_put (h.2.2 x hx) l) l
 rw [h.2.1] at h3
 rw [h3]
 simp only
 rw [zxl h.1]
theorem sdL_pos (s:Sd):0<(sdL s).length:=by
 unfold sdL
 rw [List.length_append]
 have:=zzr s.line []
 omega
theorem yjz {l:List Sd}(h: ∀s∈l,SdN s)(hl:l.length<18446744073709551616)(r:List Int):shP (shL l++r)=some (l,r):=
 zzq (f:=sdL) l (fun x hx l=>sdP_put (h x hx) l) (fun x _=>sdL_pos x) hl r
theorem brL_pos (x:Br):0<(brL x).length:=by
 unfold brL
 rw [List.length_append]
 have:=zzr x.2.1 [x.2.2]
 omega
theorem vcL_pos (x:Int × Bh):0<(vcL x).length:=by
 unfold vcL
 rw [List.length_append]
 have:=zzr x.1 [(x.2.length:Int)]
 omega
theorem yjx {r:Rt}(h:RtN r)(l:List Int):rtP (headL r++l)=some ({r with sh:= []},l):=by
 unfold rtP headL
 rw [zxe r.seq,zxe r.log,zxe r.next]
 simp only [List.append_assoc]
 rw [zxk h.seq]
 simp only
 rw [zxk h.log]
 simp only
 rw [zxk h.next]
 simp only
 rw [<-List.append_assoc (numsL [(r.bs.length:Int)]),zzq (f:=brL) r.bs (fun x hx l=>brP_put (h.bs x hx) l) (fun x _=>brL_pos x) h.nb]
 simp only
 rw [<-List.append_assoc (numsL [(r.ls.length:Int)]),zzq (f:=lnL) r.ls (fun x hx l=>yya (h.ls x hx) l) (fun x _=>zzr _ _) h.nl]
 simp only
 rw [<-List.append_assoc (numsL [(r.vs.length:Int)]),zzq (f:=vcL) r.vs (fun x hx l=>vcP_put (h.vs x hx) l) (fun x _=>vcL_pos x) h.nv]
 simp only
 rw [zxl h.seq,zxl h.log,zxl h.next]
def nmP:Ps Int:=fun l=>match getN l with
 |none=>none
 |some (a,r)=>some ((a:Int),r)
theorem nmP_put {x:Int}(h:N64 x)(l:List Int):nmP (numsL [x] ++l)=some (x,l):=by
 unfold nmP
 rw [zxk h]
 simp only
 rw [zxl h]
theorem nms_flat (ns:List Int):numsL ns=ns.flatMap (fun x=>numsL [x]):=by
 induction ns with
 |nil=>rfl
 |cons x ns ih=>rw [zxe,ih,List.flatMap_cons]
theorem nmsP_put {ns:List Int}(h: ∀x∈ns,N64 x)(hl:ns.length<18446744073709551616)(l:List Int):manyP nmP (numsL [(ns.length:Int)] ++numsL ns++l)=some (ns,l):=by
 rw [nms_flat ns]
 exact zzq (f:=fun x=>numsL [x]) ns (fun x hx l=>nmP_put (h x hx) l) (fun x _=>zzr _ _) hl l
end Go.Herb

namespace Go.Herb
open Go

structure EdN (x was:Rt):Prop where
 rt:RtN x
 gs: ∀g∈goneL x.sh was.sh,N64 g
 ng:(goneL x.sh was.sh).length<18446744073709551616
 sh: ∀s∈newL x.sh was.sh,SdN s
 ns:(newL x.sh was.sh).length<18446744073709551616
theorem edN_of {x was:Rt}(h:RtN x)(h1: ∀s∈x.sh,SdN s)(h2: ∀s∈was.sh,SdN s)(h3:x.sh.length<18446744073709551616)(h4:was.sh.length<18446744073709551616):EdN x was:=by
 refine⟨h,fun g hg=> ?_,?_,fun s hs=>h1 s (List.mem_filter.1 hs).1,Nat.lt_of_le_of_lt (List.length_filter_le _ _) h3⟩
 ·obtain⟨s,hs,rfl⟩:=List.mem_map.1 hg
  exact(h2 s (List.mem_filter.1 hs).1).1
 ·unfold goneL
  rw [List.length_map]
  exact Nat.lt_of_le_of_lt (List.length_filter_le _ _) h4
def edP:Ps (Rt × List Int × List Sd):=fun l=>match rtP l with
 |none=>none
 |some (r,l1)=>match manyP nmP l1 with
  |none=>none
  |some (gs,l2)=>match shP l2 with
   |none=>none
   |some (sh,l3)=>some ((r,gs,sh),l3)
theorem yj6 {x was:Rt}(h:EdN x was)(t:List Int): ∃l,editL x was++t=2::l/\edP l=some (({x with sh:= []},goneL x.sh was.sh,newL x.sh was.sh),t):=by
 refine⟨_,rfl,?_⟩
 unfold edP
 simp only [List.append_eq,List.append_assoc]
 rw [yjx h.rt]
 simp only
 rw [<-List.append_assoc (numsL [_]),nmsP_put h.gs h.ng]
 simp only
 rw [yjz h.sh h.ns]
end Go.Herb
