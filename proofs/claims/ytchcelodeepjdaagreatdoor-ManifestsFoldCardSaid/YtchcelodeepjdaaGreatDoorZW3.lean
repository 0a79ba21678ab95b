/- Lemmas and walks towards ManifestsFold. Conditions: each one tells its own. -/
import Derived.Test.YtchcelodeepjdaaGreatDoorMp
import Derived.Test.YtchcelodeepjdaaGreatDoorZZ9
import Derived.Test.YtchcelodeepjdaaGreatDoorZQ
import Derived.Deep.OwnRows
import Derived.Test.YtchcelodeepjdaaGreatDoorZZK
namespace Go.Proofs.YtchcelodeepjdaaGreatDoor.Ln
open Go.RowKit Go.Shelf Go.Herb
theorem yv3 (P:Option Addr)(Q:Option Rv)(a:Option Addr)(cap n:Nat)(ys:List Int)(w:World)(hb:Byt w a ys)(hn:ys.length=n)(hu: ∀y∈ys,U8 y)(hl:n<100000)(hle:n<=cap)(h0:a=none->cap=0)(hq:zv8 w P Q)(hqr: ∀q,Q=some q->zjj q.says):
  Calls Tryz.prog (27) #[.slice a n cap, .pointer P] w (zwz ys Q w):=by
 cases ys with
 |nil=>exact zvz P Q a cap n [] w hb hn (.inl rfl)
 |cons c l=>
  by_cases h1:c=1
  ·exact yq1 P Q a cap n c l w hb hn hu hl hle h0 (.inl h1)
  ·by_cases h2:c=2
   ·rcases hq with⟨rfl,rfl⟩|⟨q,rb,rfl,rfl,hw⟩
    ·exact zvz none none a cap n (c::l) w hb hn (.inr ⟨c,l,rfl,h1, .inr ⟨h2,rfl,rfl⟩⟩)
    ·exact yq1 _ _ a cap n c l w hb hn hu hl hle h0 (.inr ⟨h2,q,rb,rfl,rfl,hw,hqr q rfl⟩)
   ·exact zvz P Q a cap n (c::l) w hb hn (.inr ⟨c,l,rfl,h1, .inl h2⟩)
def yxg (w:World)(e:Ending)(w':World):Prop:=Below w.heap.size w w'/\e= .returned (.tuple #[.agg zeroC, .int .i64 7])
set_option maxRecDepth 100000 in
theorem yza (a:Option Addr)(cl:Nat)(w:World):Calls Tryz.prog (12) #[.slice a 0 cl] w (yxg w):=by
 obtain⟨W,hW⟩: ∃W:World,W=w.alloc (.cells #[.int .u64 0, .int .u64 0, .int .u64 0, .slice none 0 0, .slice none 0 0, .slice none 0 0, .slice none 0 0] (32)):=⟨_,rfl⟩
 have hB:Below w.heap.size w W:=by rw [hW];exact zb.alloc zr _
 have hx:W.heap[w.heap.size]? =some (.cells #[.int .u64 0, .int .u64 0, .int .u64 0, .slice none 0 0, .slice none 0 0, .slice none 0 0, .slice none 0 0] (32) (0,0)):=by rw [hW];exact zq3 rfl _
 have HR:=zh (show ResSt w W W #[.int .u64 0, .int .u64 0, .int .u64 0, .slice none 0 0, .slice none 0 0, .slice none 0 0, .slice none 0 0] from⟨hx,hB,zxp _ _⟩)
 have f0:=zq1 hx 0
 have f1:=zq1 hx 1
 have f2:=zq1 hx 2
 have f3:=zq1 hx 3
 have f4:=zq1 hx 4
 have f5:=zq1 hx 5
 have f6:=zq1 hx 6
 obtain⟨c0,c1,c2,c3,c4,c5,c6⟩:=zqb hx
 clear hB hx
 go_enter Tryz.func12,Tryz.ntmps12
 go_upto_region 1 with fail
 rw [<-hW]
 clear hW
 go_wp2_with fail
 have HB8:=zh ((((((((HR.out.store 0 (.int .u64 0) _ rfl).store 1 (.int .u64 0) _ rfl).store 2 (.int .u64 0) _ rfl).store 3 (.slice none 0 0) _ rfl).store 4 (.slice none 0 0) _ rfl).store 5 (.slice none 0 0) _ rfl).store 6 (.slice none 0 0) #[.int .u64 0, .int .u64 0, .int .u64 0, .slice none 0 0, .slice none 0 0, .slice none 0 0, .slice none 0 0] rfl))
 obtain⟨Z,hZ⟩:=HB8.out.name
 rw [<-hZ] at HB8 ⊢
 clear hZ c0 c1 c2 c3 c4 c5 c6 f0 f1 f2 f3 f4 f5 f6
 obtain⟨c0,c1,c2,c3,c4,c5,c6⟩:=zqb HB8.out.box
 refine bodyPost_ret (v:= .tuple #[.agg #[.int .u64 0, .int .u64 0, .int .u64 0, .slice none 0 0, .slice none 0 0, .slice none 0 0, .slice none 0 0], .int .i64 7]) (by simp [results,Tryz.results12,go_sem,c0,c1,c2,c3,c4,c5,c6]) rfl ?_
 exact⟨HB8.out.below,rfl⟩
set_option maxRecDepth 100000 in
set_option maxHeartbeats 2000000 in
theorem yju (g go cl N:Nat)(rs:List (List Int))(w:World)(hg:ykd w g go rs)(hs: ∀ys∈rs,ys.length<100000)(hgl:g<w.heap.size)(hN:rs.length=N)(hN0:0<N)(hNl:N<1000000)(hw: ∀k x,Told (rs.take k) x->wtR x<=400000):
  Calls Tryz.prog (12) #[.slice (some ⟨g,go,none⟩) N cl] w (zkh rs w):=by
 obtain⟨W,hW⟩: ∃W:World,W=w.alloc (.cells #[.int .u64 0, .int .u64 0, .int .u64 0, .slice none 0 0, .slice none 0 0, .slice none 0 0, .slice none 0 0] (32)):=⟨_,rfl⟩
 have hBW:Below w.heap.size w W:=by rw [hW];exact zb.alloc zr _
 have hx:W.heap[w.heap.size]? =some (.cells #[.int .u64 0, .int .u64 0, .int .u64 0, .slice none 0 0, .slice none 0 0, .slice none 0 0, .slice none 0 0] (32) (0,0)):=by rw [hW];exact zq3 rfl _
 have HX:=zh hx
 have HZ:=zh (show W.heap.size=w.heap.size+1 from by rw [hW];simp)
 have HO:=zh (show∀(k:Nat) (ys:List Int),rs[k]? =some ys-> ∀(u:World) (P:Option Addr) (Q:Option Rv),Below W.heap.size W u->zv8 u P Q->(∀q,Q=some q->zjj q.says)-> ∃a n cap,u.cell? ⟨g,go+k,none⟩=some (.slice a n cap)/\Calls Tryz.prog (27) #[.slice a n cap, .pointer P] u (zwz ys Q u)from fun k ys hk u P Q hu hq hf=>by
  obtain⟨v,hv,hr⟩:=hg k ys hk
  have hBu:=hBW.trans (hu.mono hBW.size)
  obtain⟨a,n,cap,rfl,h1,h2,h3,h4⟩:=hr.ok
  exact⟨a,n,cap,(hBu.cell (p:=⟨g,go+k,none⟩) hgl).trans hv,yv3 P Q a cap n ys u (h1.ext hBu) h2 hr.u8 (by rw [<-h2];exact hs ys (List.mem_of_getElem? hk)) h3 h4 hq hf⟩)
 have HN:=zh hN
 have HWT:=zh hw
 have z0:((N:Int)==0)=false:=beq_eq_false_iff_ne.2 (by omega)
 have z1:(N==0)=false:=beq_eq_false_iff_ne.2 (by omega)
 have z2: ¬(N:Int)=0:=by omega
 have HB:=zh hBW
 have HW:=zh hW
 clear hg hgl hN hw hBW hx hs
 go_enter Tryz.func12,Tryz.ntmps12
 go_upto_region 5 with fail
 rw [<-hW]
 clear hW
 clear z0 z1 z2
 go_loopg [5,4] N (fun gk iv v4 wr=> ∃k:Nat,k+gk=N/\iv= .int .i64 k/\ ∃(P:Option Addr) (Q:Option Rv),v4= .pointer P/\Hid (zva rs W wr k P Q)/\Hid (∀q,Q=some q->zjj q.says))
 case atStart=>exact⟨0,by omega,rfl,none,none,rfl,zh ⟨zb,rfl, .inl ⟨rfl,rfl⟩⟩,zh (fun q e=>by cases e)⟩
 case round=>
  obtain⟨k,hk,rfl,P,Q,rfl,HST,HRF⟩:=hrel
  by_cases hkN:k<N
  ·obtain⟨ys,hys⟩: ∃ys,rs[k]? =some ys:=⟨_,List.getElem?_eq_getElem (by rw [HN.out];exact hkN)⟩
   obtain⟨a,n,cap,g0,hc⟩:=HO.out k ys hys wr P Q HST.out.below (HST.out.ahead HWT.out) HRF.out
   have HC:=zh hc
   have HYS:=zh hys
   have i0:(0:Int)<=(k:Int):=by omega
   have i1:(k:Int)<(N:Int):=by omega
   have hw1:IntKind.i64.wrap ((k:Int)+1)=(k:Int)+1:=IntWalk.i64_in _ (by omega)
   have HBU:=zh (HB.out.trans (HST.out.below.mono HB.out.size))
   clear hc hys
   go_wp2_with fail
   refine HC.out.mono ?_
   rintro e w2 ⟨hb,r,ok,rfl,hno,hyes⟩
   obtain⟨nb,hnb⟩: ∃n,n=r.bs.length:=⟨_,rfl⟩
   obtain⟨nl,hnl⟩: ∃n,n=r.ls.length:=⟨_,rfl⟩
   obtain⟨nv,hnv⟩: ∃n,n=r.vs.length:=⟨_,rfl⟩
   obtain⟨ns,hns⟩: ∃n,n=r.sh.length:=⟨_,rfl⟩
   have hrt:rtV r= .agg #[.int .u64 r.seq, .int .u64 r.log, .int .u64 r.next, .slice r.ba nb r.bc, .slice r.la nl r.lc, .slice r.va nv r.vc, .slice r.sa ns r.sc] :=by rw [hnb,hnl,hnv,hns]
   rw [hrt]
   clear hrt
   cases ok with
   |false=>
    have HNO:=zh (show¬ ∃x,Told rs x from fun⟨x,hx⟩=>hno rfl (yzu HYS.out HST.out.told hx))
    obtain⟨Y,hY⟩: ∃Y:World,Y=w2.alloc (.cells #[.int .u64 r.seq, .int .u64 r.log, .int .u64 r.next, .slice r.ba nb r.bc, .slice r.la nl r.lc, .slice r.va nv r.vc, .slice r.sa ns r.sc] (32)):=⟨_,rfl⟩
    have hBY:Below w2.heap.size w2 Y:=by rw [hY];exact zb.alloc zr _
    have hB2:=hb.trans (hBY.mono hb.size)
    have hx2:=zq4 (zq4 HX.out HST.out.below (zq2 HX.out)) hB2 (Nat.lt_of_lt_of_le (zq2 HX.out) HST.out.below.size)
    have HR:=zh (show ResSt w Y Y #[.int .u64 0, .int .u64 0, .int .u64 0, .slice none 0 0, .slice none 0 0, .slice none 0 0, .slice none 0 0] from⟨hx2,HBU.out.trans (hB2.mono HBU.out.size),zxp _ _⟩)
    have HYY:=zh hY
    have hx:=hx2
    have f0:=zq1 hx 0
    have f1:=zq1 hx 1
    have f2:=zq1 hx 2
    have f3:=zq1 hx 3
    have f4:=zq1 hx 4
    have f5:=zq1 hx 5
    have f6:=zq1 hx 6
    obtain⟨c0,c1,c2,c3,c4,c5,c6⟩:=zqb hx
    clear hno hyes hb hBY hB2 hx2 hY hx g0 hnb hnl hnv hns
    go_upto_region 8 with fail
    rw [<-HYY.out]
    clear HYY
    go_wp2_with fail
    have HB8:=zh ((((((((HR.out.store 0 (.int .u64 0) _ rfl).store 1 (.int .u64 0) _ rfl).store 2 (.int .u64 0) _ rfl).store 3 (.slice none 0 0) _ rfl).store 4 (.slice none 0 0) _ rfl).store 5 (.slice none 0 0) _ rfl).store 6 (.slice none 0 0) #[.int .u64 0, .int .u64 0, .int .u64 0, .slice none 0 0, .slice none 0 0, .slice none 0 0, .slice none 0 0] rfl))
    obtain⟨Z,hZ⟩:=HB8.out.name
    rw [<-hZ] at HB8 ⊢
    clear hZ c0 c1 c2 c3 c4 c5 c6 f0 f1 f2 f3 f4 f5 f6
    obtain⟨c0,c1,c2,c3,c4,c5,c6⟩:=zqb HB8.out.box
    refine bodyPost_ret (v:= .tuple #[.agg #[.int .u64 0, .int .u64 0, .int .u64 0, .slice none 0 0, .slice none 0 0, .slice none 0 0, .slice none 0 0], .int .i64 4]) (by simp [results,Tryz.results12,go_sem,c0,c1,c2,c3,c4,c5,c6]) rfl ?_
    exact⟨HB8.out.below, .inl ⟨HNO.out,rfl⟩⟩
   |true=>
    obtain⟨h1,h2,h3,h4⟩:=hyes rfl
    have HNX:=zh (HST.out.next HYS.out hb h1 h2 h3)
    rw [<-hnb,<-hnl,<-hnv,<-hns] at HNX
    have HRN:=zh (show∀q,some r=some q->zjj q.says from fun q e=>by cases e;exact h4)
    clear hno hyes hb h1 h2 h3 h4 hnb hnl hnv hns
    go_wp2_with fail
    go_roundg(gk - 1)
    case measure=>omega
    case rel=>exact⟨k+1,by omega,by go_num,_,_,rfl,HNX,HRN⟩
  ·have hk1:k=N:=by omega
   subst hk1
   have i1: ¬(k:Int)<(k:Int):=by omega
   have htake:rs.take k=rs:=List.take_of_length_le (by rw [HN.out];exact zr)
   have htold:=HST.out.told
   rw [htake] at htold
   rcases HST.out.box with⟨-,rfl⟩|⟨r,b,rfl,rfl,hf,hbk,hs⟩
   ·exfalso
    obtain⟨x,e⟩:=yzt (fun e=>by have:=HN.out;rw [e] at this;simp at this;omega) htold
    cases e
   have hB:=HST.out.below
   obtain⟨nb,hnb⟩: ∃n,n=r.bs.length:=⟨_,rfl⟩
   obtain⟨nl,hnl⟩: ∃n,n=r.ls.length:=⟨_,rfl⟩
   obtain⟨nv,hnv⟩: ∃n,n=r.vs.length:=⟨_,rfl⟩
   obtain⟨ns,hns⟩: ∃n,n=r.sh.length:=⟨_,rfl⟩
   have HRT:=zh (show rtV r= .agg #[.int .u64 r.seq, .int .u64 r.log, .int .u64 r.next, .slice r.ba nb r.bc, .slice r.la nl r.lc, .slice r.va nv r.vc, .slice r.sa ns r.sc] from by rw [hnb,hnl,hnv,hns])
   rw [<-hnb,<-hnl,<-hnv,<-hns] at hbk
   obtain⟨k0,k1,k2,k3,k4,k5,k6⟩:=zqb hbk
   have hx:=zq4 HX.out hB (zq2 HX.out)
   have HR:=zh (show ResSt w wr wr #[.int .u64 0, .int .u64 0, .int .u64 0, .slice none 0 0, .slice none 0 0, .slice none 0 0, .slice none 0 0] from⟨hx,HB.out.trans (hB.mono HB.out.size),zxp _ _⟩)
   have f0:=zq1 hx 0
   have f1:=zq1 hx 1
   have f2:=zq1 hx 2
   have f3:=zq1 hx 3
   have f4:=zq1 hx 4
   have f5:=zq1 hx 5
   have f6:=zq1 hx 6
   obtain⟨c0,c1,c2,c3,c4,c5,c6⟩:=zqb hx
   have HTO:=zh (show Told rs r.says from htold)
   have HFX:=zh hf
   have HSS:=zh hs
   clear hkN HST htake htold hbk hf hs hB hnb hnl hnv hns hx
   go_wp2_with fail
   have HB8:=zh ((((((((HR.out.store 0 (.int .u64 r.seq) _ rfl).store 1 (.int .u64 r.log) _ rfl).store 2 (.int .u64 r.next) _ rfl).store 3 (.slice r.ba nb r.bc) _ rfl).store 4 (.slice r.la nl r.lc) _ rfl).store 5 (.slice r.va nv r.vc) _ rfl).store 6 (.slice r.sa ns r.sc) #[.int .u64 r.seq, .int .u64 r.log, .int .u64 r.next, .slice r.ba nb r.bc, .slice r.la nl r.lc, .slice r.va nv r.vc, .slice r.sa ns r.sc] rfl))
   obtain⟨Z,hZ⟩:=HB8.out.name
   rw [<-hZ] at HB8 ⊢
   clear hZ c0 c1 c2 c3 c4 c5 c6 f0 f1 f2 f3 f4 f5 f6 k0 k1 k2 k3 k4 k5 k6
   obtain⟨c0,c1,c2,c3,c4,c5,c6⟩:=zqb HB8.out.box
   refine bodyPost_ret (v:= .tuple #[.agg #[.int .u64 r.seq, .int .u64 r.log, .int .u64 r.next, .slice r.ba nb r.bc, .slice r.la nl r.lc, .slice r.va nv r.vc, .slice r.sa ns r.sc], .int .i64 0]) (by simp [results,Tryz.results12,go_sem,c0,c1,c2,c3,c4,c5,c6]) rfl ?_
   refine⟨HB8.out.below, .inr ⟨r,HTO.out,by rw [HRT.out],HSS.out Z (fun i cs e hh hi=>HB8.out.keep i cs e hh (by have:=HZ.out;omega)),HFX.out⟩⟩
end Go.Proofs.YtchcelodeepjdaaGreatDoor.Ln

namespace Go.Proofs.YtchcelodeepjdaaGreatDoor.Ln
open Go.RowKit Go.Shelf Go.Herb
def rowB (L:List Int):Obj:= .cells ((L.map (Value.int .u8)).toArray) (5) (0,0)
theorem made_b (m:Nat):madeCells #[Value.int .u8 0] m=((List.replicate m (0:Int)).map (Value.int .u8)).toArray:=by
 apply Array.toList_inj.1
 rw [toList_madeCells_one]
 simp
theorem zkx {u:World}{b k:Nat}{L:List Int}{x:Int}(h:u.heap[b]? =some (rowB L))(hk:L[k]? =some x):u.cell? ⟨b,k,none⟩=some (.int .u8 x):=by
 unfold rowB at h
 rw [zq0 h]
 simp [hk]
theorem zky {u:World}{b k:Nat}{L:List Int}(h:u.heap[b]? =some (rowB L))(x:Int):(u.setCell ⟨b,k,none⟩ (.int .u8 x)).heap[b]? =some (rowB (L.set k x)):=by
 unfold rowB at h ⊢
 rw [zq7 h]
 congr 2
 simp [List.map_set]
theorem zy2 {u:World}{b k:Nat}{L:List Int}(h:u.heap[b]? =some (rowB L)):u.frozen? ⟨b,k,none⟩=false:=by
 unfold rowB at h
 exact zq1 h k
theorem infoB8w:(Tryz.prog.info? (5)).map (fun i=>(i.zero,i.size,i.bytes))=some (some (.int .u8 0),1,1):=by kernel_rfl
theorem yq2 {a:Addr}{n c k:Nat}(hk:k<=c)(h0:0<c): ∀W,(Instr.slice (24) (.slice (some a) n c) none (some (.int .i64 (k:Int))) none).run Tryz.prog W= .ok (.slice (some a) k c) W:=fun W=>by
 have h1:c≠0:=by omega
 rw [run_slice_h (P:=Tryz.prog) W (24) (some a) n c (by kernel_rfl) .i64 k (by omega) (by omega)]
 rw [show Tryz.prog.elem (24)=(5)from by kernel_rfl,Tryz.sizeOf5]
 obtain⟨b,o,p⟩:=a
 simp [sliced,Result.andThen,Addr.add,h1]
structure FillB (w u:World)(Z:List Int)(k:Nat)(L:List Int):Prop where
 blk:u.heap[w.heap.size]? =some (rowB L)
 len:L.length=Z.length
 got: ∀j,j<k->L[j]? =Z[j]?
 below:Below w.heap.size w u
theorem FillB.put {w u:World}{Z L:List Int}{k:Nat}(h:FillB w u Z k L){x y:Int}(hx:Z[k]? =some x):FillB w ((u.setCell ⟨w.heap.size,k,none⟩ (.int .u8 y)).setCell ⟨w.heap.size,k,none⟩ (.int .u8 x)) Z (k+1) (L.set k x):=by
 have h1:=zky (k:=k) (zky (k:=k) h.blk y) x
 rw [List.set_set] at h1
 refine⟨h1,by rw [List.length_set];exact h.len,fun j hj=> ?_,Below.setCell (Below.setCell h.below (p:=⟨w.heap.size,k,none⟩) (Nat.le_refl w.heap.size) _) (p:=⟨w.heap.size,k,none⟩) (Nat.le_refl w.heap.size) _⟩
 have hkl:k<L.length:=by rw [h.len];exact(List.getElem?_eq_some_iff.1 hx).1
 by_cases e:j=k
 ·subst e;rw [List.getElem?_set_self hkl,hx]
 ·rw [List.getElem?_set_ne (fun h=>e h.symm)];exact h.got j (by omega)
theorem FillB.put1 {w u:World}{Z L:List Int}{k:Nat}(h:FillB w u Z k L){x:Int}(hx:Z[k]? =some x):FillB w (u.setCell ⟨w.heap.size,k,none⟩ (.int .u8 x)) Z (k+1) (L.set k x):=by
 refine⟨zky (k:=k) h.blk x,by rw [List.length_set];exact h.len,fun j hj=> ?_,Below.setCell h.below (p:=⟨w.heap.size,k,none⟩) (Nat.le_refl w.heap.size) _⟩
 have hkl:k<L.length:=by rw [h.len];exact(List.getElem?_eq_some_iff.1 hx).1
 by_cases e:j=k
 ·subst e;rw [List.getElem?_set_self hkl,hx]
 ·rw [List.getElem?_set_ne (fun h=>e h.symm)];exact h.got j (by omega)
theorem FillB.done {w u:World}{Z L:List Int}{k:Nat}(h:FillB w u Z k L)(hk:Z.length<=k):u.heap[w.heap.size]? =some (rowB Z):=by
 have e:L=Z:=by
  apply List.ext_getElem?
  intro j
  by_cases hj:j<k
  ·exact h.got j hj
  ·rw [List.getElem?_eq_none (by rw [h.len];omega),List.getElem?_eq_none (by omega)]
 rw [<-e]
 exact h.blk
def yvh (ys:List Int)(w:World)(e:Ending)(w':World):Prop:=Below w.heap.size w w'/\e= .returned (.slice (some ⟨w.heap.size,0,none⟩) ys.length (ys.length+2))/\w'.heap[w.heap.size]? =some (rowB (ys++ [90,90]))
set_option maxRecDepth 100000 in
theorem yj3 (a:Option Addr)(cap n:Nat)(ys:List Int)(w:World)(hb:Byt w a ys)(hn:ys.length=n)(hl:n<=4000):
  Calls Tryz.prog (24) #[.slice a n cap, .int .u8 90] w (yvh ys w):=by
 obtain⟨Z,hZ⟩: ∃Z,Z=ys++ [90,90] :=⟨_,rfl⟩
 have hzl:Z.length=n+2:=by rw [hZ,List.length_append,hn];rfl
 obtain⟨m,hm⟩: ∃m,m=n+2:=⟨_,rfl⟩
 have hmi:(m:Int)=(n:Int)+2:=by omega
 obtain⟨i0,hi0,hi1,hi2,hi3⟩:=info_parts infoB8w
 have hmk:=run_make_row (P:=Tryz.prog) (24) (5) i0 (.int .u8 0) Tryz.underlying24 hi0 hi1 hi2 rfl .i64 .i64 m (by rw [hi3];omega) (by omega) w
 rw [made_b,hmi] at hmk
 obtain⟨W,hW⟩: ∃W:World,W=w.alloc (.cells ((List.replicate m (0:Int)).map (Value.int .u8)).toArray (5)):=⟨_,rfl⟩
 rw [<-hW] at hmk
 have HF0:=zh (show FillB w W Z 0 (List.replicate m 0)from⟨by rw [hW];exact zq3 rfl _,by rw [List.length_replicate,hzl,hm],fun j hj=>by omega,by rw [hW];exact zb.alloc zr _⟩)
 have HE:=zh hb
 have HN:=zh hn
 have HZ:=zh hZ
 have HZL:=zh hzl
 have HM:=zh hm
 have hw2:IntKind.i64.wrap ((n:Int)+2)=(n:Int)+2:=IntWalk.i64_in _ (by omega)
 have hsl:=yq2 (a:=⟨w.heap.size,0,none⟩) (n:=m) (c:=m) (k:=n) (by omega) (by omega)
 clear hb hn hZ hzl hi0 hi1 hi2 hi3 hW
 go_enter Tryz.func24,Tryz.ntmps24
 go_upto_region 3 with fail
 clear hmk
 go_loopg [6] m (fun gk iv wr=> ∃(k:Nat) (L:List Int),k+gk=m/\iv= .int .i64 k/\Hid (FillB w wr Z k L))
 case atStart=>exact⟨0,_,by omega,rfl,HF0⟩
 case round=>
  obtain⟨k,L,hk,rfl,HF⟩:=hrel
  by_cases hlt:k<m
  ·have hkz:k<Z.length:=by have:=HZL.out;have:=HM.out;omega
   have hkl:k<L.length:=by rw [HF.out.len];exact hkz
   obtain⟨x,hx⟩: ∃x,Z[k]? =some x:=⟨_,List.getElem?_eq_getElem hkz⟩
   obtain⟨v0,hv0⟩: ∃v,L[k]? =some v:=⟨_,List.getElem?_eq_getElem hkl⟩
   have c0:=zkx HF.out.blk hv0
   have f0:=zy2 (k:=k) HF.out.blk
   have c1:=zkx (k:=k) (zky (k:=k) HF.out.blk 90) (List.getElem?_set_self hkl)
   have f1:=zy2 (k:=k) (zky (k:=k) HF.out.blk 90)
   have j0:(0:Int)<=(k:Int):=by omega
   have j1:(k:Int)<(m:Int):=by omega
   have hw1:IntKind.i64.wrap ((k:Int)+1)=(k:Int)+1:=IntWalk.i64_in _ (by have:=HM.out;omega)
   by_cases hkn:k<n
   ·have hky:k<ys.length:=by have:=HN.out;omega
    obtain⟨b,o,hab,hlb,hc⟩:=HE.out.get k hky
    have hbx:Below w.heap.size w (wr.setCell ⟨w.heap.size,k,none⟩ (.int .u8 90)):=Below.setCell HF.out.below (p:=⟨w.heap.size,k,none⟩) (Nat.le_refl w.heap.size) _
    have g0:=(hbx.cell (p:=⟨b,_,none⟩) hlb).trans (hc 0 _ rfl)
    have hx2:ys[k] =x:=by
     rw [HZ.out,List.getElem?_append_left hky,List.getElem?_eq_getElem hky] at hx
     exact Option.some.inj hx
    rw [hx2] at g0
    simp only [Nat.mul_one,Nat.add_zero] at g0
    have j2:(k:Int)<(n:Int):=by omega
    have HP:=zh (HF.out.put (y:=90) hx)
    subst hab
    clear hc hx hv0 hkz hkl hbx hx2 hlb
    go_wp2_with fail
    go_roundg(gk - 1)
    case measure=>omega
    case rel=>exact⟨k+1,_,by omega,by go_num,HP⟩
   ·have j2: ¬(k:Int)<(n:Int):=by omega
    have hx9:x=90:=by
     rw [HZ.out,List.getElem?_append_right (by have:=HN.out;omega)] at hx
     have h2:=(List.getElem?_eq_some_iff.1 hx).1
     simp at h2
     have e:k - ys.length=0\/k - ys.length=1:=by omega
     rcases e with e|e<;>rw [e] at hx<;>simp at hx<;>exact hx.symm
    subst hx9
    have HP:=zh (HF.out.put1 hx)
    clear hx hv0 hkz hkl c1 f1
    go_wp2_with fail
    go_roundg(gk - 1)
    case measure=>omega
    case rel=>exact⟨k+1,_,by omega,by go_num,HP⟩
  ·have j1: ¬(k:Int)<(m:Int):=by omega
   have HD:=zh (HF.out.done (by have:=HZL.out;have:=HM.out;omega))
   have HBB:=zh HF.out.below
   clear HF hlt hk
   go_wp2_with fail
   go_ret
   exact⟨HBB.out,by rw [HN.out];rfl,by rw [<-HZ.out];exact HD.out⟩
theorem xqf (a:Option Addr)(cap n:Nat)(ys:List Int)(w:World)(hb:Byt w a ys)(hn:ys.length=n)(hl:n<=4000):
  Calls Tryz.prog (10) #[.slice a n cap] w (yvh ys w):=by
 have H:=zh (yj3 a cap n ys w hb hn hl)
 clear hb hn hl
 go_enter Tryz.func10,Tryz.ntmps10
 go_wp2_with fail
 refine H.out.mono ?_
 rintro e w' ⟨hb,rfl,hx⟩
 have HB:=zh hb
 have HX:=zh hx
 clear hb hx
 go_wp2_with fail
 go_ret
 exact⟨HB.out,rfl,HX.out⟩
def yvk (w:World)(e:Ending)(w':World):Prop:=e= .returned (.bool true)/\Below w.heap.size w w'
set_option maxRecDepth 100000 in
set_option maxHeartbeats 2000000 in
theorem yy7 (a:Option Addr)(cap n tb:Nat)(ys:List Int)(w:World)(hb:Byt w a ys)(hn:ys.length=n)(hl:n<=4000)(ht:w.heap[tb]? =some (rowB (ys++ [90,90]))):
  Calls Tryz.prog (28) #[.slice (some ⟨tb,0,none⟩) n (n+2), .slice a n cap, .int .u8 90] w (yvk w):=by
 obtain⟨m,hm⟩: ∃m,m=n+2:=⟨_,rfl⟩
 rw [<-hm]
 have hmi:(n:Int)+2=(m:Int):=by omega
 have hw2:IntKind.i64.wrap ((n:Int)+2)=(m:Int):=by rw [IntWalk.i64_in _ (by omega)];omega
 have hsl:=yq2 (a:=⟨tb,0,none⟩) (n:=n) (c:=m) (k:=m) (by omega) (by omega)
 have HE:=zh hb
 have HN:=zh hn
 have HM:=zh hm
 have HT:=zh ht
 have HB0:=zh (Below.refl w.heap.size w)
 clear hb hn ht hm
 go_enter Tryz.func28,Tryz.ntmps28
 go_upto_region 5 with fail
 go_loopg [8] m (fun gk iv wr=> ∃k:Nat,k+gk=m/\iv= .int .i64 k/\Hid (Below w.heap.size w wr))
 case atStart=>exact⟨0,by omega,rfl,HB0⟩
 case round=>
  obtain⟨k,hk,rfl,HB⟩:=hrel
  by_cases hlt:k<m
  ·have hkz:k<(ys++ [90,90]).length:=by rw [List.length_append];have:=HN.out;have:=HM.out;simp;omega
   obtain⟨x,hx⟩: ∃x,(ys++ [90,90])[k]? =some x:=⟨_,List.getElem?_eq_getElem hkz⟩
   have htl:tb<w.heap.size:=by
    have h:=HT.out
    unfold rowB at h
    exact zq2 h
   have c0:=(HB.out.cell (p:=⟨tb,k,none⟩) htl).trans (zkx HT.out hx)
   have j0:(0:Int)<=(k:Int):=by omega
   have j1:(k:Int)<(m:Int):=by omega
   have hw1:IntKind.i64.wrap ((k:Int)+1)=(k:Int)+1:=IntWalk.i64_in _ (by have:=HM.out;omega)
   by_cases hkn:k<n
   ·have hky:k<ys.length:=by have:=HN.out;omega
    obtain⟨b,o,hab,hlb,hc⟩:=HE.out.get k hky
    have g0:=(HB.out.cell (p:=⟨b,_,none⟩) hlb).trans (hc 0 _ rfl)
    have hx2:ys[k] =x:=by
     rw [List.getElem?_append_left hky,List.getElem?_eq_getElem hky] at hx
     exact Option.some.inj hx
    rw [hx2] at g0
    simp only [Nat.mul_one,Nat.add_zero] at g0
    have j2:(k:Int)<(n:Int):=by omega
    have d2:decide ((k:Int)<(n:Int))=true:=decide_eq_true j2
    have d3:(x !=x)=false:=by simp
    have d4:decide ((n:Int)<=(k:Int))=false:=decide_eq_false (by omega)
    have d5:decide (n<=k)=false:=decide_eq_false (by omega)
    have d6:decide (k<n)=true:=decide_eq_true hkn
    subst hab
    clear hc hx hkz hx2 hlb htl
    go_upto_region 7 with fail
    go_quiet (fail)
    have HBQ:=zh (below_drewN HB.out nq)
    go_wp2_with fail
    go_roundg(gk - 1)
    case measure=>omega
    case rel=>exact⟨k+1,by omega,by go_num,HBQ⟩
   ·have j2: ¬(k:Int)<(n:Int):=by omega
    have d2:decide ((k:Int)<(n:Int))=false:=decide_eq_false j2
    have d4:decide ((n:Int)<=(k:Int))=true:=decide_eq_true (by omega)
    have d5:decide (n<=k)=true:=decide_eq_true (by omega)
    have d6:decide (k<n)=false:=decide_eq_false hkn
    have d7:((90:Int)!=90)=false:=by decide
    have hx9:x=90:=by
     rw [List.getElem?_append_right (by have:=HN.out;omega)] at hx
     have h2:=(List.getElem?_eq_some_iff.1 hx).1
     simp at h2
     have e:k - ys.length=0\/k - ys.length=1:=by omega
     rcases e with e|e<;>rw [e] at hx<;>simp at hx<;>exact hx.symm
    subst hx9
    clear hx hkz htl
    go_upto_region 7 with fail
    go_quiet (fail)
    have HBQ:=zh (below_drewN HB.out nq)
    go_wp2_with fail
    go_roundg(gk - 1)
    case measure=>omega
    case rel=>exact⟨k+1,by omega,by go_num,HBQ⟩
  ·have j1: ¬(k:Int)<(m:Int):=by omega
   clear hlt hk
   go_wp2_with fail
   go_ret
   exact⟨rfl,HB.out⟩
theorem yy8 (a:Option Addr)(cap n tb:Nat)(ys:List Int)(w:World)(hb:Byt w a ys)(hn:ys.length=n)(hl:n<=4000)(ht:w.heap[tb]? =some (rowB (ys++ [90,90]))):
  Calls Tryz.prog (13) #[.slice (some ⟨tb,0,none⟩) n (n+2), .slice a n cap] w (yvk w):=by
 have H:=zh (yy7 a cap n tb ys w hb hn hl ht)
 clear hb hn hl ht
 go_enter Tryz.func13,Tryz.ntmps13
 go_wp2_with fail
 refine H.out.mono ?_
 rintro e w' ⟨rfl,hb⟩
 have HB:=zh hb
 clear hb
 go_wp2_with fail
 go_ret
 exact⟨rfl,HB.out⟩
end Go.Proofs.YtchcelodeepjdaaGreatDoor.Ln

namespace Go.Proofs.YtchcelodeepjdaaGreatDoor.Ln
open Go.ChangeShapes Go.WideShapes Go.ChangeAt Go.RowKit Go.Shelf Go.Herb Go.Deep

section
variable {H:Type} {enc:TypeId × Value->H} {w:World}
structure RecA (w:World)(c:Rc):Prop where
 byt:Byt w c.a c.ys
 u8: ∀y∈c.ys,U8 y
 le:c.ys.length<=c.cap
 nil:c.a=none->c.cap=0
theorem RecA.ext {w u:World}{c:Rc}(h:RecA w c)(hb:Below w.heap.size w u):RecA u c:=⟨h.byt.ext hb,h.u8,h.le,h.nil⟩
set_option maxRecDepth 100000 in
theorem rd_rec {fuel:Nat}{cs:List Value}{x:DataW H × List MemPlace}(h:DataW.trod enc Tryz.prog w 0 (fun _=>true) true fuel (24) cs=some x):
  ∃c:Rc,cs=rcc c/\RecA w c:=by
 have k0:Tryz.prog.cellsOf (5)=1:=by kernel_rfl
 rcases open_slice Tryz.underlying24 h with h0|⟨a,len,cap,m,n,D,Pl,hcs,hb,hl,hm,hmm,hx,hD⟩
 ·exact⟨⟨none,0, []⟩,h0.1,Els.nil _ _ _ _,by simp,zr,fun _=>rfl⟩
 ·obtain⟨xs,hlen,hq,hE⟩:=zwo (enc:=nb) (s:=1) (w:=w) (a:=a) (Q:=fun y:Int=>U8 y) len (fun _=>by simp [nb]) (fun i hil=>by
   obtain⟨cs',hc,ht'⟩:=hD i (by rw [hmm];split<;>omega)
   rw [k0] at hc
   obtain⟨y,rfl, -,hy⟩:=DataW.trod_int Tryz.underlying5 ht'
   obtain⟨-,hcl,hat⟩:=World.cells?_some hc
   refine⟨y,u8_wf hy,fun j c hj=> ?_⟩
   match j,hj with
   |0,hj=>
    have:=(hat 0 (by omega)).trans hj
    rw [<-this]
    congr 1
   |j+1,hj=>simp [nb] at hj)
  subst hlen
  exact⟨⟨some a,cap,xs⟩,hcs,hE,hq,hl,fun h=>by cases h⟩
set_option maxRecDepth 100000 in
theorem rd_recs {fuel:Nat}{cs:List Value}{x:DataW H × List MemPlace}(h:DataW.trod enc Tryz.prog w 0 (fun _=>true) true fuel (22) cs=some x):
  ∃(a:Option Addr) (cap:Nat) (xs:List Rc),cs= [.slice a xs.length cap] /\Els rcc 1 w a xs/\(∀c∈xs,RecA w c):=by
 have k0:Tryz.prog.cellsOf (24)=1:=by kernel_rfl
 rcases open_slice Tryz.underlying22 h with h0|⟨a,len,cap,m,n,D,Pl,hcs,hb,hl,hm,hmm,hx,hD⟩
 ·exact⟨none,0, [],h0.1,Els.nil _ _ _ _,by simp⟩
 ·obtain⟨xs,hlen,hq,hE⟩:=zwo (enc:=rcc) (s:=1) (w:=w) (a:=a) (Q:=fun c:Rc=>RecA w c) len (fun _=>by simp [rcc]) (fun i hil=>by
   obtain⟨cs',hc,ht'⟩:=hD i (by rw [hmm];split<;>omega)
   rw [k0] at hc
   obtain⟨c,rfl,hs⟩:=rd_rec ht'
   obtain⟨-,hcl,hat⟩:=World.cells?_some hc
   refine⟨c,hs,fun j v hj=> ?_⟩
   match j,hj with
   |0,hj=>
    have:=(hat 0 (by omega)).trans hj
    rw [<-this]
    congr 1
   |j+1,hj=>simp [rcc] at hj)
  subst hlen
  exact⟨some a,cap,xs,hcs,hE,hq⟩
end
theorem yx9 (f:Sd->Nat)(p:Sd->Bool)(l:List Sd):((l.filter p).map f).sum<=(l.map f).sum:=by
 induction l with
 |nil=>simp
 |cons a l ih=>
  rw [List.filter_cons]
  split
  ·simp only [List.map_cons,List.sum_cons];omega
  ·simp only [List.map_cons,List.sum_cons];omega
theorem yjy (f:Sd->Nat)(p:Sd->Bool)(l:List Sd):(l.map f).sum=((l.filter p).map f).sum+((l.filter (fun s=> !p s)).map f).sum:=by
 induction l with
 |nil=>simp
 |cons a l ih=>
  rw [List.filter_cons,List.filter_cons]
  cases h:p a<;>simp only [List.map_cons,List.sum_cons,Bool.not_true,Bool.not_false,if_true,if_false,Bool.false_eq_true] <;>omega
theorem yj7 {x q:List Sd}(hx:RiseL x)(hq:RiseL q)(f:Sd->Nat):(x.map f).sum<=((newL x q).map f).sum+(q.map f).sum:=by
 have hw: ∀y,asWas q y=true↔y∈q:=fun y=>by
  unfold asWas
  rw [decide_eq_true_eq]
  exact⟨fun⟨z,h1,h2,h3⟩=>by rw [<-Sd.same h2 h3];exact h1,fun h=>⟨y,h,rfl,rfl⟩⟩
 have e:x.filter (fun s=>asWas q s)=q.filter (fun s=>asWas x s):=by
  have hwx: ∀y,asWas x y=true↔y∈x:=fun y=>by
   unfold asWas
   rw [decide_eq_true_eq]
   exact⟨fun⟨z,h1,h2,h3⟩=>by rw [<-Sd.same h2 h3];exact h1,fun h=>⟨y,h,rfl,rfl⟩⟩
  refine zkw (List.Pairwise.sublist List.filter_sublist hx) (List.Pairwise.sublist List.filter_sublist hq) (fun s=> ?_)
  rw [List.mem_filter,List.mem_filter,hw,hwx]
  exact⟨fun⟨a,b⟩=>⟨b,a⟩,fun⟨a,b⟩=>⟨b,a⟩⟩
 have h1:=yjy f (fun s=>asWas q s) x
 have h2:=yx9 f (fun s=>asWas x s) q
 rw [e] at h1
 have e2:newL x q=x.filter (fun s=> !asWas q s):=rfl
 rw [e2]
 omega
def wtO (Q:Option Rt):Nat:=match Q with
 |none=>0
 |some q=>wtR q
theorem yk3 {Q:Option Rt}{ys:List Int}{x:Rt}(hq: ∀q,Q=some q->GoodX q)(h:zqu Q ys x):wtR x<=ys.length+wtO Q:=by
 rcases h with h|⟨q,rfl,h⟩
 ·obtain⟨l,r0,l1,l2,sh,rfl,e1,e2,rfl⟩:=h.read
  have h1:=rtP_w l r0 l1 e1
  have h2:=shP_w l1 sh l2 e2
  unfold wtR
  rw [List.length_cons]
  show(sh.map (fun s=>1+(s.lv.map List.length).sum)).sum<=_
  omega
 ·obtain⟨l,l1,rfl,e1,e2⟩:=h.read
  have h1:=rtP_w l _ l1 e1
  have h2:=egP_w e2
  have h3:=yj7 h.good.2.shelved.rise (hq q rfl).2.shelved.rise (fun s=>1+(s.lv.map List.length).sum)
  unfold wtO wtR
  rw [List.length_cons]
  simp only
  omega
theorem yk7 {l:List (List Int)}: ∀{Q R:Option Rt},(∀q,Q=some q->GoodX q)->zqw Q l R->wtO R<=(l.map List.length).sum+wtO Q:=by
 induction l with
 |nil=>intro Q R _ e;cases e;simp
 |cons y l ih=>
  rintro Q R h ⟨x,h1,h2⟩
  have e1:=yk3 h h1
  have e2:=ih (fun z hz=>by cases hz;exact h1.good) h2
  simp only [List.map_cons,List.sum_cons]
  have e3:wtO (some x)=wtR x:=rfl
  omega
theorem xq8 {l:List (List Int)}{M:Nat}(h: ∀ys∈l,ys.length<=M):(l.map List.length).sum<=l.length*M:=by
 induction l with
 |nil=>simp
 |cons y l ih=>
  simp only [List.map_cons,List.sum_cons,List.length_cons]
  have h1:=h y List.mem_cons_self
  have h2:=ih (fun z hz=>h z (List.mem_cons_of_mem _ hz))
  rw [Nat.succ_mul]
  omega
theorem yq6 {rs:List (List Int)}(hn:rs.length<=12)(hl: ∀ys∈rs,ys.length<=4000)(k:Nat)(x:Rt)(h:Told (rs.take k) x):wtR x<=400000:=by
 have h1:=yk7 zkt h
 have h2:=xq8 (l:=rs.take k) (M:=4000) (fun ys hy=>hl ys (List.mem_of_mem_take hy))
 have h3:(rs.take k).length<=12:=by rw [List.length_take];omega
 have e3:wtO (some x)=wtR x:=rfl
 have e4:wtO none=0:=rfl
 have h5:(rs.take k).length*4000<=12*4000:=Nat.mul_le_mul_right _ h3
 omega
theorem yyx {u:World}{B m:Nat}{v:Value}{ss:List Rc}(c:Rc)(hm:c.ys.length=m)(hB:B<=u.heap.size)(ho:OwnR B u v ss)(hl:ss.length<1000000):
  ∃v' w',(Builtin.append_ #[(22),(22)] (22) #[v, .slice (some ⟨u.heap.size,0,none⟩) 1 1]).run Tryz.prog (u.alloc (.cells #[.slice c.a m c.cap] (24)))= .ok v' w'/\OwnR B w' v' (ss++ [c])/\Below B u w'/\ ∀(g:Nat) (L:List Int),u.heap[g]? =some (rowB L)->w'.heap[g]? =some (rowB L):=by
 subst hm
 have hb1:Below u.heap.size u (u.alloc (.cells #[.slice c.a c.ys.length c.cap] (24))):=zb.alloc zr _
 have ho2:OwnR B (u.alloc (.cells #[.slice c.a c.ys.length c.cap] (24))) v ss:=ownsRow_below ho hb1 zr
 obtain⟨v',w',hrun,h2,h3⟩:=zql (enc:=rcc) (22) (24) (.slice none 0 0) yx2 rcc_one Tryz.underlying22 infoRc rfl (by decide) (u.alloc (.cells #[.slice c.a c.ys.length c.cap] (24))) B v ss u.heap.size c _ ho2 (zq3 rfl _) rfl (by decide) hl (Nat.le_trans hB hb1.size) (22)
 refine⟨v',w',hrun,h2,Below.appended (hb1.mono hB) ho2 zr (Nat.le_trans hB hb1.size) h3,fun g L hg=> ?_⟩
 have hg1:(u.alloc (.cells #[.slice c.a c.ys.length c.cap] (24))).heap[g]? =some (rowB L):=by
  unfold rowB at hg ⊢
  exact zq4 hg hb1 (zq2 hg)
 unfold rowB at hg1 ⊢
 refine(h3.block g (zq2 hg1) (fun e=> ?_)).trans hg1
 obtain⟨_,h4|⟨g',cap,cur,hv,_,hh,_⟩⟩:=ho2
 ·rw [h4.1] at e
  cases e
 ·rw [hv] at e
  have e2:some g'=some g:=e.symm
  cases e2
  rw [hh] at hg1
  cases hg1
structure TwSt (w wr:World)(xs:List Rc)(k:Nat)(v:Value)(rcs:List Rc):Prop where
 below:Below w.heap.size w wr
 own:OwnR w.heap.size wr v rcs
 len:rcs.length=k
 tw: ∀(j:Nat) (c:Rc),j<k->xs[j]? =some c-> ∃tb,rcs[j]? =some ⟨some ⟨tb,0,none⟩,c.ys.length+2,c.ys⟩/\wr.heap[tb]? =some (rowB (c.ys++ [90,90]))/\c.ys.length<=4000
theorem TwSt.ext {w wr u:World}{xs:List Rc}{k:Nat}{v:Value}{rcs:List Rc}(h:TwSt w wr xs k v rcs)(hb:Below wr.heap.size wr u):TwSt w u xs k v rcs:=
 ⟨h.below.trans (hb.mono h.below.size),ownsRow_below h.own hb zr,h.len,fun j c hj hc=>by
  obtain⟨tb,h1,h2,h3⟩:=h.tw j c hj hc
  refine⟨tb,h1,?_,h3⟩
  unfold rowB at h2 ⊢
  exact zq4 h2 hb (zq2 h2)⟩
theorem rowB_byt {u:World}{b:Nat}{L ys zs:List Int}(h:u.heap[b]? =some (rowB L))(e:L=ys++zs):Byt u (some ⟨b,0,none⟩) ys:=⟨fun i hi=>by
 refine⟨b,0,rfl,by unfold rowB at h;exact zq2 h,fun j c hj=> ?_⟩
 match j,hj with
 |0,hj=>
  simp only [nb,List.getElem?_cons_zero,Option.some.injEq] at hj
  subst hj
  have:=zkx (k:=i) h (x:=ys[i]) (by rw [e,List.getElem?_append_left hi,List.getElem?_eq_getElem hi])
  simpa using this
 |j+1,hj=>simp [nb] at hj⟩
theorem TwSt.recs {w wr:World}{xs:List Rc}{v:Value}{rcs:List Rc}(h:TwSt w wr xs xs.length v rcs)(hx: ∀c∈xs,∀y∈c.ys,U8 y):(rcs.map Rc.ys=xs.map Rc.ys)/\(∀c∈rcs,RecB wr c)/\(∀c∈xs,c.ys.length<=4000):=by
 refine⟨?_,fun c hc=> ?_,fun c hc=> ?_⟩
 ·apply List.ext_getElem?
  intro j
  rw [List.getElem?_map,List.getElem?_map]
  by_cases hj:j<xs.length
  ·obtain⟨tb,h1, -⟩:=h.tw j xs[j] hj (List.getElem?_eq_getElem hj)
   rw [h1,List.getElem?_eq_getElem hj]
   rfl
  ·rw [List.getElem?_eq_none (by rw [h.len];omega),List.getElem?_eq_none (by omega)]
 ·obtain⟨j,hj,rfl⟩:=List.getElem_of_mem hc
  have hj2:j<xs.length:=by rw [<-h.len];exact hj
  obtain⟨tb,h1,h2,h3⟩:=h.tw j xs[j] hj2 (List.getElem?_eq_getElem hj2)
  rw [List.getElem?_eq_getElem hj] at h1
  rw [Option.some.inj h1]
  refine⟨⟨⟨_,_,_,rfl,rowB_byt h2 rfl,rfl,Nat.le_add_right _ _,fun e=>by cases e⟩,hx xs[j] (List.getElem_mem hj2),by show(xs[j]).ys.length<500000;omega⟩,fun ad ha=> ?_⟩
  cases ha
  unfold rowB at h2
  exact⟨_,h2⟩
 ·obtain⟨j,hj,rfl⟩:=List.getElem_of_mem hc
  obtain⟨tb, -, -,h3⟩:=h.tw j xs[j] hj (List.getElem?_eq_getElem hj)
  exact h3
theorem recsA_in {w:World}{la:Option Addr}{xs:List Rc}{lb lo:Nat}(hl:Els rcc 1 w la xs)(ha: ∀i,i<xs.length->la=some ⟨lb,lo,none⟩)(hx: ∀c∈xs,RecA w c)(hf: ∀c∈xs,c.ys.length<=4000):ykd w lb lo (xs.map Rc.ys):=fun k ys hk=>by
 rw [List.getElem?_map] at hk
 cases hc:xs[k]? with
 |none=>rw [hc] at hk;cases hk
 |some c=>
  rw [hc] at hk
  cases hk
  obtain⟨hlt,hget⟩:=List.getElem?_eq_some_iff.1 hc
  obtain⟨b,o,h1,h2,h3⟩:=hl.get k hlt
  rw [ha k hlt] at h1
  cases h1
  rw [hget] at h3
  have h4:=h3 0 _ rfl
  simp only [Nat.mul_one,Nat.add_zero] at h4
  have hcm:c∈xs:=by rw [<-hget];exact List.getElem_mem hlt
  have hr:=hx c hcm
  have hr2:=hf c hcm
  exact⟨_,h4,⟨⟨_,_,_,rfl,hr.byt,rfl,hr.le,hr.nil⟩,hr.u8,by omega⟩⟩
end Go.Proofs.YtchcelodeepjdaaGreatDoor.Ln
