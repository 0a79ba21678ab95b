/- Lemmas and walks towards ManifestsFold. Conditions: each one tells its own. -/
import Derived.Test.YtchcelodeepjdaaGreatDoorMp
import Derived.Test.YtchcelodeepjdaaGreatDoorZZM
import Derived.Test.YtchcelodeepjdaaGreatDoorZZb
namespace Go.Proofs.YtchcelodeepjdaaGreatDoor.Ln
open Go.RowKit Go.Shelf Go.Herb

theorem badT_iff {j i:Nat}{l:List Tb}{t:Tb}{ph:ByteArray}(ht:l[i]? =some t)(hp: ∀u,0<i->l[i - 1]? =some u->u.high=ph):Rf.badT j i t.low t.high ph=false↔TabOk j i l t:=by
 have HTRI:=ykt t.low.toList t.high.toList
 unfold Rf.badT
 constructor
 ·intro h
  simp only [Bool.or_eq_false_iff,Bool.not_eq_false'] at h
  obtain⟨h1,h2,h3,h4⟩:=h
  refine⟨h1,h2,by rw [HTRI];exact h3,fun hj hi u hu=> ?_⟩
  rw [decide_eq_true hj,decide_eq_true hi,Bool.true_and,Bool.true_and,Bool.not_eq_false'] at h4
  rw [hp u hi hu]
  exact h4
 ·intro h
  simp only [Bool.or_eq_false_iff,Bool.not_eq_false']
  refine⟨h.low,h.high,by rw [<-HTRI];exact h.span,?_⟩
  by_cases hj:0<j
  ·by_cases hi:0<i
   ·obtain⟨hlt, -⟩:=List.getElem?_eq_some_iff.1 ht
    have h1:=h.next hj hi _ (List.getElem?_eq_getElem (by omega:i - 1<l.length))
    rw [hp _ hi (List.getElem?_eq_getElem (by omega:i - 1<l.length))] at h1
    rw [h1];simp
   ·rw [decide_eq_false hi];simp
  ·rw [decide_eq_false hj];simp
set_option maxRecDepth 100000 in
set_option maxHeartbeats 4000000 in
theorem yzb (s:Sv)(w:World)(hs:SvOk w s)(hN: ∀l∈s.lv,l.ts.length<=1000000):
  Calls Tryz.prog (58) #[shV s] w (zx1 (MayS s.says) w):=by
 obtain⟨v0,hv0⟩: ∃v,v=lvV s.l0:=⟨_,rfl⟩
 obtain⟨v1,hv1⟩: ∃v,v=lvV s.l1:=⟨_,rfl⟩
 obtain⟨v2,hv2⟩: ∃v,v=lvV s.l2:=⟨_,rfl⟩
 have hsh:shV s= .agg #[.int .u64 s.line,v0,v1,v2] :=by rw [hv0,hv1,hv2]
 obtain⟨W,hW⟩: ∃W:World,W=w.alloc (.cells #[.int .u64 s.line,v0,v1,v2] (57)):=⟨_,rfl⟩
 have hB:Below w.heap.size w W:=by rw [hW];exact zb.alloc zr _
 have hx0:W.heap[w.heap.size]? =some (.cells #[.int .u64 s.line,v0,v1,v2] (57) (0,0)):=by rw [hW];exact zq3 rfl _
 have HB:=zh hB
 have HOK:=zh (show∀l∈s.lv,LvOk w l from fun l hl=>by
  simp only [Sv.lv,List.mem_cons,List.not_mem_nil,or_false] at hl
  rcases hl with rfl|rfl|rfl
  ·exact hs.l0
  ·exact hs.l1
  ·exact hs.l2)
 have HEND:=zh (show∀(q:Bool) u,Below W.heap.size W u->(q=true↔MayS s.says)->zx1 (MayS s.says) w (.returned (.bool q)) u from fun q u hu hq=>⟨q,rfl,hq,hB.trans (hu.mono hB.size)⟩)
 have HOUT:=zh (show∀(j:Nat) (l:Lv),s.lv[j]? =some l-> ¬LevOk j l.ts-> ¬MayS s.says from fun j l hl hn h=>hn (h.tabs j l.ts (by rw [Sv.lv_says,List.getElem?_map,hl];rfl)))
 have HNN:=zh hN
 have HSAY:=zh s.lv_says
 have hL3:s.lv.length=3:=rfl
 have HL3:=zh hL3
 have HC:Hid (∀(j:Nat) l,s.lv[j]? =some l-> ∀u,Below W.heap.size W u->u.cell? ⟨w.heap.size,1+j,none⟩=some (lvV l)):=zh (fun j l hl u hu=>by
  have hq:=zq0 (zq4 hx0 hu (zq2 hx0))
  have hj:j<3:=by
   obtain⟨h,_⟩:=List.getElem?_eq_some_iff.1 hl
   exact h
  match j,hj with
  |0,_=>
   have h1:=hq 1;rw [h1];have:s.l0=l:=by simpa [Sv.lv] using hl
   rw [<-this,<-hv0];rfl
  |1,_=>
   have h1:=hq 2;rw [h1];have:s.l1=l:=by simpa [Sv.lv] using hl
   rw [<-this,<-hv1];rfl
  |2,_=>
   have h1:=hq 3;rw [h1];have:s.l2=l:=by simpa [Sv.lv] using hl
   rw [<-this,<-hv2];rfl)
 rw [hsh]
 have HW:=zh hW
 clear hB hs hL3 hN hv0 hv1 hv2 hsh hW hx0
 generalize s.line=line at*
 go_enter Tryz.func58,Tryz.ntmps58
 go_upto_region 3 with fail
 rw [<-HW.out]
 clear HW
 go_loopg [4,3] 3 (fun gk iv mv wr=> ∃(j m:Nat),j+gk=3/\iv= .int .i64 j/\mv= .int .i64 m/\Hid (m=zzd (s.lv.take j))/\Hid (∀i l,i<j->s.lv[i]? =some l->LevOk i l.ts)/\Hid (Below W.heap.size W wr))
 case atStart=>exact⟨0,0,rfl,rfl,rfl,zh rfl,zh (fun i l h=>by omega),zh zb⟩
 case round=>
  obtain⟨j,m,hj,rfl,rfl,HSM,HPRE,HBw⟩:=hrel
  by_cases hlt:j<3
  case neg=>
   have hj3:j=3:=by omega
   subst hj3
   have HLEV:=zh (show∀(i:Nat) l,s.says.lv[i]? =some l->LevOk i l from fun i l hl=>by
    rw [HSAY.out,List.getElem?_map] at hl
    obtain⟨x,hx,rfl⟩:=Option.map_eq_some_iff.1 hl
    obtain⟨h3,_⟩:=List.getElem?_eq_some_iff.1 hx
    rw [HL3.out] at h3
    exact HPRE.out i x h3 hx)
   have HMANY:=zh (show 0<m↔ ∃l∈s.says.lv,l≠ [] from by
    have h:=HSM.out
    rw [List.take_of_length_le (by rw [HL3.out];exact zr)] at h
    rw [h,yq3,HSAY.out]
    simp only [List.mem_map]
    constructor
    ·rintro⟨x,hx,h1⟩;exact⟨_,⟨x,hx,rfl⟩,h1⟩
    ·rintro⟨_,⟨x,hx,rfl⟩,h1⟩;exact⟨x,hx,h1⟩)
   have HR:=zh (HEND.out (decide (0<m)) wr HBw.out ⟨fun h=>⟨HLEV.out,HMANY.out.1 (of_decide_eq_true h)⟩,fun h=>decide_eq_true (HMANY.out.2 h.many)⟩)
   go_wp2_with fail
   go_ret
   exact HR.out
  have hlt':(j:Int)<3:=by omega
  have hj0:(0:Int)<=(j:Int):=by omega
  obtain⟨l,hl⟩: ∃l,s.lv[j]? =some l:=⟨_,List.getElem?_eq_getElem (by rw [HL3.out];exact hlt)⟩
  have HL:=zh hl
  have HLO:=zh (HOK.out l (List.mem_of_getElem? hl))
  have HN:=zh (show l.ts.length<=1000000 from HNN.out l (List.mem_of_getElem? HL.out))
  obtain⟨n,hn⟩: ∃n,n=l.ts.length:=⟨_,rfl⟩
  obtain⟨la,hla⟩: ∃x,x=l.a:=⟨_,rfl⟩
  have hlv:lvV l= .slice la n l.cap:=by rw [hn,hla]
  have HCJ:=zh (show∀u,Below W.heap.size W u->u.cell? ⟨w.heap.size,1+j,none⟩=some (.slice la n l.cap)from fun u hu=>by rw [<-hlv];exact HC.out j l HL.out u hu)
  have HNL:=zh hn
  have HLA:=zh hla
  have hsum:m+n<=4000000:=by
   have h1:=yzq (ls:=s.lv.take j) (fun x hx=>HNN.out x (List.mem_of_mem_take hx))
   have h2:(s.lv.take j).length<=3:=by rw [List.length_take,HL3.out];omega
   have h3:=HSM.out
   have h4:=HN.out
   have h5:(s.lv.take j).length*1000000<=3*1000000:=Nat.mul_le_mul_right _ h2
   rw [hn]
   omega
  have HSUM:=zh hsum
  have hnb:n<=1000000:=by rw [hn];exact HN.out
  clear hl hlv hn hla hsum
  go_upto_region 6 with fail
  obtain⟨g1,hg1⟩: ∃x,x=gk:=⟨_,rfl⟩
  subst hg1
  obtain⟨wo,hwo⟩: ∃x,x=wr:=⟨_,rfl⟩
  subst hwo
  go_loopg [5,3] n (fun gk iv mv wr=> ∃i:Nat,i+gk=n/\iv= .int .i64 i/\mv= .int .i64 ((m+i:Nat):Int)/\Hid (LevTo j l.ts i)/\Hid (Below W.heap.size W wr))
  case atStart=>exact⟨0,by omega,rfl,rfl,zh (fun k t h=>by omega),HBw⟩
  case round=>
   obtain⟨i,hi,rfl,rfl,HLT,HBq⟩:=hrel
   have c1:=HCJ.out wr HBq.out
   by_cases hlti:i<n
   case neg=>
    have hie:l.ts.length<=i:=by have:=HNL.out;omega
    have HALL:=zh (show∀q x,q<j+1->s.lv[q]? =some x->LevOk q x.ts from fun q x hq hx=>by
     rcases Nat.lt_or_eq_of_le (Nat.le_of_lt_succ hq)with h1|h1
     ·exact HPRE.out q x h1 hx
     ·subst h1
      rw [HL.out] at hx
      cases hx
      exact HLT.out.all hie)
    have HSM2:=zh (show m+i=zzd (s.lv.take (j+1))from by
     have hjl:j<s.lv.length:=by rw [HL3.out];exact hlt
     have hg:s.lv[j] =l:=by have:=HL.out;rw [List.getElem?_eq_getElem hjl] at this;exact Option.some.inj this
     have:=HNL.out
     rw [List.take_succ_eq_append_getElem hjl,zya,hg,<-HSM.out]
     omega)
    have hwj:IntKind.i64.wrap ((j:Int)+1)=(j:Int)+1:=IntWalk.i64_in _ (by omega)
    have hni: ¬(i:Int)<(n:Int):=by omega
    go_wp2_with fail
    go_roundg(g1 - 1)
    case measure=>omega
    case rel=>exact⟨j+1,m+i,by omega,by go_num,rfl,HSM2,HALL,HBq⟩
   have hil:i<l.ts.length:=by have:=HNL.out;omega
   have HLE:=zh (List.getElem?_eq_getElem hil)
   obtain⟨b,o,ha,hlb,hcx⟩:=HLO.out.tabs.get i hil
   obtain⟨k,hk⟩: ∃k:Nat,k=i - 1:=⟨_,rfl⟩
   have HBqw:=zh (show∀u,Below W.heap.size W u->Below w.heap.size w u from fun u hu=>HB.out.trans (hu.mono HB.out.size))
   obtain⟨ph,HPH,HPC⟩: ∃ph:ByteArray,Hid (∀u:Tb,0<i->l.ts[i - 1]? =some u->u.high=ph)/\Hid (∀u,Below w.heap.size w u->u.cell? ⟨b,o+k*4+3,none⟩=some (.string ph)):=by
    have hil1:i - 1<l.ts.length:=by omega
    obtain⟨b',o',he',_,hcy⟩:=HLO.out.tabs.get (i - 1) hil1
    rw [ha] at he'
    injection he' with he'
    cases he'
    exact⟨l.ts[i - 1].high,zh (fun y _ hy=>by rw [List.getElem?_eq_getElem hil1] at hy;injection hy with hy;rw [<-hy]),zh (fun u hu=>by rw [hk];exact(hu.cell (p:=⟨b,_,none⟩) hlb).trans (hcy 3 _ rfl))⟩
   generalize l.ts[i] =t at HLE hcx
   have hbw:=HBqw.out wr HBq.out
   have g0:=(hbw.cell (p:=⟨b,_,none⟩) hlb).trans (hcx 0 _ rfl)
   have g1:=(hbw.cell (p:=⟨b,_,none⟩) hlb).trans (hcx 1 _ rfl)
   have g2:=(hbw.cell (p:=⟨b,_,none⟩) hlb).trans (hcx 2 _ rfl)
   have g3:=(hbw.cell (p:=⟨b,_,none⟩) hlb).trans (hcx 3 _ rfl)
   simp only [Nat.add_zero] at g0
   obtain⟨X,hX⟩: ∃X:World,X=wr.alloc (.cells #[.int .u64 t.file, .int .u32 t.bytes, .string t.low, .string t.high] (51)):=⟨_,rfl⟩
   have hBX:Below wr.heap.size wr X:=by rw [hX];exact zb.alloc zr _
   have hx1:X.heap[wr.heap.size]? =some (.cells #[.int .u64 t.file, .int .u32 t.bytes, .string t.low, .string t.high] (51) (0,0)):=by rw [hX];exact zq3 rfl _
   have HBX:=zh (HBq.out.trans (hBX.mono HBq.out.size))
   have hi0:(0:Int)<=(i:Int):=by omega
   have hi1:(i:Int)<(n:Int):=by omega
   have hwi:IntKind.i64.wrap ((i:Int)+1)=(i:Int)+1:=IntWalk.i64_in _ (by omega)
   have hwm:IntKind.i64.wrap (((m+i:Nat):Int)+1)=((m+(i+1):Nat):Int):=by rw [IntWalk.i64_in _ (by have:=HSUM.out;omega)];omega
   have hwm2:IntKind.i64.wrap ((m:Int)+(i:Int)+1)=((m+(i+1):Nat):Int):=by rw [IntWalk.i64_in _ (by have:=HSUM.out;omega)];omega
   have HWK:=zh (show 0<i->IntKind.i64.wrap ((i:Int) - 1)=(k:Int)from fun h=>by rw [IntWalk.i64_in _ (by omega)];omega)
   have hk0:(0:Int)<=(k:Int):=by omega
   have hk1:(k:Int)<(n:Int):=by omega
   have HX:=zh hX
   have ha:=HLA.out.trans ha
   clear hcx hBX hk hil hbw
   subst ha
   have HBAD:=zh (badT_iff (j:=j) HLE.out HPH.out)
   have HKP:Hid (∀u,Below X.heap.size X u->u.cell? ⟨wr.heap.size,2,none⟩=some (.string t.low)/\u.cell? ⟨wr.heap.size,3,none⟩=some (.string t.high)/\u.cell? ⟨w.heap.size,1+j,none⟩=some (.slice (some ⟨b,o,none⟩) n l.cap)/\u.cell? ⟨b,o+k*4+3,none⟩=some (.string ph)):=zh (fun u hu=>by
    have e0:=zq0 (zq4 hx1 hu (zq2 hx1)) 2
    have e1:=zq0 (zq4 hx1 hu (zq2 hx1)) 3
    simp at e0 e1
    have hBu:=HBX.out.trans (hu.mono HBX.out.size)
    exact⟨e0,e1,HCJ.out u hBu,HPC.out u (HBqw.out u hBu)⟩)
   clear hX hx1
   go_upto_region 10 with fail
   rw [<-HX.out]
   clear g0 g1 g2 g3 c1
   refine Rf.sh10_all HKP HWK.out hk0 hk1 hj0 hlt' (by rintro ch ⟨t,d⟩ ⟨t',d'⟩ w' rfl h;exact h) ?_
   intro v29 v30 v31 v32 v33 v34 v35 v36 v37 v38 v39 v40 v41 v42 v43 v44 v45 v46 v47 v48 v49 v50 v51 v52 v53 v54 v55 v56 v57 v58 v59 v60 v61 v62 v63 v64 v65 v66 wq hbu
   have HBu:=zh (HBX.out.trans (hbu.mono HBX.out.size))
   clear hbu
   cases hbad:Rf.badT j i t.low t.high ph with
   |true=>
    have HF:=zh (show¬MayS s.says from HOUT.out j l HL.out (fun g=>by
     have:=HBAD.out.2 (g i t HLE.out)
     rw [hbad] at this
     cases this))
    clear hbad
    go_wp2
    go_ret
    exact HEND.out _ _ HBu.out ⟨(fun h=>by cases h),fun h=>absurd h HF.out⟩
   |false=>
    have HOKT:=zh (HLT.out.snoc HLE.out (HBAD.out.1 hbad))
    clear hbad
    go_wp2
    go_roundg(gk - 1)
    case measure=>omega
    case rel=>exact⟨i+1,by omega,by go_num,by go_num,HOKT,HBu⟩
end Go.Proofs.YtchcelodeepjdaaGreatDoor.Ln

namespace Go.Proofs.YtchcelodeepjdaaGreatDoor.Ln
open Go.RowKit Go.Shelf Go.Herb

theorem yjp {wr:World}{B:Nat}{v:Value}{ys:List Int}(x:Int)(hB:B<=wr.heap.size)(ho:Vx.OwnU B wr v ys)(hl:ys.length<1000000):
  ∃v' w',(Builtin.append_ #[(88),(88)] (88) #[v, .slice (some ⟨wr.heap.size,0,none⟩) 1 1]).run Tryz.prog (wr.alloc (.cells #[.int .u64 x] (26)))= .ok v' w'/\Vx.OwnU B w' v' (ys++ [x])/\Below B wr w':=by
 have hb1:Below wr.heap.size wr (wr.alloc (.cells #[.int .u64 x] (26))):=zb.alloc zr _
 have ho2:Vx.OwnU B (wr.alloc (.cells #[.int .u64 x] (26))) v ys:=ownsRow_below ho hb1 zr
 obtain⟨v',w',hrun,h2,h3⟩:=zql (enc:=Vx.nu) (88) (26) (.int .u64 0) Vx.zz5 (fun x u hu=>by simp [Vx.nu] at hu;subst hu;rfl) Tryz.underlying88 (by kernel_rfl:(Tryz.prog.info? (26)).map (fun i=>(i.zero,i.size,i.bytes))=some (some (.int .u64 0),1,8)) rfl (by decide) (wr.alloc (.cells #[.int .u64 x] (26))) B v ys wr.heap.size x _ ho2 (zq3 rfl _) rfl (by decide) hl (Nat.le_trans hB hb1.size) (88)
 exact⟨v',w',hrun,h2,Below.appended (hb1.mono hB) ho2 zr (Nat.le_trans hB hb1.size) h3⟩
def fileV (l:Lv):List Int:=l.ts.map (fun t=>t.file)
theorem yy0 (s:Sv):zjk s.says=s.lv.flatMap fileV:=by
 unfold zjk
 rw [Sv.lv_says,List.map_flatten,List.map_map]
 rfl
theorem yxo (xs:List Sv):zx4 (xs.map Sv.says)=xs.flatMap (fun s=>s.lv.flatMap fileV):=by
 unfold zx4
 rw [List.flatMap_map]
 show xs.flatMap (fun s=>zjk (Sv.says s))=_
 rw [show(fun s=>zjk (Sv.says s))=(fun s=>s.lv.flatMap fileV)from funext yy0]
theorem zzg {α:Type}(f:α->List Int)(l:List α)(i:Nat)(h:i<l.length):((l.take i).flatMap f).length+(f l[i]).length<=(l.flatMap f).length:=by
 have e:l.flatMap f=(l.take i).flatMap f++(f l[i] ++(l.drop (i+1)).flatMap f):=by
  conv=>lhs;rw [<-List.take_append_drop i l,List.drop_eq_getElem_cons h,List.flatMap_append,List.flatMap_cons]
 rw [e,List.length_append,List.length_append]
 omega
theorem zqz {α:Type}(f:α->List Int)(l:List α)(i:Nat)(h:i<l.length):(l.take (i+1)).flatMap f=(l.take i).flatMap f++f l[i] :=by
 rw [List.take_succ_eq_append_getElem h,List.flatMap_append]
 simp
def zkg (xs:List Sv)(w:World)(e:Ending)(w':World):Prop:= ∃(a:Option Addr) (n c:Nat),e= .returned (.slice a n c)/\n=(zx4 (xs.map Sv.says)).length/\Vx.OwnU w.heap.size w' (.slice a n c) (zx4 (xs.map Sv.says))/\Below w.heap.size w w'
set_option maxRecDepth 100000 in
set_option maxHeartbeats 4000000 in
theorem yz9 (sa:Option Addr)(sc n:Nat)(xs:List Sv)(w:World)(hS:ShIn w sa xs)(hn:xs.length=n)(hl:n<=1000000)(ht:(zx4 (xs.map Sv.says)).length<=1000000):
  Calls Tryz.prog (59) #[.slice sa n sc] w (zkg xs w):=by
 have HS:=zh hS
 have HN:=zh hn
 have HL:=zh hl
 have HT:=zh (show(xs.flatMap (fun s=>s.lv.flatMap fileV)).length<=1000000 from by rw [<-yxo];exact ht)
 clear hS hn hl ht
 go_enter Tryz.func59,Tryz.ntmps59
 go_upto_region 3 with fail
 go_loopg [4,3] n (fun gk iv v3 wr=> ∃(i:Nat) (a:Option Addr) (m c:Nat),i+gk=n/\iv= .int .i64 i/\v3= .slice a m c/\Hid (Vx.OwnU w.heap.size wr (.slice a m c) ((xs.take i).flatMap (fun s=>s.lv.flatMap fileV)))/\Hid (Below w.heap.size w wr))
 case atStart=>exact⟨0,none,0,0,by omega,rfl,rfl,zh (World.ownsRow_nil _ _ _ _),zh zb⟩
 case round=>
  obtain⟨i,a,m,c,hi,rfl,rfl,HO,HB⟩:=hrel
  by_cases hlt:i<n
  case neg=>
   have i1: ¬(i:Int)<(n:Int):=by omega
   have HE:=zh (show zkg xs w (.returned (.slice a m c)) wr from by
    have h1:=HO.out
    rw [List.take_of_length_le (by have:=HN.out;omega),<-yxo] at h1
    obtain⟨a',c',h2, -, -⟩:=zq6 Vx.zz5 h1
    injection h2 with h2 h3 h4
    exact⟨a,m,c,rfl,h3,h1,HB.out⟩)
   clear HO
   go_wp2_with fail
   go_ret
   exact HE.out
  have hil:i<xs.length:=by have:=HN.out;omega
  obtain⟨sb,so,hsa,hlb,hcx⟩:=HS.out.els.get i hil
  have HTK:=zh (zqz (fun s:Sv=>s.lv.flatMap fileV) xs i hil)
  have HPR:=zh (zzg (fun s:Sv=>s.lv.flatMap fileV) xs i hil)
  have HOK:=zh (HS.out.ok _ (List.getElem_mem hil))
  generalize xs[i] =s at hcx HTK HPR HOK
  have HLC:=zh (show∀(k:Nat) l,s.lv[k]? =some l-> ∀u,Below w.heap.size w u->u.cell? ⟨sb,so+i*4+1+k,none⟩=some (lvV l)from fun k l hk u hu=>by
   refine(hu.cell (p:=⟨sb,_,none⟩) hlb).trans ?_
   rw [Nat.add_assoc (so+i*4) 1 k]
   refine hcx (1+k) _ ?_
   have h3:s.lv= [s.l0,s.l1,s.l2] :=rfl
   rw [h3] at hk
   match k,hk with
   |0,hk=>cases hk;rfl
   |1,hk=>cases hk;rfl
   |2,hk=>cases hk;rfl)
  have i0:(0:Int)<=(i:Int):=by omega
  have i1:(i:Int)<(n:Int):=by omega
  have HW1:=zh (show IntKind.i64.wrap ((i:Int)+1)=(i:Int)+1 from IntWalk.i64_in _ (by have:=HL.out;omega))
  subst hsa
  clear hcx
  go_upto_region 6 with fail
  obtain⟨g1,hg1⟩: ∃x,x=gk:=⟨_,rfl⟩
  subst hg1
  obtain⟨ys,hys⟩: ∃l,l=(xs.take i).flatMap (fun s=>s.lv.flatMap fileV):=⟨_,rfl⟩
  rw [<-hys] at HO HTK HPR
  clear hys
  go_loopg [5,3] 3 (fun gk kv v3 wr=> ∃(k:Nat) (a:Option Addr) (m c:Nat),k+gk=3/\kv= .int .i64 k/\v3= .slice a m c/\Hid (Vx.OwnU w.heap.size wr (.slice a m c) (ys++(s.lv.take k).flatMap fileV))/\Hid (Below w.heap.size w wr))
  case atStart=>exact⟨0,a,m,c,rfl,rfl,rfl,by simpa using HO,HB⟩
  case round=>
   obtain⟨k,a2,m2,c2,hk,rfl,rfl,HO2,HB2⟩:=hrel
   have hs3:s.lv.length=3:=rfl
   by_cases hk3:k<3
   case neg=>
    have k1: ¬(k:Int)<3:=by omega
    have HO3:=zh (show Vx.OwnU w.heap.size wr (.slice a2 m2 c2) ((xs.take (i+1)).flatMap (fun s=>s.lv.flatMap fileV))from by
     have h1:=HO2.out
     rw [List.take_of_length_le (by omega)] at h1
     rw [HTK.out]
     exact h1)
    have hw1:=HW1.out
    clear HO2
    go_wp2_with fail
    go_roundg(g1 - 1)
    case measure=>omega
    case rel=>exact⟨i+1,a2,m2,c2,by omega,by go_num,rfl,HO3,HB2⟩
   have k0:(0:Int)<=(k:Int):=by omega
   have k1:(k:Int)<3:=by omega
   have hks:k<s.lv.length:=by omega
   obtain⟨l,hl⟩: ∃l,s.lv[k]? =some l:=⟨_,List.getElem?_eq_getElem hks⟩
   have hlg:s.lv[k] =l:=by rw [List.getElem?_eq_getElem hks] at hl;exact Option.some.inj hl
   have HSN:=zh (show(s.lv.take (k+1)).flatMap fileV=(s.lv.take k).flatMap fileV++fileV l from by rw [zqz fileV s.lv k hks,hlg])
   have HPL:=zh (show((s.lv.take k).flatMap fileV).length+(fileV l).length<=(s.lv.flatMap fileV).length from by rw [<-hlg];exact zzg fileV s.lv k hks)
   have HLK:=zh (show LvOk w l from by
    have hm:=List.mem_of_getElem? hl
    have h3:s.lv= [s.l0,s.l1,s.l2] :=rfl
    rw [h3] at hm
    simp only [List.mem_cons,List.not_mem_nil,or_false] at hm
    rcases hm with rfl|rfl|rfl
    ·exact HOK.out.l0
    ·exact HOK.out.l1
    ·exact HOK.out.l2)
   obtain⟨nt,hnt⟩: ∃n,n=l.ts.length:=⟨_,rfl⟩
   obtain⟨ta,hta⟩: ∃x,x=l.a:=⟨_,rfl⟩
   have HLV:=zh (show∀u,Below w.heap.size w u->u.cell? ⟨sb,so+i*4+1+k,none⟩=some (.slice ta nt l.cap)from fun u hu=>by rw [hnt,hta];exact HLC.out k l hl u hu)
   have HNT:=zh hnt
   have HTA:=zh hta
   have HW2:=zh (show IntKind.i64.wrap ((k:Int)+1)=(k:Int)+1 from IntWalk.i64_in _ (by omega))
   clear hl hlg hnt hta hks hs3
   have d1:=HLV.out wr HB2.out
   go_upto_region 9 with fail
   clear d1
   obtain⟨g2,hg2⟩: ∃x,x=gk:=⟨_,rfl⟩
   subst hg2
   obtain⟨zs,hzs⟩: ∃z,z=ys++(s.lv.take k).flatMap fileV:=⟨_,rfl⟩
   rw [<-hzs] at HO2
   have HZS:=zh hzs
   clear hzs
   go_loopg [6,3] nt (fun gk tv v3 wr=> ∃(t:Nat) (a:Option Addr) (m c:Nat),t+gk=nt/\tv= .int .i64 t/\v3= .slice a m c/\Hid (Vx.OwnU w.heap.size wr (.slice a m c) (zs++(l.ts.take t).map (fun t=>t.file)))/\Hid (Below w.heap.size w wr))
   case atStart=>exact⟨0,a2,m2,c2,by omega,rfl,rfl,by simpa using HO2,HB2⟩
   case round=>
    obtain⟨t,a3,m3,c3,hgt,rfl,rfl,HO3,HB3⟩:=hrel
    have d1:=HLV.out wr HB3.out
    by_cases htt:t<nt
    case neg=>
     have t1: ¬(t:Int)<(nt:Int):=by omega
     have HO4:=zh (show Vx.OwnU w.heap.size wr (.slice a3 m3 c3) (ys++(s.lv.take (k+1)).flatMap fileV)from by
      have h1:=HO3.out
      rw [List.take_of_length_le (by have:=HNT.out;omega)] at h1
      rw [HSN.out,<-List.append_assoc,<-HZS.out]
      exact h1)
     have hw2:=HW2.out
     clear HO3
     go_wp2_with fail
     go_roundg(g2 - 1)
     case measure=>omega
     case rel=>exact⟨k+1,a3,m3,c3,by omega,by go_num,rfl,HO4,HB3⟩
    have htl:t<l.ts.length:=by have:=HNT.out;omega
    obtain⟨b,o,ha,hlb2,hcx⟩:=HLK.out.tabs.get t htl
    have HTT:=zh (List.take_succ_eq_append_getElem htl)
    generalize l.ts[t] =x at hcx HTT
    have g0:=(HB3.out.cell (p:=⟨b,_,none⟩) hlb2).trans (hcx 0 _ rfl)
    simp only [Nat.add_zero] at g0
    have ha:=HTA.out.trans ha
    subst ha
    have t0:(0:Int)<=(t:Int):=by omega
    have t1:(t:Int)<(nt:Int):=by omega
    have hw3:IntKind.i64.wrap ((t:Int)+1)=(t:Int)+1:=IntWalk.i64_in _ (by have:=HLK.out.le;have:=HLK.out.max;have:=HNT.out;unfold maxLen at*;omega)
    have hsum:(zs++(l.ts.take t).map (fun t=>t.file)).length<1000000:=by
     have h1:=HPR.out
     have h2:=HPL.out
     have h3:=HT.out
     have h4:(fileV l).length=nt:=by unfold fileV;rw [List.length_map,HNT.out]
     have h5:((l.ts.take t).map (fun t=>t.file)).length=t:=by rw [List.length_map,List.length_take];omega
     rw [List.length_append,h5,HZS.out,List.length_append]
     omega
    obtain⟨v',w',hr,ho',hb'⟩:=yjp x.file HB3.out.size HO3.out hsum
    have HON:=zh (show Vx.OwnU w.heap.size w' v' (zs++(l.ts.take (t+1)).map (fun t=>t.file))from by
     rw [HTT.out,List.map_append,<-List.append_assoc]
     exact ho')
    have HBN:=zh (HB3.out.trans hb')
    obtain⟨a',c',hv', -, -⟩:=zq6 Vx.zz5 HON.out
    obtain⟨q,hq⟩: ∃q,q=(zs++(l.ts.take (t+1)).map (fun t=>t.file)).length:=⟨_,rfl⟩
    rw [<-hq] at hv'
    clear hq
    subst hv'
    clear hcx hsum ho' hb'
    go_wp2_with(at_builtin;refine Lib.wpList_append_run _ rfl _ _ _ _ rfl _ _ rfl rfl _ _ hr ?_)
    go_roundg(gk - 1)
    case measure=>omega
    case rel=>exact⟨t+1,a',_,c',by omega,by go_num,rfl,HON,HBN⟩
end Go.Proofs.YtchcelodeepjdaaGreatDoor.Ln

namespace Go.Proofs.YtchcelodeepjdaaGreatDoor.Ln
open Go.RowKit Go.Herb
namespace Rc
noncomputable def R8:Code:=((Tryz.f21.body.bind (zxg 8)).getD .skip)
set_option maxRecDepth 100000 in
set_option maxHeartbeats 1000000 in
theorem ck8_A {p b o n sc i k:Nat}{ln pl:Int}{x0 x1 x2:Value}{X:World}{u0 u2 u3 u4 u5 u6 u8 u9 u10 u11 u12 u13 u14 u15 u16 u17 u18 u19 u20 u21 u22 u23 u24 u25 u26 u27 u28 u29 u30 u31 u32 u33 u34 u35 u36 u37 u38 u39 u40 u41 u42 u43 u44 u45 u46 u47 u48 u49 u50 u51 u52 u53 u54 u55 u56 u57 u58 u59 u60 u61 u62 u63 u64 u65 u66 u67 u68 u69 u70 u71 u72 u73 u74 u75 u76 u77 u78 u79 u80 u81 u82 u83 u84 u85 u86 u87 u88 u89 u90 u91 u92 u93 u94 u95 u96 u97 u98 u99 u100 u101 u102 u103 u104 u105 u106 u107 u108 u109 u110 u111:Value}{Q:Exit->Act->World->Prop}
  (HKP:Hid (∀u,Below X.heap.size X u->u.cell? ⟨p,6,none⟩=some (.slice (some ⟨b,o,none⟩) n sc)/\u.cell? ⟨b,o+i*4,none⟩=some (.int .u64 ln)/\u.cell? ⟨b,o+i*4+1,none⟩=some x0/\u.cell? ⟨b,o+i*4+2,none⟩=some x1/\u.cell? ⟨b,o+i*4+3,none⟩=some x2/\u.cell? ⟨b,o+k*4,none⟩=some (.int .u64 pl)))
  (HK1:Hid (∀u,Below X.heap.size X u->Calls Tryz.prog (58) #[.agg #[.int .u64 ln,x0,x1,x2]] u fun e w'=>e= .returned (.bool false)/\Below u.heap.size u w'))
  (hi0:(0:Int)<=(i:Int)) (hi1:(i:Int)<(n:Int))
  (_o0:x0.oneCell'=true) (_o1:x1.oneCell'=true) (_o2:x2.oneCell'=true)
  (hP: ∀ch a a' w',a'.defers=a.defers->Q (.panic ch) a w'->Q (.panic ch) a' w')
  (hQ: ∀(v55 v56 v57 v58 v59 v60 v61 v62 v63 v64 v65 v66 v67 v68 v69 v70 v71 v72 v73 v74 v75 v76 v77 v78 v79 v80:Value) (w':World),Below X.heap.size X w'->Q .normal ⟨#[u0, .pointer (some ⟨p,0,none⟩),u2,u3,u4,u5,u6, .int .i64 (i:Int),u8,u9,u10,u11,u12,u13,u14,u15,u16,u17,u18,u19,u20,u21,u22,u23,u24,u25,u26,u27,u28,u29,u30,u31,u32,u33,u34,u35,u36,u37,u38,u39,u40,u41,u42,u43,u44,u45,u46,u47,u48,u49,u50,u51,u52,u53,u54,v55,v56,v57,v58,v59,v60,v61,v62,v63,v64,v65,v66,v67,v68,v69,v70,v71,v72,v73,v74,v75,v76,v77,v78,v79,v80, .bool true,u82,u83,u84,u85,u86,u87,u88,u89,u90,u91,u92,u93,u94,u95,u96,u97,u98,u99,u100,u101,u102,u103,u104,u105,u106,u107,u108,u109,u110,u111], []⟩ w'):
  Code.wp Tryz.prog R8 Q ⟨#[u0, .pointer (some ⟨p,0,none⟩),u2,u3,u4,u5,u6, .int .i64 (i:Int),u8,u9,u10,u11,u12,u13,u14,u15,u16,u17,u18,u19,u20,u21,u22,u23,u24,u25,u26,u27,u28,u29,u30,u31,u32,u33,u34,u35,u36,u37,u38,u39,u40,u41,u42,u43,u44,u45,u46,u47,u48,u49,u50,u51,u52,u53,u54,u55,u56,u57,u58,u59,u60,u61,u62,u63,u64,u65,u66,u67,u68,u69,u70,u71,u72,u73,u74,u75,u76,u77,u78,u79,u80,u81,u82,u83,u84,u85,u86,u87,u88,u89,u90,u91,u92,u93,u94,u95,u96,u97,u98,u99,u100,u101,u102,u103,u104,u105,u106,u107,u108,u109,u110,u111], []⟩ X:=by
 conv=>arg 2;whnf
 have HP:=zh hP
 have HQ:=zh hQ
 clear hP hQ
 have HDA:=zh (show Below X.heap.size X X.drew from(Below.refl X.heap.size X).drew)
 refine wp_region_held_drew (S:=fun u=>u.cell? ⟨p,6,none⟩=some (.slice (some ⟨b,o,none⟩) n sc)/\u.cell? ⟨b,o+i*4,none⟩=some (.int .u64 ln)/\u.cell? ⟨b,o+i*4+1,none⟩=some x0/\u.cell? ⟨b,o+i*4+2,none⟩=some x1/\u.cell? ⟨b,o+i*4+3,none⟩=some x2/\u.cell? ⟨b,o+k*4,none⟩=some (.int .u64 pl)) (by kernel_rfl) (by first|exact HKP.out _ hbu|exact HKP.out _ HDA.out) (fun hHeld=> ?_)
 refine tkI HP.out 0 (h:= ?_)
 refine tkI HP.out 1 (h:= ?_)
 refine tkI HP.out 2 (h:= ?_)
 try simp only [Act.put,lsa,lsz,lss]
 refine tkI HP.out 3 (h:= ?_)
 refine tkI HP.out 4 (h:= ?_)
 try simp only [Act.put,lsa,lsz,lss]
 refine tkC 5 (h:=fun K hK=> ?_)
 go_wp2_with(go_at_call 58;(with_reducible refine(HK1.out _ HDA.out).mono ?_);rintro e w5 ⟨rfl,hb5⟩;have hbu:=HDA.out.trans (hb5.mono HDA.out.size))
 refine hK.out _ _ (by first|exact HKP.out _ hbu|exact HKP.out _ HDA.out) (fun hHeld=> ?_)
 clear hK K
 try simp only [Act.put,lsa,lsz,lss]
 refine tkI HP.out 6 (h:= ?_)
 refine tkI HP.out 7 (h:= ?_)
 refine tkO HP.out 8 (h:= ?_)
 try simp only [Act.put,lsa,lsz,lss]
 refine tkO HP.out 9 (h:= ?_)
 refine tkO HP.out 10 (h:= ?_)
 refine tkO HP.out 11 (h:= ?_)
 try simp only [Act.put,lsa,lsz,lss]
 refine tkO HP.out 12 (h:= ?_)
 refine tkO HP.out 13 (h:= ?_)
 refine tkO HP.out 14 (h:= ?_)
 try simp only [Act.put,lsa,lsz,lss]
 refine tkO HP.out 15 (h:= ?_)
 refine tkO HP.out 16 (h:= ?_)
 refine tkO HP.out 17 (h:= ?_)
 try simp only [Act.put,lsa,lsz,lss]
 refine tkO HP.out 18 (h:= ?_)
 refine tkO HP.out 19 (h:= ?_)
 refine tkO HP.out 20 (h:= ?_)
 try simp only [Act.put,lsa,lsz,lss]
 refine tkO HP.out 21 (h:= ?_)
 refine tkO HP.out 22 (h:= ?_)
 refine tkO HP.out 23 (h:= ?_)
 try simp only [Act.put,lsa,lsz,lss]
 refine tkO HP.out 24 (h:= ?_)
 refine tkO HP.out 25 (h:= ?_)
 refine tkI HP.out 26 (h:= ?_)
 try simp only [Act.put,lsa,lsz,lss]
 try simp only [Act.put,lsa,lsz,lss]
 refine wpAnyH_done (by kernel_rfl) ?_ _
 first|exact HQ.out _ _ _ _ _ _ _ _ _ _ _ _ _ _ _ _ _ _ _ _ _ _ _ _ _ _ _ hbu|exact HQ.out _ _ _ _ _ _ _ _ _ _ _ _ _ _ _ _ _ _ _ _ _ _ _ _ _ _ _ HDA.out
set_option maxRecDepth 100000 in
set_option maxHeartbeats 1000000 in
theorem ck8_B {p b o n sc i k:Nat}{ln pl:Int}{x0 x1 x2:Value}{X:World}{u0 u2 u3 u4 u5 u6 u8 u9 u10 u11 u12 u13 u14 u15 u16 u17 u18 u19 u20 u21 u22 u23 u24 u25 u26 u27 u28 u29 u30 u31 u32 u33 u34 u35 u36 u37 u38 u39 u40 u41 u42 u43 u44 u45 u46 u47 u48 u49 u50 u51 u52 u53 u54 u55 u56 u57 u58 u59 u60 u61 u62 u63 u64 u65 u66 u67 u68 u69 u70 u71 u72 u73 u74 u75 u76 u77 u78 u79 u80 u81 u82 u83 u84 u85 u86 u87 u88 u89 u90 u91 u92 u93 u94 u95 u96 u97 u98 u99 u100 u101 u102 u103 u104 u105 u106 u107 u108 u109 u110 u111:Value}{Q:Exit->Act->World->Prop}
  (HKP:Hid (∀u,Below X.heap.size X u->u.cell? ⟨p,6,none⟩=some (.slice (some ⟨b,o,none⟩) n sc)/\u.cell? ⟨b,o+i*4,none⟩=some (.int .u64 ln)/\u.cell? ⟨b,o+i*4+1,none⟩=some x0/\u.cell? ⟨b,o+i*4+2,none⟩=some x1/\u.cell? ⟨b,o+i*4+3,none⟩=some x2/\u.cell? ⟨b,o+k*4,none⟩=some (.int .u64 pl)))
  (HK1:Hid (∀u,Below X.heap.size X u->Calls Tryz.prog (58) #[.agg #[.int .u64 ln,x0,x1,x2]] u fun e w'=>e= .returned (.bool true)/\Below u.heap.size u w'))
  (hi0:(0:Int)<=(i:Int)) (hi1:(i:Int)<(n:Int))
  (_o0:x0.oneCell'=true) (_o1:x1.oneCell'=true) (_o2:x2.oneCell'=true)
  (h0i: ¬0<i) (_di:decide ((0:Int)<(i:Int))=false)
  (hP: ∀ch a a' w',a'.defers=a.defers->Q (.panic ch) a w'->Q (.panic ch) a' w')
  (hQ: ∀(v55 v56 v57 v58 v59 v60 v61 v62 v63 v64 v65 v66 v67 v68 v69 v70 v71 v72 v73 v74 v75 v76 v77 v78 v79 v80:Value) (w':World),Below X.heap.size X w'->Q .normal ⟨#[u0, .pointer (some ⟨p,0,none⟩),u2,u3,u4,u5,u6, .int .i64 (i:Int),u8,u9,u10,u11,u12,u13,u14,u15,u16,u17,u18,u19,u20,u21,u22,u23,u24,u25,u26,u27,u28,u29,u30,u31,u32,u33,u34,u35,u36,u37,u38,u39,u40,u41,u42,u43,u44,u45,u46,u47,u48,u49,u50,u51,u52,u53,u54,v55,v56,v57,v58,v59,v60,v61,v62,v63,v64,v65,v66,v67,v68,v69,v70,v71,v72,v73,v74,v75,v76,v77,v78,v79,v80, .bool false,u82,u83,u84,u85,u86,u87,u88,u89,u90,u91,u92,u93,u94,u95,u96,u97,u98,u99,u100,u101,u102,u103,u104,u105,u106,u107,u108,u109,u110,u111], []⟩ w'):
  Code.wp Tryz.prog R8 Q ⟨#[u0, .pointer (some ⟨p,0,none⟩),u2,u3,u4,u5,u6, .int .i64 (i:Int),u8,u9,u10,u11,u12,u13,u14,u15,u16,u17,u18,u19,u20,u21,u22,u23,u24,u25,u26,u27,u28,u29,u30,u31,u32,u33,u34,u35,u36,u37,u38,u39,u40,u41,u42,u43,u44,u45,u46,u47,u48,u49,u50,u51,u52,u53,u54,u55,u56,u57,u58,u59,u60,u61,u62,u63,u64,u65,u66,u67,u68,u69,u70,u71,u72,u73,u74,u75,u76,u77,u78,u79,u80,u81,u82,u83,u84,u85,u86,u87,u88,u89,u90,u91,u92,u93,u94,u95,u96,u97,u98,u99,u100,u101,u102,u103,u104,u105,u106,u107,u108,u109,u110,u111], []⟩ X:=by
 conv=>arg 2;whnf
 have HP:=zh hP
 have HQ:=zh hQ
 clear hP hQ
 have HDA:=zh (show Below X.heap.size X X.drew from(Below.refl X.heap.size X).drew)
 refine wp_region_held_drew (S:=fun u=>u.cell? ⟨p,6,none⟩=some (.slice (some ⟨b,o,none⟩) n sc)/\u.cell? ⟨b,o+i*4,none⟩=some (.int .u64 ln)/\u.cell? ⟨b,o+i*4+1,none⟩=some x0/\u.cell? ⟨b,o+i*4+2,none⟩=some x1/\u.cell? ⟨b,o+i*4+3,none⟩=some x2/\u.cell? ⟨b,o+k*4,none⟩=some (.int .u64 pl)) (by kernel_rfl) (by first|exact HKP.out _ hbu|exact HKP.out _ HDA.out) (fun hHeld=> ?_)
 refine tkI HP.out 0 (h:= ?_)
 refine tkI HP.out 1 (h:= ?_)
 refine tkI HP.out 2 (h:= ?_)
 try simp only [Act.put,lsa,lsz,lss]
 refine tkI HP.out 3 (h:= ?_)
 refine tkI HP.out 4 (h:= ?_)
 try simp only [Act.put,lsa,lsz,lss]
 refine tkC 5 (h:=fun K hK=> ?_)
 go_wp2_with(go_at_call 58;(with_reducible refine(HK1.out _ HDA.out).mono ?_);rintro e w5 ⟨rfl,hb5⟩;have hbu:=HDA.out.trans (hb5.mono HDA.out.size))
 refine hK.out _ _ (by first|exact HKP.out _ hbu|exact HKP.out _ HDA.out) (fun hHeld=> ?_)
 clear hK K
 try simp only [Act.put,lsa,lsz,lss]
 refine tkI HP.out 6 (h:= ?_)
 refine tkI HP.out 7 (h:= ?_)
 refine tkI HP.out 8 (h:= ?_)
 try simp only [Act.put,lsa,lsz,lss]
 refine tkI HP.out 9 (h:= ?_)
 refine tkI HP.out 10 (h:= ?_)
 refine tkO HP.out 11 (h:= ?_)
 try simp only [Act.put,lsa,lsz,lss]
 refine tkO HP.out 12 (h:= ?_)
 refine tkO HP.out 13 (h:= ?_)
 refine tkO HP.out 14 (h:= ?_)
 try simp only [Act.put,lsa,lsz,lss]
 refine tkO HP.out 15 (h:= ?_)
 refine tkO HP.out 16 (h:= ?_)
 refine tkO HP.out 17 (h:= ?_)
 try simp only [Act.put,lsa,lsz,lss]
 refine tkO HP.out 18 (h:= ?_)
 refine tkO HP.out 19 (h:= ?_)
 refine tkO HP.out 20 (h:= ?_)
 try simp only [Act.put,lsa,lsz,lss]
 refine tkO HP.out 21 (h:= ?_)
 refine tkO HP.out 22 (h:= ?_)
 refine tkO HP.out 23 (h:= ?_)
 try simp only [Act.put,lsa,lsz,lss]
 refine tkO HP.out 24 (h:= ?_)
 refine tkI HP.out 25 (h:= ?_)
 refine tkI HP.out 26 (h:= ?_)
 try simp only [Act.put,lsa,lsz,lss]
 try simp only [Act.put,lsa,lsz,lss]
 refine wpAnyH_done (by kernel_rfl) ?_ _
 first|exact HQ.out _ _ _ _ _ _ _ _ _ _ _ _ _ _ _ _ _ _ _ _ _ _ _ _ _ _ _ hbu|exact HQ.out _ _ _ _ _ _ _ _ _ _ _ _ _ _ _ _ _ _ _ _ _ _ _ _ _ _ _ HDA.out
set_option maxRecDepth 100000 in
set_option maxHeartbeats 1000000 in
theorem ck8_C {p b o n sc i k:Nat}{ln pl:Int}{x0 x1 x2:Value}{X:World}{u0 u2 u3 u4 u5 u6 u8 u9 u10 u11 u12 u13 u14 u15 u16 u17 u18 u19 u20 u21 u22 u23 u24 u25 u26 u27 u28 u29 u30 u31 u32 u33 u34 u35 u36 u37 u38 u39 u40 u41 u42 u43 u44 u45 u46 u47 u48 u49 u50 u51 u52 u53 u54 u55 u56 u57 u58 u59 u60 u61 u62 u63 u64 u65 u66 u67 u68 u69 u70 u71 u72 u73 u74 u75 u76 u77 u78 u79 u80 u81 u82 u83 u84 u85 u86 u87 u88 u89 u90 u91 u92 u93 u94 u95 u96 u97 u98 u99 u100 u101 u102 u103 u104 u105 u106 u107 u108 u109 u110 u111:Value}{Q:Exit->Act->World->Prop}
  (HKP:Hid (∀u,Below X.heap.size X u->u.cell? ⟨p,6,none⟩=some (.slice (some ⟨b,o,none⟩) n sc)/\u.cell? ⟨b,o+i*4,none⟩=some (.int .u64 ln)/\u.cell? ⟨b,o+i*4+1,none⟩=some x0/\u.cell? ⟨b,o+i*4+2,none⟩=some x1/\u.cell? ⟨b,o+i*4+3,none⟩=some x2/\u.cell? ⟨b,o+k*4,none⟩=some (.int .u64 pl)))
  (HK1:Hid (∀u,Below X.heap.size X u->Calls Tryz.prog (58) #[.agg #[.int .u64 ln,x0,x1,x2]] u fun e w'=>e= .returned (.bool true)/\Below u.heap.size u w'))
  (hi0:(0:Int)<=(i:Int)) (hi1:(i:Int)<(n:Int))
  (_o0:x0.oneCell'=true) (_o1:x1.oneCell'=true) (_o2:x2.oneCell'=true)
  (h0i:0<i) (_di:decide ((0:Int)<(i:Int))=true)
  (hwk:IntKind.i64.wrap ((i:Int) - 1)=(k:Int)) (hk0:(0:Int)<=(k:Int)) (hk1:(k:Int)<(n:Int))
  (g:Bool) (hg:decide (ln<=pl)=g)
  (hP: ∀ch a a' w',a'.defers=a.defers->Q (.panic ch) a w'->Q (.panic ch) a' w')
  (hQ: ∀(v55 v56 v57 v58 v59 v60 v61 v62 v63 v64 v65 v66 v67 v68 v69 v70 v71 v72 v73 v74 v75 v76 v77 v78 v79 v80:Value) (w':World),Below X.heap.size X w'->Q .normal ⟨#[u0, .pointer (some ⟨p,0,none⟩),u2,u3,u4,u5,u6, .int .i64 (i:Int),u8,u9,u10,u11,u12,u13,u14,u15,u16,u17,u18,u19,u20,u21,u22,u23,u24,u25,u26,u27,u28,u29,u30,u31,u32,u33,u34,u35,u36,u37,u38,u39,u40,u41,u42,u43,u44,u45,u46,u47,u48,u49,u50,u51,u52,u53,u54,v55,v56,v57,v58,v59,v60,v61,v62,v63,v64,v65,v66,v67,v68,v69,v70,v71,v72,v73,v74,v75,v76,v77,v78,v79,v80, .bool g,u82,u83,u84,u85,u86,u87,u88,u89,u90,u91,u92,u93,u94,u95,u96,u97,u98,u99,u100,u101,u102,u103,u104,u105,u106,u107,u108,u109,u110,u111], []⟩ w'):
  Code.wp Tryz.prog R8 Q ⟨#[u0, .pointer (some ⟨p,0,none⟩),u2,u3,u4,u5,u6, .int .i64 (i:Int),u8,u9,u10,u11,u12,u13,u14,u15,u16,u17,u18,u19,u20,u21,u22,u23,u24,u25,u26,u27,u28,u29,u30,u31,u32,u33,u34,u35,u36,u37,u38,u39,u40,u41,u42,u43,u44,u45,u46,u47,u48,u49,u50,u51,u52,u53,u54,u55,u56,u57,u58,u59,u60,u61,u62,u63,u64,u65,u66,u67,u68,u69,u70,u71,u72,u73,u74,u75,u76,u77,u78,u79,u80,u81,u82,u83,u84,u85,u86,u87,u88,u89,u90,u91,u92,u93,u94,u95,u96,u97,u98,u99,u100,u101,u102,u103,u104,u105,u106,u107,u108,u109,u110,u111], []⟩ X:=by
 conv=>arg 2;whnf
 have HP:=zh hP
 have HQ:=zh hQ
 clear hP hQ
 have HDA:=zh (show Below X.heap.size X X.drew from(Below.refl X.heap.size X).drew)
 refine wp_region_held_drew (S:=fun u=>u.cell? ⟨p,6,none⟩=some (.slice (some ⟨b,o,none⟩) n sc)/\u.cell? ⟨b,o+i*4,none⟩=some (.int .u64 ln)/\u.cell? ⟨b,o+i*4+1,none⟩=some x0/\u.cell? ⟨b,o+i*4+2,none⟩=some x1/\u.cell? ⟨b,o+i*4+3,none⟩=some x2/\u.cell? ⟨b,o+k*4,none⟩=some (.int .u64 pl)) (by kernel_rfl) (by first|exact HKP.out _ hbu|exact HKP.out _ HDA.out) (fun hHeld=> ?_)
 refine tkI HP.out 0 (h:= ?_)
 refine tkI HP.out 1 (h:= ?_)
 refine tkI HP.out 2 (h:= ?_)
 try simp only [Act.put,lsa,lsz,lss]
 refine tkI HP.out 3 (h:= ?_)
 refine tkI HP.out 4 (h:= ?_)
 try simp only [Act.put,lsa,lsz,lss]
 refine tkC 5 (h:=fun K hK=> ?_)
 go_wp2_with(go_at_call 58;(with_reducible refine(HK1.out _ HDA.out).mono ?_);rintro e w5 ⟨rfl,hb5⟩;have hbu:=HDA.out.trans (hb5.mono HDA.out.size))
 refine hK.out _ _ (by first|exact HKP.out _ hbu|exact HKP.out _ HDA.out) (fun hHeld=> ?_)
 clear hK K
 try simp only [Act.put,lsa,lsz,lss]
 refine tkI HP.out 6 (h:= ?_)
 refine tkI HP.out 7 (h:= ?_)
 refine tkI HP.out 8 (h:= ?_)
 try simp only [Act.put,lsa,lsz,lss]
 refine tkI HP.out 9 (h:= ?_)
 refine tkI HP.out 10 (h:= ?_)
 refine tkI HP.out 11 (h:= ?_)
 try simp only [Act.put,lsa,lsz,lss]
 refine tkI HP.out 12 (h:= ?_)
 refine tkI HP.out 13 (h:= ?_)
 refine tkI HP.out 14 (h:= ?_)
 try simp only [Act.put,lsa,lsz,lss]
 refine tkI HP.out 15 (h:= ?_)
 refine tkI HP.out 16 (h:= ?_)
 refine tkI HP.out 17 (h:= ?_)
 try simp only [Act.put,lsa,lsz,lss]
 refine tkI HP.out 18 (h:= ?_)
 refine tkI HP.out 19 (h:= ?_)
 refine tkI HP.out 20 (h:= ?_)
 try simp only [Act.put,lsa,lsz,lss]
 refine tkI HP.out 21 (h:= ?_)
 refine tkI HP.out 22 (h:= ?_)
 refine tkI HP.out 23 (h:= ?_)
 try simp only [Act.put,lsa,lsz,lss]
 refine tkI HP.out 24 (h:= ?_)
 refine tkI HP.out 25 (h:= ?_)
 refine tkI HP.out 26 (h:= ?_)
 try simp only [Act.put,lsa,lsz,lss]
 try simp only [Act.put,lsa,lsz,lss]
 refine wpAnyH_done (by kernel_rfl) ?_ _
 first|exact HQ.out _ _ _ _ _ _ _ _ _ _ _ _ _ _ _ _ _ _ _ _ _ _ _ _ _ _ _ hbu|exact HQ.out _ _ _ _ _ _ _ _ _ _ _ _ _ _ _ _ _ _ _ _ _ _ _ _ _ _ _ HDA.out
theorem ck8_all {p b o n sc i k:Nat}{ln pl:Int}{x0 x1 x2:Value}{X:World}{u0 u2 u3 u4 u5 u6 u8 u9 u10 u11 u12 u13 u14 u15 u16 u17 u18 u19 u20 u21 u22 u23 u24 u25 u26 u27 u28 u29 u30 u31 u32 u33 u34 u35 u36 u37 u38 u39 u40 u41 u42 u43 u44 u45 u46 u47 u48 u49 u50 u51 u52 u53 u54 u55 u56 u57 u58 u59 u60 u61 u62 u63 u64 u65 u66 u67 u68 u69 u70 u71 u72 u73 u74 u75 u76 u77 u78 u79 u80 u81 u82 u83 u84 u85 u86 u87 u88 u89 u90 u91 u92 u93 u94 u95 u96 u97 u98 u99 u100 u101 u102 u103 u104 u105 u106 u107 u108 u109 u110 u111:Value}{Q:Exit->Act->World->Prop}(q:Bool)
  (HKP:Hid (∀u,Below X.heap.size X u->u.cell? ⟨p,6,none⟩=some (.slice (some ⟨b,o,none⟩) n sc)/\u.cell? ⟨b,o+i*4,none⟩=some (.int .u64 ln)/\u.cell? ⟨b,o+i*4+1,none⟩=some x0/\u.cell? ⟨b,o+i*4+2,none⟩=some x1/\u.cell? ⟨b,o+i*4+3,none⟩=some x2/\u.cell? ⟨b,o+k*4,none⟩=some (.int .u64 pl)))
  (HK1:Hid (∀u,Below X.heap.size X u->Calls Tryz.prog (58) #[.agg #[.int .u64 ln,x0,x1,x2]] u fun e w'=>e= .returned (.bool q)/\Below u.heap.size u w'))
  (hi0:(0:Int)<=(i:Int)) (hi1:(i:Int)<(n:Int)) (o0:x0.oneCell'=true) (o1:x1.oneCell'=true) (o2:x2.oneCell'=true) (hwk:0<i->IntKind.i64.wrap ((i:Int) - 1)=(k:Int)) (hk0:(0:Int)<=(k:Int)) (hk1:(k:Int)<(n:Int))
  (hP: ∀ch a a' w',a'.defers=a.defers->Q (.panic ch) a w'->Q (.panic ch) a' w')
  (hQ: ∀(v55 v56 v57 v58 v59 v60 v61 v62 v63 v64 v65 v66 v67 v68 v69 v70 v71 v72 v73 v74 v75 v76 v77 v78 v79 v80:Value) (w':World),Below X.heap.size X w'->Q .normal ⟨#[u0, .pointer (some ⟨p,0,none⟩),u2,u3,u4,u5,u6, .int .i64 (i:Int),u8,u9,u10,u11,u12,u13,u14,u15,u16,u17,u18,u19,u20,u21,u22,u23,u24,u25,u26,u27,u28,u29,u30,u31,u32,u33,u34,u35,u36,u37,u38,u39,u40,u41,u42,u43,u44,u45,u46,u47,u48,u49,u50,u51,u52,u53,u54,v55,v56,v57,v58,v59,v60,v61,v62,v63,v64,v65,v66,v67,v68,v69,v70,v71,v72,v73,v74,v75,v76,v77,v78,v79,v80, .bool (!q||(decide (0<i)&&decide (ln<=pl))),u82,u83,u84,u85,u86,u87,u88,u89,u90,u91,u92,u93,u94,u95,u96,u97,u98,u99,u100,u101,u102,u103,u104,u105,u106,u107,u108,u109,u110,u111], []⟩ w'):
  Code.wp Tryz.prog R8 Q ⟨#[u0, .pointer (some ⟨p,0,none⟩),u2,u3,u4,u5,u6, .int .i64 (i:Int),u8,u9,u10,u11,u12,u13,u14,u15,u16,u17,u18,u19,u20,u21,u22,u23,u24,u25,u26,u27,u28,u29,u30,u31,u32,u33,u34,u35,u36,u37,u38,u39,u40,u41,u42,u43,u44,u45,u46,u47,u48,u49,u50,u51,u52,u53,u54,u55,u56,u57,u58,u59,u60,u61,u62,u63,u64,u65,u66,u67,u68,u69,u70,u71,u72,u73,u74,u75,u76,u77,u78,u79,u80,u81,u82,u83,u84,u85,u86,u87,u88,u89,u90,u91,u92,u93,u94,u95,u96,u97,u98,u99,u100,u101,u102,u103,u104,u105,u106,u107,u108,u109,u110,u111], []⟩ X:=by
 cases q with
 |false=>exact ck8_A HKP HK1 hi0 hi1 o0 o1 o2 hP (by simpa only [Bool.not_false,Bool.true_or] using hQ)
 |true=>
  rw [Bool.not_true,Bool.false_or] at hQ
  by_cases h5:0<i
  ·have d5:decide ((0:Int)<(i:Int))=true:=decide_eq_true (by omega)
   rw [decide_eq_true h5,Bool.true_and] at hQ
   exact ck8_C HKP HK1 hi0 hi1 o0 o1 o2 h5 d5 (hwk h5) hk0 hk1 _ rfl hP hQ
  ·have d5:decide ((0:Int)<(i:Int))=false:=decide_eq_false (by omega)
   rw [decide_eq_false h5,Bool.false_and] at hQ
   exact ck8_B HKP HK1 hi0 hi1 o0 o1 o2 h5 d5 hP hQ
end Rc
end Go.Proofs.YtchcelodeepjdaaGreatDoor.Ln
