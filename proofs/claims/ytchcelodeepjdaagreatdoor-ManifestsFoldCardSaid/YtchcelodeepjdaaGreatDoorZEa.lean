/- Lemmas and walks towards ManifestsFold. Conditions: each one tells its own. -/
import Derived.Test.YtchcelodeepjdaaGreatDoorMp
import Derived.Test.YtchcelodeepjdaaGreatDoorZDa
import Derived.BigQuiet
import Derived.Sort.Walk0
import Derived.Deep.Cut
import Derived.Deep.CutBlock
import Derived.Deep.RegionHeld3
import Derived.Test.YtchcelodeepjdaaGreatDoorLN9d
import Derived.Test.YtchcelodeepjdaaGreatDoorU2b
namespace Go.Proofs.YtchcelodeepjdaaGreatDoor.Ln
open Go.RowKit Go.Herb

theorem xq2 (s:ByteArray):s.toList.length=s.size:=by rw [ByteArray.toList_eq,Array.length_toList];rfl
theorem yxv (s:ByteArray)(b:Bool)(hb:keyB s=b)(w:World):
  Calls Tryz.prog (102) #[.string s] w fun e w'=>e= .returned (.bool b)/\w'=w:=by
 obtain⟨em,hem⟩: ∃em,em=s.toList.isEmpty:=⟨_,rfl⟩
 have hk:b=(!em&&decide (s.size<=32)):=by
  have h1:=xq2 s
  rw [hem,<-hb]
  unfold keyB
  cases h:s.toList with
  |nil=>rw [h] at h1;simp at h1;simp [<-h1]
  |cons a l=>rw [h] at h1;simp at h1;simp;omega
 rw [hk]
 clear hb
 by_cases h1:s.size<=32
 ·have h2:(s.size:Int)<=32:=by omega
  cases em
  all_goals
   have he:=hem.symm
   clear hem hk
   go_enter Tryz.func102,Tryz.ntmps102
   go_wp2_with fail
   go_ret
   exact⟨by simp [h1],rfl⟩
 ·have h2: ¬(s.size:Int)<=32:=by omega
  cases em
  all_goals
   have he:=hem.symm
   clear hem hk
   go_enter Tryz.func102,Tryz.ntmps102
   go_wp2_with fail
   go_ret
   exact⟨by simp,rfl⟩

theorem ykt (a b:List UInt8):Op.bytesLess b a=(!Op.bytesLess a b&& !(a==b)):=by
 rw [bytesLess_eq,bytesLess_eq]
 by_cases h:b<a
 ·have h1: ¬a<b:=fun h2=>List.lt_irrefl _ (List.lt_trans h h2)
  have h2: ¬a=b:=fun h2=>by rw [h2] at h;exact List.lt_irrefl _ h
  simp [h,h1,h2]
 ·rcases List.le_iff_lt_or_eq.1 (List.not_lt.1 h)with h1|h1
  ·simp [h,h1]
  ·simp [h1]
theorem below_drewN {B:Nat}{a w:World}(h:Below B a w)(n:Nat):Below B a (w.drewN n):=h.trans ⟨rfl,rfl,rfl,zr,fun _ _=>rfl⟩
def Sv.lv (s:Sv):List Lv:= [s.l0,s.l1,s.l2]
theorem Sv.lv_says (s:Sv):s.says.lv=s.lv.map (·.ts):=rfl
set_option maxRecDepth 100000 in
theorem run_ix0 (v0 v1 v2:Value)(u:World):(Instr.index (55) (.agg #[v0,v1,v2]) (.int .i64 0)).run Tryz.prog u= .ok v0 u:=by kernel_rfl
set_option maxRecDepth 100000 in
theorem run_ix1 (v0 v1 v2:Value)(u:World):(Instr.index (55) (.agg #[v0,v1,v2]) (.int .i64 1)).run Tryz.prog u= .ok v1 u:=by kernel_rfl
set_option maxRecDepth 100000 in
theorem run_ix2 (v0 v1 v2:Value)(u:World):(Instr.index (55) (.agg #[v0,v1,v2]) (.int .i64 2)).run Tryz.prog u= .ok v2 u:=by kernel_rfl
theorem zwi (v0 v1 v2 v:Value)(k:Nat)(h: #[v0,v1,v2][k]? =some v)(u:World):(Instr.index (55) (.agg #[v0,v1,v2]) (.int .i64 (k:Int))).run Tryz.prog u= .ok v u:=by
 match k,h with
 |0,h=>exact(Option.some.inj h)▸run_ix0 v0 v1 v2 u
 |1,h=>exact(Option.some.inj h)▸run_ix1 v0 v1 v2 u
 |2,h=>exact(Option.some.inj h)▸run_ix2 v0 v1 v2 u
 |k+3,h=>simp at h
theorem Sv.lv_get (s:Sv)(k:Nat)(h:k<3): ∃l,s.lv[k]? =some l/\ #[lvV s.l0,lvV s.l1,lvV s.l2][k]? =some (lvV l):=by
 match k,h with
 |0,_=>exact⟨_,rfl,rfl⟩
 |1,_=>exact⟨_,rfl,rfl⟩
 |2,_=>exact⟨_,rfl,rfl⟩
def LevTo (j:Nat)(l:List Tb)(i:Nat):Prop:= ∀k t,k<i->l[k]? =some t->TabOk j k l t
theorem LevTo.all {j:Nat}{l:List Tb}{i:Nat}(h:LevTo j l i)(hi:l.length<=i):LevOk j l:=fun k t ht=>h k t (by obtain⟨h1,_⟩:=List.getElem?_eq_some_iff.1 ht;omega) ht
theorem LevTo.snoc {j:Nat}{l:List Tb}{i:Nat}{t:Tb}(h:LevTo j l i)(ht:l[i]? =some t)(hk:TabOk j i l t):LevTo j l (i+1):=fun k u hku hu=>by
 rcases Nat.lt_or_eq_of_le (Nat.le_of_lt_succ hku)with h1|h1
 ·exact h k u h1 hu
 ·subst h1
  rw [ht] at hu
  cases hu
  exact hk
def zzd:List Lv->Nat
 | [] =>0
 |l::ls=>l.ts.length+zzd ls
theorem zya (ls:List Lv)(l:Lv):zzd (ls++ [l])=zzd ls+l.ts.length:=by
 induction ls with
 |nil=>simp [zzd]
 |cons a ls ih=>simp only [List.cons_append,zzd,ih];omega
theorem yzq {N:Nat}{ls:List Lv}(h: ∀l∈ls,l.ts.length<=N):zzd ls<=ls.length*N:=by
 induction ls with
 |nil=>simp [zzd]
 |cons a ls ih=>
  have h1:=ih (fun x hx=>h x (List.mem_cons_of_mem _ hx))
  have h2:=h a List.mem_cons_self
  rw [zzd,List.length_cons,Nat.succ_mul]
  omega
theorem yq3 (ls:List Lv):0<zzd ls↔ ∃l∈ls,l.ts≠ [] :=by
 induction ls with
 |nil=>simp [zzd]
 |cons a ls ih=>
  rw [zzd]
  constructor
  ·intro h
   by_cases h0:0<zzd ls
   ·obtain⟨x,hx,hy⟩:=ih.1 h0
    exact⟨x,List.mem_cons_of_mem _ hx,hy⟩
   ·refine⟨a,List.mem_cons_self,fun h1=> ?_⟩
    rw [h1,List.length_nil] at h
    omega
  ·rintro⟨x,hx,hy⟩
   rcases List.mem_cons.1 hx with rfl|hx
   ·have:=List.length_pos_iff.2 hy
    omega
   ·have:=ih.2 ⟨x,hx,hy⟩;omega
def zvb (s:Sv)(w:World)(e:Ending)(w':World):Prop:= ∃r:Bool,e= .returned (.bool r)/\(r=true↔MayS s.says)/\Below w.heap.size w w'
set_option maxRecDepth 100000 in
set_option maxHeartbeats 8000000 in
theorem may_any (s:Sv)(w:World)(hs:SvOk w s)(hN: ∀l∈s.lv,l.ts.length<=1000000):
  Calls Tryz.prog (77) #[shV s] w (zvb s w):=by
 obtain⟨W,hW⟩: ∃W:World,W=w.alloc (.cells #[.int .u64 s.line,lvV s.l0,lvV s.l1,lvV s.l2] (57)):=⟨_,rfl⟩
 have hB:Below w.heap.size w W:=by rw [hW];exact zb.alloc zr _
 have HB:=zh hB
 have HOK:=zh (show∀l∈s.lv,LvOk w l from fun l hl=>by
  simp only [Sv.lv,List.mem_cons,List.not_mem_nil,or_false] at hl
  rcases hl with rfl|rfl|rfl
  ·exact hs.l0
  ·exact hs.l1
  ·exact hs.l2)
 have HOUT:=zh (show∀(j:Nat) (l:Lv),s.lv[j]? =some l-> ¬LevOk j l.ts->Hid (∀u,Below w.heap.size w u->zvb s w (.returned (.bool false)) u)from fun j l hl hn=>zh (fun u hu=>⟨false,rfl,⟨(fun h=>by cases h),fun h=>absurd (h.tabs j l.ts (by rw [Sv.lv_says,List.getElem?_map,hl];rfl)) hn⟩,hu⟩))
 have HNN:=zh hN
 have HGET:=zh s.lv_get
 have HSAY:=zh s.lv_says
 have hL3:s.lv.length=3:=rfl
 have HL3:=zh hL3
 obtain⟨v0,hv0⟩: ∃v,v=lvV s.l0:=⟨_,rfl⟩
 obtain⟨v1,hv1⟩: ∃v,v=lvV s.l1:=⟨_,rfl⟩
 obtain⟨v2,hv2⟩: ∃v,v=lvV s.l2:=⟨_,rfl⟩
 have hsh:shV s= .agg #[.int .u64 s.line,v0,v1,v2] :=by rw [hv0,hv1,hv2]
 rw [<-hv0,<-hv1,<-hv2] at HGET
 rw [<-hv0,<-hv1,<-hv2] at hW
 have o0:v0.oneCell'=true:=by rw [hv0];rfl
 have o1:v1.oneCell'=true:=by rw [hv1];rfl
 have o2:v2.oneCell'=true:=by rw [hv2];rfl
 rw [hsh]
 have HW:=zh hW
 clear hB hs hL3 hN hv0 hv1 hv2 hsh hW
 generalize s.line=line at*
 have HIX:=zh (zwi v0 v1 v2)
 go_enter Tryz.func77,Tryz.ntmps77
 go_wp2_with fail
 rw [<-HW.out]
 clear HW o0 o1 o2
 go_loopg [3,10] 3 (fun gk mv iv wr=> ∃(j m:Nat),j+gk=3/\iv= .int .i64 j/\mv= .int .i64 m/\Hid (m=zzd (s.lv.take j))/\Hid (∀i l,i<j->s.lv[i]? =some l->LevOk i l.ts)/\Hid (Below w.heap.size w wr))
 case atStart=>exact⟨0,0,rfl,rfl,rfl,zh rfl,zh (fun i l h=>by omega),HB⟩
 case round=>
  obtain⟨j,m,hj,rfl,rfl,HSM,HPRE,HBw⟩:=hrel
  obtain⟨g0,hg0⟩: ∃g0,g0=gk:=⟨_,rfl⟩
  rw [<-hg0] at hj
  have HG0:=zh hg0
  clear hg0
  by_cases hlt:j<3
  ·have hlt':(j:Int)<3:=by omega
   obtain⟨l,hl,hv⟩:=HGET.out j hlt
   have hix:=HIX.out _ j hv
   have HL:=zh hl
   have HLO:=zh (HOK.out l (List.mem_of_getElem? hl))
   clear hl hv
   have HN:=zh (show l.ts.length<=1000000 from HNN.out l (List.mem_of_getElem? HL.out))
   obtain⟨n,hn⟩: ∃n,n=l.ts.length:=⟨_,rfl⟩
   have hlv:lvV l= .slice l.a n l.cap:=by rw [hn]
   rw [hlv] at hix
   have HNL:=zh hn
   have hsum:m+n<=4000000:=by
    have h1:=yzq (ls:=s.lv.take j) (fun x hx=>HNN.out x (List.mem_of_mem_take hx))
    have h2:(s.lv.take j).length<=3:=by rw [List.length_take,HL3.out];omega
    have h3:=HSM.out
    have h4:=HN.out
    have h5:(s.lv.take j).length*1000000<=3*1000000:=Nat.mul_le_mul_right _ h2
    rw [hn]
    omega
   have hw1:IntKind.i64.wrap ((m:Int)+(n:Int))=((m+n:Nat):Int):=by
    rw [IntWalk.i64_in _ (by omega)]
    omega
   have hnb:n<=1000000:=by rw [hn];exact HN.out
   clear hlv hn hsum
   go_upto_region 7 with fail
   clear hix hw1
   go_loopg [20] n (fun gi iv wq=> ∃i:Nat,i+gi=n/\iv= .int .i64 i/\Hid (LevTo j l.ts i)/\Hid (Below w.heap.size w wq))
   case atStart=>exact⟨0,by omega,rfl,zh (fun k t h=>by omega),HBw⟩
   case round=>
    obtain⟨i,hi,rfl,HLT,HBq⟩:=hrel
    by_cases hlti:i<n
    ·have hil:i<l.ts.length:=by have:=HNL.out;omega
     have HLE:=zh (List.getElem?_eq_getElem hil)
     have HKEY:Hid (∀x:Bool,keyB l.ts[i].low=x-> ∀u,Calls Tryz.prog (102) #[.string l.ts[i].low] u fun e w'=>e= .returned (.bool x)/\w'=u):=zh (fun x hx u=>yxv _ x hx u)
     have HKEYH:Hid (∀x:Bool,keyB l.ts[i].high=x-> ∀u,Calls Tryz.prog (102) #[.string l.ts[i].high] u fun e w'=>e= .returned (.bool x)/\w'=u):=zh (fun x hx u=>yxv _ x hx u)
     obtain⟨b,o,ha,hlb,hcx⟩:=HLO.out.tabs.get i hil
     obtain⟨k,hk⟩: ∃k:Nat,k=i - 1:=⟨_,rfl⟩
     obtain⟨ph,HPH,HPC⟩: ∃ph:ByteArray,Hid (∀u,0<i->l.ts[i - 1]? =some u->u.high=ph)/\Hid (∀u,Below w.heap.size w u->u.cell? ⟨b,o+k*4+3,none⟩=some (.string ph)):=by
      have hil1:i - 1<l.ts.length:=by omega
      obtain⟨b',o',he',_,hcy⟩:=HLO.out.tabs.get (i - 1) hil1
      rw [ha] at he'
      injection he' with he'
      cases he'
      exact⟨l.ts[i - 1].high,zh (fun y _ hy=>by rw [List.getElem?_eq_getElem hil1] at hy;injection hy with hy;rw [<-hy]),zh (fun u hu=>by rw [hk];exact(hu.cell (p:=⟨b,_,none⟩) hlb).trans (hcy 3 _ rfl))⟩
     generalize l.ts[i] =t at HLE HKEY HKEYH hcx
     have g0:=(HBq.out.cell (p:=⟨b,_,none⟩) hlb).trans (hcx 0 _ rfl)
     have g1:=(HBq.out.cell (p:=⟨b,_,none⟩) hlb).trans (hcx 1 _ rfl)
     have g2:=(HBq.out.cell (p:=⟨b,_,none⟩) hlb).trans (hcx 2 _ rfl)
     have g3:=(HBq.out.cell (p:=⟨b,_,none⟩) hlb).trans (hcx 3 _ rfl)
     simp only [Nat.add_zero] at g0
     obtain⟨X,hX⟩: ∃X:World,X=wr.alloc (.cells #[.int .u64 t.file, .int .u32 t.bytes, .string t.low, .string t.high] (51)):=⟨_,rfl⟩
     have hBX:Below wr.heap.size wr X:=by rw [hX];exact zb.alloc zr _
     have hx1:X.heap[wr.heap.size]? =some (.cells #[.int .u64 t.file, .int .u32 t.bytes, .string t.low, .string t.high] (51) (0,0)):=by rw [hX];exact zq3 rfl _
     have HBX:=zh (HBq.out.trans (hBX.mono HBq.out.size))
     have hi0:(0:Int)<=(i:Int):=by omega
     have hi1:(i:Int)<(n:Int):=by omega
     have hwi:IntKind.i64.wrap ((i:Int)+1)=(i:Int)+1:=IntWalk.i64_in _ (by omega)
     have hwk:0<i->IntKind.i64.wrap ((i:Int) - 1)=(k:Int):=fun h=>by rw [IntWalk.i64_in _ (by omega)];omega
     have hk0:(0:Int)<=(k:Int):=by omega
     have hk1:(k:Int)<(n:Int):=by omega
     have HX:=zh hX
     clear hcx hBX hk hil
     rw [ha]
     have HBAD:=zh (show¬TabOk j i l.ts t-> ∀u,Below w.heap.size w u->zvb s w (.returned (.bool false)) u from fun h u hu=>(HOUT.out j l HL.out (fun g=>h (g i t HLE.out))).out u hu)
     have HNXT:=zh (show TabOk j i l.ts t->LevTo j l.ts (i+1)from fun h=>HLT.out.snoc HLE.out h)
     have HTRI:=zh (ykt t.low.toList t.high.toList)
     go_upto_region 9 with fail
     rw [<-HX.out]
     have HKP:Hid (∀u,Below X.heap.size X u->u.cell? ⟨wr.heap.size,2,none⟩=some (.string t.low)/\u.cell? ⟨wr.heap.size,3,none⟩=some (.string t.high)/\u.cell? ⟨b,o+k*4+3,none⟩=some (.string ph)):=zh (fun u hu=>by
      have e0:=zq0 (zq4 hx1 hu (zq2 hx1)) 2
      have e1:=zq0 (zq4 hx1 hu (zq2 hx1)) 3
      simp at e0 e1
      exact⟨e0,e1,HPC.out u (HBX.out.trans (hu.mono HBX.out.size))⟩)
     clear g0 g1 g2 g3 hX hx1 HPC
     cases hk1b:keyB t.low with
     |false=>
      have HK1:=zh (HKEY.out false hk1b)
      have HWHY:=zh (show¬TabOk j i l.ts t from fun h=>by have:=h.low;rw [hk1b] at this;cases this)
      clear hk1b
      refine Mf.may9_A HKP HK1 (by rintro ch ⟨t,d⟩ ⟨t',d'⟩ w' rfl h;exact h) ?_
      intro v25 v26 v27 v28 v29 v30 v31 v32 v33 v34 v35 v36 v37 v38 v39 v40 v41 v42 v43 v44 v45 v46 v47 v48 v49 v50 v51 v52 v53 v54 v55 v56 v57 v58 v59 wq hbu
      have HBu:=zh (HBX.out.trans (hbu.mono HBX.out.size))
      clear hbu
      go_wp2
      go_ret
      exact HBAD.out (HWHY.out) _ HBu.out
     |true=>
      have HK1:=zh (HKEY.out true hk1b)
      have HW1:=zh hk1b
      clear hk1b
      cases hk2b:keyB t.high with
      |false=>
       have HK2:=zh (HKEYH.out false hk2b)
       have HWHY:=zh (show¬TabOk j i l.ts t from fun h=>by have:=h.high;rw [hk2b] at this;cases this)
       clear hk2b
       refine Mf.may9_B HKP HK1 HK2 (by rintro ch ⟨t,d⟩ ⟨t',d'⟩ w' rfl h;exact h) ?_
       intro v25 v26 v27 v28 v29 v30 v31 v32 v33 v34 v35 v36 v37 v38 v39 v40 v41 v42 v43 v44 v45 v46 v47 v48 v49 v50 v51 v52 v53 v54 v55 v56 v57 v58 v59 wq hbu
       have HBu:=zh (HBX.out.trans (hbu.mono HBX.out.size))
       clear hbu
       go_wp2
       go_ret
       exact HBAD.out (HWHY.out) _ HBu.out
      |true=>
       have HK2:=zh (HKEYH.out true hk2b)
       have HW2:=zh hk2b
       clear hk2b
       cases he1:Op.bytesLess t.low.toList t.high.toList with
       |true=>
        have HSPAN:=zh (show Op.bytesLess t.high.toList t.low.toList=false from by rw [HTRI.out,he1];rfl)
        by_cases h0j:0<j
        ·have dj:decide ((0:Int)<(j:Int))=true:=decide_eq_true (by omega)
         by_cases h0i:0<i
         ·have di:decide ((0:Int)<(i:Int))=true:=decide_eq_true (by omega)
          have hwk:=hwk h0i
          cases hpl:Op.bytesLess ph.toList t.low.toList with
          |true=>
           have HWHY:=zh (show TabOk j i l.ts t from⟨HW1.out,HW2.out,HSPAN.out,fun _ h0 u hu=>by rw [HPH.out u h0 hu];exact hpl⟩)
           refine Mf.may9_F HKP HK1 HK2 true _ he1 rfl rfl h0j dj h0i di hwk hk0 hk1 true hpl (by rintro ch ⟨t,d⟩ ⟨t',d'⟩ w' rfl h;exact h) ?_
           intro v25 v26 v27 v28 v29 v30 v31 v32 v33 v34 v35 v36 v37 v38 v39 v40 v41 v42 v43 v44 v45 v46 v47 v48 v49 v50 v51 v52 v53 v54 v55 v56 v57 v58 v59 wq hbu
           have HBu:=zh (HBX.out.trans (hbu.mono HBX.out.size))
           clear hbu
           have HOKT:=zh (HNXT.out (HWHY.out))
           go_wp2
           rw [<-ha]
           go_roundg(gk - 1)
           case measure=>omega
           case rel=>exact⟨i+1,by omega,by go_num,HOKT,HBu⟩
          |false=>
           have HWHY:=zh (show¬TabOk j i l.ts t from fun h=>by
            have hil1:i - 1<l.ts.length:=by have:=HNL.out;omega
            have h1:=h.next h0j h0i _ (List.getElem?_eq_getElem hil1)
            rw [HPH.out _ h0i (List.getElem?_eq_getElem hil1),hpl] at h1
            cases h1)
           refine Mf.may9_F HKP HK1 HK2 true _ he1 rfl rfl h0j dj h0i di hwk hk0 hk1 false hpl (by rintro ch ⟨t,d⟩ ⟨t',d'⟩ w' rfl h;exact h) ?_
           intro v25 v26 v27 v28 v29 v30 v31 v32 v33 v34 v35 v36 v37 v38 v39 v40 v41 v42 v43 v44 v45 v46 v47 v48 v49 v50 v51 v52 v53 v54 v55 v56 v57 v58 v59 wq hbu
           have HBu:=zh (HBX.out.trans (hbu.mono HBX.out.size))
           clear hbu
           go_wp2
           go_ret
           exact HBAD.out (HWHY.out) _ HBu.out
         ·have di:decide ((0:Int)<(i:Int))=false:=decide_eq_false (by omega)
          have HWHY:=zh (show TabOk j i l.ts t from⟨HW1.out,HW2.out,HSPAN.out,fun _ h0=>absurd h0 h0i⟩)
          refine Mf.may9_E HKP HK1 HK2 true _ he1 rfl rfl h0j dj h0i di (by rintro ch ⟨t,d⟩ ⟨t',d'⟩ w' rfl h;exact h) ?_
          intro v25 v26 v27 v28 v29 v30 v31 v32 v33 v34 v35 v36 v37 v38 v39 v40 v41 v42 v43 v44 v45 v46 v47 v48 v49 v50 v51 v52 v53 v54 v55 v56 v57 v58 v59 wq hbu
          have HBu:=zh (HBX.out.trans (hbu.mono HBX.out.size))
          clear hbu
          have HOKT:=zh (HNXT.out (HWHY.out))
          go_wp2
          rw [<-ha]
          go_roundg(gk - 1)
          case measure=>omega
          case rel=>exact⟨i+1,by omega,by go_num,HOKT,HBu⟩
        ·have dj:decide ((0:Int)<(j:Int))=false:=decide_eq_false (by omega)
         have HWHY:=zh (show TabOk j i l.ts t from⟨HW1.out,HW2.out,HSPAN.out,fun h0=>absurd h0 h0j⟩)
         refine Mf.may9_D HKP HK1 HK2 true _ he1 rfl rfl h0j dj (by rintro ch ⟨t,d⟩ ⟨t',d'⟩ w' rfl h;exact h) ?_
         intro v25 v26 v27 v28 v29 v30 v31 v32 v33 v34 v35 v36 v37 v38 v39 v40 v41 v42 v43 v44 v45 v46 v47 v48 v49 v50 v51 v52 v53 v54 v55 v56 v57 v58 v59 wq hbu
         have HBu:=zh (HBX.out.trans (hbu.mono HBX.out.size))
         clear hbu
         have HOKT:=zh (HNXT.out (HWHY.out))
         go_wp2
         rw [<-ha]
         go_roundg(gk - 1)
         case measure=>omega
         case rel=>exact⟨i+1,by omega,by go_num,HOKT,HBu⟩
       |false=>
        cases he2:t.low.toList==t.high.toList with
        |true=>
         have HSPAN:=zh (show Op.bytesLess t.high.toList t.low.toList=false from by rw [HTRI.out,he1,he2];rfl)
         by_cases h0j:0<j
         ·have dj:decide ((0:Int)<(j:Int))=true:=decide_eq_true (by omega)
          by_cases h0i:0<i
          ·have di:decide ((0:Int)<(i:Int))=true:=decide_eq_true (by omega)
           have hwk:=hwk h0i
           cases hpl:Op.bytesLess ph.toList t.low.toList with
           |true=>
            have HWHY:=zh (show TabOk j i l.ts t from⟨HW1.out,HW2.out,HSPAN.out,fun _ h0 u hu=>by rw [HPH.out u h0 hu];exact hpl⟩)
            refine Mf.may9_F HKP HK1 HK2 false true he1 he2 rfl h0j dj h0i di hwk hk0 hk1 true hpl (by rintro ch ⟨t,d⟩ ⟨t',d'⟩ w' rfl h;exact h) ?_
            intro v25 v26 v27 v28 v29 v30 v31 v32 v33 v34 v35 v36 v37 v38 v39 v40 v41 v42 v43 v44 v45 v46 v47 v48 v49 v50 v51 v52 v53 v54 v55 v56 v57 v58 v59 wq hbu
            have HBu:=zh (HBX.out.trans (hbu.mono HBX.out.size))
            clear hbu
            have HOKT:=zh (HNXT.out (HWHY.out))
            go_wp2
            rw [<-ha]
            go_roundg(gk - 1)
            case measure=>omega
            case rel=>exact⟨i+1,by omega,by go_num,HOKT,HBu⟩
           |false=>
            have HWHY:=zh (show¬TabOk j i l.ts t from fun h=>by
             have hil1:i - 1<l.ts.length:=by have:=HNL.out;omega
             have h1:=h.next h0j h0i _ (List.getElem?_eq_getElem hil1)
             rw [HPH.out _ h0i (List.getElem?_eq_getElem hil1),hpl] at h1
             cases h1)
            refine Mf.may9_F HKP HK1 HK2 false true he1 he2 rfl h0j dj h0i di hwk hk0 hk1 false hpl (by rintro ch ⟨t,d⟩ ⟨t',d'⟩ w' rfl h;exact h) ?_
            intro v25 v26 v27 v28 v29 v30 v31 v32 v33 v34 v35 v36 v37 v38 v39 v40 v41 v42 v43 v44 v45 v46 v47 v48 v49 v50 v51 v52 v53 v54 v55 v56 v57 v58 v59 wq hbu
            have HBu:=zh (HBX.out.trans (hbu.mono HBX.out.size))
            clear hbu
            go_wp2
            go_ret
            exact HBAD.out (HWHY.out) _ HBu.out
          ·have di:decide ((0:Int)<(i:Int))=false:=decide_eq_false (by omega)
           have HWHY:=zh (show TabOk j i l.ts t from⟨HW1.out,HW2.out,HSPAN.out,fun _ h0=>absurd h0 h0i⟩)
           refine Mf.may9_E HKP HK1 HK2 false true he1 he2 rfl h0j dj h0i di (by rintro ch ⟨t,d⟩ ⟨t',d'⟩ w' rfl h;exact h) ?_
           intro v25 v26 v27 v28 v29 v30 v31 v32 v33 v34 v35 v36 v37 v38 v39 v40 v41 v42 v43 v44 v45 v46 v47 v48 v49 v50 v51 v52 v53 v54 v55 v56 v57 v58 v59 wq hbu
           have HBu:=zh (HBX.out.trans (hbu.mono HBX.out.size))
           clear hbu
           have HOKT:=zh (HNXT.out (HWHY.out))
           go_wp2
           rw [<-ha]
           go_roundg(gk - 1)
           case measure=>omega
           case rel=>exact⟨i+1,by omega,by go_num,HOKT,HBu⟩
         ·have dj:decide ((0:Int)<(j:Int))=false:=decide_eq_false (by omega)
          have HWHY:=zh (show TabOk j i l.ts t from⟨HW1.out,HW2.out,HSPAN.out,fun h0=>absurd h0 h0j⟩)
          refine Mf.may9_D HKP HK1 HK2 false true he1 he2 rfl h0j dj (by rintro ch ⟨t,d⟩ ⟨t',d'⟩ w' rfl h;exact h) ?_
          intro v25 v26 v27 v28 v29 v30 v31 v32 v33 v34 v35 v36 v37 v38 v39 v40 v41 v42 v43 v44 v45 v46 v47 v48 v49 v50 v51 v52 v53 v54 v55 v56 v57 v58 v59 wq hbu
          have HBu:=zh (HBX.out.trans (hbu.mono HBX.out.size))
          clear hbu
          have HOKT:=zh (HNXT.out (HWHY.out))
          go_wp2
          rw [<-ha]
          go_roundg(gk - 1)
          case measure=>omega
          case rel=>exact⟨i+1,by omega,by go_num,HOKT,HBu⟩
        |false=>
         have HWHY:=zh (show¬TabOk j i l.ts t from fun h=>by have h1:=h.span;rw [HTRI.out,he1,he2] at h1;cases h1)
         refine Mf.may9_C HKP HK1 HK2 false false he1 he2 rfl (by rintro ch ⟨t,d⟩ ⟨t',d'⟩ w' rfl h;exact h) ?_
         intro v25 v26 v27 v28 v29 v30 v31 v32 v33 v34 v35 v36 v37 v38 v39 v40 v41 v42 v43 v44 v45 v46 v47 v48 v49 v50 v51 v52 v53 v54 v55 v56 v57 v58 v59 wq hbu
         have HBu:=zh (HBX.out.trans (hbu.mono HBX.out.size))
         clear hbu
         go_wp2
         go_ret
         exact HBAD.out (HWHY.out) _ HBu.out
    ·have hie:l.ts.length<=i:=by have:=HNL.out;omega
     have HALL:=zh (show∀q x,q<j+1->s.lv[q]? =some x->LevOk q x.ts from fun q x hq hx=>by
      rcases Nat.lt_or_eq_of_le (Nat.le_of_lt_succ hq)with h1|h1
      ·exact HPRE.out q x h1 hx
      ·subst h1
       rw [HL.out] at hx
       cases hx
       exact HLT.out.all hie)
     have HSM2:=zh (show m+n=zzd (s.lv.take (j+1))from by
      have hjl:j<s.lv.length:=by rw [HL3.out];exact hlt
      have hg:s.lv[j] =l:=by have:=HL.out;rw [List.getElem?_eq_getElem hjl] at this;exact Option.some.inj this
      rw [List.take_succ_eq_append_getElem hjl,zya,hg,<-HSM.out,HNL.out])
     have hwj:IntKind.i64.wrap ((j:Int)+1)=(j:Int)+1:=IntWalk.i64_in _ (by omega)
     go_wp2_with fail
     go_roundg(g0 - 1)
     case measure=>have:=HG0.out;omega
     case rel=>exact⟨j+1,m+n,by omega,by go_num,rfl,HSM2,HALL,HBq⟩
  ·have hj3:j=3:=by omega
   subst hj3
   have HLEV:=zh (show∀(i:Nat) l,s.says.lv[i]? =some l->LevOk i l from fun i l hl=>by
    rw [HSAY.out,List.getElem?_map] at hl
    obtain⟨x,hx,rfl⟩:=Option.map_eq_some_iff.1 hl
    obtain⟨h3,_⟩:=List.getElem?_eq_some_iff.1 hx
    rw [HL3.out] at h3
    exact HPRE.out i x h3 hx)
   have HMANY:=zh (show 0<m↔ ∃l∈s.says.lv,l≠ [] from by
    have h:=HSM.out
    rw [List.take_of_length_le (by rw [HL3.out];exact zr)] at h
    rw [h,yq3,HSAY.out]
    simp only [List.mem_map]
    constructor
    ·rintro⟨x,hx,h1⟩;exact⟨_,⟨x,hx,rfl⟩,h1⟩
    ·rintro⟨_,⟨x,hx,rfl⟩,h1⟩;exact⟨x,hx,h1⟩)
   have HR:=zh (show zvb s w (.returned (.bool (decide (0<m)))) wr from⟨_,rfl,⟨fun h=>⟨HLEV.out,HMANY.out.1 (of_decide_eq_true h)⟩,fun h=>decide_eq_true (HMANY.out.2 h.many)⟩,HBw.out⟩)
   go_wp2_with fail
   go_ret
   exact HR.out
end Go.Proofs.YtchcelodeepjdaaGreatDoor.Ln

namespace Go.Proofs.YtchcelodeepjdaaGreatDoor.Ln
open Go.RowKit Go.Herb
namespace Mf
noncomputable def R5:Code:=((Tryz.f36.body.bind (zxg 5)).getD .skip)
set_option maxRecDepth 100000 in
set_option maxHeartbeats 1000000 in
theorem shl5_A {p p0 b o n sc i k n0 n1 n2 c0 c1 c2:Nat}{line pl:Int}{a0 a1 a2:Option Addr}{X:World}{u0 u2 u3 u6 u7 u8 u9 u10 u11 u12 u13 u14 u15 u16 u17 u18 u19 u20 u21 u22 u23 u24 u25 u26 u27 u28 u29 u30 u31 u32 u33 u34 u35 u36 u37 u38 u39 u40 u41 u42 u43 u44 u45 u46 u47 u48 u49 u50 u51 u52 u53 u54 u55 u56 u57 u58 u59 u60 u61 u62 u63 u64 u65 u66 u67 u68:Value}{Q:Exit->Act->World->Prop}
  (HKP:Hid (∀u,Below X.heap.size X u->u.cell? ⟨p,0,none⟩=some (.int .u64 line)/\u.cell? ⟨p,1,none⟩=some (.slice a0 n0 c0)/\u.cell? ⟨p,2,none⟩=some (.slice a1 n1 c1)/\u.cell? ⟨p,3,none⟩=some (.slice a2 n2 c2)/\u.cell? ⟨p0,6,none⟩=some (.slice (some ⟨b,o,none⟩) n sc)/\u.cell? ⟨b,o+k*4,none⟩=some (.int .u64 pl)))
  (HM:Hid (∀u,Below X.heap.size X u->Calls Tryz.prog (77) #[.agg #[.int .u64 line, .slice a0 n0 c0, .slice a1 n1 c1, .slice a2 n2 c2]] u fun e w'=>e= .returned (.bool false)/\Below u.heap.size u w'))
  (hP: ∀ch a a' w',a'.defers=a.defers->Q (.panic ch) a w'->Q (.panic ch) a' w')
  (hQ: ∀(v19 v20 v21 v22 v23 v24 v25 v26 v27 v28 v29 v30 v31 v32 v33 v34 v35 v36:Value) (w':World),Below X.heap.size X w'->Q .normal ⟨#[u0, .pointer (some ⟨p0,0,none⟩),u2,u3, .int .i64 (i:Int), .pointer (some ⟨p,0,none⟩),u6,u7,u8,u9,u10,u11,u12,u13,u14,u15,u16,u17,u18,v19,v20,v21,v22,v23,v24,v25,v26,v27,v28,v29,v30,v31,v32,v33,v34,v35,v36, .bool true,u38,u39,u40,u41,u42,u43,u44,u45,u46,u47,u48,u49,u50,u51,u52,u53,u54,u55,u56,u57,u58,u59,u60,u61,u62,u63,u64,u65,u66,u67,u68], []⟩ w'):
  Code.wp Tryz.prog R5 Q ⟨#[u0, .pointer (some ⟨p0,0,none⟩),u2,u3, .int .i64 (i:Int), .pointer (some ⟨p,0,none⟩),u6,u7,u8,u9,u10,u11,u12,u13,u14,u15,u16,u17,u18,u19,u20,u21,u22,u23,u24,u25,u26,u27,u28,u29,u30,u31,u32,u33,u34,u35,u36,u37,u38,u39,u40,u41,u42,u43,u44,u45,u46,u47,u48,u49,u50,u51,u52,u53,u54,u55,u56,u57,u58,u59,u60,u61,u62,u63,u64,u65,u66,u67,u68], []⟩ X:=by
 conv=>arg 2;whnf
 have HP:=zh hP
 have HQ:=zh hQ
 clear hP hQ
 have HDA:=zh (show Below X.heap.size X X.drew from(Below.refl X.heap.size X).drew)
 refine wp_region_held_drew (S:=fun u=>u.cell? ⟨p,0,none⟩=some (.int .u64 line)/\u.cell? ⟨p,1,none⟩=some (.slice a0 n0 c0)/\u.cell? ⟨p,2,none⟩=some (.slice a1 n1 c1)/\u.cell? ⟨p,3,none⟩=some (.slice a2 n2 c2)/\u.cell? ⟨p0,6,none⟩=some (.slice (some ⟨b,o,none⟩) n sc)/\u.cell? ⟨b,o+k*4,none⟩=some (.int .u64 pl)) (by kernel_rfl) (by first|exact HKP.out _ hbu|exact HKP.out _ HDA.out) (fun hHeld=> ?_)
 refine tkI HP.out 0 (h:= ?_)
 try simp only [Act.put,lsa,lsz,lss]
 refine tkC 1 (h:=fun K hK=> ?_)
 go_wp2_with(go_at_call 77;(with_reducible refine(HM.out _ HDA.out).mono ?_);rintro e w5 ⟨rfl,hb5⟩;have hbu:=HDA.out.trans (hb5.mono HDA.out.size))
 refine hK.out _ _ (by first|exact HKP.out _ hbu|exact HKP.out _ HDA.out) (fun hHeld=> ?_)
 clear hK K
 refine tkI HP.out 2 (h:= ?_)
 try simp only [Act.put,lsa,lsz,lss]
 refine tkI HP.out 3 (h:= ?_)
 refine tkO HP.out 4 (h:= ?_)
 refine tkO HP.out 5 (h:= ?_)
 try simp only [Act.put,lsa,lsz,lss]
 refine tkO HP.out 6 (h:= ?_)
 refine tkO HP.out 7 (h:= ?_)
 refine tkO HP.out 8 (h:= ?_)
 try simp only [Act.put,lsa,lsz,lss]
 refine tkO HP.out 9 (h:= ?_)
 refine tkO HP.out 10 (h:= ?_)
 refine tkO HP.out 11 (h:= ?_)
 try simp only [Act.put,lsa,lsz,lss]
 refine tkO HP.out 12 (h:= ?_)
 refine tkO HP.out 13 (h:= ?_)
 refine tkO HP.out 14 (h:= ?_)
 try simp only [Act.put,lsa,lsz,lss]
 refine tkO HP.out 15 (h:= ?_)
 refine tkO HP.out 16 (h:= ?_)
 refine tkO HP.out 17 (h:= ?_)
 try simp only [Act.put,lsa,lsz,lss]
 refine tkI HP.out 18 (h:= ?_)
 try simp only [Act.put,lsa,lsz,lss]
 refine wpAnyH_done (by kernel_rfl) ?_ _
 first|exact HQ.out _ _ _ _ _ _ _ _ _ _ _ _ _ _ _ _ _ _ _ hbu|exact HQ.out _ _ _ _ _ _ _ _ _ _ _ _ _ _ _ _ _ _ _ HDA.out
set_option maxRecDepth 100000 in
set_option maxHeartbeats 1000000 in
theorem shl5_B {p p0 b o n sc i k n0 n1 n2 c0 c1 c2:Nat}{line pl:Int}{a0 a1 a2:Option Addr}{X:World}{u0 u2 u3 u6 u7 u8 u9 u10 u11 u12 u13 u14 u15 u16 u17 u18 u19 u20 u21 u22 u23 u24 u25 u26 u27 u28 u29 u30 u31 u32 u33 u34 u35 u36 u37 u38 u39 u40 u41 u42 u43 u44 u45 u46 u47 u48 u49 u50 u51 u52 u53 u54 u55 u56 u57 u58 u59 u60 u61 u62 u63 u64 u65 u66 u67 u68:Value}{Q:Exit->Act->World->Prop}
  (HKP:Hid (∀u,Below X.heap.size X u->u.cell? ⟨p,0,none⟩=some (.int .u64 line)/\u.cell? ⟨p,1,none⟩=some (.slice a0 n0 c0)/\u.cell? ⟨p,2,none⟩=some (.slice a1 n1 c1)/\u.cell? ⟨p,3,none⟩=some (.slice a2 n2 c2)/\u.cell? ⟨p0,6,none⟩=some (.slice (some ⟨b,o,none⟩) n sc)/\u.cell? ⟨b,o+k*4,none⟩=some (.int .u64 pl)))
  (HM:Hid (∀u,Below X.heap.size X u->Calls Tryz.prog (77) #[.agg #[.int .u64 line, .slice a0 n0 c0, .slice a1 n1 c1, .slice a2 n2 c2]] u fun e w'=>e= .returned (.bool true)/\Below u.heap.size u w'))
  (h0i: ¬0<i) (_di:decide ((0:Int)<(i:Int))=false)
  (hP: ∀ch a a' w',a'.defers=a.defers->Q (.panic ch) a w'->Q (.panic ch) a' w')
  (hQ: ∀(v19 v20 v21 v22 v23 v24 v25 v26 v27 v28 v29 v30 v31 v32 v33 v34 v35 v36:Value) (w':World),Below X.heap.size X w'->Q .normal ⟨#[u0, .pointer (some ⟨p0,0,none⟩),u2,u3, .int .i64 (i:Int), .pointer (some ⟨p,0,none⟩),u6,u7,u8,u9,u10,u11,u12,u13,u14,u15,u16,u17,u18,v19,v20,v21,v22,v23,v24,v25,v26,v27,v28,v29,v30,v31,v32,v33,v34,v35,v36, .bool false,u38,u39,u40,u41,u42,u43,u44,u45,u46,u47,u48,u49,u50,u51,u52,u53,u54,u55,u56,u57,u58,u59,u60,u61,u62,u63,u64,u65,u66,u67,u68], []⟩ w'):
  Code.wp Tryz.prog R5 Q ⟨#[u0, .pointer (some ⟨p0,0,none⟩),u2,u3, .int .i64 (i:Int), .pointer (some ⟨p,0,none⟩),u6,u7,u8,u9,u10,u11,u12,u13,u14,u15,u16,u17,u18,u19,u20,u21,u22,u23,u24,u25,u26,u27,u28,u29,u30,u31,u32,u33,u34,u35,u36,u37,u38,u39,u40,u41,u42,u43,u44,u45,u46,u47,u48,u49,u50,u51,u52,u53,u54,u55,u56,u57,u58,u59,u60,u61,u62,u63,u64,u65,u66,u67,u68], []⟩ X:=by
 conv=>arg 2;whnf
 have HP:=zh hP
 have HQ:=zh hQ
 clear hP hQ
 have HDA:=zh (show Below X.heap.size X X.drew from(Below.refl X.heap.size X).drew)
 refine wp_region_held_drew (S:=fun u=>u.cell? ⟨p,0,none⟩=some (.int .u64 line)/\u.cell? ⟨p,1,none⟩=some (.slice a0 n0 c0)/\u.cell? ⟨p,2,none⟩=some (.slice a1 n1 c1)/\u.cell? ⟨p,3,none⟩=some (.slice a2 n2 c2)/\u.cell? ⟨p0,6,none⟩=some (.slice (some ⟨b,o,none⟩) n sc)/\u.cell? ⟨b,o+k*4,none⟩=some (.int .u64 pl)) (by kernel_rfl) (by first|exact HKP.out _ hbu|exact HKP.out _ HDA.out) (fun hHeld=> ?_)
 refine tkI HP.out 0 (h:= ?_)
 try simp only [Act.put,lsa,lsz,lss]
 refine tkC 1 (h:=fun K hK=> ?_)
 go_wp2_with(go_at_call 77;(with_reducible refine(HM.out _ HDA.out).mono ?_);rintro e w5 ⟨rfl,hb5⟩;have hbu:=HDA.out.trans (hb5.mono HDA.out.size))
 refine hK.out _ _ (by first|exact HKP.out _ hbu|exact HKP.out _ HDA.out) (fun hHeld=> ?_)
 clear hK K
 refine tkI HP.out 2 (h:= ?_)
 try simp only [Act.put,lsa,lsz,lss]
 refine tkI HP.out 3 (h:= ?_)
 refine tkI HP.out 4 (h:= ?_)
 refine tkI HP.out 5 (h:= ?_)
 try simp only [Act.put,lsa,lsz,lss]
 refine tkI HP.out 6 (h:= ?_)
 refine tkO HP.out 7 (h:= ?_)
 refine tkO HP.out 8 (h:= ?_)
 try simp only [Act.put,lsa,lsz,lss]
 refine tkO HP.out 9 (h:= ?_)
 refine tkO HP.out 10 (h:= ?_)
 refine tkO HP.out 11 (h:= ?_)
 try simp only [Act.put,lsa,lsz,lss]
 refine tkO HP.out 12 (h:= ?_)
 refine tkO HP.out 13 (h:= ?_)
 refine tkO HP.out 14 (h:= ?_)
 try simp only [Act.put,lsa,lsz,lss]
 refine tkO HP.out 15 (h:= ?_)
 refine tkO HP.out 16 (h:= ?_)
 refine tkI HP.out 17 (h:= ?_)
 try simp only [Act.put,lsa,lsz,lss]
 refine tkI HP.out 18 (h:= ?_)
 try simp only [Act.put,lsa,lsz,lss]
 refine wpAnyH_done (by kernel_rfl) ?_ _
 first|exact HQ.out _ _ _ _ _ _ _ _ _ _ _ _ _ _ _ _ _ _ _ hbu|exact HQ.out _ _ _ _ _ _ _ _ _ _ _ _ _ _ _ _ _ _ _ HDA.out
set_option maxRecDepth 100000 in
set_option maxHeartbeats 1000000 in
theorem shl5_C {p p0 b o n sc i k n0 n1 n2 c0 c1 c2:Nat}{line pl:Int}{a0 a1 a2:Option Addr}{X:World}{u0 u2 u3 u6 u7 u8 u9 u10 u11 u12 u13 u14 u15 u16 u17 u18 u19 u20 u21 u22 u23 u24 u25 u26 u27 u28 u29 u30 u31 u32 u33 u34 u35 u36 u37 u38 u39 u40 u41 u42 u43 u44 u45 u46 u47 u48 u49 u50 u51 u52 u53 u54 u55 u56 u57 u58 u59 u60 u61 u62 u63 u64 u65 u66 u67 u68:Value}{Q:Exit->Act->World->Prop}
  (HKP:Hid (∀u,Below X.heap.size X u->u.cell? ⟨p,0,none⟩=some (.int .u64 line)/\u.cell? ⟨p,1,none⟩=some (.slice a0 n0 c0)/\u.cell? ⟨p,2,none⟩=some (.slice a1 n1 c1)/\u.cell? ⟨p,3,none⟩=some (.slice a2 n2 c2)/\u.cell? ⟨p0,6,none⟩=some (.slice (some ⟨b,o,none⟩) n sc)/\u.cell? ⟨b,o+k*4,none⟩=some (.int .u64 pl)))
  (HM:Hid (∀u,Below X.heap.size X u->Calls Tryz.prog (77) #[.agg #[.int .u64 line, .slice a0 n0 c0, .slice a1 n1 c1, .slice a2 n2 c2]] u fun e w'=>e= .returned (.bool true)/\Below u.heap.size u w'))
  (h0i:0<i) (_di:decide ((0:Int)<(i:Int))=true)
  (hwk:IntKind.i64.wrap ((i:Int) - 1)=(k:Int)) (hk0:(0:Int)<=(k:Int)) (hk1:(k:Int)<(n:Int))
  (g:Bool) (hg:decide (line<=pl)=g)
  (hP: ∀ch a a' w',a'.defers=a.defers->Q (.panic ch) a w'->Q (.panic ch) a' w')
  (hQ: ∀(v19 v20 v21 v22 v23 v24 v25 v26 v27 v28 v29 v30 v31 v32 v33 v34 v35 v36:Value) (w':World),Below X.heap.size X w'->Q .normal ⟨#[u0, .pointer (some ⟨p0,0,none⟩),u2,u3, .int .i64 (i:Int), .pointer (some ⟨p,0,none⟩),u6,u7,u8,u9,u10,u11,u12,u13,u14,u15,u16,u17,u18,v19,v20,v21,v22,v23,v24,v25,v26,v27,v28,v29,v30,v31,v32,v33,v34,v35,v36, .bool g,u38,u39,u40,u41,u42,u43,u44,u45,u46,u47,u48,u49,u50,u51,u52,u53,u54,u55,u56,u57,u58,u59,u60,u61,u62,u63,u64,u65,u66,u67,u68], []⟩ w'):
  Code.wp Tryz.prog R5 Q ⟨#[u0, .pointer (some ⟨p0,0,none⟩),u2,u3, .int .i64 (i:Int), .pointer (some ⟨p,0,none⟩),u6,u7,u8,u9,u10,u11,u12,u13,u14,u15,u16,u17,u18,u19,u20,u21,u22,u23,u24,u25,u26,u27,u28,u29,u30,u31,u32,u33,u34,u35,u36,u37,u38,u39,u40,u41,u42,u43,u44,u45,u46,u47,u48,u49,u50,u51,u52,u53,u54,u55,u56,u57,u58,u59,u60,u61,u62,u63,u64,u65,u66,u67,u68], []⟩ X:=by
 conv=>arg 2;whnf
 have HP:=zh hP
 have HQ:=zh hQ
 clear hP hQ
 have HDA:=zh (show Below X.heap.size X X.drew from(Below.refl X.heap.size X).drew)
 refine wp_region_held_drew (S:=fun u=>u.cell? ⟨p,0,none⟩=some (.int .u64 line)/\u.cell? ⟨p,1,none⟩=some (.slice a0 n0 c0)/\u.cell? ⟨p,2,none⟩=some (.slice a1 n1 c1)/\u.cell? ⟨p,3,none⟩=some (.slice a2 n2 c2)/\u.cell? ⟨p0,6,none⟩=some (.slice (some ⟨b,o,none⟩) n sc)/\u.cell? ⟨b,o+k*4,none⟩=some (.int .u64 pl)) (by kernel_rfl) (by first|exact HKP.out _ hbu|exact HKP.out _ HDA.out) (fun hHeld=> ?_)
 refine tkI HP.out 0 (h:= ?_)
 try simp only [Act.put,lsa,lsz,lss]
 refine tkC 1 (h:=fun K hK=> ?_)
 go_wp2_with(go_at_call 77;(with_reducible refine(HM.out _ HDA.out).mono ?_);rintro e w5 ⟨rfl,hb5⟩;have hbu:=HDA.out.trans (hb5.mono HDA.out.size))
 refine hK.out _ _ (by first|exact HKP.out _ hbu|exact HKP.out _ HDA.out) (fun hHeld=> ?_)
 clear hK K
 refine tkI HP.out 2 (h:= ?_)
 try simp only [Act.put,lsa,lsz,lss]
 refine tkI HP.out 3 (h:= ?_)
 refine tkI HP.out 4 (h:= ?_)
 refine tkI HP.out 5 (h:= ?_)
 try simp only [Act.put,lsa,lsz,lss]
 refine tkI HP.out 6 (h:= ?_)
 refine tkI HP.out 7 (h:= ?_)
 refine tkI HP.out 8 (h:= ?_)
 try simp only [Act.put,lsa,lsz,lss]
 refine tkI HP.out 9 (h:= ?_)
 refine tkI HP.out 10 (h:= ?_)
 refine tkI HP.out 11 (h:= ?_)
 try simp only [Act.put,lsa,lsz,lss]
 refine tkI HP.out 12 (h:= ?_)
 refine tkI HP.out 13 (h:= ?_)
 refine tkI HP.out 14 (h:= ?_)
 try simp only [Act.put,lsa,lsz,lss]
 refine tkI HP.out 15 (h:= ?_)
 refine tkI HP.out 16 (h:= ?_)
 refine tkI HP.out 17 (h:= ?_)
 try simp only [Act.put,lsa,lsz,lss]
 refine tkI HP.out 18 (h:= ?_)
 try simp only [Act.put,lsa,lsz,lss]
 refine wpAnyH_done (by kernel_rfl) ?_ _
 first|exact HQ.out _ _ _ _ _ _ _ _ _ _ _ _ _ _ _ _ _ _ _ hbu|exact HQ.out _ _ _ _ _ _ _ _ _ _ _ _ _ _ _ _ _ _ _ HDA.out
set_option maxRecDepth 100000 in
set_option maxHeartbeats 1000000 in
theorem shl5_N {p p0 b o n sc i k n0 n1 n2 c0 c1 c2:Nat}{line pl:Int}{a0 a1 a2:Option Addr}{X:World}{u0 u2 u3 u6 u7 u8 u9 u10 u11 u12 u13 u14 u15 u16 u17 u18 u19 u20 u21 u22 u23 u24 u25 u26 u27 u28 u29 u30 u31 u32 u33 u34 u35 u36 u37 u38 u39 u40 u41 u42 u43 u44 u45 u46 u47 u48 u49 u50 u51 u52 u53 u54 u55 u56 u57 u58 u59 u60 u61 u62 u63 u64 u65 u66 u67 u68:Value}{Q:Exit->Act->World->Prop}
  (HKP:Hid (∀u,Below X.heap.size X u->u.cell? ⟨p,0,none⟩=some (.int .u64 line)/\u.cell? ⟨p,1,none⟩=some (.slice a0 n0 c0)/\u.cell? ⟨p,2,none⟩=some (.slice a1 n1 c1)/\u.cell? ⟨p,3,none⟩=some (.slice a2 n2 c2)/\u.cell? ⟨p0,6,none⟩=some (.slice (some ⟨b,o,none⟩) n sc)/\u.cell? ⟨b,o+k*4,none⟩=some (.int .u64 pl)))
  (HM:Hid (∀u,Below X.heap.size X u->Calls Tryz.prog (77) #[.agg #[.int .u64 line, .slice a0 n0 c0, .slice a1 n1 c1, .slice a2 n2 c2]] u fun e w'=>e= .returned (.bool true)/\Below u.heap.size u w'))
  (hwk:0<i->IntKind.i64.wrap ((i:Int) - 1)=(k:Int)) (hk0:(0:Int)<=(k:Int)) (hk1:(k:Int)<(n:Int))
  (hg:0<i->decide (line<=pl)=false)
  (hP: ∀ch a a' w',a'.defers=a.defers->Q (.panic ch) a w'->Q (.panic ch) a' w')
  (hQ: ∀(v19 v20 v21 v22 v23 v24 v25 v26 v27 v28 v29 v30 v31 v32 v33 v34 v35 v36:Value) (w':World),Below X.heap.size X w'->Q .normal ⟨#[u0, .pointer (some ⟨p0,0,none⟩),u2,u3, .int .i64 (i:Int), .pointer (some ⟨p,0,none⟩),u6,u7,u8,u9,u10,u11,u12,u13,u14,u15,u16,u17,u18,v19,v20,v21,v22,v23,v24,v25,v26,v27,v28,v29,v30,v31,v32,v33,v34,v35,v36, .bool false,u38,u39,u40,u41,u42,u43,u44,u45,u46,u47,u48,u49,u50,u51,u52,u53,u54,u55,u56,u57,u58,u59,u60,u61,u62,u63,u64,u65,u66,u67,u68], []⟩ w'):
  Code.wp Tryz.prog R5 Q ⟨#[u0, .pointer (some ⟨p0,0,none⟩),u2,u3, .int .i64 (i:Int), .pointer (some ⟨p,0,none⟩),u6,u7,u8,u9,u10,u11,u12,u13,u14,u15,u16,u17,u18,u19,u20,u21,u22,u23,u24,u25,u26,u27,u28,u29,u30,u31,u32,u33,u34,u35,u36,u37,u38,u39,u40,u41,u42,u43,u44,u45,u46,u47,u48,u49,u50,u51,u52,u53,u54,u55,u56,u57,u58,u59,u60,u61,u62,u63,u64,u65,u66,u67,u68], []⟩ X:=by
 by_cases h0i:0<i
 ·exact shl5_C HKP HM h0i (decide_eq_true (by omega)) (hwk h0i) hk0 hk1 false (hg h0i) hP hQ
 ·exact shl5_B HKP HM h0i (decide_eq_false (by omega)) hP hQ
end Mf
end Go.Proofs.YtchcelodeepjdaaGreatDoor.Ln
