/- Lemmas and walks towards ManifestsFold. Conditions: each one tells its own. -/
import Derived.Test.YtchcelodeepjdaaGreatDoorMp
import Derived.Test.YtchcelodeepjdaaGreatDoorZEa
import Derived.Test.YtchcelodeepjdaaGreatDoorZF
import Derived.Test.YtchcelodeepjdaaGreatDoorLT4
namespace Go.Herb
open Go
theorem zv7 {α:Type}{l:List α}{i:Nat}{x:α}(h:l[i]? =some x):l=l.take i++x::l.drop (i+1):=by
 obtain⟨hi,rfl⟩:=List.getElem?_eq_some_iff.1 h
 rw [<-List.drop_eq_getElem_cons hi,List.take_append_drop]
theorem ywp {s:Sd}{j k:Nat}{l:List Tb}{t:Tb}(h:s.lv[j]? =some l)(ht:l[k]? =some t):((s.lv.take j).flatten++l.take k).map (·.file)++ [t.file] <+:zjk s:=by
 refine⟨((l.drop (k+1))++(s.lv.drop (j+1)).flatten).map (·.file),?_⟩
 unfold zjk
 conv=>rhs;rw [zv7 h,zv7 ht]
 simp
theorem ywo {sh:List Sd}{i:Nat}{s:Sd}(h:sh[i]? =some s):zx4 (sh.take i)++zjk s<+:zx4 sh:=by
 refine⟨zx4 (sh.drop (i+1)),?_⟩
 unfold zx4
 conv=>rhs;rw [zv7 h]
 simp
def zqg (sh:List Sd)(i:Nat)(s:Sd)(j:Nat)(l:List Tb)(k:Nat):List Int:=zx4 (sh.take i)++((s.lv.take j).flatten++l.take k).map (·.file)
theorem zvk {sh:List Sd}{i j k:Nat}{s:Sd}{l:List Tb}{t:Tb}(hs:sh[i]? =some s)(h:s.lv[j]? =some l)(ht:l[k]? =some t):zqg sh i s j l k++ [t.file] <+:zx4 sh:=by
 obtain⟨a,ha⟩:=ywp h ht
 obtain⟨b,hb⟩:=ywo hs
 refine⟨a++b,?_⟩
 rw [<-hb,<-ha]
 simp [zqg]
theorem yqo {sh:List Sd}{i j k:Nat}{s:Sd}{l:List Tb}{t:Tb}(ht:l[k]? =some t):zqg sh i s j l (k+1)=zqg sh i s j l k++ [t.file] :=by
 obtain⟨hi,rfl⟩:=List.getElem?_eq_some_iff.1 ht
 unfold zqg
 rw [List.take_succ_eq_append_getElem hi,<-List.append_assoc,List.map_append,<-List.append_assoc]
 rfl
theorem yqm {sh:List Sd}{i j k:Nat}{s:Sd}{l l2:List Tb}(h:s.lv[j]? =some l)(hk:l.length<=k):zqg sh i s j l k=zqg sh i s (j+1) l2 0:=by
 obtain⟨hi,rfl⟩:=List.getElem?_eq_some_iff.1 h
 unfold zqg
 rw [List.take_of_length_le hk,List.take_succ_eq_append_getElem hi,List.flatten_append,List.take_zero,List.append_nil,List.flatten_cons,List.flatten_nil,List.append_nil]
theorem yqn {sh:List Sd}{i j k:Nat}{s s2:Sd}{l l2:List Tb}(hs:sh[i]? =some s)(hj:s.lv.length<=j)(hk:l= []):zqg sh i s j l k=zqg sh (i+1) s2 0 l2 0:=by
 obtain⟨hi,rfl⟩:=List.getElem?_eq_some_iff.1 hs
 subst hk
 unfold zqg
 rw [List.take_of_length_le hj,List.take_succ_eq_append_getElem hi,List.take_nil,List.append_nil,List.take_zero,List.take_zero,List.flatten_nil,List.append_nil,List.map_nil,List.append_nil,yj9]
 rfl
theorem yxp {sh:List Sd}{s:Sd}{l:List Tb}:zqg sh 0 s 0 l 0= [] :=by simp [zqg,zx4]
theorem yja {sh:List Sd}{i:Nat}{s:Sd}{l:List Tb}(h:sh.length<=i):zqg sh i s 0 l 0=zx4 sh:=by simp [zqg,List.take_of_length_le h]
structure zve (sh:List Sd)(i:Nat):Prop where
 may: ∀s∈sh.take i,MayS s
 rise:(sh.take i).Pairwise (fun a b=>a.line<b.line)
theorem zve.zero (sh:List Sd):zve sh 0:=⟨by simp,by simp⟩
theorem zve.next {sh:List Sd}{i:Nat}{s:Sd}(h:zve sh i)(hs:sh[i]? =some s)(hm:MayS s)(hl: ∀y,0<i->sh[i - 1]? =some y->y.line<s.line):zve sh (i+1):=by
 obtain⟨hi,he⟩:=List.getElem?_eq_some_iff.1 hs
 have ht:sh.take (i+1)=sh.take i++ [s] :=by rw [<-he];exact List.take_succ_eq_append_getElem hi
 refine⟨?_,?_⟩
 ·rw [ht]
  intro x hx
  rcases List.mem_append.1 hx with hx|hx
  ·exact h.may x hx
  ·rw [List.mem_singleton.1 hx];exact hm
 ·rw [ht]
  refine List.pairwise_append.2 ⟨h.rise,List.pairwise_singleton _ _,fun a ha b hb=> ?_⟩
  rw [List.mem_singleton.1 hb]
  obtain⟨q,hq,hqa⟩:=List.getElem_of_mem ha
  have hq2:q<i:=by rw [List.length_take] at hq;omega
  have h1:i - 1<(sh.take i).length:=by rw [List.length_take];omega
  have h2:sh[i - 1]? =some ((sh.take i)[i - 1]'h1):=by rw [<-List.getElem?_eq_getElem h1,List.getElem?_take_of_lt (by omega)]
  have h3:=hl _ (by omega) h2
  rcases Nat.lt_or_ge q (i - 1)with h4|h4
  ·have h5:=List.pairwise_iff_getElem.1 h.rise q (i - 1) hq h1 h4
   rw [hqa] at h5
   omega
  ·have h5:q=i - 1:=by omega
   subst h5
   rw [hqa] at h3
   exact h3
theorem zz0.at {next:Int}{sh:List Sd}(h:zz0 next sh){i:Nat}{s y:Sd}(hs:sh[i]? =some s)(h0:0<i)(hy:sh[i - 1]? =some y):y.line<s.line:=by
 obtain⟨hi,rfl⟩:=List.getElem?_eq_some_iff.1 hs
 obtain⟨hj,rfl⟩:=List.getElem?_eq_some_iff.1 hy
 exact List.pairwise_iff_getElem.1 h.rise _ _ hj hi (by omega)
theorem zz0.below_filesTo {next:Int}{sh:List Sd}(h:zz0 next sh){i j k:Nat}{s:Sd}{l:List Tb}{t:Tb}(hs:sh[i]? =some s)(hl:s.lv[j]? =some l)(ht:l[k]? =some t):t.file<next/\t.file∉zqg sh i s j l k:=by
 have hp:=zvk hs hl ht
 refine⟨h.below _ (hp.subset (by simp)),fun hc=> ?_⟩
 have:=h.apart.sublist hp.sublist
 rw [List.nodup_append] at this
 exact this.2.2 _ hc _ (by simp) rfl
end Go.Herb
namespace Go.Proofs.YtchcelodeepjdaaGreatDoor.Ln
open Go.RowKit Go.Herb

theorem MapIs.storeW {w:World}{b:Nat}{m:List (Int × Int)}(h:MapC w b m)(k v:Int)(hk:(Lit.int .u64 k).wf=true)(hl:m.length<100000000):
  ∃w',(Instr.mapUpdate (144) (.map (some b)) (.int .u64 k) (.int .i64 v)).run Tryz.prog w= .ok () w'/\MapC w' b (putL m k v)/\w.grownBy w' (some b)/\w'.heap.size=w.heap.size:=
 MapIs.store h lawU zjo Tryz.underlying144 (by unfold maxLen;omega) v (Maps.keyOf_int_mk Tryz.underlying26 hk)
structure FSt (wr:World)(M:Nat)(next:Int)(done:List Int):Prop where
 map: ∃cm,MapC wr M cm/\zz7 cm done/\cm.length<=done.length
 nd:done.Nodup
 lt: ∀f∈done,f<next
theorem FSt.ext {wr w':World}{M:Nat}{next:Int}{done:List Int}(h:FSt wr M next done)(hb:Below wr.heap.size wr w'):FSt w' M next done:=by
 obtain⟨⟨cm,h1,h2,h3⟩,h4,h5⟩:=h
 exact⟨⟨cm,h1.same (hb.block _ h1.lt),h2,h3⟩,h4,h5⟩
def zjb (next:Int)(xs:List Sv)(w:World)(e:Ending)(w':World):Prop:= ∃r:Bool,e= .returned (.bool r)/\(r=true↔zz0 next (xs.map Sv.says))/\Below w.heap.size w w'
set_option maxRecDepth 100000 in
set_option maxHeartbeats 4000000 in
theorem yk0 (r:Rv)(w:World)(hsh:ShIn w r.sa r.sh)(hN:(zx4 (r.sh.map Sv.says)).length<=1000000)(hM:r.sh.length<=1000000)(hL: ∀s∈r.sh,∀l∈s.lv,l.ts.length<=1000000):
  Calls Tryz.prog (36) #[rtV r] w (zjb r.next r.sh w):=by
 obtain⟨n,hn⟩: ∃n,n=r.sh.length:=⟨_,rfl⟩
 obtain⟨shs,hshs⟩: ∃shs,shs=r.sh.map Sv.says:=⟨_,rfl⟩
 rw [<-hshs] at hN
 rw [<-hn] at hM
 obtain⟨v3,hv3⟩: ∃v,v=Value.slice r.ba r.bs.length r.bc:=⟨_,rfl⟩
 obtain⟨v4,hv4⟩: ∃v,v=Value.slice r.la r.ls.length r.lc:=⟨_,rfl⟩
 obtain⟨v5,hv5⟩: ∃v,v=Value.slice r.va r.vs.length r.vc:=⟨_,rfl⟩
 have hrt:rtV r= .agg #[.int .u64 r.seq, .int .u64 r.log, .int .u64 r.next,v3,v4,v5, .slice r.sa n r.sc] :=by rw [hv3,hv4,hv5,hn]
 have o3:v3.oneCell'=true:=by rw [hv3];rfl
 have o4:v4.oneCell'=true:=by rw [hv4];rfl
 have o5:v5.oneCell'=true:=by rw [hv5];rfl
 have HOUT:=zh (show¬zz0 r.next shs->Hid (∀u,Below w.heap.size w u->zjb r.next r.sh w (.returned (.bool false)) u)from fun h=>zh (fun u hu=>⟨false,rfl,⟨(fun h=>by cases h),fun h2=>absurd (hshs▸h2) h⟩,hu⟩))
 have HYES:=zh (show zz0 r.next shs->Hid (∀u,Below w.heap.size w u->zjb r.next r.sh w (.returned (.bool true)) u)from fun h=>zh (fun u hu=>⟨true,rfl,⟨fun _=>hshs▸h,fun _=>rfl⟩,hu⟩))
 rw [hrt]
 clear hrt hv3 hv4 hv5
 generalize r.seq=q0 at*
 generalize r.log=q1 at*
 have HLN:=zh hL
 have HSH:=zh hsh
 have HNE:=zh hn
 have HSS:=zh hshs
 have HNN:=zh hN
 clear hL hsh hn hshs hN
 generalize hnx:r.next=next at*
 generalize hsa:r.sa=sa at*
 generalize hsc:r.sc=sc at*
 generalize hxs:r.sh=xs at*
 clear hnx hsa hsc hxs
 obtain⟨W,hW⟩: ∃W:World,W=w.alloc (.cells #[.int .u64 q0, .int .u64 q1, .int .u64 next,v3,v4,v5, .slice sa n sc] (32)):=⟨_,rfl⟩
 have hB:Below w.heap.size w W:=by rw [hW];exact zb.alloc zr _
 have hx0:W.heap[w.heap.size]? =some (.cells #[.int .u64 q0, .int .u64 q1, .int .u64 next,v3,v4,v5, .slice sa n sc] (32) (0,0)):=by rw [hW];exact zq3 rfl _
 have HB:=zh hB
 have HC:Hid (∀u,Below W.heap.size W u->u.cell? ⟨w.heap.size,2,none⟩=some (.int .u64 next)/\u.cell? ⟨w.heap.size,6,none⟩=some (.slice sa n sc)):=zh (fun u hu=>by
  have h0:=zq0 (zq4 hx0 hu (zq2 hx0)) 2
  have h1:=zq0 (zq4 hx0 hu (zq2 hx0)) 6
  simp at h0 h1
  exact⟨h0,h1⟩)
 have HW:=zh hW
 have hWs:w.heap.size+1=W.heap.size:=by rw [hW];simp
 obtain⟨V,hV⟩: ∃V:World,V=W.alloc (.map #[] 0):=⟨_,rfl⟩
 have hmm:= @run_makeMap Tryz.prog
 have HV:=zh (show FSt V W.heap.size next [] /\Below W.heap.size W V from by rw [hV];exact⟨⟨⟨[],MapIs.made W,zz7.nil,zr⟩,List.nodup_nil,by simp⟩,zb.alloc zr _⟩)
 have HVV:=zh hV
 clear hB hx0 hW hV
 go_enter Tryz.func36,Tryz.ntmps36
 go_wp2_with fail
 rw [<-HW.out,<-HVV.out]
 clear HW HVV hmm o3 o4 o5
 go_loopg [14] n (fun gk iv wr=> ∃i:Nat,i+gk=n/\iv= .int .i64 i/\Hid (zve shs i)/\Hid (FSt wr W.heap.size next (zqg shs i ⟨0, []⟩ 0 [] 0))/\Hid (Below W.heap.size W wr))
 case atStart=>exact⟨0,by omega,rfl,zh (zve.zero _),zh (by rw [yxp];exact HV.out.1),zh HV.out.2⟩
 case round=>
  obtain⟨i,hi,rfl,HRI,HFS,HBW⟩:=hrel
  have HBw:=zh (HB.out.trans (HBW.out.mono HB.out.size))
  by_cases hlt:i<n
  ·have hil:i<xs.length:=by have:=HNE.out;omega
   obtain⟨b,o,hsa,hlb,hcx⟩:=HSH.out.els.get i hil
   have HSI:=zh (show shs[i]? =some xs[i].says from by rw [HSS.out,List.getElem?_map,List.getElem?_eq_getElem hil];rfl)
   have HOKS:=zh (HSH.out.ok _ (List.getElem_mem hil))
   have HLS:=zh (HLN.out _ (List.getElem_mem hil))
   obtain⟨k,hk⟩: ∃k:Nat,k=i - 1:=⟨_,rfl⟩
   obtain⟨pl,HPL,HPC⟩: ∃pl:Int,Hid (0<i-> ∃y,shs[i - 1]? =some y/\y.line=pl)/\Hid (∀u,Below w.heap.size w u->u.cell? ⟨b,o+k*4,none⟩=some (.int .u64 pl)):=by
    have hil1:i - 1<xs.length:=by omega
    obtain⟨b',o',he',_,hcy⟩:=HSH.out.els.get (i - 1) hil1
    rw [hsa] at he'
    injection he' with he'
    cases he'
    refine⟨xs[i - 1].line,zh (fun _=>⟨xs[i - 1].says,by rw [HSS.out,List.getElem?_map,List.getElem?_eq_getElem hil1];rfl,rfl⟩),zh (fun u hu=>by rw [hk];exact(hu.cell (p:=⟨b,_,none⟩) hlb).trans (hcy 0 _ rfl))⟩
   generalize xs[i] =s at HSI HOKS HLS hcx
   have g0:=(HBw.out.cell (p:=⟨b,_,none⟩) hlb).trans (hcx 0 _ rfl)
   have g1:=(HBw.out.cell (p:=⟨b,_,none⟩) hlb).trans (hcx 1 _ rfl)
   have g2:=(HBw.out.cell (p:=⟨b,_,none⟩) hlb).trans (hcx 2 _ rfl)
   have g3:=(HBw.out.cell (p:=⟨b,_,none⟩) hlb).trans (hcx 3 _ rfl)
   simp only [Nat.add_zero] at g0
   obtain⟨X,hX⟩: ∃X:World,X=wr.alloc (.cells #[.int .u64 s.line,lvV s.l0,lvV s.l1,lvV s.l2] (57)):=⟨_,rfl⟩
   have hBX:Below wr.heap.size wr X:=by rw [hX];exact zb.alloc zr _
   have hx1:X.heap[wr.heap.size]? =some (.cells #[.int .u64 s.line,lvV s.l0,lvV s.l1,lvV s.l2] (57) (0,0)):=by rw [hX];exact zq3 rfl _
   have HBX:=zh (HBw.out.trans (hBX.mono HBw.out.size))
   have HBX2:=zh (HBW.out.trans (hBX.mono HBW.out.size))
   have HFX:=zh (HFS.out.ext hBX)
   have hi0:(0:Int)<=(i:Int):=by omega
   have hi1:(i:Int)<(n:Int):=by omega
   have hwi:IntKind.i64.wrap ((i:Int)+1)=(i:Int)+1:=IntWalk.i64_in _ (by omega)
   have hwk:0<i->IntKind.i64.wrap ((i:Int) - 1)=(k:Int):=fun h=>by rw [IntWalk.i64_in _ (by omega)];omega
   have hk0:(0:Int)<=(k:Int):=by omega
   have hk1:(k:Int)<(n:Int):=by omega
   have HX:=zh hX
   have HMAY:=zh (show∀u,Below X.heap.size X u->Calls Tryz.prog (77) #[shV s] u (zvb s u)from fun u hu=>may_any s u (HOKS.out.ext (HBX.out.trans (hu.mono HBX.out.size))) HLS.out)
   have HCB:Hid (∀u,Below X.heap.size X u->u.cell? ⟨wr.heap.size,0,none⟩=some (.int .u64 s.line)/\u.cell? ⟨wr.heap.size,1,none⟩=some (lvV s.l0)/\u.cell? ⟨wr.heap.size,2,none⟩=some (lvV s.l1)/\u.cell? ⟨wr.heap.size,3,none⟩=some (lvV s.l2)):=zh (fun u hu=>by
    have e0:=zq0 (zq4 hx1 hu (zq2 hx1)) 0
    have e1:=zq0 (zq4 hx1 hu (zq2 hx1)) 1
    have e2:=zq0 (zq4 hx1 hu (zq2 hx1)) 2
    have e3:=zq0 (zq4 hx1 hu (zq2 hx1)) 3
    simp at e0 e1 e2 e3
    exact⟨e0,e1,e2,e3⟩)
   have HKP:Hid (∀u,Below X.heap.size X u->u.cell? ⟨wr.heap.size,0,none⟩=some (.int .u64 s.line)/\u.cell? ⟨wr.heap.size,1,none⟩=some (lvV s.l0)/\u.cell? ⟨wr.heap.size,2,none⟩=some (lvV s.l1)/\u.cell? ⟨wr.heap.size,3,none⟩=some (lvV s.l2)/\u.cell? ⟨w.heap.size,6,none⟩=some (.slice (some ⟨b,o,none⟩) n sc)/\u.cell? ⟨b,o+k*4,none⟩=some (.int .u64 pl)):=zh (fun u hu=>by
    obtain⟨e0,e1,e2,e3⟩:=HCB.out u hu
    have e6:=(HC.out u (HBX2.out.trans (hu.mono HBX2.out.size))).2
    rw [hsa] at e6
    exact⟨e0,e1,e2,e3,e6,HPC.out u (HBX.out.trans (hu.mono HBX.out.size))⟩)
   clear hcx hBX hk hx1 HPC
   rw [hsa]
   go_upto_region 5 with fail
   rw [<-HX.out]
   clear g0 g1 g2 g3 hX HX
   by_cases hms:MayS s.says
   case neg=>
    have HM:=zh (show∀u,Below X.heap.size X u->Calls Tryz.prog (77) #[shV s] u (fun e w'=>e= .returned (.bool false)/\Below u.heap.size u w')from fun u hu=>(HMAY.out u hu).mono fun e w' ⟨q,he,hq,hb⟩=>by
     cases q with
     |true=>exact absurd (hq.1 rfl) hms
     |false=>exact⟨he,hb⟩)
    have HF:=HOUT.out (fun h=>hms (h.may _ (List.mem_of_getElem? HSI.out)))
    clear HMAY hms
    refine Mf.shl5_A HKP HM (by rintro ch ⟨t,d⟩ ⟨t',d'⟩ w' rfl h;exact h) ?_
    intro v19 v20 v21 v22 v23 v24 v25 v26 v27 v28 v29 v30 v31 v32 v33 v34 v35 v36 wq hbu
    have HBu:=zh (HBX.out.trans (hbu.mono HBX.out.size))
    clear hbu
    go_wp2
    go_ret
    exact HF.out _ HBu.out
   have HM:=zh (show∀u,Below X.heap.size X u->Calls Tryz.prog (77) #[shV s] u (fun e w'=>e= .returned (.bool true)/\Below u.heap.size u w')from fun u hu=>(HMAY.out u hu).mono fun e w' ⟨q,he,hq,hb⟩=>by
    cases q with
    |true=>exact⟨he,hb⟩
    |false=>exact absurd (hq.2 hms) (by simp))
   have HMS:=zh hms
   clear HMAY hms
   by_cases hrise:0<i/\s.line<=pl
   case pos=>
    obtain⟨h0i,hle⟩:=hrise
    have hg:decide (s.line<=pl)=true:=decide_eq_true hle
    have di:decide ((0:Int)<(i:Int))=true:=decide_eq_true (by omega)
    have HF:=HOUT.out (fun h=>by
     obtain⟨y,hy,hyl⟩:=HPL.out h0i
     have:=h.at HSI.out h0i hy
     rw [hyl] at this
     exact absurd hle (by show¬s.line<=pl;have h3:pl<s.line:=this;omega))
    clear hle
    refine Mf.shl5_C HKP HM h0i di (hwk h0i) hk0 hk1 true hg (by rintro ch ⟨t,d⟩ ⟨t',d'⟩ w' rfl h;exact h) ?_
    intro v19 v20 v21 v22 v23 v24 v25 v26 v27 v28 v29 v30 v31 v32 v33 v34 v35 v36 wq hbu
    have HBu:=zh (HBX.out.trans (hbu.mono HBX.out.size))
    clear hbu
    go_wp2
    go_ret
    exact HF.out _ HBu.out
   have hnr:0<i->decide (s.line<=pl)=false:=fun h=>decide_eq_false (fun h2=>hrise ⟨h,h2⟩)
   have HNX:=zh (HRI.out.next HSI.out HMS.out (fun y h0 hy=>by
    obtain⟨y',hy',hyl⟩:=HPL.out h0
    rw [hy] at hy'
    cases hy'
    have h3: ¬s.line<=pl:=fun h2=>hrise ⟨h0,h2⟩
    rw [hyl]
    show pl<s.line
    omega))
   clear hrise
   refine Mf.shl5_N HKP HM hwk hk0 hk1 hnr (by rintro ch ⟨t,d⟩ ⟨t',d'⟩ w' rfl h;exact h) ?_
   intro v19 v20 v21 v22 v23 v24 v25 v26 v27 v28 v29 v30 v31 v32 v33 v34 v35 v36 wq hbu
   have HBu:=zh (HBX.out.trans (hbu.mono HBX.out.size))
   have HBV:=zh (HBX2.out.trans (hbu.mono HBX2.out.size))
   have HFU:=zh (HFX.out.ext hbu)
   obtain⟨d0,d1,d2,d3⟩:=HCB.out wq hbu
   have HCQ:Hid (∀u,Below wq.heap.size wq u->u.cell? ⟨wr.heap.size,0,none⟩=some (.int .u64 s.line)):=zh (fun u hu=>(HCB.out u (hbu.trans (hu.mono hbu.size))).1)
   clear hbu HCB HKP HM hnr hwk hk0 hk1
   have HIX:=zh (zwi (lvV s.l0) (lvV s.l1) (lvV s.l2))
   obtain⟨g9,hg9⟩: ∃g9,g9=gk:=⟨_,rfl⟩
   rw [<-hg9] at hi
   have HG9:=zh hg9
   clear hg9
   have HS3:=zh (show s.lv.length=3 from rfl)
   have HSL:=zh (show s.says.lv=s.lv.map (·.ts)from rfl)
   have HGET:=zh s.lv_get
   have HTO:=zh (show FSt wq W.heap.size next (zqg shs i s.says 0 [] 0)from by
    have:=HFU.out
    unfold zqg at this ⊢
    simpa using this)
   go_wp2_with fail
   clear d0 d1 d2 d3
   go_loopg [40] 3 (fun gk jv wr=> ∃j:Nat,j+gk=3/\jv= .int .i64 j/\Hid (FSt wr W.heap.size next (zqg shs i s.says j [] 0))/\Hid (Below w.heap.size w wr)/\Hid (Below W.heap.size W wr))
   case atStart=>exact⟨0,rfl,rfl,HTO,HBu,HBV⟩
   case round=>
    obtain⟨j,hj,rfl,HFM,HBm,HBM⟩:=hrel
    by_cases hltj:j<3
    ·have hltj':(j:Int)<3:=by omega
     obtain⟨l,hl,hv⟩:=HGET.out j hltj
     have hix:=HIX.out _ j hv
     have HL:=zh (show s.says.lv[j]? =some l.ts from by rw [HSL.out,List.getElem?_map,hl];rfl)
     have HLO:=zh (show LvOk w l from by
      have hm:=List.mem_of_getElem? hl
      simp only [Sv.lv,List.mem_cons,List.not_mem_nil,or_false] at hm
      rcases hm with rfl|rfl|rfl
      ·exact HOKS.out.l0
      ·exact HOKS.out.l1
      ·exact HOKS.out.l2)
     have HN:=zh (HLS.out l (List.mem_of_getElem? hl))
     clear hl hv
     obtain⟨m,hm⟩: ∃m,m=l.ts.length:=⟨_,rfl⟩
     have hlv:lvV l= .slice l.a m l.cap:=by rw [hm]
     rw [hlv] at hix
     have HML:=zh hm
     have hmb:m<=1000000:=by rw [hm];exact HN.out
     have hwj:IntKind.i64.wrap ((j:Int)+1)=(j:Int)+1:=IntWalk.i64_in _ (by omega)
     clear hlv hm
     go_upto_region 11 with fail
     clear hix
     obtain⟨g8,hg8⟩: ∃g8,g8=gk:=⟨_,rfl⟩
     rw [<-hg8] at hj
     have HG8:=zh hg8
     clear hg8
     have HTO2:=zh (show FSt wr W.heap.size next (zqg shs i s.says j l.ts 0)from by
      have:=HFM.out
      unfold zqg at this ⊢
      simpa using this)
     go_loopg [45] m (fun gk kv wr=> ∃k:Nat,k+gk=m/\kv= .int .i64 k/\Hid (FSt wr W.heap.size next (zqg shs i s.says j l.ts k))/\Hid (Below w.heap.size w wr)/\Hid (Below W.heap.size W wr))
     case atStart=>exact⟨0,by omega,rfl,HTO2,HBm,HBM⟩
     case round=>
      clear HTO2 HFM HBm HBM
      obtain⟨k,hk,rfl,HFK,HBk,HBK⟩:=hrel
      by_cases hltk:k<m
      ·have hkl:k<l.ts.length:=by have:=HML.out;omega
       have HTE:=zh (List.getElem?_eq_getElem hkl)
       have HTW:=zh (HLO.out.wf _ (List.getElem_mem hkl)).1
       obtain⟨tb,to_,hta,htl,hct⟩:=HLO.out.tabs.get k hkl
       generalize l.ts[k] =t at HTE HTW hct
       have g0:=(HBk.out.cell (p:=⟨tb,_,none⟩) htl).trans (hct 0 _ rfl)
       have g1:=(HBk.out.cell (p:=⟨tb,_,none⟩) htl).trans (hct 1 _ rfl)
       have g2:=(HBk.out.cell (p:=⟨tb,_,none⟩) htl).trans (hct 2 _ rfl)
       have g3:=(HBk.out.cell (p:=⟨tb,_,none⟩) htl).trans (hct 3 _ rfl)
       simp only [Nat.add_zero] at g0
       clear hct
       obtain⟨Y,hY⟩: ∃Y:World,Y=wr.alloc (.cells #[.int .u64 t.file, .int .u32 t.bytes, .string t.low, .string t.high] (51)):=⟨_,rfl⟩
       have hBY:Below wr.heap.size wr Y:=by rw [hY];exact zb.alloc zr _
       have hy1:Y.heap[wr.heap.size]? =some (.cells #[.int .u64 t.file, .int .u32 t.bytes, .string t.low, .string t.high] (51) (0,0)):=by rw [hY];exact zq3 rfl _
       obtain⟨cm,hcm,hcc,hcl⟩:=(HFK.out.ext hBY).map
       have HCC:=zh hcc
       have HCL:=zh hcl
       have hprel:=(zvk HSI.out HL.out HTE.out).length_le
       have hdl:(zqg shs i s.says j l.ts k).length<1000000:=by
        have:=HNN.out
        rw [List.length_append,List.length_singleton] at hprel
        omega
       obtain⟨c,hc⟩: ∃c:Int,c=if t.file∈zqg shs i s.says j l.ts k then 1 else 0:=⟨_,rfl⟩
       have HCV:=zh hc
       have hc01:0<=c/\c<=1:=by rw [hc];split<;>omega
       have hlk:=MapIs.lookC hcm hcc t.file HTW.out
       rw [<-hc] at hlk
       obtain⟨c1,hc1⟩: ∃c1,c1=c+1:=⟨_,rfl⟩
       obtain⟨Z,hst,hM3,hg3,hs3⟩:=MapIs.storeW hcm t.file c1 HTW.out (by omega)
       have hw2:IntKind.i64.wrap (c+1)=c1:=by rw [IntWalk.i64_in _ (by omega),hc1]
       have HC1:=zh hc1
       have hwlt:=hcm.lt
       have hWle:=HBK.out.size
       have hMlt:W.heap.size<wr.heap.size:=by
        have h1:=HFK.out.map
        obtain⟨cm',h1, -⟩:=h1
        exact h1.lt
       have hy3:Z.heap[wr.heap.size]? =some (.cells #[.int .u64 t.file, .int .u32 t.bytes, .string t.low, .string t.high] (51) (0,0)):=(hg3.block _ (zq2 hy1) (fun e=>by injection e with e;omega)).trans hy1
       have HBZ:=zh (show Below w.heap.size w Z from(HBk.out.trans (hBY.mono HBk.out.size)).grown hg3 (HBk.out.trans (hBY.mono HBk.out.size)).size (fun q e=>by injection e with e;omega))
       have HBZ2:=zh (show Below W.heap.size W Z from(HBK.out.trans (hBY.mono HBK.out.size)).grown hg3 (HBK.out.trans (hBY.mono HBK.out.size)).size (fun q e=>by injection e with e;omega))
       have HMZ:=zh hM3
       have e0:=zq0 hy3 0
       simp at e0
       have e1:=(HC.out Z HBZ2.out).1
       have k5:=(MapIs.look hM3 lawU zjo Tryz.underlying144 (zeroI Z) (Maps.keyOf_int_mk Tryz.underlying26 HTW.out)).1
       rw [zx2] at k5
       have f0:(0:Int)<=(k:Int):=by omega
       have f1:(k:Int)<(m:Int):=by omega
       have hwk:IntKind.i64.wrap ((k:Int)+1)=(k:Int)+1:=IntWalk.i64_in _ (by omega)
       have HBAD:=zh (show¬(t.file<next/\t.file∉zqg shs i s.says j l.ts k)-> ∀u,Below w.heap.size w u->zjb next xs w (.returned (.bool false)) u from fun h=>(HOUT.out (fun g=>h (g.below_filesTo HSI.out HL.out HTE.out))).out)
       have HFN:=zh (show t.file<next->t.file∉zqg shs i s.says j l.ts k->FSt Z W.heap.size next (zqg shs i s.says j l.ts (k+1))from fun h1 h2=>by
        rw [yqo HTE.out]
        have hc0:c=0:=by have:=HCV.out;rwa [if_neg h2] at this
        refine⟨⟨_,HMZ.out,?_,?_⟩,?_,?_⟩
        ·rw [HC1.out,hc0];exact HCC.out.put t.file
        ·have:=zjf cm t.file c1
         have:=HCL.out
         rw [List.length_append,List.length_singleton]
         omega
        ·rw [List.nodup_append]
         exact⟨HFK.out.nd,by simp,fun a ha b hb e=>by rw [List.mem_singleton.1 hb] at e;exact h2 (e▸ha)⟩
        ·intro f hf
         rcases List.mem_append.1 hf with hf|hf
         ·exact HFK.out.lt f hf
         ·rw [List.mem_singleton.1 hf];exact h1)
       clear hc1
       clear hcm hcc hcl hprel hdl hc hc01 hM3 hg3 hy1 hy3 hBY hs3 hwlt hWle hMlt
       rw [hY] at hlk hst
       clear hY
       rw [hta]
       by_cases hlt:next<=t.file
       ·have d1:decide (next<=t.file)=true:=decide_eq_true hlt
        have HF:=zh (HBAD.out (fun h=>by have:=h.1;omega) _ HBZ.out)
        clear hlt HFN HBAD
        go_wp2_with fail
        go_ret
        exact HF.out
       ·have d1:decide (next<=t.file)=false:=decide_eq_false hlt
        by_cases hin:t.file∈zqg shs i s.says j l.ts k
        ·have HF:=zh (HBAD.out (fun h=>h.2 hin) _ HBZ.out)
         have d2:decide ((1:Int)<c1)=true:=decide_eq_true (by have h1:=HCV.out;rw [if_pos hin] at h1;have:=HC1.out;omega)
         clear hlt hin HFN HBAD
         go_wp2_with fail
         go_ret
         exact HF.out
        ·have HF:=zh (HFN.out (by omega) hin)
         have d2:decide ((1:Int)<c1)=false:=decide_eq_false (by have h1:=HCV.out;rw [if_neg hin] at h1;have:=HC1.out;omega)
         clear hlt hin HFN HBAD
         go_wp2_with fail
         rw [<-hta]
         go_roundg(gk - 1)
         case measure=>omega
         case rel=>exact⟨k+1,by omega,by go_num,HF,HBZ,HBZ2⟩
      ·have HE:=zh (show FSt wr W.heap.size next (zqg shs i s.says (j+1) [] 0)from by
        have:=HFK.out
        rwa [yqm (l2:= []) HL.out (by have:=HML.out;omega)] at this)
       go_wp2_with fail
       go_roundg(g8 - 1)
       case measure=>have:=HG8.out;omega
       case rel=>exact⟨j+1,by omega,by go_num,HE,HBk,HBK⟩
    ·have HE:=zh (show FSt wr W.heap.size next (zqg shs (i+1) ⟨0, []⟩ 0 [] 0)from by
      have:=HFM.out
      rwa [yqn (s2:=⟨0, []⟩) (l2:= []) HSI.out (by rw [HSL.out,List.length_map,HS3.out];omega) rfl] at this)
     go_wp2_with fail
     rw [<-hsa]
     go_roundg(g9 - 1)
     case measure=>have:=HG9.out;omega
     case rel=>exact⟨i+1,by omega,by go_num,HNX,HE,HBM⟩
  ·have hin:i=n:=by omega
   have HF:=zh ((HYES.out (by
    have hl:shs.length=n:=by rw [HSS.out,List.length_map,HNE.out]
    have h1:=HRI.out
    have h2:=HFS.out
    rw [yja (by omega)] at h2
    have ht:shs.take i=shs:=List.take_of_length_le (by omega)
    exact⟨by have:=h1.may;rwa [ht] at this,by have:=h1.rise;rwa [ht] at this,h2.nd,h2.lt⟩)).out wr HBw.out)
   go_wp2_with fail
   go_ret
   exact HF.out
end Go.Proofs.YtchcelodeepjdaaGreatDoor.Ln
