/- Lemmas and walks towards ManifestsFold. Conditions: each one tells its own. -/
import Derived.Test.YtchcelodeepjdaaGreatDoorMp
import Derived.Test.YtchcelodeepjdaaGreatDoorZZU
import Derived.Test.YtchcelodeepjdaaGreatDoorZZv
import Derived.Test.YtchcelodeepjdaaGreatDoorZZs
namespace Go.Proofs.YtchcelodeepjdaaGreatDoor.Ln
open Go.RowKit Go.Shelf Go.Herb

structure RefIn (w:World)(r:Rv):Prop where
 inn:RtIn w r
 few:FewX r.says
 bs:r.bs.length<=100000
 ls:r.ls.length<=100000
 vs:Vx.Small r.says.vs
theorem RefIn.ext {w w':World}{r:Rv}(h:RefIn w r)(hb:Below w.heap.size w w'):RefIn w' r:=⟨h.inn.ext hb,h.few,h.bs,h.ls,h.vs⟩
def zzx (ok:Prop)(ys:List Int)(w:World)(e:Ending)(w':World):Prop:=Below w.heap.size w w'/\((ok/\ ∃(a:Option Addr) (n c:Nat),e= .returned (.tuple #[.slice a n c, .int .i64 0])/\n=ys.length/\Byt w' a ys)\/(¬ok/\e= .returned (.tuple #[.slice none 0 0, .int .i64 4])))
theorem zyv {r:Rv}(hf:FewX r.says): ∀s∈r.sh,∀l∈s.lv,l.ts.length<400000000:=fun s hs l hl=>by have:=(FewX.small hf).lev s hs l hl;omega
set_option maxRecDepth 100000 in
set_option maxHeartbeats 4000000 in
theorem zy0 (r:Rv)(w:World)(h:RefIn w r)(hl:GoodR r->(zqt r.says).length<390000000):
  Calls Tryz.prog (19) #[rtV r, .pointer none] w (zzx (GoodR r) (zqt r.says) w):=by
 have HLL:=zh hl
 clear hl
 obtain⟨nb,hnb⟩: ∃n,n=r.bs.length:=⟨_,rfl⟩
 obtain⟨nl,hnl⟩: ∃n,n=r.ls.length:=⟨_,rfl⟩
 obtain⟨nv,hnv⟩: ∃n,n=r.vs.length:=⟨_,rfl⟩
 obtain⟨ns,hns⟩: ∃n,n=r.sh.length:=⟨_,rfl⟩
 obtain⟨ba,hba⟩: ∃n,n=r.ba:=⟨_,rfl⟩
 obtain⟨la,hla⟩: ∃n,n=r.la:=⟨_,rfl⟩
 obtain⟨va,hva⟩: ∃n,n=r.va:=⟨_,rfl⟩
 obtain⟨sa,hsa⟩: ∃n,n=r.sa:=⟨_,rfl⟩
 have hrt:rtV r= .agg #[.int .u64 r.seq, .int .u64 r.log, .int .u64 r.next, .slice ba nb r.bc, .slice la nl r.lc, .slice va nv r.vc, .slice sa ns r.sc] :=by rw [hnb,hnl,hnv,hns,hba,hla,hva,hsa]
 have HN:=zh (show r.sh.length=ns/\sa=r.sa from⟨hns.symm,hsa⟩)
 obtain⟨W,hW⟩: ∃W:World,W=w.alloc (.cells #[.int .u64 r.seq, .int .u64 r.log, .int .u64 r.next, .slice ba nb r.bc, .slice la nl r.lc, .slice va nv r.vc, .slice sa ns r.sc] (32)):=⟨_,rfl⟩
 have hB:Below w.heap.size w W:=by rw [hW];exact zb.alloc zr _
 have hx0:W.heap[w.heap.size]? =some (.cells #[.int .u64 r.seq, .int .u64 r.log, .int .u64 r.next, .slice ba nb r.bc, .slice la nl r.lc, .slice va nv r.vc, .slice sa ns r.sc] (32) (0,0)):=by rw [hW];exact zq3 rfl _
 have HB:=zh hB
 have HW:=zh hW
 have HR:=zh h
 have HC:Hid (∀u,Below W.heap.size W u->u.cell? ⟨w.heap.size,0,none⟩=some (.int .u64 r.seq)/\u.cell? ⟨w.heap.size,1,none⟩=some (.int .u64 r.log)/\u.cell? ⟨w.heap.size,2,none⟩=some (.int .u64 r.next)/\u.cell? ⟨w.heap.size,3,none⟩=some (.slice ba nb r.bc)/\u.cell? ⟨w.heap.size,4,none⟩=some (.slice la nl r.lc)/\u.cell? ⟨w.heap.size,5,none⟩=some (.slice va nv r.vc)/\u.cell? ⟨w.heap.size,6,none⟩=some (.slice sa ns r.sc)):=zh (fun u hu=>by
  have hq:=zq4 hx0 hu (zq2 hx0)
  have q0:=zq0 hq 0
  have q1:=zq0 hq 1
  have q2:=zq0 hq 2
  have q3:=zq0 hq 3
  have q4:=zq0 hq 4
  have q5:=zq0 hq 5
  have q6:=zq0 hq 6
  simp at q0 q1 q2 q3 q4 q5 q6
  exact⟨q0,q1,q2,q3,q4,q5,q6⟩)
 have HRT:=zh hrt
 have HCK:=zh (show∀u,Below w.heap.size w u->Calls Tryz.prog (21) #[.agg #[.int .u64 r.seq, .int .u64 r.log, .int .u64 r.next, .slice ba nb r.bc, .slice la nl r.lc, .slice va nv r.vc, .slice sa ns r.sc]] u (zqy r u)from fun u hu=>by rw [<-HRT.out];exact zjr r u (h.inn.ext hu) h.few.small h.bs h.ls h.vs)
 have HHD:=zh (show GoodR r-> ∀(a:Option Addr) (n c:Nat) (ys:List Int) (u:World),Below w.heap.size w u->Byt u a ys->ys.length=n->0<n->n+(headL r.says).length<400000000->Calls Tryz.prog (48) #[.slice a n c, .agg #[.int .u64 r.seq, .int .u64 r.log, .int .u64 r.next, .slice ba nb r.bc, .slice la nl r.lc, .slice va nv r.vc, .slice sa ns r.sc]] u (zqd (ys++headL r.says) u)from fun hg a n c ys u hu h1 h2 h3 h4=>by
  rw [<-HRT.out]
  have hlr:=zkc h.inn hg h.few
  exact zvx a n c ys r u (h.inn.ext hu) h1 h2 h3 h4 (fun x hx=>(hlr.names x hx).2) (by have:=h.bs;omega) (by have:=h.ls;omega) (by have:=h.vs.len;rw [show r.says.vs.length=r.vs.length from Vx.zqk r.vs] at this;omega) (fun x hx=>by have:=h.vs.inn (x.line,x.ps) (List.mem_map_of_mem (f:=fun x:Vx.Vc=>(x.line,x.ps)) hx);simp only at this;omega))
 have HSH:=zh (show∀(a:Option Addr) (n c:Nat) (ys:List Int) (u:World),Below w.heap.size w u->Byt u a ys->n=ys.length->0<n->n+(shL r.says.sh).length<400000000->Calls Tryz.prog (47) #[.slice a n c, .slice sa ns r.sc] u (zqd (ys++shL r.says.sh) u)from fun a n c ys u hu h1 h2 h3 h4=>by
  rw [hsa]
  exact zk5 a n c ys r.sa ns r.sc r.sh u (h.inn.shs.ext hu) hns.symm h1 h2.symm h3 h4 (by have:=zj0 h.few;omega) (zyv h.few))
 rw [hrt]
 clear h hB hx0 hnb hnl hnv hns hba hla hva hsa hrt hW
 go_enter Tryz.func19,Tryz.ntmps19
 go_upto_region 1 with fail
 rw [<-HW.out]
 obtain⟨c0,c1,c2,c3,c4,c5,c6⟩:=HC.out W zb
 go_wp2_with fail
 refine(HCK.out W HB.out).mono ?_
 rintro e w1 ⟨m,rfl,hm,hb1⟩
 have HB1:=zh hb1
 clear c0 c1 c2 c3 c4 c5 c6 hb1
 rcases hm with⟨rfl,hg⟩|⟨rfl,hg⟩
 case inr=>
  have HF:=zh (show zzx (GoodR r) (zqt r.says) w (.returned (.tuple #[.slice none 0 0, .int .i64 4])) w1 from⟨HB.out.trans (HB1.out.mono HB.out.size), .inr ⟨hg,rfl⟩⟩)
  clear hg
  go_wp2_with fail
  go_ret2
  exact HF.out
 have HG:=zh hg
 clear hg
 have HL:=zh (show 1+((headL r.says).length+(shL r.says.sh).length)<390000000 from by
  have h0:=HLL.out HG.out
  have h1:(zqt r.says).length=1+((headL r.says).length+(shL r.says.sh).length):=by unfold zqt;rw [List.length_cons,List.length_append];omega
  omega)
 have HBw:=zh (show∀u,Below W.heap.size W u->Below w.heap.size w u from fun u hu=>HB.out.trans (hu.mono HB.out.size))
 have HS:=zh (show∀u,Below w1.heap.size w1 u->u.cell? ⟨w.heap.size,0,none⟩=some (.int .u64 r.seq)/\u.cell? ⟨w.heap.size,1,none⟩=some (.int .u64 r.log)/\u.cell? ⟨w.heap.size,2,none⟩=some (.int .u64 r.next)/\u.cell? ⟨w.heap.size,3,none⟩=some (.slice ba nb r.bc)/\u.cell? ⟨w.heap.size,4,none⟩=some (.slice la nl r.lc)/\u.cell? ⟨w.heap.size,5,none⟩=some (.slice va nv r.vc)/\u.cell? ⟨w.heap.size,6,none⟩=some (.slice sa ns r.sc)from fun u hu=>HC.out u (HB1.out.trans (hu.mono HB1.out.size)))
 have HDa:=zh (show Below w1.heap.size w1 (w1.alloc (.cells #[.int .u8 1] (5))).drew from(zb.alloc zr _).drew)
 have HDb:=zh (show Below w1.heap.size w1 (w1.drew.alloc (.cells #[.int .u8 1] (5)))from(zb.drew).alloc zr _)
 have HHa:=zh (HHD.out HG.out (some ⟨w1.heap.size,0,none⟩) 1 1 [1] _ (HBw.out _ (HB1.out.trans (HDa.out.mono HB1.out.size))) (zjp (zq3 (w:=w1) rfl _) rfl) rfl (by decide) (by have:=HL.out;omega))
 have HHb:=zh (HHD.out HG.out (some ⟨w1.heap.size,0,none⟩) 1 1 [1] _ (HBw.out _ (HB1.out.trans (HDb.out.mono HB1.out.size))) (zjp (zq3 (w:=w1.drew) rfl _) rfl) rfl (by decide) (by have:=HL.out;omega))
 have HSN:=zh (show∀(a:Option Addr) (n c:Nat) (u:World),Below w1.heap.size w1 u->Byt u a ([1] ++headL r.says)->n=([1] ++headL r.says).length->Calls Tryz.prog (47) #[.slice a n c, .slice sa ns r.sc] u (zqd (zqt r.says) u)from fun a n c u hu h1 h2=>by
  have h3:=HSH.out a n c ([1] ++headL r.says) u (HBw.out _ (HB1.out.trans (hu.mono HB1.out.size))) h1 h2 (by rw [h2];simp) (by rw [h2,List.length_append];have:=HL.out;simp;omega)
  exact h3)
 go_upto_region 5 with fail
 go_region_held3 (fun u=>u.cell? ⟨w.heap.size,0,none⟩=some (.int .u64 r.seq)/\u.cell? ⟨w.heap.size,1,none⟩=some (.int .u64 r.log)/\u.cell? ⟨w.heap.size,2,none⟩=some (.int .u64 r.next)/\u.cell? ⟨w.heap.size,3,none⟩=some (.slice ba nb r.bc)/\u.cell? ⟨w.heap.size,4,none⟩=some (.slice la nl r.lc)/\u.cell? ⟨w.heap.size,5,none⟩=some (.slice va nv r.vc)/\u.cell? ⟨w.heap.size,6,none⟩=some (.slice sa ns r.sc))
  (first|exact HS.out _ (by assumption)|exact HS.out _ zb|exact HS.out _ (zb.drew)|exact HS.out _ HDa.out|exact HS.out _ HDb.out)
  (first
   |(go_at_call 48;(with_reducible refine HHa.out.mono ?_);rintro e w3 ⟨a3,q3,p3,rfl,hq3,hE3,hb3⟩;have HQ3:=zh hq3;have HE3:=zh hE3;have hA:Below w1.heap.size w1 w3:=belT HDa.out hb3;clear hq3 hE3 hb3)
   |(go_at_call 48;(with_reducible refine HHb.out.mono ?_);rintro e w3 ⟨a3,q3,p3,rfl,hq3,hE3,hb3⟩;have HQ3:=zh hq3;have HE3:=zh hE3;have hA:Below w1.heap.size w1 w3:=belT HDb.out hb3;clear hq3 hE3 hb3)
   |(go_at_call 47;(with_reducible refine(HSN.out _ _ _ _ hA HE3.out HQ3.out).mono ?_);rintro e w4 ⟨a4,q4,p4,rfl,hq4,hE4,hb4⟩;have HQ4:=zh hq4;have HE4:=zh hE4;have hA2:Below w1.heap.size w1 w4:=belT hA hb4;clear hq4 hE4 hb4))
 all_goals
  have HF:=zh (show zzx (GoodR r) (zqt r.says) w (.returned (.tuple #[.slice a4 q4 p4, .int .i64 0])) w4 from⟨HBw.out _ (HB1.out.trans (hA2.mono HB1.out.size)), .inl ⟨HG.out,a4,q4,p4,rfl,HQ4.out,HE4.out⟩⟩)
  clear hA hA2
  go_wp2_with fail
  go_ret2
  exact HF.out
theorem yx0 {wr:World}{B:Nat}{v:Value}{ss:List Sv}(s:Sv)(hBw:B<=wr.heap.size)(ho:OwnSh B wr v ss)(hl:ss.length<1000000):
  ∃v' w',(Builtin.append_ #[(30),(30)] (30) #[v, .slice (some ⟨wr.heap.size,0,none⟩) 1 1]).run Tryz.prog (wr.alloc (.cells #[.int .u64 s.line,lvV s.l0,lvV s.l1,lvV s.l2] (57)))= .ok v' w'/\OwnSh B w' v' (ss++ [s])/\Below B wr w':=by
 have hb1:Below wr.heap.size wr (wr.alloc (.cells #[.int .u64 s.line,lvV s.l0,lvV s.l1,lvV s.l2] (57))):=zb.alloc zr _
 have ho2:=OwnSh.below ho hb1
 obtain⟨v',w',hrun,h2,h3⟩:=zql (enc:=shc) (30) (57) (.agg #[.int .u64 0, .slice none 0 0, .slice none 0 0, .slice none 0 0]) zqe zy8 Tryz.underlying30 ykr rfl (by decide) (wr.alloc (.cells #[.int .u64 s.line,lvV s.l0,lvV s.l1,lvV s.l2] (57))) B v ss wr.heap.size s _ ho2 (zq3 rfl _) rfl (by decide) hl (Nat.le_trans hBw hb1.size) (30)
 exact⟨v',w',hrun,h2,Below.appended (hb1.mono hBw) ho2 zr (Nat.le_trans hBw hb1.size) h3⟩
noncomputable def newV (xs was:List Sv):List Sv:=xs.filter (fun s=> !asWas (was.map Sv.says) s.says)
theorem yyh (xs was:List Sv):(newV xs was).map Sv.says=newL (xs.map Sv.says) (was.map Sv.says):=by
 unfold newV newL
 rw [List.filter_map]
 rfl
def goneR (xs was:List Sv):List Int:=(was.filter (fun s=>decide (s.line∉xs.map Sv.line))).map Sv.line
theorem goneR_eq (xs was:List Sv):goneR xs was=goneL (xs.map Sv.says) (was.map Sv.says):=by
 unfold goneR goneL
 rw [zxd,List.filter_map,List.map_map]
 rfl
theorem asWas_of {was:List Sv}(hn:(was.map Sv.line).Nodup){s t:Sv}(ht:t∈was)(hl:t.line=s.line):asWas (was.map Sv.says) s.says=true↔(t.line=s.line/\t.says.lv=s.says.lv):=by
 unfold asWas
 rw [decide_eq_true_eq]
 constructor
 ·rintro⟨x,hx,h1,h2⟩
  obtain⟨y,hy,rfl⟩:=List.mem_map.1 hx
  have e:y=t:=by
   have h3:y.line=t.line:=by
    have:y.says.line=y.line:=rfl
    have h4:s.says.line=s.line:=rfl
    omega
   rw [List.Nodup,List.pairwise_map] at hn
   rcases List.mem_iff_getElem.1 hy with⟨i,hi,ei⟩
   rcases List.mem_iff_getElem.1 ht with⟨j,hj,ej⟩
   rcases Nat.lt_trichotomy i j with h|h|h
   ·exact absurd (by rw [ei,ej];exact h3) (List.pairwise_iff_getElem.1 hn i j hi hj h)
   ·subst h;rw [<-ei,ej]
   ·exact absurd (by rw [ei,ej];exact h3.symm) (List.pairwise_iff_getElem.1 hn j i hj hi h)
  rw [<-e]
  exact⟨h1,h2⟩
 ·rintro⟨h1,h2⟩
  exact⟨t.says,List.mem_map_of_mem ht,h1,h2⟩
theorem ywg {was:List Sv}{s:Sv}(h:s.line∉was.map Sv.line):asWas (was.map Sv.says) s.says=false:=by
 unfold asWas
 rw [decide_eq_false_iff_not]
 rintro⟨x,hx,h1, -⟩
 obtain⟨y,hy,rfl⟩:=List.mem_map.1 hx
 exact h (by rw [show s.line=y.line from h1.symm];exact List.mem_map_of_mem hy)
theorem zvl {α:Type}(p:α->Bool)(l:List α)(i:Nat)(h:i<l.length):(l.take (i+1)).filter p=(l.take i).filter p++(if p l[i] then [l[i]] else []):=by
 rw [List.take_succ_eq_append_getElem h,List.filter_append]
 congr 1
 cases hp:p l[i] <;>simp [hp]
theorem belS4 {B g:Nat}{w u:World}(h:Below B w u)(hg:B<=g)(v0 v1 v2 v3:Value):Below B w ((((u.setCell ⟨g,0,none⟩ v0).setCell ⟨g,1,none⟩ v1).setCell ⟨g,2,none⟩ v2).setCell ⟨g,3,none⟩ v3):=
 Below.setCell (Below.setCell (Below.setCell (Below.setCell h (p:=⟨g,0,none⟩) hg v0) (p:=⟨g,1,none⟩) hg v1) (p:=⟨g,2,none⟩) hg v2) (p:=⟨g,3,none⟩) hg v3
theorem box4 {u:World}{g:Nat}{t:TypeId}{z0 z1 z2 z3:Value}(h:u.heap[g]? =some (.cells #[z0,z1,z2,z3] t (0,0)))(v0 v1 v2 v3:Value):((((u.setCell ⟨g,0,none⟩ v0).setCell ⟨g,1,none⟩ v1).setCell ⟨g,2,none⟩ v2).setCell ⟨g,3,none⟩ v3).heap[g]? =some (.cells #[v0,v1,v2,v3] t (0,0)):=by
 have h1:=zq7 (j:=0) h v0
 have h2:=zq7 (j:=1) h1 v1
 have h3:=zq7 (j:=2) h2 v2
 exact zq7 (j:=3) h3 v3
theorem zjw {u:World}{g:Nat}{t:TypeId}{z0 z1 z2 z3:Value}(h:u.heap[g]? =some (.cells #[z0,z1,z2,z3] t (0,0))):u.cell? ⟨g,0,none⟩=some z0/\u.cell? ⟨g,1,none⟩=some z1/\u.cell? ⟨g,2,none⟩=some z2/\u.cell? ⟨g,3,none⟩=some z3/\u.frozen? ⟨g,0,none⟩=false/\u.frozen? ⟨g,1,none⟩=false/\u.frozen? ⟨g,2,none⟩=false/\u.frozen? ⟨g,3,none⟩=false:=by
 have q0:=zq0 h 0
 have q1:=zq0 h 1
 have q2:=zq0 h 2
 have q3:=zq0 h 3
 simp at q0 q1 q2 q3
 exact⟨q0,q1,q2,q3,zq1 h 0,zq1 h 1,zq1 h 2,zq1 h 3⟩
set_option maxRecDepth 100000 in
set_option maxHeartbeats 4000000 in
theorem zyh (r q:Rv)(rb:Nat)(w:World)(h:RefIn w r)(hq:RefIn w q)(hbox: ∃f,w.heap[rb]? =some (.cells #[.int .u64 q.seq, .int .u64 q.log, .int .u64 q.next, .slice q.ba q.bs.length q.bc, .slice q.la q.ls.length q.lc, .slice q.va q.vs.length q.vc, .slice q.sa q.sh.length q.sc] (32) f))(hl:GoodR r->GoodR q->(editL r.says q.says).length<390000000):
  Calls Tryz.prog (19) #[rtV r, .pointer (some ⟨rb,0,none⟩)] w (zzx (GoodR r/\GoodR q) (editL r.says q.says) w):=by
 have HL:=zh hl
 obtain⟨mb,hmb⟩: ∃n,n=q.bs.length:=⟨_,rfl⟩
 obtain⟨ml,hml⟩: ∃n,n=q.ls.length:=⟨_,rfl⟩
 obtain⟨mv,hmv⟩: ∃n,n=q.vs.length:=⟨_,rfl⟩
 obtain⟨ms,hms⟩: ∃n,n=q.sh.length:=⟨_,rfl⟩
 have hqt:rtV q= .agg #[.int .u64 q.seq, .int .u64 q.log, .int .u64 q.next, .slice q.ba mb q.bc, .slice q.la ml q.lc, .slice q.va mv q.vc, .slice q.sa ms q.sc] :=by rw [hmb,hml,hmv,hms]
 rw [<-hmb,<-hml,<-hmv,<-hms] at hbox
 obtain⟨qa,hqa⟩: ∃n,n=q.sa:=⟨_,rfl⟩
 rw [<-hqa] at hbox hqt
 obtain⟨fb,hxb⟩:=hbox
 have HQC:=zh (show∀u,Below w.heap.size w u->u.cell? ⟨rb,0,none⟩=some (.int .u64 q.seq)/\u.cell? ⟨rb,1,none⟩=some (.int .u64 q.log)/\u.cell? ⟨rb,2,none⟩=some (.int .u64 q.next)/\u.cell? ⟨rb,3,none⟩=some (.slice q.ba mb q.bc)/\u.cell? ⟨rb,4,none⟩=some (.slice q.la ml q.lc)/\u.cell? ⟨rb,5,none⟩=some (.slice q.va mv q.vc)/\u.cell? ⟨rb,6,none⟩=some (.slice qa ms q.sc)from fun u hu=>by
  have hb:=zq4 hxb hu (zq2 hxb)
  have q0:=zq0 hb 0
  have q1:=zq0 hb 1
  have q2:=zq0 hb 2
  have q3:=zq0 hb 3
  have q4:=zq0 hb 4
  have q5:=zq0 hb 5
  have q6:=zq0 hb 6
  simp at q0 q1 q2 q3 q4 q5 q6
  exact⟨q0,q1,q2,q3,q4,q5,q6⟩)
 have HQ:=zh hq
 have HQN:=zh (show q.sh.length=ms/\qa=q.sa/\ms<1000000 from⟨hms.symm,hqa,by rw [hms];exact zj0 hq.few⟩)
 have HCQ:=zh (show∀u,Below w.heap.size w u->Calls Tryz.prog (21) #[.agg #[.int .u64 q.seq, .int .u64 q.log, .int .u64 q.next, .slice q.ba mb q.bc, .slice q.la ml q.lc, .slice q.va mv q.vc, .slice qa ms q.sc]] u (zqy q u)from fun u hu=>by rw [<-hqt];exact zjr q u (hq.inn.ext hu) hq.few.small hq.bs hq.ls hq.vs)
 clear hl hxb hq hqt hmb hml hmv hms hqa
 obtain⟨nb,hnb⟩: ∃n,n=r.bs.length:=⟨_,rfl⟩
 obtain⟨nl,hnl⟩: ∃n,n=r.ls.length:=⟨_,rfl⟩
 obtain⟨nv,hnv⟩: ∃n,n=r.vs.length:=⟨_,rfl⟩
 obtain⟨ns,hns⟩: ∃n,n=r.sh.length:=⟨_,rfl⟩
 obtain⟨ba,hba⟩: ∃n,n=r.ba:=⟨_,rfl⟩
 obtain⟨la,hla⟩: ∃n,n=r.la:=⟨_,rfl⟩
 obtain⟨va,hva⟩: ∃n,n=r.va:=⟨_,rfl⟩
 obtain⟨sa,hsa⟩: ∃n,n=r.sa:=⟨_,rfl⟩
 have hrt:rtV r= .agg #[.int .u64 r.seq, .int .u64 r.log, .int .u64 r.next, .slice ba nb r.bc, .slice la nl r.lc, .slice va nv r.vc, .slice sa ns r.sc] :=by rw [hnb,hnl,hnv,hns,hba,hla,hva,hsa]
 have HN:=zh (show r.sh.length=ns/\sa=r.sa from⟨hns.symm,hsa⟩)
 obtain⟨W,hW⟩: ∃W:World,W=w.alloc (.cells #[.int .u64 r.seq, .int .u64 r.log, .int .u64 r.next, .slice ba nb r.bc, .slice la nl r.lc, .slice va nv r.vc, .slice sa ns r.sc] (32)):=⟨_,rfl⟩
 have hB:Below w.heap.size w W:=by rw [hW];exact zb.alloc zr _
 have hx0:W.heap[w.heap.size]? =some (.cells #[.int .u64 r.seq, .int .u64 r.log, .int .u64 r.next, .slice ba nb r.bc, .slice la nl r.lc, .slice va nv r.vc, .slice sa ns r.sc] (32) (0,0)):=by rw [hW];exact zq3 rfl _
 have HB:=zh hB
 have HW:=zh hW
 have HR:=zh h
 have HC:Hid (∀u,Below W.heap.size W u->u.cell? ⟨w.heap.size,0,none⟩=some (.int .u64 r.seq)/\u.cell? ⟨w.heap.size,1,none⟩=some (.int .u64 r.log)/\u.cell? ⟨w.heap.size,2,none⟩=some (.int .u64 r.next)/\u.cell? ⟨w.heap.size,3,none⟩=some (.slice ba nb r.bc)/\u.cell? ⟨w.heap.size,4,none⟩=some (.slice la nl r.lc)/\u.cell? ⟨w.heap.size,5,none⟩=some (.slice va nv r.vc)/\u.cell? ⟨w.heap.size,6,none⟩=some (.slice sa ns r.sc)):=zh (fun u hu=>by
  have hq:=zq4 hx0 hu (zq2 hx0)
  have q0:=zq0 hq 0
  have q1:=zq0 hq 1
  have q2:=zq0 hq 2
  have q3:=zq0 hq 3
  have q4:=zq0 hq 4
  have q5:=zq0 hq 5
  have q6:=zq0 hq 6
  simp at q0 q1 q2 q3 q4 q5 q6
  exact⟨q0,q1,q2,q3,q4,q5,q6⟩)
 have HRT:=zh hrt
 have HCK:=zh (show∀u,Below w.heap.size w u->Calls Tryz.prog (21) #[.agg #[.int .u64 r.seq, .int .u64 r.log, .int .u64 r.next, .slice ba nb r.bc, .slice la nl r.lc, .slice va nv r.vc, .slice sa ns r.sc]] u (zqy r u)from fun u hu=>by rw [<-HRT.out];exact zjr r u (h.inn.ext hu) h.few.small h.bs h.ls h.vs)
 have HHD:=zh (show GoodR r-> ∀(a:Option Addr) (n c:Nat) (ys:List Int) (u:World),Below w.heap.size w u->Byt u a ys->ys.length=n->0<n->n+(headL r.says).length<400000000->Calls Tryz.prog (48) #[.slice a n c, .agg #[.int .u64 r.seq, .int .u64 r.log, .int .u64 r.next, .slice ba nb r.bc, .slice la nl r.lc, .slice va nv r.vc, .slice sa ns r.sc]] u (zqd (ys++headL r.says) u)from fun hg a n c ys u hu h1 h2 h3 h4=>by
  rw [<-HRT.out]
  have hlr:=zkc h.inn hg h.few
  exact zvx a n c ys r u (h.inn.ext hu) h1 h2 h3 h4 (fun x hx=>(hlr.names x hx).2) (by have:=h.bs;omega) (by have:=h.ls;omega) (by have:=h.vs.len;rw [show r.says.vs.length=r.vs.length from Vx.zqk r.vs] at this;omega) (fun x hx=>by have:=h.vs.inn (x.line,x.ps) (List.mem_map_of_mem (f:=fun x:Vx.Vc=>(x.line,x.ps)) hx);simp only at this;omega))
 have HNS:=zh (show ns<1000000 from by rw [hns];exact zj0 h.few)
 have HOR:=zh (show∀(line:Int) (u:World),Below w.heap.size w u->Calls Tryz.prog (49) #[.slice sa ns r.sc, .int .u64 line] u (yqc r.sh line u)from fun line u hu=>by rw [hsa];exact zvy r.sa r.sc ns r.sh line u (h.inn.shs.ext hu) hns.symm (by have:=zj0 h.few;omega))
 have HOQ:=zh (show∀(line:Int) (u:World),Below w.heap.size w u->Calls Tryz.prog (49) #[.slice qa ms q.sc, .int .u64 line] u (yqc q.sh line u)from fun line u hu=>by rw [HQN.out.2.1];exact zvy q.sa q.sc ms q.sh line u (HQ.out.inn.shs.ext hu) HQN.out.1 (by have:=HQN.out.2.2;omega))
 rw [hrt]
 clear h hB hx0 hnb hnl hnv hns hba hla hva hsa hrt hW
 go_enter Tryz.func19,Tryz.ntmps19
 go_upto_region 1 with fail
 rw [<-HW.out]
 obtain⟨c0,c1,c2,c3,c4,c5,c6⟩:=HC.out W zb
 go_wp2_with fail
 refine(HCK.out W HB.out).mono ?_
 rintro e w1 ⟨m,rfl,hm,hb1⟩
 have HB1:=zh hb1
 clear c0 c1 c2 c3 c4 c5 c6 hb1
 have HBw:=zh (show∀u,Below W.heap.size W u->Below w.heap.size w u from fun u hu=>HB.out.trans (hu.mono HB.out.size))
 rcases hm with⟨rfl,hg⟩|⟨rfl,hg⟩
 case inr=>
  have HF:=zh (show zzx (GoodR r/\GoodR q) (editL r.says q.says) w (.returned (.tuple #[.slice none 0 0, .int .i64 4])) w1 from⟨HBw.out _ HB1.out, .inr ⟨fun h=>hg h.1,rfl⟩⟩)
  clear hg
  go_wp2_with fail
  go_ret2
  exact HF.out
 have HG:=zh hg
 clear hg
 obtain⟨c0,c1,c2,c3,c4,c5,c6⟩:=HQC.out w1 (HBw.out _ HB1.out)
 go_wp2_with fail
 refine(HCQ.out w1 (HBw.out _ HB1.out)).mono ?_
 rintro e w2 ⟨m,rfl,hm,hb2⟩
 have HB2:=zh (HB1.out.trans (hb2.mono HB1.out.size))
 clear c0 c1 c2 c3 c4 c5 c6 hb2
 rcases hm with⟨rfl,hg⟩|⟨rfl,hg⟩
 case inr=>
  have HF:=zh (show zzx (GoodR r/\GoodR q) (editL r.says q.says) w (.returned (.tuple #[.slice none 0 0, .int .i64 4])) w2 from⟨HBw.out _ HB2.out, .inr ⟨fun h=>hg h.2,rfl⟩⟩)
  clear hg
  go_wp2_with fail
  go_ret2
  exact HF.out
 have HGQ:=zh hg
 have HQL:=zh (zw7 hg)
 clear hg
 go_upto_region 11 with fail
 go_loopg [8,7] ms (fun gk iv v7 wr=> ∃(i:Nat) (a:Option Addr) (n c:Nat),i+gk=ms/\iv= .int .i64 i/\v7= .slice a n c/\Hid (Vx.OwnU W.heap.size wr (.slice a n c) (goneR r.sh (q.sh.take i)))/\Hid (Below W.heap.size W wr))
 case atStart=>exact⟨0,none,0,0,by omega,rfl,rfl,zh (World.ownsRow_nil _ _ _ _),HB2⟩
 case round=>
  obtain⟨i,a,n,c,hi,rfl,rfl,HO,HBi⟩:=hrel
  obtain⟨-, -, -, -, -, -,c6⟩:=HQC.out wr (HBw.out _ HBi.out)
  by_cases hlt:i<ms
  case pos=>
   have hil:i<q.sh.length:=by have:=HQN.out;omega
   obtain⟨b,o,hqa,hlb,hcx⟩:=HQ.out.inn.shs.els.get i hil
   have HFS:=zh (zvl (fun s:Sv=>decide (s.line∉r.sh.map Sv.line)) q.sh i hil)
   have HUL:=zh (HQ.out.inn.shs.ok _ (List.getElem_mem hil)).wf
   generalize q.sh[i] =s at hcx HFS HUL
   have HSC:=zh (show∀u,Below w.heap.size w u->u.cell? ⟨b,o+i*4,none⟩=some (.int .u64 s.line)from fun u hu=>(hu.cell (p:=⟨b,o+i*4,none⟩) hlb).trans (hcx 0 _ rfl))
   have i0:(0:Int)<=(i:Int):=by omega
   have i1:(i:Int)<(ms:Int):=by omega
   have HW1:=zh (show IntKind.i64.wrap ((i:Int)+1)=(i:Int)+1 from IntWalk.i64_in _ (by have:=HQN.out;omega))
   have hqa:=HQN.out.2.1.trans hqa
   subst hqa
   have HGL:=zh (show(goneR r.sh (q.sh.take i)).length<1000000 from by
    unfold goneR
    rw [List.length_map]
    have h1:=List.length_filter_le (fun s:Sv=>decide (s.line∉r.sh.map Sv.line)) (q.sh.take i)
    rw [List.length_take] at h1
    have:=HQN.out
    omega)
   have HS:=zh (show∀u,Below wr.heap.size wr u->u.cell? ⟨w.heap.size,6,none⟩=some (.slice sa ns r.sc)/\u.cell? ⟨rb,6,none⟩=some (.slice (some ⟨b,o,none⟩) ms q.sc)/\u.cell? ⟨b,o+i*4,none⟩=some (.int .u64 s.line)from fun u hu=>by
    have h1:=HBi.out.trans (hu.mono HBi.out.size)
    exact⟨(HC.out u h1).2.2.2.2.2.2,(HQC.out u (HBw.out _ h1)).2.2.2.2.2.2,HSC.out u (HBw.out _ h1)⟩)
   have HD:=zh (show Below wr.heap.size wr wr.drew from zb.drew)
   have HOFX:=zh HOR.out
   clear hcx
   by_cases hm:s.line∈r.sh.map Sv.line
   ·have HO2:=zh (show goneR r.sh (q.sh.take (i+1))=goneR r.sh (q.sh.take i)from by unfold goneR;rw [HFS.out];simp [hm])
    have HOFG:=zh (show∀u,Below wr.heap.size wr u->Calls Tryz.prog (49) #[.slice sa ns r.sc, .int .u64 s.line] u (fun e w'=> ∃t:Sv,t∈r.sh/\t.line=s.line/\e= .returned (.tuple #[.agg #[.int .u64 t.line,lvV t.l0,lvV t.l1,lvV t.l2], .bool true])/\Below u.heap.size u w')from fun u hu=>(HOR.out s.line u (HBw.out _ (HBi.out.trans (hu.mono HBi.out.size)))).mono (fun e w' ⟨hb,hc⟩=>by
      rcases hc with⟨t,h1,h2,h3⟩|⟨h3,_⟩
      ·exact⟨t,h1,h2,h3,hb⟩
      ·exact absurd hm h3))
    have HDz:=zh (show Below wr.heap.size wr (wr.alloc (.cells #[.int .u64 0, .slice none 0 0, .slice none 0 0, .slice none 0 0] (57))).drew from(zb.alloc zr _).drew)
    have HOFa:=zh (HOFG.out wr.drew HD.out)
    have HOFb:=zh (HOFG.out (wr.alloc (.cells #[.int .u64 0, .slice none 0 0, .slice none 0 0, .slice none 0 0] (57))).drew HDz.out)
    go_upto_region 13 with fail
    clear c6
    go_cut [9,10] (fun v9 v10 wx=> ∃(X:World) (xb:Nat) (t:Sv),X=wx/\v9= .pointer (some ⟨xb,0,none⟩)/\v10= .bool true/\Hid (t∈r.sh/\t.line=s.line)/\Hid (Below wr.heap.size wr X)/\Hid (X.heap[xb]? =some (.cells #[.int .u64 t.line,lvV t.l0,lvV t.l1,lvV t.l2] (57) (0,0))))
    case first=>
     go_region_held3 (fun u=>u.cell? ⟨w.heap.size,6,none⟩=some (.slice sa ns r.sc)/\u.cell? ⟨rb,6,none⟩=some (.slice (some ⟨b,o,none⟩) ms q.sc)/\u.cell? ⟨b,o+i*4,none⟩=some (.int .u64 s.line))
      (first|exact HS.out _ (by assumption)|exact HS.out _ HD.out|exact HS.out _ HDz.out|exact HS.out _ (hA.alloc hA.size _)|exact HS.out _ (belS4 hA zr _ _ _ _)|exact HS.out _ zb)
      (first
       |(go_at_call 49;(with_reducible refine HOFa.out.mono ?_);rintro e w3 ⟨t,ht1,ht2,rfl,hb3⟩;have HMEM:=zh (And.intro ht1 ht2);clear ht1 ht2;have hA:Below wr.heap.size wr w3:=belT HD.out hb3;clear hb3)
       |(go_at_call 49;(with_reducible refine HOFb.out.mono ?_);rintro e w3 ⟨t,ht1,ht2,rfl,hb3⟩;have HMEM:=zh (And.intro ht1 ht2);clear ht1 ht2;have hk2:w3.heap[wr.heap.size]? =some (.cells #[.int .u64 0, .slice none 0 0, .slice none 0 0, .slice none 0 0] (57) (0,0)):=zq4 (w:=(wr.alloc (.cells #[.int .u64 0, .slice none 0 0, .slice none 0 0, .slice none 0 0] (57))).drew) (zq3 (w:=wr) rfl _) hb3 (by simp);have hA:Below wr.heap.size wr w3:=belT HDz.out hb3;obtain⟨k0,k1,k2,k3,f0,f1,f2,f3⟩:=zjw hk2;clear hb3))
     all_goals
      go_wp2_with fail
      go_meet
      first
       |exact⟨_,_,t,rfl,rfl,rfl,HMEM,zh (hA.alloc hA.size _),zh (zq3 rfl _)⟩
       |exact⟨_,_,t,rfl,rfl,rfl,HMEM,zh (belS4 hA zr _ _ _ _),zh (box4 hk2 _ _ _ _)⟩
    case rest=>
     obtain⟨X,xb,t,rfl,rfl,rfl,HMEM,HAX0,HXB⟩:=hcut
     clear HOFG HDz HOFa HOFb
     have HON:=zh (show Vx.OwnU W.heap.size X (.slice a n c) (goneR r.sh (q.sh.take (i+1)))from by rw [HO2.out];exact ownsRow_below HO.out HAX0.out zr)
     have HBN:=zh (HBi.out.trans (HAX0.out.mono HBi.out.size))
     have hw1:=HW1.out
     clear hm HMEM
     go_wp2_with fail
     go_roundg(gk - 1)
     case measure=>omega
     case rel=>exact⟨i+1,a,n,c,by omega,by go_num,rfl,HON,HBN⟩
   ·have HO2:=zh (show goneR r.sh (q.sh.take (i+1))=goneR r.sh (q.sh.take i)++ [s.line] from by unfold goneR;rw [HFS.out];simp [hm])
    have HOFG:=zh (show∀u,Below wr.heap.size wr u->Calls Tryz.prog (49) #[.slice sa ns r.sc, .int .u64 s.line] u (fun e w'=>e= .returned (.tuple #[.agg #[.int .u64 0, .slice none 0 0, .slice none 0 0, .slice none 0 0], .bool false])/\Below u.heap.size u w')from fun u hu=>(HOR.out s.line u (HBw.out _ (HBi.out.trans (hu.mono HBi.out.size)))).mono (fun e w' ⟨hb,hc⟩=>by
      rcases hc with⟨t,h1,h2,_⟩|⟨_,h3⟩
      ·exact absurd (by rw [<-h2];exact List.mem_map_of_mem h1) hm
      ·exact⟨h3,hb⟩))
    have HDz:=zh (show Below wr.heap.size wr (wr.alloc (.cells #[.int .u64 0, .slice none 0 0, .slice none 0 0, .slice none 0 0] (57))).drew from(zb.alloc zr _).drew)
    have HOFa:=zh (HOFG.out wr.drew HD.out)
    have HOFb:=zh (HOFG.out (wr.alloc (.cells #[.int .u64 0, .slice none 0 0, .slice none 0 0, .slice none 0 0] (57))).drew HDz.out)
    go_upto_region 13 with fail
    clear c6
    go_cut [9,10] (fun v9 v10 wx=> ∃(X:World) (xb:Nat),X=wx/\v9= .pointer (some ⟨xb,0,none⟩)/\v10= .bool false/\Hid (Below wr.heap.size wr X)/\Hid (X.heap[xb]? =some (.cells #[.int .u64 0, .slice none 0 0, .slice none 0 0, .slice none 0 0] (57) (0,0))))
    case first=>
     go_region_held3 (fun u=>u.cell? ⟨w.heap.size,6,none⟩=some (.slice sa ns r.sc)/\u.cell? ⟨rb,6,none⟩=some (.slice (some ⟨b,o,none⟩) ms q.sc)/\u.cell? ⟨b,o+i*4,none⟩=some (.int .u64 s.line))
      (first|exact HS.out _ (by assumption)|exact HS.out _ HD.out|exact HS.out _ HDz.out|exact HS.out _ (hA.alloc hA.size _)|exact HS.out _ (belS4 hA zr _ _ _ _)|exact HS.out _ zb)
      (first
       |(go_at_call 49;(with_reducible refine HOFa.out.mono ?_);rintro e w3 ⟨rfl,hb3⟩;have hA:Below wr.heap.size wr w3:=belT HD.out hb3;clear hb3)
       |(go_at_call 49;(with_reducible refine HOFb.out.mono ?_);rintro e w3 ⟨rfl,hb3⟩;have hk2:w3.heap[wr.heap.size]? =some (.cells #[.int .u64 0, .slice none 0 0, .slice none 0 0, .slice none 0 0] (57) (0,0)):=zq4 (w:=(wr.alloc (.cells #[.int .u64 0, .slice none 0 0, .slice none 0 0, .slice none 0 0] (57))).drew) (zq3 (w:=wr) rfl _) hb3 (by simp);have hA:Below wr.heap.size wr w3:=belT HDz.out hb3;obtain⟨k0,k1,k2,k3,f0,f1,f2,f3⟩:=zjw hk2;clear hb3))
     all_goals
      go_wp2_with fail
      go_meet
      first
       |exact⟨_,_,rfl,rfl,rfl,zh (hA.alloc hA.size _),zh (zq3 rfl _)⟩
       |exact⟨_,_,rfl,rfl,rfl,zh (belS4 hA zr _ _ _ _),zh (box4 hk2 _ _ _ _)⟩
    case rest=>
     obtain⟨X,xb,rfl,rfl,rfl,HAX0,HXB⟩:=hcut
     clear HOFG HDz HOFa HOFb
     obtain⟨-,c6,g0⟩:=HS.out X HAX0.out
     obtain⟨v',w',hr,ho',hb'⟩:=yjp s.line (Nat.le_trans HBi.out.size HAX0.out.size) (ownsRow_below HO.out HAX0.out zr) HGL.out
     have HON:=zh (show Vx.OwnU W.heap.size w' v' (goneR r.sh (q.sh.take (i+1)))from by rw [HO2.out];exact ho')
     have HBN:=zh ((HBi.out.trans (HAX0.out.mono HBi.out.size)).trans hb')
     obtain⟨a',c',hv', -, -⟩:=zq6 Vx.zz5 HON.out
     obtain⟨n',hn'⟩: ∃n',n'=(goneR r.sh (q.sh.take (i+1))).length:=⟨_,rfl⟩
     rw [<-hn'] at hv'
     subst hv'
     have hw1:=HW1.out
     clear ho' hb' hn' hm
     go_wp2_with(at_builtin;refine Lib.wpList_append_run _ rfl _ _ _ _ rfl _ _ rfl rfl _ _ hr ?_)
     go_roundg(gk - 1)
     case measure=>omega
     case rel=>exact⟨i+1,a',n',c',by omega,by go_num,rfl,HON,HBN⟩
  have i1: ¬(i:Int)<(ms:Int):=by omega
  have HGO:=zh (show Vx.OwnU W.heap.size wr (.slice a n c) (goneR r.sh q.sh)from by have:=HO.out;rwa [List.take_of_length_le (by have:=HQN.out;omega)] at this)
  have hcr:wr.cell? ⟨w.heap.size,6,none⟩=some (.slice sa ns r.sc):=(HC.out wr HBi.out).2.2.2.2.2.2
  clear HO hlt hi
  go_upto_region 18 with fail
  clear c6 i1 hcr
  obtain⟨wo,hwo⟩: ∃x:World,x=wr:=⟨_,rfl⟩
  subst hwo
  obtain⟨gs,hgs⟩: ∃l,l=goneR r.sh q.sh:=⟨_,rfl⟩
  rw [<-hgs] at HGO
  have HGS:=zh hgs
  clear hgs
  go_loopg [12,11] ns (fun gk iv v11 wr=> ∃(i:Nat) (a2:Option Addr) (n2 c2:Nat),i+gk=ns/\iv= .int .i64 i/\v11= .slice a2 n2 c2/\Hid (OwnSh wo.heap.size wr (.slice a2 n2 c2) (newV (r.sh.take i) q.sh))/\Hid (Below wo.heap.size wo wr))
  case atStart=>exact⟨0,none,0,0,by omega,rfl,rfl,zh (World.ownsRow_nil _ _ _ _),zh zb⟩
  case round=>
   obtain⟨i,a2,n2,c2,hi,rfl,rfl,HO,HBk⟩:=hrel
   have HWk:=zh (HBi.out.trans (HBk.out.mono HBi.out.size))
   have c6:wr.cell? ⟨w.heap.size,6,none⟩=some (.slice sa ns r.sc):=(HC.out wr HWk.out).2.2.2.2.2.2
   by_cases hlt:i<ns
   case pos=>
    have hil:i<r.sh.length:=by have:=HN.out;omega
    obtain⟨b,o,hsa,hlb,hcx⟩:=HR.out.inn.shs.els.get i hil
    have HFS:=zh (zvl (fun s:Sv=> !asWas (q.sh.map Sv.says) s.says) r.sh i hil)
    have HOK:=zh (HR.out.inn.shs.ok _ (List.getElem_mem hil))
    generalize r.sh[i] =s at hcx HFS HOK
    have HSC:=zh (show∀u,Below w.heap.size w u->u.cell? ⟨b,o+i*4,none⟩=some (.int .u64 s.line)/\u.cell? ⟨b,o+i*4+1,none⟩=some (lvV s.l0)/\u.cell? ⟨b,o+i*4+2,none⟩=some (lvV s.l1)/\u.cell? ⟨b,o+i*4+3,none⟩=some (lvV s.l2)from fun u hu=>⟨(hu.cell (p:=⟨b,o+i*4,none⟩) hlb).trans (hcx 0 _ rfl),(hu.cell (p:=⟨b,o+i*4+1,none⟩) hlb).trans (hcx 1 _ rfl),(hu.cell (p:=⟨b,o+i*4+2,none⟩) hlb).trans (hcx 2 _ rfl),(hu.cell (p:=⟨b,o+i*4+3,none⟩) hlb).trans (hcx 3 _ rfl)⟩)
    have i0:(0:Int)<=(i:Int):=by omega
    have i1:(i:Int)<(ns:Int):=by omega
    have HW1:=zh (show IntKind.i64.wrap ((i:Int)+1)=(i:Int)+1 from IntWalk.i64_in _ (by have:=HNS.out;omega))
    have hsa:=HN.out.2.trans hsa
    subst hsa
    have HOL:=zh (show(newV (r.sh.take i) q.sh).length<1000000 from by
     unfold newV
     have h1:=List.length_filter_le (fun s:Sv=> !asWas (q.sh.map Sv.says) s.says) (r.sh.take i)
     rw [List.length_take] at h1
     have:=HNS.out
     omega)
    have HWW:=zh (show∀u,Below wr.heap.size wr u->Below W.heap.size W u from fun u hu=>HWk.out.trans (hu.mono HWk.out.size))
    have HS:=zh (show∀u,Below wr.heap.size wr u->u.cell? ⟨w.heap.size,6,none⟩=some (.slice (some ⟨b,o,none⟩) ns r.sc)/\u.cell? ⟨rb,6,none⟩=some (.slice qa ms q.sc)/\u.cell? ⟨b,o+i*4,none⟩=some (.int .u64 s.line)from fun u hu=>⟨(HC.out u (HWW.out u hu)).2.2.2.2.2.2,(HQC.out u (HBw.out _ (HWW.out u hu))).2.2.2.2.2.2,(HSC.out u (HBw.out _ (HWW.out u hu))).1⟩)
    have HS0:=zh (show∀u,Below wr.heap.size wr u->u.cell? ⟨w.heap.size,6,none⟩=some (.slice (some ⟨b,o,none⟩) ns r.sc)/\u.cell? ⟨b,o+i*4,none⟩=some (.int .u64 s.line)/\u.cell? ⟨b,o+i*4+1,none⟩=some (lvV s.l0)/\u.cell? ⟨b,o+i*4+2,none⟩=some (lvV s.l1)/\u.cell? ⟨b,o+i*4+3,none⟩=some (lvV s.l2)from fun u hu=>⟨(HC.out u (HWW.out u hu)).2.2.2.2.2.2,HSC.out u (HBw.out _ (HWW.out u hu))⟩)
    have HD:=zh (show Below wr.heap.size wr wr.drew from zb.drew)
    clear hcx
    by_cases hm:s.line∈q.sh.map Sv.line
    ·have HYY:=zh hm
     have HOFG:=zh (show∀u,Below wr.heap.size wr u->Calls Tryz.prog (49) #[.slice qa ms q.sc, .int .u64 s.line] u (fun e w'=> ∃t:Sv,t∈q.sh/\t.line=s.line/\e= .returned (.tuple #[.agg #[.int .u64 t.line,lvV t.l0,lvV t.l1,lvV t.l2], .bool true])/\Below u.heap.size u w')from fun u hu=>(HOQ.out s.line u (HBw.out _ (HWW.out _ hu))).mono (fun e w' ⟨hb,hc⟩=>by
       rcases hc with⟨t,h1,h2,h3⟩|⟨h3,_⟩
       ·exact⟨t,h1,h2,h3,hb⟩
       ·exact absurd hm h3))
     have HDz:=zh (show Below wr.heap.size wr (wr.alloc (.cells #[.int .u64 0, .slice none 0 0, .slice none 0 0, .slice none 0 0] (57))).drew from(zb.alloc zr _).drew)
     have HOFa:=zh (HOFG.out wr.drew HD.out)
     have HOFb:=zh (HOFG.out (wr.alloc (.cells #[.int .u64 0, .slice none 0 0, .slice none 0 0, .slice none 0 0] (57))).drew HDz.out)
     go_upto_region 20 with fail
     clear c6
     go_cut [13,14] (fun v9 v10 wx=> ∃(X:World) (xb:Nat) (t:Sv),X=wx/\v9= .pointer (some ⟨xb,0,none⟩)/\v10= .bool true/\Hid (t∈q.sh/\t.line=s.line)/\Hid (Below wr.heap.size wr X)/\Hid (X.heap[xb]? =some (.cells #[.int .u64 t.line,lvV t.l0,lvV t.l1,lvV t.l2] (57) (0,0))))
     case first=>
      go_region_held3 (fun u=>u.cell? ⟨w.heap.size,6,none⟩=some (.slice (some ⟨b,o,none⟩) ns r.sc)/\u.cell? ⟨rb,6,none⟩=some (.slice qa ms q.sc)/\u.cell? ⟨b,o+i*4,none⟩=some (.int .u64 s.line))
       (first|exact HS.out _ (by assumption)|exact HS.out _ HD.out|exact HS.out _ HDz.out|exact HS.out _ (hA.alloc hA.size _)|exact HS.out _ (belS4 hA zr _ _ _ _)|exact HS.out _ zb)
       (first
        |(go_at_call 49;(with_reducible refine HOFa.out.mono ?_);rintro e w3 ⟨t,ht1,ht2,rfl,hb3⟩;have HMEM:=zh (And.intro ht1 ht2);clear ht1 ht2;have hA:Below wr.heap.size wr w3:=belT HD.out hb3;clear hb3)
        |(go_at_call 49;(with_reducible refine HOFb.out.mono ?_);rintro e w3 ⟨t,ht1,ht2,rfl,hb3⟩;have HMEM:=zh (And.intro ht1 ht2);clear ht1 ht2;have hk2:w3.heap[wr.heap.size]? =some (.cells #[.int .u64 0, .slice none 0 0, .slice none 0 0, .slice none 0 0] (57) (0,0)):=zq4 (w:=(wr.alloc (.cells #[.int .u64 0, .slice none 0 0, .slice none 0 0, .slice none 0 0] (57))).drew) (zq3 (w:=wr) rfl _) hb3 (by simp);have hA:Below wr.heap.size wr w3:=belT HDz.out hb3;obtain⟨k0,k1,k2,k3,f0,f1,f2,f3⟩:=zjw hk2;clear hb3))
      all_goals
       go_wp2_with fail
       go_meet
       first
        |exact⟨_,_,t,rfl,rfl,rfl,HMEM,zh (hA.alloc hA.size _),zh (zq3 rfl _)⟩
        |exact⟨_,_,t,rfl,rfl,rfl,HMEM,zh (belS4 hA zr _ _ _ _),zh (box4 hk2 _ _ _ _)⟩
     case rest=>
      obtain⟨X,xb,t,rfl,rfl,rfl,HMEM,HAX0,HXB⟩:=hcut
      clear HOFG HDz HOFa HOFb
      have hxb:=HXB.out
      have HX0:=HAX0
      clear hm
      have HAS:=zh (asWas_of (s:=s) HQL.out HMEM.out.1 HMEM.out.2)
      have HTO:=zh (HQ.out.inn.shs.ok t HMEM.out.1)
      have HTL:=zh (show∀l∈t.lv,l.ts.length<=1000000 from(FewX.small HQ.out.few).lev t HMEM.out.1)
      have HS1:=zh (show∀u,Below X.heap.size X u->u.cell? ⟨w.heap.size,6,none⟩=some (.slice (some ⟨b,o,none⟩) ns r.sc)/\u.cell? ⟨b,o+i*4,none⟩=some (.int .u64 s.line)/\u.cell? ⟨b,o+i*4+1,none⟩=some (lvV s.l0)/\u.cell? ⟨b,o+i*4+2,none⟩=some (lvV s.l1)/\u.cell? ⟨b,o+i*4+3,none⟩=some (lvV s.l2)/\u.cell? ⟨xb,0,none⟩=some (.int .u64 t.line)/\u.cell? ⟨xb,1,none⟩=some (lvV t.l0)/\u.cell? ⟨xb,2,none⟩=some (lvV t.l1)/\u.cell? ⟨xb,3,none⟩=some (lvV t.l2)from fun u hu=>by
       obtain⟨k1,k2,k3,k4,k5⟩:=HS0.out u (HX0.out.trans (hu.mono HX0.out.size))
       have hq:=zq4 hxb hu (zq2 hxb)
       have q0:=zq0 hq 0
       have q1:=zq0 hq 1
       have q2:=zq0 hq 2
       have q3:=zq0 hq 3
       simp at q0 q1 q2 q3
       exact⟨k1,k2,k3,k4,k5,q0,q1,q2,q3⟩)
      obtain⟨bb,hbb⟩: ∃bb:Bool,bb=asWas (q.sh.map Sv.says) s.says:=⟨_,rfl⟩
      have HBB:=zh hbb
      have HDX:=zh (show Below X.heap.size X X.drew from zb.drew)
      have HSSF:=zh (show Calls Tryz.prog (50) #[.agg #[.int .u64 t.line,lvV t.l0,lvV t.l1,lvV t.l2], .agg #[.int .u64 s.line,lvV s.l0,lvV s.l1,lvV s.l2]] X.drew (fun e w'=>e= .returned (.bool bb)/\Below X.drew.heap.size X.drew w')from by
       have hwX:=HBw.out _ (HWW.out _ (HX0.out.trans (HDX.out.mono HX0.out.size)))
       refine(zwx t s X.drew (HTO.out.ext hwX) (HOK.out.ext hwX) HTL.out).mono (fun e w' ⟨q',h1,h2,h3⟩=>⟨?_,h3⟩)
       rw [h1]
       have h4:=HAS.out
       rw [<-HBB.out] at h4
       have:q'=bb:=by
        cases q'<;>cases bb<;>first|rfl|(exact absurd (h4.2 (h2.1 rfl)) (by simp))|(exact absurd (h2.2 (h4.1 rfl)) (by simp))
       rw [this])
      have hfr:=HFS.out
      rw [<-hbb] at hfr
      clear hxb hbb
      cases bb with
      |true=>
       have HO2:=zh (show newV (r.sh.take (i+1)) q.sh=newV (r.sh.take i) q.sh from by unfold newV;rw [hfr];simp)
       clear hfr
       go_upto_region 21 with fail
       go_region_held3 (fun u=>u.cell? ⟨w.heap.size,6,none⟩=some (.slice (some ⟨b,o,none⟩) ns r.sc)/\u.cell? ⟨b,o+i*4,none⟩=some (.int .u64 s.line)/\u.cell? ⟨b,o+i*4+1,none⟩=some (lvV s.l0)/\u.cell? ⟨b,o+i*4+2,none⟩=some (lvV s.l1)/\u.cell? ⟨b,o+i*4+3,none⟩=some (lvV s.l2)/\u.cell? ⟨xb,0,none⟩=some (.int .u64 t.line)/\u.cell? ⟨xb,1,none⟩=some (lvV t.l0)/\u.cell? ⟨xb,2,none⟩=some (lvV t.l1)/\u.cell? ⟨xb,3,none⟩=some (lvV t.l2))
        (first|exact HS1.out _ (by assumption)|exact HS1.out _ HDX.out|exact HS1.out _ zb)
        (first|(go_at_call 50;(with_reducible refine HSSF.out.mono ?_);rintro e w5 ⟨rfl,hb5⟩;have hA5:Below X.heap.size X w5:=belT HDX.out hb5;clear hb5))
       all_goals
        have hA0:Below wr.heap.size wr w5:=HX0.out.trans (hA5.mono HX0.out.size)
        have HON:=zh (show OwnSh wo.heap.size w5 (.slice a2 n2 c2) (newV (r.sh.take (i+1)) q.sh)from by rw [HO2.out];exact OwnSh.below HO.out hA0)
        have HBN:=zh (HBk.out.trans (hA0.mono HBk.out.size))
        have hw1:=HW1.out
        clear hA5 hA0
        go_wp2_with fail
        go_roundg(gk - 1)
        case measure=>omega
        case rel=>exact⟨i+1,a2,n2,c2,by omega,by go_num,rfl,HON,HBN⟩
      |false=>
       have HO2:=zh (show newV (r.sh.take (i+1)) q.sh=newV (r.sh.take i) q.sh++ [s] from by unfold newV;rw [hfr];simp)
       clear hfr
       go_upto_region 21 with fail
       go_region_held3 (fun u=>u.cell? ⟨w.heap.size,6,none⟩=some (.slice (some ⟨b,o,none⟩) ns r.sc)/\u.cell? ⟨b,o+i*4,none⟩=some (.int .u64 s.line)/\u.cell? ⟨b,o+i*4+1,none⟩=some (lvV s.l0)/\u.cell? ⟨b,o+i*4+2,none⟩=some (lvV s.l1)/\u.cell? ⟨b,o+i*4+3,none⟩=some (lvV s.l2)/\u.cell? ⟨xb,0,none⟩=some (.int .u64 t.line)/\u.cell? ⟨xb,1,none⟩=some (lvV t.l0)/\u.cell? ⟨xb,2,none⟩=some (lvV t.l1)/\u.cell? ⟨xb,3,none⟩=some (lvV t.l2))
        (first|exact HS1.out _ (by assumption)|exact HS1.out _ HDX.out|exact HS1.out _ zb)
        (first|(go_at_call 50;(with_reducible refine HSSF.out.mono ?_);rintro e w5 ⟨rfl,hb5⟩;have hA5:Below X.heap.size X w5:=belT HDX.out hb5;clear hb5))
       all_goals
        have hAX0:Below wr.heap.size wr w5:=HX0.out.trans (hA5.mono HX0.out.size)
        have hAX:Below wo.heap.size wo w5:=HBk.out.trans (hAX0.mono HBk.out.size)
        clear hA5
        obtain⟨v',w',hr,ho',hb'⟩:=yx0 s hAX.size (OwnSh.below HO.out hAX0) HOL.out
        have HON:=zh (show OwnSh wo.heap.size w' v' (newV (r.sh.take (i+1)) q.sh)from by rw [HO2.out];exact ho')
        have HBN:=zh (hAX.trans hb')
        obtain⟨a',c',hv', -, -⟩:=zq6 zqe HON.out
        obtain⟨n',hn'⟩: ∃n',n'=(newV (r.sh.take (i+1)) q.sh).length:=⟨_,rfl⟩
        rw [<-hn'] at hv'
        subst hv'
        have hw1:=HW1.out
        have hcs:=HS0.out w5 hAX0
        obtain⟨c6,g0,g1,g2,g3⟩:=hcs
        clear hAX hAX0 ho' hb' hn'
        go_wp2_with(at_builtin;refine Lib.wpList_append_run _ rfl _ _ _ _ rfl _ _ rfl rfl _ _ hr ?_)
        go_roundg(gk - 1)
        case measure=>omega
        case rel=>exact⟨i+1,a',n',c',by omega,by go_num,rfl,HON,HBN⟩
    ·have HO2:=zh (show newV (r.sh.take (i+1)) q.sh=newV (r.sh.take i) q.sh++ [s] from by unfold newV;rw [HFS.out,ywg hm];simp)
     have HOFG:=zh (show∀u,Below wr.heap.size wr u->Calls Tryz.prog (49) #[.slice qa ms q.sc, .int .u64 s.line] u (fun e w'=>e= .returned (.tuple #[.agg #[.int .u64 0, .slice none 0 0, .slice none 0 0, .slice none 0 0], .bool false])/\Below u.heap.size u w')from fun u hu=>(HOQ.out s.line u (HBw.out _ (HWW.out _ hu))).mono (fun e w' ⟨hb,hc⟩=>by
       rcases hc with⟨t,h1,h2,_⟩|⟨_,h3⟩
       ·exact absurd (by rw [<-h2];exact List.mem_map_of_mem h1) hm
       ·exact⟨h3,hb⟩))
     have HDz:=zh (show Below wr.heap.size wr (wr.alloc (.cells #[.int .u64 0, .slice none 0 0, .slice none 0 0, .slice none 0 0] (57))).drew from(zb.alloc zr _).drew)
     have HOFa:=zh (HOFG.out wr.drew HD.out)
     have HOFb:=zh (HOFG.out (wr.alloc (.cells #[.int .u64 0, .slice none 0 0, .slice none 0 0, .slice none 0 0] (57))).drew HDz.out)
     go_upto_region 20 with fail
     clear c6
     go_cut [13,14] (fun v9 v10 wx=> ∃(X:World) (xb:Nat),X=wx/\v9= .pointer (some ⟨xb,0,none⟩)/\v10= .bool false/\Hid (Below wr.heap.size wr X)/\Hid (X.heap[xb]? =some (.cells #[.int .u64 0, .slice none 0 0, .slice none 0 0, .slice none 0 0] (57) (0,0))))
     case first=>
      go_region_held3 (fun u=>u.cell? ⟨w.heap.size,6,none⟩=some (.slice (some ⟨b,o,none⟩) ns r.sc)/\u.cell? ⟨rb,6,none⟩=some (.slice qa ms q.sc)/\u.cell? ⟨b,o+i*4,none⟩=some (.int .u64 s.line))
       (first|exact HS.out _ (by assumption)|exact HS.out _ HD.out|exact HS.out _ HDz.out|exact HS.out _ (hA.alloc hA.size _)|exact HS.out _ (belS4 hA zr _ _ _ _)|exact HS.out _ zb)
       (first
        |(go_at_call 49;(with_reducible refine HOFa.out.mono ?_);rintro e w3 ⟨rfl,hb3⟩;have hA:Below wr.heap.size wr w3:=belT HD.out hb3;clear hb3)
        |(go_at_call 49;(with_reducible refine HOFb.out.mono ?_);rintro e w3 ⟨rfl,hb3⟩;have hk2:w3.heap[wr.heap.size]? =some (.cells #[.int .u64 0, .slice none 0 0, .slice none 0 0, .slice none 0 0] (57) (0,0)):=zq4 (w:=(wr.alloc (.cells #[.int .u64 0, .slice none 0 0, .slice none 0 0, .slice none 0 0] (57))).drew) (zq3 (w:=wr) rfl _) hb3 (by simp);have hA:Below wr.heap.size wr w3:=belT HDz.out hb3;obtain⟨k0,k1,k2,k3,f0,f1,f2,f3⟩:=zjw hk2;clear hb3))
      all_goals
       go_wp2_with fail
       go_meet
       first
        |exact⟨_,_,rfl,rfl,rfl,zh (hA.alloc hA.size _),zh (zq3 rfl _)⟩
        |exact⟨_,_,rfl,rfl,rfl,zh (belS4 hA zr _ _ _ _),zh (box4 hk2 _ _ _ _)⟩
     case rest=>
      obtain⟨X,xb,rfl,rfl,rfl,HAX0,HXB⟩:=hcut
      clear HOFG HDz HOFa HOFb
      have hAX1:=HAX0.out
      clear hm
      go_upto_region 21 with fail
      go_quiet (fail)
      have hAX0:Below wr.heap.size wr (X.drewN nq):=below_drewN hAX1 nq
      obtain⟨Y,hY⟩: ∃Y,Y=X.drewN nq:=⟨_,rfl⟩
      rw [<-hY] at hAX0 ⊢
      have hAX:Below wo.heap.size wo Y:=HBk.out.trans (hAX0.mono HBk.out.size)
      clear hY hAX1
      obtain⟨v',w',hr,ho',hb'⟩:=yx0 s hAX.size (OwnSh.below HO.out hAX0) HOL.out
      have HON:=zh (show OwnSh wo.heap.size w' v' (newV (r.sh.take (i+1)) q.sh)from by rw [HO2.out];exact ho')
      have HBN:=zh (hAX.trans hb')
      obtain⟨a',c',hv', -, -⟩:=zq6 zqe HON.out
      obtain⟨n',hn'⟩: ∃n',n'=(newV (r.sh.take (i+1)) q.sh).length:=⟨_,rfl⟩
      rw [<-hn'] at hv'
      subst hv'
      have hw1:=HW1.out
      have hcs:=HS0.out Y hAX0
      obtain⟨c6,g0,g1,g2,g3⟩:=hcs
      clear hAX hAX0 ho' hb' hn'
      go_wp2_with(at_builtin;refine Lib.wpList_append_run _ rfl _ _ _ _ rfl _ _ rfl rfl _ _ hr ?_)
      go_roundg(gk - 1)
      case measure=>omega
      case rel=>exact⟨i+1,a',n',c',by omega,by go_num,rfl,HON,HBN⟩
   have i1: ¬(i:Int)<(ns:Int):=by omega
   obtain⟨os,hos⟩: ∃l,l=newV r.sh q.sh:=⟨_,rfl⟩
   have HOO:=zh (show OwnSh wo.heap.size wr (.slice a2 n2 c2) os from by have:=HO.out;rw [List.take_of_length_le (by have:=HN.out;omega)] at this;rw [hos];exact this)
   have hEq:editL r.says q.says=2::(headL r.says++numsL [(gs.length:Int)] ++numsL gs++shL (os.map Sv.says)):=by
    unfold editL
    rw [hos,yyh,HGS.out,goneR_eq]
    rfl
   have hlen:=HL.out HG.out HGQ.out
   rw [hEq] at hlen
   simp only [List.length_cons,List.length_append] at hlen
   obtain⟨ga,gc,hge, -,hgel⟩:=zq6 Vx.zz5 HGO.out
   injection hge with e1 e2 e3
   subst e1
   obtain⟨oa,oc,hoe, -,hoel⟩:=zq6 zqe HOO.out
   injection hoe with f1 f2 f3
   subst f1
   rw [<-e2] at hEq hlen
   have HLE:=zh hlen
   have HEQ:=zh hEq
   have HGE:=zh (show Els Vx.nu 1 wo a gs from hgel)
   have HGN:=zh (show gs.length=n/\n<=1000000 from⟨e2.symm,by
    rw [e2,HGS.out]
    unfold goneR
    rw [List.length_map]
    have h1:=List.length_filter_le (fun s:Sv=>decide (s.line∉r.sh.map Sv.line)) q.sh
    have:=HQN.out
    omega⟩)
   have HGU:=zh (show∀x∈gs,U64 x from fun x hx=>by
    rw [HGS.out] at hx
    obtain⟨s,hs,rfl⟩:=List.mem_map.1 hx
    exact(HQ.out.inn.shs.ok s (List.mem_filter.1 hs).1).wf)
   have HON:=zh (show os.length=n2/\n2<=1000000 from⟨f2.symm,by
    rw [f2,hos]
    unfold newV
    have h1:=List.length_filter_le (fun s:Sv=> !asWas (q.sh.map Sv.says) s.says) r.sh
    have:=HNS.out
    have:=HN.out
    omega⟩)
   have HOM:=zh (show∀s∈os,s∈r.sh from fun s hs=>by rw [hos] at hs;exact(List.mem_filter.1 hs).1)
   have HOE:=zh (show Els shc 4 wr a2 os from hoel)
   have hcn:IntKind.u64.wrap (n:Int)=(n:Int):=by rw [IntKind.wrap_u64];have:=HGN.out;omega
   clear hlen hEq hgel hoel e2 e3 f2 f3 hos HO hlt
   go_upto_region 23 with fail
   clear c6
   obtain⟨A,hA⟩: ∃A:World,A=wr.alloc (.cells #[.int .u8 2] (5)):=⟨_,rfl⟩
   have hBA:Below wr.heap.size wr A:=by rw [hA];exact zb.alloc zr _
   have HWA:=zh (HWk.out.trans (hBA.mono HWk.out.size))
   have HBA:=zh hBA
   have HH:=zh (HHD.out HG.out (some ⟨wr.heap.size,0,none⟩) 1 1 [2] A (HBw.out _ HWA.out) (zjp (by rw [hA];exact zq3 rfl _) rfl) rfl (by decide) (by have:=HLE.out;omega))
   obtain⟨c0,c1,c2',c3,c4,c5,c6⟩:=HC.out A HWA.out
   have HA:=zh hA
   rw [hA] at HH c0 c1 c2' c3 c4 c5 c6
   clear hA hBA
   go_wp2_with fail
   refine HH.out.mono ?_
   rw [<-HA.out]
   rintro e w5 ⟨a5,q5,p5,rfl,hq5,hE5,hb5⟩
   have HQ5:=zh hq5
   have HE5:=zh hE5
   have HB5:=zh (HBA.out.trans (hb5.mono HBA.out.size))
   clear c0 c1 c2' c3 c4 c5 c6 hq5 hE5 hb5
   have HNU:=zh (zwr (c:=p5) (m:=1) #[.int .u64 (n:Int)] [(n:Int)] w5 HE5.out HQ5.out.symm (by have:=HQ5.out;simp at this;omega) rfl rfl (by
    intro x hx
    simp only [List.mem_cons,List.not_mem_nil,or_false] at hx
    rw [hx]
    exact u64_n (by have:=HGN.out;omega)) (by have:=HQ5.out;have:=HLE.out;simp at*;omega))
   go_wp2_with fail
   refine HNU.out.mono ?_
   rintro e w6 ⟨a6,q6,p6,rfl,hq6,hE6,hb6⟩
   have HQ6:=zh hq6
   have HE6:=zh hE6
   have HB6:=zh (HB5.out.trans (hb6.mono HB5.out.size))
   clear hq6 hE6 hb6 HNU hcn
   have HNU:=zh (zwh a6 q6 p6 _ a n c gs w6 HE6.out HQ6.out.symm (by have:=HQ6.out;simp at this;omega) ((HGE.out.ext HBk.out).ext HB6.out) HGN.out.1 HGU.out (by have:=HQ6.out;have:=HLE.out;have:=HGN.out;simp at*;omega))
   go_wp2_with fail
   refine HNU.out.mono ?_
   rintro e w7 ⟨a7,q7,p7,rfl,hq7,hE7,hb7⟩
   have HQ7:=zh hq7
   have HE7:=zh hE7
   have HB7:=zh (HB6.out.trans (hb7.mono HB6.out.size))
   clear hq7 hE7 hb7 HNU
   have HSHV:=zh (zk5 a7 q7 p7 _ a2 n2 c2 os w7 ⟨HOE.out.ext HB7.out,fun s hs=>(HR.out.inn.shs.ok s (HOM.out s hs)).ext (HBw.out _ (HWk.out.trans (HB7.out.mono HWk.out.size)))⟩ HON.out.1 HE7.out HQ7.out.symm (by have:=HQ7.out;simp at this;omega) (by have:=HQ7.out;have:=HLE.out;simp at*;omega) (by have:=HON.out;omega) (fun s hs=>zyv HR.out.few s (HOM.out s hs)))
   go_wp2_with fail
   refine HSHV.out.mono ?_
   rintro e w8 ⟨a8,q8,p8,rfl,hq8,hE8,hb8⟩
   have HF:=zh (show zzx (GoodR r/\GoodR q) (editL r.says q.says) w (.returned (.tuple #[.slice a8 q8 p8, .int .i64 0])) w8 from by
    have e: [2] ++headL r.says++numsL [(n:Int)] ++numsL gs++shL (os.map Sv.says)=editL r.says q.says:=by rw [HEQ.out];simp only [List.append_assoc];rfl
    rw [e] at hq8 hE8
    exact⟨HBw.out _ (HWk.out.trans ((HB7.out.trans (hb8.mono HB7.out.size)).mono HWk.out.size)), .inl ⟨⟨HG.out,HGQ.out⟩,a8,q8,p8,rfl,hq8,hE8⟩⟩)
   clear hq8 hE8 hb8
   go_wp2_with fail
   go_ret2
   exact HF.out
end Go.Proofs.YtchcelodeepjdaaGreatDoor.Ln
