/- Lemmas and walks towards ManifestsFold. Conditions: each one tells its own. -/
import Derived.Test.YtchcelodeepjdaaGreatDoorMp
import Derived.Test.YtchcelodeepjdaaGreatDoorZZx
import Derived.Deep.DeepCutAuto
import Derived.Test.YtchcelodeepjdaaGreatDoorZZs
import Derived.Test.YtchcelodeepjdaaGreatDoorK6
import Derived.Test.YtchcelodeepjdaaGreatDoorShp
import Derived.Shelf.SlSortCmp.WholeK
import Derived.Sort.Grow
import Derived.Sort.Walk0
namespace Go.Proofs.YtchcelodeepjdaaGreatDoor.Ln
open Go.RowKit Go.Shelf Go.Herb

theorem zkz {A:World}{b:Nat}{r:Rv}{nb nl nv ns:Nat}{fr:Nat × Nat}(hq:A.heap[b]? =some (.cells #[.int .u64 r.seq, .int .u64 r.log, .int .u64 r.next, .slice r.ba nb r.bc, .slice r.la nl r.lc, .slice r.va nv r.vc, .slice r.sa ns r.sc] (32) fr)):
  A.cell? ⟨b,0,none⟩=some (.int .u64 r.seq)/\A.cell? ⟨b,1,none⟩=some (.int .u64 r.log)/\A.cell? ⟨b,2,none⟩=some (.int .u64 r.next)/\A.cell? ⟨b,3,none⟩=some (.slice r.ba nb r.bc)/\A.cell? ⟨b,4,none⟩=some (.slice r.la nl r.lc)/\A.cell? ⟨b,5,none⟩=some (.slice r.va nv r.vc)/\A.cell? ⟨b,6,none⟩=some (.slice r.sa ns r.sc):=by
 have q0:=zq0 hq 0
 have q1:=zq0 hq 1
 have q2:=zq0 hq 2
 have q3:=zq0 hq 3
 have q4:=zq0 hq 4
 have q5:=zq0 hq 5
 have q6:=zq0 hq 6
 simp at q0 q1 q2 q3 q4 q5 q6
 exact⟨q0,q1,q2,q3,q4,q5,q6⟩
theorem zj0 {r:Rv}(hf:FewX r.says):r.sh.length<1000000:=by
 have h1:=zjl (f:=fun _=>1) (g:=fun s:Sd=>1+(s.lv.map List.length).sum) (r.sh.map Sv.says) (fun _ _=>by omega)
 rw [zxm,List.length_map] at h1
 have:=hf.sh
 have h3:r.says.sh=r.sh.map Sv.says:=rfl
 rw [h3] at this
 omega
structure EdIn (w:World)(r q:Rv)(rb:Nat):Prop where
 ir:RtIn w r
 gr:GoodR r
 fr:FewX r.says
 iq:RtIn w q
 gq:GoodR q
 fq:FewX q.says
 box: ∃f,w.heap[rb]? =some (.cells #[.int .u64 q.seq, .int .u64 q.log, .int .u64 q.next, .slice q.ba q.bs.length q.bc, .slice q.la q.ls.length q.lc, .slice q.va q.vs.length q.vc, .slice q.sa q.sh.length q.sc] (32) f)
theorem zyn (r:Rv)(w:World)(hi:RtIn w r)(hs:zwn r)(hg:GoodR r):Calls Tryz.prog (16) #[rtV r] w (fun e w'=>e= .returned (.int .i64 0)/\Below w.heap.size w w'):=
 (zkk r w hi hs).mono (by
  rintro e w' ⟨n,rfl,⟨rfl, -⟩|⟨-,hn⟩,hb⟩
  ·exact⟨rfl,hb⟩
  ·exact absurd hg hn)
theorem lay_two {w1 V:World}(hV:V.heap[w1.heap.size]? =some (.cells #[.int .u8 1] (5) (0,0)))(hV2:V.heap[w1.heap.size+1]? =some (.cells #[.slice (some ⟨w1.heap.size,0,none⟩) 1 1] (90) (0,0))):
  LayAt (V.setCell ⟨w1.heap.size,0,none⟩ (.int .u8 2)) (w1.heap.size+1) [2] :=by
 have h1:=zq7 (j:=0) hV (.int .u8 2)
 have h2:=blk_setCell_other (a:=⟨w1.heap.size,0,none⟩) hV2 (show w1.heap.size+1≠w1.heap.size by omega) (.int .u8 2)
 refine⟨some ⟨w1.heap.size,0,none⟩,1,h2,⟨fun i hi=> ?_⟩,(fun h=>by cases h),rfl,(fun ad h=>by
  cases h
  exact⟨by show w1.heap.size+1 - 1<=w1.heap.size;omega,_,h1⟩)⟩
 have hi0:i=0:=by simp at hi;omega
 subst hi0
 refine⟨w1.heap.size,0,rfl,zq2 h1,fun j c hj=> ?_⟩
 rw [zq0 h1]
 have hj0:j=0:=by
  rcases Nat.eq_zero_or_pos j with h|h
  ·exact h
  ·rw [List.getElem?_eq_none (by rw [zqq];omega)] at hj;cases hj
 subst hj0
 simp [Ln.nb] at hj ⊢
 exact hj
theorem zw7 {r:Rv}(h:GoodR r):(r.sh.map Sv.line).Nodup:=by
 have h1:=h.2.shelved.rise
 have e:r.says.sh=r.sh.map Sv.says:=rfl
 rw [e,List.pairwise_map] at h1
 unfold List.Nodup
 rw [List.pairwise_map]
 exact h1.imp (fun{a b} h2 h3=>by
  have h4:a.line<b.line:=h2
  omega)
theorem yye {w w':World}{p b:Nat}{m:List (Int × Sv)}{ys:List Int}(h:MapS w b m)(hL:LayAt w p ys)(ht:TurnI p w w'):MapS w' b m:=by
 have hne:b≠p:=fun e=>by
  obtain⟨es,c,h1, -⟩:=h.blk
  obtain⟨a,cap,h2, -⟩:=hL.blk
  rw [e,h2] at h1
  cases h1
 obtain⟨es,c,h1,r⟩:=h.blk
 exact⟨es,c,ht.kept b _ h1 hne,r⟩
theorem yvs {w w':World}{p b j:Nat}{v:Value}(h:w.cell? ⟨b,j,none⟩=some v)(ht:TurnI p w w')(hne:b≠p):w'.cell? ⟨b,j,none⟩=some v:=by
 have hlt:=lt_of_cell h
 have hk:=ht.kept b _ (Array.getElem?_eq_getElem hlt) hne
 rw [<-h]
 unfold World.cell?
 simp only [hk,Array.getElem?_eq_getElem hlt]
theorem box_at {w wc:World}{v:Value}{t:TypeId}(hb:Below (w.alloc (.cells #[v] t)).heap.size (w.alloc (.cells #[v] t)) wc):wc.heap[w.heap.size]? =some (.cells #[v] t (0,0)):=zq4 (zq3 rfl _) hb (by simp)
theorem box_at2 {w wc:World}{v:Value}{t:TypeId}(hb:Below (w.alloc (.cells #[v] t)).drew.heap.size (w.alloc (.cells #[v] t)).drew wc):wc.heap[w.heap.size]? =some (.cells #[v] t (0,0)):=zq4 (w:=(w.alloc (.cells #[v] t)).drew) (zq3 (w:=w) rfl _) hb (by simp)
theorem yxl {u:World}{b:Nat}{v:Value}{t:TypeId}(h:u.heap[b]? =some (.cells #[v] t (0,0))):u.cell? ⟨b,0,none⟩=some v/\u.frozen? ⟨b,0,none⟩=false:=by
 refine⟨?_,zq1 h 0⟩
 rw [zq0 h]
 rfl
theorem zj6 {w u v:World}(h1:Below w.heap.size w u)(h2:Below u.heap.size u v):Below w.heap.size w v:=h1.trans (h2.mono h1.size)
theorem zzy {w w':World}{b:Nat}{m:List (Int × Sv)}(h:MapS w b m)(hb:Below w.heap.size w w'):MapS w' b m:=h.same (hb.block _ h.lt)
theorem yk8 {U Y:World}{b1 b2:Nat}{m1 m2:List (Int × Sv)}(h1:MapS Y b1 m1)(h2:MapS Y b2 m2)(hB:Below U.heap.size U Y):
  yzy U (Y.alloc (.cells #[.map (some b2)] (94))) Y.heap.size b1 b2 m1 m2:=by
 have hb:Below Y.heap.size Y (Y.alloc (.cells #[.map (some b2)] (94))):=zb.alloc zr _
 exact⟨zzy h1 hb,zzy h2 hb,by rw [yqj];rfl,hB.alloc hB.size _,hB.size⟩
set_option maxRecDepth 100000 in
set_option maxHeartbeats 4000000 in
theorem yjq (r q:Rv)(rb:Nat)(w:World)(h:EdIn w r q rb):
  Calls Tryz.prog (17) #[rtV r, .pointer (some ⟨rb,0,none⟩)] w (zkj (editL r.says q.says) w):=by
 obtain⟨nb,hnb⟩: ∃n,n=r.bs.length:=⟨_,rfl⟩
 obtain⟨nl,hnl⟩: ∃n,n=r.ls.length:=⟨_,rfl⟩
 obtain⟨nv,hnv⟩: ∃n,n=r.vs.length:=⟨_,rfl⟩
 obtain⟨ns,hns⟩: ∃n,n=r.sh.length:=⟨_,rfl⟩
 obtain⟨mb,hmb⟩: ∃n,n=q.bs.length:=⟨_,rfl⟩
 obtain⟨ml,hml⟩: ∃n,n=q.ls.length:=⟨_,rfl⟩
 obtain⟨mv,hmv⟩: ∃n,n=q.vs.length:=⟨_,rfl⟩
 obtain⟨ms,hms⟩: ∃n,n=q.sh.length:=⟨_,rfl⟩
 obtain⟨fb,hxb⟩:=h.box
 have hrt:rtV r= .agg #[.int .u64 r.seq, .int .u64 r.log, .int .u64 r.next, .slice r.ba nb r.bc, .slice r.la nl r.lc, .slice r.va nv r.vc, .slice r.sa ns r.sc] :=by rw [hnb,hnl,hnv,hns]
 have hqt:rtV q= .agg #[.int .u64 q.seq, .int .u64 q.log, .int .u64 q.next, .slice q.ba mb q.bc, .slice q.la ml q.lc, .slice q.va mv q.vc, .slice q.sa ms q.sc] :=by rw [hmb,hml,hmv,hms]
 rw [<-hmb,<-hml,<-hmv,<-hms] at hxb
 obtain⟨W,hW⟩: ∃W:World,W=w.alloc (.cells #[.int .u64 r.seq, .int .u64 r.log, .int .u64 r.next, .slice r.ba nb r.bc, .slice r.la nl r.lc, .slice r.va nv r.vc, .slice r.sa ns r.sc] (32)):=⟨_,rfl⟩
 have hB:Below w.heap.size w W:=by rw [hW];exact zb.alloc zr _
 have hx0:W.heap[w.heap.size]? =some (.cells #[.int .u64 r.seq, .int .u64 r.log, .int .u64 r.next, .slice r.ba nb r.bc, .slice r.la nl r.lc, .slice r.va nv r.vc, .slice r.sa ns r.sc] (32) (0,0)):=by rw [hW];exact zq3 rfl _
 have HX0:=zh hx0
 have HXB:=zh hxb
 have HRB:=zh (zq2 hxb)
 have HB:=zh hB
 have HW:=zh hW
 have H:=zh h
 have HCK:=zh (zyn r W (h.ir.ext hB) h.fr.small h.gr)
 have HCQ:=zh (fun(u:World) (hu:Below w.heap.size w u)=>zyn q u (h.iq.ext hu) h.fq.small h.gq)
 have HNS:=zh (show r.sh.length=ns/\ns<1000000 from⟨hns.symm,by rw [hns];exact zj0 h.fr⟩)
 have HMS:=zh (show q.sh.length=ms/\ms<1000000 from⟨hms.symm,by rw [hms];exact zj0 h.fq⟩)
 rw [hrt] at HCK
 rw [hqt] at HCQ
 rw [hW] at HCK
 obtain⟨c0,c1,c2,c3,c4,c5,c6⟩:=zkz hx0
 rw [hrt]
 clear h hB hx0 hW hxb
 have HRT:=zh hrt
 clear hrt hqt hnb hnl hnv hns hmb hml hmv hms
 go_enter Tryz.func17,Tryz.ntmps17
 go_upto_region 9 with(go_at_call 16;refine HCK.out.mono ?_;rw [<-HW.out];rintro e w1 ⟨rfl,hb1⟩;have HB1:=zh hb1;have hx1:=zq4 HX0.out hb1 (zq2 HX0.out);have HX1:=zh hx1;clear hb1;clear c0 c1 c2 c3 c4 c5 c6;obtain⟨c0,c1,c2,c3,c4,c5,c6⟩:=zkz hx1;clear hx1)
 clear HCK
 obtain⟨V1,hV1⟩: ∃V:World,V=w1.alloc (.cells #[.int .u8 1] (5)):=⟨_,rfl⟩
 obtain⟨V,hV⟩: ∃V:World,V=V1.alloc (.cells #[.slice (some ⟨w1.heap.size,0,none⟩) 1 1] (90)):=⟨_,rfl⟩
 have hz1:V1.heap.size=w1.heap.size+1:=by rw [hV1];simp
 have hBV1:Below w1.heap.size w1 V1:=by rw [hV1];exact zb.alloc zr _
 have hBV:Below V1.heap.size V1 V:=by rw [hV];exact zb.alloc zr _
 have hBw1:Below w1.heap.size w1 V:=hBV1.trans (hBV.mono hBV1.size)
 have hBwV:Below w.heap.size w V:=(HB.out.trans (HB1.out.mono HB.out.size)).trans (hBw1.mono (Nat.le_trans HB.out.size HB1.out.size))
 have hp0:V.heap[w1.heap.size]? =some (.cells #[.int .u8 1] (5) (0,0)):=zq4 (by rw [hV1];exact zq3 rfl _) hBV (show w1.heap.size<V1.heap.size by omega)
 have hp1:V.heap[w1.heap.size+1]? =some (.cells #[.slice (some ⟨w1.heap.size,0,none⟩) 1 1] (90) (0,0)):=by rw [hV];exact zq3 hz1.symm _
 have hwl:w.heap.size<w1.heap.size:=Nat.lt_of_lt_of_le (zq2 HX0.out) HB1.out.size
 have HXV:=zh (zq4 HX1.out hBw1 (zq2 HX1.out))
 have HP0:=zh hp0
 have HP1:=zh hp1
 have HBV:=zh hBwV
 have HWL:=zh hwl
 have HVS:=zh (show w1.heap.size+1<V.heap.size from zq2 hp1)
 obtain⟨d0,d1,d2,d3,d4,d5,d6⟩:=zkz (zq4 HXB.out hBwV HRB.out)
 rw [<-hV1,<-hV]
 clear hV1 hV hz1 hBV1 hBV hBw1 hBwV hp0 hp1 hwl c0 c1 c2 c3 c4 c5 c6 HX1 HW HX0
 go_upto_region 12 with(go_at_call 16;refine(HCQ.out _ HBV.out).mono ?_;rintro e w2 ⟨rfl,hb2⟩;have HB2:=zh hb2;clear hb2)
 clear d0 d1 d2 d3 d4 d5 d6
 have hq0:=zq4 HP0.out HB2.out (zq2 HP0.out)
 have hq1:=zq4 HP1.out HB2.out (zq2 HP1.out)
 have e0:=zq0 hq0 0
 have e1:=zq0 hq1 0
 simp at e0 e1
 have f0:w2.frozen? ⟨w1.heap.size,0,none⟩=false:=zq1 hq0 0
 obtain⟨U0,hU0⟩: ∃u:World,u=w2.setCell ⟨w1.heap.size,0,none⟩ (.int .u8 2):=⟨_,rfl⟩
 have HBU:=zh (show Below w.heap.size w U0 from by
  rw [hU0]
  exact Below.setCell (HBV.out.trans (HB2.out.mono HBV.out.size)) (p:=⟨w1.heap.size,0,none⟩) (Nat.le_of_lt HWL.out) _)
 have hxu:=blk_setCell_other (a:=⟨w1.heap.size,0,none⟩) (zq4 HXV.out HB2.out (zq2 HXV.out)) (show w.heap.size≠w1.heap.size by have:=HWL.out;omega) (.int .u8 2)
 rw [<-hU0] at hxu
 have HXU:=zh hxu
 clear hxu
 have hLU:LayAt U0 (w1.heap.size+1) [2] :=by rw [hU0];exact lay_two hq0 hq1
 have HRO:=zh (yw3 (w1.heap.size+1) [2] r w U0 hLU (zkc H.out.ir H.out.gr H.out.fr) HBU.out (by have:=HWL.out;omega) (by decide))
 obtain⟨acc,hacc⟩: ∃acc,acc= [2] ++headL r.says:=⟨_,rfl⟩
 have HACC:=zh hacc
 rw [HRT.out,<-hacc] at HRO
 have HU0:=zh hU0
 clear hacc hq0 hq1 hLU HP0 HP1 HXV
 obtain⟨c0,c1,c2,c3,c4,c5,c6⟩:=zkz HXU.out
 rw [hU0] at HRO c0 c1 c2 c3 c4 c5 c6
 clear hU0
 go_upto_region 14 with(go_at_call 37;refine HRO.out.mono ?_;rw [<-HU0.out];rintro e w3 ⟨rfl,hL3,hT3⟩;have HL3:=zh hL3;have HT3:=zh hT3;clear hL3 hT3)
 clear c0 c1 c2 c3 c4 c5 c6
 have HB3:=zh (HT3.out.below HBU.out (show w.heap.size<=w1.heap.size+1 by have:=HWL.out;omega) zr)
 have HX3:=zh (zze HXU.out HT3.out (show w.heap.size≠w1.heap.size+1 by have:=HWL.out;omega))
 have HK:=zh (show∀u,Below w3.heap.size w3 u->u.cell? ⟨w.heap.size,6,none⟩=some (.slice r.sa ns r.sc)/\u.cell? ⟨rb,6,none⟩=some (.slice q.sa ms q.sc)from fun u hu=>
  ⟨(zkz (zq4 HX3.out hu (zq2 HX3.out))).2.2.2.2.2.2,(zkz (zq4 HXB.out (HB3.out.trans (hu.mono HB3.out.size)) HRB.out)).2.2.2.2.2.2⟩)
 have HBR:=zh (fun(u:World) (hu:Below w3.heap.size w3 u)=>zw5 r.sa r.sc ns r.sh u (H.out.ir.shs.ext (HB3.out.trans (hu.mono HB3.out.size))) HNS.out.1 HNS.out.2)
 have HBQ:=zh (fun(u:World) (hu:Below w3.heap.size w3 u)=>zw5 q.sa q.sc ms q.sh u (H.out.iq.shs.ext (HB3.out.trans (hu.mono HB3.out.size))) HMS.out.1 HMS.out.2)
 obtain⟨c6,d6⟩:=HK.out w3 zb
 go_cut [9,10] (fun v9 v10 wx=> ∃(X:World) (b1 b2 kb:Nat),X=wx/\v9= .map (some b1)/\v10= .pointer (some ⟨kb,0,none⟩)/\Hid (yzy w3 X kb b1 b2 (putS [] r.sh) (putS [] q.sh)))
 case first=>
  go_region_held3 (fun u=>u.cell? ⟨w.heap.size,6,none⟩=some (.slice r.sa ns r.sc)/\u.cell? ⟨rb,6,none⟩=some (.slice q.sa ms q.sc))
   (first|exact HK.out _ (by assumption)|exact HK.out _ zb|exact HK.out _ (zb.drew)|exact HK.out _ (zb.alloc zr _)|exact HK.out _ ((zb.alloc zr _).drew)|exact HK.out _ ((zb.drew).alloc zr _)|exact HK.out _ (hA.alloc hA.size _)|exact HK.out _ ((hA.alloc hA.size _).drew)|exact HK.out _ ((hA.drew).alloc hA.size _)|exact HK.out _ (hA.drew)|exact HK.out _ (Below.setCell hC (p:=⟨wa.heap.size,0,none⟩) hA.size _)|exact HK.out _ (Below.setCell hC (p:=⟨w3.heap.size,0,none⟩) zr _)|exact HK.out _ (hC.alloc hC.size _))
   (first
    |(go_at_call_of 40 (Value.slice r.sa ns r.sc);refine(HBR.out _ (by first|exact zb|exact zb.drew|exact zb.alloc zr _|exact(zb.alloc zr _).drew|exact(zb.drew).alloc zr _)).mono ?_;rintro e wa ⟨b1,rfl,hma,hba,hga⟩;have hA:=zj6 (w:=w3) (by first|exact zb|exact zb.drew|exact zb.alloc zr _|exact(zb.alloc zr _).drew|exact(zb.drew).alloc zr _) hba;(first|(have hk:wa.heap[w3.heap.size]? =some (.cells #[.map none] (94) (0,0)):=box_at2 hba)|skip))
    |(go_at_call_of 40 (Value.slice q.sa ms q.sc);refine(HBQ.out _ (by first|exact hA|exact hA.drew|exact hA.alloc hA.size _|exact(hA.alloc hA.size _).drew|exact(hA.drew).alloc hA.size _)).mono ?_;rintro e wc ⟨b2,rfl,hmc,hbc,hgc⟩;have hC:=zj6 (w:=w3) (by first|exact hA|exact hA.drew|exact hA.alloc hA.size _|exact(hA.alloc hA.size _).drew|exact(hA.drew).alloc hA.size _) hbc;have hm1:=zzy hma (w':=wc) (zj6 (by first|exact zb|exact zb.drew|exact zb.alloc zr _|exact(zb.alloc zr _).drew|exact(zb.drew).alloc zr _) hbc);(first|(have hk2:=zq4 hk hbc (zq2 hk);obtain⟨kc,kf⟩:=yxl hk2)|(have hk2:=box_at hbc;obtain⟨kc,kf⟩:=yxl hk2)|skip)))
  all_goals
   go_wp2_with fail
   go_meet
   first
    |exact⟨_,b1,b2,_,rfl,rfl,rfl,zh (yq8 hm1 hmc hk2 hC zr)⟩
    |exact⟨_,b1,b2,_,rfl,rfl,rfl,zh (yq8 hm1 hmc hk2 hC hA.size)⟩
    |exact⟨_,b1,b2,_,rfl,rfl,rfl,zh (yk8 hm1 hmc hC)⟩
 case rest=>
  obtain⟨X,b1,b2,kb,rfl,rfl,rfl,HT2⟩:=hcut
  have HLX:=zh (HL3.out.ext HT2.out.below)
  have HX4:=zh (zq4 HX3.out HT2.out.below (zq2 HX3.out))
  have HBX:=zh (HB3.out.trans (HT2.out.below.mono HB3.out.size))
  have HPX:=zh (show w1.heap.size+1<X.heap.size from HLX.out.lt)
  have HL3s:=zh HL3.out.lt
  clear c6 d6 HK HBR HBQ HL3 HT3 HX3 HBU HXU HRO HU0 HCQ
  obtain⟨-, -, -, -, -, -,d6⟩:=zkz (zq4 HXB.out HBX.out HRB.out)
  go_upto_region 17 with fail
  clear d6
  go_loopg [55,11] ms (fun gk iv gv wr=> ∃(k:Nat) (a:Option Addr) (n c:Nat),k+gk=ms/\iv= .int .i64 k/\gv= .slice a n c/\Hid (Vx.OwnU X.heap.size wr (.slice a n c) (goneV (putS [] r.sh) (q.sh.take k)))/\Hid (Below X.heap.size X wr))
  case atStart=>exact⟨0,none,0,0,by omega,rfl,rfl,zh (World.ownsRow_nil _ _ _ _),zh zb⟩
  case round=>
   obtain⟨k,a,n,c,hk,rfl,rfl,HOk,HBk⟩:=hrel
   by_cases hlt:k<ms
   ·have hkl:k<q.sh.length:=by have:=HMS.out.1;omega
    have hbw:=zj6 HBX.out (HBk.out.mono zr)
    obtain⟨b,o,hsa,hlb,hcx⟩:=(H.out.iq.shs.els.ext hbw).get k hkl
    have hgk:q.sh[k]? =some q.sh[k] :=List.getElem?_eq_getElem hkl
    have hok:=H.out.iq.shs.ok _ (List.getElem_mem hkl)
    generalize q.sh[k] =s at hcx hgk hok
    have g0:=hcx 0 _ rfl
    have g1:=hcx 1 _ rfl
    have g2:=hcx 2 _ rfl
    have g3:=hcx 3 _ rfl
    simp only [Nat.add_zero] at g0
    obtain⟨A,hA⟩: ∃A:World,A=wr.alloc (.cells #[.int .u64 s.line,lvV s.l0,lvV s.l1,lvV s.l2] (57)):=⟨_,rfl⟩
    have hBA:Below wr.heap.size wr A:=by rw [hA];exact zb.alloc zr _
    have hAs:A.heap.size=wr.heap.size+1:=by rw [hA];simp
    have hmA:MapS A b1 (putS [] r.sh):=zzy (zzy HT2.out.one HBk.out) hBA
    have hlk:=MapIs.lookS hmA s.line hok.wf
    have hBA2:Below X.heap.size X A:=zj6 HBk.out hBA
    have hgl:(goneV (putS [] r.sh) (q.sh.take k)).length<1000000:=by
     have h1:(goneV (putS [] r.sh) (q.sh.take k)).length<=(q.sh.take k).length:=by unfold goneV;rw [List.length_map];exact List.length_filter_le _ _
     rw [List.length_take] at h1
     have:=HMS.out.2
     omega
    have hoA:Vx.OwnU X.heap.size A (.slice a n c) (goneV (putS [] r.sh) (q.sh.take k)):=ownsRow_below HOk.out hBA zr
    have i0:(0:Int)<=(k:Int):=by omega
    have i1:(k:Int)<(ms:Int):=by omega
    have hw1:IntKind.i64.wrap ((k:Int)+1)=(k:Int)+1:=IntWalk.i64_in _ (by have:=HMS.out.2;omega)
    have HSA:=zh hsa
    rw [hsa]
    cases hg:getL (putS [] r.sh) s.line with
    |none=>
     obtain⟨v',w',hr,ho',hb'⟩:=zyx s.line (.cells #[.int .u64 0, .slice none 0 0, .slice none 0 0, .slice none 0 0] (57)) hBA2.size hoA hgl
     have HON:=zh (show Vx.OwnU X.heap.size w' v' (goneV (putS [] r.sh) (q.sh.take (k+1)))from by rw [zys _ hgk,hg];exact ho')
     have HBN:=zh (show Below X.heap.size X w' from hBA2.trans hb')
     obtain⟨a',c',hv', -, -⟩:=zq6 Vx.zz5 HON.out
     subst hv'
     rw [hg] at hlk
     rw [hAs] at hr
     rw [hA] at hr hlk
     clear hcx hgk hok hBA hAs hmA hBA2 hgl hoA hA hg ho' hb' hlb hsa hbw
     go_wp2_with(at_builtin;refine Lib.wpList_append_run _ rfl _ _ _ _ rfl _ _ rfl rfl _ _ hr ?_)
     rw [<-HSA.out]
     go_roundg(gk - 1)
     case measure=>omega
     case rel=>exact⟨k+1,a',_,c',by omega,by go_num,rfl,HON,HBN⟩
    |some x=>
     have HON:=zh (show∀o,Vx.OwnU X.heap.size (A.alloc o) (.slice a n c) (goneV (putS [] r.sh) (q.sh.take (k+1)))from fun o=>by
      rw [zys _ hgk,hg]
      simp only [Option.isNone_some,Bool.false_eq_true,if_false,List.append_nil]
      exact ownsRow_below hoA (zb.alloc zr _) zr)
     have HBN:=zh (show∀o,Below X.heap.size X (A.alloc o)from fun o=>hBA2.alloc hBA2.size o)
     have HA:=zh hA
     rw [hg] at hlk
     rw [hA] at hlk
     clear hcx hgk hok hBA hAs hmA hBA2 hgl hoA hA hg hlb hsa hbw
     go_wp2_with fail
     rw [<-HA.out,<-HSA.out]
     go_roundg(gk - 1)
     case measure=>omega
     case rel=>exact⟨k+1,a,n,c,by omega,by go_num,rfl,zh (HON.out _),zh (HBN.out _)⟩
   ·have i1: ¬(k:Int)<(ms:Int):=by omega
    have HOF:=zh (show Vx.OwnU X.heap.size wr (.slice a n c) (goneV (putS [] r.sh) q.sh)from by
     have h1:=HOk.out
     rwa [List.take_of_length_le (by have:=HMS.out.1;omega)] at h1)
    clear hk hlt HOk
    have HWR:=zh (zj6 HBX.out (HBk.out.mono zr))
    have hLW:=HLX.out.ext HBk.out
    have HXW:=zh (zq4 HX4.out HBk.out (zq2 HX4.out))
    have HM2:=zh (zzy HT2.out.two HBk.out)
    have HKB:=zh ((HBk.out.cell (p:=⟨kb,0,none⟩) (lt_of_cell HT2.out.box)).trans HT2.out.box)
    have HKP:=zh (show kb≠w1.heap.size+1/\w.heap.size<=w1.heap.size+1/\w.heap.size≠w1.heap.size+1 from⟨by have:=HT2.out.ge;have:=HLX.out.lt;have:=HL3s.out;omega,by have:=HWL.out;omega,by have:=HWL.out;omega⟩)
    have hgq:(goneV (putS [] r.sh) q.sh).length<1000000:=by
     have h1:(goneV (putS [] r.sh) q.sh).length<=q.sh.length:=by unfold goneV;rw [List.length_map];exact List.length_filter_le _ _
     have h2:=HMS.out.1
     have h3:=HMS.out.2
     omega
    have hgu: ∀x∈goneV (putS [] r.sh) q.sh,U64 x:=fun x hx=>by
     obtain⟨s,hs,rfl⟩:=List.mem_map.1 hx
     exact(H.out.iq.shs.ok s (List.mem_filter.1 hs).1).wf
    obtain⟨gs,hgs⟩: ∃l,l=goneV (putS [] r.sh) q.sh:=⟨_,rfl⟩
    have HGS:=zh hgs
    rw [<-hgs] at HOF hgq hgu
    have hnn:gs.length=n:=by
     obtain⟨a',c',h1, -, -⟩:=zq6 Vx.zz5 HOF.out
     injection h1 with h1 h2 h3
     exact h2.symm
    have hEl:Els Vx.nu 1 wr a gs:=by
     obtain⟨a',c',h1, -,h4⟩:=zq6 Vx.zz5 HOF.out
     injection h1 with h1 h2 h3
     rw [h1]
     exact h4
    have hna: ∀ad,a=some ad->ad.block≠w1.heap.size+1:=fun ad had=>by
     obtain⟨_,⟨h1,_⟩|⟨g,cap,cur,h1,hg,_⟩⟩:=HOF.out
     ·injection h1 with h1;rw [h1] at had;cases had
     ·injection h1 with h1
      rw [h1] at had
      cases had
      have:=HPX.out
      show g≠_
      omega
    have hal:acc.length<=250000001:=by
     have:=zkp (zkc H.out.ir H.out.gr H.out.fr)
     rw [HACC.out,List.length_append]
     show 1+_<=_
     omega
    have HN1:=zh (nums1 (w1.heap.size+1) wr.heap.size acc (n:Int) wr rfl hLW (zqs (n:=n) (by omega)) (by omega))
    obtain⟨acc1,hacc1⟩: ∃l,l=acc++numsL [(n:Int)] :=⟨_,rfl⟩
    have hal1:acc1.length<=250000011:=by
     have:=zxv (zqs (n:=n) (by omega))
     rw [hacc1,List.length_append,zxa]
     omega
    have HN2:=zh (fun(u:World) (hL:LayAt u (w1.heap.size+1) acc1) (hT:TurnI (w1.heap.size+1) wr u)=>ykw (w1.heap.size+1) acc1 a c n gs u hL (zjc hEl hT hna) hnn hna hgu (by omega))
    obtain⟨acc2,hacc2⟩: ∃l,l=acc1++numsL gs:=⟨_,rfl⟩
    have HAL2:=zh (show acc2.length<=260000011 from by
     have:=zxw gs hgu
     rw [hacc2,List.length_append]
     omega)
    rw [<-hacc1] at HN1
    rw [<-hacc2] at HN2
    have HLW:=zh hLW
    have HNN:=zh hnn
    have HA1:=zh hacc1
    have HA2:=zh hacc2
    have wn:=zjh (n:=n) (by omega)
    clear hLW hgq hgu hgs hEl hna hal hacc1 hal1 hacc2 hnn
    go_upto_region 25 with(first
     |(go_at_call_of 41 (Value.slice a n c);refine(HN2.out _ HL5.out HT5.out).mono ?_;rintro e w6 ⟨rfl,hL6,hT6⟩;have HL6:=zh hL6;have HT6:=zh (HT5.out.trans hT6);clear hL6 hT6)
     |(go_at_call 41;refine HN1.out.mono ?_;rintro e w5 ⟨rfl,hL5,hT5⟩;have HL5:=zh hL5;have HT5:=zh hT5;clear hL5 hT5))
    have HB6:=zh (HT6.out.below HWR.out HKP.out.2.1 zr)
    have hx6:=zze HXW.out HT6.out HKP.out.2.2
    obtain⟨-, -, -, -, -, -,c6⟩:=zkz hx6
    have HM6:=zh (yye HM2.out HLW.out HT6.out)
    have HK6:=zh (yvs HKB.out HT6.out HKP.out.1)
    have HCL:=zh (yj1 r.sa r.sc ns r.sh w6 (H.out.ir.shs.els.ext HB6.out) HNS.out.1 H.out.ir.sn HNS.out.2)
    have hmo:MapOk w6 (putS [] q.sh):=⟨fun x hx=>by
      rcases zzj hx with h|⟨h, -⟩
      ·cases h
      ·exact(H.out.iq.shs.ok _ h).ext HB6.out,fun x hx=>by
      rcases zzj hx with h|⟨h, -⟩
      ·cases h
      ·exact H.out.fq.cmp.lev _ h⟩
    have HMO:=zh hmo
    clear hmo
    have HDE:=zh (fun(v:Value) (w7:World) (ho:OwnSh w6.heap.size w7 v r.sh) (hb:Below w6.heap.size w6 w7)=>yj4 w6.heap.size kb ns v (keptP (putS [] q.sh)) r.sh w7 ho hb.size HNS.out.1 HNS.out.2 (fun h hh u x hx hT=>by
     have hbu:Below w6.heap.size w6 u:=hT.below hb hh zr
     exact put1_any kb b2 (putS [] q.sh) x u ((hbu.cell (p:=⟨kb,0,none⟩) (lt_of_cell HK6.out)).trans HK6.out) (zzy HM6.out hbu) (HMO.out.ext hbu) ((H.out.ir.shs.ok x hx).ext (HB6.out.trans (hbu.mono HB6.out.size))) (H.out.fr.cmp.lev x hx)))
    obtain⟨fl,hfl⟩: ∃l,l=r.sh.filter (fun x=> !keptP (putS [] q.sh) x):=⟨_,rfl⟩
    have HFL:=zh hfl
    have HFN:=zh (show fl.length<=r.sh.length from by rw [hfl];exact List.length_filter_le _ _)
    have HFM:=zh (show∀s∈fl,s∈r.sh from fun s hs=>by rw [hfl] at hs;exact(List.mem_filter.1 hs).1)
    have HFE:=zh (show(fl.flatMap sdE).length<104000000 from by
     have h1:=yxa H.out.ir.shs (zvp H.out.gr H.out.fr) H.out.fr
     have h2: ∀(p:Sv->Bool) (l:List Sv),((l.filter p).flatMap sdE).length<=(l.flatMap sdE).length:=fun p l=>by
      induction l with
      |nil=>simp
      |cons x l ih=>
       rw [List.filter_cons,List.flatMap_cons,List.length_append]
       split
       ·rw [List.flatMap_cons,List.length_append];omega
       ·omega
     rw [hfl]
     exact Nat.lt_of_le_of_lt (h2 _ _) h1)
    unfold yka at HDE
    rw [<-hfl] at HDE
    have HSL:=zh (fun(a8:Option Addr) (c8 m8:Nat) (w8:World) (hm:fl.length=m8) (ho:OwnSh w6.heap.size w8 (.slice a8 m8 c8) fl) (hb:Below w6.heap.size w6 w8)=>zwu (w1.heap.size+1) acc2 a8 c8 m8 fl w8 (HL6.out.ext hb) (fun u hT=>by
     have hbw:Below w.heap.size w u:=hT.below (HB6.out.trans (hb.mono HB6.out.size)) HKP.out.2.1 zr
     refine⟨?_,fun s hs=>(H.out.ir.shs.ok s (HFM.out s hs)).ext hbw⟩
     obtain⟨a',c',h1, -,h4⟩:=zq6 zqe ho
     injection h1 with h1 h2 h3
     rw [<-h1] at h4
     refine zjc h4 hT (fun ad had=> ?_)
     obtain⟨_,⟨h5,_⟩|⟨g,cap,cur,h5,hg,_⟩⟩:=ho
     ·injection h5 with h5;rw [h5] at had;cases had
     ·injection h5 with h5
      rw [h5] at had
      cases had
      have:=HL6.out.lt
      show g≠_
      omega) hm (fun s hs=>zvp H.out.gr H.out.fr s (HFM.out s hs)) (by have:=HFN.out;have h1:=HNS.out.1;have h2:=HNS.out.2;omega) (by have:=HAL2.out;have:=HFE.out;omega))
    obtain⟨ys,hys⟩: ∃l,l=acc2++shL (fl.map Sv.says):=⟨_,rfl⟩
    rw [<-hys] at HSL
    have HYL:=zh (show ys.length<500000000 from by
     have h1:=zxv (zqs (n:=fl.length) (by have:=HFN.out;have h1:=HNS.out.1;have h2:=HNS.out.2;omega))
     have h2:=HAL2.out
     have h3:=HFE.out
     rw [hys,yw6,List.length_append,List.length_append,zxa]
     omega)
    have hln:(r.sh.map Sv.line).Nodup/\(q.sh.map Sv.line).Nodup:=⟨zw7 H.out.gr,zw7 H.out.gq⟩
    have HYE:=zh (show ys=editL r.says q.says from by
     have e1:gs=goneL r.says.sh q.says.sh:=by rw [HGS.out,goneV_eq hln.1];rfl
     have e2:fl.map Sv.says=newL r.says.sh q.says.sh:=by rw [hfl,newL_eq hln.2];rfl
     rw [hys,HA2.out,HA1.out,HACC.out,e2,<-HNN.out,e1]
     unfold editL
     simp only [List.append_assoc,List.cons_append,List.nil_append])
    have hmf: ∀(fn:Fn) (first cap:Array Value) (w:World),(Instr.makeFunc fn first cap).run Tryz.prog w= .ok (.func fn first cap) w:=fun _ _ _ _=>rfl
    clear hx6 hfl hys hln wn HN1 HN2
    go_upto_region 26 with(first
     |(go_at_call 43;refine HCL.out.mono ?_;rintro e w7 ⟨v,rfl,hO7,hB7⟩)
     |(go_at_call 42;refine(HDE.out v w7 hO7 hB7).mono ?_;rintro e w8 ⟨v8,rfl,hO8,hB8⟩;obtain⟨a8,c8,e8, -, -⟩:=zq6 zqe hO8;subst e8;have HB8:=zh (hB7.trans hB8);have HS8:=zh (HSL.out a8 c8 fl.length w8 rfl hO8 HB8.out);clear hO7 hB7 hO8 hB8)
     |(go_at_call 38;refine HS8.out.mono ?_;rintro e w9 ⟨rfl,hL9,hT9⟩;have HL9:=zh hL9;have HT9:=zh hT9;clear hL9 hT9))
    have HB9:=zh (HT9.out.below (HB6.out.trans (HB8.out.mono HB6.out.size)) HKP.out.2.1 zr)
    obtain⟨a9,cap9,h1,hE9,h0,rfl,hfr⟩:=HL9.out.blk
    have HFR:=zh hfr
    obtain⟨q9,hq9⟩: ∃q,q=ys.length:=⟨_,rfl⟩
    rw [<-hq9] at h1 h0
    have HQ:=zh hq9
    have HE:=zh hE9
    have HCLP:=zh (yxn a9 q9 q9 w9 (fun h=>⟨h0 h,h0 h⟩) (by have:=HYL.out;omega) zr (by have:=HYL.out;unfold maxLen;omega))
    have HWW:=zh (show w.heap.size<=w1.heap.size+1 - 1 from by have:=HWL.out;omega)
    clear hE9 h0 hq9 hfr c6
    have c9:=zq0 h1 0
    simp at c9
    go_wp2_with(go_at_call 39;refine HCLP.out.mono ?_;rintro e w4 ⟨rfl,rfl⟩)
    go_ret2
    exact⟨a9,q9,rfl,by rw [<-HYE.out];exact HQ.out,by rw [<-HYE.out];exact HE.out,HB9.out,fun ad had=>⟨Nat.le_trans HWW.out (HFR.out ad had).1,(HFR.out ad had).2⟩⟩
end Go.Proofs.YtchcelodeepjdaaGreatDoor.Ln

namespace Go.Proofs.YtchcelodeepjdaaGreatDoor.Ln
open Go.RowKit Go.Shelf Go.Herb Go.Sort

theorem two_grow (w:World)(o1 o2:Obj):((w.alloc o1).alloc o2)=Sort.grow (w.drewN 0) #[o1,o2] :=by
 rw [Sort.alloc_eq_grow,Sort.alloc_eq_grow,Sort.grow_grow]
 rfl
def cmpS (x y:Sv):Int:=cmpI x.line y.line
set_option maxRecDepth 100000 in
set_option maxHeartbeats 1000000 in
theorem cmpS_any (x y:Sv)(w:World):Calls Tryz.prog (93) #[shV x,shV y] w fun e w'=>e= .returned (.int .i64 (cmpS x y))/\ ∃q os',w'=Sort.grow (w.drewN q) os':=by
 go_enter Tryz.func93,Tryz.ntmps93
 go_wp2_with(go_at_call 94;refine(yvu _ _ _).mono ?_;rintro e w1 ⟨rfl,rfl⟩)
 go_ret
 exact⟨rfl,0,_,two_grow _ _ _⟩
theorem yvt (a b:Int):cmpI a b<0↔a<b:=by unfold cmpI;split<;>(try split)<;>omega
instance:Inhabited Sv:=⟨⟨0,⟨none,0, []⟩,⟨none,0, []⟩,⟨none,0, []⟩⟩⟩
theorem zkr (x y:Sv):ltOf cmpS x y=true↔x.line<y.line:=by
 unfold ltOf cmpS
 rw [decide_eq_true_iff]
 exact yvt _ _
theorem zj7 (x y:Sv):ltOf cmpS x y=false↔ ¬x.line<y.line:=by
 rw [<-zkr]
 cases ltOf cmpS x y<;>simp
theorem swoS:SWO (ltOf cmpS):=
 ⟨fun x=>(zj7 x x).2 (by omega),fun x y z h1 h2=>(zkr x z).2 (by have:=(zkr x y).1 h1;have:=(zkr y z).1 h2;omega),fun x y z h1 h2=>(zj7 x z).2 (by have:=(zj7 x y).1 h1;have:=(zj7 y z).1 h2;omega)⟩
theorem xq5 (g cap:Nat)(xs:List Sv)(w:World)(hR:Row shc 4 (57) w g cap xs)(hx:xs.length<100000000):
  Calls Tryz.prog (92) #[.slice (some ⟨g,0,none⟩) xs.length cap, .func (.func (93)) #[] #[]] w fun e w'=>e= .returned (.tuple #[])/\ ∃ys:List Sv,ys.Perm xs/\ys.Pairwise (fun a b=> ¬b.line<a.line)/\Row shc 4 (57) w' g cap ys/\w.grownBy w' (some g):=by
 have eg: ∀args w,(callFunc (93) args).run Tryz.prog w= .ok (.enter (93) args) w:=enters_of Tryz.func93 (by kernel_rfl) rfl
 have hcmp:CmpLays Tryz.prog (93) #[] shc 4 cmpS g 0 xs.toArray.size w:=fun _ _ _ _ x y=>cmpS_any x y _
 have hcon:=AnyQ.slices_SortFunc Tryz.sortPoint 4 Tryz.isAgg57 Tryz.sizeOf57 shc zqe zy8 cmpS swoS (93) #[] g 0 cap xs.toArray w eg hcmp (hR.holdsK zqe (by decide)) hR.lt (by simp;omega)
 change Calls Tryz.prog (92) _ _ _ at hcon
 have hsz:xs.toArray.size=xs.length:=by simp
 rw [hsz] at hcon
 refine hcon.mono ?_
 rintro e w' ⟨he,d',n,os,hp,hs,hw⟩
 obtain⟨hp1,_,hp3⟩:=hp
 have hd:d'.size=xs.length:=by rw [hp1];simp
 obtain⟨h1,h2⟩:=yv7 hR zqe (by decide) n d' os hd
 rw [<-hw] at h1 h2
 refine⟨he,d'.toList,?_,?_,h1,h2⟩
 ·have e1:(d'.extract 0 xs.length)=d':=by rw [<-hd];simp
  have e2:(xs.toArray.extract 0 xs.length)=xs.toArray:=by rw [<-hsz];simp
  rw [e1,e2] at hp3
  exact hp3
 ·rw [List.pairwise_iff_getElem]
  intro i j hi hj hij
  have h3:=hs i j (Nat.zero_le _) hij (by simp at hj;omega)
  rw [getElem!_pos d' j (by simpa using hj),getElem!_pos d' i (by simpa using hi)] at h3
  exact(zj7 _ _).1 h3
set_option maxRecDepth 100000 in
theorem zwa (w:World):Calls Tryz.prog 127 #[.int .u64 0] w fun e w'=>e= .returned (.int .i64 0)/\w=w':=by
 go_enter Tryz.func127,Tryz.ntmps127
 go_wp2
 go_ret
 refine⟨?_,rfl⟩
 kernel_rfl
theorem yks (w:World):Calls Tryz.prog 101 #[.int .u64 0] w fun e w'=>e= .returned (.int .i64 0)/\w=w':=by
 go_enter Tryz.func101,Tryz.ntmps101
 go_wp2_with(go_at_call 127;refine(zwa _).mono ?_;rintro e w' ⟨rfl,rfl⟩)
 go_ret
 exact⟨rfl,rfl⟩
theorem zvn (p:Option Addr)(cap:Nat)(fv:Value)(w:World):Calls Tryz.prog 130 #[.slice p 0 cap, .int .i64 0, .int .i64 0,fv] w fun e w'=>e= .returned (.tuple #[])/\w=w':=by
 go_enter Tryz.func130,Tryz.ntmps130
 go_wp2
 go_loopg [8] 1 (fun gk iv wr=>iv= .int .i64 1/\w=wr)
 case atStart=>exact⟨rfl,rfl⟩
 case round=>
  obtain⟨rfl,rfl⟩:=hrel
  go_wp2
  go_end0
  exact⟨rfl,rfl⟩
set_option maxRecDepth 100000 in
theorem yyq (p:Option Addr)(cap:Nat)(fv:Value)(L:Int)(w:World):Calls Tryz.prog 111 #[.slice p 0 cap, .int .i64 0, .int .i64 0, .int .i64 L,fv] w fun e w'=>e= .returned (.tuple #[])/\w=w':=by
 go_enter Tryz.func111,Tryz.ntmps111
 go_wp2
 refine wp_loop_rounds 1 ?_
 rw [rounds_succ]
 go_wp2_with(go_at_call 130;refine(zvn _ _ _ _).mono ?_;rintro e w' ⟨rfl,rfl⟩)
 refine bodyPost_ret (results_none rfl _ _ _) rfl ?_
 exact⟨rfl,rfl⟩
theorem yv6 (p:Option Addr)(cap:Nat)(fv:Value)(w:World):Calls Tryz.prog 92 #[.slice p 0 cap,fv] w fun e w'=>e= .returned (.tuple #[])/\w'=w:=by
 go_enter Tryz.func92,Tryz.ntmps92
 go_wp2_with(first|(go_at_call 101;refine(yks _).mono ?_;rintro e w' ⟨rfl,rfl⟩)|(go_at_call 111;refine(yyq _ _ _ _ _).mono ?_;rintro e w' ⟨rfl,rfl⟩))
 go_end0
 exact⟨rfl,rfl⟩
def SortPost (B:Nat)(v:Value)(xs:List Sv)(w:World)(e:Ending)(w':World):Prop:=e= .returned (.tuple #[])/\ ∃ys:List Sv,ys.Perm xs/\ys.Pairwise (fun a b=> ¬b.line<a.line)/\OwnSh B w' v ys/\w.grownBy w' v.ownBlock
theorem yzn (B:Nat)(v:Value)(xs:List Sv)(w:World)(hO:OwnSh B w v xs)(hx:xs.length<100000000):
  Calls Tryz.prog 92 #[v, .func (.func (93)) #[] #[]] w (SortPost B v xs w):=by
 rcases zzt hO with⟨rfl,rfl⟩|⟨g,cap,rfl,hg,hR⟩
 ·refine(yv6 none 0 _ w).mono ?_
  rintro e w' ⟨rfl,rfl⟩
  exact⟨rfl, [],List.Perm.refl _,List.Pairwise.nil,hO,zqp _ _⟩
 ·refine(xq5 g cap xs w hR hx).mono ?_
  rintro e w' ⟨rfl,ys,h1,h2,h3,h4⟩
  refine⟨rfl,ys,h1,h2,?_,h4⟩
  have:=h3.owns zqe hg
  rw [h1.length_eq] at this
  unfold OwnSh
  rw [h1.length_eq]
  exact this
end Go.Proofs.YtchcelodeepjdaaGreatDoor.Ln
