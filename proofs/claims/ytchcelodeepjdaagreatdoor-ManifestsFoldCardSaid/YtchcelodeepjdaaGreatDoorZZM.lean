/- Lemmas and walks towards ManifestsFold. Conditions: each one tells its own. -/
import Derived.Test.YtchcelodeepjdaaGreatDoorMp
import Derived.Test.YtchcelodeepjdaaGreatDoorU2b
import Derived.Test.YtchcelodeepjdaaGreatDoorZZL
namespace Go.Proofs.YtchcelodeepjdaaGreatDoor.Ln
open Go.RowKit Go.Herb
namespace Rf
noncomputable def R10:Code:=((Tryz.f58.body.bind (zxg 10)).getD .skip)
set_option maxRecDepth 100000 in
set_option maxHeartbeats 1000000 in
theorem sh10_A {p q b o n lc i j k:Nat}{lo hi ph:ByteArray}{X:World}{u0 u2 u3 u7 u8 u9 u10 u11 u12 u13 u14 u15 u16 u17 u18 u19 u20 u21 u22 u23 u24 u25 u26 u27 u28 u29 u30 u31 u32 u33 u34 u35 u36 u37 u38 u39 u40 u41 u42 u43 u44 u45 u46 u47 u48 u49 u50 u51 u52 u53 u54 u55 u56 u57 u58 u59 u60 u61 u62 u63 u64 u65 u66 u67 u68 u69:Value}{Q:Exit->Act->World->Prop}
  (HKP:Hid (∀u,Below X.heap.size X u->u.cell? ⟨q,2,none⟩=some (.string lo)/\u.cell? ⟨q,3,none⟩=some (.string hi)/\u.cell? ⟨p,1+j,none⟩=some (.slice (some ⟨b,o,none⟩) n lc)/\u.cell? ⟨b,o+k*4+3,none⟩=some (.string ph)))
  (HK1:Hid (∀u,Calls Tryz.prog (88) #[.string lo] u fun e w'=>e= .returned (.bool false)/\w'=u))
  (hP: ∀ch a a' w',a'.defers=a.defers->Q (.panic ch) a w'->Q (.panic ch) a' w')
  (hQ: ∀(v29 v30 v31 v32 v33 v34 v35 v36 v37 v38 v39 v40 v41 v42 v43 v44 v45 v46 v47 v48 v49 v50 v51 v52 v53 v54 v55 v56 v57 v58 v59 v60 v61 v62 v63 v64 v65 v66:Value) (w':World),Below X.heap.size X w'->Q .normal ⟨#[u0, .pointer (some ⟨p,0,none⟩),u2,u3, .int .i64 (j:Int), .int .i64 (i:Int), .pointer (some ⟨q,0,none⟩),u7,u8,u9,u10,u11,u12,u13,u14,u15,u16,u17,u18,u19,u20,u21,u22,u23,u24,u25,u26,u27,u28,v29,v30,v31,v32,v33,v34,v35,v36,v37,v38,v39,v40,v41,v42,v43,v44,v45,v46,v47,v48,v49,v50,v51,v52,v53,v54,v55,v56,v57,v58,v59,v60,v61,v62,v63,v64,v65,v66, .bool true,u68,u69], []⟩ w'):
  Code.wp Tryz.prog R10 Q ⟨#[u0, .pointer (some ⟨p,0,none⟩),u2,u3, .int .i64 (j:Int), .int .i64 (i:Int), .pointer (some ⟨q,0,none⟩),u7,u8,u9,u10,u11,u12,u13,u14,u15,u16,u17,u18,u19,u20,u21,u22,u23,u24,u25,u26,u27,u28,u29,u30,u31,u32,u33,u34,u35,u36,u37,u38,u39,u40,u41,u42,u43,u44,u45,u46,u47,u48,u49,u50,u51,u52,u53,u54,u55,u56,u57,u58,u59,u60,u61,u62,u63,u64,u65,u66,u67,u68,u69], []⟩ X:=by
 conv=>arg 2;whnf
 have HP:=zh hP
 have HQ:=zh hQ
 clear hP hQ
 have HDA:=zh (show Below X.heap.size X X.drew from(Below.refl X.heap.size X).drew)
 refine wp_region_held_drew (S:=fun u=>u.cell? ⟨q,2,none⟩=some (.string lo)/\u.cell? ⟨q,3,none⟩=some (.string hi)/\u.cell? ⟨p,1+j,none⟩=some (.slice (some ⟨b,o,none⟩) n lc)/\u.cell? ⟨b,o+k*4+3,none⟩=some (.string ph)) (by kernel_rfl) (by first|exact HKP.out _ hbu|exact HKP.out _ HDA.out) (fun hHeld=> ?_)
 refine tkI HP.out 0 (h:= ?_)
 refine tkI HP.out 1 (h:= ?_)
 try simp only [Act.put,lsa,lsz,lss]
 refine tkC 2 (h:=fun K hK=> ?_)
 go_wp2_with(go_at_call 88;(with_reducible refine(HK1.out _).mono ?_);rintro e w5 ⟨rfl,rfl⟩)
 refine hK.out _ _ (by first|exact HKP.out _ hbu|exact HKP.out _ HDA.out) (fun hHeld=> ?_)
 clear hK K
 try simp only [Act.put,lsa,lsz,lss]
 refine tkI HP.out 3 (h:= ?_)
 refine tkI HP.out 4 (h:= ?_)
 refine tkO HP.out 5 (h:= ?_)
 try simp only [Act.put,lsa,lsz,lss]
 refine tkO HP.out 6 (h:= ?_)
 refine tkO HP.out 7 (h:= ?_)
 refine tkO HP.out 8 (h:= ?_)
 try simp only [Act.put,lsa,lsz,lss]
 refine tkI HP.out 9 (h:= ?_)
 refine tkI HP.out 10 (h:= ?_)
 refine tkO HP.out 11 (h:= ?_)
 try simp only [Act.put,lsa,lsz,lss]
 refine tkO HP.out 12 (h:= ?_)
 refine tkO HP.out 13 (h:= ?_)
 refine tkO HP.out 14 (h:= ?_)
 try simp only [Act.put,lsa,lsz,lss]
 refine tkO HP.out 15 (h:= ?_)
 refine tkI HP.out 16 (h:= ?_)
 refine tkI HP.out 17 (h:= ?_)
 try simp only [Act.put,lsa,lsz,lss]
 refine tkO HP.out 18 (h:= ?_)
 refine tkO HP.out 19 (h:= ?_)
 refine tkO HP.out 20 (h:= ?_)
 try simp only [Act.put,lsa,lsz,lss]
 refine tkO HP.out 21 (h:= ?_)
 refine tkO HP.out 22 (h:= ?_)
 refine tkO HP.out 23 (h:= ?_)
 try simp only [Act.put,lsa,lsz,lss]
 refine tkO HP.out 24 (h:= ?_)
 refine tkO HP.out 25 (h:= ?_)
 refine tkO HP.out 26 (h:= ?_)
 try simp only [Act.put,lsa,lsz,lss]
 refine tkO HP.out 27 (h:= ?_)
 refine tkO HP.out 28 (h:= ?_)
 refine tkO HP.out 29 (h:= ?_)
 try simp only [Act.put,lsa,lsz,lss]
 refine tkO HP.out 30 (h:= ?_)
 refine tkO HP.out 31 (h:= ?_)
 refine tkO HP.out 32 (h:= ?_)
 try simp only [Act.put,lsa,lsz,lss]
 refine tkO HP.out 33 (h:= ?_)
 refine tkO HP.out 34 (h:= ?_)
 refine tkO HP.out 35 (h:= ?_)
 try simp only [Act.put,lsa,lsz,lss]
 refine tkO HP.out 36 (h:= ?_)
 refine tkO HP.out 37 (h:= ?_)
 refine tkI HP.out 38 (h:= ?_)
 try simp only [Act.put,lsa,lsz,lss]
 try simp only [Act.put,lsa,lsz,lss]
 refine wpAnyH_done (by kernel_rfl) ?_ _
 first|exact HQ.out _ _ _ _ _ _ _ _ _ _ _ _ _ _ _ _ _ _ _ _ _ _ _ _ _ _ _ _ _ _ _ _ _ _ _ _ _ _ _ hbu|exact HQ.out _ _ _ _ _ _ _ _ _ _ _ _ _ _ _ _ _ _ _ _ _ _ _ _ _ _ _ _ _ _ _ _ _ _ _ _ _ _ _ HDA.out
set_option maxRecDepth 100000 in
set_option maxHeartbeats 1000000 in
theorem sh10_B {p q b o n lc i j k:Nat}{lo hi ph:ByteArray}{X:World}{u0 u2 u3 u7 u8 u9 u10 u11 u12 u13 u14 u15 u16 u17 u18 u19 u20 u21 u22 u23 u24 u25 u26 u27 u28 u29 u30 u31 u32 u33 u34 u35 u36 u37 u38 u39 u40 u41 u42 u43 u44 u45 u46 u47 u48 u49 u50 u51 u52 u53 u54 u55 u56 u57 u58 u59 u60 u61 u62 u63 u64 u65 u66 u67 u68 u69:Value}{Q:Exit->Act->World->Prop}
  (HKP:Hid (∀u,Below X.heap.size X u->u.cell? ⟨q,2,none⟩=some (.string lo)/\u.cell? ⟨q,3,none⟩=some (.string hi)/\u.cell? ⟨p,1+j,none⟩=some (.slice (some ⟨b,o,none⟩) n lc)/\u.cell? ⟨b,o+k*4+3,none⟩=some (.string ph)))
  (HK1:Hid (∀u,Calls Tryz.prog (88) #[.string lo] u fun e w'=>e= .returned (.bool true)/\w'=u))
  (HK2:Hid (∀u,Calls Tryz.prog (88) #[.string hi] u fun e w'=>e= .returned (.bool false)/\w'=u))
  (hP: ∀ch a a' w',a'.defers=a.defers->Q (.panic ch) a w'->Q (.panic ch) a' w')
  (hQ: ∀(v29 v30 v31 v32 v33 v34 v35 v36 v37 v38 v39 v40 v41 v42 v43 v44 v45 v46 v47 v48 v49 v50 v51 v52 v53 v54 v55 v56 v57 v58 v59 v60 v61 v62 v63 v64 v65 v66:Value) (w':World),Below X.heap.size X w'->Q .normal ⟨#[u0, .pointer (some ⟨p,0,none⟩),u2,u3, .int .i64 (j:Int), .int .i64 (i:Int), .pointer (some ⟨q,0,none⟩),u7,u8,u9,u10,u11,u12,u13,u14,u15,u16,u17,u18,u19,u20,u21,u22,u23,u24,u25,u26,u27,u28,v29,v30,v31,v32,v33,v34,v35,v36,v37,v38,v39,v40,v41,v42,v43,v44,v45,v46,v47,v48,v49,v50,v51,v52,v53,v54,v55,v56,v57,v58,v59,v60,v61,v62,v63,v64,v65,v66, .bool true,u68,u69], []⟩ w'):
  Code.wp Tryz.prog R10 Q ⟨#[u0, .pointer (some ⟨p,0,none⟩),u2,u3, .int .i64 (j:Int), .int .i64 (i:Int), .pointer (some ⟨q,0,none⟩),u7,u8,u9,u10,u11,u12,u13,u14,u15,u16,u17,u18,u19,u20,u21,u22,u23,u24,u25,u26,u27,u28,u29,u30,u31,u32,u33,u34,u35,u36,u37,u38,u39,u40,u41,u42,u43,u44,u45,u46,u47,u48,u49,u50,u51,u52,u53,u54,u55,u56,u57,u58,u59,u60,u61,u62,u63,u64,u65,u66,u67,u68,u69], []⟩ X:=by
 conv=>arg 2;whnf
 have HP:=zh hP
 have HQ:=zh hQ
 clear hP hQ
 have HDA:=zh (show Below X.heap.size X X.drew from(Below.refl X.heap.size X).drew)
 refine wp_region_held_drew (S:=fun u=>u.cell? ⟨q,2,none⟩=some (.string lo)/\u.cell? ⟨q,3,none⟩=some (.string hi)/\u.cell? ⟨p,1+j,none⟩=some (.slice (some ⟨b,o,none⟩) n lc)/\u.cell? ⟨b,o+k*4+3,none⟩=some (.string ph)) (by kernel_rfl) (by first|exact HKP.out _ hbu|exact HKP.out _ HDA.out) (fun hHeld=> ?_)
 refine tkI HP.out 0 (h:= ?_)
 refine tkI HP.out 1 (h:= ?_)
 try simp only [Act.put,lsa,lsz,lss]
 refine tkC 2 (h:=fun K hK=> ?_)
 go_wp2_with(go_at_call 88;(with_reducible refine(HK1.out _).mono ?_);rintro e w5 ⟨rfl,rfl⟩)
 refine hK.out _ _ (by first|exact HKP.out _ hbu|exact HKP.out _ HDA.out) (fun hHeld=> ?_)
 clear hK K
 try simp only [Act.put,lsa,lsz,lss]
 refine tkI HP.out 3 (h:= ?_)
 refine tkI HP.out 4 (h:= ?_)
 refine tkI HP.out 5 (h:= ?_)
 try simp only [Act.put,lsa,lsz,lss]
 refine tkI HP.out 6 (h:= ?_)
 try simp only [Act.put,lsa,lsz,lss]
 refine tkC 7 (h:=fun K hK=> ?_)
 go_wp2_with(go_at_call 88;(with_reducible refine(HK2.out _).mono ?_);rintro e w5 ⟨rfl,rfl⟩)
 refine hK.out _ _ (by first|exact HKP.out _ hbu|exact HKP.out _ HDA.out) (fun hHeld=> ?_)
 clear hK K
 refine tkI HP.out 8 (h:= ?_)
 try simp only [Act.put,lsa,lsz,lss]
 refine tkI HP.out 9 (h:= ?_)
 refine tkI HP.out 10 (h:= ?_)
 refine tkO HP.out 11 (h:= ?_)
 try simp only [Act.put,lsa,lsz,lss]
 refine tkO HP.out 12 (h:= ?_)
 refine tkO HP.out 13 (h:= ?_)
 refine tkO HP.out 14 (h:= ?_)
 try simp only [Act.put,lsa,lsz,lss]
 refine tkO HP.out 15 (h:= ?_)
 refine tkI HP.out 16 (h:= ?_)
 refine tkI HP.out 17 (h:= ?_)
 try simp only [Act.put,lsa,lsz,lss]
 refine tkO HP.out 18 (h:= ?_)
 refine tkO HP.out 19 (h:= ?_)
 refine tkO HP.out 20 (h:= ?_)
 try simp only [Act.put,lsa,lsz,lss]
 refine tkO HP.out 21 (h:= ?_)
 refine tkO HP.out 22 (h:= ?_)
 refine tkO HP.out 23 (h:= ?_)
 try simp only [Act.put,lsa,lsz,lss]
 refine tkO HP.out 24 (h:= ?_)
 refine tkO HP.out 25 (h:= ?_)
 refine tkO HP.out 26 (h:= ?_)
 try simp only [Act.put,lsa,lsz,lss]
 refine tkO HP.out 27 (h:= ?_)
 refine tkO HP.out 28 (h:= ?_)
 refine tkO HP.out 29 (h:= ?_)
 try simp only [Act.put,lsa,lsz,lss]
 refine tkO HP.out 30 (h:= ?_)
 refine tkO HP.out 31 (h:= ?_)
 refine tkO HP.out 32 (h:= ?_)
 try simp only [Act.put,lsa,lsz,lss]
 refine tkO HP.out 33 (h:= ?_)
 refine tkO HP.out 34 (h:= ?_)
 refine tkO HP.out 35 (h:= ?_)
 try simp only [Act.put,lsa,lsz,lss]
 refine tkO HP.out 36 (h:= ?_)
 refine tkO HP.out 37 (h:= ?_)
 refine tkI HP.out 38 (h:= ?_)
 try simp only [Act.put,lsa,lsz,lss]
 try simp only [Act.put,lsa,lsz,lss]
 refine wpAnyH_done (by kernel_rfl) ?_ _
 first|exact HQ.out _ _ _ _ _ _ _ _ _ _ _ _ _ _ _ _ _ _ _ _ _ _ _ _ _ _ _ _ _ _ _ _ _ _ _ _ _ _ _ hbu|exact HQ.out _ _ _ _ _ _ _ _ _ _ _ _ _ _ _ _ _ _ _ _ _ _ _ _ _ _ _ _ _ _ _ _ _ _ _ _ _ _ _ HDA.out
set_option maxRecDepth 100000 in
set_option maxHeartbeats 1000000 in
theorem sh10_C {p q b o n lc i j k:Nat}{lo hi ph:ByteArray}{X:World}{u0 u2 u3 u7 u8 u9 u10 u11 u12 u13 u14 u15 u16 u17 u18 u19 u20 u21 u22 u23 u24 u25 u26 u27 u28 u29 u30 u31 u32 u33 u34 u35 u36 u37 u38 u39 u40 u41 u42 u43 u44 u45 u46 u47 u48 u49 u50 u51 u52 u53 u54 u55 u56 u57 u58 u59 u60 u61 u62 u63 u64 u65 u66 u67 u68 u69:Value}{Q:Exit->Act->World->Prop}
  (HKP:Hid (∀u,Below X.heap.size X u->u.cell? ⟨q,2,none⟩=some (.string lo)/\u.cell? ⟨q,3,none⟩=some (.string hi)/\u.cell? ⟨p,1+j,none⟩=some (.slice (some ⟨b,o,none⟩) n lc)/\u.cell? ⟨b,o+k*4+3,none⟩=some (.string ph)))
  (HK1:Hid (∀u,Calls Tryz.prog (88) #[.string lo] u fun e w'=>e= .returned (.bool true)/\w'=u))
  (HK2:Hid (∀u,Calls Tryz.prog (88) #[.string hi] u fun e w'=>e= .returned (.bool true)/\w'=u))
  (e f:Bool) (he:Op.bytesLess lo.toList hi.toList=e) (hf:(lo.toList==hi.toList)=f) (hef:(!e&& !f)=true)
  (hP: ∀ch a a' w',a'.defers=a.defers->Q (.panic ch) a w'->Q (.panic ch) a' w')
  (hQ: ∀(v29 v30 v31 v32 v33 v34 v35 v36 v37 v38 v39 v40 v41 v42 v43 v44 v45 v46 v47 v48 v49 v50 v51 v52 v53 v54 v55 v56 v57 v58 v59 v60 v61 v62 v63 v64 v65 v66:Value) (w':World),Below X.heap.size X w'->Q .normal ⟨#[u0, .pointer (some ⟨p,0,none⟩),u2,u3, .int .i64 (j:Int), .int .i64 (i:Int), .pointer (some ⟨q,0,none⟩),u7,u8,u9,u10,u11,u12,u13,u14,u15,u16,u17,u18,u19,u20,u21,u22,u23,u24,u25,u26,u27,u28,v29,v30,v31,v32,v33,v34,v35,v36,v37,v38,v39,v40,v41,v42,v43,v44,v45,v46,v47,v48,v49,v50,v51,v52,v53,v54,v55,v56,v57,v58,v59,v60,v61,v62,v63,v64,v65,v66, .bool true,u68,u69], []⟩ w'):
  Code.wp Tryz.prog R10 Q ⟨#[u0, .pointer (some ⟨p,0,none⟩),u2,u3, .int .i64 (j:Int), .int .i64 (i:Int), .pointer (some ⟨q,0,none⟩),u7,u8,u9,u10,u11,u12,u13,u14,u15,u16,u17,u18,u19,u20,u21,u22,u23,u24,u25,u26,u27,u28,u29,u30,u31,u32,u33,u34,u35,u36,u37,u38,u39,u40,u41,u42,u43,u44,u45,u46,u47,u48,u49,u50,u51,u52,u53,u54,u55,u56,u57,u58,u59,u60,u61,u62,u63,u64,u65,u66,u67,u68,u69], []⟩ X:=by
 conv=>arg 2;whnf
 have HP:=zh hP
 have HQ:=zh hQ
 clear hP hQ
 have HDA:=zh (show Below X.heap.size X X.drew from(Below.refl X.heap.size X).drew)
 refine wp_region_held_drew (S:=fun u=>u.cell? ⟨q,2,none⟩=some (.string lo)/\u.cell? ⟨q,3,none⟩=some (.string hi)/\u.cell? ⟨p,1+j,none⟩=some (.slice (some ⟨b,o,none⟩) n lc)/\u.cell? ⟨b,o+k*4+3,none⟩=some (.string ph)) (by kernel_rfl) (by first|exact HKP.out _ hbu|exact HKP.out _ HDA.out) (fun hHeld=> ?_)
 refine tkI HP.out 0 (h:= ?_)
 refine tkI HP.out 1 (h:= ?_)
 try simp only [Act.put,lsa,lsz,lss]
 refine tkC 2 (h:=fun K hK=> ?_)
 go_wp2_with(go_at_call 88;(with_reducible refine(HK1.out _).mono ?_);rintro e w5 ⟨rfl,rfl⟩)
 refine hK.out _ _ (by first|exact HKP.out _ hbu|exact HKP.out _ HDA.out) (fun hHeld=> ?_)
 clear hK K
 try simp only [Act.put,lsa,lsz,lss]
 refine tkI HP.out 3 (h:= ?_)
 refine tkI HP.out 4 (h:= ?_)
 refine tkI HP.out 5 (h:= ?_)
 try simp only [Act.put,lsa,lsz,lss]
 refine tkI HP.out 6 (h:= ?_)
 try simp only [Act.put,lsa,lsz,lss]
 refine tkC 7 (h:=fun K hK=> ?_)
 go_wp2_with(go_at_call 88;(with_reducible refine(HK2.out _).mono ?_);rintro e w5 ⟨rfl,rfl⟩)
 refine hK.out _ _ (by first|exact HKP.out _ hbu|exact HKP.out _ HDA.out) (fun hHeld=> ?_)
 clear hK K
 refine tkI HP.out 8 (h:= ?_)
 try simp only [Act.put,lsa,lsz,lss]
 refine tkI HP.out 9 (h:= ?_)
 refine tkI HP.out 10 (h:= ?_)
 refine tkI HP.out 11 (h:= ?_)
 try simp only [Act.put,lsa,lsz,lss]
 refine tkI HP.out 12 (h:= ?_)
 refine tkI HP.out 13 (h:= ?_)
 refine tkI HP.out 14 (h:= ?_)
 try simp only [Act.put,lsa,lsz,lss]
 refine tkI HP.out 15 (h:= ?_)
 refine tkI HP.out 16 (h:= ?_)
 refine tkI HP.out 17 (h:= ?_)
 try simp only [Act.put,lsa,lsz,lss]
 refine tkO HP.out 18 (h:= ?_)
 refine tkO HP.out 19 (h:= ?_)
 refine tkO HP.out 20 (h:= ?_)
 try simp only [Act.put,lsa,lsz,lss]
 refine tkO HP.out 21 (h:= ?_)
 refine tkO HP.out 22 (h:= ?_)
 refine tkO HP.out 23 (h:= ?_)
 try simp only [Act.put,lsa,lsz,lss]
 refine tkO HP.out 24 (h:= ?_)
 refine tkO HP.out 25 (h:= ?_)
 refine tkO HP.out 26 (h:= ?_)
 try simp only [Act.put,lsa,lsz,lss]
 refine tkO HP.out 27 (h:= ?_)
 refine tkO HP.out 28 (h:= ?_)
 refine tkO HP.out 29 (h:= ?_)
 try simp only [Act.put,lsa,lsz,lss]
 refine tkO HP.out 30 (h:= ?_)
 refine tkO HP.out 31 (h:= ?_)
 refine tkO HP.out 32 (h:= ?_)
 try simp only [Act.put,lsa,lsz,lss]
 refine tkO HP.out 33 (h:= ?_)
 refine tkO HP.out 34 (h:= ?_)
 refine tkO HP.out 35 (h:= ?_)
 try simp only [Act.put,lsa,lsz,lss]
 refine tkO HP.out 36 (h:= ?_)
 refine tkO HP.out 37 (h:= ?_)
 refine tkI HP.out 38 (h:= ?_)
 try simp only [Act.put,lsa,lsz,lss]
 try simp only [Act.put,lsa,lsz,lss]
 refine wpAnyH_done (by kernel_rfl) ?_ _
 first|exact HQ.out _ _ _ _ _ _ _ _ _ _ _ _ _ _ _ _ _ _ _ _ _ _ _ _ _ _ _ _ _ _ _ _ _ _ _ _ _ _ _ hbu|exact HQ.out _ _ _ _ _ _ _ _ _ _ _ _ _ _ _ _ _ _ _ _ _ _ _ _ _ _ _ _ _ _ _ _ _ _ _ _ _ _ _ HDA.out
set_option maxRecDepth 100000 in
set_option maxHeartbeats 1000000 in
theorem sh10_D {p q b o n lc i j k:Nat}{lo hi ph:ByteArray}{X:World}{u0 u2 u3 u7 u8 u9 u10 u11 u12 u13 u14 u15 u16 u17 u18 u19 u20 u21 u22 u23 u24 u25 u26 u27 u28 u29 u30 u31 u32 u33 u34 u35 u36 u37 u38 u39 u40 u41 u42 u43 u44 u45 u46 u47 u48 u49 u50 u51 u52 u53 u54 u55 u56 u57 u58 u59 u60 u61 u62 u63 u64 u65 u66 u67 u68 u69:Value}{Q:Exit->Act->World->Prop}
  (HKP:Hid (∀u,Below X.heap.size X u->u.cell? ⟨q,2,none⟩=some (.string lo)/\u.cell? ⟨q,3,none⟩=some (.string hi)/\u.cell? ⟨p,1+j,none⟩=some (.slice (some ⟨b,o,none⟩) n lc)/\u.cell? ⟨b,o+k*4+3,none⟩=some (.string ph)))
  (HK1:Hid (∀u,Calls Tryz.prog (88) #[.string lo] u fun e w'=>e= .returned (.bool true)/\w'=u))
  (HK2:Hid (∀u,Calls Tryz.prog (88) #[.string hi] u fun e w'=>e= .returned (.bool true)/\w'=u))
  (e f:Bool) (he:Op.bytesLess lo.toList hi.toList=e) (hf:(lo.toList==hi.toList)=f) (hef:(!e&& !f)=false)
  (h0j: ¬0<j) (_dj:decide ((0:Int)<(j:Int))=false)
  (hP: ∀ch a a' w',a'.defers=a.defers->Q (.panic ch) a w'->Q (.panic ch) a' w')
  (hQ: ∀(v29 v30 v31 v32 v33 v34 v35 v36 v37 v38 v39 v40 v41 v42 v43 v44 v45 v46 v47 v48 v49 v50 v51 v52 v53 v54 v55 v56 v57 v58 v59 v60 v61 v62 v63 v64 v65 v66:Value) (w':World),Below X.heap.size X w'->Q .normal ⟨#[u0, .pointer (some ⟨p,0,none⟩),u2,u3, .int .i64 (j:Int), .int .i64 (i:Int), .pointer (some ⟨q,0,none⟩),u7,u8,u9,u10,u11,u12,u13,u14,u15,u16,u17,u18,u19,u20,u21,u22,u23,u24,u25,u26,u27,u28,v29,v30,v31,v32,v33,v34,v35,v36,v37,v38,v39,v40,v41,v42,v43,v44,v45,v46,v47,v48,v49,v50,v51,v52,v53,v54,v55,v56,v57,v58,v59,v60,v61,v62,v63,v64,v65,v66, .bool false,u68,u69], []⟩ w'):
  Code.wp Tryz.prog R10 Q ⟨#[u0, .pointer (some ⟨p,0,none⟩),u2,u3, .int .i64 (j:Int), .int .i64 (i:Int), .pointer (some ⟨q,0,none⟩),u7,u8,u9,u10,u11,u12,u13,u14,u15,u16,u17,u18,u19,u20,u21,u22,u23,u24,u25,u26,u27,u28,u29,u30,u31,u32,u33,u34,u35,u36,u37,u38,u39,u40,u41,u42,u43,u44,u45,u46,u47,u48,u49,u50,u51,u52,u53,u54,u55,u56,u57,u58,u59,u60,u61,u62,u63,u64,u65,u66,u67,u68,u69], []⟩ X:=by
 conv=>arg 2;whnf
 have HP:=zh hP
 have HQ:=zh hQ
 clear hP hQ
 have HDA:=zh (show Below X.heap.size X X.drew from(Below.refl X.heap.size X).drew)
 refine wp_region_held_drew (S:=fun u=>u.cell? ⟨q,2,none⟩=some (.string lo)/\u.cell? ⟨q,3,none⟩=some (.string hi)/\u.cell? ⟨p,1+j,none⟩=some (.slice (some ⟨b,o,none⟩) n lc)/\u.cell? ⟨b,o+k*4+3,none⟩=some (.string ph)) (by kernel_rfl) (by first|exact HKP.out _ hbu|exact HKP.out _ HDA.out) (fun hHeld=> ?_)
 refine tkI HP.out 0 (h:= ?_)
 refine tkI HP.out 1 (h:= ?_)
 try simp only [Act.put,lsa,lsz,lss]
 refine tkC 2 (h:=fun K hK=> ?_)
 go_wp2_with(go_at_call 88;(with_reducible refine(HK1.out _).mono ?_);rintro e w5 ⟨rfl,rfl⟩)
 refine hK.out _ _ (by first|exact HKP.out _ hbu|exact HKP.out _ HDA.out) (fun hHeld=> ?_)
 clear hK K
 try simp only [Act.put,lsa,lsz,lss]
 refine tkI HP.out 3 (h:= ?_)
 refine tkI HP.out 4 (h:= ?_)
 refine tkI HP.out 5 (h:= ?_)
 try simp only [Act.put,lsa,lsz,lss]
 refine tkI HP.out 6 (h:= ?_)
 try simp only [Act.put,lsa,lsz,lss]
 refine tkC 7 (h:=fun K hK=> ?_)
 go_wp2_with(go_at_call 88;(with_reducible refine(HK2.out _).mono ?_);rintro e w5 ⟨rfl,rfl⟩)
 refine hK.out _ _ (by first|exact HKP.out _ hbu|exact HKP.out _ HDA.out) (fun hHeld=> ?_)
 clear hK K
 refine tkI HP.out 8 (h:= ?_)
 try simp only [Act.put,lsa,lsz,lss]
 refine tkI HP.out 9 (h:= ?_)
 refine tkI HP.out 10 (h:= ?_)
 refine tkI HP.out 11 (h:= ?_)
 try simp only [Act.put,lsa,lsz,lss]
 refine tkI HP.out 12 (h:= ?_)
 refine tkI HP.out 13 (h:= ?_)
 refine tkI HP.out 14 (h:= ?_)
 try simp only [Act.put,lsa,lsz,lss]
 refine tkI HP.out 15 (h:= ?_)
 refine tkI HP.out 16 (h:= ?_)
 refine tkI HP.out 17 (h:= ?_)
 try simp only [Act.put,lsa,lsz,lss]
 refine tkI HP.out 18 (h:= ?_)
 refine tkI HP.out 19 (h:= ?_)
 refine tkI HP.out 20 (h:= ?_)
 try simp only [Act.put,lsa,lsz,lss]
 refine tkO HP.out 21 (h:= ?_)
 refine tkO HP.out 22 (h:= ?_)
 refine tkI HP.out 23 (h:= ?_)
 try simp only [Act.put,lsa,lsz,lss]
 refine tkI HP.out 24 (h:= ?_)
 refine tkO HP.out 25 (h:= ?_)
 refine tkO HP.out 26 (h:= ?_)
 try simp only [Act.put,lsa,lsz,lss]
 refine tkO HP.out 27 (h:= ?_)
 refine tkO HP.out 28 (h:= ?_)
 refine tkO HP.out 29 (h:= ?_)
 try simp only [Act.put,lsa,lsz,lss]
 refine tkO HP.out 30 (h:= ?_)
 refine tkO HP.out 31 (h:= ?_)
 refine tkO HP.out 32 (h:= ?_)
 try simp only [Act.put,lsa,lsz,lss]
 refine tkO HP.out 33 (h:= ?_)
 refine tkO HP.out 34 (h:= ?_)
 refine tkO HP.out 35 (h:= ?_)
 try simp only [Act.put,lsa,lsz,lss]
 refine tkO HP.out 36 (h:= ?_)
 refine tkI HP.out 37 (h:= ?_)
 refine tkI HP.out 38 (h:= ?_)
 try simp only [Act.put,lsa,lsz,lss]
 try simp only [Act.put,lsa,lsz,lss]
 refine wpAnyH_done (by kernel_rfl) ?_ _
 first|exact HQ.out _ _ _ _ _ _ _ _ _ _ _ _ _ _ _ _ _ _ _ _ _ _ _ _ _ _ _ _ _ _ _ _ _ _ _ _ _ _ _ hbu|exact HQ.out _ _ _ _ _ _ _ _ _ _ _ _ _ _ _ _ _ _ _ _ _ _ _ _ _ _ _ _ _ _ _ _ _ _ _ _ _ _ _ HDA.out
set_option maxRecDepth 100000 in
set_option maxHeartbeats 1000000 in
theorem sh10_E {p q b o n lc i j k:Nat}{lo hi ph:ByteArray}{X:World}{u0 u2 u3 u7 u8 u9 u10 u11 u12 u13 u14 u15 u16 u17 u18 u19 u20 u21 u22 u23 u24 u25 u26 u27 u28 u29 u30 u31 u32 u33 u34 u35 u36 u37 u38 u39 u40 u41 u42 u43 u44 u45 u46 u47 u48 u49 u50 u51 u52 u53 u54 u55 u56 u57 u58 u59 u60 u61 u62 u63 u64 u65 u66 u67 u68 u69:Value}{Q:Exit->Act->World->Prop}
  (HKP:Hid (∀u,Below X.heap.size X u->u.cell? ⟨q,2,none⟩=some (.string lo)/\u.cell? ⟨q,3,none⟩=some (.string hi)/\u.cell? ⟨p,1+j,none⟩=some (.slice (some ⟨b,o,none⟩) n lc)/\u.cell? ⟨b,o+k*4+3,none⟩=some (.string ph)))
  (HK1:Hid (∀u,Calls Tryz.prog (88) #[.string lo] u fun e w'=>e= .returned (.bool true)/\w'=u))
  (HK2:Hid (∀u,Calls Tryz.prog (88) #[.string hi] u fun e w'=>e= .returned (.bool true)/\w'=u))
  (e f:Bool) (he:Op.bytesLess lo.toList hi.toList=e) (hf:(lo.toList==hi.toList)=f) (hef:(!e&& !f)=false)
  (h0j:0<j) (_dj:decide ((0:Int)<(j:Int))=true)
  (h0i: ¬0<i) (_di:decide ((0:Int)<(i:Int))=false)
  (hP: ∀ch a a' w',a'.defers=a.defers->Q (.panic ch) a w'->Q (.panic ch) a' w')
  (hQ: ∀(v29 v30 v31 v32 v33 v34 v35 v36 v37 v38 v39 v40 v41 v42 v43 v44 v45 v46 v47 v48 v49 v50 v51 v52 v53 v54 v55 v56 v57 v58 v59 v60 v61 v62 v63 v64 v65 v66:Value) (w':World),Below X.heap.size X w'->Q .normal ⟨#[u0, .pointer (some ⟨p,0,none⟩),u2,u3, .int .i64 (j:Int), .int .i64 (i:Int), .pointer (some ⟨q,0,none⟩),u7,u8,u9,u10,u11,u12,u13,u14,u15,u16,u17,u18,u19,u20,u21,u22,u23,u24,u25,u26,u27,u28,v29,v30,v31,v32,v33,v34,v35,v36,v37,v38,v39,v40,v41,v42,v43,v44,v45,v46,v47,v48,v49,v50,v51,v52,v53,v54,v55,v56,v57,v58,v59,v60,v61,v62,v63,v64,v65,v66, .bool false,u68,u69], []⟩ w'):
  Code.wp Tryz.prog R10 Q ⟨#[u0, .pointer (some ⟨p,0,none⟩),u2,u3, .int .i64 (j:Int), .int .i64 (i:Int), .pointer (some ⟨q,0,none⟩),u7,u8,u9,u10,u11,u12,u13,u14,u15,u16,u17,u18,u19,u20,u21,u22,u23,u24,u25,u26,u27,u28,u29,u30,u31,u32,u33,u34,u35,u36,u37,u38,u39,u40,u41,u42,u43,u44,u45,u46,u47,u48,u49,u50,u51,u52,u53,u54,u55,u56,u57,u58,u59,u60,u61,u62,u63,u64,u65,u66,u67,u68,u69], []⟩ X:=by
 conv=>arg 2;whnf
 have HP:=zh hP
 have HQ:=zh hQ
 clear hP hQ
 have HDA:=zh (show Below X.heap.size X X.drew from(Below.refl X.heap.size X).drew)
 refine wp_region_held_drew (S:=fun u=>u.cell? ⟨q,2,none⟩=some (.string lo)/\u.cell? ⟨q,3,none⟩=some (.string hi)/\u.cell? ⟨p,1+j,none⟩=some (.slice (some ⟨b,o,none⟩) n lc)/\u.cell? ⟨b,o+k*4+3,none⟩=some (.string ph)) (by kernel_rfl) (by first|exact HKP.out _ hbu|exact HKP.out _ HDA.out) (fun hHeld=> ?_)
 refine tkI HP.out 0 (h:= ?_)
 refine tkI HP.out 1 (h:= ?_)
 try simp only [Act.put,lsa,lsz,lss]
 refine tkC 2 (h:=fun K hK=> ?_)
 go_wp2_with(go_at_call 88;(with_reducible refine(HK1.out _).mono ?_);rintro e w5 ⟨rfl,rfl⟩)
 refine hK.out _ _ (by first|exact HKP.out _ hbu|exact HKP.out _ HDA.out) (fun hHeld=> ?_)
 clear hK K
 try simp only [Act.put,lsa,lsz,lss]
 refine tkI HP.out 3 (h:= ?_)
 refine tkI HP.out 4 (h:= ?_)
 refine tkI HP.out 5 (h:= ?_)
 try simp only [Act.put,lsa,lsz,lss]
 refine tkI HP.out 6 (h:= ?_)
 try simp only [Act.put,lsa,lsz,lss]
 refine tkC 7 (h:=fun K hK=> ?_)
 go_wp2_with(go_at_call 88;(with_reducible refine(HK2.out _).mono ?_);rintro e w5 ⟨rfl,rfl⟩)
 refine hK.out _ _ (by first|exact HKP.out _ hbu|exact HKP.out _ HDA.out) (fun hHeld=> ?_)
 clear hK K
 refine tkI HP.out 8 (h:= ?_)
 try simp only [Act.put,lsa,lsz,lss]
 refine tkI HP.out 9 (h:= ?_)
 refine tkI HP.out 10 (h:= ?_)
 refine tkI HP.out 11 (h:= ?_)
 try simp only [Act.put,lsa,lsz,lss]
 refine tkI HP.out 12 (h:= ?_)
 refine tkI HP.out 13 (h:= ?_)
 refine tkI HP.out 14 (h:= ?_)
 try simp only [Act.put,lsa,lsz,lss]
 refine tkI HP.out 15 (h:= ?_)
 refine tkI HP.out 16 (h:= ?_)
 refine tkI HP.out 17 (h:= ?_)
 try simp only [Act.put,lsa,lsz,lss]
 refine tkI HP.out 18 (h:= ?_)
 refine tkI HP.out 19 (h:= ?_)
 refine tkI HP.out 20 (h:= ?_)
 try simp only [Act.put,lsa,lsz,lss]
 refine tkI HP.out 21 (h:= ?_)
 refine tkI HP.out 22 (h:= ?_)
 refine tkI HP.out 23 (h:= ?_)
 try simp only [Act.put,lsa,lsz,lss]
 refine tkI HP.out 24 (h:= ?_)
 refine tkO HP.out 25 (h:= ?_)
 refine tkO HP.out 26 (h:= ?_)
 try simp only [Act.put,lsa,lsz,lss]
 refine tkO HP.out 27 (h:= ?_)
 refine tkO HP.out 28 (h:= ?_)
 refine tkO HP.out 29 (h:= ?_)
 try simp only [Act.put,lsa,lsz,lss]
 refine tkO HP.out 30 (h:= ?_)
 refine tkO HP.out 31 (h:= ?_)
 refine tkO HP.out 32 (h:= ?_)
 try simp only [Act.put,lsa,lsz,lss]
 refine tkO HP.out 33 (h:= ?_)
 refine tkO HP.out 34 (h:= ?_)
 refine tkO HP.out 35 (h:= ?_)
 try simp only [Act.put,lsa,lsz,lss]
 refine tkO HP.out 36 (h:= ?_)
 refine tkI HP.out 37 (h:= ?_)
 refine tkI HP.out 38 (h:= ?_)
 try simp only [Act.put,lsa,lsz,lss]
 try simp only [Act.put,lsa,lsz,lss]
 refine wpAnyH_done (by kernel_rfl) ?_ _
 first|exact HQ.out _ _ _ _ _ _ _ _ _ _ _ _ _ _ _ _ _ _ _ _ _ _ _ _ _ _ _ _ _ _ _ _ _ _ _ _ _ _ _ hbu|exact HQ.out _ _ _ _ _ _ _ _ _ _ _ _ _ _ _ _ _ _ _ _ _ _ _ _ _ _ _ _ _ _ _ _ _ _ _ _ _ _ _ HDA.out
set_option maxRecDepth 100000 in
set_option maxHeartbeats 1000000 in
theorem sh10_F {p q b o n lc i j k:Nat}{lo hi ph:ByteArray}{X:World}{u0 u2 u3 u7 u8 u9 u10 u11 u12 u13 u14 u15 u16 u17 u18 u19 u20 u21 u22 u23 u24 u25 u26 u27 u28 u29 u30 u31 u32 u33 u34 u35 u36 u37 u38 u39 u40 u41 u42 u43 u44 u45 u46 u47 u48 u49 u50 u51 u52 u53 u54 u55 u56 u57 u58 u59 u60 u61 u62 u63 u64 u65 u66 u67 u68 u69:Value}{Q:Exit->Act->World->Prop}
  (HKP:Hid (∀u,Below X.heap.size X u->u.cell? ⟨q,2,none⟩=some (.string lo)/\u.cell? ⟨q,3,none⟩=some (.string hi)/\u.cell? ⟨p,1+j,none⟩=some (.slice (some ⟨b,o,none⟩) n lc)/\u.cell? ⟨b,o+k*4+3,none⟩=some (.string ph)))
  (HK1:Hid (∀u,Calls Tryz.prog (88) #[.string lo] u fun e w'=>e= .returned (.bool true)/\w'=u))
  (HK2:Hid (∀u,Calls Tryz.prog (88) #[.string hi] u fun e w'=>e= .returned (.bool true)/\w'=u))
  (e f:Bool) (he:Op.bytesLess lo.toList hi.toList=e) (hf:(lo.toList==hi.toList)=f) (hef:(!e&& !f)=false)
  (h0j:0<j) (_dj:decide ((0:Int)<(j:Int))=true)
  (h0i:0<i) (_di:decide ((0:Int)<(i:Int))=true)
  (hwk:IntKind.i64.wrap ((i:Int) - 1)=(k:Int)) (hk0:(0:Int)<=(k:Int)) (hk1:(k:Int)<(n:Int)) (hj0:(0:Int)<=(j:Int)) (hj1:(j:Int)<3)
  (g:Bool) (hg:Op.bytesLess ph.toList lo.toList=g)
  (hP: ∀ch a a' w',a'.defers=a.defers->Q (.panic ch) a w'->Q (.panic ch) a' w')
  (hQ: ∀(v29 v30 v31 v32 v33 v34 v35 v36 v37 v38 v39 v40 v41 v42 v43 v44 v45 v46 v47 v48 v49 v50 v51 v52 v53 v54 v55 v56 v57 v58 v59 v60 v61 v62 v63 v64 v65 v66:Value) (w':World),Below X.heap.size X w'->Q .normal ⟨#[u0, .pointer (some ⟨p,0,none⟩),u2,u3, .int .i64 (j:Int), .int .i64 (i:Int), .pointer (some ⟨q,0,none⟩),u7,u8,u9,u10,u11,u12,u13,u14,u15,u16,u17,u18,u19,u20,u21,u22,u23,u24,u25,u26,u27,u28,v29,v30,v31,v32,v33,v34,v35,v36,v37,v38,v39,v40,v41,v42,v43,v44,v45,v46,v47,v48,v49,v50,v51,v52,v53,v54,v55,v56,v57,v58,v59,v60,v61,v62,v63,v64,v65,v66, .bool (!g),u68,u69], []⟩ w'):
  Code.wp Tryz.prog R10 Q ⟨#[u0, .pointer (some ⟨p,0,none⟩),u2,u3, .int .i64 (j:Int), .int .i64 (i:Int), .pointer (some ⟨q,0,none⟩),u7,u8,u9,u10,u11,u12,u13,u14,u15,u16,u17,u18,u19,u20,u21,u22,u23,u24,u25,u26,u27,u28,u29,u30,u31,u32,u33,u34,u35,u36,u37,u38,u39,u40,u41,u42,u43,u44,u45,u46,u47,u48,u49,u50,u51,u52,u53,u54,u55,u56,u57,u58,u59,u60,u61,u62,u63,u64,u65,u66,u67,u68,u69], []⟩ X:=by
 conv=>arg 2;whnf
 have HP:=zh hP
 have HQ:=zh hQ
 clear hP hQ
 have HDA:=zh (show Below X.heap.size X X.drew from(Below.refl X.heap.size X).drew)
 refine wp_region_held_drew (S:=fun u=>u.cell? ⟨q,2,none⟩=some (.string lo)/\u.cell? ⟨q,3,none⟩=some (.string hi)/\u.cell? ⟨p,1+j,none⟩=some (.slice (some ⟨b,o,none⟩) n lc)/\u.cell? ⟨b,o+k*4+3,none⟩=some (.string ph)) (by kernel_rfl) (by first|exact HKP.out _ hbu|exact HKP.out _ HDA.out) (fun hHeld=> ?_)
 refine tkI HP.out 0 (h:= ?_)
 refine tkI HP.out 1 (h:= ?_)
 try simp only [Act.put,lsa,lsz,lss]
 refine tkC 2 (h:=fun K hK=> ?_)
 go_wp2_with(go_at_call 88;(with_reducible refine(HK1.out _).mono ?_);rintro e w5 ⟨rfl,rfl⟩)
 refine hK.out _ _ (by first|exact HKP.out _ hbu|exact HKP.out _ HDA.out) (fun hHeld=> ?_)
 clear hK K
 try simp only [Act.put,lsa,lsz,lss]
 refine tkI HP.out 3 (h:= ?_)
 refine tkI HP.out 4 (h:= ?_)
 refine tkI HP.out 5 (h:= ?_)
 try simp only [Act.put,lsa,lsz,lss]
 refine tkI HP.out 6 (h:= ?_)
 try simp only [Act.put,lsa,lsz,lss]
 refine tkC 7 (h:=fun K hK=> ?_)
 go_wp2_with(go_at_call 88;(with_reducible refine(HK2.out _).mono ?_);rintro e w5 ⟨rfl,rfl⟩)
 refine hK.out _ _ (by first|exact HKP.out _ hbu|exact HKP.out _ HDA.out) (fun hHeld=> ?_)
 clear hK K
 refine tkI HP.out 8 (h:= ?_)
 try simp only [Act.put,lsa,lsz,lss]
 refine tkI HP.out 9 (h:= ?_)
 refine tkI HP.out 10 (h:= ?_)
 refine tkI HP.out 11 (h:= ?_)
 try simp only [Act.put,lsa,lsz,lss]
 refine tkI HP.out 12 (h:= ?_)
 refine tkI HP.out 13 (h:= ?_)
 refine tkI HP.out 14 (h:= ?_)
 try simp only [Act.put,lsa,lsz,lss]
 refine tkI HP.out 15 (h:= ?_)
 refine tkI HP.out 16 (h:= ?_)
 refine tkI HP.out 17 (h:= ?_)
 try simp only [Act.put,lsa,lsz,lss]
 refine tkI HP.out 18 (h:= ?_)
 refine tkI HP.out 19 (h:= ?_)
 refine tkI HP.out 20 (h:= ?_)
 try simp only [Act.put,lsa,lsz,lss]
 refine tkI HP.out 21 (h:= ?_)
 refine tkI HP.out 22 (h:= ?_)
 refine tkI HP.out 23 (h:= ?_)
 try simp only [Act.put,lsa,lsz,lss]
 refine tkI HP.out 24 (h:= ?_)
 refine tkI HP.out 25 (h:= ?_)
 refine tkI HP.out 26 (h:= ?_)
 try simp only [Act.put,lsa,lsz,lss]
 refine tkI HP.out 27 (h:= ?_)
 refine tkI HP.out 28 (h:= ?_)
 refine tkI HP.out 29 (h:= ?_)
 try simp only [Act.put,lsa,lsz,lss]
 refine tkI HP.out 30 (h:= ?_)
 refine tkI HP.out 31 (h:= ?_)
 refine tkI HP.out 32 (h:= ?_)
 try simp only [Act.put,lsa,lsz,lss]
 refine tkI HP.out 33 (h:= ?_)
 refine tkI HP.out 34 (h:= ?_)
 refine tkI HP.out 35 (h:= ?_)
 try simp only [Act.put,lsa,lsz,lss]
 refine tkI HP.out 36 (h:= ?_)
 refine tkI HP.out 37 (h:= ?_)
 refine tkI HP.out 38 (h:= ?_)
 try simp only [Act.put,lsa,lsz,lss]
 try simp only [Act.put,lsa,lsz,lss]
 refine wpAnyH_done (by kernel_rfl) ?_ _
 first|exact HQ.out _ _ _ _ _ _ _ _ _ _ _ _ _ _ _ _ _ _ _ _ _ _ _ _ _ _ _ _ _ _ _ _ _ _ _ _ _ _ _ hbu|exact HQ.out _ _ _ _ _ _ _ _ _ _ _ _ _ _ _ _ _ _ _ _ _ _ _ _ _ _ _ _ _ _ _ _ _ _ _ _ _ _ _ HDA.out
def badT (j i:Nat)(lo hi ph:ByteArray):Bool:= !keyB lo||(!keyB hi||((!Op.bytesLess lo.toList hi.toList&& !(lo.toList==hi.toList))||(decide (0<j)&&(decide (0<i)&& !Op.bytesLess ph.toList lo.toList))))
theorem sh10_all {p q b o n lc i j k:Nat}{lo hi ph:ByteArray}{X:World}{u0 u2 u3 u7 u8 u9 u10 u11 u12 u13 u14 u15 u16 u17 u18 u19 u20 u21 u22 u23 u24 u25 u26 u27 u28 u29 u30 u31 u32 u33 u34 u35 u36 u37 u38 u39 u40 u41 u42 u43 u44 u45 u46 u47 u48 u49 u50 u51 u52 u53 u54 u55 u56 u57 u58 u59 u60 u61 u62 u63 u64 u65 u66 u67 u68 u69:Value}{Q:Exit->Act->World->Prop}
  (HKP:Hid (∀u,Below X.heap.size X u->u.cell? ⟨q,2,none⟩=some (.string lo)/\u.cell? ⟨q,3,none⟩=some (.string hi)/\u.cell? ⟨p,1+j,none⟩=some (.slice (some ⟨b,o,none⟩) n lc)/\u.cell? ⟨b,o+k*4+3,none⟩=some (.string ph)))
  (hwk:0<i->IntKind.i64.wrap ((i:Int) - 1)=(k:Int)) (hk0:(0:Int)<=(k:Int)) (hk1:(k:Int)<(n:Int)) (hj0:(0:Int)<=(j:Int)) (hj1:(j:Int)<3)
  (hP: ∀ch a a' w',a'.defers=a.defers->Q (.panic ch) a w'->Q (.panic ch) a' w')
  (hQ: ∀(v29 v30 v31 v32 v33 v34 v35 v36 v37 v38 v39 v40 v41 v42 v43 v44 v45 v46 v47 v48 v49 v50 v51 v52 v53 v54 v55 v56 v57 v58 v59 v60 v61 v62 v63 v64 v65 v66:Value) (w':World),Below X.heap.size X w'->Q .normal ⟨#[u0, .pointer (some ⟨p,0,none⟩),u2,u3, .int .i64 (j:Int), .int .i64 (i:Int), .pointer (some ⟨q,0,none⟩),u7,u8,u9,u10,u11,u12,u13,u14,u15,u16,u17,u18,u19,u20,u21,u22,u23,u24,u25,u26,u27,u28,v29,v30,v31,v32,v33,v34,v35,v36,v37,v38,v39,v40,v41,v42,v43,v44,v45,v46,v47,v48,v49,v50,v51,v52,v53,v54,v55,v56,v57,v58,v59,v60,v61,v62,v63,v64,v65,v66, .bool (badT j i lo hi ph),u68,u69], []⟩ w'):
  Code.wp Tryz.prog R10 Q ⟨#[u0, .pointer (some ⟨p,0,none⟩),u2,u3, .int .i64 (j:Int), .int .i64 (i:Int), .pointer (some ⟨q,0,none⟩),u7,u8,u9,u10,u11,u12,u13,u14,u15,u16,u17,u18,u19,u20,u21,u22,u23,u24,u25,u26,u27,u28,u29,u30,u31,u32,u33,u34,u35,u36,u37,u38,u39,u40,u41,u42,u43,u44,u45,u46,u47,u48,u49,u50,u51,u52,u53,u54,u55,u56,u57,u58,u59,u60,u61,u62,u63,u64,u65,u66,u67,u68,u69], []⟩ X:=by
 have HK: ∀(s:ByteArray) (x:Bool),keyB s=x->Hid (∀u,Calls Tryz.prog (88) #[.string s] u fun e w'=>e= .returned (.bool x)/\w'=u):=fun s x hx=>zh (fun u=>by rw [<-hx];exact yv1 s u)
 cases h1:keyB lo with
 |false=>exact sh10_A HKP (HK _ _ h1) hP (by simpa only [badT,h1,Bool.not_false,Bool.true_or] using hQ)
 |true=>
  cases h2:keyB hi with
  |false=>exact sh10_B HKP (HK _ _ h1) (HK _ _ h2) hP (by simpa only [badT,h1,h2,Bool.not_false,Bool.not_true,Bool.true_or,Bool.false_or] using hQ)
  |true=>
   have hb:badT j i lo hi ph=((!Op.bytesLess lo.toList hi.toList&& !(lo.toList==hi.toList))||(decide (0<j)&&(decide (0<i)&& !Op.bytesLess ph.toList lo.toList))):=by simp only [badT,h1,h2,Bool.not_true,Bool.false_or]
   rw [hb] at hQ
   cases h3:(!Op.bytesLess lo.toList hi.toList&& !(lo.toList==hi.toList))with
   |true=>exact sh10_C HKP (HK _ _ h1) (HK _ _ h2) _ _ rfl rfl h3 hP (by simpa only [h3,Bool.true_or] using hQ)
   |false=>
    rw [h3,Bool.false_or] at hQ
    by_cases h4:0<j
    ·have d4:decide ((0:Int)<(j:Int))=true:=decide_eq_true (by omega)
     rw [decide_eq_true h4,Bool.true_and] at hQ
     by_cases h5:0<i
     ·have d5:decide ((0:Int)<(i:Int))=true:=decide_eq_true (by omega)
      rw [decide_eq_true h5,Bool.true_and] at hQ
      exact sh10_F HKP (HK _ _ h1) (HK _ _ h2) _ _ rfl rfl h3 h4 d4 h5 d5 (hwk h5) hk0 hk1 hj0 hj1 _ rfl hP hQ
     ·have d5:decide ((0:Int)<(i:Int))=false:=decide_eq_false (by omega)
      rw [decide_eq_false h5,Bool.false_and] at hQ
      exact sh10_E HKP (HK _ _ h1) (HK _ _ h2) _ _ rfl rfl h3 h4 d4 h5 d5 hP hQ
    ·have d4:decide ((0:Int)<(j:Int))=false:=decide_eq_false (by omega)
     rw [decide_eq_false h4,Bool.false_and] at hQ
     exact sh10_D HKP (HK _ _ h1) (HK _ _ h2) _ _ rfl rfl h3 h4 d4 hP hQ
end Rf
end Go.Proofs.YtchcelodeepjdaaGreatDoor.Ln
