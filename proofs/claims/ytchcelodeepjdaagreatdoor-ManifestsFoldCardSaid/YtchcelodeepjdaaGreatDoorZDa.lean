/- Lemmas and walks towards ManifestsFold. Conditions: each one tells its own. -/
import Derived.Test.YtchcelodeepjdaaGreatDoorMp
import Derived.Test.YtchcelodeepjdaaGreatDoorLN9d
import Derived.Test.YtchcelodeepjdaaGreatDoorU2b
import Derived.Sort.Walk0
import Derived.Deep.RegionHeld3
namespace Go.Proofs.YtchcelodeepjdaaGreatDoor.Ln
open Go.RowKit Go.Herb
namespace Mf
noncomputable def R9:Code:=((Tryz.f77.body.bind (zxg 9)).getD .skip)
set_option maxRecDepth 100000 in
set_option maxHeartbeats 1000000 in
theorem may9_A {p b o n lc i j k:Nat}{lo hi ph:ByteArray}{X:World}{u0 u1 u2 u3 u8 u9 u10 u11 u12 u13 u14 u15 u16 u17 u18 u19 u20 u21 u22 u23 u24 u25 u26 u27 u28 u29 u30 u31 u32 u33 u34 u35 u36 u37 u38 u39 u40 u41 u42 u43 u44 u45 u46 u47 u48 u49 u50 u51 u52 u53 u54 u55 u56 u57 u58 u59 u60 u61 u62 u63 u64:Value}{Q:Exit->Act->World->Prop}
  (HKP:Hid (∀u,Below X.heap.size X u->u.cell? ⟨p,2,none⟩=some (.string lo)/\u.cell? ⟨p,3,none⟩=some (.string hi)/\u.cell? ⟨b,o+k*4+3,none⟩=some (.string ph)))
  (HK1:Hid (∀u,Calls Tryz.prog (102) #[.string lo] u fun e w'=>e= .returned (.bool false)/\w'=u))
  (hP: ∀ch a a' w',a'.defers=a.defers->Q (.panic ch) a w'->Q (.panic ch) a' w')
  (hQ: ∀(v25 v26 v27 v28 v29 v30 v31 v32 v33 v34 v35 v36 v37 v38 v39 v40 v41 v42 v43 v44 v45 v46 v47 v48 v49 v50 v51 v52 v53 v54 v55 v56 v57 v58 v59:Value) (w':World),Below X.heap.size X w'->Q .normal ⟨#[u0,u1,u2,u3, .int .i64 (j:Int), .slice (some ⟨b,o,none⟩) n lc, .int .i64 (i:Int), .pointer (some ⟨p,0,none⟩),u8,u9,u10,u11,u12,u13,u14,u15,u16,u17,u18,u19,u20,u21,u22,u23,u24,v25,v26,v27,v28,v29,v30,v31,v32,v33,v34,v35,v36,v37,v38,v39,v40,v41,v42,v43,v44,v45,v46,v47,v48,v49,v50,v51,v52,v53,v54,v55,v56,v57,v58,v59, .bool true,u61,u62,u63,u64], []⟩ w'):
  Code.wp Tryz.prog R9 Q ⟨#[u0,u1,u2,u3, .int .i64 (j:Int), .slice (some ⟨b,o,none⟩) n lc, .int .i64 (i:Int), .pointer (some ⟨p,0,none⟩),u8,u9,u10,u11,u12,u13,u14,u15,u16,u17,u18,u19,u20,u21,u22,u23,u24,u25,u26,u27,u28,u29,u30,u31,u32,u33,u34,u35,u36,u37,u38,u39,u40,u41,u42,u43,u44,u45,u46,u47,u48,u49,u50,u51,u52,u53,u54,u55,u56,u57,u58,u59,u60,u61,u62,u63,u64], []⟩ X:=by
 conv=>arg 2;whnf
 have HP:=zh hP
 have HQ:=zh hQ
 clear hP hQ
 have HDA:=zh (show Below X.heap.size X X.drew from(Below.refl X.heap.size X).drew)
 refine wp_region_held_drew (S:=fun u=>u.cell? ⟨p,2,none⟩=some (.string lo)/\u.cell? ⟨p,3,none⟩=some (.string hi)/\u.cell? ⟨b,o+k*4+3,none⟩=some (.string ph)) (by kernel_rfl) (by first|exact HKP.out _ hbu|exact HKP.out _ HDA.out) (fun hHeld=> ?_)
 refine tkI HP.out 0 (h:= ?_)
 refine tkI HP.out 1 (h:= ?_)
 try simp only [Act.put,lsa,lsz,lss]
 refine tkC 2 (h:=fun K hK=> ?_)
 go_wp2_with(go_at_call 102;(with_reducible refine(HK1.out _).mono ?_);rintro e w5 ⟨rfl,rfl⟩)
 refine hK.out _ _ (by first|exact HKP.out _ hbu|exact HKP.out _ HDA.out) (fun hHeld=> ?_)
 clear hK K
 try simp only [Act.put,lsa,lsz,lss]
 refine tkI HP.out 3 (h:= ?_)
 refine tkI HP.out 4 (h:= ?_)
 refine tkO HP.out 5 (h:= ?_)
 try simp only [Act.put,lsa,lsz,lss]
 refine tkO HP.out 6 (h:= ?_)
 refine tkO HP.out 7 (h:= ?_)
 refine tkO HP.out 8 (h:= ?_)
 try simp only [Act.put,lsa,lsz,lss]
 refine tkI HP.out 9 (h:= ?_)
 refine tkI HP.out 10 (h:= ?_)
 refine tkO HP.out 11 (h:= ?_)
 try simp only [Act.put,lsa,lsz,lss]
 refine tkO HP.out 12 (h:= ?_)
 refine tkO HP.out 13 (h:= ?_)
 refine tkO HP.out 14 (h:= ?_)
 try simp only [Act.put,lsa,lsz,lss]
 refine tkO HP.out 15 (h:= ?_)
 refine tkI HP.out 16 (h:= ?_)
 refine tkI HP.out 17 (h:= ?_)
 try simp only [Act.put,lsa,lsz,lss]
 refine tkO HP.out 18 (h:= ?_)
 refine tkO HP.out 19 (h:= ?_)
 refine tkO HP.out 20 (h:= ?_)
 try simp only [Act.put,lsa,lsz,lss]
 refine tkO HP.out 21 (h:= ?_)
 refine tkO HP.out 22 (h:= ?_)
 refine tkO HP.out 23 (h:= ?_)
 try simp only [Act.put,lsa,lsz,lss]
 refine tkO HP.out 24 (h:= ?_)
 refine tkO HP.out 25 (h:= ?_)
 refine tkO HP.out 26 (h:= ?_)
 try simp only [Act.put,lsa,lsz,lss]
 refine tkO HP.out 27 (h:= ?_)
 refine tkO HP.out 28 (h:= ?_)
 refine tkO HP.out 29 (h:= ?_)
 try simp only [Act.put,lsa,lsz,lss]
 refine tkO HP.out 30 (h:= ?_)
 refine tkO HP.out 31 (h:= ?_)
 refine tkO HP.out 32 (h:= ?_)
 try simp only [Act.put,lsa,lsz,lss]
 refine tkO HP.out 33 (h:= ?_)
 refine tkO HP.out 34 (h:= ?_)
 refine tkI HP.out 35 (h:= ?_)
 try simp only [Act.put,lsa,lsz,lss]
 try simp only [Act.put,lsa,lsz,lss]
 refine wpAnyH_done (by kernel_rfl) ?_ _
 first|exact HQ.out _ _ _ _ _ _ _ _ _ _ _ _ _ _ _ _ _ _ _ _ _ _ _ _ _ _ _ _ _ _ _ _ _ _ _ _ hbu|exact HQ.out _ _ _ _ _ _ _ _ _ _ _ _ _ _ _ _ _ _ _ _ _ _ _ _ _ _ _ _ _ _ _ _ _ _ _ _ HDA.out
set_option maxRecDepth 100000 in
set_option maxHeartbeats 1000000 in
theorem may9_B {p b o n lc i j k:Nat}{lo hi ph:ByteArray}{X:World}{u0 u1 u2 u3 u8 u9 u10 u11 u12 u13 u14 u15 u16 u17 u18 u19 u20 u21 u22 u23 u24 u25 u26 u27 u28 u29 u30 u31 u32 u33 u34 u35 u36 u37 u38 u39 u40 u41 u42 u43 u44 u45 u46 u47 u48 u49 u50 u51 u52 u53 u54 u55 u56 u57 u58 u59 u60 u61 u62 u63 u64:Value}{Q:Exit->Act->World->Prop}
  (HKP:Hid (∀u,Below X.heap.size X u->u.cell? ⟨p,2,none⟩=some (.string lo)/\u.cell? ⟨p,3,none⟩=some (.string hi)/\u.cell? ⟨b,o+k*4+3,none⟩=some (.string ph)))
  (HK1:Hid (∀u,Calls Tryz.prog (102) #[.string lo] u fun e w'=>e= .returned (.bool true)/\w'=u))
  (HK2:Hid (∀u,Calls Tryz.prog (102) #[.string hi] u fun e w'=>e= .returned (.bool false)/\w'=u))
  (hP: ∀ch a a' w',a'.defers=a.defers->Q (.panic ch) a w'->Q (.panic ch) a' w')
  (hQ: ∀(v25 v26 v27 v28 v29 v30 v31 v32 v33 v34 v35 v36 v37 v38 v39 v40 v41 v42 v43 v44 v45 v46 v47 v48 v49 v50 v51 v52 v53 v54 v55 v56 v57 v58 v59:Value) (w':World),Below X.heap.size X w'->Q .normal ⟨#[u0,u1,u2,u3, .int .i64 (j:Int), .slice (some ⟨b,o,none⟩) n lc, .int .i64 (i:Int), .pointer (some ⟨p,0,none⟩),u8,u9,u10,u11,u12,u13,u14,u15,u16,u17,u18,u19,u20,u21,u22,u23,u24,v25,v26,v27,v28,v29,v30,v31,v32,v33,v34,v35,v36,v37,v38,v39,v40,v41,v42,v43,v44,v45,v46,v47,v48,v49,v50,v51,v52,v53,v54,v55,v56,v57,v58,v59, .bool true,u61,u62,u63,u64], []⟩ w'):
  Code.wp Tryz.prog R9 Q ⟨#[u0,u1,u2,u3, .int .i64 (j:Int), .slice (some ⟨b,o,none⟩) n lc, .int .i64 (i:Int), .pointer (some ⟨p,0,none⟩),u8,u9,u10,u11,u12,u13,u14,u15,u16,u17,u18,u19,u20,u21,u22,u23,u24,u25,u26,u27,u28,u29,u30,u31,u32,u33,u34,u35,u36,u37,u38,u39,u40,u41,u42,u43,u44,u45,u46,u47,u48,u49,u50,u51,u52,u53,u54,u55,u56,u57,u58,u59,u60,u61,u62,u63,u64], []⟩ X:=by
 conv=>arg 2;whnf
 have HP:=zh hP
 have HQ:=zh hQ
 clear hP hQ
 have HDA:=zh (show Below X.heap.size X X.drew from(Below.refl X.heap.size X).drew)
 refine wp_region_held_drew (S:=fun u=>u.cell? ⟨p,2,none⟩=some (.string lo)/\u.cell? ⟨p,3,none⟩=some (.string hi)/\u.cell? ⟨b,o+k*4+3,none⟩=some (.string ph)) (by kernel_rfl) (by first|exact HKP.out _ hbu|exact HKP.out _ HDA.out) (fun hHeld=> ?_)
 refine tkI HP.out 0 (h:= ?_)
 refine tkI HP.out 1 (h:= ?_)
 try simp only [Act.put,lsa,lsz,lss]
 refine tkC 2 (h:=fun K hK=> ?_)
 go_wp2_with(go_at_call 102;(with_reducible refine(HK1.out _).mono ?_);rintro e w5 ⟨rfl,rfl⟩)
 refine hK.out _ _ (by first|exact HKP.out _ hbu|exact HKP.out _ HDA.out) (fun hHeld=> ?_)
 clear hK K
 try simp only [Act.put,lsa,lsz,lss]
 refine tkI HP.out 3 (h:= ?_)
 refine tkI HP.out 4 (h:= ?_)
 refine tkI HP.out 5 (h:= ?_)
 try simp only [Act.put,lsa,lsz,lss]
 refine tkI HP.out 6 (h:= ?_)
 try simp only [Act.put,lsa,lsz,lss]
 refine tkC 7 (h:=fun K hK=> ?_)
 go_wp2_with(go_at_call 102;(with_reducible refine(HK2.out _).mono ?_);rintro e w5 ⟨rfl,rfl⟩)
 refine hK.out _ _ (by first|exact HKP.out _ hbu|exact HKP.out _ HDA.out) (fun hHeld=> ?_)
 clear hK K
 refine tkI HP.out 8 (h:= ?_)
 try simp only [Act.put,lsa,lsz,lss]
 refine tkI HP.out 9 (h:= ?_)
 refine tkI HP.out 10 (h:= ?_)
 refine tkO HP.out 11 (h:= ?_)
 try simp only [Act.put,lsa,lsz,lss]
 refine tkO HP.out 12 (h:= ?_)
 refine tkO HP.out 13 (h:= ?_)
 refine tkO HP.out 14 (h:= ?_)
 try simp only [Act.put,lsa,lsz,lss]
 refine tkO HP.out 15 (h:= ?_)
 refine tkI HP.out 16 (h:= ?_)
 refine tkI HP.out 17 (h:= ?_)
 try simp only [Act.put,lsa,lsz,lss]
 refine tkO HP.out 18 (h:= ?_)
 refine tkO HP.out 19 (h:= ?_)
 refine tkO HP.out 20 (h:= ?_)
 try simp only [Act.put,lsa,lsz,lss]
 refine tkO HP.out 21 (h:= ?_)
 refine tkO HP.out 22 (h:= ?_)
 refine tkO HP.out 23 (h:= ?_)
 try simp only [Act.put,lsa,lsz,lss]
 refine tkO HP.out 24 (h:= ?_)
 refine tkO HP.out 25 (h:= ?_)
 refine tkO HP.out 26 (h:= ?_)
 try simp only [Act.put,lsa,lsz,lss]
 refine tkO HP.out 27 (h:= ?_)
 refine tkO HP.out 28 (h:= ?_)
 refine tkO HP.out 29 (h:= ?_)
 try simp only [Act.put,lsa,lsz,lss]
 refine tkO HP.out 30 (h:= ?_)
 refine tkO HP.out 31 (h:= ?_)
 refine tkO HP.out 32 (h:= ?_)
 try simp only [Act.put,lsa,lsz,lss]
 refine tkO HP.out 33 (h:= ?_)
 refine tkO HP.out 34 (h:= ?_)
 refine tkI HP.out 35 (h:= ?_)
 try simp only [Act.put,lsa,lsz,lss]
 try simp only [Act.put,lsa,lsz,lss]
 refine wpAnyH_done (by kernel_rfl) ?_ _
 first|exact HQ.out _ _ _ _ _ _ _ _ _ _ _ _ _ _ _ _ _ _ _ _ _ _ _ _ _ _ _ _ _ _ _ _ _ _ _ _ hbu|exact HQ.out _ _ _ _ _ _ _ _ _ _ _ _ _ _ _ _ _ _ _ _ _ _ _ _ _ _ _ _ _ _ _ _ _ _ _ _ HDA.out
set_option maxRecDepth 100000 in
set_option maxHeartbeats 1000000 in
theorem may9_C {p b o n lc i j k:Nat}{lo hi ph:ByteArray}{X:World}{u0 u1 u2 u3 u8 u9 u10 u11 u12 u13 u14 u15 u16 u17 u18 u19 u20 u21 u22 u23 u24 u25 u26 u27 u28 u29 u30 u31 u32 u33 u34 u35 u36 u37 u38 u39 u40 u41 u42 u43 u44 u45 u46 u47 u48 u49 u50 u51 u52 u53 u54 u55 u56 u57 u58 u59 u60 u61 u62 u63 u64:Value}{Q:Exit->Act->World->Prop}
  (HKP:Hid (∀u,Below X.heap.size X u->u.cell? ⟨p,2,none⟩=some (.string lo)/\u.cell? ⟨p,3,none⟩=some (.string hi)/\u.cell? ⟨b,o+k*4+3,none⟩=some (.string ph)))
  (HK1:Hid (∀u,Calls Tryz.prog (102) #[.string lo] u fun e w'=>e= .returned (.bool true)/\w'=u))
  (HK2:Hid (∀u,Calls Tryz.prog (102) #[.string hi] u fun e w'=>e= .returned (.bool true)/\w'=u))
  (e f:Bool) (he:Op.bytesLess lo.toList hi.toList=e) (hf:(lo.toList==hi.toList)=f) (hef:(!e&& !f)=true)
  (hP: ∀ch a a' w',a'.defers=a.defers->Q (.panic ch) a w'->Q (.panic ch) a' w')
  (hQ: ∀(v25 v26 v27 v28 v29 v30 v31 v32 v33 v34 v35 v36 v37 v38 v39 v40 v41 v42 v43 v44 v45 v46 v47 v48 v49 v50 v51 v52 v53 v54 v55 v56 v57 v58 v59:Value) (w':World),Below X.heap.size X w'->Q .normal ⟨#[u0,u1,u2,u3, .int .i64 (j:Int), .slice (some ⟨b,o,none⟩) n lc, .int .i64 (i:Int), .pointer (some ⟨p,0,none⟩),u8,u9,u10,u11,u12,u13,u14,u15,u16,u17,u18,u19,u20,u21,u22,u23,u24,v25,v26,v27,v28,v29,v30,v31,v32,v33,v34,v35,v36,v37,v38,v39,v40,v41,v42,v43,v44,v45,v46,v47,v48,v49,v50,v51,v52,v53,v54,v55,v56,v57,v58,v59, .bool true,u61,u62,u63,u64], []⟩ w'):
  Code.wp Tryz.prog R9 Q ⟨#[u0,u1,u2,u3, .int .i64 (j:Int), .slice (some ⟨b,o,none⟩) n lc, .int .i64 (i:Int), .pointer (some ⟨p,0,none⟩),u8,u9,u10,u11,u12,u13,u14,u15,u16,u17,u18,u19,u20,u21,u22,u23,u24,u25,u26,u27,u28,u29,u30,u31,u32,u33,u34,u35,u36,u37,u38,u39,u40,u41,u42,u43,u44,u45,u46,u47,u48,u49,u50,u51,u52,u53,u54,u55,u56,u57,u58,u59,u60,u61,u62,u63,u64], []⟩ X:=by
 conv=>arg 2;whnf
 have HP:=zh hP
 have HQ:=zh hQ
 clear hP hQ
 have HDA:=zh (show Below X.heap.size X X.drew from(Below.refl X.heap.size X).drew)
 refine wp_region_held_drew (S:=fun u=>u.cell? ⟨p,2,none⟩=some (.string lo)/\u.cell? ⟨p,3,none⟩=some (.string hi)/\u.cell? ⟨b,o+k*4+3,none⟩=some (.string ph)) (by kernel_rfl) (by first|exact HKP.out _ hbu|exact HKP.out _ HDA.out) (fun hHeld=> ?_)
 refine tkI HP.out 0 (h:= ?_)
 refine tkI HP.out 1 (h:= ?_)
 try simp only [Act.put,lsa,lsz,lss]
 refine tkC 2 (h:=fun K hK=> ?_)
 go_wp2_with(go_at_call 102;(with_reducible refine(HK1.out _).mono ?_);rintro e w5 ⟨rfl,rfl⟩)
 refine hK.out _ _ (by first|exact HKP.out _ hbu|exact HKP.out _ HDA.out) (fun hHeld=> ?_)
 clear hK K
 try simp only [Act.put,lsa,lsz,lss]
 refine tkI HP.out 3 (h:= ?_)
 refine tkI HP.out 4 (h:= ?_)
 refine tkI HP.out 5 (h:= ?_)
 try simp only [Act.put,lsa,lsz,lss]
 refine tkI HP.out 6 (h:= ?_)
 try simp only [Act.put,lsa,lsz,lss]
 refine tkC 7 (h:=fun K hK=> ?_)
 go_wp2_with(go_at_call 102;(with_reducible refine(HK2.out _).mono ?_);rintro e w5 ⟨rfl,rfl⟩)
 refine hK.out _ _ (by first|exact HKP.out _ hbu|exact HKP.out _ HDA.out) (fun hHeld=> ?_)
 clear hK K
 refine tkI HP.out 8 (h:= ?_)
 try simp only [Act.put,lsa,lsz,lss]
 refine tkI HP.out 9 (h:= ?_)
 refine tkI HP.out 10 (h:= ?_)
 refine tkI HP.out 11 (h:= ?_)
 try simp only [Act.put,lsa,lsz,lss]
 refine tkI HP.out 12 (h:= ?_)
 refine tkI HP.out 13 (h:= ?_)
 refine tkI HP.out 14 (h:= ?_)
 try simp only [Act.put,lsa,lsz,lss]
 refine tkI HP.out 15 (h:= ?_)
 refine tkI HP.out 16 (h:= ?_)
 refine tkI HP.out 17 (h:= ?_)
 try simp only [Act.put,lsa,lsz,lss]
 refine tkO HP.out 18 (h:= ?_)
 refine tkO HP.out 19 (h:= ?_)
 refine tkO HP.out 20 (h:= ?_)
 try simp only [Act.put,lsa,lsz,lss]
 refine tkO HP.out 21 (h:= ?_)
 refine tkO HP.out 22 (h:= ?_)
 refine tkO HP.out 23 (h:= ?_)
 try simp only [Act.put,lsa,lsz,lss]
 refine tkO HP.out 24 (h:= ?_)
 refine tkO HP.out 25 (h:= ?_)
 refine tkO HP.out 26 (h:= ?_)
 try simp only [Act.put,lsa,lsz,lss]
 refine tkO HP.out 27 (h:= ?_)
 refine tkO HP.out 28 (h:= ?_)
 refine tkO HP.out 29 (h:= ?_)
 try simp only [Act.put,lsa,lsz,lss]
 refine tkO HP.out 30 (h:= ?_)
 refine tkO HP.out 31 (h:= ?_)
 refine tkO HP.out 32 (h:= ?_)
 try simp only [Act.put,lsa,lsz,lss]
 refine tkO HP.out 33 (h:= ?_)
 refine tkO HP.out 34 (h:= ?_)
 refine tkI HP.out 35 (h:= ?_)
 try simp only [Act.put,lsa,lsz,lss]
 try simp only [Act.put,lsa,lsz,lss]
 refine wpAnyH_done (by kernel_rfl) ?_ _
 first|exact HQ.out _ _ _ _ _ _ _ _ _ _ _ _ _ _ _ _ _ _ _ _ _ _ _ _ _ _ _ _ _ _ _ _ _ _ _ _ hbu|exact HQ.out _ _ _ _ _ _ _ _ _ _ _ _ _ _ _ _ _ _ _ _ _ _ _ _ _ _ _ _ _ _ _ _ _ _ _ _ HDA.out
set_option maxRecDepth 100000 in
set_option maxHeartbeats 1000000 in
theorem may9_D {p b o n lc i j k:Nat}{lo hi ph:ByteArray}{X:World}{u0 u1 u2 u3 u8 u9 u10 u11 u12 u13 u14 u15 u16 u17 u18 u19 u20 u21 u22 u23 u24 u25 u26 u27 u28 u29 u30 u31 u32 u33 u34 u35 u36 u37 u38 u39 u40 u41 u42 u43 u44 u45 u46 u47 u48 u49 u50 u51 u52 u53 u54 u55 u56 u57 u58 u59 u60 u61 u62 u63 u64:Value}{Q:Exit->Act->World->Prop}
  (HKP:Hid (∀u,Below X.heap.size X u->u.cell? ⟨p,2,none⟩=some (.string lo)/\u.cell? ⟨p,3,none⟩=some (.string hi)/\u.cell? ⟨b,o+k*4+3,none⟩=some (.string ph)))
  (HK1:Hid (∀u,Calls Tryz.prog (102) #[.string lo] u fun e w'=>e= .returned (.bool true)/\w'=u))
  (HK2:Hid (∀u,Calls Tryz.prog (102) #[.string hi] u fun e w'=>e= .returned (.bool true)/\w'=u))
  (e f:Bool) (he:Op.bytesLess lo.toList hi.toList=e) (hf:(lo.toList==hi.toList)=f) (hef:(!e&& !f)=false)
  (h0j: ¬0<j) (_dj:decide ((0:Int)<(j:Int))=false)
  (hP: ∀ch a a' w',a'.defers=a.defers->Q (.panic ch) a w'->Q (.panic ch) a' w')
  (hQ: ∀(v25 v26 v27 v28 v29 v30 v31 v32 v33 v34 v35 v36 v37 v38 v39 v40 v41 v42 v43 v44 v45 v46 v47 v48 v49 v50 v51 v52 v53 v54 v55 v56 v57 v58 v59:Value) (w':World),Below X.heap.size X w'->Q .normal ⟨#[u0,u1,u2,u3, .int .i64 (j:Int), .slice (some ⟨b,o,none⟩) n lc, .int .i64 (i:Int), .pointer (some ⟨p,0,none⟩),u8,u9,u10,u11,u12,u13,u14,u15,u16,u17,u18,u19,u20,u21,u22,u23,u24,v25,v26,v27,v28,v29,v30,v31,v32,v33,v34,v35,v36,v37,v38,v39,v40,v41,v42,v43,v44,v45,v46,v47,v48,v49,v50,v51,v52,v53,v54,v55,v56,v57,v58,v59, .bool false,u61,u62,u63,u64], []⟩ w'):
  Code.wp Tryz.prog R9 Q ⟨#[u0,u1,u2,u3, .int .i64 (j:Int), .slice (some ⟨b,o,none⟩) n lc, .int .i64 (i:Int), .pointer (some ⟨p,0,none⟩),u8,u9,u10,u11,u12,u13,u14,u15,u16,u17,u18,u19,u20,u21,u22,u23,u24,u25,u26,u27,u28,u29,u30,u31,u32,u33,u34,u35,u36,u37,u38,u39,u40,u41,u42,u43,u44,u45,u46,u47,u48,u49,u50,u51,u52,u53,u54,u55,u56,u57,u58,u59,u60,u61,u62,u63,u64], []⟩ X:=by
 conv=>arg 2;whnf
 have HP:=zh hP
 have HQ:=zh hQ
 clear hP hQ
 have HDA:=zh (show Below X.heap.size X X.drew from(Below.refl X.heap.size X).drew)
 refine wp_region_held_drew (S:=fun u=>u.cell? ⟨p,2,none⟩=some (.string lo)/\u.cell? ⟨p,3,none⟩=some (.string hi)/\u.cell? ⟨b,o+k*4+3,none⟩=some (.string ph)) (by kernel_rfl) (by first|exact HKP.out _ hbu|exact HKP.out _ HDA.out) (fun hHeld=> ?_)
 refine tkI HP.out 0 (h:= ?_)
 refine tkI HP.out 1 (h:= ?_)
 try simp only [Act.put,lsa,lsz,lss]
 refine tkC 2 (h:=fun K hK=> ?_)
 go_wp2_with(go_at_call 102;(with_reducible refine(HK1.out _).mono ?_);rintro e w5 ⟨rfl,rfl⟩)
 refine hK.out _ _ (by first|exact HKP.out _ hbu|exact HKP.out _ HDA.out) (fun hHeld=> ?_)
 clear hK K
 try simp only [Act.put,lsa,lsz,lss]
 refine tkI HP.out 3 (h:= ?_)
 refine tkI HP.out 4 (h:= ?_)
 refine tkI HP.out 5 (h:= ?_)
 try simp only [Act.put,lsa,lsz,lss]
 refine tkI HP.out 6 (h:= ?_)
 try simp only [Act.put,lsa,lsz,lss]
 refine tkC 7 (h:=fun K hK=> ?_)
 go_wp2_with(go_at_call 102;(with_reducible refine(HK2.out _).mono ?_);rintro e w5 ⟨rfl,rfl⟩)
 refine hK.out _ _ (by first|exact HKP.out _ hbu|exact HKP.out _ HDA.out) (fun hHeld=> ?_)
 clear hK K
 refine tkI HP.out 8 (h:= ?_)
 try simp only [Act.put,lsa,lsz,lss]
 refine tkI HP.out 9 (h:= ?_)
 refine tkI HP.out 10 (h:= ?_)
 refine tkI HP.out 11 (h:= ?_)
 try simp only [Act.put,lsa,lsz,lss]
 refine tkI HP.out 12 (h:= ?_)
 refine tkI HP.out 13 (h:= ?_)
 refine tkI HP.out 14 (h:= ?_)
 try simp only [Act.put,lsa,lsz,lss]
 refine tkI HP.out 15 (h:= ?_)
 refine tkI HP.out 16 (h:= ?_)
 refine tkI HP.out 17 (h:= ?_)
 try simp only [Act.put,lsa,lsz,lss]
 refine tkI HP.out 18 (h:= ?_)
 refine tkI HP.out 19 (h:= ?_)
 refine tkI HP.out 20 (h:= ?_)
 try simp only [Act.put,lsa,lsz,lss]
 refine tkO HP.out 21 (h:= ?_)
 refine tkO HP.out 22 (h:= ?_)
 refine tkI HP.out 23 (h:= ?_)
 try simp only [Act.put,lsa,lsz,lss]
 refine tkI HP.out 24 (h:= ?_)
 refine tkO HP.out 25 (h:= ?_)
 refine tkO HP.out 26 (h:= ?_)
 try simp only [Act.put,lsa,lsz,lss]
 refine tkO HP.out 27 (h:= ?_)
 refine tkO HP.out 28 (h:= ?_)
 refine tkO HP.out 29 (h:= ?_)
 try simp only [Act.put,lsa,lsz,lss]
 refine tkO HP.out 30 (h:= ?_)
 refine tkO HP.out 31 (h:= ?_)
 refine tkO HP.out 32 (h:= ?_)
 try simp only [Act.put,lsa,lsz,lss]
 refine tkO HP.out 33 (h:= ?_)
 refine tkI HP.out 34 (h:= ?_)
 refine tkI HP.out 35 (h:= ?_)
 try simp only [Act.put,lsa,lsz,lss]
 try simp only [Act.put,lsa,lsz,lss]
 refine wpAnyH_done (by kernel_rfl) ?_ _
 first|exact HQ.out _ _ _ _ _ _ _ _ _ _ _ _ _ _ _ _ _ _ _ _ _ _ _ _ _ _ _ _ _ _ _ _ _ _ _ _ hbu|exact HQ.out _ _ _ _ _ _ _ _ _ _ _ _ _ _ _ _ _ _ _ _ _ _ _ _ _ _ _ _ _ _ _ _ _ _ _ _ HDA.out
set_option maxRecDepth 100000 in
set_option maxHeartbeats 1000000 in
theorem may9_E {p b o n lc i j k:Nat}{lo hi ph:ByteArray}{X:World}{u0 u1 u2 u3 u8 u9 u10 u11 u12 u13 u14 u15 u16 u17 u18 u19 u20 u21 u22 u23 u24 u25 u26 u27 u28 u29 u30 u31 u32 u33 u34 u35 u36 u37 u38 u39 u40 u41 u42 u43 u44 u45 u46 u47 u48 u49 u50 u51 u52 u53 u54 u55 u56 u57 u58 u59 u60 u61 u62 u63 u64:Value}{Q:Exit->Act->World->Prop}
  (HKP:Hid (∀u,Below X.heap.size X u->u.cell? ⟨p,2,none⟩=some (.string lo)/\u.cell? ⟨p,3,none⟩=some (.string hi)/\u.cell? ⟨b,o+k*4+3,none⟩=some (.string ph)))
  (HK1:Hid (∀u,Calls Tryz.prog (102) #[.string lo] u fun e w'=>e= .returned (.bool true)/\w'=u))
  (HK2:Hid (∀u,Calls Tryz.prog (102) #[.string hi] u fun e w'=>e= .returned (.bool true)/\w'=u))
  (e f:Bool) (he:Op.bytesLess lo.toList hi.toList=e) (hf:(lo.toList==hi.toList)=f) (hef:(!e&& !f)=false)
  (h0j:0<j) (_dj:decide ((0:Int)<(j:Int))=true)
  (h0i: ¬0<i) (_di:decide ((0:Int)<(i:Int))=false)
  (hP: ∀ch a a' w',a'.defers=a.defers->Q (.panic ch) a w'->Q (.panic ch) a' w')
  (hQ: ∀(v25 v26 v27 v28 v29 v30 v31 v32 v33 v34 v35 v36 v37 v38 v39 v40 v41 v42 v43 v44 v45 v46 v47 v48 v49 v50 v51 v52 v53 v54 v55 v56 v57 v58 v59:Value) (w':World),Below X.heap.size X w'->Q .normal ⟨#[u0,u1,u2,u3, .int .i64 (j:Int), .slice (some ⟨b,o,none⟩) n lc, .int .i64 (i:Int), .pointer (some ⟨p,0,none⟩),u8,u9,u10,u11,u12,u13,u14,u15,u16,u17,u18,u19,u20,u21,u22,u23,u24,v25,v26,v27,v28,v29,v30,v31,v32,v33,v34,v35,v36,v37,v38,v39,v40,v41,v42,v43,v44,v45,v46,v47,v48,v49,v50,v51,v52,v53,v54,v55,v56,v57,v58,v59, .bool false,u61,u62,u63,u64], []⟩ w'):
  Code.wp Tryz.prog R9 Q ⟨#[u0,u1,u2,u3, .int .i64 (j:Int), .slice (some ⟨b,o,none⟩) n lc, .int .i64 (i:Int), .pointer (some ⟨p,0,none⟩),u8,u9,u10,u11,u12,u13,u14,u15,u16,u17,u18,u19,u20,u21,u22,u23,u24,u25,u26,u27,u28,u29,u30,u31,u32,u33,u34,u35,u36,u37,u38,u39,u40,u41,u42,u43,u44,u45,u46,u47,u48,u49,u50,u51,u52,u53,u54,u55,u56,u57,u58,u59,u60,u61,u62,u63,u64], []⟩ X:=by
 conv=>arg 2;whnf
 have HP:=zh hP
 have HQ:=zh hQ
 clear hP hQ
 have HDA:=zh (show Below X.heap.size X X.drew from(Below.refl X.heap.size X).drew)
 refine wp_region_held_drew (S:=fun u=>u.cell? ⟨p,2,none⟩=some (.string lo)/\u.cell? ⟨p,3,none⟩=some (.string hi)/\u.cell? ⟨b,o+k*4+3,none⟩=some (.string ph)) (by kernel_rfl) (by first|exact HKP.out _ hbu|exact HKP.out _ HDA.out) (fun hHeld=> ?_)
 refine tkI HP.out 0 (h:= ?_)
 refine tkI HP.out 1 (h:= ?_)
 try simp only [Act.put,lsa,lsz,lss]
 refine tkC 2 (h:=fun K hK=> ?_)
 go_wp2_with(go_at_call 102;(with_reducible refine(HK1.out _).mono ?_);rintro e w5 ⟨rfl,rfl⟩)
 refine hK.out _ _ (by first|exact HKP.out _ hbu|exact HKP.out _ HDA.out) (fun hHeld=> ?_)
 clear hK K
 try simp only [Act.put,lsa,lsz,lss]
 refine tkI HP.out 3 (h:= ?_)
 refine tkI HP.out 4 (h:= ?_)
 refine tkI HP.out 5 (h:= ?_)
 try simp only [Act.put,lsa,lsz,lss]
 refine tkI HP.out 6 (h:= ?_)
 try simp only [Act.put,lsa,lsz,lss]
 refine tkC 7 (h:=fun K hK=> ?_)
 go_wp2_with(go_at_call 102;(with_reducible refine(HK2.out _).mono ?_);rintro e w5 ⟨rfl,rfl⟩)
 refine hK.out _ _ (by first|exact HKP.out _ hbu|exact HKP.out _ HDA.out) (fun hHeld=> ?_)
 clear hK K
 refine tkI HP.out 8 (h:= ?_)
 try simp only [Act.put,lsa,lsz,lss]
 refine tkI HP.out 9 (h:= ?_)
 refine tkI HP.out 10 (h:= ?_)
 refine tkI HP.out 11 (h:= ?_)
 try simp only [Act.put,lsa,lsz,lss]
 refine tkI HP.out 12 (h:= ?_)
 refine tkI HP.out 13 (h:= ?_)
 refine tkI HP.out 14 (h:= ?_)
 try simp only [Act.put,lsa,lsz,lss]
 refine tkI HP.out 15 (h:= ?_)
 refine tkI HP.out 16 (h:= ?_)
 refine tkI HP.out 17 (h:= ?_)
 try simp only [Act.put,lsa,lsz,lss]
 refine tkI HP.out 18 (h:= ?_)
 refine tkI HP.out 19 (h:= ?_)
 refine tkI HP.out 20 (h:= ?_)
 try simp only [Act.put,lsa,lsz,lss]
 refine tkI HP.out 21 (h:= ?_)
 refine tkI HP.out 22 (h:= ?_)
 refine tkI HP.out 23 (h:= ?_)
 try simp only [Act.put,lsa,lsz,lss]
 refine tkI HP.out 24 (h:= ?_)
 refine tkO HP.out 25 (h:= ?_)
 refine tkO HP.out 26 (h:= ?_)
 try simp only [Act.put,lsa,lsz,lss]
 refine tkO HP.out 27 (h:= ?_)
 refine tkO HP.out 28 (h:= ?_)
 refine tkO HP.out 29 (h:= ?_)
 try simp only [Act.put,lsa,lsz,lss]
 refine tkO HP.out 30 (h:= ?_)
 refine tkO HP.out 31 (h:= ?_)
 refine tkO HP.out 32 (h:= ?_)
 try simp only [Act.put,lsa,lsz,lss]
 refine tkO HP.out 33 (h:= ?_)
 refine tkI HP.out 34 (h:= ?_)
 refine tkI HP.out 35 (h:= ?_)
 try simp only [Act.put,lsa,lsz,lss]
 try simp only [Act.put,lsa,lsz,lss]
 refine wpAnyH_done (by kernel_rfl) ?_ _
 first|exact HQ.out _ _ _ _ _ _ _ _ _ _ _ _ _ _ _ _ _ _ _ _ _ _ _ _ _ _ _ _ _ _ _ _ _ _ _ _ hbu|exact HQ.out _ _ _ _ _ _ _ _ _ _ _ _ _ _ _ _ _ _ _ _ _ _ _ _ _ _ _ _ _ _ _ _ _ _ _ _ HDA.out
set_option maxRecDepth 100000 in
set_option maxHeartbeats 1000000 in
theorem may9_F {p b o n lc i j k:Nat}{lo hi ph:ByteArray}{X:World}{u0 u1 u2 u3 u8 u9 u10 u11 u12 u13 u14 u15 u16 u17 u18 u19 u20 u21 u22 u23 u24 u25 u26 u27 u28 u29 u30 u31 u32 u33 u34 u35 u36 u37 u38 u39 u40 u41 u42 u43 u44 u45 u46 u47 u48 u49 u50 u51 u52 u53 u54 u55 u56 u57 u58 u59 u60 u61 u62 u63 u64:Value}{Q:Exit->Act->World->Prop}
  (HKP:Hid (∀u,Below X.heap.size X u->u.cell? ⟨p,2,none⟩=some (.string lo)/\u.cell? ⟨p,3,none⟩=some (.string hi)/\u.cell? ⟨b,o+k*4+3,none⟩=some (.string ph)))
  (HK1:Hid (∀u,Calls Tryz.prog (102) #[.string lo] u fun e w'=>e= .returned (.bool true)/\w'=u))
  (HK2:Hid (∀u,Calls Tryz.prog (102) #[.string hi] u fun e w'=>e= .returned (.bool true)/\w'=u))
  (e f:Bool) (he:Op.bytesLess lo.toList hi.toList=e) (hf:(lo.toList==hi.toList)=f) (hef:(!e&& !f)=false)
  (h0j:0<j) (_dj:decide ((0:Int)<(j:Int))=true)
  (h0i:0<i) (_di:decide ((0:Int)<(i:Int))=true)
  (hwk:IntKind.i64.wrap ((i:Int) - 1)=(k:Int)) (hk0:(0:Int)<=(k:Int)) (hk1:(k:Int)<(n:Int))
  (g:Bool) (hg:Op.bytesLess ph.toList lo.toList=g)
  (hP: ∀ch a a' w',a'.defers=a.defers->Q (.panic ch) a w'->Q (.panic ch) a' w')
  (hQ: ∀(v25 v26 v27 v28 v29 v30 v31 v32 v33 v34 v35 v36 v37 v38 v39 v40 v41 v42 v43 v44 v45 v46 v47 v48 v49 v50 v51 v52 v53 v54 v55 v56 v57 v58 v59:Value) (w':World),Below X.heap.size X w'->Q .normal ⟨#[u0,u1,u2,u3, .int .i64 (j:Int), .slice (some ⟨b,o,none⟩) n lc, .int .i64 (i:Int), .pointer (some ⟨p,0,none⟩),u8,u9,u10,u11,u12,u13,u14,u15,u16,u17,u18,u19,u20,u21,u22,u23,u24,v25,v26,v27,v28,v29,v30,v31,v32,v33,v34,v35,v36,v37,v38,v39,v40,v41,v42,v43,v44,v45,v46,v47,v48,v49,v50,v51,v52,v53,v54,v55,v56,v57,v58,v59, .bool (!g),u61,u62,u63,u64], []⟩ w'):
  Code.wp Tryz.prog R9 Q ⟨#[u0,u1,u2,u3, .int .i64 (j:Int), .slice (some ⟨b,o,none⟩) n lc, .int .i64 (i:Int), .pointer (some ⟨p,0,none⟩),u8,u9,u10,u11,u12,u13,u14,u15,u16,u17,u18,u19,u20,u21,u22,u23,u24,u25,u26,u27,u28,u29,u30,u31,u32,u33,u34,u35,u36,u37,u38,u39,u40,u41,u42,u43,u44,u45,u46,u47,u48,u49,u50,u51,u52,u53,u54,u55,u56,u57,u58,u59,u60,u61,u62,u63,u64], []⟩ X:=by
 conv=>arg 2;whnf
 have HP:=zh hP
 have HQ:=zh hQ
 clear hP hQ
 have HDA:=zh (show Below X.heap.size X X.drew from(Below.refl X.heap.size X).drew)
 refine wp_region_held_drew (S:=fun u=>u.cell? ⟨p,2,none⟩=some (.string lo)/\u.cell? ⟨p,3,none⟩=some (.string hi)/\u.cell? ⟨b,o+k*4+3,none⟩=some (.string ph)) (by kernel_rfl) (by first|exact HKP.out _ hbu|exact HKP.out _ HDA.out) (fun hHeld=> ?_)
 refine tkI HP.out 0 (h:= ?_)
 refine tkI HP.out 1 (h:= ?_)
 try simp only [Act.put,lsa,lsz,lss]
 refine tkC 2 (h:=fun K hK=> ?_)
 go_wp2_with(go_at_call 102;(with_reducible refine(HK1.out _).mono ?_);rintro e w5 ⟨rfl,rfl⟩)
 refine hK.out _ _ (by first|exact HKP.out _ hbu|exact HKP.out _ HDA.out) (fun hHeld=> ?_)
 clear hK K
 try simp only [Act.put,lsa,lsz,lss]
 refine tkI HP.out 3 (h:= ?_)
 refine tkI HP.out 4 (h:= ?_)
 refine tkI HP.out 5 (h:= ?_)
 try simp only [Act.put,lsa,lsz,lss]
 refine tkI HP.out 6 (h:= ?_)
 try simp only [Act.put,lsa,lsz,lss]
 refine tkC 7 (h:=fun K hK=> ?_)
 go_wp2_with(go_at_call 102;(with_reducible refine(HK2.out _).mono ?_);rintro e w5 ⟨rfl,rfl⟩)
 refine hK.out _ _ (by first|exact HKP.out _ hbu|exact HKP.out _ HDA.out) (fun hHeld=> ?_)
 clear hK K
 refine tkI HP.out 8 (h:= ?_)
 try simp only [Act.put,lsa,lsz,lss]
 refine tkI HP.out 9 (h:= ?_)
 refine tkI HP.out 10 (h:= ?_)
 refine tkI HP.out 11 (h:= ?_)
 try simp only [Act.put,lsa,lsz,lss]
 refine tkI HP.out 12 (h:= ?_)
 refine tkI HP.out 13 (h:= ?_)
 refine tkI HP.out 14 (h:= ?_)
 try simp only [Act.put,lsa,lsz,lss]
 refine tkI HP.out 15 (h:= ?_)
 refine tkI HP.out 16 (h:= ?_)
 refine tkI HP.out 17 (h:= ?_)
 try simp only [Act.put,lsa,lsz,lss]
 refine tkI HP.out 18 (h:= ?_)
 refine tkI HP.out 19 (h:= ?_)
 refine tkI HP.out 20 (h:= ?_)
 try simp only [Act.put,lsa,lsz,lss]
 refine tkI HP.out 21 (h:= ?_)
 refine tkI HP.out 22 (h:= ?_)
 refine tkI HP.out 23 (h:= ?_)
 try simp only [Act.put,lsa,lsz,lss]
 refine tkI HP.out 24 (h:= ?_)
 refine tkI HP.out 25 (h:= ?_)
 refine tkI HP.out 26 (h:= ?_)
 try simp only [Act.put,lsa,lsz,lss]
 refine tkI HP.out 27 (h:= ?_)
 refine tkI HP.out 28 (h:= ?_)
 refine tkI HP.out 29 (h:= ?_)
 try simp only [Act.put,lsa,lsz,lss]
 refine tkI HP.out 30 (h:= ?_)
 refine tkI HP.out 31 (h:= ?_)
 refine tkI HP.out 32 (h:= ?_)
 try simp only [Act.put,lsa,lsz,lss]
 refine tkI HP.out 33 (h:= ?_)
 refine tkI HP.out 34 (h:= ?_)
 refine tkI HP.out 35 (h:= ?_)
 try simp only [Act.put,lsa,lsz,lss]
 try simp only [Act.put,lsa,lsz,lss]
 refine wpAnyH_done (by kernel_rfl) ?_ _
 first|exact HQ.out _ _ _ _ _ _ _ _ _ _ _ _ _ _ _ _ _ _ _ _ _ _ _ _ _ _ _ _ _ _ _ _ _ _ _ _ hbu|exact HQ.out _ _ _ _ _ _ _ _ _ _ _ _ _ _ _ _ _ _ _ _ _ _ _ _ _ _ _ _ _ _ _ _ _ _ _ _ HDA.out
end Mf
end Go.Proofs.YtchcelodeepjdaaGreatDoor.Ln
