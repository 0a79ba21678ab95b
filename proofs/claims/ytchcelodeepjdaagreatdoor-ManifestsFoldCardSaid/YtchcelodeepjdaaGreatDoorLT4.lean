/- Lemmas and walks towards ManifestsFold. Conditions: each one tells its own. -/
import Derived.Test.YtchcelodeepjdaaGreatDoorMp
import Derived.Test.YtchcelodeepjdaaGreatDoorLN9d
import Derived.Sort.Walk0
import Derived.Lib.SliceRun
import Derived.Test.YtchcelodeepjdaaGreatDoorLN8
import Derived.Test.YtchcelodeepjdaaGreatDoorRd
import Derived.Test.YtchcelodeepjdaaGreatDoorProg
namespace Go.Proofs.YtchcelodeepjdaaGreatDoor.Ln
open Go.RowKit Go.Herb
set_option maxRecDepth 100000 in
set_option maxHeartbeats 2000000 in
theorem r9_C2 {p1 p6 M b o n bc m lc i k:Nat}{la:Option Addr}{xn yn:ByteArray}{xl c:Int}{X:World}{u0 u2 u3 u7 u8 u9 u10 u11 u12 u13 u14 u15 u16 u17 u18 u19 u20 u21 u22 u23 u24 u25 u26 u27 u28 u29 u30 u31 u32 u33 u34 u35 u36 u37 u38 u39 u40 u41 u42 u43 u44 u45 u46 u47 u48 u49 u50 u51 u52 u53 u54 u55 u56 u57 u58 u59 u60 u61 u62 u63 u64:Value}{Q:Exit->Act->World->Prop}
  (HKP:Hid (∀u,Below X.heap.size X u->u.cell? ⟨p6,0,none⟩=some (.string xn)/\u.cell? ⟨p6,1,none⟩=some (.int .u64 xl)/\u.cell? ⟨p1,0,none⟩=some (.slice (some ⟨b,o,none⟩) n bc)/\u.cell? ⟨p1,1,none⟩=some (.slice la m lc)/\u.cell? ⟨b,o+k*3,none⟩=some (.string yn)/\(Instr.lookup (144) (.map (some M)) (.int .u64 xl) false).run Tryz.prog u= .ok (.int .i64 (c+1)) u))
  (HIN:Hid (∀u,Below X.heap.size X u->Calls Tryz.prog (99) #[.string xn] u (fun e w'=>e= .returned (.bool true)/\Below u.heap.size u w')))
  (HLI:Hid (∀u,Below X.heap.size X u->Calls Tryz.prog (98) #[zxx (some ⟨b,o,none⟩) n bc la m lc, .int .u64 xl] u (fun e w'=>e= .returned (.int .i64 (-1))/\Below u.heap.size u w')))
  (h0i:0<i) (_d0:decide ((0:Int)<(i:Int))=true) (hw3:IntKind.i64.wrap ((i:Int) - 1)=(k:Int)) (hk0:(0:Int)<=(k:Int)) (hk1:(k:Int)<(n:Int))
  (d1:Op.bytesLess xn.toList yn.toList=false) (d2:(xn.toList==yn.toList)=false)
  (hP: ∀ch a a' w',a'.defers=a.defers->Q (.panic ch) a w'->Q (.panic ch) a' w')
  (hQ: ∀(v30 v31 v32 v33 v34 v35 v36 v37 v38 v39 v40 v41 v42 v43 v44 v45 v46 v47 v48 v49 v50 v51 v52 v53 v54 v55 v56 v57 v58 v59 v60 v61 v62:Value) (w':World),Below X.heap.size X w'->Q .normal ⟨#[u0, .pointer (some ⟨p1,0,none⟩),u2,u3, .map (some M), .int .i64 (i:Int), .pointer (some ⟨p6,0,none⟩),u7,u8,u9,u10,u11,u12,u13,u14,u15,u16,u17,u18,u19,u20,u21,u22,u23,u24,u25,u26,u27,u28,u29,v30,v31,v32,v33,v34,v35,v36,v37,v38,v39,v40,v41,v42,v43,v44,v45,v46,v47,v48,v49,v50,v51,v52,v53,v54,v55,v56,v57,v58,v59,v60,v61,v62, .bool (true),u64], []⟩ w'):
  Code.wp Tryz.prog R9 Q ⟨#[u0, .pointer (some ⟨p1,0,none⟩),u2,u3, .map (some M), .int .i64 (i:Int), .pointer (some ⟨p6,0,none⟩),u7,u8,u9,u10,u11,u12,u13,u14,u15,u16,u17,u18,u19,u20,u21,u22,u23,u24,u25,u26,u27,u28,u29,u30,u31,u32,u33,u34,u35,u36,u37,u38,u39,u40,u41,u42,u43,u44,u45,u46,u47,u48,u49,u50,u51,u52,u53,u54,u55,u56,u57,u58,u59,u60,u61,u62,u63,u64], []⟩ X:=by
 conv=>arg 2;whnf
 have HP:=zh hP
 have HQ:=zh hQ
 clear hP hQ
 have HDA:=zh (show Below X.heap.size X X.drew from(Below.refl X.heap.size X).drew)
 have hm2:decide ((-1:Int)<0)=true:=by decide
 refine wp_region_held_drew (S:=fun u=>u.cell? ⟨p6,0,none⟩=some (.string xn)/\u.cell? ⟨p6,1,none⟩=some (.int .u64 xl)/\u.cell? ⟨p1,0,none⟩=some (.slice (some ⟨b,o,none⟩) n bc)/\u.cell? ⟨p1,1,none⟩=some (.slice la m lc)/\u.cell? ⟨b,o+k*3,none⟩=some (.string yn)/\(Instr.lookup (144) (.map (some M)) (.int .u64 xl) false).run Tryz.prog u= .ok (.int .i64 (c+1)) u) (by kernel_rfl) (by first|exact HKP.out _ hbu|exact HKP.out _ HDA.out) (fun hHeld=> ?_)
 refine tkI HP.out 0 (h:= ?_)
 refine tkI HP.out 1 (h:= ?_)
 try simp only [Act.put,lsa,lsz,lss]
 refine tkC 2 (h:=fun K hK=> ?_)
 go_wp2_with(go_at_call 99;(with_reducible refine(HIN.out _ HDA.out).mono ?_);rintro e w5 ⟨rfl,hb5⟩;have hbu:=HDA.out.trans (hb5.mono HDA.out.size))
 refine hK.out _ _ (by first|exact HKP.out _ hbu|exact HKP.out _ HDA.out) (fun hHeld=> ?_)
 clear hK K
 try simp only [Act.put,lsa,lsz,lss]
 refine tkI HP.out 3 (h:= ?_)
 refine tkI HP.out 4 (h:= ?_)
 try simp only [Act.put,lsa,lsz,lss]
 refine tkI HP.out 5 (h:= ?_)
 refine tkI HP.out 6 (h:= ?_)
 refine tkI HP.out 7 (h:= ?_)
 try simp only [Act.put,lsa,lsz,lss]
 refine tkI HP.out 8 (h:= ?_)
 refine tkI HP.out 9 (h:= ?_)
 refine tkI HP.out 10 (h:= ?_)
 try simp only [Act.put,lsa,lsz,lss]
 refine tkI HP.out 11 (h:= ?_)
 refine tkI HP.out 12 (h:= ?_)
 refine tkI HP.out 13 (h:= ?_)
 try simp only [Act.put,lsa,lsz,lss]
 refine tkI HP.out 14 (h:= ?_)
 refine tkI HP.out 15 (h:= ?_)
 refine tkI HP.out 16 (h:= ?_)
 try simp only [Act.put,lsa,lsz,lss]
 refine tkI HP.out 17 (h:= ?_)
 refine tkI HP.out 18 (h:= ?_)
 refine tkI HP.out 19 (h:= ?_)
 try simp only [Act.put,lsa,lsz,lss]
 refine tkI HP.out 20 (h:= ?_)
 refine tkI HP.out 21 (h:= ?_)
 refine tkI HP.out 22 (h:= ?_)
 try simp only [Act.put,lsa,lsz,lss]
 refine tkI HP.out 23 (h:= ?_)
 try simp only [Act.put,lsa,lsz,lss]
 refine tkC 24 (h:=fun K hK=> ?_)
 go_wp2_with(go_at_call 98;(with_reducible refine(HLI.out _ hbu).mono ?_);rintro e w6 ⟨rfl,hb6⟩;have hbu:=hbu.trans (hb6.mono hbu.size))
 refine hK.out _ _ (by first|exact HKP.out _ hbu|exact HKP.out _ HDA.out) (fun hHeld=> ?_)
 clear hK K
 try simp only [Act.put,lsa,lsz,lss]
 refine tkI HP.out 25 (h:= ?_)
 refine tkI HP.out 26 (h:= ?_)
 refine tkI HP.out 27 (h:= ?_)
 try simp only [Act.put,lsa,lsz,lss]
 refine tkO HP.out 28 (h:= ?_)
 refine tkO HP.out 29 (h:= ?_)
 refine tkO HP.out 30 (h:= ?_)
 try simp only [Act.put,lsa,lsz,lss]
 refine tkO HP.out 31 (h:= ?_)
 refine tkO HP.out 32 (h:= ?_)
 refine tkI HP.out 33 (h:= ?_)
 try simp only [Act.put,lsa,lsz,lss]
 refine wpAnyH_done (by kernel_rfl) ?_ _
 exact HQ.out _ _ _ _ _ _ _ _ _ _ _ _ _ _ _ _ _ _ _ _ _ _ _ _ _ _ _ _ _ _ _ _ _ _ hbu
end Go.Proofs.YtchcelodeepjdaaGreatDoor.Ln

namespace Go.Proofs.YtchcelodeepjdaaGreatDoor.Ln
open Go.RowKit Go.Herb
set_option maxRecDepth 100000 in
set_option maxHeartbeats 2000000 in
theorem r9_C3 {p1 p6 M b o n bc m lc i k:Nat}{la:Option Addr}{xn yn:ByteArray}{xl c:Int}{X:World}{u0 u2 u3 u7 u8 u9 u10 u11 u12 u13 u14 u15 u16 u17 u18 u19 u20 u21 u22 u23 u24 u25 u26 u27 u28 u29 u30 u31 u32 u33 u34 u35 u36 u37 u38 u39 u40 u41 u42 u43 u44 u45 u46 u47 u48 u49 u50 u51 u52 u53 u54 u55 u56 u57 u58 u59 u60 u61 u62 u63 u64:Value}{Q:Exit->Act->World->Prop}
  (HKP:Hid (∀u,Below X.heap.size X u->u.cell? ⟨p6,0,none⟩=some (.string xn)/\u.cell? ⟨p6,1,none⟩=some (.int .u64 xl)/\u.cell? ⟨p1,0,none⟩=some (.slice (some ⟨b,o,none⟩) n bc)/\u.cell? ⟨p1,1,none⟩=some (.slice la m lc)/\u.cell? ⟨b,o+k*3,none⟩=some (.string yn)/\(Instr.lookup (144) (.map (some M)) (.int .u64 xl) false).run Tryz.prog u= .ok (.int .i64 (c+1)) u))
  (HIN:Hid (∀u,Below X.heap.size X u->Calls Tryz.prog (99) #[.string xn] u (fun e w'=>e= .returned (.bool true)/\Below u.heap.size u w')))
  (HLI:Hid (∀u,Below X.heap.size X u->Calls Tryz.prog (98) #[zxx (some ⟨b,o,none⟩) n bc la m lc, .int .u64 xl] u (fun e w'=> ∃j:Nat,e= .returned (.int .i64 (j:Int))/\Below u.heap.size u w')))
  (h0i:0<i) (_d0:decide ((0:Int)<(i:Int))=true) (hw3:IntKind.i64.wrap ((i:Int) - 1)=(k:Int)) (hk0:(0:Int)<=(k:Int)) (hk1:(k:Int)<(n:Int))
  (d1:Op.bytesLess xn.toList yn.toList=false) (d2:(xn.toList==yn.toList)=false)
  (hP: ∀ch a a' w',a'.defers=a.defers->Q (.panic ch) a w'->Q (.panic ch) a' w')
  (hQ: ∀(v30 v31 v32 v33 v34 v35 v36 v37 v38 v39 v40 v41 v42 v43 v44 v45 v46 v47 v48 v49 v50 v51 v52 v53 v54 v55 v56 v57 v58 v59 v60 v61 v62:Value) (w':World),Below X.heap.size X w'->Q .normal ⟨#[u0, .pointer (some ⟨p1,0,none⟩),u2,u3, .map (some M), .int .i64 (i:Int), .pointer (some ⟨p6,0,none⟩),u7,u8,u9,u10,u11,u12,u13,u14,u15,u16,u17,u18,u19,u20,u21,u22,u23,u24,u25,u26,u27,u28,u29,v30,v31,v32,v33,v34,v35,v36,v37,v38,v39,v40,v41,v42,v43,v44,v45,v46,v47,v48,v49,v50,v51,v52,v53,v54,v55,v56,v57,v58,v59,v60,v61,v62, .bool (decide (1<c+1)),u64], []⟩ w'):
  Code.wp Tryz.prog R9 Q ⟨#[u0, .pointer (some ⟨p1,0,none⟩),u2,u3, .map (some M), .int .i64 (i:Int), .pointer (some ⟨p6,0,none⟩),u7,u8,u9,u10,u11,u12,u13,u14,u15,u16,u17,u18,u19,u20,u21,u22,u23,u24,u25,u26,u27,u28,u29,u30,u31,u32,u33,u34,u35,u36,u37,u38,u39,u40,u41,u42,u43,u44,u45,u46,u47,u48,u49,u50,u51,u52,u53,u54,u55,u56,u57,u58,u59,u60,u61,u62,u63,u64], []⟩ X:=by
 conv=>arg 2;whnf
 have HP:=zh hP
 have HQ:=zh hQ
 clear hP hQ
 have HDA:=zh (show Below X.heap.size X X.drew from(Below.refl X.heap.size X).drew)
 refine wp_region_held_drew (S:=fun u=>u.cell? ⟨p6,0,none⟩=some (.string xn)/\u.cell? ⟨p6,1,none⟩=some (.int .u64 xl)/\u.cell? ⟨p1,0,none⟩=some (.slice (some ⟨b,o,none⟩) n bc)/\u.cell? ⟨p1,1,none⟩=some (.slice la m lc)/\u.cell? ⟨b,o+k*3,none⟩=some (.string yn)/\(Instr.lookup (144) (.map (some M)) (.int .u64 xl) false).run Tryz.prog u= .ok (.int .i64 (c+1)) u) (by kernel_rfl) (by first|exact HKP.out _ hbu|exact HKP.out _ HDA.out) (fun hHeld=> ?_)
 refine tkI HP.out 0 (h:= ?_)
 refine tkI HP.out 1 (h:= ?_)
 try simp only [Act.put,lsa,lsz,lss]
 refine tkC 2 (h:=fun K hK=> ?_)
 go_wp2_with(go_at_call 99;(with_reducible refine(HIN.out _ HDA.out).mono ?_);rintro e w5 ⟨rfl,hb5⟩;have hbu:=HDA.out.trans (hb5.mono HDA.out.size))
 refine hK.out _ _ (by first|exact HKP.out _ hbu|exact HKP.out _ HDA.out) (fun hHeld=> ?_)
 clear hK K
 try simp only [Act.put,lsa,lsz,lss]
 refine tkI HP.out 3 (h:= ?_)
 refine tkI HP.out 4 (h:= ?_)
 try simp only [Act.put,lsa,lsz,lss]
 refine tkI HP.out 5 (h:= ?_)
 refine tkI HP.out 6 (h:= ?_)
 refine tkI HP.out 7 (h:= ?_)
 try simp only [Act.put,lsa,lsz,lss]
 refine tkI HP.out 8 (h:= ?_)
 refine tkI HP.out 9 (h:= ?_)
 refine tkI HP.out 10 (h:= ?_)
 try simp only [Act.put,lsa,lsz,lss]
 refine tkI HP.out 11 (h:= ?_)
 refine tkI HP.out 12 (h:= ?_)
 refine tkI HP.out 13 (h:= ?_)
 try simp only [Act.put,lsa,lsz,lss]
 refine tkI HP.out 14 (h:= ?_)
 refine tkI HP.out 15 (h:= ?_)
 refine tkI HP.out 16 (h:= ?_)
 try simp only [Act.put,lsa,lsz,lss]
 refine tkI HP.out 17 (h:= ?_)
 refine tkI HP.out 18 (h:= ?_)
 refine tkI HP.out 19 (h:= ?_)
 try simp only [Act.put,lsa,lsz,lss]
 refine tkI HP.out 20 (h:= ?_)
 refine tkI HP.out 21 (h:= ?_)
 refine tkI HP.out 22 (h:= ?_)
 try simp only [Act.put,lsa,lsz,lss]
 refine tkI HP.out 23 (h:= ?_)
 try simp only [Act.put,lsa,lsz,lss]
 refine tkC 24 (h:=fun K hK=> ?_)
 go_wp2_with(go_at_call 98;(with_reducible refine(HLI.out _ hbu).mono ?_);rintro e w6 ⟨j,rfl,hb6⟩;have hbu:=hbu.trans (hb6.mono hbu.size);have hj0:decide ((j:Int)<0)=false:=decide_eq_false (by omega))
 refine hK.out _ _ (by first|exact HKP.out _ hbu|exact HKP.out _ HDA.out) (fun hHeld=> ?_)
 clear hK K
 try simp only [Act.put,lsa,lsz,lss]
 refine tkI HP.out 25 (h:= ?_)
 refine tkI HP.out 26 (h:= ?_)
 refine tkI HP.out 27 (h:= ?_)
 try simp only [Act.put,lsa,lsz,lss]
 refine tkI HP.out 28 (h:= ?_)
 refine tkI HP.out 29 (h:= ?_)
 refine tkI HP.out 30 (h:= ?_)
 try simp only [Act.put,lsa,lsz,lss]
 refine tkI HP.out 31 (h:= ?_)
 refine tkI HP.out 32 (h:= ?_)
 refine tkI HP.out 33 (h:= ?_)
 try simp only [Act.put,lsa,lsz,lss]
 refine wpAnyH_done (by kernel_rfl) ?_ _
 exact HQ.out _ _ _ _ _ _ _ _ _ _ _ _ _ _ _ _ _ _ _ _ _ _ _ _ _ _ _ _ _ _ _ _ _ _ hbu
end Go.Proofs.YtchcelodeepjdaaGreatDoor.Ln

namespace Go.Proofs.YtchcelodeepjdaaGreatDoor.Ln
open Go.RowKit Go.Herb

abbrev eU (v:Int):Value:= .int .u64 v
abbrev eI (v:Int):Value:= .int .i64 v
theorem zjo: ∀a a',eU a=eU a'->a=a':=fun a a' h=>by injection h
theorem lawU:Maps.Keyed Tryz.prog (26):=Maps.int_keyed Tryz.underlying26
abbrev MapC (w:World)(b:Nat)(m:List (Int × Int)):Prop:=MapIs Tryz.prog (26) eU eI w b m
theorem zeroI (w:World):(zeroValue (3)).run Tryz.prog w= .ok (.int .i64 0) w:=by kernel_rfl
def zvc (bs:List Br)(ls:List Ln)(w:World)(e:Ending)(w':World):Prop:= ∃r:Bool,e= .returned (.bool r)/\(r=true↔zz2 bs ls/\1<=bs.length/\bs.length<=12)/\Below w.heap.size w w'

theorem MapIs.lookC {w:World}{b:Nat}{m:List (Int × Int)}{ls:List Int}(h:MapC w b m)(hc:zz7 m ls)(k:Int)(hk:(Lit.int .u64 k).wf=true):
  (Instr.lookup (144) (.map (some b)) (.int .u64 k) false).run Tryz.prog w= .ok (.int .i64 (if k∈ls then 1 else 0)) w:=by
 have:=(MapIs.look h lawU zjo Tryz.underlying144 (zeroI w) (Maps.keyOf_int_mk Tryz.underlying26 hk)).1
 rw [hc k] at this
 by_cases hin:k∈ls
 ·rw [if_pos hin] at this ⊢
  exact this
 ·rw [if_neg hin] at this ⊢
  exact this
theorem MapIs.storeC {w:World}{b:Nat}{m:List (Int × Int)}(h:MapC w b m)(k v:Int)(hk:(Lit.int .u64 k).wf=true)(hl:m.length<100):
  ∃w',(Instr.mapUpdate (144) (.map (some b)) (.int .u64 k) (.int .i64 v)).run Tryz.prog w= .ok () w'/\MapC w' b (putL m k v)/\w.grownBy w' (some b)/\w'.heap.size=w.heap.size:=
 MapIs.store h lawU zjo Tryz.underlying144 (by unfold maxLen;omega) v (Maps.keyOf_int_mk Tryz.underlying26 hk)

set_option maxRecDepth 100000 in
set_option maxHeartbeats 2000000 in
theorem yyg (ba:Option Addr)(bc n:Nat)(la:Option Addr)(lc m:Nat)(bs:List Br)(ls:List Ln)(w:World)(hBs:Brs w ba bs)(hbn:bs.length=n)(hLs:Lns w la ls)(hln:ls.length=m)(hm:m<1000000)(hs:SrtL ls)
  (hwf: ∀x∈bs,(Lit.int .u64 x.2.1).wf=true) (hst: ∀x∈bs,x.1.size<=9223372036854775807):
  Calls Tryz.prog (71) #[zxx ba n bc la m lc] w (zvc bs ls w):=by
 obtain⟨W,hW⟩: ∃W:World,W=w.alloc (.cells #[.slice ba n bc, .slice la m lc] (133)):=⟨_,rfl⟩
 have hB:Below w.heap.size w W:=by rw [hW];exact zb.alloc zr _
 have hx0:W.heap[w.heap.size]? =some (.cells #[.slice ba n bc, .slice la m lc] (133) (0,0)):=by rw [hW];exact zq3 rfl _
 have HB:=zh hB
 have HE:=zh hBs
 have HL:=zh hLs
 have HN:=zh hbn
 have HLN:=zh hln
 have HS:=zh hs
 have HWF:=zh hwf
 have HST:=zh hst
 have HC:Hid (∀u,Below W.heap.size W u->u.cell? ⟨w.heap.size,0,none⟩=some (.slice ba n bc)/\u.cell? ⟨w.heap.size,1,none⟩=some (.slice la m lc)):=zh (fun u hu=>by
  have h0:=zq0 (zq4 hx0 hu (zq2 hx0)) 0
  have h1:=zq0 (zq4 hx0 hu (zq2 hx0)) 1
  simp at h0 h1
  exact⟨h0,h1⟩)
 have HW:=zh hW
 have hWs:w.heap.size+1=W.heap.size:=by rw [hW];simp
 clear hB hx0 hBs hLs hbn hln hs hwf hst
 have hout: ¬(zz2 bs ls/\1<=bs.length/\bs.length<=12)->Hid (∀u,Below w.heap.size w u->zvc bs ls w (.returned (.bool false)) u):=fun h=>zh (fun u hu=>⟨false,rfl,⟨(fun h=>by cases h),fun h2=>absurd h2 h⟩,hu⟩)
 have HOUT:=zh hout
 clear hout
 have hmm:= @run_makeMap Tryz.prog
 go_enter Tryz.func71,Tryz.ntmps71
 by_cases h1:n<1
 ·have HF:=HOUT.out (fun h=>by have:=HN.out;omega)
  have h1':(n:Int)<1:=by omega
  go_wp2_with fail
  go_ret
  rw [<-HW.out]
  exact HF.out _ HB.out
 ·by_cases h2:12<n
  ·have HF:=HOUT.out (fun h=>by have:=HN.out;omega)
   have h1': ¬(n:Int)<1:=by omega
   have h2':(12:Int)<(n:Int):=by omega
   go_wp2_with fail
   go_ret
   rw [<-HW.out]
   exact HF.out _ HB.out
  ·have h1': ¬(n:Int)<1:=by omega
   have h2': ¬(12:Int)<(n:Int):=by omega
   clear hW
   go_wp2_with fail
   rw [<-HW.out]
   obtain⟨V,hV⟩: ∃V:World,V=W.alloc (.map #[] 0):=⟨_,rfl⟩
   have HV:=zh (show MapC V W.heap.size [] /\Below W.heap.size W V from by rw [hV];exact⟨MapIs.made W,zb.alloc zr _⟩)
   rw [<-hV]
   clear hV hmm
   go_loopg [20] n (fun gk iv wr=> ∃(i:Nat) (cm:List (Int × Int)),i+gk=n/\iv= .int .i64 i/\Hid (zz2 (bs.take i) ls)/\Hid (MapC wr W.heap.size cm)/\Hid (zz7 cm ((bs.take i).map (·.2.1)))/\Hid (cm.length<=i)/\Hid (Below W.heap.size W wr))
   case atStart=>exact⟨0, [],by omega,rfl,zh (zz2.nil ls),zh HV.out.1,zh zz7.nil,zh zr,zh HV.out.2⟩
   case round=>
    obtain⟨i,cm,hi,rfl,HFI,HM,HCM,HLM,HBW⟩:=hrel
    have HBw:=zh (HB.out.trans (HBW.out.mono HB.out.size))
    by_cases hlt:i<n
    ·have hil:i<bs.length:=by have:=HN.out;omega
     obtain⟨b,o,rfl,hlb,hcx⟩:=HE.out.get i hil
     have HXE:=zh (List.getElem?_eq_getElem hil)
     have HTK:=zh (List.take_succ_eq_append_getElem hil)
     have HWX:=zh (HWF.out _ (List.getElem_mem hil))
     have HSZ:=zh (HST.out _ (List.getElem_mem hil))
     generalize bs[i] =x at HXE hcx HTK HWX HSZ
     obtain⟨k,hk⟩: ∃k:Nat,k=i - 1:=⟨_,rfl⟩
     obtain⟨yn,HYN,HYC⟩: ∃yn:ByteArray,Hid (∀y,0<i->bs[i - 1]? =some y->y.1=yn)/\Hid (∀u,Below w.heap.size w u->u.cell? ⟨b,o+k*3,none⟩=some (.string yn)):=by
      have hil1:i - 1<bs.length:=by omega
      obtain⟨b',o',he',_,hcy⟩:=HE.out.get (i - 1) hil1
      injection he' with he'
      cases he'
      exact⟨bs[i - 1].1,zh (fun y _ hy=>by rw [List.getElem?_eq_getElem hil1] at hy;injection hy with hy;rw [<-hy]),zh (fun u hu=>by rw [hk];exact(hu.cell (p:=⟨b,_,none⟩) hlb).trans (hcy 0 _ rfl))⟩
     have g1:=(HBw.out.cell (p:=⟨b,_,none⟩) hlb).trans (hcx 0 _ rfl)
     have g2:=(HBw.out.cell (p:=⟨b,_,none⟩) hlb).trans (hcx 1 _ rfl)
     have g3:=(HBw.out.cell (p:=⟨b,_,none⟩) hlb).trans (hcx 2 _ rfl)
     simp only [Nat.add_zero] at g1 g2 g3
     obtain⟨X1,hX1⟩: ∃X1:World,X1=wr.alloc (.cells #[.string x.1, .int .u64 x.2.1, .int .u64 x.2.2] (73)):=⟨_,rfl⟩
     have hB1:Below wr.heap.size wr X1:=by rw [hX1];exact zb.alloc zr _
     have hx1:X1.heap[wr.heap.size]? =some (.cells #[.string x.1, .int .u64 x.2.1, .int .u64 x.2.2] (73) (0,0)):=by rw [hX1];exact zq3 rfl _
     have hM1:MapC X1 W.heap.size cm:=HM.out.same (hB1.block _ HM.out.lt)
     obtain⟨c,hc⟩: ∃c:Int,c=if x.2.1∈(bs.take i).map (·.2.1)then 1 else 0:=⟨_,rfl⟩
     have HCV:=zh hc
     have hc01:0<=c/\c<=1:=by rw [hc];split<;>omega
     have hlk:=MapIs.lookC hM1 HCM.out x.2.1 HWX.out
     rw [<-hc] at hlk
     obtain⟨X,hst,hM3,hg3,hs3⟩:=MapIs.storeC hM1 x.2.1 (c+1) HWX.out (by have:=HLM.out;omega)
     have hw2:IntKind.i64.wrap (c+1)=c+1:=IntWalk.i64_in _ (by omega)
     have hwlt:=HM.out.lt
     have hWwr:=HBW.out.size
     have hx3:X.heap[wr.heap.size]? =some (.cells #[.string x.1, .int .u64 x.2.1, .int .u64 x.2.2] (73) (0,0)):=(hg3.block _ (zq2 hx1) (fun e=>by injection e with e;omega)).trans hx1
     have HX:=zh (show Below w.heap.size w X from(HBw.out.trans (hB1.mono HBw.out.size)).grown hg3 (HBw.out.trans (hB1.mono HBw.out.size)).size (fun k e=>by injection e with e;omega))
     have HX2:=zh (show Below W.heap.size W X from(HBW.out.trans (hB1.mono HBW.out.size)).grown hg3 (HBW.out.trans (hB1.mono HBW.out.size)).size (fun k e=>by injection e with e;omega))
     have HM3:=zh hM3
     have HCB:Hid (∀u,Below X.heap.size X u->u.cell? ⟨wr.heap.size,0,none⟩=some (.string x.1)/\u.cell? ⟨wr.heap.size,1,none⟩=some (.int .u64 x.2.1)):=zh (fun u hu=>by
      have k0:=zq0 (zq4 hx3 hu (zq2 hx3)) 0
      have k1:=zq0 (zq4 hx3 hu (zq2 hx3)) 1
      simp at k0 k1
      exact⟨k0,k1⟩)
     have HKP:Hid (∀u,Below X.heap.size X u->u.cell? ⟨wr.heap.size,0,none⟩=some (.string x.1)/\u.cell? ⟨wr.heap.size,1,none⟩=some (.int .u64 x.2.1)/\u.cell? ⟨w.heap.size,0,none⟩=some (.slice (some ⟨b,o,none⟩) n bc)/\u.cell? ⟨w.heap.size,1,none⟩=some (.slice la m lc)/\u.cell? ⟨b,o+k*3,none⟩=some (.string yn)/\(Instr.lookup (144) (.map (some W.heap.size)) (.int .u64 x.2.1) false).run Tryz.prog u= .ok (.int .i64 (c+1)) u):=zh (fun u hu=>by
      obtain⟨k2,k3⟩:=HC.out u (HX2.out.trans (hu.mono HX2.out.size))
      have k5:=(MapIs.look (HM3.out.same (hu.block _ HM3.out.lt)) lawU zjo Tryz.underlying144 (zeroI u) (Maps.keyOf_int_mk Tryz.underlying26 HWX.out)).1
      rw [zx2] at k5
      exact⟨(HCB.out u hu).1,(HCB.out u hu).2,k2,k3,HYC.out u (HX.out.trans (hu.mono HX.out.size)),k5⟩)
     have HLA:Hid (∀u,Below X.heap.size X u->Calls Tryz.prog (98) #[zxx (some ⟨b,o,none⟩) n bc la m lc, .int .u64 x.2.1] u (zki ls x.2.1 u)):=zh (fun u hu=>yku (some ⟨b,o,none⟩) n bc la lc m ls x.2.1 u (HL.out.ext (HX.out.trans (hu.mono HX.out.size))) HLN.out hm HS.out)
     have hi0:(0:Int)<=(i:Int):=by omega
     have hi1:(i:Int)<(n:Int):=by omega
     have hw1:IntKind.i64.wrap ((i:Int)+1)=(i:Int)+1:=IntWalk.i64_in _ (by omega)
     have hw3:0<i->IntKind.i64.wrap ((i:Int) - 1)=(k:Int):=fun h=>by rw [IntWalk.i64_in _ (by omega)];omega
     have hk0:(0:Int)<=(k:Int):=by omega
     have hk1:(k:Int)<(n:Int):=by omega
     clear hk
     clear hcx hB1 hM1 hx1 hg3 hc hc01 hx3 hM3
     rw [hX1] at hlk hst
     clear hX1
     go_wp2_with fail
     clear g1 g2 g3 hlk hst hs3
     have HDA:=zh (show Below X.heap.size X X.drew from(Below.refl X.heap.size X).drew)
     by_cases hnm:nameB x.1=true
     ·have HNM:=zh hnm
      have HIN:=zh (show∀u,Below X.heap.size X u->Calls Tryz.prog (99) #[.string x.1] u (fun e w'=>e= .returned (.bool true)/\Below u.heap.size u w')from fun u hu=>(zyu x.1 u HSZ.out).mono fun e w' ⟨h3,h4⟩=>⟨by rw [h3,hnm],h4⟩)
      clear hnm
      by_cases h0i:0<i
      ·have d0:decide ((0:Int)<(i:Int))=true:=decide_eq_true (by omega)
       have hw3:=hw3 h0i
       by_cases hle:yn.toList<x.1.toList
       ·have d1:Op.bytesLess x.1.toList yn.toList=false:=by rw [bytesLess_eq];exact decide_eq_false (fun h=>List.lt_irrefl _ (List.lt_trans hle h))
        have d2:(x.1.toList==yn.toList)=false:=beq_eq_false_iff_ne.2 (fun h=>by rw [h] at hle;exact List.lt_irrefl _ hle)
        have HLT0:=zh (show∀y,0<i->bs[i - 1]? =some y->y.1.toList<x.1.toList from fun y h5 h6=>by rw [HYN.out y h5 h6];exact hle)
        clear hle
        cases hp:parL ls x.2.1 with
        |none=>
         have HF:=HOUT.out (fun h=>by obtain⟨-, -,⟨q,hq⟩, -⟩:=h.1.at HXE.out;rw [hp] at hq;cases hq)
         have HLI:=zh (show∀u,Below X.heap.size X u->Calls Tryz.prog (98) #[zxx (some ⟨b,o,none⟩) n bc la m lc, .int .u64 x.2.1] u (fun e w'=>e= .returned (.int .i64 (-1))/\Below u.heap.size u w')from fun u hu=>by
          refine(HLA.out u hu).mono ?_
          rintro e w' ⟨r,rfl,⟨j,q, -, -,h3⟩|⟨rfl, -⟩,h2⟩
          ·rw [hp] at h3;cases h3
          ·exact⟨rfl,h2⟩)
         clear hp HLA
         refine r9_C2 HKP HIN HLI h0i d0 hw3 hk0 hk1 d1 d2 (by rintro ch ⟨t,d⟩ ⟨t',d'⟩ w' rfl h;exact h) ?_
         intro v30 v31 v32 v33 v34 v35 v36 v37 v38 v39 v40 v41 v42 v43 v44 v45 v46 v47 v48 v49 v50 v51 v52 v53 v54 v55 v56 v57 v58 v59 v60 v61 v62 wq hbu
         have HBU:=zh (HX.out.trans (hbu.mono HX.out.size))
         clear hbu
         go_wp2
         go_ret
         exact HF.out _ HBU.out
        |some q=>
         have HLI:=zh (show∀u,Below X.heap.size X u->Calls Tryz.prog (98) #[zxx (some ⟨b,o,none⟩) n bc la m lc, .int .u64 x.2.1] u (fun e w'=> ∃j:Nat,e= .returned (.int .i64 (j:Int))/\Below u.heap.size u w')from fun u hu=>by
          refine(HLA.out u hu).mono ?_
          rintro e w' ⟨r,rfl,⟨j,q,rfl, -,h3⟩|⟨-,h3⟩,h2⟩
          ·exact⟨j,rfl,h2⟩
          ·rw [hp] at h3;cases h3)
         clear HLA
         refine r9_C3 HKP HIN HLI h0i d0 hw3 hk0 hk1 d1 d2 (by rintro ch ⟨t,d⟩ ⟨t',d'⟩ w' rfl h;exact h) ?_
         intro v30 v31 v32 v33 v34 v35 v36 v37 v38 v39 v40 v41 v42 v43 v44 v45 v46 v47 v48 v49 v50 v51 v52 v53 v54 v55 v56 v57 v58 v59 v60 v61 v62 wq hbu
         have HBU:=zh (HX2.out.trans (hbu.mono HX2.out.size))
         have HBF:=zh (HX.out.trans (hbu.mono HX.out.size))
         have HMU:=zh (HM3.out.same (hbu.block _ HM3.out.lt))
         clear hbu
         by_cases hin:x.2.1∈(bs.take i).map (·.2.1)
         ·have HF:=HOUT.out (fun h=>(h.1.at HXE.out).2.2.2 hin)
          obtain rfl:c=1:=by have:=HCV.out;rw [if_pos hin] at this;exact this
          clear hp hin
          go_wp2
          go_ret
          exact HF.out _ HBF.out
         ·have HFN:=zh (HFI.out.next HXE.out HNM.out HLT0.out hp hin)
          obtain rfl:c=0:=by have:=HCV.out;rw [if_neg hin] at this;exact this
          have HCT:=zh (show zz7 (putL cm x.2.1 (0+1)) ((bs.take (i+1)).map (·.2.1))from by rw [HTK.out,List.map_append];exact HCM.out.put x.2.1)
          have HLT:=zh (show(putL cm x.2.1 (0+1)).length<=i+1 from by have:=zjf cm x.2.1 (0+1);have:=HLM.out;omega)
          clear hp hin
          go_wp2
          go_roundg(gk - 1)
          case measure=>omega
          case rel=>exact⟨i+1,_,by omega,by go_num,HFN,HMU,HCT,HLT,HBU⟩
       ·have d1:(Op.bytesLess x.1.toList yn.toList||x.1.toList==yn.toList)=true:=by rw [bytesLess_eq];rcases List.le_iff_lt_or_eq.1 (List.not_lt.1 hle)with h|h<;>simp [h]
        have HF:=HOUT.out (fun h=>by
         have hi1:i - 1<bs.length:=by have:=HN.out;omega
         have h5:=(h.1.at HXE.out).2.1 _ h0i (List.getElem?_eq_getElem hi1)
         rw [HYN.out _ h0i (List.getElem?_eq_getElem hi1)] at h5
         exact hle h5)
        clear hle HLA
        refine r9_C1 HKP HIN h0i d0 hw3 hk0 hk1 d1 (by rintro ch ⟨t,d⟩ ⟨t',d'⟩ w' rfl h;exact h) ?_
        intro v30 v31 v32 v33 v34 v35 v36 v37 v38 v39 v40 v41 v42 v43 v44 v45 v46 v47 v48 v49 v50 v51 v52 v53 v54 v55 v56 v57 v58 v59 v60 v61 v62 wq hbu
        have HBU:=zh (HX.out.trans (hbu.mono HX.out.size))
        clear hbu
        go_wp2
        go_ret
        exact HF.out _ HBU.out
      ·have d0:decide ((0:Int)<(i:Int))=false:=decide_eq_false (by omega)
       have HLT0:=zh (show∀y,0<i->bs[i - 1]? =some y->y.1.toList<x.1.toList from fun y h5 h6=>absurd h5 h0i)
       cases hp:parL ls x.2.1 with
       |none=>
        have HF:=HOUT.out (fun h=>by obtain⟨-, -,⟨q,hq⟩, -⟩:=h.1.at HXE.out;rw [hp] at hq;cases hq)
        have HLI:=zh (show∀u,Below X.heap.size X u->Calls Tryz.prog (98) #[zxx (some ⟨b,o,none⟩) n bc la m lc, .int .u64 x.2.1] u (fun e w'=>e= .returned (.int .i64 (-1))/\Below u.heap.size u w')from fun u hu=>by
         refine(HLA.out u hu).mono ?_
         rintro e w' ⟨r,rfl,⟨j,q, -, -,h3⟩|⟨rfl, -⟩,h2⟩
         ·rw [hp] at h3;cases h3
         ·exact⟨rfl,h2⟩)
        clear hp HLA
        refine r9_B1 HKP HIN HLI h0i d0 (by rintro ch ⟨t,d⟩ ⟨t',d'⟩ w' rfl h;exact h) ?_
        intro v30 v31 v32 v33 v34 v35 v36 v37 v38 v39 v40 v41 v42 v43 v44 v45 v46 v47 v48 v49 v50 v51 v52 v53 v54 v55 v56 v57 v58 v59 v60 v61 v62 wq hbu
        have HBU:=zh (HX.out.trans (hbu.mono HX.out.size))
        clear hbu
        go_wp2
        go_ret
        exact HF.out _ HBU.out
       |some q=>
        have HLI:=zh (show∀u,Below X.heap.size X u->Calls Tryz.prog (98) #[zxx (some ⟨b,o,none⟩) n bc la m lc, .int .u64 x.2.1] u (fun e w'=> ∃j:Nat,e= .returned (.int .i64 (j:Int))/\Below u.heap.size u w')from fun u hu=>by
         refine(HLA.out u hu).mono ?_
         rintro e w' ⟨r,rfl,⟨j,q,rfl, -,h3⟩|⟨-,h3⟩,h2⟩
         ·exact⟨j,rfl,h2⟩
         ·rw [hp] at h3;cases h3)
        clear HLA
        refine r9_B2 HKP HIN HLI h0i d0 (by rintro ch ⟨t,d⟩ ⟨t',d'⟩ w' rfl h;exact h) ?_
        intro v30 v31 v32 v33 v34 v35 v36 v37 v38 v39 v40 v41 v42 v43 v44 v45 v46 v47 v48 v49 v50 v51 v52 v53 v54 v55 v56 v57 v58 v59 v60 v61 v62 wq hbu
        have HBU:=zh (HX2.out.trans (hbu.mono HX2.out.size))
        have HBF:=zh (HX.out.trans (hbu.mono HX.out.size))
        have HMU:=zh (HM3.out.same (hbu.block _ HM3.out.lt))
        clear hbu
        by_cases hin:x.2.1∈(bs.take i).map (·.2.1)
        ·have HF:=HOUT.out (fun h=>(h.1.at HXE.out).2.2.2 hin)
         obtain rfl:c=1:=by have:=HCV.out;rw [if_pos hin] at this;exact this
         clear hp hin
         go_wp2
         go_ret
         exact HF.out _ HBF.out
        ·have HFN:=zh (HFI.out.next HXE.out HNM.out HLT0.out hp hin)
         obtain rfl:c=0:=by have:=HCV.out;rw [if_neg hin] at this;exact this
         have HCT:=zh (show zz7 (putL cm x.2.1 (0+1)) ((bs.take (i+1)).map (·.2.1))from by rw [HTK.out,List.map_append];exact HCM.out.put x.2.1)
         have HLT:=zh (show(putL cm x.2.1 (0+1)).length<=i+1 from by have:=zjf cm x.2.1 (0+1);have:=HLM.out;omega)
         clear hp hin
         go_wp2
         go_roundg(gk - 1)
         case measure=>omega
         case rel=>exact⟨i+1,_,by omega,by go_num,HFN,HMU,HCT,HLT,HBU⟩
     ·have HF:=HOUT.out (fun h=>hnm (h.1.at HXE.out).1)
      have HIN:=zh (show∀u,Below X.heap.size X u->Calls Tryz.prog (99) #[.string x.1] u (fun e w'=>e= .returned (.bool false)/\Below u.heap.size u w')from fun u hu=>(zyu x.1 u HSZ.out).mono fun e w' ⟨h3,h4⟩=>⟨by rw [h3];simp [hnm],h4⟩)
      clear hnm HLA
      refine r9_A HKP HIN (by rintro ch ⟨t,d⟩ ⟨t',d'⟩ w' rfl h;exact h) ?_
      intro v30 v31 v32 v33 v34 v35 v36 v37 v38 v39 v40 v41 v42 v43 v44 v45 v46 v47 v48 v49 v50 v51 v52 v53 v54 v55 v56 v57 v58 v59 v60 v61 v62 wq hbu
      have HBU:=zh (HX.out.trans (hbu.mono HX.out.size))
      clear hbu
      go_wp2
      go_ret
      exact HF.out _ HBU.out
    ·have hie:bs.take i=bs:=List.take_of_length_le (by have:=HN.out;omega)
     have HT:=zh (show zvc bs ls w (.returned (.bool true)) wr from⟨true,rfl,⟨fun _=>⟨by have:=HFI.out;rwa [hie] at this,by have:=HN.out;omega,by have:=HN.out;omega⟩,fun _=>rfl⟩,HBw.out⟩)
     clear hie
     go_wp2_with fail
     go_ret
     exact HT.out
end Go.Proofs.YtchcelodeepjdaaGreatDoor.Ln

namespace Go.Proofs.YtchcelodeepjdaaGreatDoor.Ln
open Go.RowKit Go.Shelf Go.Herb

structure GoodT (bs:List Br)(ls:List Ln):Prop where
 formed:zx9 ls
 nl:ls.length<=48
 named:zz2 bs ls
 b1:1<=bs.length
 b12:bs.length<=12
theorem GoodT.l1 {bs:List Br}{ls:List Ln}(h:GoodT bs ls):0<ls.length:=by
 obtain⟨h1,_⟩:=List.getElem?_eq_some_iff.1 h.formed.first
 exact h1
def zvd (bs:List Br)(ls:List Ln)(w:World)(e:Ending)(w':World):Prop:=
 ((¬GoodT bs ls/\e= .returned (.tuple #[.pointer none, .int .i64 4]))\/(GoodT bs ls/\ ∃p:Nat,e= .returned (.tuple #[.pointer (some ⟨p,0,none⟩), .int .i64 0])/\zj5 w' p bs ls))/\Below w.heap.size w w'
structure yvn (w:World)(p g h:Nat)(bs:List Br)(ls:List Ln):Prop where
 tree:w.heap[p]? =some (.cells #[.slice (some ⟨g,0,none⟩) bs.length bs.length, .slice (some ⟨h,0,none⟩) ls.length ls.length, .int .i64 1] (168) (0,0))
 brs:w.heap[g]? =some (.cells (bs.flatMap brc).toArray (73) (0,0))
 lns:w.heap[h]? =some (.cells (ls.flatMap lnc).toArray (53) (0,0))
theorem yvn.is {w:World}{p g h:Nat}{bs:List Br}{ls:List Ln}(t:yvn w p g h bs ls):zj5 w p bs ls:=zj5.mk2 rfl rfl t.tree t.brs t.lns
def OfNew (bs:List Br)(ls:List Ln)(w:World)(e:Ending)(w':World):Prop:=
 ((¬GoodT bs ls/\e= .returned (.tuple #[.pointer none, .int .i64 4]))\/(GoodT bs ls/\ ∃p g h:Nat,e= .returned (.tuple #[.pointer (some ⟨p,0,none⟩), .int .i64 0])/\yvn w' p g h bs ls/\w.heap.size<=p/\w.heap.size<=g/\w.heap.size<=h))/\Below w.heap.size w w'
set_option maxRecDepth 100000 in
theorem yyi (ba:Option Addr)(bc n:Nat)(la:Option Addr)(lc m:Nat)(bs:List Br)(ls:List Ln)(w:World)(hBs:Brs w ba bs)(hbn:bs.length=n)(hLs:Lns w la ls)(hln:ls.length=m)(hle:m<=lc)(hmx:lc<=maxLen)(hn:n<1000000)(hm:m<1000000)
  (hwf: ∀x∈bs,(Lit.int .u64 x.2.1).wf=true) (hst: ∀x∈bs,x.1.size<=9223372036854775807):
  Calls Tryz.prog (30) #[.slice ba n bc, .slice la m lc] w (OfNew bs ls w):=by
 obtain⟨W,hW⟩: ∃W:World,W=w.alloc (.cells #[.slice ba n bc, .slice la m lc] (133)):=⟨_,rfl⟩
 have hB:Below w.heap.size w W:=by rw [hW];exact balc zb
 have hx0:W.heap[w.heap.size]? =some (.cells #[.slice ba n bc, .slice la m lc] (133) (0,0)):=by rw [hW];exact zq3 rfl _
 have HC:Hid (∀u,Below W.heap.size W u->u.cell? ⟨w.heap.size,0,none⟩=some (.slice ba n bc)/\u.cell? ⟨w.heap.size,1,none⟩=some (.slice la m lc)):=zh (fun u hu=>by
  have h0:=zq0 (zq4 hx0 hu (zq2 hx0)) 0
  have h1:=zq0 (zq4 hx0 hu (zq2 hx0)) 1
  simp at h0 h1
  exact⟨h0,h1⟩)
 have HF:=zh (ywt ba n bc la lc m ls W (hLs.ext hB) hln hle hmx)
 have HNM:=zh (fun(hs:SrtL ls) (u:World) (hu:Below W.heap.size W u)=>yyg ba bc n la lc m bs ls u (hBs.ext (hB.trans (hu.mono hB.size))) hbn (hLs.ext (hB.trans (hu.mono hB.size))) hln (by omega) hs hwf hst)
 have HCP:=zh (fun(h0:0<n) (h1:0<m) (u:World) (hu:Below W.heap.size W u)=>ywj ba bc n la lc m bs ls u (hBs.ext (hB.trans (hu.mono hB.size))) (hLs.ext (hB.trans (hu.mono hB.size))) hbn hln h0 h1 (by omega) (by omega))
 have HN:=zh (show bs.length=n/\ls.length=m from⟨hbn,hln⟩)
 have HB:=zh hB
 have HW:=zh hW
 rw [hW] at HF
 clear hB hx0 hBs hbn hLs hln hle hmx hn hm hwf hst hW
 go_enter Tryz.func30,Tryz.ntmps30
 go_wp2_with fail
 refine HF.out.mono ?_
 rw [<-HW.out]
 rintro e w1 ⟨r,rfl,hr,hB1⟩
 have HB1:=zh (HB.out.trans (hB1.mono HB.out.size))
 obtain⟨c0,c1⟩:=HC.out w1 hB1
 cases r with
 |false=>
  have HE:=zh (show¬GoodT bs ls from fun h=>by have:=hr.2 ⟨h.formed,h.nl⟩;cases this)
  clear hr HF HNM HCP
  go_wp2_with fail
  go_ret2
  exact⟨.inl ⟨HE.out,rfl⟩,HB1.out⟩
 |true=>
  obtain⟨hf,h48⟩:=hr.1 rfl
  have HFM:=zh hf
  have H48:=zh h48
  have HNM2:=zh (HNM.out hf.srt w1 hB1)
  have HBW:=zh hB1
  clear hr HF HNM hf h48 hB1
  go_wp2_with fail
  refine HNM2.out.mono ?_
  rintro e w2 ⟨r,rfl,hr,hB2⟩
  have HB2:=zh (HB1.out.trans (hB2.mono HB1.out.size))
  have HBW2:=zh (HBW.out.trans (hB2.mono HBW.out.size))
  obtain⟨d0,d1⟩:=HC.out w2 HBW2.out
  cases r with
  |false=>
   have HE:=zh (show¬GoodT bs ls from fun h=>by have:=hr.2 ⟨h.named,h.b1,h.b12⟩;cases this)
   clear hr HCP hB2
   go_wp2_with fail
   go_ret2
   exact⟨.inl ⟨HE.out,rfl⟩,HB2.out⟩
  |true=>
   obtain⟨h1,h2,h3⟩:=hr.1 rfl
   have HG:=zh (show GoodT bs ls from⟨HFM.out,H48.out,h1,h2,h3⟩)
   have HCQ:=zh (HCP.out (by have:=HN.out;omega) (by have:=HN.out;have:=HG.out.l1;omega) w2 HBW2.out)
   clear hr HCP hB2 h1 h2 h3
   go_wp2_with(first
    |(go_at_call 73;refine HCQ.out.mono ?_;rintro e w3 ⟨g,h,rfl,hg,hh,hg0,hh0, -,hB3⟩)
    |(go_at_call 72;refine(made_any _ _ _ _ _ _ _).mono ?_;rintro e w4 ⟨rfl,hx4,hB4⟩))
   go_ret2
   have hg4:=zq4 hg hB4 (zq2 hg)
   have hh4:=zq4 hh hB4 (zq2 hh)
   have hs2:=HB2.out.size
   have hs3:=hB3.size
   exact⟨.inr ⟨HG.out,_,g,h,rfl,⟨by rw [HN.out.1,HN.out.2];exact hx4,hg4,hh4⟩,by omega,by omega,by omega⟩,HB2.out.trans ((hB3.trans (hB4.mono hB3.size)).mono HB2.out.size)⟩
theorem of_new (ba:Option Addr)(bc n:Nat)(la:Option Addr)(lc m:Nat)(bs:List Br)(ls:List Ln)(w:World)(hBs:Brs w ba bs)(hbn:bs.length=n)(hLs:Lns w la ls)(hln:ls.length=m)(hle:m<=lc)(hmx:lc<=maxLen)(hn:n<=100)(hm:m<=100)
  (hwf: ∀x∈bs,(Lit.int .u64 x.2.1).wf=true) (hst: ∀x∈bs,x.1.size<=9223372036854775807):
  Calls Tryz.prog (30) #[.slice ba n bc, .slice la m lc] w (OfNew bs ls w):=
 yyi ba bc n la lc m bs ls w hBs hbn hLs hln hle hmx (by omega) (by omega) hwf hst
theorem of_anyB (ba:Option Addr)(bc n:Nat)(la:Option Addr)(lc m:Nat)(bs:List Br)(ls:List Ln)(w:World)(hBs:Brs w ba bs)(hbn:bs.length=n)(hLs:Lns w la ls)(hln:ls.length=m)(hle:m<=lc)(hmx:lc<=maxLen)(hn:n<1000000)(hm:m<1000000)
  (hwf: ∀x∈bs,(Lit.int .u64 x.2.1).wf=true) (hst: ∀x∈bs,x.1.size<=9223372036854775807):
  Calls Tryz.prog (30) #[.slice ba n bc, .slice la m lc] w (zvd bs ls w):=
 (yyi ba bc n la lc m bs ls w hBs hbn hLs hln hle hmx hn hm hwf hst).mono (by
  rintro e w' ⟨⟨h,rfl⟩|⟨h,p,g,k,rfl,ht, -, -, -⟩,hB⟩
  ·exact⟨.inl ⟨h,rfl⟩,hB⟩
  ·exact⟨.inr ⟨h,p,rfl,ht.is⟩,hB⟩)
theorem of_any (ba:Option Addr)(bc n:Nat)(la:Option Addr)(lc m:Nat)(bs:List Br)(ls:List Ln)(w:World)(hBs:Brs w ba bs)(hbn:bs.length=n)(hLs:Lns w la ls)(hln:ls.length=m)(hle:m<=lc)(hmx:lc<=maxLen)(hn:n<=100)(hm:m<=100)
  (hwf: ∀x∈bs,(Lit.int .u64 x.2.1).wf=true) (hst: ∀x∈bs,x.1.size<=9223372036854775807):
  Calls Tryz.prog (30) #[.slice ba n bc, .slice la m lc] w (zvd bs ls w):=
 (of_new ba bc n la lc m bs ls w hBs hbn hLs hln hle hmx hn hm hwf hst).mono (by
  rintro e w' ⟨⟨h,rfl⟩|⟨h,p,g,k,rfl,ht, -, -, -⟩,hB⟩
  ·exact⟨.inl ⟨h,rfl⟩,hB⟩
  ·exact⟨.inr ⟨h,p,rfl,ht.is⟩,hB⟩)
end Go.Proofs.YtchcelodeepjdaaGreatDoor.Ln

namespace Go.Proofs.YtchcelodeepjdaaGreatDoor.Ln
open Go.ChangeShapes Go.WideShapes Go.ChangeAt Go.RowKit Go.Herb Go.Deep

section
variable {H:Type} {enc:TypeId × Value->H} {w:World}
def U64 (x:Int):Prop:=(Lit.int .u64 x).wf=true
structure SIn {α:Type}(enc:α->List Value)(s:Nat)(Q:α->Prop)(w:World)(a:Option Addr)(cap:Nat)(xs:List α):Prop where
 els:Els enc s w a xs
 nil:a=none->cap=0
 le:xs.length<=cap
 max:cap<=maxLen
 all: ∀x∈xs,Q x
end
end Go.Proofs.YtchcelodeepjdaaGreatDoor.Ln

namespace Go.Herb
open Go.RowKit
structure KeepP (kp:Nat->Prop)(A B:World):Prop where
 size:A.heap.size<=B.heap.size
 kept: ∀(k:Nat),kp k->B.heap[k]? =A.heap[k]?
variable {P:Program}
def SeqKp {α:Type}(n:Nat)(P:Program)(g:Nat)(lb:Array Value)(b:Nat)(kp:Nat->Prop)(encs:α->Array Value)(xs:List α)(w:World):Prop:=
 ∀(l:Nat) (J:List α->World->Prop) (W:World),Below w.heap.size w W->(∀pre A B,J pre A->TurnI b A B->J pre B)->
  (∀pre x W1,J pre W1->(pre++ [x])<+:xs->YieldAt Fence.wide (n - 1) P l (encs x) W1 fun e W'=>e= .returned (.bool true)/\J (pre++ [x]) W'/\KeepP kp W1 W')->
  J [] W->CallsIn Fence.wide n P g (#[.func (.yield l) #[] #[]] ++lb) W fun e W'=>(∃v,e= .returned v)/\J xs W'
def kpPost {α:Type}(N:Nat)(kp:Nat->Prop)(I:List α->World->Prop)(xs:List α)(W:World):Exit->Act->World->Prop
 | .normal,_,W'=>KeepP kp W W'/\(∀(k:Nat) (o:Obj),N<=k->W.heap[k]? =some o->o.isCells=false->W'.heap[k]? =some o)/\I xs W'
 |_,_,_=>False

theorem yxe {α:Type}{n:Nat}{g:Operand}{ps:Array Tmp}{assign body:Code}{Q:Exit->Act->World->Prop}{a:Act}{w:World}
  {gf:Nat} {lb:Array Value} (hg:a.eval g= .func (.func gf) #[] lb) (eg: ∀args w,(callFunc gf args).run P w= .ok (.enter gf args) w)
  {encs:α->Array Value} (hps: ∀x,(encs x).size=ps.size) (xs:List α) {b:Nat} {kp:Nat->Prop} (hkp: ∀k,kp k->k<w.heap.size) (hb:b<w.heap.size) (hseq:SeqKp (n - 1) P gf lb b kp encs xs w)
  (I:List α->World->Prop) (hI: ∀pre A B,I pre A->Turn b w.heap.size A B->I pre B) (h0:I [] w) (a₁:α->Act)
  (hassign: ∀(l:Nat) (x:α) (W:World) (K:Act->World->Prop),K (a₁ x) W->
   assign.wpIn (Fence.wide.inRound l) (n - 1 - 1) P (Exit.then K (fun _ _ _=>False)) {tmps:=(ps.zip (encs x)).foldl (fun t (p,v)=>t.setIfInBounds p v) a.tmps,defers:= []} W)
  (hbody: ∀(l:Nat) (pre:List α) (x:α) (W:World),I pre W->(pre++ [x])<+:xs->body.wpIn (Fence.wide.inRound l) (n - 1 - 1) P (kpPost w.heap.size kp I (pre++ [x]) W) (a₁ x) W)
  (hdone: ∀(W:World),I xs W->W.heap[w.heap.size]? =some (.deferred (some []))->Q .normal {a with defers:={target:= .collected w.heap.size,args:= #[]}::a.defers } W):
  (Code.rangeFunc g ps assign body).wpIn Fence.wide n P Q a w:=by
 refine wpIn_rangeFunc fun fn hfn=> ?_
 obtain⟨rec,hrec⟩: ∃rec:LoopState->Loop,rec=fun st=>{state:=st,pending:=none,fn,tmps:=a.tmps,params:=ps,assign,body,defers:=w.heap.size }:=⟨_,rfl⟩
 obtain⟨W1,hW1⟩: ∃W1,W1=(w.alloc (.deferred (some []))).alloc (.loop (rec .ready)):=⟨_,rfl⟩
 have hB1:Below w.heap.size w W1:=by rw [hW1];exact balc (balc zb)
 have hL1:W1.heap[w.heap.size+1]? =some (.loop (rec .ready)):=by rw [hW1];exact zq3 (by simp) _
 have hK1:W1.heap[w.heap.size]? =some (.deferred (some [])):=by rw [hW1];exact zz3 (zq3 rfl _)
 refine⟨w.heap.size+1, [{target:= .collected w.heap.size,args:= #[]}],W1,{target:= .fn (.func gf) lb,args:= #[.func (.yield (w.heap.size+1)) #[] #[]]},W1,gf,
  #[.func (.yield (w.heap.size+1)) #[] #[]] ++lb,W1,?_,?_,?_,?_,?_,?_⟩
 ·rw [hW1,hrec];exact run_enterLoop_outer _ _ _ _ _
 ·simp only [resolve,hg]
  simp [go_sem]
 ·intro f' _;trivial
 ·simp [invoke,go_sem,eg]
 ·intro h;cases h
 ·refine(hseq (w.heap.size+1) (fun pre W=>I pre W/\W.heap[w.heap.size+1]? =some (.loop (rec .ready))/\W.heap[w.heap.size]? =some (.deferred (some []))) W1 hB1
   (fun pre A B hs ht=>⟨hI _ _ _ hs.1 ht.turn,ht.kept _ _ hs.2.1 (by omega),ht.kept _ _ hs.2.2 (by omega)⟩) ?_ ⟨hI _ _ _ h0 (TurnI.of_below hB1).turn,hL1,hK1⟩).mono ?_
  ·rintro pre x W ⟨hi,hl,hk⟩ hpre
   have hlt:=zq2 hl
   have hy:=run_yield (P:=P) (args:=encs x) hl (by rw [hrec];exact hps x)
   rw [hrec] at hy
   refine⟨fn,_,assign,body,hy,roundIn_of_wpIn hfn (hassign _ x W _ ⟨_,run_beginRound hl (by rw [hrec]),?_⟩)⟩
   have hl2:(W.putObj (w.heap.size+1) (.loop {rec .ready with state:= .busy })).heap[w.heap.size+1]? =some (.loop {rec .ready with state:= .busy }):=World.putObj_heap_same hlt
   have hk2:(W.putObj (w.heap.size+1) (.loop {rec .ready with state:= .busy })).heap[w.heap.size]? =some (.deferred (some [])):=(World.putObj_heap_other (by omega)).trans hk
   refine wpIn_mono (hbody _ pre x _ (hI _ _ _ hi (Turn.putObj _ hl rfl (by omega))) hpre) ?_
   rintro e a3 W3 hp
   cases e with
   |normal=>
    obtain⟨hk3,hn3,hi3⟩:=hp
    have hl3:=hn3 _ _ (by omega) hl2 rfl
    have hd3:=hn3 _ _ zr hk2 rfl
    have hlt3:=zq2 hl3
    have hr:=run_endRound (P:=P) none hl3
    rw [hrec] at hr
    refine⟨_,_,hr,rfl,⟨hI _ _ _ hi3 (Turn.putObj _ hl3 rfl (by omega)),?_,?_⟩,?_⟩
    ·rw [hrec];exact World.putObj_heap_same hlt3
    ·exact(World.putObj_heap_other (by omega)).trans hd3
    ·refine⟨?_,fun k hk=> ?_⟩
     ·have:=hk3.size
      simp only [World.putObj,Array.size_setIfInBounds] at this ⊢
      exact this
     ·have hkl:=hkp k hk
      rw [World.putObj_heap_other (by omega),hk3.kept k hk,World.putObj_heap_other (by omega)]
   |ret=>exact hp.elim
   |exit id=>exact hp.elim
   |goto t=>exact hp.elim
   |panic ch=>exact hp.elim
   |outgrown=>exact hp.elim
  ·rintro e W2 ⟨⟨v,rfl⟩,hi,hl,hk⟩
   exact⟨none,_,by have:=run_endLoop (P:=P) hl (by rw [hrec];simp);rw [hrec] at this;exact this,hdone _ (hI _ _ _ hi (Turn.putObj _ hl rfl (by omega))) ((World.putObj_heap_other (by omega)).trans hk)⟩
end Go.Herb
namespace Go.Proofs.YtchcelodeepjdaaGreatDoor.Ln
open Go.RowKit Go.Shelf Go.Herb
end Go.Proofs.YtchcelodeepjdaaGreatDoor.Ln
