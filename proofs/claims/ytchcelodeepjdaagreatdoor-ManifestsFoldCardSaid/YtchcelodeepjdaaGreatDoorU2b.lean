/- Lemmas and walks towards ManifestsFold. Conditions: each one tells its own. -/
import Derived.Test.YtchcelodeepjdaaGreatDoorLN8
import Derived.Test.YtchcelodeepjdaaGreatDoorMp
import Derived.Test.YtchcelodeepjdaaGreatDoorLN9d
import Derived.Test.YtchcelodeepjdaaGreatDoorY7
import Derived.Test.YtchcelodeepjdaaGreatDoorLT4
import Derived.Sort.Walk0
namespace Go.Herb
open Go.RowKit
theorem ykh {α:Type}(p:α->Bool): ∀l:List α,l.dropWhile p= [] ↔ ∀x∈l,p x=true
 | [] =>by simp
 |x::l=>by
  rw [List.dropWhile_cons]
  cases h:p x with
  |true=>simp [h,ykh p l]
  |false=>simp [h]
theorem dw_head {α:Type}(p:α->Bool): ∀(l:List α) (x:α) (m:List α),l.dropWhile p=x::m->p x=false
 | [],x,m,h=>by simp at h
 |y::l,x,m,h=>by
  rw [List.dropWhile_cons] at h
  cases hy:p y with
  |true=>rw [hy] at h;exact dw_head p l x m (by simpa using h)
  |false=>
   rw [hy] at h
   simp at h
   rw [<-h.1];exact hy
theorem xqe (l cs:List UInt8):Lib.trimS l cs= [] ↔ ∀x∈l,cs.contains x=true:=by
 unfold Lib.trimS Lib.trimLeftS Lib.trimRightS
 rw [ykh]
 constructor
 ·intro h
  cases hm:l.reverse.dropWhile (cs.contains ·)with
  |nil=>
   intro x hx
   exact(ykh _ _).1 hm x (List.mem_reverse.2 hx)
  |cons y m=>
   have h1:=dw_head _ _ _ _ hm
   have h2:=h y (by rw [hm];simp)
   rw [h1] at h2
   cases h2
 ·intro h x hx
  have h1:l.reverse.dropWhile (cs.contains ·)= [] :=(ykh _ _).2 (fun x hx=>h x (List.mem_reverse.1 hx))
  rw [h1] at hx
  cases hx
def letB (c:Nat):Prop:=(97<=c/\c<=122)\/(48<=c/\c<=57)
end Go.Herb
namespace Go.Proofs.YtchcelodeepjdaaGreatDoor.Ln
open Go.RowKit Go.Shelf Go.Herb
theorem zvq: ∀x:UInt8,zkq.contains x=true↔letB x.toNat:=by
 intro x
 have: ∀n:Fin 256,zkq.contains (UInt8.ofNat n.val)=true↔((97<=n.val/\n.val<=122)\/(48<=n.val/\n.val<=57)):=by decide+kernel
 have h:=this ⟨x.toNat,x.toNat_lt⟩
 simp only [UInt8.ofNat_toNat] at h
 exact h
theorem zj8 (s:ByteArray):nameB s=true↔0<s.size/\s.size<=12/\ ∀x∈s.data.toList,letB x.toNat:=by
 unfold nameB
 rw [Bool.and_eq_true,Bool.and_eq_true,List.isEmpty_iff,xqe,decide_eq_true_eq]
 have h1:(!s.toList.isEmpty)=true↔0<s.size:=by
  rw [ByteArray.toList_eq]
  have:s.size=s.data.toList.length:=by rw [Array.length_toList];rfl
  rw [this]
  cases s.data.toList with
  |nil=>simp
  |cons x l=>simp
 rw [h1]
 constructor
 ·rintro⟨⟨a,b⟩,c⟩
  exact⟨a,b,fun x hx=>(zvq x).1 (c x hx)⟩
 ·rintro⟨a,b,c⟩
  exact⟨⟨a,b⟩,fun x hx=>(zvq x).2 (c x hx)⟩
end Go.Proofs.YtchcelodeepjdaaGreatDoor.Ln

namespace Go.Herb
def hasL (ls:List Ln)(k:Int):Bool:=ls.any (fun x=>decide (x.1=k))
theorem yqs {ls:List Ln}{k:Int}:hasL ls k=true↔ ∃x∈ls,x.1=k:=by unfold hasL;rw [List.any_eq_true];simp
end Go.Herb
namespace Go.Proofs.YtchcelodeepjdaaGreatDoor.Ln
open Go.RowKit Go.Shelf Go.Herb
theorem ykp (a:Option Addr)(c n:Nat)(ls:List Ln)(k:Int)(w:World)(hE:Lns w a ls)(hn:ls.length=n)(hn1:n<1000000):
  Calls Tryz.prog 85 #[.slice a n c, .int .u64 k] w fun e w'=>e= .returned (.bool (hasL ls k))/\w=w':=by
 have HE:=zh hE
 have HN:=zh hn
 clear hE hn
 go_enter Tryz.func85,Tryz.ntmps85
 go_wp2_with fail
 go_loopg [5] n (fun gk iv wr=> ∃i:Nat,i+gk=n/\iv= .int .i64 i/\Hid (∀x∈ls.take i,x.1≠k)/\Hid (w=wr))
 case atStart=>exact⟨0,by omega,rfl,zh (by simp),zh rfl⟩
 case round=>
  obtain⟨i,hi,rfl,HX,HW⟩:=hrel
  by_cases hlt:i<n
  ·have hil:i<ls.length:=by have:=HN.out;omega
   obtain⟨b,o,rfl,hlb,hcx⟩:=HE.out.get i hil
   have HTK:=zh (List.take_succ_eq_append_getElem hil)
   have HMM:=zh (List.getElem_mem hil)
   generalize ls[i] =y at hcx HTK HMM
   have g0:=hcx 0 _ rfl
   rw [HW.out] at g0
   simp only [Nat.add_zero] at g0
   have i0:(0:Int)<=(i:Int):=by omega
   have i1:(i:Int)<(n:Int):=by omega
   have iw:IntKind.i64.wrap ((i:Int)+1)=(i:Int)+1:=IntWalk.i64_in _ (by omega)
   clear hcx
   by_cases hxy:y.1=k
   ·have hd:(y.1==k)=true:=by rw [hxy];exact beq_self_eq_true _
    have HQ:=zh (show hasL ls k=true from yqs.2 ⟨y,HMM.out,hxy⟩)
    clear hxy
    go_wp2_with fail
    go_ret
    exact⟨by rw [HQ.out];rfl,HW.out⟩
   ·have hd:(y.1==k)=false:=beq_eq_false_iff_ne.2 hxy
    have HX2:=zh (show∀x∈ls.take (i+1),x.1≠k from by
     rw [HTK.out]
     intro x hx
     rcases List.mem_append.1 hx with h1|h1
     ·exact HX.out x h1
     ·rw [List.mem_singleton.1 h1];exact hxy)
    clear hxy
    go_wp2_with fail
    go_roundg(gk - 1)
    case measure=>omega
    case rel=>exact⟨i+1,by omega,by go_num,HX2,HW⟩
  ·have h1: ¬(i:Int)<(n:Int):=by omega
   have HQ:=zh (show hasL ls k=false from by
    rw [Bool.eq_false_iff]
    intro h
    obtain⟨x,hx,e⟩:=yqs.1 h
    exact HX.out x (by rw [List.take_of_length_le (by have:=HN.out;omega)];exact hx) e)
   go_wp2_with fail
   go_ret
   exact⟨by rw [HQ.out];rfl,HW.out⟩
theorem yxy (s:ByteArray)(w:World)(hs:s.size<=9223372036854775807):
  Calls Tryz.prog 86 #[.string s] w fun e w'=>e= .returned (.bool (nameB s))/\w=w':=by
 by_cases h1:s.size<1
 ·have hf:nameB s=false:=by rw [Bool.eq_false_iff];intro h;have:=(zj8 s).1 h;omega
  have h2:(s.size:Int)<1:=by omega
  rw [hf]
  clear hf h1 hs
  go_enter Tryz.func86,Tryz.ntmps86
  go_wp2_with fail
  go_ret
  exact⟨rfl,rfl⟩
 by_cases h2:12<s.size
 ·have hf:nameB s=false:=by rw [Bool.eq_false_iff];intro h;have:=(zj8 s).1 h;omega
  have h3:(s.size:Int)> 12:=by omega
  have h4: ¬(s.size:Int)<1:=by omega
  rw [hf]
  clear hf h1 h2 hs
  go_enter Tryz.func86,Tryz.ntmps86
  go_wp2_with fail
  go_ret
  exact⟨rfl,rfl⟩
 have h3: ¬(s.size:Int)> 12:=by omega
 have h4: ¬(s.size:Int)<1:=by omega
 have HS:=zh (show 0<s.size/\s.size<=12 from⟨by omega,by omega⟩)
 have hsz:s.data.toList.length=s.size:=by rw [Array.length_toList];rfl
 obtain⟨n,hn⟩: ∃n,n=s.size:=⟨_,rfl⟩
 have HN:=zh hn
 have HZ:=zh hsz
 clear h1 h2 hs hsz hn
 go_enter Tryz.func86,Tryz.ntmps86
 go_wp2_with fail
 go_loopg [3] n (fun gk iv wr=> ∃i:Nat,i+gk=n/\iv= .int .i64 i/\Hid (∀x∈s.data.toList.take i,letB x.toNat)/\Hid (w=wr))
 case atStart=>exact⟨0,by omega,rfl,zh (by simp),zh rfl⟩
 case round=>
  obtain⟨i,hi,rfl,HX,HW⟩:=hrel
  by_cases hlt:i<s.size
  ·have h5:(i:Int)<(s.size:Int):=by omega
   have h6:(0:Int)<=(i:Int):=by omega
   have hil:i<s.data.toList.length:=by rw [HZ.out];exact hlt
   have HTK:=zh (List.take_succ_eq_append_getElem hil)
   have hel:s[i]'hlt=s.data.toList[i] :=by rw [Array.getElem_toList];rfl
   have HMM:=zh (List.getElem_mem hil)
   have hidx: ∀W,(Instr.index (9) (.string s) (.int .i64 (i:Int))).run Tryz.prog W= .ok (.int .u8 ((s.data.toList[i]).toNat:Int)) W:=fun W=>by
    rw [run_index_string (h:=Tryz.underlying9),dif_pos ⟨h6,h5⟩]
    simp only [Int.toNat_natCast]
    rw [hel]
   generalize s.data.toList[i] =c at hidx HTK HMM hel
   have hc:=c.toNat_lt
   have iw:IntKind.i64.wrap ((i:Int)+1)=(i:Int)+1:=IntWalk.i64_in _ (by have:=HS.out;omega)
   have hix:((i:Int)).toNat=i:=Int.toNat_natCast i
   clear hel hil
   by_cases a1:(c.toNat:Int)<97
   ·by_cases a2:(c.toNat:Int)<48
    ·have HE:=zh (show nameB s=false from by
      rw [Bool.eq_false_iff]
      intro h
      have h1:=((zj8 s).1 h).2.2 c HMM.out
      unfold letB at h1
      omega)
     go_wp2_with fail
     go_ret
     exact⟨by rw [HE.out];rfl,HW.out⟩
    by_cases a3:(c.toNat:Int)> 57
    ·have HE:=zh (show nameB s=false from by
      rw [Bool.eq_false_iff]
      intro h
      have h1:=((zj8 s).1 h).2.2 c HMM.out
      unfold letB at h1
      omega)
     go_wp2_with fail
     go_ret
     exact⟨by rw [HE.out];rfl,HW.out⟩
    have HX2:=zh (show∀x∈s.data.toList.take (i+1),letB x.toNat from by
     rw [HTK.out]
     intro x hx
     rcases List.mem_append.1 hx with h1|h1
     ·exact HX.out x h1
     ·rw [List.mem_singleton.1 h1];unfold letB;omega)
    clear hix hc
    go_wp2_with fail
    go_roundg(gk - 1)
    case measure=>have:=HN.out;omega
    case rel=>exact⟨i+1,by have:=HN.out;omega,by go_num,HX2,HW⟩
   by_cases a4:(c.toNat:Int)> 122
   ·have a2: ¬(c.toNat:Int)<48:=by omega
    have a3:(c.toNat:Int)> 57:=by omega
    have HE:=zh (show nameB s=false from by
     rw [Bool.eq_false_iff]
     intro h
     have h1:=((zj8 s).1 h).2.2 c HMM.out
     unfold letB at h1
     omega)
    go_wp2_with fail
    go_ret
    exact⟨by rw [HE.out];rfl,HW.out⟩
   have HX2:=zh (show∀x∈s.data.toList.take (i+1),letB x.toNat from by
    rw [HTK.out]
    intro x hx
    rcases List.mem_append.1 hx with h1|h1
    ·exact HX.out x h1
    ·rw [List.mem_singleton.1 h1];unfold letB;omega)
   clear hix hc
   go_wp2_with fail
   go_roundg(gk - 1)
   case measure=>have:=HN.out;omega
   case rel=>exact⟨i+1,by have:=HN.out;omega,by go_num,HX2,HW⟩
  ·have h5: ¬(i:Int)<(s.size:Int):=by omega
   have HQ:=zh (show nameB s=true from(zj8 s).2 ⟨HS.out.1,HS.out.2,fun x hx=>HX.out x (by rw [List.take_of_length_le (by have:=HZ.out;omega)];exact hx)⟩)
   go_wp2_with fail
   go_ret
   exact⟨by rw [HQ.out];rfl,HW.out⟩
end Go.Proofs.YtchcelodeepjdaaGreatDoor.Ln

namespace Go.Herb
open Go

structure Tb where
 file:Int
 bytes:Int
 low:ByteArray
 high:ByteArray
structure Sd where
 line:Int
 lv:List (List Tb)
def keyB (b:ByteArray):Bool:=decide (1<=b.size)&&decide (b.size<=32)
structure TabOk (i k:Nat)(l:List Tb)(t:Tb):Prop where
 low:keyB t.low=true
 high:keyB t.high=true
 span:Op.bytesLess t.high.toList t.low.toList=false
 next:0<i->0<k-> ∀u,l[k - 1]? =some u->Op.bytesLess u.high.toList t.low.toList=true
def LevOk (i:Nat)(l:List Tb):Prop:= ∀k t,l[k]? =some t->TabOk i k l t
structure MayS (s:Sd):Prop where
 tabs: ∀(i:Nat) l,s.lv[i]? =some l->LevOk i l
 many: ∃l∈s.lv,l≠ []
def zjk (s:Sd):List Int:=s.lv.flatten.map (·.file)
def zx4 (sh:List Sd):List Int:=sh.flatMap zjk
structure zz0 (next:Int)(sh:List Sd):Prop where
 may: ∀s∈sh,MayS s
 rise:sh.Pairwise (fun a b=>a.line<b.line)
 apart:(zx4 sh).Nodup
 below: ∀f∈zx4 sh,f<next
structure Rt where
 seq:Int
 log:Int
 next:Int
 bs:List Br
 ls:List Ln
 vs:Vs
 sh:List Sd
def zzm (r:Rt):List Int:=r.ls.map (·.1)++r.bs.map (·.2.2)++r.vs.flatMap (fun v=>v.2.map (·.2))
def pairL (bs:List Br)(vs:Vs):Prop:=(bs.map (·.2.1)).Perm (vs.map (·.1))
structure GoodS (r:Rt):Prop where
 vecs:okV r.vs
 pair:pairL r.bs r.vs
 early: ∀n∈zzm r,n<=r.seq
 log:r.log<r.next
 shelved:zz0 r.next r.sh
theorem GoodS.less {r:Rt}(h:GoodS r)(vs:Vs)(hl:vs.length+1=r.vs.length): ¬GoodS {r with vs:=vs }:=fun g=>by
 have e1:=h.pair.length_eq
 have e2:=g.pair.length_eq
 simp only [List.length_map] at e1 e2
 omega
theorem yj9 (sh:List Sd)(s:Sd):zx4 (sh++ [s])=zx4 sh++zjk s:=by simp [zx4]
end Go.Herb

namespace Go.Proofs.YtchcelodeepjdaaGreatDoor.Ln
open Go.RowKit Go.Herb

def tbc (t:Tb):List Value:= [.int .u64 t.file, .int .u32 t.bytes, .string t.low, .string t.high]
theorem yk5 (t:Tb):(tbc t).length=4:=rfl
theorem tbc_one (t:Tb): ∀u∈tbc t,u.oneCell'=true:=by
 intro u hu;simp [tbc] at hu;rcases hu with rfl|rfl|rfl|rfl<;>rfl
structure Lv where
 a:Option Addr
 cap:Nat
 ts:List Tb
abbrev lvV (l:Lv):Value:= .slice l.a l.ts.length l.cap
def TbW (t:Tb):Prop:=U64 t.file/\(0<=t.bytes/\t.bytes<4294967296)/\t.low.size<=maxLen/\t.high.size<=maxLen
structure LvOk (w:World)(l:Lv):Prop where
 tabs:Els tbc 4 w l.a l.ts
 nil0:l.a=none->l.cap=0
 le:l.ts.length<=l.cap
 max:l.cap<=maxLen
 wf: ∀t∈l.ts,TbW t
theorem LvOk.ext {w w':World}{l:Lv}(h:LvOk w l)(hb:Below w.heap.size w w'):LvOk w' l:=⟨h.tabs.ext hb,h.nil0,h.le,h.max,h.wf⟩
structure Sv where
 line:Int
 l0:Lv
 l1:Lv
 l2:Lv
def shc (s:Sv):List Value:= [.int .u64 s.line,lvV s.l0,lvV s.l1,lvV s.l2]
abbrev shV (s:Sv):Value:= .agg #[.int .u64 s.line,lvV s.l0,lvV s.l1,lvV s.l2]
theorem zqe (t:Sv):(shc t).length=4:=rfl
theorem zy8 (t:Sv): ∀u∈shc t,u.oneCell'=true:=by
 intro u hu;simp [shc] at hu;rcases hu with rfl|rfl|rfl|rfl<;>rfl
def Sv.says (s:Sv):Sd:=⟨s.line, [s.l0.ts,s.l1.ts,s.l2.ts]⟩
structure SvOk (w:World)(s:Sv):Prop where
 l0:LvOk w s.l0
 l1:LvOk w s.l1
 l2:LvOk w s.l2
 wf:U64 s.line
theorem SvOk.ext {w w':World}{s:Sv}(h:SvOk w s)(hb:Below w.heap.size w w'):SvOk w' s:=⟨h.l0.ext hb,h.l1.ext hb,h.l2.ext hb,h.wf⟩
structure ShIn (w:World)(a:Option Addr)(xs:List Sv):Prop where
 els:Els shc 4 w a xs
 ok: ∀s∈xs,SvOk w s
theorem ShIn.ext {w w':World}{a:Option Addr}{xs:List Sv}(h:ShIn w a xs)(hb:Below w.heap.size w w'):ShIn w' a xs:=⟨h.els.ext hb,fun s hs=>(h.ok s hs).ext hb⟩
end Go.Proofs.YtchcelodeepjdaaGreatDoor.Ln

namespace Go.Proofs.YtchcelodeepjdaaGreatDoor.Ln
open Go.RowKit Go.Shelf Go.Herb
noncomputable def R11:Code:=((Tryz.f54.body.bind (zxg 11)).getD .skip)
set_option maxRecDepth 100000 in
set_option maxHeartbeats 2000000 in
theorem o11_A {b o n bc m lc i k:Nat}{la:Option Addr}{xn yn:ByteArray}{xl:Int}{X:World}{u2 u3 u4 u5 u6 u8 u9 u10 u11 u12 u13 u14 u15 u16 u17 u18 u19 u20 u21 u22 u23 u24 u25 u26 u27 u28 u29 u30 u31 u32 u33 u34 u35 u36 u37 u38 u39 u40 u41 u42 u43 u44 u45 u46 u47 u48 u49 u50 u51 u52 u53 u54 u55 u56 u57 u58 u59 u60 u61 u62 u63 u64 u65 u66 u67 u68 u69 u70 u71 u72 u73 u74 u75 u76 u77 u78 u79 u80 u81 u82 u83 u84 u85 u86 u87 u88 u89 u90 u91 u92 u93 u94 u95 u96 u97 u98 u99 u100 u101 u102 u103 u104 u105 u106 u107 u108 u109 u110 u111 u112 u113 u114 u115 u116 u117 u118 u119 u120 u121 u122 u123 u124 u125 u126:Value}{Q:Exit->Act->World->Prop}
  (hi0:(0:Int)<=(i:Int)) (hi1:(i:Int)<(n:Int))
  (HKP:Hid (∀u,Below X.heap.size X u->u.cell? ⟨b,o+i*3,none⟩=some (.string xn)/\u.cell? ⟨b,o+i*3+1,none⟩=some (.int .u64 xl)/\u.cell? ⟨b,o+k*3,none⟩=some (.string yn)))
  (HIN:Hid (∀u,Below X.heap.size X u->Calls Tryz.prog (86) #[.string xn] u (fun e w'=>e= .returned (.bool false)/\Below u.heap.size u w')))
  (hP: ∀ch a a' w',a'.defers=a.defers->Q (.panic ch) a w'->Q (.panic ch) a' w')
  (hQ: ∀(v70 v71 v72 v73 v74 v75 v76 v77 v78 v79 v80 v81 v82 v83 v84 v85 v86 v87 v88 v89 v90 v91 v92 v93 v94 v95 v96 v97 v98 v99 v100 v101 v102 v103:Value) (w':World),Below X.heap.size X w'->Q .normal ⟨#[.slice (some ⟨b,o,none⟩) n bc, .slice la m lc,u2,u3,u4,u5,u6, .int .i64 (i:Int),u8,u9,u10,u11,u12,u13,u14,u15,u16,u17,u18,u19,u20,u21,u22,u23,u24,u25,u26,u27,u28,u29,u30,u31,u32,u33,u34,u35,u36,u37,u38,u39,u40,u41,u42,u43,u44,u45,u46,u47,u48,u49,u50,u51,u52,u53,u54,u55,u56,u57,u58,u59,u60,u61,u62,u63,u64,u65,u66,u67,u68,u69,v70,v71,v72,v73,v74,v75,v76,v77,v78,v79,v80,v81,v82,v83,v84,v85,v86,v87,v88,v89,v90,v91,v92,v93,v94,v95,v96,v97,v98,v99,v100,v101,v102,v103, .bool (true),u105,u106,u107,u108,u109,u110,u111,u112,u113,u114,u115,u116,u117,u118,u119,u120,u121,u122,u123,u124,u125,u126], []⟩ w'):
  Code.wp Tryz.prog R11 Q ⟨#[.slice (some ⟨b,o,none⟩) n bc, .slice la m lc,u2,u3,u4,u5,u6, .int .i64 (i:Int),u8,u9,u10,u11,u12,u13,u14,u15,u16,u17,u18,u19,u20,u21,u22,u23,u24,u25,u26,u27,u28,u29,u30,u31,u32,u33,u34,u35,u36,u37,u38,u39,u40,u41,u42,u43,u44,u45,u46,u47,u48,u49,u50,u51,u52,u53,u54,u55,u56,u57,u58,u59,u60,u61,u62,u63,u64,u65,u66,u67,u68,u69,u70,u71,u72,u73,u74,u75,u76,u77,u78,u79,u80,u81,u82,u83,u84,u85,u86,u87,u88,u89,u90,u91,u92,u93,u94,u95,u96,u97,u98,u99,u100,u101,u102,u103,u104,u105,u106,u107,u108,u109,u110,u111,u112,u113,u114,u115,u116,u117,u118,u119,u120,u121,u122,u123,u124,u125,u126], []⟩ X:=by
 conv=>arg 2;whnf
 have HP:=zh hP
 have HQ:=zh hQ
 clear hP hQ
 have HDA:=zh (show Below X.heap.size X X.drew from(Below.refl X.heap.size X).drew)
 refine wp_region_held_drew (S:=fun u=>u.cell? ⟨b,o+i*3,none⟩=some (.string xn)/\u.cell? ⟨b,o+i*3+1,none⟩=some (.int .u64 xl)/\u.cell? ⟨b,o+k*3,none⟩=some (.string yn)) (by kernel_rfl) (by first|exact HKP.out _ hbu|exact HKP.out _ HDA.out) (fun hHeld=> ?_)
 refine tkI HP.out 0 (h:= ?_)
 refine tkI HP.out 1 (h:= ?_)
 refine tkI HP.out 2 (h:= ?_)
 try simp only [Act.put,lsa,lsz,lss]
 refine tkI HP.out 3 (h:= ?_)
 refine tkI HP.out 4 (h:= ?_)
 try simp only [Act.put,lsa,lsz,lss]
 refine tkC 5 (h:=fun K hK=> ?_)
 go_wp2_with(go_at_call 86;(with_reducible refine(HIN.out _ HDA.out).mono ?_);rintro e w5 ⟨rfl,hb5⟩;have hbu:=HDA.out.trans (hb5.mono HDA.out.size))
 refine hK.out _ _ (by first|exact HKP.out _ hbu|exact HKP.out _ HDA.out) (fun hHeld=> ?_)
 clear hK K
 try simp only [Act.put,lsa,lsz,lss]
 refine tkI HP.out 6 (h:= ?_)
 refine tkI HP.out 7 (h:= ?_)
 refine tkO HP.out 8 (h:= ?_)
 try simp only [Act.put,lsa,lsz,lss]
 refine tkO HP.out 9 (h:= ?_)
 refine tkO HP.out 10 (h:= ?_)
 refine tkO HP.out 11 (h:= ?_)
 try simp only [Act.put,lsa,lsz,lss]
 refine tkO HP.out 12 (h:= ?_)
 refine tkO HP.out 13 (h:= ?_)
 refine tkO HP.out 14 (h:= ?_)
 try simp only [Act.put,lsa,lsz,lss]
 refine tkO HP.out 15 (h:= ?_)
 refine tkO HP.out 16 (h:= ?_)
 refine tkO HP.out 17 (h:= ?_)
 try simp only [Act.put,lsa,lsz,lss]
 refine tkO HP.out 18 (h:= ?_)
 refine tkO HP.out 19 (h:= ?_)
 refine tkO HP.out 20 (h:= ?_)
 try simp only [Act.put,lsa,lsz,lss]
 refine tkO HP.out 21 (h:= ?_)
 refine tkO HP.out 22 (h:= ?_)
 refine tkO HP.out 23 (h:= ?_)
 try simp only [Act.put,lsa,lsz,lss]
 refine tkI HP.out 24 (h:= ?_)
 refine tkI HP.out 25 (h:= ?_)
 refine tkO HP.out 26 (h:= ?_)
 try simp only [Act.put,lsa,lsz,lss]
 refine tkO HP.out 27 (h:= ?_)
 refine tkO HP.out 28 (h:= ?_)
 refine tkO HP.out 29 (h:= ?_)
 try simp only [Act.put,lsa,lsz,lss]
 refine tkO HP.out 30 (h:= ?_)
 refine tkO HP.out 31 (h:= ?_)
 refine tkO HP.out 32 (h:= ?_)
 try simp only [Act.put,lsa,lsz,lss]
 refine tkO HP.out 33 (h:= ?_)
 refine tkI HP.out 34 (h:= ?_)
 try simp only [Act.put,lsa,lsz,lss]
 refine wpAnyH_done (by kernel_rfl) ?_ _
 exact HQ.out _ _ _ _ _ _ _ _ _ _ _ _ _ _ _ _ _ _ _ _ _ _ _ _ _ _ _ _ _ _ _ _ _ _ _ hbu
set_option maxRecDepth 100000 in
set_option maxHeartbeats 2000000 in
theorem o11_B {b o n bc m lc i k:Nat}{la:Option Addr}{xn yn:ByteArray}{xl:Int}{hv:Bool}{X:World}{u2 u3 u4 u5 u6 u8 u9 u10 u11 u12 u13 u14 u15 u16 u17 u18 u19 u20 u21 u22 u23 u24 u25 u26 u27 u28 u29 u30 u31 u32 u33 u34 u35 u36 u37 u38 u39 u40 u41 u42 u43 u44 u45 u46 u47 u48 u49 u50 u51 u52 u53 u54 u55 u56 u57 u58 u59 u60 u61 u62 u63 u64 u65 u66 u67 u68 u69 u70 u71 u72 u73 u74 u75 u76 u77 u78 u79 u80 u81 u82 u83 u84 u85 u86 u87 u88 u89 u90 u91 u92 u93 u94 u95 u96 u97 u98 u99 u100 u101 u102 u103 u104 u105 u106 u107 u108 u109 u110 u111 u112 u113 u114 u115 u116 u117 u118 u119 u120 u121 u122 u123 u124 u125 u126:Value}{Q:Exit->Act->World->Prop}
  (hi0:(0:Int)<=(i:Int)) (hi1:(i:Int)<(n:Int))
  (HKP:Hid (∀u,Below X.heap.size X u->u.cell? ⟨b,o+i*3,none⟩=some (.string xn)/\u.cell? ⟨b,o+i*3+1,none⟩=some (.int .u64 xl)/\u.cell? ⟨b,o+k*3,none⟩=some (.string yn)))
  (HIN:Hid (∀u,Below X.heap.size X u->Calls Tryz.prog (86) #[.string xn] u (fun e w'=>e= .returned (.bool true)/\Below u.heap.size u w')))
  (HHS:Hid (∀u,Below X.heap.size X u->Calls Tryz.prog (85) #[.slice la m lc, .int .u64 xl] u (fun e w'=>e= .returned (.bool hv)/\Below u.heap.size u w')))
  (h0i: ¬0<i) (_d0:decide ((0:Int)<(i:Int))=false)
  (hP: ∀ch a a' w',a'.defers=a.defers->Q (.panic ch) a w'->Q (.panic ch) a' w')
  (hQ: ∀(v70 v71 v72 v73 v74 v75 v76 v77 v78 v79 v80 v81 v82 v83 v84 v85 v86 v87 v88 v89 v90 v91 v92 v93 v94 v95 v96 v97 v98 v99 v100 v101 v102 v103:Value) (w':World),Below X.heap.size X w'->Q .normal ⟨#[.slice (some ⟨b,o,none⟩) n bc, .slice la m lc,u2,u3,u4,u5,u6, .int .i64 (i:Int),u8,u9,u10,u11,u12,u13,u14,u15,u16,u17,u18,u19,u20,u21,u22,u23,u24,u25,u26,u27,u28,u29,u30,u31,u32,u33,u34,u35,u36,u37,u38,u39,u40,u41,u42,u43,u44,u45,u46,u47,u48,u49,u50,u51,u52,u53,u54,u55,u56,u57,u58,u59,u60,u61,u62,u63,u64,u65,u66,u67,u68,u69,v70,v71,v72,v73,v74,v75,v76,v77,v78,v79,v80,v81,v82,v83,v84,v85,v86,v87,v88,v89,v90,v91,v92,v93,v94,v95,v96,v97,v98,v99,v100,v101,v102,v103, .bool (!hv),u105,u106,u107,u108,u109,u110,u111,u112,u113,u114,u115,u116,u117,u118,u119,u120,u121,u122,u123,u124,u125,u126], []⟩ w'):
  Code.wp Tryz.prog R11 Q ⟨#[.slice (some ⟨b,o,none⟩) n bc, .slice la m lc,u2,u3,u4,u5,u6, .int .i64 (i:Int),u8,u9,u10,u11,u12,u13,u14,u15,u16,u17,u18,u19,u20,u21,u22,u23,u24,u25,u26,u27,u28,u29,u30,u31,u32,u33,u34,u35,u36,u37,u38,u39,u40,u41,u42,u43,u44,u45,u46,u47,u48,u49,u50,u51,u52,u53,u54,u55,u56,u57,u58,u59,u60,u61,u62,u63,u64,u65,u66,u67,u68,u69,u70,u71,u72,u73,u74,u75,u76,u77,u78,u79,u80,u81,u82,u83,u84,u85,u86,u87,u88,u89,u90,u91,u92,u93,u94,u95,u96,u97,u98,u99,u100,u101,u102,u103,u104,u105,u106,u107,u108,u109,u110,u111,u112,u113,u114,u115,u116,u117,u118,u119,u120,u121,u122,u123,u124,u125,u126], []⟩ X:=by
 conv=>arg 2;whnf
 have HP:=zh hP
 have HQ:=zh hQ
 clear hP hQ
 have HDA:=zh (show Below X.heap.size X X.drew from(Below.refl X.heap.size X).drew)
 refine wp_region_held_drew (S:=fun u=>u.cell? ⟨b,o+i*3,none⟩=some (.string xn)/\u.cell? ⟨b,o+i*3+1,none⟩=some (.int .u64 xl)/\u.cell? ⟨b,o+k*3,none⟩=some (.string yn)) (by kernel_rfl) (by first|exact HKP.out _ hbu|exact HKP.out _ HDA.out) (fun hHeld=> ?_)
 refine tkI HP.out 0 (h:= ?_)
 refine tkI HP.out 1 (h:= ?_)
 refine tkI HP.out 2 (h:= ?_)
 try simp only [Act.put,lsa,lsz,lss]
 refine tkI HP.out 3 (h:= ?_)
 refine tkI HP.out 4 (h:= ?_)
 try simp only [Act.put,lsa,lsz,lss]
 refine tkC 5 (h:=fun K hK=> ?_)
 go_wp2_with(go_at_call 86;(with_reducible refine(HIN.out _ HDA.out).mono ?_);rintro e w5 ⟨rfl,hb5⟩;have hbu:=HDA.out.trans (hb5.mono HDA.out.size))
 refine hK.out _ _ (by first|exact HKP.out _ hbu|exact HKP.out _ HDA.out) (fun hHeld=> ?_)
 clear hK K
 try simp only [Act.put,lsa,lsz,lss]
 refine tkI HP.out 6 (h:= ?_)
 refine tkI HP.out 7 (h:= ?_)
 refine tkI HP.out 8 (h:= ?_)
 try simp only [Act.put,lsa,lsz,lss]
 refine tkI HP.out 9 (h:= ?_)
 refine tkI HP.out 10 (h:= ?_)
 refine tkO HP.out 11 (h:= ?_)
 try simp only [Act.put,lsa,lsz,lss]
 refine tkO HP.out 12 (h:= ?_)
 refine tkO HP.out 13 (h:= ?_)
 refine tkO HP.out 14 (h:= ?_)
 try simp only [Act.put,lsa,lsz,lss]
 refine tkO HP.out 15 (h:= ?_)
 refine tkO HP.out 16 (h:= ?_)
 refine tkO HP.out 17 (h:= ?_)
 try simp only [Act.put,lsa,lsz,lss]
 refine tkO HP.out 18 (h:= ?_)
 refine tkO HP.out 19 (h:= ?_)
 refine tkO HP.out 20 (h:= ?_)
 try simp only [Act.put,lsa,lsz,lss]
 refine tkO HP.out 21 (h:= ?_)
 refine tkO HP.out 22 (h:= ?_)
 refine tkI HP.out 23 (h:= ?_)
 try simp only [Act.put,lsa,lsz,lss]
 refine tkI HP.out 24 (h:= ?_)
 refine tkI HP.out 25 (h:= ?_)
 refine tkI HP.out 26 (h:= ?_)
 try simp only [Act.put,lsa,lsz,lss]
 refine tkI HP.out 27 (h:= ?_)
 refine tkI HP.out 28 (h:= ?_)
 refine tkI HP.out 29 (h:= ?_)
 try simp only [Act.put,lsa,lsz,lss]
 refine tkI HP.out 30 (h:= ?_)
 refine tkI HP.out 31 (h:= ?_)
 try simp only [Act.put,lsa,lsz,lss]
 refine tkC 32 (h:=fun K hK=> ?_)
 go_wp2_with(go_at_call 85;(with_reducible refine(HHS.out _ hbu).mono ?_);rintro e w6 ⟨rfl,hb6⟩;have hbu:=hbu.trans (hb6.mono hbu.size))
 refine hK.out _ _ (by first|exact HKP.out _ hbu|exact HKP.out _ HDA.out) (fun hHeld=> ?_)
 clear hK K
 try simp only [Act.put,lsa,lsz,lss]
 refine tkI HP.out 33 (h:= ?_)
 refine tkI HP.out 34 (h:= ?_)
 try simp only [Act.put,lsa,lsz,lss]
 refine wpAnyH_done (by kernel_rfl) ?_ _
 exact HQ.out _ _ _ _ _ _ _ _ _ _ _ _ _ _ _ _ _ _ _ _ _ _ _ _ _ _ _ _ _ _ _ _ _ _ _ hbu
end Go.Proofs.YtchcelodeepjdaaGreatDoor.Ln

namespace Go.Proofs.YtchcelodeepjdaaGreatDoor.Ln
open Go.RowKit Go.Shelf Go.Herb
set_option maxRecDepth 100000 in
set_option maxHeartbeats 2000000 in
theorem o11_C {b o n bc m lc i k:Nat}{la:Option Addr}{xn yn:ByteArray}{xl:Int}{X:World}{u2 u3 u4 u5 u6 u8 u9 u10 u11 u12 u13 u14 u15 u16 u17 u18 u19 u20 u21 u22 u23 u24 u25 u26 u27 u28 u29 u30 u31 u32 u33 u34 u35 u36 u37 u38 u39 u40 u41 u42 u43 u44 u45 u46 u47 u48 u49 u50 u51 u52 u53 u54 u55 u56 u57 u58 u59 u60 u61 u62 u63 u64 u65 u66 u67 u68 u69 u70 u71 u72 u73 u74 u75 u76 u77 u78 u79 u80 u81 u82 u83 u84 u85 u86 u87 u88 u89 u90 u91 u92 u93 u94 u95 u96 u97 u98 u99 u100 u101 u102 u103 u104 u105 u106 u107 u108 u109 u110 u111 u112 u113 u114 u115 u116 u117 u118 u119 u120 u121 u122 u123 u124 u125 u126:Value}{Q:Exit->Act->World->Prop}
  (hi0:(0:Int)<=(i:Int)) (hi1:(i:Int)<(n:Int))
  (HKP:Hid (∀u,Below X.heap.size X u->u.cell? ⟨b,o+i*3,none⟩=some (.string xn)/\u.cell? ⟨b,o+i*3+1,none⟩=some (.int .u64 xl)/\u.cell? ⟨b,o+k*3,none⟩=some (.string yn)))
  (HIN:Hid (∀u,Below X.heap.size X u->Calls Tryz.prog (86) #[.string xn] u (fun e w'=>e= .returned (.bool true)/\Below u.heap.size u w')))
  (h0i:0<i) (_d0:decide ((0:Int)<(i:Int))=true) (hw3:IntKind.i64.wrap ((i:Int) - 1)=(k:Int)) (hk0:(0:Int)<=(k:Int)) (hk1:(k:Int)<(n:Int))
  (d1:(Op.bytesLess xn.toList yn.toList||xn.toList==yn.toList)=true)
  (hP: ∀ch a a' w',a'.defers=a.defers->Q (.panic ch) a w'->Q (.panic ch) a' w')
  (hQ: ∀(v70 v71 v72 v73 v74 v75 v76 v77 v78 v79 v80 v81 v82 v83 v84 v85 v86 v87 v88 v89 v90 v91 v92 v93 v94 v95 v96 v97 v98 v99 v100 v101 v102 v103:Value) (w':World),Below X.heap.size X w'->Q .normal ⟨#[.slice (some ⟨b,o,none⟩) n bc, .slice la m lc,u2,u3,u4,u5,u6, .int .i64 (i:Int),u8,u9,u10,u11,u12,u13,u14,u15,u16,u17,u18,u19,u20,u21,u22,u23,u24,u25,u26,u27,u28,u29,u30,u31,u32,u33,u34,u35,u36,u37,u38,u39,u40,u41,u42,u43,u44,u45,u46,u47,u48,u49,u50,u51,u52,u53,u54,u55,u56,u57,u58,u59,u60,u61,u62,u63,u64,u65,u66,u67,u68,u69,v70,v71,v72,v73,v74,v75,v76,v77,v78,v79,v80,v81,v82,v83,v84,v85,v86,v87,v88,v89,v90,v91,v92,v93,v94,v95,v96,v97,v98,v99,v100,v101,v102,v103, .bool (true),u105,u106,u107,u108,u109,u110,u111,u112,u113,u114,u115,u116,u117,u118,u119,u120,u121,u122,u123,u124,u125,u126], []⟩ w'):
  Code.wp Tryz.prog R11 Q ⟨#[.slice (some ⟨b,o,none⟩) n bc, .slice la m lc,u2,u3,u4,u5,u6, .int .i64 (i:Int),u8,u9,u10,u11,u12,u13,u14,u15,u16,u17,u18,u19,u20,u21,u22,u23,u24,u25,u26,u27,u28,u29,u30,u31,u32,u33,u34,u35,u36,u37,u38,u39,u40,u41,u42,u43,u44,u45,u46,u47,u48,u49,u50,u51,u52,u53,u54,u55,u56,u57,u58,u59,u60,u61,u62,u63,u64,u65,u66,u67,u68,u69,u70,u71,u72,u73,u74,u75,u76,u77,u78,u79,u80,u81,u82,u83,u84,u85,u86,u87,u88,u89,u90,u91,u92,u93,u94,u95,u96,u97,u98,u99,u100,u101,u102,u103,u104,u105,u106,u107,u108,u109,u110,u111,u112,u113,u114,u115,u116,u117,u118,u119,u120,u121,u122,u123,u124,u125,u126], []⟩ X:=by
 conv=>arg 2;whnf
 have HP:=zh hP
 have HQ:=zh hQ
 clear hP hQ
 have HDA:=zh (show Below X.heap.size X X.drew from(Below.refl X.heap.size X).drew)
 refine wp_region_held_drew (S:=fun u=>u.cell? ⟨b,o+i*3,none⟩=some (.string xn)/\u.cell? ⟨b,o+i*3+1,none⟩=some (.int .u64 xl)/\u.cell? ⟨b,o+k*3,none⟩=some (.string yn)) (by kernel_rfl) (by first|exact HKP.out _ hbu|exact HKP.out _ HDA.out) (fun hHeld=> ?_)
 refine tkI HP.out 0 (h:= ?_)
 refine tkI HP.out 1 (h:= ?_)
 refine tkI HP.out 2 (h:= ?_)
 try simp only [Act.put,lsa,lsz,lss]
 refine tkI HP.out 3 (h:= ?_)
 refine tkI HP.out 4 (h:= ?_)
 try simp only [Act.put,lsa,lsz,lss]
 refine tkC 5 (h:=fun K hK=> ?_)
 go_wp2_with(go_at_call 86;(with_reducible refine(HIN.out _ HDA.out).mono ?_);rintro e w5 ⟨rfl,hb5⟩;have hbu:=HDA.out.trans (hb5.mono HDA.out.size))
 refine hK.out _ _ (by first|exact HKP.out _ hbu|exact HKP.out _ HDA.out) (fun hHeld=> ?_)
 clear hK K
 try simp only [Act.put,lsa,lsz,lss]
 refine tkI HP.out 6 (h:= ?_)
 refine tkI HP.out 7 (h:= ?_)
 refine tkI HP.out 8 (h:= ?_)
 try simp only [Act.put,lsa,lsz,lss]
 refine tkI HP.out 9 (h:= ?_)
 refine tkI HP.out 10 (h:= ?_)
 refine tkI HP.out 11 (h:= ?_)
 try simp only [Act.put,lsa,lsz,lss]
 refine tkI HP.out 12 (h:= ?_)
 refine tkI HP.out 13 (h:= ?_)
 refine tkI HP.out 14 (h:= ?_)
 try simp only [Act.put,lsa,lsz,lss]
 refine tkI HP.out 15 (h:= ?_)
 refine tkI HP.out 16 (h:= ?_)
 refine tkI HP.out 17 (h:= ?_)
 try simp only [Act.put,lsa,lsz,lss]
 refine tkI HP.out 18 (h:= ?_)
 refine tkI HP.out 19 (h:= ?_)
 refine tkI HP.out 20 (h:= ?_)
 try simp only [Act.put,lsa,lsz,lss]
 refine tkI HP.out 21 (h:= ?_)
 refine tkI HP.out 22 (h:= ?_)
 refine tkI HP.out 23 (h:= ?_)
 try simp only [Act.put,lsa,lsz,lss]
 refine tkI HP.out 24 (h:= ?_)
 refine tkI HP.out 25 (h:= ?_)
 refine tkO HP.out 26 (h:= ?_)
 try simp only [Act.put,lsa,lsz,lss]
 refine tkO HP.out 27 (h:= ?_)
 refine tkO HP.out 28 (h:= ?_)
 refine tkO HP.out 29 (h:= ?_)
 try simp only [Act.put,lsa,lsz,lss]
 refine tkO HP.out 30 (h:= ?_)
 refine tkO HP.out 31 (h:= ?_)
 refine tkO HP.out 32 (h:= ?_)
 try simp only [Act.put,lsa,lsz,lss]
 refine tkO HP.out 33 (h:= ?_)
 refine tkI HP.out 34 (h:= ?_)
 try simp only [Act.put,lsa,lsz,lss]
 refine wpAnyH_done (by kernel_rfl) ?_ _
 exact HQ.out _ _ _ _ _ _ _ _ _ _ _ _ _ _ _ _ _ _ _ _ _ _ _ _ _ _ _ _ _ _ _ _ _ _ _ hbu
set_option maxRecDepth 100000 in
set_option maxHeartbeats 2000000 in
theorem o11_D {b o n bc m lc i k:Nat}{la:Option Addr}{xn yn:ByteArray}{xl:Int}{hv:Bool}{X:World}{u2 u3 u4 u5 u6 u8 u9 u10 u11 u12 u13 u14 u15 u16 u17 u18 u19 u20 u21 u22 u23 u24 u25 u26 u27 u28 u29 u30 u31 u32 u33 u34 u35 u36 u37 u38 u39 u40 u41 u42 u43 u44 u45 u46 u47 u48 u49 u50 u51 u52 u53 u54 u55 u56 u57 u58 u59 u60 u61 u62 u63 u64 u65 u66 u67 u68 u69 u70 u71 u72 u73 u74 u75 u76 u77 u78 u79 u80 u81 u82 u83 u84 u85 u86 u87 u88 u89 u90 u91 u92 u93 u94 u95 u96 u97 u98 u99 u100 u101 u102 u103 u104 u105 u106 u107 u108 u109 u110 u111 u112 u113 u114 u115 u116 u117 u118 u119 u120 u121 u122 u123 u124 u125 u126:Value}{Q:Exit->Act->World->Prop}
  (hi0:(0:Int)<=(i:Int)) (hi1:(i:Int)<(n:Int))
  (HKP:Hid (∀u,Below X.heap.size X u->u.cell? ⟨b,o+i*3,none⟩=some (.string xn)/\u.cell? ⟨b,o+i*3+1,none⟩=some (.int .u64 xl)/\u.cell? ⟨b,o+k*3,none⟩=some (.string yn)))
  (HIN:Hid (∀u,Below X.heap.size X u->Calls Tryz.prog (86) #[.string xn] u (fun e w'=>e= .returned (.bool true)/\Below u.heap.size u w')))
  (HHS:Hid (∀u,Below X.heap.size X u->Calls Tryz.prog (85) #[.slice la m lc, .int .u64 xl] u (fun e w'=>e= .returned (.bool hv)/\Below u.heap.size u w')))
  (h0i:0<i) (_d0:decide ((0:Int)<(i:Int))=true) (hw3:IntKind.i64.wrap ((i:Int) - 1)=(k:Int)) (hk0:(0:Int)<=(k:Int)) (hk1:(k:Int)<(n:Int))
  (d1:Op.bytesLess xn.toList yn.toList=false) (d2:(xn.toList==yn.toList)=false)
  (hP: ∀ch a a' w',a'.defers=a.defers->Q (.panic ch) a w'->Q (.panic ch) a' w')
  (hQ: ∀(v70 v71 v72 v73 v74 v75 v76 v77 v78 v79 v80 v81 v82 v83 v84 v85 v86 v87 v88 v89 v90 v91 v92 v93 v94 v95 v96 v97 v98 v99 v100 v101 v102 v103:Value) (w':World),Below X.heap.size X w'->Q .normal ⟨#[.slice (some ⟨b,o,none⟩) n bc, .slice la m lc,u2,u3,u4,u5,u6, .int .i64 (i:Int),u8,u9,u10,u11,u12,u13,u14,u15,u16,u17,u18,u19,u20,u21,u22,u23,u24,u25,u26,u27,u28,u29,u30,u31,u32,u33,u34,u35,u36,u37,u38,u39,u40,u41,u42,u43,u44,u45,u46,u47,u48,u49,u50,u51,u52,u53,u54,u55,u56,u57,u58,u59,u60,u61,u62,u63,u64,u65,u66,u67,u68,u69,v70,v71,v72,v73,v74,v75,v76,v77,v78,v79,v80,v81,v82,v83,v84,v85,v86,v87,v88,v89,v90,v91,v92,v93,v94,v95,v96,v97,v98,v99,v100,v101,v102,v103, .bool (!hv),u105,u106,u107,u108,u109,u110,u111,u112,u113,u114,u115,u116,u117,u118,u119,u120,u121,u122,u123,u124,u125,u126], []⟩ w'):
  Code.wp Tryz.prog R11 Q ⟨#[.slice (some ⟨b,o,none⟩) n bc, .slice la m lc,u2,u3,u4,u5,u6, .int .i64 (i:Int),u8,u9,u10,u11,u12,u13,u14,u15,u16,u17,u18,u19,u20,u21,u22,u23,u24,u25,u26,u27,u28,u29,u30,u31,u32,u33,u34,u35,u36,u37,u38,u39,u40,u41,u42,u43,u44,u45,u46,u47,u48,u49,u50,u51,u52,u53,u54,u55,u56,u57,u58,u59,u60,u61,u62,u63,u64,u65,u66,u67,u68,u69,u70,u71,u72,u73,u74,u75,u76,u77,u78,u79,u80,u81,u82,u83,u84,u85,u86,u87,u88,u89,u90,u91,u92,u93,u94,u95,u96,u97,u98,u99,u100,u101,u102,u103,u104,u105,u106,u107,u108,u109,u110,u111,u112,u113,u114,u115,u116,u117,u118,u119,u120,u121,u122,u123,u124,u125,u126], []⟩ X:=by
 conv=>arg 2;whnf
 have HP:=zh hP
 have HQ:=zh hQ
 clear hP hQ
 have HDA:=zh (show Below X.heap.size X X.drew from(Below.refl X.heap.size X).drew)
 refine wp_region_held_drew (S:=fun u=>u.cell? ⟨b,o+i*3,none⟩=some (.string xn)/\u.cell? ⟨b,o+i*3+1,none⟩=some (.int .u64 xl)/\u.cell? ⟨b,o+k*3,none⟩=some (.string yn)) (by kernel_rfl) (by first|exact HKP.out _ hbu|exact HKP.out _ HDA.out) (fun hHeld=> ?_)
 refine tkI HP.out 0 (h:= ?_)
 refine tkI HP.out 1 (h:= ?_)
 refine tkI HP.out 2 (h:= ?_)
 try simp only [Act.put,lsa,lsz,lss]
 refine tkI HP.out 3 (h:= ?_)
 refine tkI HP.out 4 (h:= ?_)
 try simp only [Act.put,lsa,lsz,lss]
 refine tkC 5 (h:=fun K hK=> ?_)
 go_wp2_with(go_at_call 86;(with_reducible refine(HIN.out _ HDA.out).mono ?_);rintro e w5 ⟨rfl,hb5⟩;have hbu:=HDA.out.trans (hb5.mono HDA.out.size))
 refine hK.out _ _ (by first|exact HKP.out _ hbu|exact HKP.out _ HDA.out) (fun hHeld=> ?_)
 clear hK K
 try simp only [Act.put,lsa,lsz,lss]
 refine tkI HP.out 6 (h:= ?_)
 refine tkI HP.out 7 (h:= ?_)
 refine tkI HP.out 8 (h:= ?_)
 try simp only [Act.put,lsa,lsz,lss]
 refine tkI HP.out 9 (h:= ?_)
 refine tkI HP.out 10 (h:= ?_)
 refine tkI HP.out 11 (h:= ?_)
 try simp only [Act.put,lsa,lsz,lss]
 refine tkI HP.out 12 (h:= ?_)
 refine tkI HP.out 13 (h:= ?_)
 refine tkI HP.out 14 (h:= ?_)
 try simp only [Act.put,lsa,lsz,lss]
 refine tkI HP.out 15 (h:= ?_)
 refine tkI HP.out 16 (h:= ?_)
 refine tkI HP.out 17 (h:= ?_)
 try simp only [Act.put,lsa,lsz,lss]
 refine tkI HP.out 18 (h:= ?_)
 refine tkI HP.out 19 (h:= ?_)
 refine tkI HP.out 20 (h:= ?_)
 try simp only [Act.put,lsa,lsz,lss]
 refine tkI HP.out 21 (h:= ?_)
 refine tkI HP.out 22 (h:= ?_)
 refine tkI HP.out 23 (h:= ?_)
 try simp only [Act.put,lsa,lsz,lss]
 refine tkI HP.out 24 (h:= ?_)
 refine tkI HP.out 25 (h:= ?_)
 refine tkI HP.out 26 (h:= ?_)
 try simp only [Act.put,lsa,lsz,lss]
 refine tkI HP.out 27 (h:= ?_)
 refine tkI HP.out 28 (h:= ?_)
 refine tkI HP.out 29 (h:= ?_)
 try simp only [Act.put,lsa,lsz,lss]
 refine tkI HP.out 30 (h:= ?_)
 refine tkI HP.out 31 (h:= ?_)
 try simp only [Act.put,lsa,lsz,lss]
 refine tkC 32 (h:=fun K hK=> ?_)
 go_wp2_with(go_at_call 85;(with_reducible refine(HHS.out _ hbu).mono ?_);rintro e w6 ⟨rfl,hb6⟩;have hbu:=hbu.trans (hb6.mono hbu.size))
 refine hK.out _ _ (by first|exact HKP.out _ hbu|exact HKP.out _ HDA.out) (fun hHeld=> ?_)
 clear hK K
 try simp only [Act.put,lsa,lsz,lss]
 refine tkI HP.out 33 (h:= ?_)
 refine tkI HP.out 34 (h:= ?_)
 try simp only [Act.put,lsa,lsz,lss]
 refine wpAnyH_done (by kernel_rfl) ?_ _
 exact HQ.out _ _ _ _ _ _ _ _ _ _ _ _ _ _ _ _ _ _ _ _ _ _ _ _ _ _ _ _ _ _ _ _ _ _ _ hbu
end Go.Proofs.YtchcelodeepjdaaGreatDoor.Ln
