/- Lemmas and walks towards ManifestsFold. Conditions: each one tells its own. -/
import Derived.Test.YtchcelodeepjdaaGreatDoorMp
import Derived.Test.YtchcelodeepjdaaGreatDoorZQ
import Derived.Test.YtchcelodeepjdaaGreatDoorZP
import Derived.WalkLawsBesides
import Derived.Laws.BytesArg
import Derived.Test.YtchcelodeepjdaaGreatDoorZZp
import Derived.Deep.RegionHeld3
namespace Go.Herb
open Go

theorem yvo (y:Int)(h:0<=y/\y<256):bits BinOp.andNot IntKind.u8 y 128=y % 128:=by
 obtain⟨k,rfl⟩: ∃k:Nat,y=(k:Int):=⟨y.toNat,by omega⟩
 have hall: ∀k:Fin 256,bits BinOp.andNot IntKind.u8 (k.val:Int) 128=(k.val:Int) % 128:=by decide+kernel
 exact hall ⟨k,by omega⟩
theorem or_add (a x i:Nat)(ha:a<2 ^ i)(hs:a+x*2 ^ i<18446744073709551616):bits BinOp.or IntKind.u64 (a:Int) ((x*2 ^ i:Nat):Int)=((a+x*2 ^ i:Nat):Int):=by
 have e:(a|||(x*2 ^ i))=a+x*2 ^ i:=by
  rw [Nat.or_comm,Nat.mul_comm,<-Nat.two_pow_add_eq_or_of_lt ha,Nat.add_comm]
 show IntKind.u64.wrap ((BitVec.ofInt 64 (a:Int)|||BitVec.ofInt 64 ((x*2 ^ i:Nat):Int)).toNat:Int)=_
 rw [BitVec.ofInt_natCast,BitVec.ofInt_natCast,BitVec.toNat_or,BitVec.toNat_ofNat,BitVec.toNat_ofNat,Nat.mod_eq_of_lt (by omega),Nat.mod_eq_of_lt (by omega),e,IntKind.wrap_u64]
 omega
theorem yyr (i:Nat):(2:Nat)^(7*i)=128 ^ i:=by rw [Nat.pow_mul]
theorem yqz {i:Nat}(h:i<=9):128 ^ i<=9223372036854775808:=by
 have:128 ^ i<=128 ^ 9:=Nat.pow_le_pow_right (by omega) h
 rw [show(128:Nat)^ 9=9223372036854775808 from by decide+kernel] at this
 exact this
def manyN (ys:List Int):Option (Nat × List Int):=match getN ys with
 |none=>none
 |some (n,r)=>if n<=r.length then some (n,r)else none
theorem yzc {i acc c:Nat}(hi:i<=9)(ha:acc<128 ^ i)(hc:c<128)(h9:i=9->c<=1):acc+c*128 ^ i<18446744073709551616/\acc+c*128 ^ i<128 ^(i+1):=by
 have hp:=yqz hi
 have hm:c*128 ^ i<=127*128 ^ i:=Nat.mul_le_mul_right _ (by omega)
 have e:128 ^(i+1)=128*128 ^ i:=by rw [Nat.pow_succ,Nat.mul_comm]
 refine⟨?_,by omega⟩
 by_cases h:i=9
 ·have h1:c*128 ^ i<=1*128 ^ i:=Nat.mul_le_mul_right _ (h9 h)
  omega
 ·have h2:128 ^(i+1)<=9223372036854775808:=yqz (by omega)
  omega
end Go.Herb
namespace Go.Proofs.YtchcelodeepjdaaGreatDoor.Ln
open Go.RowKit Go.Shelf Go.Herb

def yvj (ys:List Int)(w:World)(e:Ending)(w':World):Prop:=w=w'/\((∃m k:Nat,getN ys=some (m,ys.drop k)/\1<=k/\k<=ys.length/\m<18446744073709551616/\e= .returned (.tuple #[.int .u64 (m:Int), .int .i64 (k:Int), .int .i64 0]))\/(getN ys=none/\ ∃er:Int,(er=4\/er=5)/\e= .returned (.tuple #[.int .u64 0, .int .i64 0, .int .i64 er])))
def U8 (y:Int):Prop:=0<=y/\y<256
set_option maxRecDepth 100000 in
set_option maxHeartbeats 1000000 in
theorem yy4 (a:Option Addr)(cap n:Nat)(ys:List Int)(w:World)(hb:Byt w a ys)(hn:ys.length=n)(hy: ∀y∈ys,U8 y)(hl:n<1000000000):
  Calls Tryz.prog (109) #[.slice a n cap] w (yvj ys w):=by
 have HE:=zh hb
 have HN:=zh hn
 have HY:=zh hy
 clear hb hn hy
 go_enter Tryz.func109,Tryz.ntmps109
 go_wp2_with fail
 go_loopg [9,2] n (fun gk iv nv wr=> ∃i acc:Nat,i+gk=n/\iv= .int .i64 i/\nv= .int .u64 (acc:Int)/\i<=9/\Hid (acc<128 ^ i)/\Hid (getN ys=getA i acc (ys.drop i))/\wr=w)
 case atStart=>exact⟨0,0,by omega,rfl,rfl,by omega,zh (by decide),zh rfl,rfl⟩
 case round=>
  obtain⟨i,acc,hi,rfl,rfl,hi9,HA,HG,rfl⟩:=hrel
  by_cases hlt:i<n
  ·have hil:i<ys.length:=by have:=HN.out;omega
   obtain⟨b,o,hla,hlb,hc⟩:=HE.out.get i hil
   have HDR:=zh (List.drop_eq_getElem_cons hil)
   have HU:=zh (HY.out _ (List.getElem_mem hil))
   generalize ys[i] =c at hc HDR HU
   have g0:=hc 0 _ rfl
   simp only [Nat.add_zero,Nat.mul_one] at g0
   have i0:(0:Int)<=(i:Int):=by omega
   have i1:(i:Int)<(n:Int):=by omega
   have hw1:IntKind.i64.wrap ((i:Int)+1)=(i:Int)+1:=IntWalk.i64_in _ (by omega)
   clear hc
   rw [hla]
   by_cases hf1:0<i/\c=0
   ·obtain⟨hp,rfl⟩:=hf1
    have gi:(i:Int)> 0:=by omega
    have gd:decide ((0:Int)<(i:Int))=true:=decide_eq_true (by omega)
    have HF:=zh (show getN ys=none from by rw [HG.out,HDR.out,zxu,if_pos (.inl ⟨hp,rfl⟩)])
    go_wp2_with fail
    refine bodyPost_ret (v:= .tuple #[.int .u64 0, .int .i64 0, .int .i64 4]) (by simp [results,Tryz.results109,go_sem]) rfl ?_
    exact⟨rfl, .inr ⟨HF.out,4, .inl rfl,rfl⟩⟩
   by_cases hf2:i=9/\1<c
   ·obtain⟨rfl,hc1⟩:=hf2
    have gd:decide ((0:Int)<((9:Nat):Int))=true:=decide_eq_true (by omega)
    have gc:(c==0)=false:=by simp;omega
    have gc1:decide (1<c)=true:=decide_eq_true hc1
    have HF:=zh (show getN ys=none from by rw [HG.out,HDR.out,zxu,if_pos (.inr ⟨rfl,hc1⟩)])
    go_wp2_with fail
    refine bodyPost_ret (v:= .tuple #[.int .u64 0, .int .i64 0, .int .i64 4]) (by simp [results,Tryz.results109,go_sem]) rfl ?_
    exact⟨rfl, .inr ⟨HF.out,4, .inl rfl,rfl⟩⟩
   obtain⟨z,rfl⟩: ∃z:Nat,c=(z:Int):=⟨c.toNat,by have:=HU.out.1;omega⟩
   have hz:z<256:=by have:=HU.out.2;omega
   have HGA:=zh (show getN ys=if z<128 then some (acc+z % 128*128 ^ i,ys.drop (i+1))else getA (i+1) (acc+z % 128*128 ^ i) (ys.drop (i+1))from by
    rw [HG.out,HDR.out,zxu,if_neg (by rintro(h|h);exact hf1 h;exact hf2 h),Int.toNat_natCast]
    by_cases h:z<128
    ·rw [if_pos (by omega),if_pos h,Nat.mod_eq_of_lt h]
    ·rw [if_neg (by omega),if_neg h,show z - 128=z % 128 from by omega])
   obtain⟨x,hx⟩: ∃x,x=z % 128:=⟨_,rfl⟩
   have hxl:x<128:=by omega
   have hand:bits BinOp.andNot IntKind.u8 (z:Int) 128=(x:Int):=by rw [yvo _ (by omega),hx];omega
   rw [<-hx] at HGA
   have HX:=zh hx
   obtain⟨hs1,hs2⟩:=yzc hi9 HA.out hxl (fun h=>by
    have h1: ¬1<(z:Int):=fun h1=>hf2 ⟨h,h1⟩
    have:z<128:=by omega
    rw [hx,Nat.mod_eq_of_lt this]
    omega)
   obtain⟨y,hy⟩: ∃y,y=x*128 ^ i:=⟨_,rfl⟩
   have hmul:IntKind.i64.wrap (7*(i:Int))=7*(i:Int):=IntWalk.i64_in _ (by omega)
   have hsh:IntKind.u64.wrap ((x:Int)*2 ^(7*(i:Int)).toNat)=(y:Int):=by
    rw [show(7*(i:Int)).toNat=7*i from by omega,hy,<-yyr,IntKind.wrap_u64]
    have h3:=yyr i
    rw [<-h3] at hs1
    have h4:((x*2 ^(7*i):Nat):Int)=(x:Int)*2 ^(7*i):=by push_cast;rfl
    rw [h4]
    omega
   obtain⟨acc2,hacc2⟩: ∃a,a=acc+y:=⟨_,rfl⟩
   have hor:bits BinOp.or IntKind.u64 (acc:Int) (y:Int)=(acc2:Int):=by
    have h3:=yyr i
    rw [hy,hacc2,hy,<-h3]
    exact or_add acc x (7*i) (by rw [h3];exact HA.out) (by rw [h3];exact hs1)
   rw [<-hy,<-hacc2] at HGA hs1 hs2
   have HS:=zh (show acc2<18446744073709551616/\acc2<128 ^(i+1)from⟨hs1,hs2⟩)
   have hm0:(0:Int)<=7*(i:Int):=by omega
   have hm1:7*(i:Int)<=64:=by omega
   have HF1:=zh hf1
   have HF2:=zh hf2
   clear hx hy hacc2 hs1 hs2 hf1 hf2
   have hcase:(i=0)\/(0<i/\z≠0/\i≠9)\/(i=9/\z=1):=by
    have h1:=HF1.out
    have h2:=HF2.out
    omega
   rcases hcase with h|h|h
   case' inl=>
    have gd:decide ((0:Int)<(i:Int))=false:=decide_eq_false (by omega)
    have gi: ¬(i:Int)> 0:=by omega
    have g9:((i:Int)==9)=false:=by simp;omega
    clear h
    go_upto_region 8 with fail
   case' inr.inl=>
    have gd:decide ((0:Int)<(i:Int))=true:=decide_eq_true (by omega)
    have gi:(i:Int)> 0:=by omega
    have g9:((i:Int)==9)=false:=by simp;omega
    have gz:((z:Int)==0)=false:=by simp;omega
    clear h
    go_upto_region 8 with fail
   case' inr.inr=>
    have gd:decide ((0:Int)<(i:Int))=true:=decide_eq_true (by omega)
    have gi:(i:Int)> 0:=by omega
    have g9:((i:Int)==9)=true:=by simp;omega
    have gz:((z:Int)==0)=false:=by simp;omega
    have gz1:decide (1<(z:Int))=false:=decide_eq_false (by omega)
    clear h
    go_upto_region 8 with fail
   all_goals
    by_cases hz7:z<128
    ·have gz7:(z:Int)<128:=by omega
     have gz8:decide ((z:Int)<128)=true:=decide_eq_true gz7
     have HF:=zh (show getN ys=some (acc2,ys.drop (i+1))from by rw [HGA.out,if_pos hz7])
     have HI:=zh (show i+1<=ys.length from hil)
     clear hz7
     go_wp2_with fail
     refine bodyPost_ret (v:= .tuple #[.int .u64 (acc2:Int), .int .i64 ((i:Int)+1), .int .i64 0]) (by simp [results,Tryz.results109,go_sem]) rfl ?_
     exact⟨rfl, .inl ⟨acc2,i+1,HF.out,by omega,HI.out,HS.out.1,by push_cast;rfl⟩⟩
    ·have gz7: ¬(z:Int)<128:=by omega
     have gz8:decide ((z:Int)<128)=false:=decide_eq_false gz7
     have HF:=zh (show getN ys=getA (i+1) acc2 (ys.drop (i+1))from by rw [HGA.out,if_neg hz7])
     have H9:=zh (show i+1<=9 from by
      have h1:=HF2.out
      omega)
     clear hz7
     go_wp2_with fail
     rw [<-hla]
     go_roundg(gk - 1)
     case measure=>omega
     case rel=>exact⟨i+1,acc2,by omega,by go_num,rfl,H9.out,zh HS.out.2,HF,rfl⟩
  ·have i1: ¬(i:Int)<(n:Int):=by omega
   have HF:=zh (show getN ys=none from by rw [HG.out,List.drop_of_length_le (by have:=HN.out;omega)];rfl)
   go_wp2_with fail
   refine bodyPost_ret (v:= .tuple #[.int .u64 0, .int .i64 0, .int .i64 5]) (by simp [results,Tryz.results109,go_sem]) rfl ?_
   exact⟨rfl, .inr ⟨HF.out,5, .inr rfl,rfl⟩⟩
theorem zx8 {w:World}{ka:Option Addr}{kc k n:Nat}{ys:List Int}(hE:Byt w ka ys)(hn:ys.length=n)(_:n<=kc)(hk:k<=n)(h0:ka=none->kc=0):
  ∃a2,(∀W,(Instr.slice (24) (.slice ka n kc) (some (.int .i64 (k:Int))) none none).run Tryz.prog W= .ok (.slice a2 (n - k) (kc - k)) W)/\Byt w a2 (ys.drop k)/\(a2=none->kc - k=0)/\(∀ad,a2=some ad-> ∃ad',ka=some ad'/\ad.block=ad'.block):=by
 refine⟨if kc=k then ka else ka.map (·.add (k*1)),fun W=> ?_,?_,?_,?_⟩
 ·rw [run_slice_l (P:=Tryz.prog) W (24) ka n kc (by kernel_rfl) .i64 k (by omega) (by omega)]
  rw [show Tryz.prog.elem (24)=(5)from by kernel_rfl,Tryz.sizeOf5]
  simp [sliced,Result.andThen]
 ·by_cases hz:kc=k
  ·have:ys.drop k= [] :=List.length_eq_zero_iff.1 (by simp;omega)
   rw [this]
   exact Els.nil _ _ _ _
  ·rw [if_neg hz]
   cases ka with
   |none=>exact absurd (h0 rfl) (by intro h;omega)
   |some ad=>
    rw [Option.map_some]
    refine⟨fun i hi=> ?_⟩
    have hi2:k+i<ys.length:=by rw [List.length_drop] at hi;omega
    obtain⟨b,o,ha,hlt,hc⟩:=hE.get (k+i) hi2
    injection ha with ha
    subst ha
    refine⟨b,o+k*1,by rw [addr_add],hlt,fun j c hj=> ?_⟩
    have e:(ys.drop k)[i] =ys[k+i] :=by simp
    rw [e] at hj
    have:=hc j c hj
    rw [<-this]
    congr 2
    omega
 ·intro h
  by_cases hz:kc=k
  ·omega
  ·rw [if_neg hz] at h
   cases ka with
   |none=>have:=h0 rfl;omega
   |some ad=>cases h
 ·intro ad h
  cases ka with
  |none=>
   by_cases hz:kc=k
   ·rw [if_pos hz] at h;cases h
   ·rw [if_neg hz] at h;cases h
  |some ad'=>
   refine⟨ad',rfl,?_⟩
   by_cases hz:kc=k
   ·rw [if_pos hz] at h;cases h;rfl
   ·rw [if_neg hz,Option.map_some] at h
    cases h
    unfold Addr.add
    split<;>rfl
structure zqa (w:World)(p B:Nat)(ys:List Int):Prop where
 blk: ∃a cap,w.heap[p]? =some (.cells #[.slice a ys.length cap] (124) (0,0))/\Byt w a ys/\(a=none->cap=0)/\ys.length<=cap/\(ys≠ [] -> ∀ad,a=some ad->ad.block<B)
 u8: ∀y∈ys,U8 y
 len:ys.length<1000000000
 low:B<=p
theorem zqa.lt {w:World}{p B:Nat}{ys:List Int}(h:zqa w p B ys):p<w.heap.size:=by
 obtain⟨a,cap,h1, -⟩:=h.blk
 exact zq2 h1
theorem zkm {α:Type}{enc:α->List Value}{s B:Nat}{w w':World}{a:Option Addr}{xs:List α}(h:Els enc s w a xs)(hb:xs≠ [] -> ∀ad,a=some ad->ad.block<B)(hk: ∀b o,w.heap[b]? =some o->b<B->w'.heap[b]? =some o):Els enc s w' a xs:=
 ⟨fun i hi=>by
  obtain⟨b,o,ha,hlt,hc⟩:=h.get i hi
  have hbB:b<B:=hb (fun e=>by rw [e] at hi;exact absurd hi (Nat.not_lt_zero _)) _ ha
  have hkb:=hk b _ (Array.getElem?_eq_getElem hlt) hbB
  refine⟨b,o,ha,zq2 hkb,fun j c hj=> ?_⟩
  rw [<-hc j c hj]
  unfold World.cell?
  simp only [hkb,Array.getElem?_eq_getElem hlt]⟩
theorem zqa.kept {w w':World}{p B:Nat}{ys:List Int}(h:zqa w p B ys)(hk: ∀b o,w.heap[b]? =some o->b<B\/b=p->w'.heap[b]? =some o):zqa w' p B ys:=by
 obtain⟨a,cap,h1,h2,h3,h4,h5⟩:=h.blk
 exact⟨⟨a,cap,hk p _ h1 (.inr rfl),zkm h2 h5 (fun _ _ hb hlt=>hk _ _ hb (.inl hlt)),h3,h4,h5⟩,h.u8,h.len,h.low⟩
theorem zqa.ext {w w':World}{p B:Nat}{ys:List Int}(h:zqa w p B ys)(hb:Below w.heap.size w w'):zqa w' p B ys:=h.kept (fun _ _ ho _=>zq4 ho hb (zq2 ho))
theorem zqa.set {w:World}{p B b j:Nat}{ys:List Int}(h:zqa w p B ys)(hb:B<=b)(hp:b≠p)(v:Value):zqa (w.setCell ⟨b,j,none⟩ v) p B ys:=
 h.kept (fun k o ho hk=>blk_setCell_other ho (show k≠b by omega) v)
def NONE:List PanicEntry:= [{v:= .iface (66) (.agg #[]),recovered:=false }]
def zyl {α:Type}(p B:Nat)(w:World)(r:Option (α × List Int))(V:α->Value->World->Prop)(e:Ending)(w':World):Prop:=
 TurnI p w w'/\((r=none/\e= .panicked NONE)\/ ∃x zs v,r=some (x,zs)/\e= .returned v/\V x v w'/\zqa w' p B zs)
theorem zz1 (w:World):Calls Tryz.prog (60) #[.bool true] w fun e w'=>e= .returned (.tuple #[])/\w=w':=by
 go_enter Tryz.func60,Tryz.ntmps60
 go_wp2
 go_end0
 exact⟨rfl,rfl⟩
theorem zxh (w:World):Calls Tryz.prog (60) #[.bool false] w fun e w'=>e= .panicked NONE/\w=w':=by
 go_enter Tryz.func60,Tryz.ntmps60
 go_wp2
 exact⟨rfl,rfl,rfl⟩
theorem zyz {w:World}{p B:Nat}{ys:List Int}(h:zqa w p B ys)(k kc:Nat)(a2:Option Addr)(hk:k<=ys.length)(hb:Byt w a2 (ys.drop k))(h0:a2=none->kc=0)(hl:ys.length - k<=kc)(hp:ys≠ [] -> ∀ad,a2=some ad->ad.block<B):
  zqa (w.setCell ⟨p,0,none⟩ (.slice a2 (ys.length - k) kc)) p B (ys.drop k):=by
 obtain⟨a,cap,h1, -⟩:=h.blk
 have hne:ys.drop k≠ [] ->ys≠ [] :=fun h e=>h (by rw [e];simp)
 have hlow:=h.low
 refine⟨⟨a2,kc,?_,zkm hb (fun h=>hp (hne h)) (fun _ _ ho hlt=>blk_setCell_other ho (show _≠p by omega) _),h0,by rw [List.length_drop];exact hl,fun h=>hp (hne h)⟩,fun y hy=>h.u8 y (List.mem_of_mem_drop hy),by rw [List.length_drop];have:=h.len;omega,h.low⟩
 rw [List.length_drop]
 exact zq7 h1 _
def NumV (m:Nat)(v:Value)(_:World):Prop:=v= .int .u64 (m:Int)/\m<18446744073709551616
set_option maxRecDepth 100000 in
theorem zxo (p B:Nat)(ys:List Int)(w:World)(h:zqa w p B ys):
  Calls Tryz.prog (89) #[.pointer (some ⟨p,0,none⟩)] w (zyl p B w (getN ys) NumV):=by
 obtain⟨a,cap,hblk,hE,h0,hle,hap⟩:=h.blk
 obtain⟨n,hn⟩: ∃n,n=ys.length:=⟨_,rfl⟩
 rw [<-hn] at hblk hle
 have hnl:n<1000000000:=by rw [hn];exact h.len
 have HG:=zh (yy4 a cap n ys w hE hn.symm h.u8 hnl)
 have c0:=zq0 hblk 0
 have f0:=zq1 hblk 0
 simp at c0
 have HR:=zh h
 have HE:=zh hE
 have H0:=zh h0
 have HP:=zh hap
 have HN:=zh hn
 clear h hblk hE h0 hap hn
 go_enter Tryz.func89,Tryz.ntmps89
 go_wp2_with fail
 refine HG.out.mono ?_
 rintro e w' ⟨rfl,H⟩
 rcases H with⟨m,k,hg,h1,h2,h3,rfl⟩|⟨hg,er,her,rfl⟩
 ·have hkn:k<=n:=by have:=HN.out;omega
  obtain⟨a2,hs,hE2,h02,hp2⟩:=zx8 HE.out HN.out.symm hle hkn H0.out
  have HS:=zh (zyz HR.out k (cap - k) a2 h2 hE2 h02 (by have:=HN.out;omega) (fun hy ad h=>by obtain⟨ad',h4,h5⟩:=hp2 ad h;rw [h5];exact HP.out hy ad' h4))
  rw [<-HN.out] at HS
  have HF:=zh (show getN ys=some (m,ys.drop k)from hg)
  have H3:=zh h3
  clear hE2 h02 hp2 hg h1 h2 h3 hkn
  go_wp2_with(go_at_call 60;refine(zz1 _).mono ?_;rintro e w' ⟨rfl,rfl⟩)
  go_ret
  exact⟨TurnI.setCell (j:=0) _, .inr ⟨m,ys.drop k,_,HF.out,rfl,⟨rfl,H3.out⟩,HS.out⟩⟩
 ·have HF:=zh hg
  have hne:(er==0)=false:=by rcases her with rfl|rfl<;>rfl
  clear hg her
  go_wp2_with(go_at_call 60;refine(zxh _).mono ?_;rintro e w' ⟨rfl,rfl⟩)
  exact⟨rfl,TurnI.refl _, .inl ⟨HF.out,rfl⟩⟩
def ManyV (m:Nat)(v:Value)(_:World):Prop:=v= .int .i64 (m:Int)/\m<1000000000
set_option maxRecDepth 100000 in
theorem zjd (p B:Nat)(ys:List Int)(w:World)(h:zqa w p B ys):
  Calls Tryz.prog (90) #[.pointer (some ⟨p,0,none⟩)] w (zyl p B w (manyN ys) ManyV):=by
 have HN:=zh (zxo p B ys w h)
 clear h
 go_enter Tryz.func90,Tryz.ntmps90
 go_wp2_with fail
 refine HN.out.mono ?_
 rintro e w' ⟨hT,⟨hg,rfl⟩|⟨m,zs,v,hg,rfl,⟨rfl,h3⟩,hR⟩⟩
 ·have HF:=zh (show manyN ys=none from by unfold manyN;rw [hg])
  have HT:=zh hT
  clear hg hT
  go_wp2_with fail
  exact⟨rfl,HT.out, .inl ⟨HF.out,rfl⟩⟩
 ·obtain⟨a,cap,hblk, -, -, -, -⟩:=hR.blk
  have c0:=zq0 hblk 0
  simp at c0
  obtain⟨n,hn⟩: ∃n,n=zs.length:=⟨_,rfl⟩
  rw [<-hn] at c0
  have hnl:n<1000000000:=by rw [hn];exact hR.len
  have hwn:IntKind.u64.wrap (n:Int)=(n:Int):=by rw [IntKind.wrap_u64];omega
  have HR:=zh hR
  have HT:=zh hT
  have HNN:=zh hn
  have HG:=zh hg
  have H3:=zh h3
  clear hT hg h3 hR hblk hn
  by_cases hle:m<=n
  ·have hd:decide ((m:Int)<=(n:Int))=true:=decide_eq_true (by omega)
   have hwm:IntKind.i64.wrap (m:Int)=(m:Int):=IntWalk.i64_in _ (by omega)
   have HF:=zh (show manyN ys=some (m,zs)from by unfold manyN;rw [HG.out];simp only;rw [if_pos (by rw [<-HNN.out];exact hle)])
   go_wp2_with(go_at_call 60;refine(zz1 _).mono ?_;rintro e w' ⟨rfl,rfl⟩)
   go_ret
   exact⟨HT.out, .inr ⟨m,zs,_,HF.out,rfl,⟨rfl,by omega⟩,HR.out⟩⟩
  ·have hd:decide ((m:Int)<=(n:Int))=false:=decide_eq_false (by omega)
   have HF:=zh (show manyN ys=none from by unfold manyN;rw [HG.out];simp only;rw [if_neg (by rw [<-HNN.out];exact hle)])
   go_wp2_with(go_at_call 60;refine(zxh _).mono ?_;rintro e w' ⟨rfl,rfl⟩)
   exact⟨rfl,HT.out, .inl ⟨HF.out,rfl⟩⟩
end Go.Proofs.YtchcelodeepjdaaGreatDoor.Ln

namespace Go.Proofs.YtchcelodeepjdaaGreatDoor.Ln
open Go.RowKit Go.Shelf Go.Herb

theorem yv8 (xs:List Int):strOfNums xs=strOf xs:=rfl
theorem zjx (a:Option Addr)(n c:Nat)(ys:List Int)(w:World)(hE:Byt w a ys)(hn:ys.length=n)(_:a=none->n=0):
  (convert (24) (9) (.slice a n c)).run Tryz.prog w= .ok (.string (strOf ys)) w:=by
 rcases Nat.eq_zero_or_pos n with h|h
 ·subst h
  have e:ys= [] :=List.length_eq_zero_iff.1 hn
  subst e
  rw [run_convert_bytes_string w (24) (9) (5) _ 0 c Tryz.underlying24 Tryz.underlying5 Tryz.underlying9]
  cases a<;>simp [Conv.bytesToString,loadCells]
  all_goals rfl
 ·obtain⟨b,o,rfl,hlb, -⟩:=hE.get 0 (by omega)
  rw [run_convert_bytes_arg w (24) (5) Tryz.underlying24 Tryz.underlying5 b o n c ys hn (fun i hi=>by
   obtain⟨b',o',ha,_,hc⟩:=hE.get i (by omega)
   cases ha
   have:=hc 0 _ rfl
   have e:ys.getD i 0=ys[i]'(by omega):=by simp [List.getD,List.getElem?_eq_getElem (show i<ys.length by omega)]
   rw [e,<-this]
   congr 2
   omega) (9) Tryz.underlying9,yv8]
theorem xq4 {w:World}{ka:Option Addr}{kc k m n:Nat}{ys:List Int}(hE:Byt w ka ys)(hn:ys.length=n)(hle:n<=kc)(hk:k+m<=n)(h0:ka=none->kc=0):
  ∃a2,(∀W,(Instr.slice (24) (.slice ka n kc) (some (.int .i64 (k:Int))) (some (.int .i64 ((k:Int)+(m:Int)))) none).run Tryz.prog W= .ok (.slice a2 m (kc - k)) W)/\Byt w a2 ((ys.drop k).take m)/\(a2=none->m=0):=by
 obtain⟨a2,h1,h2,h3, -⟩:=zx8 (k:=k) hE hn hle (by omega) h0
 refine⟨a2,fun W=> ?_,h2.take m,fun h=>by have:=h3 h;omega⟩
 have h4:=h1 W
 rw [run_slice_l (P:=Tryz.prog) W (24) ka n kc (by kernel_rfl) .i64 k (by omega) (by omega)] at h4
 rw [run_slice_lh (P:=Tryz.prog) W (24) ka n kc (by kernel_rfl) .i64 .i64 (k:Int) ((k:Int)+(m:Int)) (by omega) (by omega) (by omega)]
 rw [show Tryz.prog.elem (24)=(5)from by kernel_rfl,Tryz.sizeOf5] at h4 ⊢
 simp [sliced,Result.andThen] at h4 ⊢
 exact⟨h4,by omega⟩
def ykb (ys:List Int)(w:World)(e:Ending)(w':World):Prop:=w=w'/\((∃(s:ByteArray) (k:Nat),getT ys=some (s,ys.drop k)/\1<=k/\k<=ys.length/\s.size+k<=ys.length+1000000000/\s.size<1000000000/\e= .returned (.tuple #[.string s, .int .i64 (k:Int), .int .i64 0]))\/(getT ys=none/\ ∃er:Int,(er=4\/er=5)/\e= .returned (.tuple #[.string ⟨#[]⟩, .int .i64 0, .int .i64 er])))
theorem yzp (l:List Int):(strOf l).size=l.length:=by simp [strOf,ByteArray.size]
set_option maxRecDepth 100000 in
theorem getT_any (a:Option Addr)(cap n:Nat)(ys:List Int)(w:World)(hb:Byt w a ys)(hn:ys.length=n)(hy: ∀y∈ys,U8 y)(hl:n<1000000000)(hle:n<=cap)(h0:a=none->cap=0):
  Calls Tryz.prog (110) #[.slice a n cap] w (ykb ys w):=by
 have HG:=zh (yy4 a cap n ys w hb hn hy hl)
 have HE:=zh hb
 have HN:=zh hn
 have HL:=zh hle
 have H0:=zh h0
 clear hb hn hy hle h0
 go_enter Tryz.func110,Tryz.ntmps110
 go_wp2_with fail
 refine HG.out.mono ?_
 rintro e w' ⟨rfl,H⟩
 rcases H with⟨m,k,hg,h1,h2,h3,rfl⟩|⟨hg,er,her,rfl⟩
 ·have hkn:k<=n:=by have:=HN.out;omega
  have hws:IntKind.i64.wrap ((n:Int) - (k:Int))=((n - k:Nat):Int):=by rw [IntWalk.i64_in _ (by omega)];omega
  have hwu:IntKind.u64.wrap ((n - k:Nat):Int)=((n - k:Nat):Int):=by rw [IntKind.wrap_u64];omega
  by_cases hgt:n - k<m
  ·have hd:decide (((n - k:Nat):Int)<(m:Int))=true:=decide_eq_true (by omega)
   have hd2:decide (n - k<m)=true:=decide_eq_true hgt
   have HF:=zh (show getT ys=none from by unfold getT;rw [hg];simp only;rw [if_neg (by rw [List.length_drop];have:=HN.out;omega)])
   clear hg hgt
   go_wp2_with fail
   refine bodyPost_ret (v:= .tuple #[.string ⟨#[]⟩, .int .i64 0, .int .i64 5]) (by simp [results,Tryz.results110,go_sem]) rfl ?_
   exact⟨rfl, .inr ⟨HF.out,5, .inr rfl,rfl⟩⟩
  ·have hd:decide (((n - k:Nat):Int)<(m:Int))=false:=decide_eq_false (by omega)
   have hd2:decide (n - k<m)=false:=decide_eq_false hgt
   have hwm:IntKind.i64.wrap (m:Int)=(m:Int):=IntWalk.i64_in _ (by omega)
   have hwk:IntKind.i64.wrap ((k:Int)+(m:Int))=(k:Int)+(m:Int):=IntWalk.i64_in _ (by omega)
   obtain⟨a2,hs,hE2,h02⟩:=xq4 (k:=k) (m:=m) HE.out HN.out HL.out (by omega) H0.out
   have hlm:((ys.drop k).take m).length=m:=by rw [List.length_take,List.length_drop];have:=HN.out;omega
   have hcv:=zjx a2 m (cap - k) _ w hE2 hlm h02
   obtain⟨s,hs2⟩: ∃s,s=strOf ((ys.drop k).take m):=⟨_,rfl⟩
   rw [<-hs2] at hcv
   have HSZ:=zh (show s.size=m from by rw [hs2,yzp,hlm])
   have HF:=zh (show getT ys=some (s,ys.drop (k+m))from by unfold getT;rw [hg];simp only;rw [if_pos (by rw [List.length_drop];have:=HN.out;omega),hs2,List.drop_drop])
   have H1:=zh (show 1<=k+m/\k+m<=n from⟨by omega,by omega⟩)
   clear hg hgt hE2 h02 hlm hs2 h1 h2 h3
   go_wp2_with fail
   refine bodyPost_ret (v:= .tuple #[.string s, .int .i64 ((k:Int)+(m:Int)), .int .i64 0]) (by simp [results,Tryz.results110,go_sem]) rfl ?_
   exact⟨rfl, .inl ⟨s,k+m,HF.out,H1.out.1,by have:=HN.out;have:=H1.out;omega,by have:=HSZ.out;have:=HN.out;have:=H1.out;omega,by have:=HSZ.out;have:=H1.out;omega,by push_cast;rfl⟩⟩
 ·have HF:=zh (show getT ys=none from by unfold getT;rw [hg])
  have hne:(er !=0)=true:=by rcases her with rfl|rfl<;>rfl
  have HR:=zh her
  clear hg her
  go_wp2_with fail
  refine bodyPost_ret (v:= .tuple #[.string ⟨#[]⟩, .int .i64 0, .int .i64 er]) (by simp [results,Tryz.results110,go_sem]) rfl ?_
  exact⟨rfl, .inr ⟨HF.out,er,HR.out,rfl⟩⟩
def TextV (s:ByteArray)(v:Value)(_:World):Prop:=v= .string s/\s.size<1000000000
set_option maxRecDepth 100000 in
theorem zyb (p B:Nat)(ys:List Int)(w:World)(h:zqa w p B ys):
  Calls Tryz.prog (91) #[.pointer (some ⟨p,0,none⟩)] w (zyl p B w (getT ys) TextV):=by
 obtain⟨a,cap,hblk,hE,h0,hle,hap⟩:=h.blk
 obtain⟨n,hn⟩: ∃n,n=ys.length:=⟨_,rfl⟩
 rw [<-hn] at hblk hle
 have hnl:n<1000000000:=by rw [hn];exact h.len
 have HG:=zh (getT_any a cap n ys w hE hn.symm h.u8 hnl hle h0)
 have c0:=zq0 hblk 0
 have f0:=zq1 hblk 0
 simp at c0
 have HR:=zh h
 have HE:=zh hE
 have H0:=zh h0
 have HP:=zh hap
 have HN:=zh hn
 clear h hblk hE h0 hap hn
 go_enter Tryz.func91,Tryz.ntmps91
 go_wp2_with fail
 refine HG.out.mono ?_
 rintro e w' ⟨rfl,H⟩
 rcases H with⟨s,k,hg,h1,h2,h4,h3,rfl⟩|⟨hg,er,her,rfl⟩
 ·have hkn:k<=n:=by have:=HN.out;omega
  obtain⟨a2,hs,hE2,h02,hp2⟩:=zx8 HE.out HN.out.symm hle hkn H0.out
  have HS:=zh (zyz HR.out k (cap - k) a2 h2 hE2 h02 (by have:=HN.out;omega) (fun hy ad h=>by obtain⟨ad',h4,h5⟩:=hp2 ad h;rw [h5];exact HP.out hy ad' h4))
  rw [<-HN.out] at HS
  have HF:=zh hg
  have H3:=zh h3
  clear hE2 h02 hp2 hg h1 h2 h3 h4 hkn
  go_wp2_with(go_at_call 60;refine(zz1 _).mono ?_;rintro e w' ⟨rfl,rfl⟩)
  go_ret
  exact⟨TurnI.setCell (j:=0) _, .inr ⟨s,ys.drop k,_,HF.out,rfl,⟨rfl,H3.out⟩,HS.out⟩⟩
 ·have HF:=zh hg
  have hne:(er==0)=false:=by rcases her with rfl|rfl<;>rfl
  clear hg her
  go_wp2_with(go_at_call 60;refine(zxh _).mono ?_;rintro e w' ⟨rfl,rfl⟩)
  exact⟨rfl,TurnI.refl _, .inl ⟨HF.out,rfl⟩⟩
end Go.Proofs.YtchcelodeepjdaaGreatDoor.Ln

namespace Go.Herb
open Go

def tbP:Ps Tb:=fun l=>match getN l with
 |none=>none
 |some (f,l1)=>match getN l1 with
  |none=>none
  |some (b,l2)=>if b<=4294967295 then(match getT l2 with
    |none=>none
    |some (lo,l3)=>match getT l3 with
     |none=>none
     |some (hi,l4)=>some (⟨f,b,lo,hi⟩,l4))else none
def StepP {α:Type}(p:Ps α)(n k:Nat)(l0:List Int)(xs:List α)(l:List Int):Prop:=repP p n l0=(repP p (n - k) l).map (fun q=>(xs++q.1,q.2))
theorem StepP.zero {α:Type}(p:Ps α)(n:Nat)(l0:List Int):StepP p n 0 l0 [] l0:=by
 unfold StepP
 simp
theorem yw2 {α:Type}(p:Ps α)(k:Nat)(hk:0<k)(l:List Int):repP p k l=match p l with
  |none=>none
  |some (x,r)=>match repP p (k - 1) r with
   |none=>none
   |some (xs,r)=>some (x::xs,r):=by
 obtain⟨j,rfl⟩: ∃j,k=j+1:=⟨k - 1,by omega⟩
 exact zja p j l
theorem StepP.step {α:Type}{p:Ps α}{n k:Nat}{l0 l l2:List Int}{xs:List α}{x:α}(h:StepP p n k l0 xs l)(hk:k<n)(hx:p l=some (x,l2)):StepP p n (k+1) l0 (xs++ [x]) l2:=by
 unfold StepP at h ⊢
 rw [h,yw2 p (n - k) (by omega),hx,show n - k - 1=n - (k+1)from by omega]
 simp only
 cases repP p (n - (k+1)) l2 with
 |none=>rfl
 |some q=>simp
theorem StepP.fail {α:Type}{p:Ps α}{n k:Nat}{l0 l:List Int}{xs:List α}(h:StepP p n k l0 xs l)(hk:k<n)(hx:p l=none):repP p n l0=none:=by
 unfold StepP at h
 rw [h,yw2 p (n - k) (by omega),hx]
 rfl
theorem StepP.done {α:Type}{p:Ps α}{n:Nat}{l0 l:List Int}{xs:List α}(h:StepP p n n l0 xs l):repP p n l0=some (xs,l):=by
 unfold StepP at h
 rw [h,Nat.sub_self]
 simp [repP]
def brP:Ps Br:=fun l=>match getT l with
 |none=>none
 |some (s,l1)=>match getN l1 with
  |none=>none
  |some (a,l2)=>match getN l2 with
   |none=>none
   |some (b,l3)=>some ((s,(a:Int),(b:Int)),l3)
def lnP:Ps Ln:=fun l=>match getN l with
 |none=>none
 |some (a,l1)=>match getN l1 with
  |none=>none
  |some (b,l2)=>some (((a:Int),(b:Int)),l2)
def ptP:Ps (Int × Int):=lnP
def vcP:Ps (Int × Bh):=fun l=>match getN l with
 |none=>none
 |some (a,l1)=>match manyP ptP l1 with
  |none=>none
  |some (ps,l2)=>some (((a:Int),ps),l2)
def levP:Ps (List Tb):=manyP tbP
def sdP:Ps Sd:=fun l=>match getN l with
 |none=>none
 |some (a,l1)=>match repP levP 3 l1 with
  |none=>none
  |some (lv,l2)=>some (⟨(a:Int),lv⟩,l2)
def shP:Ps (List Sd):=manyP sdP
def rtP:Ps Rt:=fun l=>match getN l with
 |none=>none
 |some (s,l1)=>match getN l1 with
  |none=>none
  |some (g,l2)=>match getN l2 with
   |none=>none
   |some (n,l3)=>match manyP brP l3 with
    |none=>none
    |some (bs,l4)=>match manyP lnP l4 with
     |none=>none
     |some (ls,l5)=>match manyP vcP l5 with
      |none=>none
      |some (vs,l6)=>some (⟨s,g,n,bs,ls,vs, []⟩,l6)
end Go.Herb
namespace Go.Proofs.YtchcelodeepjdaaGreatDoor.Ln
open Go.RowKit Go.Shelf Go.Herb

theorem ywb {p b j:Nat}{w u:World}(h:TurnI p w u)(hb:w.heap.size<=b)(v:Value):TurnI p w (u.setCell ⟨b,j,none⟩ v):=
 ⟨h.os,h.tape,h.output,Nat.le_trans h.size (by simp [World.setCell]),fun k _ ho hk=>blk_setCell_other (h.kept k _ ho hk) (show k≠b by have:=zq2 ho;omega) v⟩
abbrev RdR:=World->Nat->Nat->List Int->Prop
structure RdK (R:RdR):Prop where
 kept: ∀{w w':World} {p B:Nat} {ys:List Int},R w p B ys->(∀b o,w.heap[b]? =some o->b<B\/b=p->w'.heap[b]? =some o)->R w' p B ys
 low: ∀{w:World} {p B:Nat} {ys:List Int},R w p B ys->B<=p
theorem readK:RdK zqa:=⟨fun h hk=>h.kept hk,fun h=>h.low⟩
theorem RdK.ext {R:RdR}(k:RdK R){w w':World}{p B:Nat}{ys:List Int}(h:R w p B ys)(hb:Below w.heap.size w w'):R w' p B ys:=k.kept h (fun _ _ ho _=>zq4 ho hb (zq2 ho))
structure RS (R:RdR)(p B:Nat)(w u:World)(ys:List Int)(bx:Nat)(cs:Array Value)(t:TypeId):Prop where
 read:R u p B ys
 box:u.heap[bx]? =some (.cells cs t (0,0))
 turn:TurnI p w u
 hp:p<w.heap.size
 hb:w.heap.size<=bx
 rk:RdK R
theorem RS.next {R:RdR}{p B bx:Nat}{w u u':World}{ys zs:List Int}{cs:Array Value}{t:TypeId}(h:RS R p B w u ys bx cs t)(ht:TurnI p u u')(hr:R u' p B zs):RS R p B w u' zs bx cs t:=
 ⟨hr,ht.kept bx _ h.box (by have:=h.hp;have:=h.hb;omega),h.turn.trans ht,h.hp,h.hb,h.rk⟩
theorem RS.store {R:RdR}{p B bx:Nat}{w u:World}{ys:List Int}{cs:Array Value}{t:TypeId}(h:RS R p B w u ys bx cs t)(j:Nat)(v:Value)(cs':Array Value)(hc:cs.setIfInBounds j v=cs'):RS R p B w (u.setCell ⟨bx,j,none⟩ v) ys bx cs' t:=
 ⟨h.rk.kept h.read (fun k o ho hk=>blk_setCell_other ho (show k≠bx by have:=h.rk.low h.read;have:=h.hp;have:=h.hb;omega) v),by rw [<-hc];exact zq7 h.box v,ywb h.turn h.hb v,h.hp,h.hb,h.rk⟩
theorem RS.name {R:RdR}{p B bx:Nat}{w u:World}{ys:List Int}{cs:Array Value}{t:TypeId}(_:RS R p B w u ys bx cs t): ∃Z,Z=u:=⟨u,rfl⟩
def TabV (t:Tb)(v:Value)(_:World):Prop:=v= .agg #[.int .u64 t.file, .int .u32 t.bytes, .string t.low, .string t.high] /\TbW t
theorem zx7 {m:Nat}(h:m<18446744073709551616):U64 (m:Int):=by
 unfold U64
 simp [Lit.wf,IntKind.min,IntKind.max,IntKind.signed,IntKind.bits]
 omega
set_option maxRecDepth 100000 in
set_option maxHeartbeats 1000000 in
theorem yq4 (p B:Nat)(ys:List Int)(w:World)(h:zqa w p B ys):
  Calls Tryz.prog (95) #[.pointer (some ⟨p,0,none⟩)] w (zyl p B w (tbP ys) TabV):=by
 obtain⟨W,hW⟩: ∃W:World,W=w.alloc (.cells #[.int .u64 0, .int .u32 0, .string ⟨#[]⟩, .string ⟨#[]⟩] (51)):=⟨_,rfl⟩
 have hB:Below w.heap.size w W:=by rw [hW];exact zb.alloc zr _
 have HS0:=zh (show RS zqa p B w W ys w.heap.size #[.int .u64 0, .int .u32 0, .string ⟨#[]⟩, .string ⟨#[]⟩] (51)from⟨h.ext hB,by rw [hW];exact zq3 rfl _,TurnI.of_below hB,h.lt,zr,readK⟩)
 have HW:=zh hW
 have HN:=zh (zxo p B ys W HS0.out.read)
 rw [hW] at HN
 clear h hB hW
 go_enter Tryz.func95,Tryz.ntmps95
 go_wp2_with fail
 refine HN.out.mono ?_
 rw [<-HW.out]
 rintro e w1 ⟨hT,⟨hg,rfl⟩|⟨f,z1,v,hg,rfl,⟨rfl,hf⟩,hR⟩⟩
 ·have HF:=zh (show tbP ys=none from by unfold tbP;rw [hg])
  have HT:=zh (HS0.out.turn.trans hT)
  clear hg hT
  go_wp2_with fail
  exact⟨rfl,HT.out, .inl ⟨HF.out,rfl⟩⟩
 have HS1:=zh (HS0.out.next hT hR)
 have HG1:=zh hg
 have HF1:=zh hf
 have c0:=zq0 HS1.out.box 0
 have f0:=zq1 HS1.out.box 0
 simp at c0
 obtain⟨u1,hu1⟩: ∃u:World,u=w1.setCell ⟨w.heap.size,0,none⟩ (.int .u64 (f:Int)):=⟨_,rfl⟩
 have HS1b:=zh (show RS zqa p B w u1 z1 w.heap.size #[.int .u64 (f:Int), .int .u32 0, .string ⟨#[]⟩, .string ⟨#[]⟩] (51)from by rw [hu1];exact HS1.out.store 0 _ _ rfl)
 have HU1:=zh hu1
 have HN1:=zh (zxo p B z1 u1 HS1b.out.read)
 rw [hu1] at HN1
 clear hT hg hf hR HN hu1
 go_wp2_with fail
 refine HN1.out.mono ?_
 rw [<-HU1.out]
 rintro e w2 ⟨hT,⟨hg,rfl⟩|⟨b,z2,v,hg,rfl,⟨rfl,hf⟩,hR⟩⟩
 ·have HF:=zh (show tbP ys=none from by unfold tbP;rw [HG1.out];simp only;rw [hg])
  have HT:=zh (HS1b.out.turn.trans hT)
  clear hg hT c0 f0
  go_wp2_with fail
  exact⟨rfl,HT.out, .inl ⟨HF.out,rfl⟩⟩
 have HS2:=zh (HS1b.out.next hT hR)
 have HG2:=zh hg
 have HF2:=zh hf
 clear hT hg hf hR HN1 c0 f0
 by_cases hb:b<=4294967295
 case neg=>
  have hd:decide ((b:Int)<=4294967295)=false:=decide_eq_false (by omega)
  have HF:=zh (show tbP ys=none from by unfold tbP;rw [HG1.out];simp only;rw [HG2.out];simp only;rw [if_neg hb])
  have hb2: ¬(b:Int)<=4294967295:=by omega
  clear hb
  go_wp2_with(go_at_call 60;refine(zxh _).mono ?_;rintro e w' ⟨rfl,rfl⟩)
  exact⟨rfl,HS2.out.turn, .inl ⟨HF.out,rfl⟩⟩
 have hd:decide ((b:Int)<=4294967295)=true:=decide_eq_true (by omega)
 have hb2:(b:Int)<=4294967295:=by omega
 have hwb:IntKind.u32.wrap (b:Int)=(b:Int):=by rw [IntKind.wrap_u32];omega
 have HB:=zh hb
 have c1:=zq0 HS2.out.box 1
 have f1:=zq1 HS2.out.box 1
 simp at c1
 obtain⟨u2,hu2⟩: ∃u:World,u=w2.setCell ⟨w.heap.size,1,none⟩ (.int .u32 (b:Int)):=⟨_,rfl⟩
 have HS2b:=zh (show RS zqa p B w u2 z2 w.heap.size #[.int .u64 (f:Int), .int .u32 (b:Int), .string ⟨#[]⟩, .string ⟨#[]⟩] (51)from by rw [hu2];exact HS2.out.store 1 _ _ rfl)
 have HU2:=zh hu2
 have HN2:=zh (zyb p B z2 u2 HS2b.out.read)
 rw [hu2] at HN2
 clear hb hu2
 go_wp2_with(go_at_call 60;refine(zz1 _).mono ?_;rintro e w' ⟨rfl,rfl⟩)
 refine HN2.out.mono ?_
 rw [<-HU2.out]
 rintro e w3 ⟨hT,⟨hg,rfl⟩|⟨lo,z3,v,hg,rfl,⟨rfl,hf⟩,hR⟩⟩
 ·have HF:=zh (show tbP ys=none from by unfold tbP;rw [HG1.out];simp only;rw [HG2.out];simp only;rw [if_pos HB.out,hg])
  have HT:=zh (HS2b.out.turn.trans hT)
  clear hg hT c1 f1
  go_wp2_with fail
  exact⟨rfl,HT.out, .inl ⟨HF.out,rfl⟩⟩
 have HS3:=zh (HS2b.out.next hT hR)
 have HG3:=zh hg
 have HF3:=zh hf
 have HN3:=zh (zyb p B z3 w3 HS3.out.read)
 clear hT hg hf hR HN2 c1 f1 hwb
 go_wp2_with fail
 refine HN3.out.mono ?_
 rintro e w4 ⟨hT,⟨hg,rfl⟩|⟨hi,z4,v,hg,rfl,⟨rfl,hf⟩,hR⟩⟩
 ·have HF:=zh (show tbP ys=none from by unfold tbP;rw [HG1.out];simp only;rw [HG2.out];simp only;rw [if_pos HB.out,HG3.out];simp only;rw [hg])
  have HT:=zh (HS3.out.turn.trans hT)
  clear hg hT
  go_wp2_with fail
  exact⟨rfl,HT.out, .inl ⟨HF.out,rfl⟩⟩
 have HS4:=zh (HS3.out.next hT hR)
 have HF4:=zh (show tbP ys=some (⟨f,b,lo,hi⟩,z4)from by unfold tbP;rw [HG1.out];simp only;rw [HG2.out];simp only;rw [if_pos HB.out,HG3.out];simp only;rw [hg])
 have HW4:=zh (show TbW ⟨f,b,lo,hi⟩from⟨zx7 HF1.out,⟨by show(0:Int)<=(b:Int);omega,by show(b:Int)<4294967296;omega⟩,by show lo.size<=maxLen;have:=HF3.out;unfold maxLen;omega,by show hi.size<=maxLen;unfold maxLen;omega⟩)
 have c0:=zq0 HS4.out.box 0
 have c1:=zq0 HS4.out.box 1
 have c2:=zq0 HS4.out.box 2
 have c3:=zq0 HS4.out.box 3
 have f0:=zq1 HS4.out.box 0
 have f1:=zq1 HS4.out.box 1
 have f2:=zq1 HS4.out.box 2
 have f3:=zq1 HS4.out.box 3
 simp at c0 c1 c2 c3
 clear hT hg hf hR
 go_wp2_with fail
 have HS5:=zh ((((((HS4.out.store 2 (.string lo) #[.int .u64 (f:Int), .int .u32 (b:Int), .string lo, .string ⟨#[]⟩] rfl).store 3 (.string hi) #[.int .u64 (f:Int), .int .u32 (b:Int), .string lo, .string hi] rfl).store 0 (.int .u64 (f:Int)) _ rfl).store 1 (.int .u32 (b:Int)) _ rfl).store 2 (.string lo) _ rfl).store 3 (.string hi) #[.int .u64 (f:Int), .int .u32 (b:Int), .string lo, .string hi] rfl)
 obtain⟨Z,hZ⟩:=HS5.out.name
 rw [<-hZ] at HS5 ⊢
 have q0:=zq0 HS5.out.box 0
 have q1:=zq0 HS5.out.box 1
 have q2:=zq0 HS5.out.box 2
 have q3:=zq0 HS5.out.box 3
 simp at q0 q1 q2 q3
 refine bodyPost_ret (v:= .agg #[.int .u64 (f:Int), .int .u32 (b:Int), .string lo, .string hi]) (by simp [results,Tryz.results95,go_sem,q0,q1,q2,q3]) rfl ?_
 exact⟨HS5.out.turn, .inr ⟨⟨f,b,lo,hi⟩,z4,_,HF4.out,rfl,⟨rfl,HW4.out⟩,HS5.out.read⟩⟩
end Go.Proofs.YtchcelodeepjdaaGreatDoor.Ln

namespace Go.Proofs.YtchcelodeepjdaaGreatDoor.Ln
open Go.RowKit Go.Shelf Go.Herb

theorem RtIn.ext {w w':World}{r:Rv}(h:RtIn w r)(hB:Below w.heap.size w w'):RtIn w' r:=
 ⟨h.seq,h.log,h.next,⟨h.brs.els.ext hB,h.brs.nil,h.brs.le,h.brs.max,h.brs.all⟩,⟨h.lns.els.ext hB,h.lns.nil,h.lns.le,h.lns.max,h.lns.all⟩,vinE h.vcs hB,h.shs.ext hB,h.sl,h.sm,h.sn,h.vl⟩
end Go.Proofs.YtchcelodeepjdaaGreatDoor.Ln

namespace Go.Proofs.YtchcelodeepjdaaGreatDoor.Ln
open Go.RowKit Go.Shelf Go.Herb

theorem ykr:(Tryz.prog.info? (57)).map (fun i=>(i.zero,i.size,i.bytes))=some (some (.agg #[.int .u64 0, .slice none 0 0, .slice none 0 0, .slice none 0 0]),4,80):=by kernel_rfl
def OwnSh (B:Nat)(w:World)(v:Value)(ss:List Sv):Prop:=w.ownsRow B (57) 4 v ss.length (ss.flatMap shc)
theorem zk6 (w:World)(B:Nat)(v:Value)(ss:List Sv)(ab:Option Addr)(cb k:Nat)(bs:List Sv)(hk:bs.length=k)(ho:OwnSh B w v ss)(hT:Els shc 4 w ab bs)(hx:ss.length<1000000)(hb:k<1000000)(hn:ab=none->cb=0)(hB:B<=w.heap.size)(ty:TypeId):
  ∃v' w',(Builtin.append_ #[(30),(30)] ty #[v, .slice ab k cb]).run Tryz.prog w= .ok v' w'/\OwnSh B w' v' (ss++bs)/\w.grownBy w' v.ownBlock:=by
 subst hk
 obtain⟨i0,hin,hz0,hz1,hz2⟩:=info_parts ykr
 cases ab with
 |none=>
  have h0:bs= [] :=by
   cases bs with
   |nil=>rfl
   |cons x xs=>obtain⟨b,o,h,_⟩:=hT.get 0 (by simp);cases h
  subst h0
  rw [hn rfl]
  obtain⟨av,cv,rfl, -⟩:=Vx.zqv ho
  have:=run_append_owned_none (P:=Tryz.prog) w B (30) ty (57) i0 4 Tryz.underlying30 hin _ _ _ ho
  exact⟨_,w,this,by simpa using ho,zqp _ _⟩
 |some ad=>
  obtain⟨v',w',hr,h2,h3,h4⟩:=run_append_own (P:=Tryz.prog) w B (30) ty (57) i0 _ 4 80 Tryz.underlying30 hin hz0 hz1 hz2 rfl (by decide) v ss.length (ss.flatMap shc) ho ad bs.length cb (bs.flatMap shc) (zq8 zqe _) (hT.flat zqe (by decide)) (fun u hu=>by
   obtain⟨q,_,hq⟩:=List.mem_flatMap.1 hu
   exact zy8 q u hq) (by unfold maxLen;omega) (by omega) hB
  refine⟨v',w',hr,?_,h3⟩
  unfold OwnSh
  rw [List.length_append,List.flatMap_append]
  exact h2
theorem zzk {w:World}{o:Oper}{a:Act}{K:Act->World->Prop}{Q:Exit->Act->World->Prop}(s x:Operand)(ho:o.op= .call {callee:= .builtin .append,args:= #[s,x],argTypes:= #[(30),(30)]})
  (B:Nat) (v:Value) (ss:List Sv) (ab:Option Addr) (cb k:Nat) (bs:List Sv) (hk:bs.length=k) (hs:a.eval s=v) (hx:a.eval x= .slice ab k cb) (hown:OwnSh B w v ss) (hT:Els shc 4 w ab bs) (hl:ss.length<1000000) (hb:k<1000000) (hn:ab=none->cb=0) (hB:B<=w.heap.size)
  (h: ∀v' w',OwnSh B w' v' (ss++bs)->w.grownBy w' v.ownBlock->K (a.put o.dst v') w'):o.wp Tryz.prog a w K Q:=by
 obtain⟨v',w',hr,h2,h3⟩:=zk6 w B v ss ab cb k bs hk hown hT hl hb hn hB o.type
 unfold Oper.wp execOp
 simp only [ho,resolve,invoke,builtin,Sem.run_bind,Sem.run_pure,Result.andThen_ok,List.map_toArray,List.map_cons,List.map_nil,hs,hx,hr]
 exact h v' w' h2 h3
theorem zwj {w:World}{b:Nat}{x:Sv}(h:w.heap[b]? =some (.cells #[.int .u64 x.line,lvV x.l0,lvV x.l1,lvV x.l2] (57) (0,0))):Els shc 4 w (some ⟨b,0,none⟩) [x] :=by
 refine⟨fun i hi=>⟨b,0,rfl,zq2 h,fun j c hj=> ?_⟩⟩
 have:i=0:=by simpa using hi
 subst this
 rw [zq0 h]
 simp only [List.getElem_cons_zero,shc] at hj
 simpa using hj
theorem OwnSh.below {B:Nat}{w w':World}{v:Value}{ts:List Sv}(h:OwnSh B w v ts)(hb:Below w.heap.size w w'):OwnSh B w' v ts:=ownsRow_below h hb zr
theorem OwnSh.parts {B:Nat}{w:World}{v:Value}{ts:List Sv}(h:OwnSh B w v ts): ∃a c,v= .slice a ts.length c/\Els shc 4 w a ts/\ts.length<=c/\c<=maxLen/\(a=none->c=0):=by
 obtain⟨a,c,h1,h2,h3,h4, -⟩:=Vx.zqv h
 subst h1
 exact⟨a,c,rfl,Vx.zx3 zqe h,h3,h4,fun e=>(h2 e).2⟩
theorem OwnSh.set {B:Nat}{w:World}{v:Value}{ts:List Sv}(h:OwnSh B w v ts){a:Addr}(ha:a.block<B)(x:Value):OwnSh B (w.setCell a x) v ts:=by
 obtain⟨h0,h1⟩:=h
 refine⟨h0,?_⟩
 rcases h1 with h1|⟨g,cap,cur,hv,hg,hh,hr⟩
 ·exact .inl h1
 ·exact .inr ⟨g,cap,cur,hv,hg,blk_setCell_other hh (by omega) x,hr⟩
end Go.Proofs.YtchcelodeepjdaaGreatDoor.Ln
