/- Lemmas and walks towards ManifestsFold. Conditions: each one tells its own. -/
import Derived.Test.YtchcelodeepjdaaGreatDoorMp
import Derived.WalkKit
import Derived.WalkSpells
import Derived.WalkLawsBesides
import Derived.Deep.QuietTactic
import Derived.Deep.LoopGhost
import Derived.BigQuiet
import Derived.Lib.Hide
import Derived.IntWalk
import Derived.Deep.RegionHeld3
import Derived.Test.YtchcelodeepjdaaGreatDoorProg
namespace Go.Herb

def at_ (xs:List Int)(i:Nat):Int:=xs.getD i 0
def swq (xs:List Int)(i j:Nat):List Int:=(xs.set i (at_ xs j)).set j (at_ xs i)

theorem zjn {xs:List Int}{i:Nat}(h:i<xs.length):at_ xs i=xs[i] :=by
 unfold at_;rw [List.getD_eq_getElem?_getD,List.getElem?_eq_getElem h];rfl
theorem zjg (xs:List Int)(i j:Nat):(swq xs i j).length=xs.length:=by simp [swq]
theorem at_set {xs:List Int}{i:Nat}(hi:i<xs.length)(v:Int)(k:Nat):at_ (xs.set i v) k=if k=i then v else at_ xs k:=by
 unfold at_
 rw [List.getD_eq_getElem?_getD,List.getD_eq_getElem?_getD]
 by_cases h:k=i
 ·subst h;rw [List.getElem?_set_self hi,if_pos rfl];rfl
 ·rw [List.getElem?_set_ne (fun e=>h e.symm),if_neg h]
theorem zk3 {xs:List Int}{i j:Nat}(hi:i<xs.length)(hj:j<xs.length)(k:Nat):at_ (swq xs i j) k=if k=j then at_ xs i else if k=i then at_ xs j else at_ xs k:=by
 unfold swq
 rw [at_set (by simpa using hj),at_set hi]
theorem swq_perm {xs:List Int}{i j:Nat}(hi:i<xs.length)(hj:j<xs.length):(swq xs i j).Perm xs:=by
 unfold swq
 rw [zjn hi,zjn hj]
 have h:=Array.swap_perm (xs:=xs.toArray) (i:=i) (j:=j) (by simpa using hi) (by simpa using hj)
 have h':=h.toList
 simpa [Array.swap] using h'

structure InR (a b:Nat)(xs ys:List Int):Prop where
 len:ys.length=xs.length
 out: ∀k,k<a\/b<=k->at_ ys k=at_ xs k
 perm:ys.Perm xs
theorem InR.refl (a b:Nat)(xs:List Int):InR a b xs xs:=⟨rfl,fun _ _=>rfl, .refl _⟩
theorem InR.trans {a b:Nat}{xs ys zs:List Int}(h:InR a b xs ys)(k:InR a b ys zs):InR a b xs zs:=
 ⟨k.len.trans h.len,fun i hi=>(k.out i hi).trans (h.out i hi),k.perm.trans h.perm⟩
theorem InR.mono {a b a' b':Nat}{xs ys:List Int}(h:InR a b xs ys)(ha:a'<=a)(hb:b<=b'):InR a' b' xs ys:=
 ⟨h.len,fun i hi=>h.out i (by omega),h.perm⟩
theorem InR.swq {a b i j:Nat}{xs:List Int}(hb:b<=xs.length)(hi:a<=i)(hi':i<b)(hj:a<=j)(hj':j<b):InR a b xs (swq xs i j):=
 ⟨zjg _ _ _,fun k hk=>by rw [zk3 (by omega) (by omega),if_neg (by omega),if_neg (by omega)],swq_perm (by omega) (by omega)⟩

theorem InR.mid {a b:Nat}{xs ys:List Int}(h:InR a b xs ys)(hab:a<=b)(hb:b<=xs.length):((ys.drop a).take (b - a)).Perm ((xs.drop a).take (b - a)):=by
 have split: ∀l:List Int,l=l.take a++((l.drop a).take (b - a)++l.drop b):=fun l=>by
  conv=>lhs;rw [<-List.take_append_drop a l,<-List.take_append_drop (b - a) (l.drop a),List.drop_drop,show a+(b - a)=b from by omega]
 have hlen:=h.len
 have h1:ys.take a=xs.take a:=List.ext_getElem (by simp;omega) fun k k1 k2=>by
  simp only [List.length_take] at k1
  rw [List.getElem_take,List.getElem_take,<-zjn (by omega),<-zjn (by omega)]
  exact h.out k (by omega)
 have h2:ys.drop b=xs.drop b:=List.ext_getElem (by simp;omega) fun k k1 k2=>by
  simp only [List.length_drop] at k1
  rw [List.getElem_drop,List.getElem_drop,<-zjn (by omega),<-zjn (by omega)]
  exact h.out _ (by omega)
 have hp:=h.perm
 rw [split ys,split xs,h1,h2,List.perm_append_left_iff,List.perm_append_right_iff] at hp
 exact hp

theorem InR.all {a b:Nat}{xs ys:List Int}(h:InR a b xs ys)(hb:b<=xs.length){P:Int->Prop}(hP: ∀k,a<=k->k<b->P (at_ xs k))(k:Nat)(h1:a<=k)(h2:k<b):P (at_ ys k):=by
 have hm:=h.mid (by omega) hb
 have hlen:=h.len
 have hmem:at_ ys k∈(ys.drop a).take (b - a):=by
  rw [zjn (by omega),List.mem_take_iff_getElem]
  refine⟨k - a,by simp;omega,?_⟩
  rw [List.getElem_drop]
  congr 1
  omega
 have h3:=hm.mem_iff.1 hmem
 rw [List.mem_take_iff_getElem] at h3
 obtain⟨i,hi,e⟩:=h3
 rw [List.getElem_drop] at e
 simp only [List.length_drop] at hi
 rw [<-e,<-zjn (by omega)]
 exact hP _ (by omega) (by omega)

def SortR (a b:Nat)(xs:List Int):Prop:= ∀i j,a<=i->i<=j->j<b->at_ xs i<=at_ xs j
theorem SortR.small {a b:Nat}(h:b<=a+1)(xs:List Int):SortR a b xs:=fun i j h1 h2 h3=>by
 have:i=j:=by omega
 rw [this];exact Int.le_refl _
theorem SortR.whole {xs:List Int}(h:SortR 0 xs.length xs):xs.Pairwise (· <= ·):=by
 rw [List.pairwise_iff_getElem]
 intro i j hi hj hij
 have:=h i j (by omega) (by omega) hj
 rw [zjn hi,zjn hj] at this
 exact this

def LowR (a b:Nat)(xs:List Int):Prop:=0<a-> ∀k,a<=k->k<b->at_ xs (a - 1)<=at_ xs k
theorem LowR.kept {a b:Nat}{xs ys:List Int}(h:LowR a b xs)(hr:InR a b xs ys)(hb:b<=xs.length):LowR a b ys:=fun h0 k h1 h2=>by
 rw [hr.out (a - 1) (by omega)]
 exact hr.all hb (P:=fun v=>at_ xs (a - 1)<=v) (h h0) k h1 h2

theorem SortR.join {a m b:Nat}{xs:List Int}(h1:SortR a m xs)(h2:SortR (m+1) b xs)(hl: ∀k,a<=k->k<m->at_ xs k<=at_ xs m)(hr: ∀k,m<k->k<b->at_ xs m<=at_ xs k):SortR a b xs:=by
 intro i j hi hij hj
 rcases Nat.lt_trichotomy j m with h|h|h
 ·exact h1 i j hi hij h
 ·subst h
  rcases Nat.lt_or_eq_of_le hij with h|h
  ·exact hl i hi h
  ·rw [h];exact Int.le_refl _
 ·rcases Nat.lt_trichotomy i m with h'|h'|h'
  ·exact Int.le_trans (hl i hi h') (hr j h hj)
  ·rw [h'];exact hr j h hj
  ·exact h2 i j h' hij hj
theorem SortR.kept {a b:Nat}{xs ys:List Int}(h:SortR a b xs)(he: ∀k,a<=k->k<b->at_ ys k=at_ xs k):SortR a b ys:=fun i j h1 h2 h3=>by
 rw [he i h1 (by omega),he j (by omega) h3];exact h i j h1 h2 h3

/- Insertion: all but what stands at j is sorted, and that is not above what is behind it. -/
structure InsR (a i j:Nat)(xs:List Int):Prop where
 le:a<=j/\j<=i
 rise: ∀p q,a<=p->p<=q->q<=i->p≠j->q≠j->at_ xs p<=at_ xs q
 behind: ∀q,j<q->q<=i->at_ xs j<=at_ xs q
theorem InsR.start {a i:Nat}{xs:List Int}(h:SortR a i xs)(hi:a<=i):InsR a i i xs:=
 ⟨⟨hi,zr⟩,fun p q h1 h2 h3 h4 h5=>h p q h1 h2 (by omega),fun q h1 h2=>by omega⟩
theorem InsR.step {a i j:Nat}{xs:List Int}(h:InsR a i j xs)(hj:a<j)(hi:i<xs.length)(hlt:at_ xs j<at_ xs (j - 1)):InsR a i (j - 1) (swq xs j (j - 1)):=by
 have hle:=h.le
 have hs:=zk3 (xs:=xs) (i:=j) (j:=j - 1) (by omega) (by omega)
 refine⟨by omega,fun p q h1 h2 h3 h4 h5=> ?_,fun q h1 h2=> ?_⟩
 ·rw [hs p,hs q,if_neg h4,if_neg h5]
  by_cases e1:p=j<;>by_cases e2:q=j
  ·rw [if_pos e1,if_pos e2];exact Int.le_refl _
  ·rw [if_pos e1,if_neg e2];exact h.rise (j - 1) q (by omega) (by omega) h3 (by omega) e2
  ·rw [if_neg e1,if_pos e2];exact h.rise p (j - 1) h1 (by omega) (by omega) e1 (by omega)
  ·rw [if_neg e1,if_neg e2];exact h.rise p q h1 h2 h3 e1 e2
 ·rw [hs (j - 1),hs q,if_pos rfl,if_neg (show¬q=j - 1 by omega)]
  by_cases e2:q=j
  ·rw [if_pos e2];omega
  ·rw [if_neg e2];exact h.behind q (by omega) h2
theorem InsR.done {a i j:Nat}{xs:List Int}(h:InsR a i j xs)(hd:j=a\/at_ xs (j - 1)<=at_ xs j):SortR a (i+1) xs:=by
 have hle:=h.le
 intro p q h1 h2 h3
 by_cases e1:p=j
 ·by_cases e2:q=j
  ·rw [e1,e2];exact Int.le_refl _
  ·rw [e1];exact h.behind q (by omega) (by omega)
 ·by_cases e2:q=j
  ·rcases hd with hd|hd
   ·omega
   ·rw [e2]
    rcases Nat.lt_or_eq_of_le (show p<=j - 1 by omega)with h4|h4
    ·exact Int.le_trans (h.rise p (j - 1) h1 (by omega) (by omega) e1 (by omega)) hd
    ·rw [h4];exact hd
  ·exact h.rise p q h1 h2 (by omega) e1 e2

/- Heaps: at f, of hi elements, from lo on; but for what stands at r. -/
def HeapR (f lo hi:Nat)(xs:List Int):Prop:= ∀i c,lo<=i->c<hi->(c=2*i+1\/c=2*i+2)->at_ xs (f+c)<=at_ xs (f+i)
structure SiftR (f lo hi r:Nat)(xs:List Int):Prop where
 le:lo<=r
 heap: ∀i c,lo<=i->i≠r->c<hi->(c=2*i+1\/c=2*i+2)->at_ xs (f+c)<=at_ xs (f+i)
 over: ∀p c,lo<=p->(r=2*p+1\/r=2*p+2)->c<hi->(c=2*r+1\/c=2*r+2)->at_ xs (f+c)<=at_ xs (f+p)
theorem SiftR.start {f lo hi:Nat}{xs:List Int}(h:HeapR f (lo+1) hi xs):SiftR f lo hi lo xs:=
 ⟨zr,fun i c h1 h2 h3 h4=>h i c (by omega) h3 h4,fun p c h1 h2 h3 h4=>by omega⟩
theorem SiftR.step {f lo hi r c:Nat}{xs:List Int}(h:SiftR f lo hi r xs)(hc:c=2*r+1\/c=2*r+2)(hch:c<hi)(hl:f+hi<=xs.length)
  (hgt:at_ xs (f+r)<at_ xs (f+c)) (hmax: ∀d,d<hi->(d=2*r+1\/d=2*r+2)->at_ xs (f+d)<=at_ xs (f+c)):SiftR f lo hi c (swq xs (f+r) (f+c)):=by
 have hle:=h.le
 have hs:=zk3 (xs:=xs) (i:=f+r) (j:=f+c) (by omega) (by omega)
 refine⟨by omega,fun i d h1 h2 h3 h4=> ?_,fun p d h1 h2 h3 h4=> ?_⟩
 ·rw [hs (f+d),hs (f+i),if_neg (show¬f+i=f+c by omega)]
  by_cases e:i=r
  ·subst e
   rw [if_pos rfl]
   by_cases e2:d=c
   ·rw [if_pos (by omega)];omega
   ·rw [if_neg (by omega),if_neg (by omega)];exact hmax d h3 h4
  ·rw [if_neg (show¬f+i=f+r by omega)]
   by_cases e2:d=c
   ·omega
   ·rw [if_neg (by omega)]
    by_cases e3:d=r
    ·subst e3
     rw [if_pos rfl]
     exact h.over i c h1 h4 hch hc
    ·rw [if_neg (by omega)]
     exact h.heap i d h1 e h3 h4
 ·have:p=r:=by omega
  subst this
  rw [hs (f+d),hs (f+p),if_neg (show¬f+p=f+c by omega),if_pos rfl,if_neg (by omega),if_neg (by omega)]
  exact h.heap c d (by omega) (by omega) h3 h4
theorem SiftR.done {f lo hi r:Nat}{xs:List Int}(h:SiftR f lo hi r xs)(hd: ∀c,c<hi->(c=2*r+1\/c=2*r+2)->at_ xs (f+c)<=at_ xs (f+r)):HeapR f lo hi xs:=fun i c h1 h2 h3=>by
 by_cases e:i=r
 ·subst e;exact hd c h2 h3
 ·exact h.heap i c h1 e h2 h3
theorem HeapR.top {f hi:Nat}{xs:List Int}(h:HeapR f 0 hi xs): ∀n i,i<=n->i<hi->at_ xs (f+i)<=at_ xs f:=by
 intro n
 induction n with
 |zero=>intro i h1 _;rw [show i=0 by omega];exact Int.le_refl _
 |succ n ih=>
  intro i h1 h2
  rcases Nat.eq_zero_or_pos i with e|e
  ·rw [e];exact Int.le_refl _
  ·have:=h ((i - 1)/ 2) i (by omega) h2 (by omega)
   exact Int.le_trans this (ih _ (by omega) (by omega))

/- Partition: those ahead of i below p, those behind j not below. -/
structure PartR (lt:Int->Int->Prop)(a b i j:Nat)(p:Int)(xs:List Int):Prop where
 at0:at_ xs a=p
 low: ∀k,a<k->k<i->lt (at_ xs k) p
 high: ∀k,j<k->k<b-> ¬lt (at_ xs k) p

theorem PartR.swap {lt:Int->Int->Prop}{a b i j:Nat}{p:Int}{xs:List Int}(h:PartR lt a b i j p xs)(hb:b<=xs.length)(hi:a<i)(hij:i<=j)(hj:j<b)(hni: ¬lt (at_ xs i) p)(hlj:lt (at_ xs j) p):i≠j/\PartR lt a b (i+1) (j - 1) p (swq xs i j):=by
 have hne:i≠j:=fun e=>by rw [e] at hni;exact hni hlj
 have hs:=zk3 (xs:=xs) (i:=i) (j:=j) (by omega) (by omega)
 refine⟨hne,⟨?_,fun k h1 h2=> ?_,fun k h1 h2=> ?_⟩⟩
 ·rw [hs a,if_neg (by omega),if_neg (by omega)];exact h.at0
 ·rw [hs k]
  by_cases e:k=i
  ·rw [if_neg (by omega),if_pos e];exact hlj
  ·rw [if_neg (by omega),if_neg e];exact h.low k h1 (by omega)
 ·rw [hs k]
  by_cases e:k=j
  ·rw [if_pos e];exact hni
  ·rw [if_neg e,if_neg (by omega)];exact h.high k (by omega) h2
end Go.Herb

namespace Go.Herb

theorem HeapR.none {f hi:Nat}(xs:List Int)(lo:Nat)(h:hi<=2*lo+1):HeapR f lo hi xs:=fun i c h1 h2 h3=>by omega
theorem HeapR.less {f lo hi:Nat}{xs:List Int}(h:HeapR f lo hi xs){lo':Nat}(hl:lo<=lo'):HeapR f lo' hi xs:=fun i c h1 h2 h3=>h i c (by omega) h2 h3

/- What has been popped stands behind, sorted. -/
structure PopR (f k n:Nat)(xs:List Int):Prop where
 heap:HeapR f 0 k xs
 sorted:SortR (f+k) (f+n) xs
 sep: ∀p q,f<=p->p<f+k->f+k<=q->q<f+n->at_ xs p<=at_ xs q
theorem PopR.start {f n:Nat}{xs:List Int}(h:HeapR f 0 n xs):PopR f n n xs:=⟨h,fun i j h1 h2 h3=>by omega,fun p q h1 h2 h3 h4=>by omega⟩
theorem PopR.step {f i n:Nat}{xs:List Int}(h:PopR f (i+1) n xs)(hi:i<n)(hl:f+n<=xs.length):
  HeapR f 1 i (swq xs f (f+i))/\ ∀ys,InR f (f+i) (swq xs f (f+i)) ys->HeapR f 0 i ys->PopR f i n ys:=by
 have hs:=zk3 (xs:=xs) (i:=f) (j:=f+i) (by omega) (by omega)
 have hsl:=zjg xs f (f+i)
 refine⟨fun p c h1 h2 h3=> ?_,fun ys hr hh=> ?_⟩
 ·rw [hs (f+c),hs (f+p),if_neg (by omega),if_neg (by omega),if_neg (by omega),if_neg (by omega)]
  exact h.heap p c (by omega) (by omega) h3
 ·have htop: ∀k,f<=k->k<f+i->at_ ys k<=at_ xs f:=hr.all (by omega) (P:=fun v=>v<=at_ xs f) (fun k h1 h2=>by
   rw [hs k,if_neg (by omega)]
   split
   ·exact h.heap.top (i+1) i (by omega) (by omega)
   ·have:=h.heap.top (i+1) (k - f) (by omega) (by omega)
    rwa [show f+(k - f)=k from by omega] at this)
  have hout: ∀k,f+i<=k->at_ ys k=if k=f+i then at_ xs f else at_ xs k:=fun k hk=>by
   rw [hr.out k (by omega),hs k]
   by_cases e:k=f+i
   ·rw [if_pos e,if_pos e]
   ·rw [if_neg e,if_neg e]
    split
    ·omega
    ·rfl
  have hsep: ∀q,f+i<q->q<f+n->at_ xs f<=at_ xs q:=fun q h1 h2=>h.sep f q (by omega) (by omega) (by omega) h2
  refine⟨hh,fun p q h1 h2 h3=> ?_,fun p q h1 h2 h3 h4=> ?_⟩
  ·rw [hout p h1,hout q (by omega)]
   by_cases e:p=f+i
   ·rw [if_pos e]
    by_cases e2:q=f+i
    ·rw [if_pos e2];exact Int.le_refl _
    ·rw [if_neg e2];exact hsep q (by omega) h3
   ·rw [if_neg e,if_neg (by omega)]
    exact h.sorted p q (by omega) h2 h3
  ·rw [hout q h3]
   by_cases e2:q=f+i
   ·rw [if_pos e2];exact htop p h1 h2
   ·rw [if_neg e2];exact Int.le_trans (htop p h1 h2) (hsep q (by omega) h4)
theorem PopR.done {f n:Nat}{xs:List Int}(h:PopR f 0 n xs):SortR f (f+n) xs:=h.sorted

theorem PartR.fin {lt:Int->Int->Prop}{a b j:Nat}{p:Int}{xs:List Int}(h:PartR lt a b (j+1) j p xs)(hb:b<=xs.length)(hj:a<=j)(hjb:j<b):
  at_ (swq xs j a) j=p/\(∀k,a<=k->k<j->lt (at_ (swq xs j a) k) p)/\ ∀k,j<k->k<b-> ¬lt (at_ (swq xs j a) k) p:=by
 have hs:=zk3 (xs:=xs) (i:=j) (j:=a) (by omega) (by omega)
 refine⟨?_,fun k h1 h2=> ?_,fun k h1 h2=> ?_⟩
 ·rw [hs j]
  by_cases e:j=a
  ·rw [if_pos e,e];exact h.at0
  ·rw [if_neg e,if_pos rfl];exact h.at0
 ·rw [hs k]
  by_cases e:k=a
  ·rw [if_pos e];exact h.low j (by omega) (by omega)
  ·rw [if_neg e,if_neg (by omega)];exact h.low k (by omega) (by omega)
 ·rw [hs k,if_neg (by omega),if_neg (by omega)]
  exact h.high k h1 h2

def RestR (a b a' b':Nat)(xs:List Int):Prop:= ∀ys,InR a' b' xs ys->SortR a' b' ys->SortR a b ys
theorem RestR.start (a b:Nat)(xs:List Int):RestR a b a b xs:=fun _ _ h=>h
theorem RestR.kept {a b a' b':Nat}{xs ys:List Int}(h:RestR a b a' b' xs)(hr:InR a' b' xs ys):RestR a b a' b' ys:=fun zs hz hs=>h zs (hr.trans hz) hs
theorem RestR.equals {a b a' b' mid:Nat}{p:Int}{xs:List Int}(h:RestR a b a' b' xs)(hl:LowR a' b' xs)(h0:0<a')(hle:p<=at_ xs (a' - 1))(ha:a'<=mid)(hm:mid<=b')(hb:b'<=xs.length)
  (h1: ∀k,a'<=k->k<mid->at_ xs k<=p) (h2: ∀k,mid<=k->k<b'->p<at_ xs k):RestR a b mid b' xs/\LowR mid b' xs:=by
 have heq: ∀k,a'<=k->k<mid->at_ xs k=p:=fun k k1 k2=>by
  have:=h1 k k1 k2
  have:=hl h0 k k1 (by omega)
  omega
 refine⟨fun ys hr hs=>h ys (hr.mono ha zr) (fun i j h3 h4 h5=> ?_),fun h3 k h4 h5=> ?_⟩
 ·have hall:=hr.all hb (P:=fun v=>p<v) h2
  have hout: ∀k,a'<=k->k<mid->at_ ys k=p:=fun k k1 k2=>(hr.out k (by omega)).trans (heq k k1 k2)
  rcases Nat.lt_or_ge j mid with hj|hj
  ·rw [hout i h3 (by omega),hout j (by omega) hj];exact Int.le_refl _
  ·rcases Nat.lt_or_ge i mid with hi|hi
   ·rw [hout i h3 hi];have:=hall j hj h5;omega
   ·exact hs i j hi h4 h5
 ·rcases Nat.lt_or_eq_of_le ha with h6|h6
  ·have:=h1 (mid - 1) (by omega) (by omega)
   have:=h2 k h4 h5
   omega
  ·subst h6
   exact hl h3 k h4 h5
theorem RestR.left {a b a' b' mid:Nat}{p:Int}{xs ys:List Int}(h:RestR a b a' b' xs)(ha:a'<=mid)(hm:mid<b')(hb:b'<=xs.length)(hp:at_ xs mid=p)(h1: ∀k,a'<=k->k<mid->at_ xs k<p)(h2: ∀k,mid<k->k<b'-> ¬at_ xs k<p)
  (hr:InR a' mid xs ys) (hs:SortR a' mid ys):RestR a b (mid+1) b' ys/\LowR (mid+1) b' ys:=by
 have hlen:=hr.len
 have hlo:=hr.all (by omega) (P:=fun v=>v<p) h1
 have hmid:at_ ys mid=p:=(hr.out mid (by omega)).trans hp
 have hhi: ∀k,mid+1<=k->k<b'-> ¬at_ ys k<p:=fun k k1 k2=>by rw [hr.out k (by omega)];exact h2 k (by omega) k2
 refine⟨fun zs hz hsz=>h zs ((hr.mono zr (by omega)).trans (hz.mono (by omega) zr)) ?_,fun _ k k1 k2=> ?_⟩
 ·have hall:=hz.all (by omega) (P:=fun v=> ¬v<p) hhi
  have hmz:at_ zs mid=p:=(hz.out mid (by omega)).trans hmid
  refine SortR.join (hs.kept (fun k k1 k2=>hz.out k (by omega))) hsz (fun k k1 k2=> ?_) (fun k k1 k2=> ?_)
  ·rw [hmz,hz.out k (by omega)];exact Int.le_of_lt (hlo k k1 k2)
  ·rw [hmz];have:=hall k (by omega) k2;omega
 ·rw [show mid+1 - 1=mid from rfl,hmid]
  have:=hhi k k1 k2
  omega
theorem RestR.right {a b a' b' mid:Nat}{p:Int}{xs ys:List Int}(h:RestR a b a' b' xs)(hl:LowR a' b' xs)(ha:a'<=mid)(hm:mid<b')(hb:b'<=xs.length)(hp:at_ xs mid=p)(h1: ∀k,a'<=k->k<mid->at_ xs k<p)(h2: ∀k,mid<k->k<b'-> ¬at_ xs k<p)
  (hr:InR (mid+1) b' xs ys) (hs:SortR (mid+1) b' ys):RestR a b a' mid ys/\LowR a' mid ys:=by
 have hlen:=hr.len
 have hhi:=hr.all hb (P:=fun v=> ¬v<p) (fun k k1 k2=>h2 k (by omega) k2)
 have hmid:at_ ys mid=p:=(hr.out mid (by omega)).trans hp
 have hlo: ∀k,a'<=k->k<mid->at_ ys k<p:=fun k k1 k2=>by rw [hr.out k (by omega)];exact h1 k k1 k2
 refine⟨fun zs hz hsz=>h zs ((hr.mono (by omega) zr).trans (hz.mono zr (by omega))) ?_,fun h0 k k1 k2=> ?_⟩
 ·have hall:=hz.all (by omega) (P:=fun v=>v<p) hlo
  have hmz:at_ zs mid=p:=(hz.out mid (by omega)).trans hmid
  refine SortR.join hsz (hs.kept (fun k k1 k2=>hz.out k (by omega))) (fun k k1 k2=> ?_) (fun k k1 k2=> ?_)
  ·rw [hmz];exact Int.le_of_lt (hall k k1 k2)
  ·rw [hmz,hz.out k (by omega)];have:=hhi k (by omega) k2;omega
 ·rw [hr.out (a' - 1) (by omega),hr.out k (by omega)]
  exact hl h0 k k1 (by omega)
theorem LowR.behind {b' mid:Nat}{p:Int}{xs:List Int}(hp:at_ xs mid=p)(h2: ∀k,mid<k->k<b'-> ¬at_ xs k<p):LowR (mid+1) b' xs:=fun _ k k1 k2=>by
 rw [show mid+1 - 1=mid from rfl,hp]
 have:=h2 k (by omega) k2
 omega
theorem LowR.less {a b b':Nat}{xs:List Int}(h:LowR a b xs)(hb:b'<=b):LowR a b' xs:=fun h0 k h1 h2=>h h0 k h1 (by omega)

theorem sort_one {xs ys:List Int}(hp:xs.Perm ys)(h1:xs.Pairwise (· <= ·))(h2:ys.Pairwise (· <= ·)):xs=ys:=hp.eq_of_pairwise (fun _ _ _ _ h3 h4=>Int.le_antisymm h3 h4) h1 h2
end Go.Herb

namespace Go.Proofs.YtchcelodeepjdaaGreatDoor.Vx
open Go.RowKit Go.Herb

def nu (x:Int):List Value:= [.int .u64 x]
theorem zz5 (x:Int):(nu x).length=1:=rfl
abbrev RowU (w:World)(g cap:Nat)(xs:List Int):Prop:=Row nu 1 (26) w g cap xs
theorem zq5 {w:World}{g cap:Nat}{xs:List Int}(h:RowU w g cap xs)(i:Nat)(hi:i<xs.length):w.cell? ⟨g,i,none⟩=some (.int .u64 (at_ xs i)):=by
 rw [zjn hi]
 have:=h.cell zz5 i hi 0 _ rfl
 simpa using this
theorem flat_nu (xs:List Int):xs.flatMap nu=xs.map (fun m=>Value.int .u64 m):=by
 induction xs with
 |nil=>rfl
 |cons x xs ih=>rw [List.flatMap_cons,List.map_cons,ih];rfl
theorem yw4 {w:World}{g cap:Nat}{xs:List Int}(h:RowU w g cap xs)(i:Nat)(x:Int):RowU (w.setCell ⟨g,i,none⟩ (.int .u64 x)) g cap (xs.set i x):=by
 obtain⟨cur,hc,hsz,htk⟩:=h.blk
 refine⟨⟨_,zq7 hc _,by simpa using hsz,?_⟩,by simpa using h.le,h.max⟩
 rw [flat_nu] at htk ⊢
 rw [Array.toList_setIfInBounds,List.length_set,List.take_set,htk,List.map_set]
theorem zy4 {w:World}{g cap:Nat}{xs:List Int}(h:RowU w g cap xs)(i j:Nat):RowU ((w.setCell ⟨g,i,none⟩ (.int .u64 (at_ xs j))).setCell ⟨g,j,none⟩ (.int .u64 (at_ xs i))) g cap (swq xs i j):=yw4 (yw4 h i _) j _
theorem zy3 {w:World}{g cap:Nat}{xs:List Int}(h:RowU w g cap xs):RowU w.drew g cap xs:=h.same rfl
theorem zzl {w:World}{g cap:Nat}{xs:List Int}(h:RowU w g cap xs)(n:Nat):RowU (w.drewN n) g cap xs:=h.same rfl
theorem zxy {a b:World}{row:Option Nat}(h:a.grownBy b row)(n:Nat):a.grownBy (b.drewN n) row:=⟨h.os,h.tape,h.output,h.size,h.block⟩

theorem zvo (a:Int)(w:World):Calls Tryz.prog (112) #[.int .u64 a] w fun e w'=>e= .returned (.bool false)/\w=w':=by
 go_enter Tryz.func112,Tryz.ntmps112
 go_wp2
 go_ret
 exact⟨rfl,rfl⟩
theorem zzc {a b:Int}(h:a<b)(w:World):Calls Tryz.prog (123) #[.int .u64 a, .int .u64 b] w fun e w'=>e= .returned (.bool true)/\w'=w:=by
 have hd:decide (a<b)=true:=decide_eq_true h
 clear h
 go_enter Tryz.func123,Tryz.ntmps123
 go_wp2_with(go_at_call 112;refine(zvo _ _).mono ?_;rintro e w' ⟨rfl,rfl⟩)
 go_ret
 exact⟨rfl,rfl⟩
theorem zzb {a b:Int}(h:b<=a)(w:World):Calls Tryz.prog (123) #[.int .u64 a, .int .u64 b] w fun e w'=>e= .returned (.bool false)/\w'=w:=by
 have hd:decide (a<b)=false:=decide_eq_false (by omega)
 clear h
 go_enter Tryz.func123,Tryz.ntmps123
 go_wp2_with(go_at_call 112;refine(zvo _ _).mono ?_;rintro e w' ⟨rfl,rfl⟩)
 go_ret
 exact⟨rfl,rfl⟩

def zqd (a b:Nat)(Q:List Int->Prop)(g cap:Nat)(xs:List Int)(w:World)(e:Ending)(w':World):Prop:=
 e= .returned (.tuple #[])/\ ∃ys,InR a b xs ys/\Q ys/\RowU w' g cap ys/\w.grownBy w' (some g)

set_option maxHeartbeats 2000000 in
theorem yqu (g cap a b N:Nat)(xs:List Int)(hN:xs.length=N)(hbN:b<=N)(w:World)(h:RowU w g cap xs)(hl:N<1000000)(hab:a<=b):
  Calls Tryz.prog (117) #[.slice (some ⟨g,0,none⟩) N cap, .int .i64 a, .int .i64 b] w (zqd a b (SortR a b) g cap xs w):=by
 have H:=zh h
 have HN:=zh hN
 clear h hN
 go_enter Tryz.func117,Tryz.ntmps117
 go_wp2
 go_loopg [6] (b+1 - a) (fun gk iv wr=> ∃(i:Nat) (ys:List Int),i+gk=b+1+1/\a<i/\i<=b+1/\iv= .int .i64 i/\SortR a (min i b) ys/\InR a b xs ys/\RowU wr g cap ys/\w.grownBy wr (some g))
 case atStart=>exact⟨a+1,_,by omega,by omega,by omega,by go_num,SortR.small (by omega) _,InR.refl _ _ _,H.out,zqp _ _⟩
 case round=>
  obtain⟨i,ys,hi,hai,hib,rfl,hs,hr,hR,hg⟩:=hrel
  have HS:=zh hs
  have HR:=zh hR
  have HG:=zh hg
  have HI:=zh hr
  clear hs hR hg hr
  by_cases hlt:i<b
  ·obtain⟨gi,rfl⟩: ∃gi:Nat,gi=gk:=⟨_,rfl⟩
   obtain⟨wo,rfl⟩: ∃wo:World,wo=wr:=⟨_,rfl⟩
   have hin:InsR a i i ys:=by
    have:=HS.out
    rw [show min i b=i from by omega] at this
    exact InsR.start this (by omega)
   have HIN:=zh hin
   clear hin
   go_wp2
   go_loopg [7] i (fun gk jv wr=> ∃(j:Nat) (zs:List Int),gk=j/\a<=j/\j<=i/\jv= .int .i64 j/\InsR a i j zs/\InR a b xs zs/\RowU wr g cap zs/\w.grownBy wr (some g))
   case atStart=>exact⟨i,ys,rfl,by omega,by omega,rfl,HIN.out,HI.out,HR.out,HG.out⟩
   case round=>
    obtain⟨j,zs,hj,haj,hji,rfl,hins,hr2,hR2,hg2⟩:=hrel
    have hzl:zs.length=N:=by rw [hr2.len];exact HN.out
    have HI2:=zh hins
    have HQ2:=zh hr2
    have HR2:=zh hR2
    have HG2:=zh hg2
    by_cases hja:a<j
    ·have c0:=zq5 hR2 j (by omega)
     have d0:=zq5 hR2 (j - 1) (by omega)
     have HZL:=zh hzl
     clear hins hR2 hg2 hr2 hzl
     have hjb:decide (a<j)=true:=by simp;omega
     have hw1:IntKind.i64.wrap ((j:Int) - 1)=(j:Int) - 1:=IntWalk.i64_in _ (by omega)
     have hp1:(0:Int)<=(j:Int) - 1:=by omega
     have hp1':(1:Int)<=(j:Int):=by omega
     have hq1:((j:Int) - 1).toNat=j - 1:=by omega
     have hr1:(j:Int) - 1<(N:Int):=by omega
     have hr2:(j:Int)<(N:Int):=by omega
     by_cases hs:at_ zs j<at_ zs (j - 1)
     ·have HS2:=zh hs
      clear hs
      go_wp2_with fail
      go_quiet ((go_at_call 123;exact Calls.quiet_of_same (zzc HS2.out _)))
      have HRQ:=zh (zzl HR2.out nq)
      have HGQ:=zh (zxy HG2.out nq)
      have c1:=zq5 HRQ.out j (by have:=HZL.out;omega)
      have d1:=zq5 HRQ.out (j - 1) (by have:=HZL.out;omega)
      have f0:=HRQ.out.frozen j
      have g0:=HRQ.out.frozen (j - 1)
      generalize wr.drewN nq=wq at*
      clear c0 d0
      have hne: ¬j=j - 1:=by omega
      go_wp2
      go_region
      clear hw1 hp1 hp1' hq1 hr1 hr2 f0 g0 c1 d1
      go_wp2
      go_roundg(j - 1)
      case measure=>omega
      case rel=>
       have hzl:=HZL.out
       refine⟨j - 1,swq zs j (j - 1),rfl,by omega,by omega,by go_num,InsR.step HI2.out hja (by omega) HS2.out,HQ2.out.trans (InR.swq (by omega) (by omega) (by omega) (by omega) (by omega)),?_,?_⟩
       ·exact zy3 (zy4 HRQ.out j (j - 1))
       ·exact zw8 (zz4 (zz4 HGQ.out _ _) _ _)
     ·have HS2:=zh (Int.not_lt.1 hs)
      clear hs
      go_wp2_with fail
      go_quiet ((go_at_call 123;exact Calls.quiet_of_same (zzb HS2.out _)))
      have HRQ:=zh (zzl HR2.out nq)
      have HGQ:=zh (zxy HG2.out nq)
      clear hw1 hp1 hp1' hq1 hr1 hr2 c0 d0
      go_wp2
      go_roundg(gi - 1)
      case measure=>omega
      case rel=>exact⟨i+1,zs,by omega,by omega,by omega,by go_num,by rw [show min (i+1) b=i+1 from by omega];exact HI2.out.done (.inr HS2.out),HQ2.out,HRQ.out,HGQ.out⟩
    ·have hjb:decide (a<j)=false:=by simp;omega
     clear hins hR2 hg2 hr2 hzl
     have hje:j=a:=by omega
     have HJE:=zh hje
     clear hje
     go_wp2_with fail
     go_quiet (fail)
     have HRQ:=zh (zzl HR2.out nq)
     have HGQ:=zh (zxy HG2.out nq)
     go_wp2
     go_roundg(gi - 1)
     case measure=>omega
     case rel=>exact⟨i+1,zs,by omega,by omega,by omega,by go_num,by rw [show min (i+1) b=i+1 from by omega];exact HI2.out.done (.inl HJE.out),HQ2.out,HRQ.out,HGQ.out⟩
  ·have hie:i=b\/i=b+1:=by omega
   go_wp2
   go_end0
   exact⟨rfl,ys,HI.out,by have:=HS.out;rwa [show min i b=b from by omega] at this,HR.out,HG.out⟩
end Go.Proofs.YtchcelodeepjdaaGreatDoor.Vx

namespace Go.Proofs.YtchcelodeepjdaaGreatDoor.Vx
open Go.RowKit Go.Herb

structure RowSt (g cap:Nat)(w wr:World)(ys:List Int):Prop where
 row:RowU wr g cap ys
 grown:w.grownBy wr (some g)
theorem RowSt.drewN {g cap:Nat}{w wr:World}{ys:List Int}(h:RowSt g cap w wr ys)(n:Nat):RowSt g cap w (wr.drewN n) ys:=⟨zzl h.row n,zxy h.grown n⟩
theorem RowSt.swap {g cap:Nat}{w wr:World}{ys:List Int}(h:RowSt g cap w wr ys)(i j:Nat):RowSt g cap w ((wr.setCell ⟨g,i,none⟩ (.int .u64 (at_ ys j))).setCell ⟨g,j,none⟩ (.int .u64 (at_ ys i))).drew (swq ys i j):=⟨zy3 (zy4 h.row i j),zw8 (zz4 (zz4 h.grown _ _) _ _)⟩

set_option maxHeartbeats 4000000 in
theorem zwv (g cap f lo hi N:Nat)(xs:List Int)(hN:xs.length=N)(hb:f+hi<=N)(hlo:lo<=N)(w:World)(h:RowU w g cap xs)(hl:N<1000000)(hh:HeapR f (lo+1) hi xs):
  Calls Tryz.prog (145) #[.slice (some ⟨g,0,none⟩) N cap, .int .i64 lo, .int .i64 hi, .int .i64 f] w (zqd f (f+hi) (HeapR f lo hi) g cap xs w):=by
 have HS:=zh (SiftR.start hh)
 have H:Hid (RowSt g cap w w xs):=zh ⟨h,zqp _ _⟩
 have HN:=zh hN
 clear h hN hh
 go_enter Tryz.func145,Tryz.ntmps145
 go_wp2
 go_loopg [8] (hi+1) (fun gk rv wr=> ∃(r:Nat) (ys:List Int),r+gk=lo+hi+1/\r<=lo+hi/\rv= .int .i64 r/\Hid (SiftR f lo hi r ys)/\Hid (InR f (f+hi) xs ys)/\RowSt g cap w wr ys)
 case atStart=>exact⟨lo,xs,by omega,by omega,rfl,HS,zh (InR.refl _ _ _),H.out⟩
 case round=>
  obtain⟨r,ys,hr,hrl,rfl,HS2,HI2,hst⟩:=hrel
  clear HS H
  have hyl:ys.length=N:=by rw [HI2.out.len];exact HN.out
  have HST:=zh hst
  have HYL:=zh hyl
  clear hst hyl
  obtain⟨c,hc⟩: ∃c,c=2*r+1:=⟨_,rfl⟩
  have e1:(2:Int)*(r:Int)+1=(c:Int):=by omega
  have HC:=zh hc
  have hrc:r<c:=by omega
  by_cases hch:c<hi
  ·have hch':(c:Int)<(hi:Int):=by omega
   have hgeq:decide ((hi:Int)<=(c:Int))=false:=decide_eq_false (by omega)
   have hgeq2:decide (hi<=c)=false:=decide_eq_false (by omega)
   clear hc
   go_wp2_with fail
   clear e1
   have cc:=zq5 HST.out.row (f+c) (by have:=HYL.out;omega)
   have w1:IntKind.i64.wrap ((c:Int)+1)=(c:Int)+1:=IntWalk.i64_in _ (by omega)
   have w2:IntKind.i64.wrap ((f:Int)+(c:Int))=(f:Int)+(c:Int):=IntWalk.i64_in _ (by omega)
   have p2:(0:Int)<=(f:Int)+(c:Int):=by omega
   have q2:((f:Int)+(c:Int)).toNat=f+c:=by omega
   have r2:(f:Int)+(c:Int)<(N:Int):=by omega
   by_cases h2:c+1<hi
   ·have w3:IntKind.i64.wrap ((f:Int)+(c:Int)+1)=(f:Int)+(c:Int)+1:=IntWalk.i64_in _ (by omega)
    have p3:(0:Int)<=(f:Int)+(c:Int)+1:=by omega
    have q3:((f:Int)+(c:Int)+1).toNat=f+c+1:=by omega
    have r3:(f:Int)+(c:Int)+1<(N:Int):=by omega
    have d2:decide ((c:Int)+1<(hi:Int))=true:=decide_eq_true (by omega)
    have d2':decide (c+1<hi)=true:=decide_eq_true (by omega)
    have h2':(c:Int)+1<(hi:Int):=by omega
    have dd:=zq5 HST.out.row (f+c+1) (by have:=HYL.out;omega)
    by_cases hs:at_ ys (f+c)<at_ ys (f+c+1)
    ·have HL:=zh hs
     clear hs
     go_quiet ((go_at_call 123;exact Calls.quiet_of_same (zzc HL.out _)))
     clear w1 w2 p2 q2 r2 w3 p3 q3 r3 d2 d2' h2' cc dd
     have HST2:=zh (HST.out.drewN nq)
     generalize wr.drewN nq=w3 at*
     clear HST hgeq hgeq2
     go_wp2_with fail
     obtain⟨d,hd⟩: ∃d,d=c+1:=⟨_,rfl⟩
     have e2:(c:Int)+1=(d:Int):=by omega
     rw [e2]
     clear e2
     have HMX:Hid (∀q,q<hi->(q=2*r+1\/q=2*r+2)->at_ ys (f+q)<=at_ ys (f+d)):=zh (fun q hq hq2=>by
      have:=HL.out
      have:=HC.out
      subst hd
      rcases hq2 with hq2|hq2
      ·rw [show q=c by omega];rw [show f+(c+1)=f+c+1 from by omega];omega
      ·rw [show q=c+1 by omega];exact Int.le_refl _)
     have HDC:Hid (d=2*r+1\/d=2*r+2):=zh (by have:=HC.out;omega)
     have hdh:d<hi:=by omega
     have hrd:r<d:=by omega
     clear hd HL HC hrc hch hch' h2
     have cr:=zq5 HST2.out.row (f+r) (by have:=HYL.out;omega)
     have cd:=zq5 HST2.out.row (f+d) (by have:=HYL.out;omega)
     have w1:IntKind.i64.wrap ((f:Int)+(r:Int))=(f:Int)+(r:Int):=IntWalk.i64_in _ (by omega)
     have w2:IntKind.i64.wrap ((f:Int)+(d:Int))=(f:Int)+(d:Int):=IntWalk.i64_in _ (by omega)
     have p1:(0:Int)<=(f:Int)+(r:Int):=by omega
     have p2:(0:Int)<=(f:Int)+(d:Int):=by omega
     have q1:((f:Int)+(r:Int)).toNat=f+r:=by omega
     have q2:((f:Int)+(d:Int)).toNat=f+d:=by omega
     have r1:(f:Int)+(r:Int)<(N:Int):=by omega
     have r2:(f:Int)+(d:Int)<(N:Int):=by omega
     by_cases hs:at_ ys (f+r)<at_ ys (f+d)
     ·have HL2:=zh hs
      clear hs
      go_quiet ((go_at_call 123;exact Calls.quiet_of_same (zzc HL2.out _)))
      clear cr cd
      have HST3:=zh (HST2.out.drewN nq)
      generalize w3.drewN nq=w5 at*
      clear HST2
      go_wp2_with fail
      have cr:=zq5 HST3.out.row (f+r) (by have:=HYL.out;omega)
      have cd:=zq5 HST3.out.row (f+d) (by have:=HYL.out;omega)
      have f0:=HST3.out.row.frozen (f+r)
      have g0:=HST3.out.row.frozen (f+d)
      have hne: ¬f+r=f+d:=by omega
      go_region
      clear w1 w2 p1 p2 q1 q2 r1 r2 cr cd f0 g0 hne
      go_wp2
      go_roundg(lo+hi+1 - d)
      case measure=>omega
      case rel=>exact⟨d,swq ys (f+r) (f+d),by omega,by omega,rfl,zh (HS2.out.step HDC.out hdh (by have:=HYL.out;omega) HL2.out HMX.out),zh (HI2.out.trans (InR.swq (by have:=HYL.out;omega) (by omega) (by omega) (by omega) (by omega))),HST3.out.swap (f+r) (f+d)⟩
     ·have HL2:=zh (Int.not_lt.1 hs)
      clear hs
      go_quiet ((go_at_call 123;exact Calls.quiet_of_same (zzb HL2.out _)))
      clear cr cd w1 w2 p1 p2 q1 q2 r1 r2
      have HST3:=zh (HST2.out.drewN nq)
      generalize w3.drewN nq=w5 at*
      clear HST2
      go_wp2_with fail
      go_end0
      exact⟨rfl,ys,HI2.out,HS2.out.done (fun q hq hq2=>Int.le_trans (HMX.out q hq hq2) HL2.out),HST3.out.row,HST3.out.grown⟩
    ·have HL:=zh (Int.not_lt.1 hs)
     clear hs
     go_quiet ((go_at_call 123;exact Calls.quiet_of_same (zzb HL.out _)))
     clear w1 w2 p2 q2 r2 w3 p3 q3 r3 d2 d2' h2' cc dd
     have HST2:=zh (HST.out.drewN nq)
     generalize wr.drewN nq=w3 at*
     clear HST hgeq hgeq2
     go_wp2_with fail
     obtain⟨d,rfl⟩: ∃d,d=c:=⟨_,rfl⟩
     have HMX:Hid (∀q,q<hi->(q=2*r+1\/q=2*r+2)->at_ ys (f+q)<=at_ ys (f+d)):=zh (fun q hq hq2=>by
      have:=HL.out
      have:=HC.out
      rcases hq2 with hq2|hq2
      ·rw [show q=d by omega];exact Int.le_refl _
      ·rw [show q=d+1 by omega];rw [show f+(d+1)=f+d+1 from by omega];omega)
     have HDC:Hid (d=2*r+1\/d=2*r+2):=zh (by have:=HC.out;omega)
     have hdh:d<hi:=by omega
     have hrd:r<d:=by omega
     clear HL HC hrc hch hch' h2
     have cr:=zq5 HST2.out.row (f+r) (by have:=HYL.out;omega)
     have cd:=zq5 HST2.out.row (f+d) (by have:=HYL.out;omega)
     have w1:IntKind.i64.wrap ((f:Int)+(r:Int))=(f:Int)+(r:Int):=IntWalk.i64_in _ (by omega)
     have w2:IntKind.i64.wrap ((f:Int)+(d:Int))=(f:Int)+(d:Int):=IntWalk.i64_in _ (by omega)
     have p1:(0:Int)<=(f:Int)+(r:Int):=by omega
     have p2:(0:Int)<=(f:Int)+(d:Int):=by omega
     have q1:((f:Int)+(r:Int)).toNat=f+r:=by omega
     have q2:((f:Int)+(d:Int)).toNat=f+d:=by omega
     have r1:(f:Int)+(r:Int)<(N:Int):=by omega
     have r2:(f:Int)+(d:Int)<(N:Int):=by omega
     by_cases hs:at_ ys (f+r)<at_ ys (f+d)
     ·have HL2:=zh hs
      clear hs
      go_quiet ((go_at_call 123;exact Calls.quiet_of_same (zzc HL2.out _)))
      clear cr cd
      have HST3:=zh (HST2.out.drewN nq)
      generalize w3.drewN nq=w5 at*
      clear HST2
      go_wp2_with fail
      have cr:=zq5 HST3.out.row (f+r) (by have:=HYL.out;omega)
      have cd:=zq5 HST3.out.row (f+d) (by have:=HYL.out;omega)
      have f0:=HST3.out.row.frozen (f+r)
      have g0:=HST3.out.row.frozen (f+d)
      have hne: ¬f+r=f+d:=by omega
      go_region
      clear w1 w2 p1 p2 q1 q2 r1 r2 cr cd f0 g0 hne
      go_wp2
      go_roundg(lo+hi+1 - d)
      case measure=>omega
      case rel=>exact⟨d,swq ys (f+r) (f+d),by omega,by omega,rfl,zh (HS2.out.step HDC.out hdh (by have:=HYL.out;omega) HL2.out HMX.out),zh (HI2.out.trans (InR.swq (by have:=HYL.out;omega) (by omega) (by omega) (by omega) (by omega))),HST3.out.swap (f+r) (f+d)⟩
     ·have HL2:=zh (Int.not_lt.1 hs)
      clear hs
      go_quiet ((go_at_call 123;exact Calls.quiet_of_same (zzb HL2.out _)))
      clear cr cd w1 w2 p1 p2 q1 q2 r1 r2
      have HST3:=zh (HST2.out.drewN nq)
      generalize w3.drewN nq=w5 at*
      clear HST2
      go_wp2_with fail
      go_end0
      exact⟨rfl,ys,HI2.out,HS2.out.done (fun q hq hq2=>Int.le_trans (HMX.out q hq hq2) HL2.out),HST3.out.row,HST3.out.grown⟩
   ·have d2:decide ((c:Int)+1<(hi:Int))=false:=decide_eq_false (by omega)
    have d2':decide (c+1<hi)=false:=decide_eq_false (by omega)
    go_quiet (fail)
    clear w1 w2 p2 q2 r2 d2 d2' cc
    have HST2:=zh (HST.out.drewN nq)
    generalize wr.drewN nq=w3 at*
    clear HST hgeq hgeq2
    go_wp2_with fail
    obtain⟨d,rfl⟩: ∃d,d=c:=⟨_,rfl⟩
    have HMX:Hid (∀q,q<hi->(q=2*r+1\/q=2*r+2)->at_ ys (f+q)<=at_ ys (f+d)):=zh (fun q hq hq2=>by
     have:=HC.out
     rcases hq2 with hq2|hq2
     ·rw [show q=d by omega];exact Int.le_refl _
     ·omega)
    have HDC:Hid (d=2*r+1\/d=2*r+2):=zh (by have:=HC.out;omega)
    have hdh:d<hi:=by omega
    have hrd:r<d:=by omega
    clear HC hrc hch hch' h2
    have cr:=zq5 HST2.out.row (f+r) (by have:=HYL.out;omega)
    have cd:=zq5 HST2.out.row (f+d) (by have:=HYL.out;omega)
    have w1:IntKind.i64.wrap ((f:Int)+(r:Int))=(f:Int)+(r:Int):=IntWalk.i64_in _ (by omega)
    have w2:IntKind.i64.wrap ((f:Int)+(d:Int))=(f:Int)+(d:Int):=IntWalk.i64_in _ (by omega)
    have p1:(0:Int)<=(f:Int)+(r:Int):=by omega
    have p2:(0:Int)<=(f:Int)+(d:Int):=by omega
    have q1:((f:Int)+(r:Int)).toNat=f+r:=by omega
    have q2:((f:Int)+(d:Int)).toNat=f+d:=by omega
    have r1:(f:Int)+(r:Int)<(N:Int):=by omega
    have r2:(f:Int)+(d:Int)<(N:Int):=by omega
    by_cases hs:at_ ys (f+r)<at_ ys (f+d)
    ·have HL2:=zh hs
     clear hs
     go_quiet ((go_at_call 123;exact Calls.quiet_of_same (zzc HL2.out _)))
     clear cr cd
     have HST3:=zh (HST2.out.drewN nq)
     generalize w3.drewN nq=w5 at*
     clear HST2
     go_wp2_with fail
     have cr:=zq5 HST3.out.row (f+r) (by have:=HYL.out;omega)
     have cd:=zq5 HST3.out.row (f+d) (by have:=HYL.out;omega)
     have f0:=HST3.out.row.frozen (f+r)
     have g0:=HST3.out.row.frozen (f+d)
     have hne: ¬f+r=f+d:=by omega
     go_region
     clear w1 w2 p1 p2 q1 q2 r1 r2 cr cd f0 g0 hne
     go_wp2
     go_roundg(lo+hi+1 - d)
     case measure=>omega
     case rel=>exact⟨d,swq ys (f+r) (f+d),by omega,by omega,rfl,zh (HS2.out.step HDC.out hdh (by have:=HYL.out;omega) HL2.out HMX.out),zh (HI2.out.trans (InR.swq (by have:=HYL.out;omega) (by omega) (by omega) (by omega) (by omega))),HST3.out.swap (f+r) (f+d)⟩
    ·have HL2:=zh (Int.not_lt.1 hs)
     clear hs
     go_quiet ((go_at_call 123;exact Calls.quiet_of_same (zzb HL2.out _)))
     clear cr cd w1 w2 p1 p2 q1 q2 r1 r2
     have HST3:=zh (HST2.out.drewN nq)
     generalize w3.drewN nq=w5 at*
     clear HST2
     go_wp2_with fail
     go_end0
     exact⟨rfl,ys,HI2.out,HS2.out.done (fun q hq hq2=>Int.le_trans (HMX.out q hq hq2) HL2.out),HST3.out.row,HST3.out.grown⟩
  ·have hgeq:decide ((hi:Int)<=(c:Int))=true:=decide_eq_true (by omega)
   have hgeq2:decide (hi<=c)=true:=decide_eq_true (by omega)
   clear hc
   go_wp2_with fail
   clear e1
   go_end0
   exact⟨rfl,ys,HI2.out,HS2.out.done (fun q hq hq2=>by have:=HC.out;omega),HST.out.row,HST.out.grown⟩
end Go.Proofs.YtchcelodeepjdaaGreatDoor.Vx
