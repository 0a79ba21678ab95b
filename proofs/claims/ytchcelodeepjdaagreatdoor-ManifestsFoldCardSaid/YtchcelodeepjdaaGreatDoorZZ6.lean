/- Lemmas and walks towards ManifestsFold. Conditions: each one tells its own. -/
import Derived.Test.YtchcelodeepjdaaGreatDoorMp
import Derived.Test.YtchcelodeepjdaaGreatDoorZZ1
import Derived.Test.YtchcelodeepjdaaGreatDoorZZs
import Derived.Test.YtchcelodeepjdaaGreatDoorZZg
import Derived.Test.YtchcelodeepjdaaGreatDoorZZF
namespace Go.Proofs.YtchcelodeepjdaaGreatDoor.Ln
open Go.RowKit Go.Shelf Go.Herb
def Lk {β:Type}(f0:Bool)(R:Option β)(f:Bool)(K:List Int->Option β)(zs:List Int):Prop:=(f=false->f0=false/\R=K zs)/\(f=true->f0=true\/R=none)
theorem Lk.zero {β:Type}(f0:Bool)(K:List Int->Option β)(ys:List Int):Lk f0 (K ys) f0 K ys:=⟨fun h=>⟨h,rfl⟩,fun h=> .inl h⟩
theorem Lk.step {α β:Type}{f0 f f':Bool}{R:Option β}{K:List Int->Option β}{zs zs':List Int}{p:Ps α}{K':α->List Int->Option β}{x:α}(h:Lk f0 R f K zs)(hK: ∀l,K l=match p l with|none=>none|some (x,r)=>K' x r)(h1:f'=false->f=false/\p zs=some (x,zs'))(h2:f'=true->f=true\/p zs=none):Lk f0 R f' (K' x) zs':=by
 refine⟨fun e=> ?_,fun e=> ?_⟩
 ·obtain⟨e1,e2⟩:=h1 e
  obtain⟨e3,e4⟩:=h.1 e1
  exact⟨e3,by rw [e4,hK,e2]⟩
 ·cases hf:f with
  |true=>exact h.2 hf
  |false=>
   rcases h2 e with e1|e1
   ·rw [hf] at e1;cases e1
   ·exact .inr (by rw [(h.1 hf).2,hK,e1])
def restP {α β:Type}(p:Ps α)(K2:List α->List Int->Option β)(m:Nat)(xs:List α):List Int->Option β:=fun zs=>match repP p m zs with|none=>none|some (l,r)=>K2 (xs++l) r
theorem Lk.many {α β:Type}{f0 f f':Bool}{R:Option β}{K:List Int->Option β}{zs zs':List Int}{p:Ps α}{K2:List α->List Int->Option β}{m:Nat}(h:Lk f0 R f K zs)(hK: ∀l,K l=match manyP p l with|none=>none|some (x,r)=>K2 x r)(h1:f'=false->f=false/\manyN zs=some (m,zs'))(h2:f'=true->f=true\/manyN zs=none):Lk f0 R f' (restP p K2 m []) zs':=
 h.step (p:=manyN) (K':=fun m=>restP p K2 m []) (fun l=>by
  rw [hK]
  cases hg:manyN l with
  |none=>rw [zxr p hg]
  |some q=>rw [zxq p hg];rfl) h1 h2
theorem Lk.round {α β:Type}{f0 f f':Bool}{R:Option β}{zs zs':List Int}{p:Ps α}{K2:List α->List Int->Option β}{m m':Nat}{xs:List α}{x:α}(h:Lk f0 R f (restP p K2 m xs) zs)(hm:m=m'+1)(h1:f'=false->f=false/\p zs=some (x,zs'))(h2:f'=true->f=true\/p zs=none):Lk f0 R f' (restP p K2 m' (xs++ [x])) zs':=by
 subst hm
 refine h.step (p:=p) (K':=fun x=>restP p K2 m' (xs++ [x])) (fun l=> ?_) h1 h2
 unfold restP
 rw [zja]
 cases p l with
 |none=>rfl
 |some q=>
  obtain⟨y,r⟩:=q
  simp only
  cases repP p m' r with
  |none=>rfl
  |some q2=>simp
theorem Lk.done {α β:Type}{f0 f:Bool}{R:Option β}{zs:List Int}{p:Ps α}{K2:List α->List Int->Option β}{xs:List α}(h:Lk f0 R f (restP p K2 0 xs) zs):Lk f0 R f (K2 xs) zs:=⟨fun e=>by
 obtain⟨e1,e2⟩:=h.1 e
 refine⟨e1,e2.trans ?_⟩
 unfold restP repP
 simp,h.2⟩
theorem Lk.fin {α:Type}{f0 f:Bool}{R:Option (α × List Int)}{zs:List Int}{x:α}(h:Lk f0 R f (fun l=>some (x,l)) zs):(f=false->f0=false/\R=some (x,zs))/\(f=true->f0=true\/R=none):=h
theorem RS.to {R R':RdR}{p B bx:Nat}{w u u':World}{ys zs:List Int}{cs:Array Value}{t:TypeId}(h:RS R p B w u ys bx cs t)(k:RdK R')(ht:TurnI p u u')(hr:R' u' p B zs):RS R' p B w u' zs bx cs t:=
 ⟨hr,ht.kept bx _ h.box (by have:=h.hp;have:=h.hb;omega),h.turn.trans ht,h.hp,h.hb,k⟩
theorem zqn.to {R R':RdR}{p B:Nat}{w u u':World}{zs zs':List Int}{sq lg nx:Int}{nb nl nv:Nat}{ba la va:Option Addr}{bc lc vC:Nat}{bs:List Br}{ls:List Ln}{vs:List Vx.Vc}(h:zqn R p B w u zs sq lg nx nb nl nv ba bc la lc va vC bs ls vs)(k:RdK R')(ht:TurnI p u u')(hr:R' u' p B zs'):zqn R' p B w u' zs' sq lg nx nb nl nv ba bc la lc va vC bs ls vs:=
 ⟨h.rs.to k ht hr,h.lb,h.ll,h.lv,zqf h.ob ht h.rs.hp,zqf h.ol ht h.rs.hp,zqf h.ov ht h.rs.hp,fun v hv=>zqf (h.op v hv) ht h.rs.hp,h.wb,h.wl,h.wv⟩
theorem zqb {A:World}{b:Nat}{v0 v1 v2 v3 v4 v5 v6:Value}{t:TypeId}{fr:Nat × Nat}(hq:A.heap[b]? =some (.cells #[v0,v1,v2,v3,v4,v5,v6] t fr)):
  A.cell? ⟨b,0,none⟩=some v0/\A.cell? ⟨b,1,none⟩=some v1/\A.cell? ⟨b,2,none⟩=some v2/\A.cell? ⟨b,3,none⟩=some v3/\A.cell? ⟨b,4,none⟩=some v4/\A.cell? ⟨b,5,none⟩=some v5/\A.cell? ⟨b,6,none⟩=some v6:=by
 have q0:=zq0 hq 0
 have q1:=zq0 hq 1
 have q2:=zq0 hq 2
 have q3:=zq0 hq 3
 have q4:=zq0 hq 4
 have q5:=zq0 hq 5
 have q6:=zq0 hq 6
 simp at q0 q1 q2 q3 q4 q5 q6
 exact⟨q0,q1,q2,q3,q4,q5,q6⟩
structure CpSt (g:Bool)(p B:Nat)(w:World)(zs:List Int)(M:Nat)(r:Rv)(u:World)(cs:Array Value):Prop where
 box:u.heap[w.heap.size]? =some (.cells cs (32) (0,0))
 own:RtOwn M u r
 read:TkAt g u p B zs
 turn:TurnI p w u
 hp:p<w.heap.size
theorem CpSt.set {g:Bool}{p B M:Nat}{w u:World}{zs:List Int}{r:Rv}{cs:Array Value}(h:CpSt g p B w zs M r u cs)(j:Nat)(v:Value)(cs':Array Value)(hc:cs.setIfInBounds j v=cs'):CpSt g p B w zs M r (u.setCell ⟨w.heap.size,j,none⟩ v) cs':=
 ⟨by rw [<-hc];exact zq7 h.box v,h.own.set h.box v,(takeK g).kept h.read (fun k o ho hk=>blk_setCell_other ho (show k≠w.heap.size by have:=h.read.low;have:=h.hp;omega) v),ywb h.turn zr v,h.hp⟩
theorem CpSt.name {g:Bool}{p B M:Nat}{w u:World}{zs:List Int}{r:Rv}{cs:Array Value}(_:CpSt g p B w zs M r u cs): ∃Z,Z=u:=⟨u,rfl⟩
theorem br_soft {g g1 g2 g3:Bool}{zs y1 y2 y3:List Int}{s:ByteArray}{a b:Nat}(h1:g1=false->g=false/\getT zs=some (s,y1))(k1:g1=true->g=true\/getT zs=none)(h2:g2=false->g1=false/\getN y1=some (a,y2))(k2:g2=true->g1=true\/getN y1=none)(h3:g3=false->g2=false/\getN y2=some (b,y3))(k3:g3=true->g2=true\/getN y2=none):Lk g (brP zs) g3 (fun l=>some ((s,(a:Int),(b:Int)),l)) y3:=
 (((Lk.zero g brP zs).step (p:=getT) (K':=fun s l1=>match getN l1 with
  |none=>none
  |some (a,l2)=>match getN l2 with
   |none=>none
   |some (b,l3)=>some ((s,(a:Int),(b:Int)),l3)) (fun l=>by unfold brP;rcases getT l with _|⟨x,r⟩<;>rfl) h1 k1).step (p:=getN) (K':=fun a l2=>match getN l2 with
   |none=>none
   |some (b,l3)=>some ((s,(a:Int),(b:Int)),l3)) (fun l=>by rcases getN l with _|⟨x,r⟩<;>rfl) h2 k2).step (p:=getN) (K':=fun b l=>some ((s,(a:Int),(b:Int)),l)) (fun l=>by rcases getN l with _|⟨x,r⟩<;>rfl) h3 k3
theorem yyb {g g1 g2:Bool}{zs y1 y2:List Int}{a b:Nat}(h1:g1=false->g=false/\getN zs=some (a,y1))(k1:g1=true->g=true\/getN zs=none)(h2:g2=false->g1=false/\getN y1=some (b,y2))(k2:g2=true->g1=true\/getN y1=none):Lk g (lnP zs) g2 (fun l=>some (((a:Int),(b:Int)),l)) y2:=
 ((Lk.zero g lnP zs).step (p:=getN) (K':=fun a l1=>match getN l1 with
  |none=>none
  |some (b,l2)=>some (((a:Int),(b:Int)),l2)) (fun l=>by unfold lnP;rcases getN l with _|⟨x,r⟩<;>rfl) h1 k1).step (p:=getN) (K':=fun b l=>some (((a:Int),(b:Int)),l)) (fun l=>by rcases getN l with _|⟨x,r⟩<;>rfl) h2 k2
end Go.Proofs.YtchcelodeepjdaaGreatDoor.Ln

namespace Go.Proofs.YtchcelodeepjdaaGreatDoor.Ln
open Go.RowKit Go.Shelf Go.Herb
theorem Lk.off {β:Type}{f0:Bool}{R:Option β}{K K':List Int->Option β}{zs zs':List Int}(h:Lk f0 R true K zs):Lk f0 R true K' zs':=⟨(fun e=>by cases e),fun _=>h.2 rfl⟩
def chkP (b:Nat):Ps Unit:=fun l=>if b<=4294967295 then some ((),l)else none
theorem tb_soft {g g1 g2 g3 g4 g5:Bool}{zs y1 y2 y3 y4:List Int}{fl b:Nat}{b':Int}{lo hi:ByteArray}(h1:g1=false->g=false/\getN zs=some (fl,y1))(k1:g1=true->g=true\/getN zs=none)(h2:g2=false->g1=false/\getN y1=some (b,y2))(k2:g2=true->g1=true\/getN y1=none)(h3:g3=false->g2=false/\chkP b y2=some ((),y2))(k3:g3=true->g2=true\/chkP b y2=none)
  (h4:g4=false->g3=false/\getT y2=some (lo,y3)) (k4:g4=true->g3=true\/getT y2=none) (h5:g5=false->g4=false/\getT y3=some (hi,y4)) (k5:g5=true->g4=true\/getT y3=none) (hb:b<=4294967295->b'=(b:Int)):Lk g (tbP zs) g5 (fun l=>some ((⟨(fl:Int),b',lo,hi⟩:Tb),l)) y4:=by
 have s1:=(Lk.zero g tbP zs).step (p:=getN) (K':=fun fl l1=>match getN l1 with
  |none=>none
  |some (b,l2)=>if b<=4294967295 then(match getT l2 with
   |none=>none
   |some (lo,l3)=>match getT l3 with
    |none=>none
    |some (hi,l4)=>some ((⟨(fl:Int),(b:Int),lo,hi⟩:Tb),l4))else none) (fun l=>by unfold tbP;rcases getN l with _|⟨x,r⟩<;>rfl) h1 k1
 have s2:=s1.step (p:=getN) (K':=fun b l2=>if b<=4294967295 then(match getT l2 with
   |none=>none
   |some (lo,l3)=>match getT l3 with
    |none=>none
    |some (hi,l4)=>some ((⟨(fl:Int),(b:Int),lo,hi⟩:Tb),l4))else none) (fun l=>by rcases getN l with _|⟨x,r⟩<;>rfl) h2 k2
 have s3:=s2.step (p:=chkP b) (K':=fun _ l2=>match getT l2 with
   |none=>none
   |some (lo,l3)=>match getT l3 with
    |none=>none
    |some (hi,l4)=>some ((⟨(fl:Int),(b:Int),lo,hi⟩:Tb),l4)) (fun l=>by unfold chkP;by_cases h:b<=4294967295<;>simp [h]) h3 k3
 have s4:=s3.step (p:=getT) (K':=fun lo l3=>match getT l3 with
    |none=>none
    |some (hi,l4)=>some ((⟨(fl:Int),(b:Int),lo,hi⟩:Tb),l4)) (fun l=>by rcases getT l with _|⟨x,r⟩<;>rfl) h4 k4
 have s5:=s4.step (p:=getT) (K':=fun hi l4=>some ((⟨(fl:Int),(b:Int),lo,hi⟩:Tb),l4)) (fun l=>by rcases getT l with _|⟨x,r⟩<;>rfl) h5 k5
 by_cases h:b<=4294967295
 ·rw [hb h];exact s5
 ·have e:g5=true:=by
   cases hg:g5 with
   |true=>rfl
   |false=>
    have e3:=(h3 (h4 (h5 hg).1).1).2
    unfold chkP at e3
    rw [if_neg h] at e3
    cases e3
  subst e
  exact Lk.off s5
theorem zko {f:Bool}{w:World}{p B:Nat}{ys:List Int}(h:TkAt f w p B ys):w.cell? ⟨p,1,none⟩=some (.bool f)/\w.frozen? ⟨p,1,none⟩=false:=by
 obtain⟨a,cap,h1, -⟩:=h.blk
 have c1:=zq0 h1 1
 simp at c1
 exact⟨c1,zq1 h1 1⟩
theorem RdS.to {R R':RdR}{p B c k:Nat}{w u u':World}{zs zs':List Int}{a:Option Addr}{xs:List Sv}(h:RdS R p B w u zs a c k xs)(r:RdK R')(ht:TurnI p u u')(hr:R' u' p B zs'):RdS R' p B w u' zs' a c k xs:=
 ⟨hr,h.turn.trans ht,h.hp,h.len,zqf h.own ht h.hp,fun s hs l hl=>zqf (h.lev s hs l hl) ht h.hp,h.wf,r⟩
theorem LvS.to {R R':RdR}{p B bb i:Nat}{w5 u u':World}{zs zs':List Int}{s:Sv}(h:LvS R p B w5 u zs bb s i)(r:RdK R')(ht:TurnI p u u')(hr:R' u' p B zs'):LvS R' p B w5 u' zs' bb s i:=
 ⟨h.rs.to r ht hr,fun l hl=>zqf (h.own l hl) ht h.rs.hp,h.wf,h.rest⟩
theorem LvS.level2 {R R':RdR}{p B bb i k c:Nat}{w5 w6 u:World}{zs zs6:List Int}{s:Sv}{a:Option Addr}{ts:List Tb}(h6:LvS R p B w5 w6 zs6 bb s i)(hi:i<3)(h:RS R' p B w5 u zs bb (shc (s.set i ⟨a,c,ts⟩)).toArray (57))(ho:OwnT w6.heap.size u (.slice a k c) ts)(hl:ts.length=k)(ht:T2 p bb w6 u)(hw: ∀t∈ts,TbW t):LvS R' p B w5 u zs bb (s.set i ⟨a,c,ts⟩) (i+1):=by
 have hm: ∀l∈(s.set i ⟨a,c,ts⟩).lv,l=⟨a,c,ts⟩\/l∈s.lv:=fun l hl=>by
  rw [Sv.set_lv s i hi] at hl
  exact(List.mem_or_eq_of_mem_set hl).symm
 refine⟨h,fun l hl'=> ?_,fun l hl'=> ?_,fun j h1 h2=> ?_⟩
 ·rcases hm l hl' with rfl|h1
  ·show OwnT w5.heap.size u (.slice a ts.length c) ts
   rw [hl]
   exact zq9 ho h6.rs.turn.size
  ·exact own_t2 (h6.own l h1) ht h6.rs.hp h6.rs.box (by decide)
 ·rcases hm l hl' with rfl|h1
  ·exact hw
  ·exact h6.wf l h1
 ·rw [Sv.set_other s i j hi _ (by omega)]
  exact h6.rest j (by omega) h2
set_option maxRecDepth 100000 in
set_option maxHeartbeats 4000000 in
theorem zjt (f:Bool)(p B:Nat)(ys:List Int)(w:World)(h:TkAt f w p B ys)(hyl:ys.length<1000000):
  Calls Tryz.prog (66) #[.pointer (some ⟨p,0,none⟩)] w (zvf p B f ys w (shP ys) (fun x v w'=>yqf w.heap.size x v w'/\x.length<=ys.length)):=by
 have HM:=zh (zxb f p B ys w h)
 have HYL:=zh hyl
 have hMp:=h.lt
 clear h hyl
 go_enter Tryz.func66,Tryz.ntmps66
 go_wp2_with fail
 refine HM.out.mono ?_
 rintro e w1 ⟨hT,f1,z1,n,v,rfl,⟨rfl,hnl⟩,hR,hle,hg,hb⟩
 have HK1:=zh ((Lk.zero f shP ys).many (p:=sdP) (K2:=fun xs l=>some (xs,l)) (fun l=>by unfold shP;rcases manyP sdP l with _|⟨x,r⟩<;>rfl) hg hb)
 have HS1:=zh (show RdS (TkAt f1) p B w w1 z1 none 0 0 [] from⟨hR,hT,hMp,rfl,World.ownsRow_nil _ _ _ _,(fun s hs=>by cases hs),(fun s hs=>by cases hs),takeK f1⟩)
 have HL1:=zh hle
 have HNL:=zh hnl
 have hn1:n<1000000:=Nat.lt_of_le_of_lt hnl HYL.out
 clear hT hg hb hR hle hnl HM
 go_upto_region 4 with fail
 go_loopg [5,3] n (fun gk iv v3 wr=> ∃(k c:Nat) (xs:List Sv) (zs:List Int) (a:Option Addr) (g:Bool),k+gk=n/\iv= .int .i64 k/\v3= .slice a k c/\Hid (Lk f (shP ys) g (restP sdP (fun xs l=>some (xs,l)) gk (xs.map Sv.says)) zs)/\Hid (RdS (TkAt g) p B w wr zs a c k xs)/\Hid (zs.length<=ys.length))
 case atStart=>exact⟨0,0, [],z1,none,f1,by omega,rfl,rfl,HK1,HS1,HL1⟩
 case round=>
  obtain⟨k,c,xs,zs,a,g,hk,rfl,rfl,HLK,HS,HZS⟩:=hrel
  have hfc:=(zko HS.out.read).1
  by_cases hgo:k<n/\g=false
  ·obtain⟨hlt,hgf⟩:=hgo
   rw [hgf] at hfc
   clear hgf
   have HTX:=zh (zqi g p B zs wr HS.out.read)
   have i1:(k:Int)<(n:Int):=by omega
   have hw1:IntKind.i64.wrap ((k:Int)+1)=(k:Int)+1:=IntWalk.i64_in _ (by omega)
   have HGK:=zh (show gk=gk - 1+1 from by omega)
   go_wp2_with fail
   refine HTX.out.mono ?_
   rintro e w5 ⟨hT,g1,y1,a1,v,rfl,⟨rfl,hf⟩,hR,hle,hg,hb⟩
   have HS6:=zh (RdS.to HS.out (takeK g1) hT hR)
   have HUA:=zh (zx7 hf)
   have HSD:=zh ((Lk.zero g sdP zs).step (p:=getN) (K':=fun a=>restP levP (fun lv l2=>some ((⟨(a:Int),lv⟩:Sd),l2)) 3 []) (fun l=>by
    unfold sdP restP
    rcases getN l with _|⟨x,r⟩
    ·rfl
    ·show(match repP levP 3 r with
      |none=>none
      |some (lv,l2)=>some ((⟨(x:Int),lv⟩:Sd),l2))=_
     simp only
     rcases repP levP 3 r with _|⟨y,q⟩<;>rfl) hg hb)
   have HLE1:=zh (Nat.le_trans hle HZS.out)
   obtain⟨A,hA⟩: ∃A:World,A=w5.alloc (.cells #[.int .u64 (a1:Int), .slice none 0 0, .slice none 0 0, .slice none 0 0] (57)):=⟨_,rfl⟩
   have HL0:=zh (show LvS (TkAt g1) p B w5 A y1 w5.heap.size ⟨(a1:Int),⟨none,0, []⟩,⟨none,0, []⟩,⟨none,0, []⟩⟩ 0 from⟨⟨by rw [hA];exact(takeK g1).ext hR (zb.alloc zr _),by rw [hA];exact zq3 rfl _,by rw [hA];exact TurnI.of_below (zb.alloc zr _),hR.lt,zr,takeK g1⟩,(fun l hl=>by
    simp only [Sv.lv,List.mem_cons,List.not_mem_nil,or_false] at hl
    rcases hl with rfl|rfl|rfl<;>exact World.ownsRow_nil _ _ _ _),(fun l hl t ht=>by
    simp only [Sv.lv,List.mem_cons,List.not_mem_nil,or_false] at hl
    rcases hl with rfl|rfl|rfl<;>cases ht),fun j h1 h2=>by
    match j,h2 with
    |0,_=>rfl
    |1,_=>rfl
    |2,_=>rfl⟩)
   have HA:=zh hA
   clear hT hg hb hf hR hle HTX hfc
   obtain⟨g9,hg9⟩: ∃g9,g9=gk:=⟨_,rfl⟩
   rw [<-hg9] at hk HGK HLK
   have HG9:=zh hg9
   clear hg9
   go_upto_region 8 with fail
   rw [<-hA]
   clear hA
   go_loopg [7] 3 (fun gk iv wr=> ∃(i:Nat) (s:Sv) (zs':List Int) (g':Bool),i+gk=3/\iv= .int .i64 i/\Hid (Lk g (sdP zs) g' (restP levP (fun lv l2=>some ((⟨(a1:Int),lv⟩:Sd),l2)) gk ((s.lv.take i).map (·.ts))) zs')/\Hid (LvS (TkAt g') p B w5 wr zs' w5.heap.size s i)/\Hid (s.line=(a1:Int))/\Hid (zs'.length<=ys.length))
   case atStart=>exact⟨0,_,y1,g1,rfl,rfl,HSD,HL0,zh rfl,HLE1⟩
   case round=>
    obtain⟨i,s,zs',g',hi,rfl,HLL,HL,HLI,HZL⟩:=hrel
    by_cases hlti:i<3
    ·have HMI:=zh (zxb g' p B zs' wr HL.out.rs.read)
     have j1:(i:Int)<3:=by omega
     have j0:(0:Int)<=(i:Int):=by omega
     have hw2:IntKind.i64.wrap ((i:Int)+1)=(i:Int)+1:=IntWalk.i64_in _ (by omega)
     go_wp2_with fail
     refine HMI.out.mono ?_
     rintro e w6 ⟨hT,g6,z6,m,v,rfl,⟨rfl,hml⟩,hR,hle,hg,hb⟩
     have HL6:=zh (LvS.to HL.out (takeK g6) hT hR)
     have HLV0:=zh ((Lk.zero g' levP zs').many (p:=tbP) (K2:=fun ts l=>some (ts,l)) (fun l=>by unfold levP;rcases manyP tbP l with _|⟨x,r⟩<;>rfl) hg hb)
     have HLE6:=zh (Nat.le_trans hle HZL.out)
     have hm1:m<1000000:=Nat.lt_of_le_of_lt (Nat.le_trans hml HZL.out) HYL.out
     clear hT hg hb hR hle hml HMI
     obtain⟨g8,hg8⟩: ∃g8,g8=gk:=⟨_,rfl⟩
     rw [<-hg8] at hi HLL
     have HG8:=zh hg8
     clear hg8
     have HI3:=zh hlti
     have hp6:p<w6.heap.size:=Nat.lt_of_lt_of_le HL6.out.rs.hp HL6.out.rs.turn.size
     go_upto_region 12 with fail
     go_loopg [9] m (fun gk iv wr=> ∃(t ct:Nat) (ts:List Tb) (zt:List Int) (at_:Option Addr) (g'':Bool),t+gk=m/\iv= .int .i64 t/\Hid (Lk g' (levP zs') g'' (restP tbP (fun ts l=>some (ts,l)) gk ts) zt)/\Hid (ts.length=t)/\Hid (RS (TkAt g'') p B w5 wr zt w5.heap.size (shc (s.set i ⟨at_,ct,ts⟩)).toArray (57))/\Hid (OwnT w6.heap.size wr (.slice at_ t ct) ts)/\Hid (T2 p w5.heap.size w6 wr)/\Hid (∀t∈ts,TbW t)/\Hid (zt.length<=ys.length))
     case atStart=>exact⟨0,0, [],z6,none,g6,by omega,rfl,HLV0,zh rfl,zh (by rw [Sv.set_same s i HI3.out _ (HL6.out.rest i zr HI3.out)];exact HL6.out.rs),zh (World.ownsRow_nil _ _ _ _),zh (T2.refl _ _ _),zh (fun t ht=>by cases ht),HLE6⟩
     case round=>
      obtain⟨t,ct,ts,zt,at_,g'',ht,rfl,HSP,HTL,HI,HOT,HT2,HTW,HZT⟩:=hrel
      have hfc:=(zko HI.out.read).1
      by_cases hgo:t<m/\g''=false
      ·obtain⟨hltt,hgf⟩:=hgo
       rw [hgf] at hfc
       clear hgf
       have l1:(t:Int)<(m:Int):=by omega
       have hw3:IntKind.i64.wrap ((t:Int)+1)=(t:Int)+1:=IntWalk.i64_in _ (by omega)
       have htm:t<1000000:=by omega
       have HGT:=zh (show gk=gk - 1+1 from by omega)
       have HTX:=zh (zqi g'' p B zt wr HI.out.read)
       go_wp2_with fail
       refine HTX.out.mono ?_
       rintro e w7 ⟨hT,g1',y1',fl,v,rfl,⟨rfl,hf⟩,hR,hle,hg,hb⟩
       have HI7:=zh (HI.out.to (takeK g1') hT hR)
       have HO7:=zh (zqf HOT.out hT hp6)
       have HT7:=zh (HT2.out.trans (T2.of_turn (q:=w5.heap.size) hT))
       have HG1:=zh (And.intro hg hb)
       have HUF:=zh (zx7 hf)
       have HLa:=zh (Nat.le_trans hle HZT.out)
       obtain⟨X,hX⟩: ∃X:World,X=w7.alloc (.cells #[.int .u64 (fl:Int), .int .u32 0, .string ⟨#[]⟩, .string ⟨#[]⟩] (51)):=⟨_,rfl⟩
       have HX0:=zh (show RS (TkAt g1') p B w7 X y1' w7.heap.size #[.int .u64 (fl:Int), .int .u32 0, .string ⟨#[]⟩, .string ⟨#[]⟩] (51)from⟨by rw [hX];exact(takeK g1').ext hR (zb.alloc zr _),by rw [hX];exact zq3 rfl _,by rw [hX];exact TurnI.of_below (zb.alloc zr _),hR.lt,zr,takeK g1'⟩)
       have HNB:=zh (zqi g1' p B y1' X HX0.out.read)
       have HXX:=zh hX
       rw [hX] at HNB
       clear hT hg hb hf hR hle HTX hX hfc
       go_wp2_with fail
       refine HNB.out.mono ?_
       rw [<-HXX.out]
       rintro e w8 ⟨hT,g2,y2,b,v,rfl,⟨rfl,hf⟩,hR,hle,hg,hb⟩
       have HX1:=zh (HX0.out.to (takeK g2) hT hR)
       have HG2:=zh (And.intro hg hb)
       have HLb:=zh (Nat.le_trans hle HLa.out)
       clear hT hg hb hf hR hle HNB
       obtain⟨bb,hbb⟩: ∃bb:Int,IntKind.u32.wrap (b:Int)=bb:=⟨_,rfl⟩
       have HBB:=zh (show(0<=bb/\bb<4294967296)/\(b<=4294967295->bb=(b:Int))from by rw [IntKind.wrap_u32] at hbb;omega)
       obtain⟨fc1,ff1⟩:=zko HX1.out.read
       by_cases hbm:b<=4294967295
       case' pos=>
        have hd:decide ((4294967295:Int)<(b:Int))=false:=decide_eq_false (by omega)
        have hd2: ¬(4294967295:Int)<(b:Int):=by omega
        have hd3:decide (4294967295<b)=false:=decide_eq_false (by omega)
        have HX3:=HX1
        have H3:=zh (show(g2=false->g2=false/\chkP b y2=some ((),y2))/\(g2=true->g2=true\/chkP b y2=none)from⟨fun e=>⟨e,by unfold chkP;rw [if_pos hbm]⟩, .inl⟩)
        clear hbm
        go_upto_region 18 with fail
       case' neg=>
        have hd:decide ((4294967295:Int)<(b:Int))=true:=decide_eq_true (by omega)
        have hd2:(4294967295:Int)<(b:Int):=by omega
        have hd3:decide (4294967295<b)=true:=decide_eq_true (by omega)
        obtain⟨g3,hg3⟩: ∃g3:Bool,true=g3:=⟨_,rfl⟩
        have HX3:=zh (show RS (TkAt g3) p B w7 (w8.setCell ⟨p,1,none⟩ (.bool true)) y2 w7.heap.size #[.int .u64 (fl:Int), .int .u32 0, .string ⟨#[]⟩, .string ⟨#[]⟩] (51)from by rw [<-hg3];exact HX1.out.to (takeK true) (TurnI.setCell (j:=1) _) (zwl HX1.out.read))
        have H3:=zh (show(g3=false->g2=false/\chkP b y2=some ((),y2))/\(g3=true->g2=true\/chkP b y2=none)from⟨(fun e=>by rw [<-hg3] at e;cases e),fun _=> .inr (by unfold chkP;rw [if_neg hbm])⟩)
        clear hg3
        clear hbm
        go_upto_region 18 with fail
       all_goals
        clear hd hd2 hd3 fc1 ff1
        obtain⟨V,hV⟩:=HX3.out.name
        rw [<-hV] at HX3 ⊢
        clear hV
        have f1:=zq1 HX3.out.box 1
        have c1:=zq0 HX3.out.box 1
        simp at c1
        have HX4:=zh (HX3.out.store 1 (.int .u32 bb) #[.int .u64 (fl:Int), .int .u32 bb, .string ⟨#[]⟩, .string ⟨#[]⟩] rfl)
        have HTL4:=zh (zju _ p B y2 _ HX4.out.read)
        go_wp2_with fail
        refine HTL4.out.mono ?_
        rintro e w9 ⟨hT,g4,y3,lo,v,rfl,⟨rfl,hfl⟩,hR,hle,hg4,hb4⟩
        have HX5:=zh (HX4.out.to (takeK g4) hT hR)
        have HX6:=zh (HX5.out.store 2 (.string lo) #[.int .u64 (fl:Int), .int .u32 bb, .string lo, .string ⟨#[]⟩] rfl)
        have HTL6:=zh (zju _ p B y3 _ HX6.out.read)
        have HG4:=zh (And.intro hg4 hb4)
        have HLc:=zh (Nat.le_trans hle HLb.out)
        have HF4:=zh hfl
        have f2:=zq1 HX5.out.box 2
        have c2:=zq0 HX5.out.box 2
        simp at c2
        clear hT hR hle hg4 hb4 hfl f1 c1 HTL4
        go_wp2_with fail
        refine HTL6.out.mono ?_
        rintro e w10 ⟨hT,g5,y4,hi',v,rfl,⟨rfl,hfl⟩,hR,hle,hg5,hb5⟩
        have HX7:=zh (HX6.out.to (takeK g5) hT hR)
        have HX8:=zh (HX7.out.store 3 (.string hi') #[.int .u64 (fl:Int), .int .u32 bb, .string lo, .string hi'] rfl)
        have HTS:=zh (tb_soft HG1.out.1 HG1.out.2 HG2.out.1 HG2.out.2 H3.out.1 H3.out.2 HG4.out.1 HG4.out.2 hg5 hb5 HBB.out.2)
        have HLd:=zh (Nat.le_trans hle HLc.out)
        have HTB:=zh (show TbW ⟨(fl:Int),bb,lo,hi'⟩from⟨HUF.out,HBB.out.1,by show lo.size<=maxLen;have:=HF4.out;unfold maxLen;omega,by show hi'.size<=maxLen;unfold maxLen;omega⟩)
        have f3:=zq1 HX7.out.box 3
        have c3:=zq0 HX7.out.box 3
        simp at c3
        clear hT hR hle hg5 hb5 hfl f2 c2 HTL6
        go_upto_region 21 with fail
        obtain⟨U,hU⟩:=HX8.out.name
        rw [<-hU] at HX8 ⊢
        clear hU f3 c3
        have HX9:=zh (HX8.out.next (TurnI.of_below ((Below.refl U.heap.size U).drew)) ((takeK g5).ext HX8.out.read ((Below.refl U.heap.size U).drew)))
        have HId:=zh (HI7.out.to (takeK g5) HX9.out.turn HX9.out.read)
        have HOTd:=zh (zqf HO7.out HX9.out.turn hp6)
        have HT2d:=zh (HT7.out.trans (T2.of_turn (q:=w5.heap.size) HX9.out.turn))
        have hlt6:w5.heap.size<U.heap.size:=zq2 HId.out.box
        have hlt7:w7.heap.size<U.heap.size:=zq2 HX8.out.box
        have x0:=zq0 HX8.out.box 0
        have x1:=zq0 HX8.out.box 1
        have x2:=zq0 HX8.out.box 2
        have x3:=zq0 HX8.out.box 3
        simp at x0 x1 x2 x3
        have c4:=zq0 HId.out.box (1+i)
        rw [zv6 _ i _ (Sv.set_get s i HI3.out _)] at c4
        have c4':U.cell? ⟨w5.heap.size,1+i,none⟩=some (.slice at_ t ct):=by{have c5:U.cell? ⟨w5.heap.size,1+i,none⟩=_:=c4;rw [c5];show some (Value.slice at_ ts.length ct)=_;rw [HTL.out]}
        obtain⟨a',c',w8',hr,d4,e4,hS9,hO9,hL9,hT9⟩:=yzj HId.out HI3.out HOTd.out HTL.out ⟨(fl:Int),bb,lo,hi'⟩ htm HL6.out.rs.turn.size HT2d.out
        have HS9:=zh hS9
        have HO9:=zh hO9
        have HL9:=zh hL9
        have HT9:=zh hT9
        clear hS9 hO9 hL9 hT9 c4
        go_region_law (first
         |(refine Vx.zqj rfl (.tmp 70) (.tmp 72) (54) (54) rfl (.slice at_ t ct) (.slice (some ⟨U.heap.size,0,none⟩) 1 1) (by simp [Act.eval]) (by simp [Act.eval]) _ _ hr ?_))
        all_goals
         go_wp2_with fail
         go_roundg(gk - 1)
         case measure=>omega
         case rel=>exact⟨t+1,c',ts++ [⟨(fl:Int),bb,lo,hi'⟩],y4,a',g5,by omega,by go_num,zh (HSP.out.round HGT.out HTS.out.fin.1 HTS.out.fin.2),HL9,HS9,HO9,HT9,zh (fun y hy=>by
          rcases List.mem_append.1 hy with h1|h1
          ·exact HTW.out y h1
          ·rw [List.mem_singleton.1 h1];exact HTB.out),HLd⟩
      ·have HFI:=zh (show(g''=false->g'=false/\levP zs'=some (ts,zt))/\(g''=true->g'=true\/levP zs'=none)from by
        cases hg:g'' with
        |true=>
         have h1:=HSP.out
         rw [hg] at h1
         exact(Lk.off (K':=fun l=>some (ts,l)) (zs':=zt) h1).fin
        |false=>
         have h0:gk=0:=by
          have: ¬t<m:=fun h=>hgo ⟨h,hg⟩
          omega
         have h1:=HSP.out
         rw [hg,h0] at h1
         exact h1.done.fin)
       have HL8:=zh (LvS.level2 HL6.out HI3.out HI.out HOT.out HTL.out HT2.out HTW.out)
       have HLI2:=zh (show(s.set i ⟨at_,ct,ts⟩).line=(a1:Int)from by rw [Sv.set_line];exact HLI.out)
       have HLL2:=zh (show Lk g (sdP zs) g'' (restP levP (fun lv l2=>some ((⟨(a1:Int),lv⟩:Sd),l2)) (g8 - 1) (((s.set i ⟨at_,ct,ts⟩).lv.take (i+1)).map (·.ts))) zt from by
        rw [yyd s i HI3.out]
        exact HLL.out.round (by have:=HI3.out;omega) HFI.out.1 HFI.out.2)
       by_cases hltt:t<m
       case' pos=>
        have l1:(t:Int)<(m:Int):=by omega
        have hgt:g''=true:=by
         cases hg:g'' with
         |true=>rfl
         |false=>exact absurd ⟨hltt,hg⟩ hgo
        rw [hgt] at hfc
        clear hgt
       case' neg=>
        have l1: ¬(t:Int)<(m:Int):=by omega
       all_goals
        clear ht hltt hlti hgo
        go_wp2_with fail
        go_roundg(g8 - 1)
        case measure=>have:=HG8.out;omega
        case rel=>exact⟨i+1,s.set i ⟨at_,ct,ts⟩,zt,g'',by omega,by go_num,HLL2,HL8,HLI2,HZT⟩
    ·have j1: ¬(i:Int)<3:=by omega
     obtain rfl:3=i:=by omega
     obtain rfl:gk=0:=by omega
     have HS8:=zh (RdS.to HS6.out (takeK g') HL.out.rs.turn HL.out.rs.read)
     have HSF:=zh HLL.out.done.fin
     have HLK2:=zh (show Lk f (shP ys) g' (restP sdP (fun xs l=>some (xs,l)) (g9 - 1) ((xs++ [s]).map Sv.says)) zs' from by
      have h1:=HLK.out.round (m':=g9 - 1) (x:=s.says) HGK.out (by
       have h2:=HSF.out.1
       rw [<-HLI.out] at h2
       exact h2) HSF.out.2
      rw [List.map_append]
      exact h1)
     have c0:=zq0 HL.out.rs.box 0
     have c1:=zq0 HL.out.rs.box 1
     have c2:=zq0 HL.out.rs.box 2
     have c3:=zq0 HL.out.rs.box 3
     simp [shc] at c0 c1 c2 c3
     obtain⟨a',c',w8,hr,hS9⟩:=HS8.out.push s ⟨by rw [HLI.out];exact HUA.out,HL.out.wf⟩ (fun l hl=>zq9 (HL.out.own l hl) HS6.out.turn.size) (by omega)
     have HS9:=zh hS9
     clear hS9 hi
     go_wp2_with(at_builtin;refine zqm _ (by rfl) _ _ _ _ rfl _ _ rfl rfl _ _ hr ?_;clear hr)
     go_roundg(g9 - 1)
     case measure=>have:=HG9.out;omega
     case rel=>exact⟨k+1,c',xs++ [s],zs',a',g',by omega,by go_num,rfl,HLK2,HS9,HZL⟩
  ·have HFI:=zh (show(g=false->f=false/\shP ys=some (xs.map Sv.says,zs))/\(g=true->f=true\/shP ys=none)from by
    cases hg:g with
    |true=>
     have h1:=HLK.out
     rw [hg] at h1
     exact(Lk.off (K':=fun l=>some (xs.map Sv.says,l)) (zs':=zs) h1).fin
    |false=>
     have h0:gk=0:=by
      have: ¬k<n:=fun h=>hgo ⟨h,hg⟩
      omega
     have h1:=HLK.out
     rw [hg,h0] at h1
     exact h1.done.fin)
   have HV:=zh HS.out.in_
   have HVL:=zh (show(xs.map Sv.says).length<=ys.length from by rw [List.length_map,HS.out.len];have:=HNL.out;omega)
   by_cases hlt:k<n
   case' pos=>
    have i1:(k:Int)<(n:Int):=by omega
    have hgt:g=true:=by
     cases hg:g with
     |true=>rfl
     |false=>exact absurd ⟨hlt,hg⟩ hgo
    rw [hgt] at hfc
    clear hgt
   case' neg=>
    have i1: ¬(k:Int)<(n:Int):=by omega
   all_goals
    clear hk hlt hgo
    go_wp2_with fail
    go_ret
    exact⟨HS.out.turn,g,zs,_,_,rfl,⟨HV.out,HVL.out⟩,HS.out.read,HZS.out,HFI.out.1,HFI.out.2⟩
end Go.Proofs.YtchcelodeepjdaaGreatDoor.Ln

namespace Go.Proofs.YtchcelodeepjdaaGreatDoor.Ln
open Go.RowKit Go.Shelf Go.Herb
structure zjj (x:Rt):Prop where
 bs:x.bs.length<=100000
 ls:x.ls.length<=100000
 vs:Vx.Small x.vs
def whP:Ps (Rt × List Sd):=fun l=>match rtP l with
 |none=>none
 |some (r,l1)=>match shP l1 with
  |none=>none
  |some (sh,l2)=>some ((r,sh),l2)
theorem yxd {l:List Int}{r0:Rt}{sh:List Sd}{z:List Int}(h:whP l=some ((r0,sh),z)): ∃l1,rtP l=some (r0,l1)/\shP l1=some (sh,z):=by
 unfold whP at h
 rcases h1:rtP l with _|⟨x,l1⟩
 ·rw [h1] at h;cases h
 ·rw [h1] at h
  simp only at h
  rcases h2:shP l1 with _|⟨y,l2⟩
  ·rw [h2] at h;cases h
  ·rw [h2] at h
   cases h
   exact⟨l1,rfl,h2⟩
theorem yki {l:List Int}{r0:Rt}{gs:List Int}{sh:List Sd}{z:List Int}(h:edP l=some ((r0,gs,sh),z)): ∃l1,rtP l=some (r0,l1)/\egP l1=some ((gs,sh),z):=by
 unfold edP at h
 rcases h1:rtP l with _|⟨x,l1⟩
 ·rw [h1] at h;cases h
 ·rw [h1] at h
  simp only at h
  rcases h2:manyP nmP l1 with _|⟨y,l2⟩
  ·rw [h2] at h;cases h
  ·rw [h2] at h
   simp only at h
   rcases h3:shP l2 with _|⟨s,l3⟩
   ·rw [h3] at h;cases h
   ·rw [h3] at h
    cases h
    exact⟨l1,rfl,by unfold egP;rw [h2];simp only;rw [h3]⟩
theorem ykx {w:World}{r:Rv}{l:List Int}{r0:Rt}{sh:List Sd}{z:List Int}(hi:RtIn w r)(hf:FewX r.says)(hp:whP l=some ((r0,sh),z))(hx:r.says={r0 with sh:=sh }){x:Rt}(h:OneIs (1::l) x):x=r.says/\z= [] :=by
 obtain⟨l1,e1,e2⟩:=yxd hp
 have e:=(h.inv e1 e2).trans hx.symm
 refine⟨e,?_⟩
 have hg:=(zx5 r).2 (e▸h.good)
 have ha:=h.again
 rw [e] at ha
 have h3:=yjz (yw5 hi) (by have h1:=zj0 hf;show(r.sh.map Sv.says).length<_;rw [List.length_map];omega) []
 rw [List.append_nil] at h3
 have h4:=yjx (yyy hi hf) (shL r.says.sh)
 have h5:headL r.says++shL r.says.sh=l:=by
  have:zqt r.says=1::(headL r.says++shL r.says.sh):=rfl
  rw [this] at ha
  exact List.tail_eq_of_cons_eq ha
 rw [h5,e1] at h4
 simp only [Option.some.injEq,Prod.mk.injEq] at h4
 rw [h4.2,h3] at e2
 simp only [Option.some.injEq,Prod.mk.injEq] at e2
 exact e2.2.symm
theorem one_no {Q:Option Rt}{l:List Int}(h:whP l=none): ¬ ∃x,zqu Q (1::l) x:=by
 rintro⟨x,h1|⟨q, -,h1⟩⟩
 ·obtain⟨l',r0,l1,l2,sh,e,e2,e3,rfl⟩:=h1.read
  cases e
  unfold whP at h
  rw [e2] at h
  simp only at h
  rw [e3] at h
  cases h
 ·obtain⟨l',e⟩:=h1.two
  cases e
theorem one_no2 {w:World}{Q:Option Rt}{r:Rv}{l:List Int}{r0:Rt}{sh:List Sd}{z:List Int}(hi:RtIn w r)(hf:FewX r.says)(hp:whP l=some ((r0,sh),z))(hx:r.says={r0 with sh:=sh })(hz:z≠ []): ¬ ∃x,zqu Q (1::l) x:=by
 rintro⟨x,h1|⟨q, -,h1⟩⟩
 ·exact hz (ykx hi hf hp hx h1).2
 ·obtain⟨l',e⟩:=h1.two
  cases e
theorem one_iff {w:World}{Q:Option Rt}{r:Rv}{l:List Int}{r0:Rt}{sh:List Sd}{z:List Int}(hi:RtIn w r)(hf:FewX r.says)(hp:whP l=some ((r0,sh),z))(hx:r.says={r0 with sh:=sh }):(GoodR r->zqt r.says=1::l->zqu Q (1::l) r.says)/\((∃x,zqu Q (1::l) x)->GoodR r/\zqt r.says=1::l):=by
 refine⟨fun hg e=> .inl (by rw [<-e];exact yjk hi hg hf),?_⟩
 rintro⟨x,h1|⟨q, -,h1⟩⟩
 ·obtain⟨e, -⟩:=ykx hi hf hp hx h1
  exact⟨(zx5 r).2 (e▸h1.good),by rw [<-e];exact h1.again⟩
 ·obtain⟨l',e⟩:=h1.two
  cases e
theorem ed_no {q:Rt}{l:List Int}(h:edP l=none): ¬ ∃x,zqu (some q) (2::l) x:=by
 rintro⟨x,h1|⟨q',e,h1⟩⟩
 ·obtain⟨l',e⟩:=h1.one
  cases e
 ·cases e
  obtain⟨l',e1,e2⟩:=yj6 h1.num []
  rw [List.append_nil,h1.again] at e1
  cases e1
  rw [h] at e2
  cases e2
theorem ed_inv {q:Rt}{l:List Int}{x r0:Rt}{gs:List Int}{sh:List Sd}{z:List Int}(hp:edP l=some ((r0,gs,sh),z))(h:EdIs (2::l) q x):r0={x with sh:= []}/\gs=goneL x.sh q.sh/\sh=newL x.sh q.sh/\z= [] :=by
 obtain⟨l',e1,e2⟩:=yj6 h.num []
 rw [List.append_nil,h.again] at e1
 cases e1
 rw [hp] at e2
 simp only [Option.some.injEq,Prod.mk.injEq] at e2
 obtain⟨⟨a,b,c⟩,d⟩:=e2
 exact⟨a,b,c,d⟩
theorem ed_no2 {q:Rt}{l:List Int}{r0:Rt}{gs:List Int}{sh:List Sd}{z:List Int}(hp:edP l=some ((r0,gs,sh),z))(hz:z≠ []): ¬ ∃x,zqu (some q) (2::l) x:=by
 rintro⟨x,h1|⟨q',e,h1⟩⟩
 ·obtain⟨l',e⟩:=h1.one
  cases e
 ·cases e
  exact hz (ed_inv hp h1).2.2.2
theorem ed_iff {w w':World}{q r:Rv}{l:List Int}{r0:Rt}{gs:List Int}{ss:List Sv}{z:List Int}(hi:RtIn w r)(hf:FewX r.says)(hq:RtIn w' q)(fq:FewX q.says)(gq:GoodR q)(hp:edP l=some ((r0,gs,ss.map Sv.says),z))(hx:r.says={r0 with sh:=(edE q.sh gs ss).map Sv.says }):(GoodR r->editL r.says q.says=2::l->zqu (some q.says) (2::l) r.says)/\((∃x,zqu (some q.says) (2::l) x)->GoodR r/\editL r.says q.says=2::l):=by
 refine⟨fun hg e=> .inr ⟨_,rfl,edN_rv hi hf hq fq,(zx5 r).1 hg,e⟩,?_⟩
 rintro⟨x,h1|⟨q',e,h1⟩⟩
 ·obtain⟨l',e⟩:=h1.one
  cases e
 ·cases e
  obtain⟨e1,e2,e3, -⟩:=ed_inv hp h1
  have e4:(edE q.sh gs ss).map Sv.says=x.sh:=by
   rw [e2]
   exact edE_says ((zx5 _).1 gq).2.shelved.rise h1.good.2.shelved.rise e3
  have e5:r.says=x:=by rw [hx,e4,e1]
  exact⟨(zx5 r).2 (e5▸h1.good),by rw [e5];exact h1.again⟩
theorem one_not {Q:Option Rt}{ys:List Int}(h1: ∀l,ys≠1::l)(h2: ∀l q,ys=2::l->Q≠some q): ¬ ∃x,zqu Q ys x:=by
 rintro⟨x,h|⟨q,e,h⟩⟩
 ·obtain⟨l,e⟩:=h.one
  exact h1 l e
 ·obtain⟨l,e1⟩:=h.two
  exact h2 l q e1 e
theorem rt_ed {B0 M B:Nat}{u u':World}{sq lg nx:Int}{ba la va:Option Addr}{bc lc vc:Nat}{bs:List Br}{ls:List Ln}{vs:List Vx.Vc}{sa:Option Addr}{sc:Nat}{os ss:List Sv}{q:Rv}(h:RtOwn M u ⟨sq,lg,nx,ba,bc,bs,la,lc,ls,va,vc,vs,none,0, []⟩)(hs:OwnSh B u (.slice sa os.length sc) os)(hl: ∀s∈ss,∀l∈s.lv,OwnT B u (lvV l) l.ts)(hM:B0<=M)(hB:B0<=B)(hk:KeepB B0 u u')(hq:RtIn u' q)(hmem: ∀s∈os,s∈ss\/s∈q.sh)(hW: ∀s∈ss,U64 s.line/\ ∀l∈s.lv,∀t∈l.ts,TbW t):
  RtIn u' ⟨sq,lg,nx,ba,bc,bs,la,lc,ls,va,vc,vs,sa,sc,os⟩:=by
 have hsh:OwnSh B u' (.slice sa os.length sc) os:=zqx hs (fun g cs hh hg=>hk g cs _ hh (by omega))
 have hsi:ShIn u' sa os:=⟨Vx.zx3 zqe hsh,fun s hs=>by
  rcases hmem s hs with h1|h1
  ·have hlv: ∀l∈s.lv,LvOk u' l:=fun l hl'=>zv2 (zqx (hl s h1 l hl') (fun g cs hh hg=>hk g cs _ hh (by omega))) ((hW s h1).2 l hl')
   exact⟨hlv _ (by simp [Sv.lv]),hlv _ (by simp [Sv.lv]),hlv _ (by simp [Sv.lv]),(hW s h1).1⟩
  ·exact hq.shs.ok s h1⟩
 obtain⟨s1,s2,s3⟩:=zku hsh
 have hri:=(h.kept (fun g cs e hh hg _=>hk g cs e hh (by omega))).in_
 exact⟨hri.seq,hri.log,hri.next,hri.brs,hri.lns,hri.vcs,hsi,s1,s2,s3,hri.vl⟩
structure ResSt (w X u:World)(cs:Array Value):Prop where
 box:u.heap[w.heap.size]? =some (.cells cs (32) (0,0))
 below:Below w.heap.size w u
 keep:KeepB (w.heap.size+1) X u
theorem ResSt.store {w X u:World}{cs:Array Value}(h:ResSt w X u cs)(j:Nat)(v:Value)(cs':Array Value)(hc:cs.setIfInBounds j v=cs'):ResSt w X (u.setCell ⟨w.heap.size,j,none⟩ v) cs':=
 ⟨by rw [<-hc];exact zq7 h.box v,Below.setCell h.below (p:=⟨w.heap.size,j,none⟩) (Nat.le_refl w.heap.size) v,fun k cs e hh hk=>blk_setCell_other (h.keep k cs e hh hk) (show k≠w.heap.size by omega) v⟩
theorem ResSt.ext {w X u u':World}{cs:Array Value}(h:ResSt w X u cs)(hb:Below u.heap.size u u'):ResSt w X u' cs:=
 ⟨zq4 h.box hb (zq2 h.box),h.below.trans (hb.mono h.below.size),fun k cs e hh hk=>zq4 (h.keep k cs e hh hk) hb (zq2 (h.keep k cs e hh hk))⟩
theorem ResSt.name {w X u:World}{cs:Array Value}(_:ResSt w X u cs): ∃Z,Z=u:=⟨u,rfl⟩
theorem ResSt.stay {w X u:World}{cs:Array Value}{Q:Option Rv}{r:Rv}(h:ResSt w X u cs)(hs:Stay (w.heap.size+1) X Q r):Stay w.heap.size u Q r:=fun u' hk hq=>hs u' (fun k cs e hh hi=>hk k cs e (h.keep k cs e hh hi) (by omega)) hq
theorem zvw {l l1:List Int}{r0:Rt}(h:rtP l=some (r0,l1))(hl:l.length<100000):zjj r0:=by
 have e1:=rtP_w l r0 l1 h
 have e3:r0.vs.length<=(r0.vs.map (fun v=>1+v.2.length)).sum:=by
  have:=zjl (f:=fun _=>1) (g:=fun v:Int × Bh=>1+v.2.length) r0.vs (fun _ _=>by omega)
  rwa [zxm] at this
 exact⟨by omega,by omega,⟨by omega,fun p hp=>by
  have:=zke (f:=fun v:Int × Bh=>1+v.2.length) hp
  omega⟩⟩
theorem yve {w:World}{r:Rv}(hi:RtIn w r)(hg:GoodR r)(hf:FewX r.says):(zqt r.says).length<355000000:=by
 have h1:=zkp (zkc hi hg hf)
 have h2:=yxa hi.shs (zvp hg hf) hf
 have n3:=zxv (zqs (n:=r.sh.length) (by have:=zj0 hf;omega))
 unfold zqt
 have e:r.says.sh=r.sh.map Sv.says:=rfl
 rw [e,yw6,zxa]
 simp only [List.length_cons,List.length_append]
 omega
theorem yvy {w w':World}{r q:Rv}(hi:RtIn w r)(hg:GoodR r)(hf:FewX r.says)(hq:RtIn w' q)(fq:FewX q.says):(editL r.says q.says).length<390000000:=by
 have h1:=zkp (zkc hi hg hf)
 have h2:=yxa hi.shs (zvp hg hf) hf
 have hsn:=zj0 hf
 have hqn:=zj0 fq
 have es:r.says.sh=r.sh.map Sv.says:=rfl
 have hg2:(goneL r.says.sh q.says.sh).length<1000000:=by
  unfold goneL
  rw [List.length_map]
  refine Nat.lt_of_le_of_lt (List.length_filter_le _ _) ?_
  show(q.sh.map Sv.says).length<_
  rw [List.length_map]
  exact hqn
 have h3:=zxw (goneL r.says.sh q.says.sh) (fun g hg'=>by
  unfold goneL at hg'
  obtain⟨s,hs,rfl⟩:=List.mem_map.1 hg'
  obtain⟨y,hy,rfl⟩:=List.mem_map.1 (List.mem_filter.1 hs).1
  exact(hq.shs.ok y hy).wf)
 have hn2:(newL r.says.sh q.says.sh).length<1000000:=by
  unfold newL
  refine Nat.lt_of_le_of_lt (List.length_filter_le _ _) ?_
  rw [es,List.length_map]
  exact hsn
 have h4:=zxv (zqs (n:=(goneL r.says.sh q.says.sh).length) (by omega))
 have h5:=zxv (zqs (n:=(newL r.says.sh q.says.sh).length) (by omega))
 have h6: ∀(p:Sd->Bool) (l:List Sd),((l.filter p).flatMap sdL).length<=(l.flatMap sdL).length:=fun p l=>by
  induction l with
  |nil=>simp
  |cons x l ih=>
   rw [List.filter_cons,List.flatMap_cons,List.length_append]
   split
   ·rw [List.flatMap_cons,List.length_append];omega
   ·omega
 have h7:=h6 (fun s=> !asWas q.says.sh s) r.says.sh
 have h8:(r.says.sh.flatMap sdL).length=(r.sh.flatMap sdE).length:=by rw [es,List.flatMap_map];rfl
 have h9:(editL r.says q.says).length=1+((headL r.says).length+(numsL [((goneL r.says.sh q.says.sh).length:Int)]).length+(numsL (goneL r.says.sh q.says.sh)).length+((numsL [((newL r.says.sh q.says.sh).length:Int)]).length+((newL r.says.sh q.says.sh).flatMap sdL).length)):=by
  unfold editL shL
  simp only [List.length_cons,List.length_append]
  omega
 rw [zxa] at h9
 have h10:((newL r.says.sh q.says.sh).flatMap sdL).length<=(r.says.sh.flatMap sdL).length:=h7
 have h11:(numsL [((newL r.says.sh q.says.sh).length:Int)]).length<=10:=by rw [zxa];exact h5
 omega
theorem RefIn.mk' {w:World}{r:Rv}(hi:RtIn w r)(hf:FewX r.says)(hr:zjj r.says):RefIn w r:=⟨hi,hf,hr.bs,hr.ls,hr.vs⟩
theorem few_ed {l l1:List Int}{r0:Rt}{gs:List Int}{ss:List Sv}{z:List Int}{r q:Rv}(h1:rtP l=some (r0,l1))(h2:egP l1=some ((gs,ss.map Sv.says),z))(hx:r.says={r0 with sh:=(edE q.sh gs ss).map Sv.says })(hl:l.length<500000)(hq:(q.says.sh.map (fun s=>1+(s.lv.map List.length).sum)).sum<=400000):FewX r.says:=by
 have e1:=rtP_w l r0 l1 h1
 have e3:r0.vs.length<=(r0.vs.map (fun v=>1+v.2.length)).sum:=by
  have:=zjl (f:=fun _=>1) (g:=fun v:Int × Bh=>1+v.2.length) r0.vs (fun _ _=>by omega)
  rwa [zxm] at this
 rw [hx]
 refine⟨?_,?_,?_,?_,?_⟩
 ·show r0.bs.length<1000000;omega
 ·show r0.ls.length<1000000;omega
 ·show r0.vs.length<1000000;omega
 ·show r0.bs.length+r0.ls.length+(r0.vs.map (fun v=>1+v.2.length)).sum<1000000;omega
 ·have h3:=egP_w h2
  have h4:=edE_sum wS q.sh gs ss
  have e5:q.says.sh=q.sh.map Sv.says:=rfl
  rw [e5,List.map_map] at hq
  rw [List.map_map] at h3
  have e6:((fun x:Sd=>1+(x.lv.map List.length).sum)∘ Sv.says)=wS:=rfl
  rw [e6] at h3 hq
  show(((edE q.sh gs ss).map Sv.says).map (fun s=>1+(s.lv.map List.length).sum)).sum<_
  rw [List.map_map,e6]
  omega
structure OneSt (w:World)(ys:List Int)(c:Int)(P:Option Addr)(Q:Option Rv)(X:World)(fl:Bool)(zs:List Int)(tb:Nat)(r:Rv):Prop where
 read:TkAt fl X (w.heap.size+1) w.heap.size zs
 res:ResSt w X X zeroC
 box:X.heap[tb]? =some (.cells #[.int .u64 r.seq, .int .u64 r.log, .int .u64 r.next, .slice r.ba r.bs.length r.bc, .slice r.la r.ls.length r.lc, .slice r.va r.vs.length r.vc, .slice r.sa r.sh.length r.sc] (32) (0,0))
 tbl:w.heap.size<tb
 no:fl=true\/zs≠ [] -> ¬ ∃x,zqu (saysO Q) ys x
 few:fl=false->FewX r.says
 ref:fl=false->zjj r.says
 stay:Stay (w.heap.size+1) X Q r
 put:fl=false-> ∃(G:Prop) (Z:List Int),(∀u,Below X.heap.size X u->Calls Tryz.prog (19) #[rtV r, .pointer (if c=1 then none else P)] u (zzx G Z u))/\(∀y∈Z,0<=y/\y<256)/\(G->Z=ys->zqu (saysO Q) ys r.says)/\((∃x,zqu (saysO Q) ys x)->G/\Z=ys)
def zwz (ys:List Int)(Q:Option Rv)(w:World)(e:Ending)(w':World):Prop:=Below w.heap.size w w'/\ ∃(r:Rv) (ok:Bool),e= .returned (.tuple #[rtV r, .bool ok])/\(ok=false-> ¬ ∃x,zqu (saysO Q) ys x)/\(ok=true->zqu (saysO Q) ys r.says/\Stay w.heap.size w' Q r/\FewX r.says/\zjj r.says)
end Go.Proofs.YtchcelodeepjdaaGreatDoor.Ln
