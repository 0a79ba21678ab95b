/- Lemmas and walks towards ManifestsFold. Conditions: each one tells its own. -/
import Derived.Test.YtchcelodeepjdaaGreatDoorMp
import Derived.Shelf.SlSortCmp.InsertionK
namespace Go.Herb
open Go.RowKit Go.Proofs Go.Shelf Go.Sort Go.Lib

section
variable {α:Type} [Inhabited α] {enc:α->List Value} {k e:Nat} {w:World} {g cap:Nat} {xs:List α}

theorem yxq (hs: ∀x,(enc x).length=k)(h0:0<k)(d:Array α)(j:Nat)(hj:j<d.size*k):some (flatK enc k d)[j]! =(d.toList.flatMap enc)[j]? :=by
 rw [get_flatK enc k d j hj]
 have hi:j / k<d.size:=(Nat.div_lt_iff_lt_mul h0).2 hj
 have hr:j % k<k:=Nat.mod_lt _ h0
 have he:j=j / k*k+j % k:=by rw [Nat.mul_comm];exact(Nat.div_add_mod j k).symm
 have h1:=zxn hs d.toList (j / k) (j % k) (by simpa using hi) hr
 rw [<-he] at h1
 rw [h1,getElem!_pos d (j / k) hi]
 have hl:j % k<(enc d[j / k]).length:=by rw [hs];exact hr
 rw [getElem!_pos (enc d[j / k]) (j % k) hl,<-List.getElem?_eq_getElem hl]
 simp

theorem Row.holdsK (h:Row enc k e w g cap xs)(hs: ∀x,(enc x).length=k)(h0:0<k):HoldsK enc k w g 0 xs.toArray:=by
 intro j hj
 rw [size_flatK] at hj
 have hj':j<xs.length*k:=by simpa using hj
 refine⟨?_,h.frozen _⟩
 have h1:=yxq hs h0 xs.toArray j hj
 simp only at h1
 show w.cell? ⟨g,0+j,none⟩=some (flatK enc k xs.toArray)[j]!
 rw [h1,Nat.zero_add]
 obtain⟨cur,hb,hsz,htk⟩:=h.blk
 rw [zq0 hb]
 have:(xs.toArray.toList.flatMap enc)[j]? =(cur.toList.take (xs.length*k))[j]? :=by rw [htk]
 rw [this,List.getElem?_take_of_lt hj']
 simp

theorem yv7 (h:Row enc k e w g cap xs)(hs: ∀x,(enc x).length=k)(h0:0<k)(m:Nat)(d:Array α)(os:Array Obj)(hd:d.size=xs.length):
  Row enc k e (sortWorldK enc k w g 0 m d os) g cap d.toList/\w.grownBy (sortWorldK enc k w g 0 m d os) (some g):=by
 have hlt:=h.lt
 obtain⟨cur,hb,hsz,htk⟩:=h.blk
 have hsize:(putRowK enc k (Sort.ahead w m) g 0 d).heap.size=w.heap.size:=by
  show(w.heap.modify g _).size=_
  simp
 have hblk: ∀b,b<w.heap.size->(sortWorldK enc k w g 0 m d os).heap[b]? =(putRowK enc k (Sort.ahead w m) g 0 d).heap[b]? :=by
  intro b hbl
  show((putRowK enc k (Sort.ahead w m) g 0 d).heap++os)[b]? =_
  rw [Array.getElem?_append_left (by rw [hsize];exact hbl)]
 have hg:(putRowK enc k (Sort.ahead w m) g 0 d).heap[g]? =some (.cells (Sort.putCells id 0 (flatK enc k d) cur) e (0,0)):=by
  show(w.heap.modify g _)[g]? =_
  rw [Array.getElem?_modify,if_pos rfl,hb]
  rfl
 refine⟨⟨⟨_,(hblk g hlt).trans hg,?_,?_⟩,?_,h.max⟩,⟨rfl,rfl,rfl,?_,?_⟩⟩
 ·simp [Sort.putCells,hsz]
 ·have hle:d.size*k<=cur.size:=by rw [hsz,hd];exact Nat.mul_le_mul_right k h.le
  apply List.ext_getElem?
  intro j
  rw [Array.length_toList]
  rcases Nat.lt_or_ge j (d.size*k)with hj|hj
  ·rw [List.getElem?_take_of_lt hj,<-yxq hs h0 d j hj]
   rw [Array.getElem?_toList]
   unfold Sort.putCells
   rw [Array.getElem?_mapIdx,Array.getElem?_eq_getElem (by omega)]
   simp [hj]
  ·rw [List.getElem?_eq_none (by rw [List.length_take];omega),List.getElem?_eq_none (by rw [zq8 hs];simpa using hj)]
 ·rw [Array.length_toList,hd];exact h.le
 ·show _<=((putRowK enc k (Sort.ahead w m) g 0 d).heap++os).size
  rw [Array.size_append,hsize]
  omega
 ·intro b hbl hne
  rw [hblk b hbl]
  show(w.heap.modify g _)[b]? =_
  rw [Array.getElem?_modify,if_neg (fun h=>hne (by rw [h]))]
end
end Go.Herb
