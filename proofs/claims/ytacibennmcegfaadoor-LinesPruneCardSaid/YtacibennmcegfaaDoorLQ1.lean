/- herbariumlaw15.great; lines.Of. Condition: at most 100 branches and lines. -/
import Derived.Test.YtacibennmcegfaaDoorLPB
import Derived.Test.YtacibennmcegfaaDoorLN9
namespace Go.Proofs.YtacibennmcegfaaDoor
open Go.RowKit Go.Shelf Go.Herb

def GreatPost (n m : Nat) (w : World) (e : Ending) (w' : World) : Prop := ∃ r : Bool, e = .returned (.bool r) ∧ (r = false → n ≤ 100 ∧ m ≤ 100) ∧ Below w.heap.size w w'
theorem great_any (ba la aa : Option Addr) (n bc m lc an ac : Nat) (w : World) :
    Calls Tryd.prog (8) #[.agg #[.slice ba n bc, .slice la m lc], .slice aa an ac] w (GreatPost n m w) := by
  have HB := Lib.hid (show Below w.heap.size w (w.alloc (.cells #[.slice ba n bc, .slice la m lc] (25))) from balc (Below.refl _ _))
  by_cases h1 : 100 < n
  · have h1' : (n : Int) > 100 := by omega
    go_enter Tryd.func8, Tryd.ntmps8
    go_wp2_with fail
    go_ret
    exact ⟨true, rfl, (fun h => by cases h), HB.out⟩
  · by_cases h2 : 100 < m
    · have h1' : ¬ (n : Int) > 100 := by omega
      have h2' : (m : Int) > 100 := by omega
      go_enter Tryd.func8, Tryd.ntmps8
      go_wp2_with fail
      go_ret
      exact ⟨true, rfl, (fun h => by cases h), HB.out⟩
    · have HN := Lib.hid (show n ≤ 100 ∧ m ≤ 100 from ⟨by omega, by omega⟩)
      have h1' : ¬ (n : Int) > 100 := by omega
      have h2' : ¬ (m : Int) > 100 := by omega
      clear h1 h2
      by_cases h3 : (an : Int) > 120
      · go_enter Tryd.func8, Tryd.ntmps8
        go_wp2_with fail
        go_ret
        exact ⟨true, rfl, (fun h => by cases h), HB.out⟩
      · go_enter Tryd.func8, Tryd.ntmps8
        go_wp2_with fail
        go_ret
        exact ⟨false, rfl, fun _ => HN.out, HB.out⟩
/-- What a tree is made of. -/
structure GoodT (bs : List Br) (ls : List Ln) : Prop where
  formed : FormedL ls
  nl : ls.length ≤ 48
  named : NamedL bs ls
  b1 : 1 ≤ bs.length
  b12 : bs.length ≤ 12
theorem GoodT.l1 {bs : List Br} {ls : List Ln} (h : GoodT bs ls) : 0 < ls.length := by
  obtain ⟨h1, _⟩ := List.getElem?_eq_some_iff.1 h.formed.first
  exact h1
def OfPost (bs : List Br) (ls : List Ln) (w : World) (e : Ending) (w' : World) : Prop :=
  ((¬ GoodT bs ls ∧ e = .returned (.tuple #[.pointer none, .int .i64 4])) ∨ (GoodT bs ls ∧ ∃ p : Nat, e = .returned (.tuple #[.pointer (some ⟨p, 0, none⟩), .int .i64 0]) ∧ TreeIs w' p bs ls)) ∧ Below w.heap.size w w'
/-- A tree at p, its lists in blocks of their own. -/
structure TreeAt (w : World) (p g h : Nat) (bs : List Br) (ls : List Ln) : Prop where
  tree : w.heap[p]? = some (.cells #[.slice (some ⟨g, 0, none⟩) bs.length bs.length, .slice (some ⟨h, 0, none⟩) ls.length ls.length, .int .i64 1] (61) (0, 0))
  brs : w.heap[g]? = some (.cells (bs.flatMap brc).toArray (45) (0, 0))
  lns : w.heap[h]? = some (.cells (ls.flatMap lnc).toArray (36) (0, 0))
theorem TreeAt.is {w : World} {p g h : Nat} {bs : List Br} {ls : List Ln} (t : TreeAt w p g h bs ls) : TreeIs w p bs ls := TreeIs.mk2 rfl rfl t.tree t.brs t.lns
def OfNew (bs : List Br) (ls : List Ln) (w : World) (e : Ending) (w' : World) : Prop :=
  ((¬ GoodT bs ls ∧ e = .returned (.tuple #[.pointer none, .int .i64 4])) ∨ (GoodT bs ls ∧ ∃ p g h : Nat, e = .returned (.tuple #[.pointer (some ⟨p, 0, none⟩), .int .i64 0]) ∧ TreeAt w' p g h bs ls ∧ w.heap.size ≤ p ∧ w.heap.size ≤ g ∧ w.heap.size ≤ h)) ∧ Below w.heap.size w w'
set_option maxRecDepth 100000 in
theorem of_new (ba : Option Addr) (bc n : Nat) (la : Option Addr) (lc m : Nat) (bs : List Br) (ls : List Ln) (w : World) (hBs : Brs w ba bs) (hbn : bs.length = n) (hLs : Lns w la ls) (hln : ls.length = m) (hle : m ≤ lc) (hmx : lc ≤ maxLen) (hn : n ≤ 100) (hm : m ≤ 100)
    (hwf : ∀ x ∈ bs, (Lit.int .u64 x.2.1).wf = true) (hst : ∀ x ∈ bs, x.1.size ≤ 9223372036854775807) :
    Calls Tryd.prog (10) #[.slice ba n bc, .slice la m lc] w (OfNew bs ls w) := by
  obtain ⟨W, hW⟩ : ∃ W : World, W = w.alloc (.cells #[.slice ba n bc, .slice la m lc] (59)) := ⟨_, rfl⟩
  have hB : Below w.heap.size w W := by rw [hW]; exact balc (Below.refl _ _)
  have hx0 : W.heap[w.heap.size]? = some (.cells #[.slice ba n bc, .slice la m lc] (59) (0, 0)) := by rw [hW]; exact blk_new_at rfl _
  have HC : Hid (∀ u, Below W.heap.size W u → u.cell? ⟨w.heap.size, 0, none⟩ = some (.slice ba n bc) ∧ u.cell? ⟨w.heap.size, 1, none⟩ = some (.slice la m lc)) := Lib.hid (fun u hu => by
    have h0 := cell_of_blk (blk_below hx0 hu (lt_of_blk hx0)) 0
    have h1 := cell_of_blk (blk_below hx0 hu (lt_of_blk hx0)) 1
    simp at h0 h1
    exact ⟨h0, h1⟩)
  have HF := Lib.hid (formed_any ba n bc la lc m ls W (hLs.ext hB) hln hle hmx)
  have HNM := Lib.hid (fun (hs : SrtL ls) (u : World) (hu : Below W.heap.size W u) => named_any ba bc n la lc m bs ls u (hBs.ext (hB.trans (hu.mono hB.size))) hbn (hLs.ext (hB.trans (hu.mono hB.size))) hln (by omega) hs hwf hst)
  have HCP := Lib.hid (fun (h0 : 0 < n) (h1 : 0 < m) (u : World) (hu : Below W.heap.size W u) => copied_any ba bc n la lc m bs ls u (hBs.ext (hB.trans (hu.mono hB.size))) (hLs.ext (hB.trans (hu.mono hB.size))) hbn hln h0 h1 (by omega) (by omega))
  have HN := Lib.hid (show bs.length = n ∧ ls.length = m from ⟨hbn, hln⟩)
  have HB := Lib.hid hB
  have HW := Lib.hid hW
  rw [hW] at HF
  clear hB hx0 hBs hbn hLs hln hle hmx hn hm hwf hst hW
  go_enter Tryd.func10, Tryd.ntmps10
  go_wp2_with fail
  refine HF.out.mono ?_
  rw [← HW.out]
  rintro e w1 ⟨r, rfl, hr, hB1⟩
  have HB1 := Lib.hid (HB.out.trans (hB1.mono HB.out.size))
  obtain ⟨c0, c1⟩ := HC.out w1 hB1
  cases r with
  | false =>
    have HE := Lib.hid (show ¬ GoodT bs ls from fun h => by have := hr.2 ⟨h.formed, h.nl⟩; cases this)
    clear hr HF HNM HCP
    go_wp2_with fail
    go_ret2
    exact ⟨.inl ⟨HE.out, rfl⟩, HB1.out⟩
  | true =>
    obtain ⟨hf, h48⟩ := hr.1 rfl
    have HFM := Lib.hid hf
    have H48 := Lib.hid h48
    have HNM2 := Lib.hid (HNM.out hf.srt w1 hB1)
    have HBW := Lib.hid hB1
    clear hr HF HNM hf h48 hB1
    go_wp2_with fail
    refine HNM2.out.mono ?_
    rintro e w2 ⟨r, rfl, hr, hB2⟩
    have HB2 := Lib.hid (HB1.out.trans (hB2.mono HB1.out.size))
    have HBW2 := Lib.hid (HBW.out.trans (hB2.mono HBW.out.size))
    obtain ⟨d0, d1⟩ := HC.out w2 HBW2.out
    cases r with
    | false =>
      have HE := Lib.hid (show ¬ GoodT bs ls from fun h => by have := hr.2 ⟨h.named, h.b1, h.b12⟩; cases this)
      clear hr HCP hB2
      go_wp2_with fail
      go_ret2
      exact ⟨.inl ⟨HE.out, rfl⟩, HB2.out⟩
    | true =>
      obtain ⟨h1, h2, h3⟩ := hr.1 rfl
      have HG := Lib.hid (show GoodT bs ls from ⟨HFM.out, H48.out, h1, h2, h3⟩)
      have HCQ := Lib.hid (HCP.out (by have := HN.out; omega) (by have := HN.out; have := HG.out.l1; omega) w2 HBW2.out)
      clear hr HCP hB2 h1 h2 h3
      go_wp2_with (first
        | (go_at_call 26; refine HCQ.out.mono ?_; rintro e w3 ⟨g, h, rfl, hg, hh, hg0, hh0, -, hB3⟩)
        | (go_at_call 25; refine (made_any _ _ _ _ _ _ _).mono ?_; rintro e w4 ⟨rfl, hx4, hB4⟩))
      go_ret2
      have hg4 := blk_below hg hB4 (lt_of_blk hg)
      have hh4 := blk_below hh hB4 (lt_of_blk hh)
      have hs2 := HB2.out.size
      have hs3 := hB3.size
      exact ⟨.inr ⟨HG.out, _, g, h, rfl, ⟨by rw [HN.out.1, HN.out.2]; exact hx4, hg4, hh4⟩, by omega, by omega, by omega⟩, HB2.out.trans ((hB3.trans (hB4.mono hB3.size)).mono HB2.out.size)⟩
theorem of_any (ba : Option Addr) (bc n : Nat) (la : Option Addr) (lc m : Nat) (bs : List Br) (ls : List Ln) (w : World) (hBs : Brs w ba bs) (hbn : bs.length = n) (hLs : Lns w la ls) (hln : ls.length = m) (hle : m ≤ lc) (hmx : lc ≤ maxLen) (hn : n ≤ 100) (hm : m ≤ 100)
    (hwf : ∀ x ∈ bs, (Lit.int .u64 x.2.1).wf = true) (hst : ∀ x ∈ bs, x.1.size ≤ 9223372036854775807) :
    Calls Tryd.prog (10) #[.slice ba n bc, .slice la m lc] w (OfPost bs ls w) :=
  (of_new ba bc n la lc m bs ls w hBs hbn hLs hln hle hmx hn hm hwf hst).mono (by
    rintro e w' ⟨⟨h, rfl⟩ | ⟨h, p, g, k, rfl, ht, -, -, -⟩, hB⟩
    · exact ⟨.inl ⟨h, rfl⟩, hB⟩
    · exact ⟨.inr ⟨h, p, rfl, ht.is⟩, hB⟩)
end Go.Proofs.YtacibennmcegfaaDoor
