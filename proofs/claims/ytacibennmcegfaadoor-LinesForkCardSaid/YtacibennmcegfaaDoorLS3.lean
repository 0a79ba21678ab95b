/- lines: Drop. Condition: branches and lines sorted, fewer than 1000000, not none. -/
import Derived.Test.YtacibennmcegfaaDoorLS2
namespace Go.Proofs.YtacibennmcegfaaDoor
open Go.RowKit Go.Shelf Go.Herb

def DropPost (bs : List Br) (ls : List Ln) (name : ByteArray) (w : World) (e : Ending) (w' : World) : Prop :=
  ((∃ er : Int, er ≠ 0 ∧ e = .returned (.tuple #[.pointer none, .int .i64 er]) ∧ ((∀ x ∈ bs, x.1 ≠ name) ∨ bs.length = 1)) ∨
    (∃ (q i : Nat) (x : Br), bs[i]? = some x ∧ x.1 = name ∧ bs.length ≠ 1 ∧ e = .returned (.tuple #[.pointer (some ⟨q, 0, none⟩), .int .i64 0]) ∧ TreeIs w' q (bs.take i ++ bs.drop (i + 1)) ls)) ∧ Below w.heap.size w w'
set_option maxRecDepth 100000 in
set_option maxHeartbeats 1000000 in
theorem drop_any {bs : List Br} {ls : List Ln} (p : Nat) (name : ByteArray) (w : World) (h : TreeIs w p bs ls) (hsB : SrtB bs) (hb0 : 0 < bs.length) (hb1 : bs.length < 1000000) (hl0 : 0 < ls.length) (hl1 : ls.length < 1000000) :
    Calls Tryd.prog 18 #[.pointer (some ⟨p, 0, none⟩), .string name] w (DropPost bs ls name w) := by
  have HF : Hid (Calls Tryd.prog 38 #[.pointer (some ⟨p, 0, none⟩), .string name] w fun e w' => ∃ (i : Nat) (er : Int), e = .returned (.tuple #[.int .i64 i, .int .i64 er]) ∧ Hid ((er = 0 ∧ ∃ x, bs[i]? = some x ∧ x.1 = name) ∨ (er = 7 ∧ ∀ x ∈ bs, x.1 ≠ name)) ∧ Below w.heap.size w w') := Lib.hid ((found_any p name w h hsB hb1).mono (by
    rintro e w' ⟨⟨i, x, rfl, hx, hk⟩ | ⟨rfl, hno⟩, hB⟩
    · exact ⟨i, 0, rfl, Lib.hid (.inl ⟨rfl, x, hx, hk⟩), hB⟩
    · exact ⟨0, 7, rfl, Lib.hid (.inr ⟨rfl, hno⟩), hB⟩))
  obtain ⟨ba, bc, la, lc, h1, h2, h3⟩ := h.blk
  obtain ⟨n, hn⟩ : ∃ n, bs.length = n := ⟨_, rfl⟩
  obtain ⟨m, hm⟩ : ∃ m, ls.length = m := ⟨_, rfl⟩
  rw [hn, hm] at h1
  have HC : Hid (∀ u, Below w.heap.size w u → u.cell? ⟨p, 0, none⟩ = some (.slice ba n bc) ∧ u.cell? ⟨p, 1, none⟩ = some (.slice la m lc)) := Lib.hid (fun u hu => by
    have g0 := cell_of_blk (blk_below h1 hu h.lt) 0
    have g1 := cell_of_blk (blk_below h1 hu h.lt) 1
    simp at g0 g1
    exact ⟨g0, g1⟩)
  have HCP := Lib.hid (fun u (hu : Below w.heap.size w u) => copied_any ba bc n la lc m bs ls u (h2.ext hu) (h3.ext hu) hn hm (by omega) (by omega) (by omega) (by omega))
  have HN := Lib.hid (show bs.length = n ∧ ls.length = m ∧ n < 1000000 ∧ m < 1000000 ∧ 0 < n from ⟨hn, hm, by omega, by omega, by omega⟩)
  clear h hsB hb0 hb1 hl0 hl1 h1 h2 h3 hn hm
  go_enter Tryd.func18, Tryd.ntmps18
  go_upto_region 2 with (go_at_call 38; refine HF.out.mono ?_; rintro e w1 ⟨i, er, rfl, HX, hB1⟩)
  have HB1 := Lib.hid hB1
  obtain ⟨c0, c1⟩ := HC.out w1 hB1
  clear HF hB1
  rcases HX.out with ⟨rfl, hx⟩ | ⟨rfl, hno⟩
  case inr =>
    have HE := Lib.hid hno
    clear hno HX HCP HC
    go_wp2_with fail
    go_ret2
    exact ⟨.inl ⟨7, by decide, rfl, .inl HE.out⟩, HB1.out⟩
  have HXX := Lib.hid hx
  clear hx HX
  by_cases hn1 : n = 1
  · have HE := Lib.hid hn1
    have q1 : ((n : Int) == 1) = true := by rw [hn1]; rfl
    clear hn1 HCP HC
    go_wp2_with fail
    go_ret2
    exact ⟨.inl ⟨1, by decide, rfl, .inr (by rw [HN.out.1, HE.out])⟩, HB1.out⟩
  have q1 : ((n : Int) == 1) = false := beq_eq_false_iff_ne.2 (by omega)
  have HN1 := Lib.hid hn1
  clear hn1
  go_upto_region 7 with (go_at_call 26; refine (HCP.out _ HB1.out).mono ?_; rintro e w5 ⟨g, h, rfl, hg, hh, hg0, hh0, hgh, hB5⟩)
  have HB5 := Lib.hid (HB1.out.trans (hB5.mono HB1.out.size))
  have HIL := Lib.hid (show i < n from by obtain ⟨x, hx, -⟩ := HXX.out; obtain ⟨h, -⟩ := List.getElem?_eq_some_iff.1 hx; have := HN.out.1; omega)
  obtain ⟨W6, hW6⟩ : ∃ W6 : World, W6 = w5.alloc (.cells #[.slice (some ⟨g, 0, none⟩) n n, .slice (some ⟨h, 0, none⟩) m m] (59)) := ⟨_, rfl⟩
  have hp6 : W6.heap[w5.heap.size]? = some (.cells #[.slice (some ⟨g, 0, none⟩) n n, .slice (some ⟨h, 0, none⟩) m m] (59) (0, 0)) := by rw [hW6]; exact blk_new_at rfl _
  have hg6 : W6.heap[g]? = some (.cells (bs.flatMap brc).toArray (45) (0, 0)) := by rw [hW6]; exact blk_alloc hg
  have hh6 : W6.heap[h]? = some (.cells (ls.flatMap lnc).toArray (36) (0, 0)) := by rw [hW6]; exact blk_alloc hh
  have HB6 := Lib.hid (show Below w.heap.size w W6 from by rw [hW6]; exact balc HB5.out)
  have HG := Lib.hid (show w.heap.size ≤ g ∧ w.heap.size ≤ h ∧ g ≠ h ∧ g < w5.heap.size ∧ h < w5.heap.size ∧ w.heap.size ≤ w5.heap.size from ⟨by have := HB1.out.size; omega, by have := HB1.out.size; omega, hgh, lt_of_blk hg, lt_of_blk hh, HB5.out.size⟩)
  have HDEL := Lib.hid (delete_any g n i bs W6 hg6 HN.out.1 HIL.out HN.out.2.2.1)
  have HP6 := Lib.hid hp6
  have HH6 := Lib.hid hh6
  have e1 : IntKind.i64.wrap ((i : Int) + 1) = (i : Int) + 1 := IntWalk.i64_in _ (by have := HN.out; have := HIL.out; omega)
  have c60 := cell_of_blk hp6 0
  simp at c60
  clear hg hh hg0 hh0 hgh hB5 HCP hg6 hh6 hp6 c0 c1 HC HB5 q1
  subst hW6
  go_upto_region 8 with fail
  refine HDEL.out.mono ?_
  rintro e w7 ⟨R, rfl, hg7, hro⟩
  have hp7 : w7.heap[w5.heap.size]? = some (.cells #[.slice (some ⟨g, 0, none⟩) n n, .slice (some ⟨h, 0, none⟩) m m] (59) (0, 0)) := (hro.same _ (by have := HG.out; omega)).trans HP6.out
  have hh7 : w7.heap[h]? = some (.cells (ls.flatMap lnc).toArray (36) (0, 0)) := (hro.same _ (by have := HG.out; omega)).trans HH6.out
  have hB7 : Below w.heap.size w w7 := HB6.out.trans (hro.below _ HG.out.1)
  obtain ⟨W8, hW8⟩ : ∃ W8 : World, W8 = w7.setCell ⟨w5.heap.size, 0, none⟩ (.slice (some ⟨g, 0, none⟩) (n - 1) n) := ⟨_, rfl⟩
  have hp8 : W8.heap[w5.heap.size]? = some (.cells #[.slice (some ⟨g, 0, none⟩) (n - 1) n, .slice (some ⟨h, 0, none⟩) m m] (59) (0, 0)) := by rw [hW8]; exact blk_setCell hp7 _
  have hg8 : W8.heap[g]? = some (.cells ((bs.take i ++ bs.drop (i + 1)).flatMap brc ++ R).toArray (45) (0, 0)) := by rw [hW8]; exact blk_setCell_other hg7 (by show g ≠ w5.heap.size; have := HG.out; omega) _
  have hh8 : W8.heap[h]? = some (.cells (ls.flatMap lnc).toArray (36) (0, 0)) := by rw [hW8]; exact blk_setCell_other hh7 (by show h ≠ w5.heap.size; have := HG.out; omega) _
  have HB8 := Lib.hid (show Below w.heap.size w W8 from by rw [hW8]; exact hB7.setCell (by show w.heap.size ≤ w5.heap.size; exact HG.out.2.2.2.2.2) _)
  have hl : (bs.take i ++ bs.drop (i + 1)).length = n - 1 := by
    have := HN.out.1
    have := HIL.out
    rw [List.length_append, List.length_take, List.length_drop]
    omega
  have HFIN : Hid (∀ (q : Nat) (u : World), u.heap[q]? = some (.cells #[.slice (some ⟨g, 0, none⟩) (n - 1) n, .slice (some ⟨h, 0, none⟩) m m, .int .i64 1] (61) (0, 0)) → Below W8.heap.size W8 u → DropPost bs ls name w (.returned (.tuple #[.pointer (some ⟨q, 0, none⟩), .int .i64 0])) u) := Lib.hid (fun q u hu hb => by
    obtain ⟨x, hx, hk⟩ := HXX.out
    exact ⟨.inr ⟨q, i, x, hx, hk, by rw [HN.out.1]; exact HN1.out, rfl, ⟨_, _, _, _, by rw [hl, HN.out.2.1]; exact hu, (els_of_pre (R := R) brc_len hg8 (by simp)).ext hb, (els_of_blk lnc_len hh8).ext hb⟩⟩, HB8.out.trans (hb.mono HB8.out.size)⟩)
  have HMD := Lib.hid (made_any (some ⟨g, 0, none⟩) (n - 1) n (some ⟨h, 0, none⟩) m m W8)
  have e70 := cell_of_blk hp7 0
  have f70 := frozen_of_blk hp7 0
  have e80 := cell_of_blk hp8 0
  have e81 := cell_of_blk hp8 1
  simp at e70 e80 e81
  clear hg7 hro hp7 hh7 hB7 hp8 hg8 hh8 hl HDEL HP6 HH6 HG HB6 HB8 HN HIL HXX HN1 HB1 c60 e1
  subst hW8
  go_wp2_with (go_at_call 25; refine (HMD.out).mono ?_; rintro e w11 ⟨rfl, hx11, hB11⟩)
  go_ret2
  exact HFIN.out _ _ (by simpa only [World.size_setCell] using hx11) hB11
end Go.Proofs.YtacibennmcegfaaDoor
