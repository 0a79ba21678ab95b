/- lines: Fork: the walk. Condition: branches and lines sorted, fewer than 1000000, not none. -/
import Derived.Test.YtacibennmcegfaaDoorLP5
namespace Go.Proofs.YtacibennmcegfaaDoor
open Go.RowKit Go.Shelf Go.Herb

def ForkPost (bs : List Br) (ls : List Ln) (name frm : ByteArray) (seq : Int) (w : World) (e : Ending) (w' : World) : Prop :=
  ((¬ ForkOk bs ls name frm seq ∧ ∃ er : Int, er ≠ 0 ∧ e = .returned (.tuple #[.pointer none, .int .i64 er])) ∨
    (ForkOk bs ls name frm seq ∧ ∃ (p i : Nat) (old : Br), e = .returned (.tuple #[.pointer (some ⟨p, 0, none⟩), .int .i64 0]) ∧ old ∈ bs ∧ old.1 = frm ∧ PlaceB bs name i ∧
      TreeIs w' p (bs.take i ++ (name, seq, old.2.2) :: bs.drop i) (ls ++ [(seq, old.2.1)]))) ∧ Below w.heap.size w w'
set_option maxRecDepth 100000 in
set_option maxHeartbeats 1000000 in
theorem fork_any {bs : List Br} {ls : List Ln} (p : Nat) (name frm : ByteArray) (seq : Int) (w : World) (h : TreeIs w p bs ls) (hsB : SrtB bs) (hsL : SrtL ls) (hb0 : 0 < bs.length) (hb1 : bs.length < 1000000) (hl0 : 0 < ls.length) (hl1 : ls.length < 1000000) (hnm : name.size ≤ 9223372036854775807) :
    Calls Tryd.prog (16) #[.pointer (some ⟨p, 0, none⟩), .string name, .string frm, .int .u64 seq] w (ForkPost bs ls name frm seq w) := by
  have HT := Lib.hid (there_any p w h)
  have HF : Hid (Calls Tryd.prog (17) #[.pointer (some ⟨p, 0, none⟩), .string frm] w fun e w' => ∃ (x : Br) (er : Int), e = .returned (.tuple #[brV x, .int .i64 er]) ∧ Hid ((er = 0 ∧ x ∈ bs ∧ x.1 = frm) ∨ (er = 7 ∧ ∀ y ∈ bs, y.1 ≠ frm)) ∧ Below w.heap.size w w') := Lib.hid ((find_any p frm w h hsB hb1).mono (by
    rintro e w' ⟨⟨i, x, rfl, hx, hk⟩ | ⟨rfl, hno⟩, hB⟩
    · exact ⟨x, 0, rfl, Lib.hid (.inl ⟨rfl, List.mem_of_getElem? hx, hk⟩), hB⟩
    · exact ⟨_, 7, rfl, Lib.hid (.inr ⟨rfl, hno⟩), hB⟩))
  obtain ⟨ba, bc, la, lc, h1, h2, h3⟩ := h.blk
  obtain ⟨n, hn⟩ : ∃ n, bs.length = n := ⟨_, rfl⟩
  obtain ⟨lm, hlm⟩ : ∃ lm, ls.length = lm := ⟨_, rfl⟩
  obtain ⟨m, hm⟩ : ∃ m, m + 1 = lm := ⟨lm - 1, by omega⟩
  rw [hn, hlm] at h1
  have hml : m < ls.length := by omega
  obtain ⟨b, o, rfl, hlb, hcell⟩ := h3.get m hml
  have HY := Lib.hid (show ∀ x ∈ ls, x.1 ≤ (ls[m]).1 from srtL_last hsL (List.getElem?_eq_getElem hml) (by omega))
  have hc0 := hcell 0 _ rfl
  have HYM := Lib.hid (show (ls[m]) ∈ ls from List.getElem_mem hml)
  generalize ls[m] = y at hc0 HY HYM hcell
  simp only [Nat.add_zero] at hc0
  have HC : Hid (∀ u, Below w.heap.size w u → u.cell? ⟨p, 0, none⟩ = some (.slice ba n bc) ∧ u.cell? ⟨p, 1, none⟩ = some (.slice (some ⟨b, o, none⟩) lm lc) ∧ u.cell? ⟨b, o + m * 2, none⟩ = some (.int .u64 y.1)) := Lib.hid (fun u hu => by
    have g0 := cell_of_blk (blk_below h1 hu h.lt) 0
    have g1 := cell_of_blk (blk_below h1 hu h.lt) 1
    simp at g0 g1
    exact ⟨g0, g1, (hu.cell (p := ⟨b, _, none⟩) hlb).trans hc0⟩)
  have HBB := Lib.hid (fun u (hu : Below w.heap.size w u) => bsB_any ba bc n bs name u (h2.ext hu) hn (by omega) hsB)
  have HNM := Lib.hid (fun u => isName_any name u hnm)
  have HCP := Lib.hid (fun u (hu : Below w.heap.size w u) => copied_any ba bc n (some ⟨b, o, none⟩) lc lm bs ls u (h2.ext hu) (h3.ext hu) hn hlm (by omega) (by omega) (by omega) (by omega))
  obtain ⟨nb, hnb⟩ : ∃ nb, nb = nameB name := ⟨_, rfl⟩
  rw [← hnb] at HNM
  have HNB := Lib.hid hnb
  have HN := Lib.hid (show bs.length = n ∧ ls.length = lm ∧ m + 1 = lm ∧ n < 1000000 ∧ lm < 1000000 ∧ 0 < n from ⟨hn, hlm, hm, by omega, by omega, by omega⟩)
  have HS := Lib.hid hsB
  clear h hsB hsL hb0 hb1 hl0 hl1 hnm h1 h2 h3 hn hlm hml hlb hcell hc0 hnb hm
  go_enter Tryd.func16, Tryd.ntmps16
  go_upto_region 5 with (first
    | (go_at_call 27; refine HT.out.mono ?_; rintro e w' ⟨rfl, rfl⟩)
    | (go_at_call 17; refine HF.out.mono ?_; rintro e w1 ⟨x, er, rfl, HX, hB1⟩; obtain ⟨hk1, hk2, hk3⟩ := HC.out _ (balc (o := .cells #[.string x.1, .int .u64 x.2.1, .int .u64 x.2.2] (45)) hB1))
    | (go_at_call 34; refine (HBB.out _ (balc hB1)).mono ?_; rintro e w2 ⟨i, bb, rfl, hi, hlo, hhi, hb, hB2⟩))
  have HQB := Lib.hid (show w2.heap[w1.heap.size]? = some (.cells #[.string x.1, .int .u64 x.2.1, .int .u64 x.2.2] (45) (0, 0)) from blk_below (blk_new_at rfl _) hB2 (by rw [World.size_alloc]; omega))
  have HB2 := Lib.hid (show Below w.heap.size w w2 from Below.trans (balc (o := .cells #[.string x.1, .int .u64 x.2.1, .int .u64 x.2.2] (45)) hB1) (hB2.mono (by have := hB1.size; rw [World.size_alloc]; omega)))
  have HBI := Lib.hid (show (bb = true → ¬ ∀ y ∈ bs, y.1 ≠ name) ∧ (bb = false → PlaceB bs name i ∧ ∀ y ∈ bs, y.1 ≠ name) from by
    constructor
    · intro h1 h2
      obtain ⟨y, hy, e⟩ := hb.1 h1
      exact h2 y (List.mem_of_getElem? hy) (bytes_of_list e)
    · intro h1
      subst h1
      have hno := bb_none HN.out.1 HS.out hlo hhi (fun h => by have := hb.2 h; cases this)
      refine ⟨⟨by have := HN.out.1; omega, hlo, fun j y hj hy => ?_⟩, hno⟩
      have h3 := hhi j y hj hy
      have h4 := hno y (List.mem_of_getElem? hy)
      rcases List.le_iff_lt_or_eq.1 (List.not_lt.1 h3) with h5 | h5
      · exact h5
      · exact absurd (bytes_of_list h5.symm) h4)
  have HI := Lib.hid hi
  clear hB1 hB2 hlo hhi hb hi hk1 hk2 hk3 HT HF HBB HS
  cases nb with
  | false =>
    go_wp2_with (go_at_call 36; refine (HNM.out _).mono ?_; rintro e w3 ⟨rfl, hB3⟩)
    go_ret2
    exact ⟨.inl ⟨fun h => (by have := h.isn; rw [← HNB.out] at this; cases this), 1, by decide, rfl⟩, HB2.out.trans (hB3.mono HB2.out.size)⟩
  | true =>
    go_upto_region 6 with (go_at_call 36; refine (HNM.out _).mono ?_; rintro e w3 ⟨rfl, hB3⟩)
    have HB3 := Lib.hid (HB2.out.trans (hB3.mono HB2.out.size))
    have q1 : IntKind.i64.wrap ((lm : Int) - 1) = (m : Int) := by
      have := HN.out
      rw [IntWalk.i64_in _ (by omega)]
      omega
    have q2 : (0 : Int) ≤ (m : Int) := by omega
    have q3 : (m : Int) < (lm : Int) := by have := HN.out; omega
    clear HNM
    by_cases hq : seq ≤ y.1
    · have HE := Lib.hid (show ¬ ForkOk bs ls name frm seq from fun h => by have := h.rise y HYM.out; omega)
      clear HY HYM HBI HX HCP HNB HI HQB
      go_region_held3 (fun u => u.cell? ⟨p, 1, none⟩ = some (.slice (some ⟨b, o, none⟩) lm lc) ∧ u.cell? ⟨b, o + m * 2, none⟩ = some (.int .u64 y.1)) (exact (HC.out _ (by first | exact HB3.out | exact bdrw HB3.out)).2) (first | fail)
      all_goals go_wp2_with fail
      all_goals go_ret2
      all_goals exact ⟨.inl ⟨HE.out, 1, by decide, rfl⟩, bdrw HB3.out⟩
    · have hy := HY.out
      have HR := Lib.hid (show ∀ x ∈ ls, x.1 < seq from fun x hx => by have := hy x hx; omega)
      clear hy HY HYM
      go_region_held3 (fun u => u.cell? ⟨p, 1, none⟩ = some (.slice (some ⟨b, o, none⟩) lm lc) ∧ u.cell? ⟨b, o + m * 2, none⟩ = some (.int .u64 y.1)) (exact (HC.out _ (by first | exact HB3.out | exact bdrw HB3.out)).2) (first | fail)
      have HB4 := Lib.hid (bdrw HB3.out)
      have hQB := blk_below HQB.out hB3 (lt_of_blk HQB.out)
      have HQ4 := Lib.hid (show w3.drew.heap[w1.heap.size]? = some (.cells #[.string x.1, .int .u64 x.2.1, .int .u64 x.2.2] (45) (0, 0)) from hQB)
      clear hQB HQB hB3 HB2 HB3
      generalize w3.drew = w4 at *
      obtain ⟨hp0, hp1, -⟩ := HC.out _ HB4.out
      rcases HX.out with ⟨rfl, hx, hk⟩ | ⟨rfl, hno⟩
      case inr =>
        have HE := Lib.hid (show ¬ ForkOk bs ls name frm seq from fun h => by obtain ⟨z, h1, h2⟩ := h.has; exact hno z h1 h2)
        clear hno HX HBI HCP HNB HI HR HQ4 HC
        go_wp2_with fail
        go_ret2
        exact ⟨.inl ⟨HE.out, 7, by decide, rfl⟩, HB4.out⟩
      have HXX := Lib.hid (show x ∈ bs ∧ x.1 = frm from ⟨hx, hk⟩)
      clear hx hk HX
      cases bb with
      | true =>
        have HE := Lib.hid (show ¬ ForkOk bs ls name frm seq from fun h => HBI.out.1 rfl h.new)
        clear HBI HCP HNB HI HR HQ4 HC HXX
        go_wp2_with fail
        go_ret2
        exact ⟨.inl ⟨HE.out, 8, by decide, rfl⟩, HB4.out⟩
      | false =>
      by_cases hn12 : 12 ≤ n
      · have g1 : (n : Int) ≥ 12 := by omega
        have HE := Lib.hid (show ¬ ForkOk bs ls name frm seq from fun h => by have := h.nb; have := HN.out; omega)
        clear HBI HCP HNB HI HR HQ4 HC HXX hn12
        go_wp2_with fail
        go_ret2
        exact ⟨.inl ⟨HE.out, 3, by decide, rfl⟩, HB4.out⟩
      by_cases hl48 : 48 ≤ lm
      · have g1 : ¬ (n : Int) ≥ 12 := by omega
        have g2 : (lm : Int) ≥ 48 := by omega
        have HE := Lib.hid (show ¬ ForkOk bs ls name frm seq from fun h => by have := h.nl; have := HN.out; omega)
        clear HBI HCP HNB HI HR HQ4 HC HXX hn12 hl48
        go_wp2_with fail
        go_ret2
        exact ⟨.inl ⟨HE.out, 3, by decide, rfl⟩, HB4.out⟩
      have g1 : ¬ (n : Int) ≥ 12 := by omega
      have g2 : ¬ (lm : Int) ≥ 48 := by omega
      have HOK := Lib.hid (show ForkOk bs ls name frm seq from ⟨HNB.out.symm, HR.out, ⟨x, HXX.out⟩, (HBI.out.2 rfl).2, by have := HN.out; omega, by have := HN.out; omega⟩)
      have HPL := Lib.hid (HBI.out.2 rfl).1
      clear HBI HNB HR hn12 hl48 HC
      have hq4 := HQ4.out
      go_upto_region 16 with (go_at_call 26; refine (HCP.out _ HB4.out).mono ?_; rintro e w5 ⟨g, h, rfl, hg, hh, hg0, hh0, hgh, hB5⟩)
      have HB5 := Lib.hid (HB4.out.trans (hB5.mono HB4.out.size))
      have HLN := Lib.hid (show bs.length = n ∧ ls.length = lm from ⟨HN.out.1, HN.out.2.1⟩)
      obtain ⟨W6, hW6⟩ : ∃ W6 : World, W6 = w5.alloc (.cells #[.slice (some ⟨g, 0, none⟩) n n, .slice (some ⟨h, 0, none⟩) lm lm] (59)) := ⟨_, rfl⟩
      have hB6 : Below w.heap.size w W6 := by rw [hW6]; exact balc HB5.out
      have hg6 : W6.heap[g]? = some (.cells (bs.flatMap brc).toArray (45) (0, 0)) := by rw [hW6]; exact blk_alloc hg
      have hh6 : W6.heap[h]? = some (.cells (ls.flatMap lnc).toArray (36) (0, 0)) := by rw [hW6]; exact blk_alloc hh
      have hq6 : W6.heap[w1.heap.size]? = some (.cells #[.string x.1, .int .u64 x.2.1, .int .u64 x.2.2] (45) (0, 0)) := by rw [hW6]; exact blk_alloc (blk_below HQ4.out hB5 (lt_of_blk HQ4.out))
      have hp6 : W6.heap[w5.heap.size]? = some (.cells #[.slice (some ⟨g, 0, none⟩) n n, .slice (some ⟨h, 0, none⟩) lm lm] (59) (0, 0)) := by rw [hW6]; exact blk_new_at rfl _
      have c60 := cell_of_blk hp6 0
      have q62 := cell_of_blk hq6 2
      simp at c60 q62
      have HINS := Lib.hid (fun (vb : Nat) (u : World) (hu : Below W6.heap.size W6 u) (hv : u.heap[vb]? = some (.cells #[.string name, .int .u64 seq, .int .u64 x.2.2] (45) (0, 0))) => insert_any g n i vb (name, seq, x.2.2) bs u (els_of_blk brc_len (blk_below hg6 hu (lt_of_blk hg6))) hv HN.out.1 (by have := HN.out; omega) (by have := HI.out; omega) (by have := HN.out; omega))
      have HG6 := Lib.hid (show W6.heap[h]? = some (.cells (ls.flatMap lnc).toArray (36) (0, 0)) ∧ W6.heap[w1.heap.size]? = some (.cells #[.string x.1, .int .u64 x.2.1, .int .u64 x.2.2] (45) (0, 0)) ∧ W6.heap[w5.heap.size]? = some (.cells #[.slice (some ⟨g, 0, none⟩) n n, .slice (some ⟨h, 0, none⟩) lm lm] (59) (0, 0)) ∧ Below w.heap.size w W6 ∧ w.heap.size ≤ w5.heap.size ∧ W6.heap.size = w5.heap.size + 1 ∧ w1.heap.size < w5.heap.size ∧ h < w5.heap.size from ⟨hh6, hq6, hp6, hB6, HB5.out.size, by rw [hW6, World.size_alloc], by have := lt_of_blk (blk_below HQ4.out hB5 (lt_of_blk HQ4.out)); exact this, lt_of_blk hh⟩)
      clear hB6 hg6 hh6 hq6 hp6 hg hh hg0 hh0 hgh hB5 hq4 HQ4 HB4 HB5 HCP hp0 hp1 g1 g2 q1 q2 q3 hq
      subst hW6
      go_upto_region 17 with fail
      refine (HINS.out _ _ ((Below.refl _ _).alloc (Nat.le_refl _) _) (blk_new_at (by simp) _)).mono ?_
      rintro e w7 ⟨g2, c2, rfl, hE7, hB7, hg7⟩
      obtain ⟨hh6, hq6, hp6, hB6, hw5, hs6, hw1, hh5⟩ := HG6.out
      have hp7 := blk_below (blk_alloc hp6) hB7 (lt_of_blk (blk_alloc hp6))
      have hh7 := blk_below (blk_alloc hh6) hB7 (lt_of_blk (blk_alloc hh6))
      have hq7 := blk_below (blk_alloc hq6) hB7 (lt_of_blk (blk_alloc hq6))
      have hB7w := (balc hB6).trans (hB7.mono (balc hB6).size)
      have hg2 : w5.heap.size < g2 := by rw [World.size_alloc, World.size_alloc] at hg7; omega
      obtain ⟨W7, hW7⟩ : ∃ W7 : World, W7 = w7.setCell ⟨w5.heap.size, 0, none⟩ (.slice (some ⟨g2, 0, none⟩) (n + 1) c2) := ⟨_, rfl⟩
      have hs7 : W7.heap.size = w7.heap.size := by rw [hW7, World.size_setCell]
      have hp8 : W7.heap[w5.heap.size]? = some (.cells #[.slice (some ⟨g2, 0, none⟩) (n + 1) c2, .slice (some ⟨h, 0, none⟩) lm lm] (59) (0, 0)) := by rw [hW7]; exact blk_setCell hp7 _
      have hh8 : W7.heap[h]? = some (.cells (ls.flatMap lnc).toArray (36) (0, 0)) := by rw [hW7]; exact blk_setCell_other hh7 (by show h ≠ w5.heap.size; omega) _
      have hq8 : W7.heap[w1.heap.size]? = some (.cells #[.string x.1, .int .u64 x.2.1, .int .u64 x.2.2] (45) (0, 0)) := by rw [hW7]; exact blk_setCell_other hq7 (by show w1.heap.size ≠ w5.heap.size; omega) _
      have hE8 : Brs W7 (some ⟨g2, 0, none⟩) (bs.take i ++ (name, seq, x.2.2) :: bs.drop i) := els_same hE7 (by rw [hW7]; exact Below.heap_setCell _ _ _ _ (by show g2 ≠ w5.heap.size; omega))
      have hB8 : Below w.heap.size w W7 := by rw [hW7]; exact hB7w.setCell (by show w.heap.size ≤ w5.heap.size; exact hw5) _
      obtain ⟨W8, hW8⟩ : ∃ W8 : World, W8 = W7.alloc (.cells #[.int .u64 seq, .int .u64 x.2.1] (36)) := ⟨_, rfl⟩
      have hs8 : W8.heap.size = w7.heap.size + 1 := by rw [hW8, World.size_alloc, hs7]
      have hBa : Below W7.heap.size W7 W8 := by rw [hW8]; exact (Below.refl _ _).alloc (Nat.le_refl _) _
      have hv8 : W8.heap[w7.heap.size]? = some (.cells #[.int .u64 seq, .int .u64 x.2.1] (36) (0, 0)) := by rw [hW8]; exact blk_new_at hs7.symm _
      obtain ⟨i1, hin1, hy0, hy1, hy2⟩ := info_parts infoL
      obtain ⟨c9, w9, hr, hE9, hc9, hB9⟩ := run_append_full (P := Tryd.prog) lnc_len (by decide) lnc_one W8 (23) (36) i1 _ Tryd.underlying23 hin1 hy0 hy1 lm lm 1 1 (some ⟨h, 0, none⟩) (some ⟨w7.heap.size, 0, none⟩) ls [(seq, x.2.1)] (els_of_blk lnc_len (blk_below hh8 hBa (lt_of_blk hh8))) (els_of_blk lnc_len (by simpa [lnc] using hv8)) HLN.out.2 rfl (by have := HN.out; omega) (by decide) (by omega) (by have := HN.out; rw [hy2]; omega) (by have := HN.out; unfold maxLen; omega)
      rw [hs8] at hr hE9
      have hB79 := hBa.trans (hB9.mono hBa.size)
      have hp9 := blk_below hp8 hB79 (lt_of_blk hp8)
      obtain ⟨W10, hW10⟩ : ∃ W10 : World, W10 = w9.setCell ⟨w5.heap.size, 1, none⟩ (.slice (some ⟨w7.heap.size + 1, 0, none⟩) (lm + 1) c9) := ⟨_, rfl⟩
      have hp10 : W10.heap[w5.heap.size]? = some (.cells #[.slice (some ⟨g2, 0, none⟩) (n + 1) c2, .slice (some ⟨w7.heap.size + 1, 0, none⟩) (lm + 1) c9] (59) (0, 0)) := by rw [hW10]; exact blk_setCell hp9 _
      have hlt7 := lt_of_blk hp7
      have hE10 : Brs W10 (some ⟨g2, 0, none⟩) (bs.take i ++ (name, seq, x.2.2) :: bs.drop i) := els_same (hE8.ext hB79) (by rw [hW10]; exact Below.heap_setCell _ _ _ _ (by show g2 ≠ w5.heap.size; omega))
      have hL10 : Lns W10 (some ⟨w7.heap.size + 1, 0, none⟩) (ls ++ [(seq, x.2.1)]) := els_same hE9 (by rw [hW10]; exact Below.heap_setCell _ _ _ _ (by show w7.heap.size + 1 ≠ w5.heap.size; omega))
      have hB10 : Below w.heap.size w W10 := by rw [hW10]; exact (hB8.trans (hB79.mono hB8.size)).setCell (by show w.heap.size ≤ w5.heap.size; exact hw5) _
      have HFIN : Hid (∀ (q : Nat) (u : World), u.heap[q]? = some (.cells #[.slice (some ⟨g2, 0, none⟩) (n + 1) c2, .slice (some ⟨w7.heap.size + 1, 0, none⟩) (lm + 1) c9, .int .i64 1] (61) (0, 0)) → Below W10.heap.size W10 u → ForkPost bs ls name frm seq w (.returned (.tuple #[.pointer (some ⟨q, 0, none⟩), .int .i64 0])) u) := Lib.hid (fun q u hu hb => by
        have e1 : (bs.take i ++ (name, seq, x.2.2) :: bs.drop i).length = n + 1 := by
          have := HN.out.1
          have := HI.out
          rw [List.length_append, List.length_cons, List.length_take, List.length_drop]
          omega
        have e2 : (ls ++ [(seq, x.2.1)]).length = lm + 1 := by rw [List.length_append, HN.out.2.1]; rfl
        exact ⟨.inr ⟨HOK.out, q, i, x, rfl, HXX.out.1, HXX.out.2, HPL.out, ⟨_, _, _, _, by rw [e1, e2]; exact hu, hE10.ext hb, hL10.ext hb⟩⟩, hB10.trans (hb.mono hB10.size)⟩)
      have e70 := cell_of_blk hp7 0
      have f70 := frozen_of_blk hp7 0
      have e81 := cell_of_blk hp8 1
      have d81 := cell_of_blk hq8 1
      have e91 := cell_of_blk hp9 1
      have f91 := frozen_of_blk hp9 1
      have e100 := cell_of_blk hp10 0
      have e101 := cell_of_blk hp10 1
      simp at e70 e81 d81 e91 e100 e101
      have HMD := Lib.hid (made_any (some ⟨g2, 0, none⟩) (n + 1) c2 (some ⟨w7.heap.size + 1, 0, none⟩) (lm + 1) c9 W10)
      clear HINS HG6 hh6 hq6 hp6 hB6 hw5 hs6 hw1 hh5 hp7 hh7 hq7 hB7w hE7 hB7 hg7 hg2 hp8 hh8 hq8 hE8 hB8 hs8 hBa hv8 hin1 hy0 hy1 hy2 hE9 hc9 hB9 hB79 hp9 hp10 hlt7 hE10 hL10 hB10 HOK HXX HPL HI HN HLN hs7 c60 q62
      subst hW10
      subst hW8
      subst hW7
      go_upto_region 18 with (at_builtin; refine Lib.wpList_append_run _ rfl _ _ _ _ rfl _ _ rfl rfl _ _ (hr _) ?_)
      go_wp2_with (go_at_call 25; refine (HMD.out).mono ?_; rintro e w11 ⟨rfl, hx11, hB11⟩)
      go_ret2
      exact HFIN.out _ _ (by simpa only [World.size_setCell] using hx11) hB11
end Go.Proofs.YtacibennmcegfaaDoor
