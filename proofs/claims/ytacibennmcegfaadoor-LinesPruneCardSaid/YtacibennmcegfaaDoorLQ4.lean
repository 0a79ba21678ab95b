/- LinesAgain: its walk. No condition. -/
import Derived.Test.YtacibennmcegfaaDoorLQ4a
import Derived.Test.YtacibennmcegfaaDoorLQ1
import Derived.Test.YtacibennmcegfaaDoorLQ2
import Derived.Test.YtacibennmcegfaaDoorLR
namespace Go.Proofs.YtacibennmcegfaaDoor
open Go.RowKit Go.Shelf Go.Herb

/-- Branches, Lines, by their numbers. -/
theorem allB_n {bs : List Br} {ls : List Ln} (p n : Nat) (w : World) (h : TreeIs w p bs ls) (hn : bs.length = n) (h0 : 0 < n) (h1 : n < 1000000) :
    Calls Tryd.prog (12) #[.pointer (some ⟨p, 0, none⟩)] w fun e w' => ∃ (g : Nat) (R : List Value), e = .returned (.slice (some ⟨g, 0, none⟩) n n) ∧ w.heap.size ≤ g ∧ w'.heap[g]? = some (.cells (bs.flatMap brc ++ R).toArray (45) (0, 0)) ∧ Below w.heap.size w w' := by
  subst hn; exact allB_any p w h h0 h1
theorem allL_n {bs : List Br} {ls : List Ln} (p n : Nat) (w : World) (h : TreeIs w p bs ls) (hn : ls.length = n) (h0 : 0 < n) (h1 : n < 1000000) :
    Calls Tryd.prog (13) #[.pointer (some ⟨p, 0, none⟩)] w fun e w' => ∃ (g : Nat) (R : List Value), e = .returned (.slice (some ⟨g, 0, none⟩) n n) ∧ w.heap.size ≤ g ∧ w'.heap[g]? = some (.cells (ls.flatMap lnc ++ R).toArray (36) (0, 0)) ∧ Below w.heap.size w w' := by
  subst hn; exact allL_any p w h h0 h1
theorem els_pre {α : Type} {enc : α → List Value} {s g : Nat} {w : World} {t : TypeId} {fr : Nat × Nat} {xs : List α} {R : List Value} (hs : ∀ x, (enc x).length = s) (h : w.heap[g]? = some (.cells (xs.flatMap enc ++ R).toArray t fr)) : Els enc s w (some ⟨g, 0, none⟩) xs := els_of_pre (R := R) hs h (by simp)
set_option maxRecDepth 100000 in
set_option maxHeartbeats 2000000 in
theorem lawAgain_any (ba : Option Addr) (bc : Nat) (bs : List Br) (la : Option Addr) (lc : Nat) (ls : List Ln) (w : World) (sB : SIn brc 3 (fun q : Br => q.1.size ≤ maxLen ∧ U64 q.2.1 ∧ U64 q.2.2) w ba bc bs) (sL : SIn lnc 2 (fun q : Ln => U64 q.1 ∧ U64 q.2) w la lc ls) :
    Calls Tryd.prog (4) #[.agg #[.slice ba bs.length bc, .slice la ls.length lc]] w fun e w' => e = .returned (.bool true) ∧ Below w.heap.size w w' := by
  obtain ⟨nb, hnb⟩ : ∃ nb, nb = bs.length := ⟨_, rfl⟩
  obtain ⟨n, hn⟩ : ∃ n, n = ls.length := ⟨_, rfl⟩
  rw [← hnb, ← hn]
  obtain ⟨W, hW⟩ : ∃ W : World, W = w.alloc (.cells #[.slice ba nb bc, .slice la n lc] (25)) := ⟨_, rfl⟩
  have hB : Below w.heap.size w W := by rw [hW]; exact balc (Below.refl _ _)
  have hx0 : W.heap[w.heap.size]? = some (.cells #[.slice ba nb bc, .slice la n lc] (25) (0, 0)) := by rw [hW]; exact blk_new_at rfl _
  have HC : Hid (∀ u, Below W.heap.size W u → u.cell? ⟨w.heap.size, 0, none⟩ = some (.slice ba nb bc) ∧ u.cell? ⟨w.heap.size, 1, none⟩ = some (.slice la n lc)) := Lib.hid (fun u hu => by
    have h0 := cell_of_blk (blk_below hx0 hu (lt_of_blk hx0)) 0
    have h1 := cell_of_blk (blk_below hx0 hu (lt_of_blk hx0)) 1
    simp at h0 h1
    exact ⟨h0, h1⟩)
  have HOF := Lib.hid (fun (u : World) (hu : Below W.heap.size W u) (h1 : nb ≤ 100) (h2 : n ≤ 100) => of_new ba bc nb la lc n bs ls u (sB.els.ext (hB.trans (hu.mono hB.size))) hnb.symm (sL.els.ext (hB.trans (hu.mono hB.size))) hn.symm (by rw [hn]; exact sL.le) sL.max h1 h2 (fun x hx => (sB.all x hx).2.1) (fun x hx => by have := (sB.all x hx).1; unfold maxLen at this; omega))
  have HLS := Lib.hid (fun (u : World) (hu : Below W.heap.size W u) => sL.els.ext (hB.trans (hu.mono hB.size)))
  have HBS := Lib.hid (fun (u : World) (hu : Below W.heap.size W u) => sB.els.ext (hB.trans (hu.mono hB.size)))
  have HWF := Lib.hid (show (∀ x ∈ bs, (Lit.int .u64 x.2.1).wf = true) ∧ (∀ x ∈ bs, x.1.size ≤ 9223372036854775807) from ⟨fun x hx => (sB.all x hx).2.1, fun x hx => by have := (sB.all x hx).1; unfold maxLen at this; omega⟩)
  have HNB := Lib.hid hnb
  have HB := Lib.hid hB
  have HW := Lib.hid hW
  have HN := Lib.hid hn
  have hWs : w.heap.size + 1 = W.heap.size := by rw [hW]; simp
  clear hB hx0 sB sL hnb hn hW
  go_enter Tryd.func4, Tryd.ntmps4
  go_upto_region 1 with fail
  rw [← HW.out]
  obtain ⟨c0, c1⟩ := HC.out W (Below.refl _ _)
  go_wp2_with fail
  refine (great_any ba la none nb bc n lc 0 0 W).mono ?_
  rintro e w1 ⟨r, rfl, hr, hB1⟩
  clear c0 c1
  obtain ⟨c0, c1⟩ := HC.out w1 hB1
  cases r with
  | true =>
    have HB1 := Lib.hid (HB.out.trans (hB1.mono HB.out.size))
    clear hr HOF hB1
    go_wp2_with (go_at_call 9; refine (lives_any _).mono ?_; rintro e w9 ⟨rfl, hb9⟩)
    go_ret
    exact ⟨rfl, HB1.out.trans (hb9.mono HB1.out.size)⟩
  | false =>
  obtain ⟨g1, g2⟩ := hr rfl
  have HO := Lib.hid (HOF.out w1 hB1 g1 g2)
  have HBW := Lib.hid hB1
  have HG2 := Lib.hid g2
  clear hr HOF hB1 g1 g2
  go_wp2_with fail
  refine HO.out.mono ?_
  clear HO c0 c1
  rintro e w2 ⟨⟨-, rfl⟩ | ⟨hG, p, g, h, rfl, ht, hp0, hg0, hh0⟩, hB2⟩
  · have HB2 := Lib.hid (HB.out.trans ((HBW.out.trans (hB2.mono HBW.out.size)).mono HB.out.size))
    clear hB2
    go_wp2_with (go_at_call 9; refine (lives_any _).mono ?_; rintro e w9 ⟨rfl, hb9⟩)
    go_ret
    exact ⟨rfl, HB2.out.trans (hb9.mono HB2.out.size)⟩
  have HG := Lib.hid hG
  have HT := Lib.hid ht
  have HBW2 := Lib.hid (HBW.out.trans (hB2.mono HBW.out.size))
  have hnb1 : 0 < nb := by have := hG.b1; have := HNB.out; omega
  have hnb2 : nb ≤ 12 := by have := hG.b12; have := HNB.out; omega
  have hn1 : 0 < n := by have := hG.l1; have := HN.out; omega
  have hn2 : n ≤ 48 := by have := hG.nl; have := HN.out; omega
  clear hG ht hB2 HBW hp0 hg0 hh0
  go_wp2_with fail
  refine (allB_n p nb w2 HT.out.is HNB.out.symm hnb1 (by omega)).mono ?_
  rintro e w3 ⟨gB, RB, rfl, hgB, hhB, hB3⟩
  have HB3 := Lib.hid hB3
  go_wp2_with fail
  refine (allL_n p n w3 (HT.out.is.ext HB3.out) HN.out.symm hn1 (by omega)).mono ?_
  rintro e w4 ⟨gL, RL, rfl, hgL, hhL, hB4⟩
  have HB4 := Lib.hid (HB3.out.trans (hB4.mono HB3.out.size))
  have HGL := Lib.hid (show gB < gL ∧ w2.heap.size ≤ gB from ⟨by have := lt_of_blk hhB; omega, hgB⟩)
  have HHB := Lib.hid (blk_below hhB hB4 (lt_of_blk hhB))
  have HHL := Lib.hid hhL
  clear hB3 hB4 hhB hhL hgB hgL
  go_wp2_with fail
  refine (of_new (some ⟨gB, 0, none⟩) nb nb (some ⟨gL, 0, none⟩) n n bs ls w4 (els_pre brc_len HHB.out) HNB.out.symm (els_pre lnc_len HHL.out) HN.out.symm (Nat.le_refl _) (by unfold maxLen; omega) (by omega) (by omega) HWF.out.1 HWF.out.2).mono ?_
  rintro e w5 ⟨⟨hno, -⟩ | ⟨-, p2, g2, h2, rfl, ht2, s1, s2, s3⟩, hB5⟩
  · exact absurd HG.out hno
  have HT2 := Lib.hid ht2
  have HS := Lib.hid (show w4.heap.size ≤ p2 ∧ w4.heap.size ≤ g2 ∧ w4.heap.size ≤ h2 from ⟨s1, s2, s3⟩)
  have HB5 := Lib.hid (HB4.out.trans (hB5.mono HB4.out.size))
  have HB45 := Lib.hid hB5
  have HBW5 := Lib.hid (HBW2.out.trans (HB5.out.mono HBW2.out.size))
  clear ht2 s1 s2 s3 hB5 HB4 HB3 HWF
  have HSB := Lib.hid (fun (u : World) (a a' : Option Addr) (c c' : Nat) (h1 : Brs u a bs) (h2 : Brs u a' bs) => sameB_any a a' c c' nb bs u h1 h2 HNB.out.symm (by omega))
  have HSL := Lib.hid (fun (u : World) (a a' : Option Addr) (c c' : Nat) (h1 : Lns u a ls) (h2 : Lns u a' ls) => sameL_any a a' c c' n ls u h1 h2 HN.out.symm (by omega))
  have HEB := Lib.hid (fun (u : World) (hu : Below w5.heap.size w5 u) => els_pre brc_len (blk_below (blk_below HHB.out HB45.out (lt_of_blk HHB.out)) hu (Nat.lt_of_lt_of_le (lt_of_blk HHB.out) HB45.out.size)))
  have HEL := Lib.hid (fun (u : World) (hu : Below w5.heap.size w5 u) => els_pre lnc_len (blk_below (blk_below HHL.out HB45.out (lt_of_blk HHL.out)) hu (Nat.lt_of_lt_of_le (lt_of_blk HHL.out) HB45.out.size)))
  have HZB := Lib.hid (fun (u : World) (hu : Below w5.heap.size w5 u) => HBS.out u (HBW5.out.trans (hu.mono HBW5.out.size)))
  have HZL := Lib.hid (fun (u : World) (hu : Below w5.heap.size w5 u) => HLS.out u (HBW5.out.trans (hu.mono HBW5.out.size)))
  have HZC := Lib.hid (fun (u : World) (hu : Below w5.heap.size w5 u) => HC.out u (HBW5.out.trans (hu.mono HBW5.out.size)))
  obtain ⟨c0, c1⟩ := HZC.out w5 (Below.refl _ _)
  go_wp2_with fail
  refine (HSB.out w5 (some ⟨gB, 0, none⟩) ba nb bc (HEB.out _ (Below.refl _ _)) (HZB.out _ (Below.refl _ _))).mono ?_
  rintro e w6 ⟨rfl, hB6⟩
  have HB6 := Lib.hid hB6
  clear c0 c1 hB6
  obtain ⟨c0, c1⟩ := HZC.out w6 HB6.out
  go_wp2_with fail
  refine (HSL.out w6 (some ⟨gL, 0, none⟩) la n lc (HEL.out _ HB6.out) (HZL.out _ HB6.out)).mono ?_
  rintro e w7 ⟨rfl, hB7⟩
  have HB7 := Lib.hid (HB6.out.trans (hB7.mono HB6.out.size))
  clear c0 c1 hB7 HB6
  go_wp2_with fail
  refine (allB_n p2 nb w7 (HT2.out.is.ext HB7.out) HNB.out.symm hnb1 (by omega)).mono ?_
  rintro e w8 ⟨gU, RU, rfl, hgU, hhU, hB8⟩
  have HB8 := Lib.hid (HB7.out.trans (hB8.mono HB7.out.size))
  have HEU := Lib.hid (els_pre brc_len hhU)
  clear hB8 hgU hhU HB7
  go_wp2_with fail
  refine (HSB.out w8 (some ⟨gU, 0, none⟩) (some ⟨gB, 0, none⟩) nb nb HEU.out (HEB.out _ HB8.out)).mono ?_
  rintro e w9 ⟨rfl, hB9⟩
  have HB9 := Lib.hid (HB8.out.trans (hB9.mono HB8.out.size))
  clear hB9 HB8 HEU
  go_wp2_with fail
  refine (allL_n p2 n w9 (HT2.out.is.ext HB9.out) HN.out.symm hn1 (by omega)).mono ?_
  rintro e w10 ⟨gV, RV, rfl, hgV, hhV, hB10⟩
  have HB10 := Lib.hid (HB9.out.trans (hB10.mono HB9.out.size))
  have HEV := Lib.hid (els_pre lnc_len hhV)
  clear hB10 hgV hhV HB9
  go_wp2_with fail
  refine (HSL.out w10 (some ⟨gV, 0, none⟩) (some ⟨gL, 0, none⟩) n n HEV.out (HEL.out _ HB10.out)).mono ?_
  rintro e w11 ⟨rfl, hB11⟩
  have HB11 := Lib.hid (HB10.out.trans (hB11.mono HB10.out.size))
  have HHB11 := Lib.hid (show w11.heap[gB]? = some (.cells (bs.flatMap brc ++ RB).toArray (45) (0, 0)) from blk_below (blk_below HHB.out HB45.out (lt_of_blk HHB.out)) HB11.out (Nat.lt_of_lt_of_le (lt_of_blk HHB.out) HB45.out.size))
  have HHL11 := Lib.hid (show w11.heap[gL]? = some (.cells (ls.flatMap lnc ++ RL).toArray (36) (0, 0)) from blk_below (blk_below HHL.out HB45.out (lt_of_blk HHL.out)) HB11.out (Nat.lt_of_lt_of_le (lt_of_blk HHL.out) HB45.out.size))
  have HKB : Hid (∀ (b o : Nat) (xs : List Br), Els brc 3 w11 (some ⟨b, o, none⟩) xs → True) := Lib.hid (fun _ _ _ _ => trivial)
  clear hB11 HB10 HEV HSB HSL HEB HEL HZB HZL HZC HKB
  go_wp2_with fail
  go_loopg [9] nb (fun gk iv wr => ∃ i : Nat, i + gk = nb ∧ iv = .int .i64 i ∧ Hid (∃ cur : Array Value, wr.heap[gB]? = some (.cells cur (45) (0, 0)) ∧ ∀ t, t < nb → ∃ v, cur[t * 3 + 2]? = some (.int .u64 v)) ∧ Hid (TurnI gB w11 wr))
  case atStart =>
    refine ⟨0, by omega, rfl, Lib.hid ⟨_, HHB11.out, fun t ht => ?_⟩, Lib.hid (TurnI.of_below (Below.refl _ _))⟩
    have htl : t < bs.length := by have := HNB.out; omega
    have h1 := flatMap_get brc_len bs t 2 htl (by omega)
    have h2 : t * 3 + 2 < (bs.flatMap brc).length := by rw [flatMap_len brc_len]; omega
    refine ⟨bs[t].2.2, ?_⟩
    rw [List.getElem?_toArray, List.getElem?_append_left h2, h1]
    rfl
  case round =>
    obtain ⟨i, hi, rfl, HCUR, HTI⟩ := hrel
    by_cases hlt : i < nb
    · obtain ⟨cur, hcur, hall⟩ := HCUR.out
      obtain ⟨v, hv⟩ := hall i hlt
      have hcv : wr.cell? ⟨gB, i * 3 + 2, none⟩ = some (.int .u64 v) := by rw [cell_of_blk hcur]; exact hv
      have hfv := frozen_of_blk hcur (i * 3 + 2)
      have i0 : (0 : Int) ≤ (i : Int) := by omega
      have i1 : (i : Int) < (nb : Int) := by omega
      have iw : IntKind.i64.wrap ((i : Int) + 1) = (i : Int) + 1 := IntWalk.i64_in _ (by omega)
      have HST : Hid (∀ z : Int, ∃ cur : Array Value, (wr.setCell ⟨gB, i * 3 + 2, none⟩ (.int .u64 z)).heap[gB]? = some (.cells cur (45) (0, 0)) ∧ ∀ t, t < nb → ∃ v, cur[t * 3 + 2]? = some (.int .u64 v)) := Lib.hid (fun z => ⟨_, blk_setCell hcur _, fun t ht => by
        by_cases hti : t = i
        · subst hti
          refine ⟨z, ?_⟩
          rw [Array.getElem?_setIfInBounds_self_of_lt]
          exact (Array.getElem?_eq_some_iff.1 hv).1
        · obtain ⟨v', hv'⟩ := hall t ht
          refine ⟨v', ?_⟩
          rw [Array.getElem?_setIfInBounds_ne (by omega)]
          exact hv'⟩)
      clear hcur hall hv HCUR
      go_wp2_with fail
      go_roundg (gk - 1)
      case measure => omega
      case rel => exact ⟨i + 1, by omega, by go_num, Lib.hid (HST.out _), Lib.hid (HTI.out.trans (TurnI.setCell _))⟩
    · have hie : i = nb := by omega
      have HL0 := Lib.hid (HTI.out.kept gL _ HHL11.out (by have := HGL.out; omega))
      have hl0 : ls.flatMap lnc = lnc (ls[0]'(by have := HN.out; omega)) ++ (ls.drop 1).flatMap lnc := by
        have h0 : 0 < ls.length := by have := HN.out; omega
        conv => lhs; rw [show ls = ls[0] :: ls.drop 1 from by rw [← List.drop_eq_getElem_cons (by omega)]; rfl]
        rw [List.flatMap_cons]
      have hcl : wr.cell? ⟨gL, 0, none⟩ = some (.int .u64 (ls[0]'(by have := HN.out; omega)).1) := by
        rw [cell_of_blk HL0.out, hl0]; rfl
      have hfl := frozen_of_blk HL0.out 0
      have i1 : ¬ (i : Int) < (nb : Int) := by omega
      clear hl0
      generalize ls[0]'(by have := HN.out; omega) = y0 at hcl
      obtain ⟨w12, hw12⟩ : ∃ w12 : World, w12 = wr.setCell ⟨gL, 0, none⟩ (.int .u64 77) := ⟨_, rfl⟩
      -- whatever lay, but for the two rows, lies
      have hkeep : ∀ (k : Nat) (o : Obj), w11.heap[k]? = some o → k ≠ gB → k ≠ gL → w12.heap[k]? = some o := fun k o ho h1 h2 => by
        rw [hw12]; exact blk_setCell_other (HTI.out.kept k o ho h1) h2 _
      have hsz : w11.heap.size ≤ w12.heap.size := by rw [hw12, World.size_setCell]; exact HTI.out.size
      have hold : ∀ k, k < w2.heap.size → w12.heap[k]? = w2.heap[k]? := fun k hk => by
        have h5 := HB5.out.size
        have hx : w11.heap[k]? = w2.heap[k]? := (HB11.out.block k (by omega)).trans (HB5.out.block k hk)
        rw [← hx]
        have hl : k < w11.heap.size := by have := HB11.out.size; omega
        rw [Array.getElem?_eq_getElem hl]
        exact hkeep k _ (Array.getElem?_eq_getElem hl) (by have := HGL.out; omega) (by have := HGL.out; omega)
      have hlt2 : ∀ k, w4.heap.size ≤ k → k ≠ gB ∧ k ≠ gL := fun k hk => by have := lt_of_blk HHB.out; have := lt_of_blk HHL.out; omega
      have HB12 : Hid (Below w2.heap.size w2 w12) := Lib.hid ⟨by rw [hw12]; exact HTI.out.os.trans (HB11.out.os.trans HB5.out.os), by rw [hw12]; exact HTI.out.tape.trans (HB11.out.tape.trans HB5.out.tape), by rw [hw12]; exact HTI.out.output.trans (HB11.out.output.trans HB5.out.output), Nat.le_trans (Nat.le_trans HB5.out.size HB11.out.size) hsz, hold⟩
      have HT1 := Lib.hid (HT.out.is.ext HB12.out)
      have b5 : ∀ (k : Nat) (o : Obj), w5.heap[k]? = some o → w4.heap.size ≤ k → w12.heap[k]? = some o := fun k o ho hk => hkeep k o (blk_below ho HB11.out (lt_of_blk ho)) (hlt2 k hk).1 (hlt2 k hk).2
      have HT22 := Lib.hid (TreeAt.is (w := w12) ⟨b5 _ _ HT2.out.tree HS.out.1, b5 _ _ HT2.out.brs HS.out.2.1, b5 _ _ HT2.out.lns HS.out.2.2⟩)
      have HBW12 := Lib.hid (HBW2.out.trans (HB12.out.mono HBW2.out.size))
      have HKP := Lib.hid (fun (u : World) (hu : Below w12.heap.size w12 u) => HC.out u (HBW12.out.trans (hu.mono HBW12.out.size)))
      have HA1 := Lib.hid (fun (u : World) (hu : Below w12.heap.size w12 u) => allB_n p nb u (HT1.out.ext hu) HNB.out.symm hnb1 (by omega))
      have HA2 := Lib.hid (fun (u : World) (hu : Below w12.heap.size w12 u) => allL_n p n u (HT1.out.ext hu) HN.out.symm hn1 (by omega))
      have HA3 := Lib.hid (fun (u : World) (hu : Below w12.heap.size w12 u) => allB_n p2 nb u (HT22.out.ext hu) HNB.out.symm hnb1 (by omega))
      have HS1 := Lib.hid (fun (u : World) (g : Nat) (R : List Value) (hu : Below w12.heap.size w12 u) (hx : u.heap[g]? = some (.cells (bs.flatMap brc ++ R).toArray (45) (0, 0))) => sameB_any (some ⟨g, 0, none⟩) ba nb bc nb bs u (els_pre brc_len hx) (HBS.out u (HBW12.out.trans (hu.mono HBW12.out.size))) HNB.out.symm (by omega))
      have HS2 := Lib.hid (fun (u : World) (g : Nat) (R : List Value) (hu : Below w12.heap.size w12 u) (hx : u.heap[g]? = some (.cells (ls.flatMap lnc ++ R).toArray (36) (0, 0))) => sameL_any (some ⟨g, 0, none⟩) la n lc n ls u (els_pre lnc_len hx) (HLS.out u (HBW12.out.trans (hu.mono HBW12.out.size))) HN.out.symm (by omega))
      have HFIN := Lib.hid (show ∀ u, Below w12.heap.size w12 u → Below w.heap.size w u from fun u hu => HB.out.trans ((HBW12.out.trans (hu.mono HBW12.out.size)).mono HB.out.size))
      have HW12 := Lib.hid hw12
      have HDA := Lib.hid (show Below w12.heap.size w12 w12.drew from bdrw (Below.refl _ _))
      clear hkeep hsz hold hlt2 b5 HB12 HBW12 HT1 HT22 HL0 HTI HCUR hie hw12
      go_upto_region 16 with fail
      rw [← HW12.out]
      clear hcl hfl
      refine r16_any HKP HA1 HA2 HA3 HS1 HS2 (by rintro ch ⟨t, d⟩ ⟨t', d'⟩ w' rfl h; exact h) ?_
      intro v87 v88 v89 v90 v91 v92 v93 v94 v95 v96 v97 v98 v99 v100 v101 v102 v103 v104 v105 v106 v107 v108 wq hbu
      have HE := Lib.hid (HFIN.out _ hbu)
      clear hbu
      go_wp2
      go_ret
      exact ⟨rfl, HE.out⟩
end Go.Proofs.YtacibennmcegfaaDoor
