/- lines: the iterator of up: its contract. Condition: the lines are formed, fewer than 1000000. -/
import Derived.Test.YtacibennmcegfaaDoorLP7
namespace Go.Proofs.YtacibennmcegfaaDoor
open Go.RowKit Go.Shelf Go.Herb

theorem els_keep {α : Type} {enc : α → List Value} {s : Nat} {w w' : World} {a : Option Addr} {xs : List α} (h : Els enc s w a xs) (hs : w.heap.size ≤ w'.heap.size) (hw : ∀ k, k < w.heap.size → w'.heap[k]? = w.heap[k]?) : Els enc s w' a xs :=
  ⟨fun i hi => by
    obtain ⟨b, o', ha, hlt, hc⟩ := h.get i hi
    refine ⟨b, o', ha, by omega, fun j c hj => ?_⟩
    rw [← hc j c hj]
    unfold World.cell?
    simp only [hw b hlt]⟩
theorem TreeIs.keep {w w' : World} {p : Nat} {bs : List Br} {ls : List Ln} (h : TreeIs w p bs ls) (hs : w.heap.size ≤ w'.heap.size) (hw : ∀ k, k < w.heap.size → w'.heap[k]? = w.heap[k]?) : TreeIs w' p bs ls := by
  have hl := h.lt
  obtain ⟨ba, bc, la, lc, h1, h2, h3⟩ := h.blk
  exact ⟨ba, bc, la, lc, (hw p hl).trans h1, els_keep h2 hs hw, els_keep h3 hs hw⟩
/-- What the iterator has of the world. -/
structure UpW (w0 : World) (p bt b : Nat) (line : Int) (X : World) : Prop where
  size : w0.heap.size ≤ X.heap.size
  old : ∀ k, k < w0.heap.size → X.heap[k]? = w0.heap[k]?
  tree : X.heap[bt]? = some (.cells #[.pointer (some ⟨p, 0, none⟩)] (28) (0, 0))
  at_ : X.heap[b]? = some (.cells #[.int .u64 line] (34) (0, 0))
theorem UpW.ext {w0 X u : World} {p bt b : Nat} {line : Int} (h : UpW w0 p bt b line X) (hu : Below X.heap.size X u) : UpW w0 p bt b line u :=
  ⟨Nat.le_trans h.size hu.size, fun k hk => (hu.block k (by have := h.size; omega)).trans (h.old k hk), blk_below h.tree hu (lt_of_blk h.tree), blk_below h.at_ hu (lt_of_blk h.at_)⟩
theorem UpW.keep {w0 X u : World} {p bt b N bo : Nat} {line : Int} (h : UpW w0 p bt b line X) (hk : KeepTo N bo X u) (h0 : w0.heap.size ≤ N) (hbo : w0.heap.size ≤ bo) (ht : bt < N) (hb : b < N) (h1 : bt ≠ bo) (h2 : b ≠ bo) : UpW w0 p bt b line u :=
  ⟨Nat.le_trans h.size hk.size, fun k hlt => (hk.kept k (by omega) (by omega)).trans (h.old k hlt), (hk.kept bt ht h1).trans h.tree, (hk.kept b hb h2).trans h.at_⟩
theorem UpW.set {w0 X : World} {p bt b : Nat} {line : Int} (h : UpW w0 p bt b line X) (hb : w0.heap.size ≤ b) (h1 : bt ≠ b) (q : Int) : UpW w0 p bt b q (X.setCell ⟨b, 0, none⟩ (.int .u64 q)) :=
  ⟨by rw [World.size_setCell]; exact h.size, fun k hk => (Below.heap_setCell _ _ _ _ (by show k ≠ b; omega)).trans (h.old k hk), blk_setCell_other h.tree h1 _, blk_setCell h.at_ _⟩

abbrev encL (x : Int × Int) : Array Value := #[.int .u64 x.1, .int .u64 x.2]
theorem chain_next {ls : List Ln} (h : FormedL ls) {i : Nat} {line p ahead : Int} (hi : ls[i]? = some (line, p)) (h0 : line ≠ 0) :
    ∃ j : Nat, j < i ∧ (∃ q, ls[j]? = some (p, q)) ∧ chainF ls ls.length line ahead = (line, ahead) :: chainF ls ls.length p line := by
  have hi0 : 0 < i := by
    rcases Nat.eq_zero_or_pos i with h1 | h1
    · subst h1
      rw [h.first] at hi
      injection hi with hi
      injection hi with hi
      exact absurd hi.symm h0
    · exact h1
  obtain ⟨j, y, hj, hy, hp⟩ := h.par i _ hi0 hi
  have hp : y.1 = p := hp
  obtain ⟨hil, _⟩ := List.getElem?_eq_some_iff.1 hi
  refine ⟨j, hj, ⟨y.2, by rw [hy, ← hp]⟩, ?_⟩
  obtain ⟨m, hm⟩ : ∃ m, ls.length = m + 1 := ⟨ls.length - 1, by omega⟩
  have e1 : chainF ls ls.length line ahead = (line, ahead) :: chainF ls m p line := by
    rw [hm, chainF_succ, parL_at h.srt (x := (line, p)) hi]
    simp only [if_neg h0]
  rw [e1, ← hp, chain_fuel h m ls.length j y line hy (by omega) (by omega)]
theorem chain_zero {ls : List Ln} (h : FormedL ls) {i : Nat} {p ahead : Int} (hi : ls[i]? = some (0, p)) : chainF ls ls.length 0 ahead = [(0, ahead)] := by
  obtain ⟨hil, _⟩ := List.getElem?_eq_some_iff.1 hi
  obtain ⟨m, hm⟩ : ∃ m, ls.length = m + 1 := ⟨ls.length - 1, by omega⟩
  rw [hm, chainF_succ, parL_at h.srt (x := (0, p)) hi]
  simp
theorem chain_none {ls : List Ln} {line ahead : Int} (h : parL ls line = none) : chainF ls ls.length line ahead = [] := by
  cases hm : ls.length with
  | zero => rfl
  | succ m => rw [chainF_succ, h]

set_option maxRecDepth 100000 in
set_option maxHeartbeats 1000000 in
theorem up1_but (n : Nat) (hn : 1 ≤ n) {w0 w : World} {p bt b bo : Nat} {bs : List Br} {ls : List Ln} {line : Int} (ht : TreeIs w0 p bs ls) (hf : FormedL ls) (hl1 : ls.length < 1000000) (hu : UpW w0 p bt b line w) (hw0 : w0.heap.size ≤ w.heap.size) (hbtl : bt < w.heap.size) (hbl : b < w.heap.size)
    (hb0' : w0.heap.size ≤ b) (hbo0 : w0.heap.size ≤ bo) (h1 : bt ≠ b) (h2 : bt ≠ bo) (h3 : b ≠ bo) :
    SeqBut n Tryd.prog (45) #[.pointer (some ⟨bt, 0, none⟩), .pointer (some ⟨b, 0, none⟩)] b bo encL (chainF ls ls.length line 18446744073709551615) w := fun l J W hW hJ hY h0 => by
  refine callsIn_wide.2 ?_
  obtain ⟨ba, bc, la, lc, hblk, hBs, hLs⟩ := ht.blk
  obtain ⟨gb, go, rfl, -, -⟩ := hLs.get 0 (by
    obtain ⟨h, _⟩ := List.getElem?_eq_some_iff.1 hf.first
    exact h)
  have HLC : Hid (∀ (u : World), w0.heap.size ≤ u.heap.size → (∀ k, k < w0.heap.size → u.heap[k]? = w0.heap[k]?) → ∀ (i : Nat) (x q : Int), ls[i]? = some (x, q) → u.cell? ⟨gb, go + i * 2 + 1, none⟩ = some (.int .u64 q)) := Lib.hid (fun u hus huo i x q hi => by
    obtain ⟨hil, hie⟩ := List.getElem?_eq_some_iff.1 hi
    obtain ⟨b', o', he, hlt, hc⟩ := (els_keep hLs hus huo).get i hil
    injection he with he
    injection he with e1 e2
    subst e1 e2
    exact hc 1 _ (by rw [hie]; rfl))
  obtain ⟨nb, hnb⟩ : ∃ nb, nb = bs.length := ⟨_, rfl⟩
  obtain ⟨m, hm⟩ : ∃ m, m = ls.length := ⟨_, rfl⟩
  rw [← hnb, ← hm] at hblk
  have hpl := ht.lt
  -- at whatever world of the iterator's: the cells, and the call of line
  have HAT : Hid (∀ (X : World) (q : Int), UpW w0 p bt b q X → (∀ u, Below X.heap.size X u → u.cell? ⟨bt, 0, none⟩ = some (.pointer (some ⟨p, 0, none⟩)) ∧ u.cell? ⟨p, 0, none⟩ = some (.slice ba nb bc) ∧ u.cell? ⟨p, 1, none⟩ = some (.slice (some ⟨gb, go, none⟩) m lc) ∧ u.cell? ⟨b, 0, none⟩ = some (.int .u64 q)) ∧
      (∀ u, Below X.heap.size X u → Calls Tryd.prog (41) #[partsV ba nb bc (some ⟨gb, go, none⟩) m lc, .int .u64 q] u (LinePost ls q u))) := Lib.hid (fun X q hx => ⟨fun u hu => by
    have hx' := hx.ext hu
    have c0 := cell_of_blk hx'.tree 0
    have c1 := cell_of_blk ((hx'.old p hpl).trans hblk) 0
    have c2 := cell_of_blk ((hx'.old p hpl).trans hblk) 1
    have c3 := cell_of_blk hx'.at_ 0
    simp at c0 c1 c2 c3
    exact ⟨c0, c1, c2, c3⟩, fun u hu => line_any ba nb bc (some ⟨gb, go, none⟩) lc m ls q u (els_keep hLs (hx.ext hu).size (hx.ext hu).old) hm.symm (by omega) hf.srt⟩)
  have HW := Lib.hid (hu.ext hW)
  have HSW := Lib.hid hW.size
  obtain ⟨-, hLN⟩ := HAT.out W line HW.out
  obtain ⟨S1, S2, S3, S4⟩ := (HAT.out W line HW.out).1 W (Below.refl _ _)
  have HS1 := Lib.hid (HAT.out W line HW.out).1
  have HLN := Lib.hid hLN
  have HDA := Lib.hid (show Below W.heap.size W W.drew from (Below.refl W.heap.size W).drew)
  have HJ := Lib.hid hJ
  have HY := Lib.hid hY
  have H0 := Lib.hid h0
  have HF := Lib.hid hf
  have HM := Lib.hid hm
  have HL1 := Lib.hid hl1
  clear hblk hBs hLs hLN hW hu hpl ht hJ hY h0 hf hnb hm hl1
  have hgoal : (#[Value.func (.yield l) #[] #[]] ++ #[.pointer (some ⟨bt, 0, none⟩), .pointer (some ⟨b, 0, none⟩)] : Array Value) = #[Value.func (.yield l) #[] #[], .pointer (some ⟨bt, 0, none⟩), .pointer (some ⟨b, 0, none⟩)] := rfl
  rw [hgoal]
  clear hgoal
  go_enter Tryd.func45, Tryd.ntmps45
  go_upto_region 1 with fail
  go_region_held3 (fun u => u.cell? ⟨bt, 0, none⟩ = some (.pointer (some ⟨p, 0, none⟩)) ∧ u.cell? ⟨p, 0, none⟩ = some (.slice ba nb bc) ∧ u.cell? ⟨p, 1, none⟩ = some (.slice (some ⟨gb, go, none⟩) m lc) ∧ u.cell? ⟨b, 0, none⟩ = some (.int .u64 line)) (first | exact HS1.out _ HDA.out | exact HS1.out _ hbu) (first | (go_at_call 41; (with_reducible refine (HLN.out _ HDA.out).mono ?_); rintro e w5 ⟨r, rfl, hr, hb5⟩; have hbu := HDA.out.trans (hb5.mono HDA.out.size)))
  have HUW := Lib.hid (HW.out.ext hbu)
  have HJ5 := Lib.hid (HJ.out _ _ _ H0.out (TurnI.of_below hbu))
  have HSZ := Lib.hid (Nat.le_trans HSW.out hbu.size)
  have HLA := Lib.hid hr
  clear hr hb5 hbu S1 S2 S3 S4 HS1 HLN HDA HW HSW H0
  go_wp2_with fail
  go_loopg [4, 5] ((r + 1).toNat) (fun gk av iv wr => ∃ (pre : List (Int × Int)) (line' ahead' r' : Int), gk = (r' + 1).toNat ∧ av = .int .u64 ahead' ∧ iv = .int .i64 r' ∧ Hid (LineAt ls line' r') ∧ Hid (chainF ls ls.length line 18446744073709551615 = pre ++ chainF ls ls.length line' ahead') ∧ Hid (UpW w0 p bt b line' wr) ∧ Hid (J pre wr) ∧ Hid (w.heap.size ≤ wr.heap.size))
  case atStart => exact ⟨[], line, _, r, rfl, rfl, rfl, HLA, Lib.hid rfl, HUW, HJ5, HSZ⟩
  case round =>
    clear HUW HJ5 HSZ HLA
    obtain ⟨pre, line', ahead', r', rfl, rfl, rfl, HLA, HCH, HUW, HJP, HSZ⟩ := hrel
    rcases HLA.out with ⟨i, q, rfl, hi, hpi⟩ | ⟨rfl, hno⟩
    case inr =>
      have HE := Lib.hid (show J (chainF ls ls.length line 18446744073709551615) wr from by rw [HCH.out, chain_none hno, List.append_nil]; exact HJP.out)
      clear hno
      go_wp2_with fail
      go_end0
      exact ⟨⟨_, rfl⟩, HE.out⟩
    have hi0 : (i : Int) ≥ 0 := by omega
    have HI := Lib.hid hi
    have hpre : (pre ++ [(line', ahead')]) <+: chainF ls ls.length line 18446744073709551615 := by
      rw [HCH.out]
      by_cases hl0 : line' = 0
      · rw [hl0] at hi ⊢
        rw [chain_zero HF.out hi]
        exact ⟨[], by simp⟩
      · obtain ⟨j, -, -, he⟩ := chain_next (ahead := ahead') HF.out hi hl0
        rw [he]
        exact ⟨chainF ls ls.length q line', by simp⟩
    obtain ⟨fn, tmps, assign, body, hy, hR⟩ := HY.out pre (line', ahead') wr HJP.out hpre
    dsimp only [encL] at hy
    have hcb := cell_of_blk HUW.out.at_ 0
    simp at hcb
    have HLT := Lib.hid (show bt < w.heap.size ∧ b < w.heap.size ∧ w0.heap.size ≤ w.heap.size from ⟨hbtl, hbl, hw0⟩)
    clear hi hpi hpre
    go_upto_region 4 with fail
    refine (wpIn_wide (n := n)).1 ?_
    gi_wp2
    refine hR.mono ?_
    rintro e W3 ⟨rfl, hJ3, hK3⟩
    have hu3 := HUW.out.keep hK3 HLT.out.2.2 hbo0 HLT.out.1 HLT.out.2.1 h2 h3
    have hc3 := cell_of_blk hu3.at_ 0
    simp at hc3
    gi_wp2
    clear hy hR hcb
    by_cases hl0 : line' = 0
    · have hb0 : (line' == 0) = true := by simp [hl0]
      have HE := Lib.hid (show J (chainF ls ls.length line 18446744073709551615) W3 from by
        have e := HCH.out
        rw [hl0, chain_zero HF.out (by rw [← hl0]; exact HI.out)] at e
        rw [e, ← hl0]
        exact hJ3)
      clear hl0 hJ3 hK3 hu3
      go_wp2_with fail
      refine bodyPost_ret (results_none rfl _ _ _) rfl ?_
      exact ⟨⟨_, rfl⟩, HE.out⟩
    · have hb0 : (line' == 0) = false := by simp [hl0]
      have HL0 := Lib.hid hl0
      have HU3 := Lib.hid hu3
      have HJ3 := Lib.hid hJ3
      have HZ3 := Lib.hid (Nat.le_trans HSZ.out hK3.size)
      have HS3 := Lib.hid (HAT.out W3 line' hu3).1
      have i1 : (0 : Int) ≤ (i : Int) := by omega
      have i2 : (i : Int) < (m : Int) := by
        have := HM.out
        obtain ⟨h, _⟩ := List.getElem?_eq_some_iff.1 HI.out
        omega
      have HQ := Lib.hid (fun (u : World) (hu : Below W3.heap.size W3 u) => HLC.out u (HU3.out.ext hu).size (HU3.out.ext hu).old i line' q HI.out)
      have HD3 := Lib.hid (show Below W3.heap.size W3 W3.drew from (Below.refl W3.heap.size W3).drew)
      clear hl0 hJ3 hK3 hu3 hc3
      go_upto_region 5 with fail
      have HS4 : Hid (∀ x : Int, UpW w0 p bt b x (W3.setCell ⟨b, 0, none⟩ (.int .u64 x)).drew) := Lib.hid (fun x => (HU3.out.set hb0' h1 x).ext (bdrw (Below.refl _ _)))
      obtain ⟨r1, -, r3, r4⟩ := HS3.out W3 (Below.refl _ _)
      have r5 := HQ.out W3 (Below.refl _ _)
      have r6 := frozen_of_blk HU3.out.at_ 0
      go_region
      clear r1 r3 r4 r5 r6 HQ HS3 i1 i2
      have HU4 := Lib.hid (HS4.out q)
      have HJ4 := Lib.hid (HJ.out _ _ _ HJ3.out ((TurnI.setCell (j := 0) (.int .u64 q)).trans (TurnI.of_below (bdrw (Below.refl _ _)))))
      have HZ4 := Lib.hid (show w.heap.size ≤ (W3.setCell ⟨b, 0, none⟩ (.int .u64 q)).drew.heap.size from Nat.le_trans HZ3.out (by simp))
      clear HS4 HD3 HJ3 HZ3 HU3
      generalize (W3.setCell ⟨b, 0, none⟩ (.int .u64 q)).drew = W4 at *
      have HLN := Lib.hid (HAT.out W4 q HU4.out).2
      obtain ⟨S1, S2, S3, S4⟩ := (HAT.out W4 q HU4.out).1 W4 (Below.refl _ _)
      have HS1 := Lib.hid (HAT.out W4 q HU4.out).1
      have HDA := Lib.hid (show Below W4.heap.size W4 W4.drew from (Below.refl W4.heap.size W4).drew)
      go_upto_region 3 with fail
      go_region_held3 (fun u => u.cell? ⟨bt, 0, none⟩ = some (.pointer (some ⟨p, 0, none⟩)) ∧ u.cell? ⟨p, 0, none⟩ = some (.slice ba nb bc) ∧ u.cell? ⟨p, 1, none⟩ = some (.slice (some ⟨gb, go, none⟩) m lc) ∧ u.cell? ⟨b, 0, none⟩ = some (.int .u64 q)) (first | exact HS1.out _ HDA.out | exact HS1.out _ hbu) (first | (go_at_call 41; (with_reducible refine (HLN.out _ HDA.out).mono ?_); rintro e w5 ⟨r5, rfl, hr, hb5⟩; have hbu := HDA.out.trans (hb5.mono HDA.out.size)))
      have HUW5 := Lib.hid (HU4.out.ext hbu)
      have HJ5 := Lib.hid (HJ.out _ _ _ HJ4.out (TurnI.of_below hbu))
      have HZ5 := Lib.hid (Nat.le_trans HZ4.out hbu.size)
      have HLA5 := Lib.hid hr
      obtain ⟨j, hji, ⟨q2, hjq⟩, hch⟩ := chain_next (ahead := ahead') HF.out HI.out HL0.out
      have hr5 : r5 = (j : Int) := by
        rcases hr with ⟨i5, p5, rfl, h5, -⟩ | ⟨-, h5⟩
        · have e1 := lnc_srt HF.out.srt (Nat.le_refl i5) h5 h5
          rcases Nat.lt_trichotomy i5 j with h6 | h6 | h6
          · have := FormedL.srt HF.out
            obtain ⟨a1, a2⟩ := List.getElem?_eq_some_iff.1 h5
            obtain ⟨a3, a4⟩ := List.getElem?_eq_some_iff.1 hjq
            have a5 := List.pairwise_iff_getElem.1 this i5 j a1 a3 h6
            rw [a2, a4] at a5
            exact absurd a5 (Int.lt_irrefl _)
          · rw [h6]
          · have := FormedL.srt HF.out
            obtain ⟨a1, a2⟩ := List.getElem?_eq_some_iff.1 h5
            obtain ⟨a3, a4⟩ := List.getElem?_eq_some_iff.1 hjq
            have a5 := List.pairwise_iff_getElem.1 this j i5 a3 a1 h6
            rw [a2, a4] at a5
            exact absurd a5 (Int.lt_irrefl _)
        · rw [parL_at HF.out.srt (x := (q, q2)) hjq] at h5
          cases h5
      have HCH5 := Lib.hid (show chainF ls ls.length line 18446744073709551615 = (pre ++ [(line', ahead')]) ++ chainF ls ls.length q line' from by rw [HCH.out, hch]; simp)
      have hme : (r5 + 1).toNat < ((i : Int) + 1).toNat := by omega
      clear hr hb5 hbu S1 S2 S3 S4 HS1 HLN HDA hjq hch hji hr5
      go_wp2_with fail
      go_roundg ((r5 + 1).toNat)
      case measure => exact hme
      case rel => exact ⟨pre ++ [(line', ahead')], q, line', r5, rfl, rfl, rfl, HLA5, HCH5, HUW5, HJ5, HZ5⟩
end Go.Proofs.YtacibennmcegfaaDoor
