/- lines: the iterator of up: its contract. Condition: the lines are formed, fewer than 1000000. · lines: up, Chain. Condition: the lines are formed, at most 48. · lines: Lines, Branches: Clone, Clip. Condition: fewer than 1000000, not none. -/
import Derived.Test.YticcccciefaemaaGreatDoorLP7
import Derived.Lib.SliceRun
namespace Go.Proofs.YticcccciefaemaaGreatDoor.Ln
open Go.RowKit Go.Shelf Go.Herb

theorem els_keep {α : Type} {enc : α → List Value} {s : Nat} {w w' : World} {a : Option Addr} {xs : List α} (h : Els enc s w a xs) (hs : w.heap.size ≤ w'.heap.size) (hw : ∀ k, k < w.heap.size → w'.heap[k]? = w.heap[k]?) : Els enc s w' a xs :=
  ⟨fun i hi => by
    obtain ⟨b, o', ha, hlt, hc⟩ := h.get i hi
    refine ⟨b, o', ha, by omega, fun j c hj => ?_⟩
    rw [← hc j c hj]
    unfold World.cell?
    simp only [hw b hlt]⟩
theorem TreeIs.keep {w w' : World} {p : Nat} {bs : List Br} {ls : List Ln} (h : TreeIs w p bs ls) (hs : w.heap.size ≤ w'.heap.size) (hw : ∀ k, k < w.heap.size → w'.heap[k]? = w.heap[k]?) : TreeIs w' p bs ls := by
  have hl := h.lt
  obtain ⟨ba, bc, la, lc, h1, h2, h3⟩ := h.blk
  exact ⟨ba, bc, la, lc, (hw p hl).trans h1, els_keep h2 hs hw, els_keep h3 hs hw⟩
/-- What the iterator has of the world. -/
structure UpW (w0 : World) (p bt b : Nat) (line : Int) (X : World) : Prop where
  size : w0.heap.size ≤ X.heap.size
  old : ∀ k, k < w0.heap.size → X.heap[k]? = w0.heap[k]?
  tree : X.heap[bt]? = some (.cells #[.pointer (some ⟨p, 0, none⟩)] (26) (0, 0))
  at_ : X.heap[b]? = some (.cells #[.int .u64 line] (52) (0, 0))
theorem UpW.ext {w0 X u : World} {p bt b : Nat} {line : Int} (h : UpW w0 p bt b line X) (hu : Below X.heap.size X u) : UpW w0 p bt b line u :=
  ⟨Nat.le_trans h.size hu.size, fun k hk => (hu.block k (by have := h.size; omega)).trans (h.old k hk), blk_below h.tree hu (lt_of_blk h.tree), blk_below h.at_ hu (lt_of_blk h.at_)⟩
theorem UpW.keep {w0 X u : World} {p bt b N bo : Nat} {line : Int} (h : UpW w0 p bt b line X) (hk : KeepTo N bo X u) (h0 : w0.heap.size ≤ N) (hbo : w0.heap.size ≤ bo) (ht : bt < N) (hb : b < N) (h1 : bt ≠ bo) (h2 : b ≠ bo) : UpW w0 p bt b line u :=
  ⟨Nat.le_trans h.size hk.size, fun k hlt => (hk.kept k (by omega) (by omega)).trans (h.old k hlt), (hk.kept bt ht h1).trans h.tree, (hk.kept b hb h2).trans h.at_⟩
theorem UpW.set {w0 X : World} {p bt b : Nat} {line : Int} (h : UpW w0 p bt b line X) (hb : w0.heap.size ≤ b) (h1 : bt ≠ b) (q : Int) : UpW w0 p bt b q (X.setCell ⟨b, 0, none⟩ (.int .u64 q)) :=
  ⟨by rw [World.size_setCell]; exact h.size, fun k hk => (Below.heap_setCell _ _ _ _ (by show k ≠ b; omega)).trans (h.old k hk), blk_setCell_other h.tree h1 _, blk_setCell h.at_ _⟩

abbrev encL (x : Int × Int) : Array Value := #[.int .u64 x.1, .int .u64 x.2]
theorem chain_next {ls : List Ln} (h : FormedL ls) {i : Nat} {line p ahead : Int} (hi : ls[i]? = some (line, p)) (h0 : line ≠ 0) :
    ∃ j : Nat, j < i ∧ (∃ q, ls[j]? = some (p, q)) ∧ chainF ls ls.length line ahead = (line, ahead) :: chainF ls ls.length p line := by
  have hi0 : 0 < i := by
    rcases Nat.eq_zero_or_pos i with h1 | h1
    · subst h1
      rw [h.first] at hi
      injection hi with hi
      injection hi with hi
      exact absurd hi.symm h0
    · exact h1
  obtain ⟨j, y, hj, hy, hp⟩ := h.par i _ hi0 hi
  have hp : y.1 = p := hp
  obtain ⟨hil, _⟩ := List.getElem?_eq_some_iff.1 hi
  refine ⟨j, hj, ⟨y.2, by rw [hy, ← hp]⟩, ?_⟩
  obtain ⟨m, hm⟩ : ∃ m, ls.length = m + 1 := ⟨ls.length - 1, by omega⟩
  have e1 : chainF ls ls.length line ahead = (line, ahead) :: chainF ls m p line := by
    rw [hm, chainF_succ, parL_at h.srt (x := (line, p)) hi]
    simp only [if_neg h0]
  rw [e1, ← hp, chain_fuel h m ls.length j y line hy (by omega) (by omega)]
theorem chain_zero {ls : List Ln} (h : FormedL ls) {i : Nat} {p ahead : Int} (hi : ls[i]? = some (0, p)) : chainF ls ls.length 0 ahead = [(0, ahead)] := by
  obtain ⟨hil, _⟩ := List.getElem?_eq_some_iff.1 hi
  obtain ⟨m, hm⟩ : ∃ m, ls.length = m + 1 := ⟨ls.length - 1, by omega⟩
  rw [hm, chainF_succ, parL_at h.srt (x := (0, p)) hi]
  simp
theorem chain_none {ls : List Ln} {line ahead : Int} (h : parL ls line = none) : chainF ls ls.length line ahead = [] := by
  cases hm : ls.length with
  | zero => rfl
  | succ m => rw [chainF_succ, h]

set_option maxRecDepth 100000 in
set_option maxHeartbeats 1000000 in
theorem up1_but (n : Nat) (hn : 1 ≤ n) {w0 w : World} {p bt b bo : Nat} {bs : List Br} {ls : List Ln} {line : Int} (ht : TreeIs w0 p bs ls) (hf : FormedL ls) (hl1 : ls.length < 1000000) (hu : UpW w0 p bt b line w) (hw0 : w0.heap.size ≤ w.heap.size) (hbtl : bt < w.heap.size) (hbl : b < w.heap.size)
    (hb0' : w0.heap.size ≤ b) (hbo0 : w0.heap.size ≤ bo) (h1 : bt ≠ b) (h2 : bt ≠ bo) (h3 : b ≠ bo) :
    SeqBut n Tryz.prog (66) #[.pointer (some ⟨bt, 0, none⟩), .pointer (some ⟨b, 0, none⟩)] b bo encL (chainF ls ls.length line 18446744073709551615) w := fun l J W hW hJ hY h0 => by
  refine callsIn_wide.2 ?_
  obtain ⟨ba, bc, la, lc, hblk, hBs, hLs⟩ := ht.blk
  obtain ⟨gb, go, rfl, -, -⟩ := hLs.get 0 (by
    obtain ⟨h, _⟩ := List.getElem?_eq_some_iff.1 hf.first
    exact h)
  have HLC : Hid (∀ (u : World), w0.heap.size ≤ u.heap.size → (∀ k, k < w0.heap.size → u.heap[k]? = w0.heap[k]?) → ∀ (i : Nat) (x q : Int), ls[i]? = some (x, q) → u.cell? ⟨gb, go + i * 2 + 1, none⟩ = some (.int .u64 q)) := Lib.hid (fun u hus huo i x q hi => by
    obtain ⟨hil, hie⟩ := List.getElem?_eq_some_iff.1 hi
    obtain ⟨b', o', he, hlt, hc⟩ := (els_keep hLs hus huo).get i hil
    injection he with he
    injection he with e1 e2
    subst e1 e2
    exact hc 1 _ (by rw [hie]; rfl))
  obtain ⟨nb, hnb⟩ : ∃ nb, nb = bs.length := ⟨_, rfl⟩
  obtain ⟨m, hm⟩ : ∃ m, m = ls.length := ⟨_, rfl⟩
  rw [← hnb, ← hm] at hblk
  have hpl := ht.lt
  -- at whatever world of the iterator's: the cells, and the call of line
  have HAT : Hid (∀ (X : World) (q : Int), UpW w0 p bt b q X → (∀ u, Below X.heap.size X u → u.cell? ⟨bt, 0, none⟩ = some (.pointer (some ⟨p, 0, none⟩)) ∧ u.cell? ⟨p, 0, none⟩ = some (.slice ba nb bc) ∧ u.cell? ⟨p, 1, none⟩ = some (.slice (some ⟨gb, go, none⟩) m lc) ∧ u.cell? ⟨b, 0, none⟩ = some (.int .u64 q)) ∧
      (∀ u, Below X.heap.size X u → Calls Tryz.prog (33) #[partsV ba nb bc (some ⟨gb, go, none⟩) m lc, .int .u64 q] u (LinePost ls q u))) := Lib.hid (fun X q hx => ⟨fun u hu => by
    have hx' := hx.ext hu
    have c0 := cell_of_blk hx'.tree 0
    have c1 := cell_of_blk ((hx'.old p hpl).trans hblk) 0
    have c2 := cell_of_blk ((hx'.old p hpl).trans hblk) 1
    have c3 := cell_of_blk hx'.at_ 0
    simp at c0 c1 c2 c3
    exact ⟨c0, c1, c2, c3⟩, fun u hu => line_any ba nb bc (some ⟨gb, go, none⟩) lc m ls q u (els_keep hLs (hx.ext hu).size (hx.ext hu).old) hm.symm (by omega) hf.srt⟩)
  have HW := Lib.hid (hu.ext hW)
  have HSW := Lib.hid hW.size
  obtain ⟨-, hLN⟩ := HAT.out W line HW.out
  obtain ⟨S1, S2, S3, S4⟩ := (HAT.out W line HW.out).1 W (Below.refl _ _)
  have HS1 := Lib.hid (HAT.out W line HW.out).1
  have HLN := Lib.hid hLN
  have HDA := Lib.hid (show Below W.heap.size W W.drew from (Below.refl W.heap.size W).drew)
  have HJ := Lib.hid hJ
  have HY := Lib.hid hY
  have H0 := Lib.hid h0
  have HF := Lib.hid hf
  have HM := Lib.hid hm
  have HL1 := Lib.hid hl1
  clear hblk hBs hLs hLN hW hu hpl ht hJ hY h0 hf hnb hm hl1
  have hgoal : (#[Value.func (.yield l) #[] #[]] ++ #[.pointer (some ⟨bt, 0, none⟩), .pointer (some ⟨b, 0, none⟩)] : Array Value) = #[Value.func (.yield l) #[] #[], .pointer (some ⟨bt, 0, none⟩), .pointer (some ⟨b, 0, none⟩)] := rfl
  rw [hgoal]
  clear hgoal
  go_enter Tryz.func66, Tryz.ntmps66
  go_upto_region 1 with fail
  go_region_held3 (fun u => u.cell? ⟨bt, 0, none⟩ = some (.pointer (some ⟨p, 0, none⟩)) ∧ u.cell? ⟨p, 0, none⟩ = some (.slice ba nb bc) ∧ u.cell? ⟨p, 1, none⟩ = some (.slice (some ⟨gb, go, none⟩) m lc) ∧ u.cell? ⟨b, 0, none⟩ = some (.int .u64 line)) (first | exact HS1.out _ HDA.out | exact HS1.out _ hbu) (first | (go_at_call 33; (with_reducible refine (HLN.out _ HDA.out).mono ?_); rintro e w5 ⟨r, rfl, hr, hb5⟩; have hbu := HDA.out.trans (hb5.mono HDA.out.size)))
  have HUW := Lib.hid (HW.out.ext hbu)
  have HJ5 := Lib.hid (HJ.out _ _ _ H0.out (TurnI.of_below hbu))
  have HSZ := Lib.hid (Nat.le_trans HSW.out hbu.size)
  have HLA := Lib.hid hr
  clear hr hb5 hbu S1 S2 S3 S4 HS1 HLN HDA HW HSW H0
  go_wp2_with fail
  go_loopg [4, 5] ((r + 1).toNat) (fun gk av iv wr => ∃ (pre : List (Int × Int)) (line' ahead' r' : Int), gk = (r' + 1).toNat ∧ av = .int .u64 ahead' ∧ iv = .int .i64 r' ∧ Hid (LineAt ls line' r') ∧ Hid (chainF ls ls.length line 18446744073709551615 = pre ++ chainF ls ls.length line' ahead') ∧ Hid (UpW w0 p bt b line' wr) ∧ Hid (J pre wr) ∧ Hid (w.heap.size ≤ wr.heap.size))
  case atStart => exact ⟨[], line, _, r, rfl, rfl, rfl, HLA, Lib.hid rfl, HUW, HJ5, HSZ⟩
  case round =>
    clear HUW HJ5 HSZ HLA
    obtain ⟨pre, line', ahead', r', rfl, rfl, rfl, HLA, HCH, HUW, HJP, HSZ⟩ := hrel
    rcases HLA.out with ⟨i, q, rfl, hi, hpi⟩ | ⟨rfl, hno⟩
    case inr =>
      have HE := Lib.hid (show J (chainF ls ls.length line 18446744073709551615) wr from by rw [HCH.out, chain_none hno, List.append_nil]; exact HJP.out)
      clear hno
      go_wp2_with fail
      go_end0
      exact ⟨⟨_, rfl⟩, HE.out⟩
    have hi0 : (i : Int) ≥ 0 := by omega
    have HI := Lib.hid hi
    have hpre : (pre ++ [(line', ahead')]) <+: chainF ls ls.length line 18446744073709551615 := by
      rw [HCH.out]
      by_cases hl0 : line' = 0
      · rw [hl0] at hi ⊢
        rw [chain_zero HF.out hi]
        exact ⟨[], by simp⟩
      · obtain ⟨j, -, -, he⟩ := chain_next (ahead := ahead') HF.out hi hl0
        rw [he]
        exact ⟨chainF ls ls.length q line', by simp⟩
    obtain ⟨fn, tmps, assign, body, hy, hR⟩ := HY.out pre (line', ahead') wr HJP.out hpre
    dsimp only [encL] at hy
    have hcb := cell_of_blk HUW.out.at_ 0
    simp at hcb
    have HLT := Lib.hid (show bt < w.heap.size ∧ b < w.heap.size ∧ w0.heap.size ≤ w.heap.size from ⟨hbtl, hbl, hw0⟩)
    clear hi hpi hpre
    go_upto_region 4 with fail
    refine (wpIn_wide (n := n)).1 ?_
    gi_wp2
    refine hR.mono ?_
    rintro e W3 ⟨rfl, hJ3, hK3⟩
    have hu3 := HUW.out.keep hK3 HLT.out.2.2 hbo0 HLT.out.1 HLT.out.2.1 h2 h3
    have hc3 := cell_of_blk hu3.at_ 0
    simp at hc3
    gi_wp2
    clear hy hR hcb
    by_cases hl0 : line' = 0
    · have hb0 : (line' == 0) = true := by simp [hl0]
      have HE := Lib.hid (show J (chainF ls ls.length line 18446744073709551615) W3 from by
        have e := HCH.out
        rw [hl0, chain_zero HF.out (by rw [← hl0]; exact HI.out)] at e
        rw [e, ← hl0]
        exact hJ3)
      clear hl0 hJ3 hK3 hu3
      go_wp2_with fail
      refine bodyPost_ret (results_none rfl _ _ _) rfl ?_
      exact ⟨⟨_, rfl⟩, HE.out⟩
    · have hb0 : (line' == 0) = false := by simp [hl0]
      have HL0 := Lib.hid hl0
      have HU3 := Lib.hid hu3
      have HJ3 := Lib.hid hJ3
      have HZ3 := Lib.hid (Nat.le_trans HSZ.out hK3.size)
      have HS3 := Lib.hid (HAT.out W3 line' hu3).1
      have i1 : (0 : Int) ≤ (i : Int) := by omega
      have i2 : (i : Int) < (m : Int) := by
        have := HM.out
        obtain ⟨h, _⟩ := List.getElem?_eq_some_iff.1 HI.out
        omega
      have HQ := Lib.hid (fun (u : World) (hu : Below W3.heap.size W3 u) => HLC.out u (HU3.out.ext hu).size (HU3.out.ext hu).old i line' q HI.out)
      have HD3 := Lib.hid (show Below W3.heap.size W3 W3.drew from (Below.refl W3.heap.size W3).drew)
      clear hl0 hJ3 hK3 hu3 hc3
      go_upto_region 5 with fail
      have HS4 : Hid (∀ x : Int, UpW w0 p bt b x (W3.setCell ⟨b, 0, none⟩ (.int .u64 x)).drew) := Lib.hid (fun x => (HU3.out.set hb0' h1 x).ext (bdrw (Below.refl _ _)))
      obtain ⟨r1, -, r3, r4⟩ := HS3.out W3 (Below.refl _ _)
      have r5 := HQ.out W3 (Below.refl _ _)
      have r6 := frozen_of_blk HU3.out.at_ 0
      go_region
      clear r1 r3 r4 r5 r6 HQ HS3 i1 i2
      have HU4 := Lib.hid (HS4.out q)
      have HJ4 := Lib.hid (HJ.out _ _ _ HJ3.out ((TurnI.setCell (j := 0) (.int .u64 q)).trans (TurnI.of_below (bdrw (Below.refl _ _)))))
      have HZ4 := Lib.hid (show w.heap.size ≤ (W3.setCell ⟨b, 0, none⟩ (.int .u64 q)).drew.heap.size from Nat.le_trans HZ3.out (by simp))
      clear HS4 HD3 HJ3 HZ3 HU3
      generalize (W3.setCell ⟨b, 0, none⟩ (.int .u64 q)).drew = W4 at *
      have HLN := Lib.hid (HAT.out W4 q HU4.out).2
      obtain ⟨S1, S2, S3, S4⟩ := (HAT.out W4 q HU4.out).1 W4 (Below.refl _ _)
      have HS1 := Lib.hid (HAT.out W4 q HU4.out).1
      have HDA := Lib.hid (show Below W4.heap.size W4 W4.drew from (Below.refl W4.heap.size W4).drew)
      go_upto_region 3 with fail
      go_region_held3 (fun u => u.cell? ⟨bt, 0, none⟩ = some (.pointer (some ⟨p, 0, none⟩)) ∧ u.cell? ⟨p, 0, none⟩ = some (.slice ba nb bc) ∧ u.cell? ⟨p, 1, none⟩ = some (.slice (some ⟨gb, go, none⟩) m lc) ∧ u.cell? ⟨b, 0, none⟩ = some (.int .u64 q)) (first | exact HS1.out _ HDA.out | exact HS1.out _ hbu) (first | (go_at_call 33; (with_reducible refine (HLN.out _ HDA.out).mono ?_); rintro e w5 ⟨r5, rfl, hr, hb5⟩; have hbu := HDA.out.trans (hb5.mono HDA.out.size)))
      have HUW5 := Lib.hid (HU4.out.ext hbu)
      have HJ5 := Lib.hid (HJ.out _ _ _ HJ4.out (TurnI.of_below hbu))
      have HZ5 := Lib.hid (Nat.le_trans HZ4.out hbu.size)
      have HLA5 := Lib.hid hr
      obtain ⟨j, hji, ⟨q2, hjq⟩, hch⟩ := chain_next (ahead := ahead') HF.out HI.out HL0.out
      have hr5 : r5 = (j : Int) := by
        rcases hr with ⟨i5, p5, rfl, h5, -⟩ | ⟨-, h5⟩
        · have e1 := lnc_srt HF.out.srt (Nat.le_refl i5) h5 h5
          rcases Nat.lt_trichotomy i5 j with h6 | h6 | h6
          · have := FormedL.srt HF.out
            obtain ⟨a1, a2⟩ := List.getElem?_eq_some_iff.1 h5
            obtain ⟨a3, a4⟩ := List.getElem?_eq_some_iff.1 hjq
            have a5 := List.pairwise_iff_getElem.1 this i5 j a1 a3 h6
            rw [a2, a4] at a5
            exact absurd a5 (Int.lt_irrefl _)
          · rw [h6]
          · have := FormedL.srt HF.out
            obtain ⟨a1, a2⟩ := List.getElem?_eq_some_iff.1 h5
            obtain ⟨a3, a4⟩ := List.getElem?_eq_some_iff.1 hjq
            have a5 := List.pairwise_iff_getElem.1 this j i5 a3 a1 h6
            rw [a2, a4] at a5
            exact absurd a5 (Int.lt_irrefl _)
        · rw [parL_at HF.out.srt (x := (q, q2)) hjq] at h5
          cases h5
      have HCH5 := Lib.hid (show chainF ls ls.length line 18446744073709551615 = (pre ++ [(line', ahead')]) ++ chainF ls ls.length q line' from by rw [HCH.out, hch]; simp)
      have hme : (r5 + 1).toNat < ((i : Int) + 1).toNat := by omega
      clear hr hb5 hbu S1 S2 S3 S4 HS1 HLN HDA hjq hch hji hr5
      go_wp2_with fail
      go_roundg ((r5 + 1).toNat)
      case measure => exact hme
      case rel => exact ⟨pre ++ [(line', ahead')], q, line', r5, rfl, rfl, rfl, HLA5, HCH5, HUW5, HJ5, HZ5⟩
end Go.Proofs.YticcccciefaemaaGreatDoor.Ln

namespace Go.Proofs.YticcccciefaemaaGreatDoor.Ln
open Go.RowKit Go.Shelf Go.Herb
attribute [local go_sem] Oper.semAt_some

theorem wpListIn_append_run {F : Fence} {n : Nat} {P : Program} {ops : Array Oper} {rest : List Oper} {o : Oper} {a : Act} {Q : Exit → Act → World → Prop} (w : World) (hgd : o.guard = none) (s x : Operand) (t tn : TypeId)
    (ho : o.op = .call { callee := .builtin .append, args := #[s, x], argTypes := #[t, tn] }) (vs vx : Value) (hs : a.eval s = vs) (hx : a.eval x = vx)
    (v' : Value) (w' : World) (hr : (Builtin.append_ #[t, tn] o.type #[vs, vx]).run P w = .ok v' w')
    (h : wpListIn F n P ops Q rest (a.put o.dst v') w') : wpListIn F n P ops Q (o :: rest) a w := by
  refine wpListIn_plain hgd fun K hK' => ?_
  unfold Oper.wpIn
  refine ⟨?_, ?_⟩
  · simp [Oper.about, ho, resolve, Target.leads, Sem.run_pure]
  · rw [Oper.semAt_plain F _ _ (by rw [ho]; intro c hc'; cases hc')]
    simp [execOp, ho, resolve, invoke, builtin, hs, hx, hr, Result.andThen]
    exact hK' _ _ h
theorem infoK : (Tryz.prog.info? (58)).map (fun i => (i.zero, i.size, i.bytes)) = some (some (.agg #[.int .u64 0, .int .u64 0]), 2, 16) := by kernel_rfl
def OwnK (B : Nat) (w : World) (v : Value) (xs : List (Int × Int)) : Prop := w.ownsRow B (58) 2 v xs.length (xs.flatMap lnc)
theorem run_append_link (w : World) (B : Nat) (v : Value) (ss : List (Int × Int)) (vb : Nat) (p : Int × Int) (ho : OwnK B w v ss) (hb : w.heap[vb]? = some (.cells #[.int .u64 p.1, .int .u64 p.2] (58) (0, 0))) (hx : ss.length < 1000000) (hB : B ≤ w.heap.size) (ty : TypeId) :
    ∃ v' w', (Builtin.append_ #[(59), (59)] ty #[v, .slice (some ⟨vb, 0, none⟩) 1 1]).run Tryz.prog w = .ok v' w' ∧ OwnK B w' v' (ss ++ [p]) ∧ w.grownBy w' v.ownBlock := by
  obtain ⟨i0, hin, hz0, hz1, hz2⟩ := info_parts infoK
  obtain ⟨v', w', hr, h2, h3, h4⟩ := run_append_own (P := Tryz.prog) w B (59) ty (58) i0 _ 2 16 Tryz.underlying59 hin hz0 hz1 hz2 rfl (by decide) v ss.length (ss.flatMap lnc) ho ⟨vb, 0, none⟩ 1 1 (lnc p) rfl (fun j u hj => by
      have : ((⟨vb, 0, none⟩ : Addr).add j) = ⟨vb, 0 + j, none⟩ := addr_add _ _ _
      rw [this, Nat.zero_add, cell_of_blk hb]
      simpa [lnc] using hj) (by intro v hv; simp [lnc] at hv; rcases hv with rfl | rfl <;> rfl) (by unfold maxLen; omega) (by omega) hB
  refine ⟨v', w', hr, ?_, h3⟩
  unfold OwnK
  rw [List.length_append, List.flatMap_append]
  simpa using h2
theorem ownK_turn {B b N : Nat} {A C : World} {v : Value} {xs : List (Int × Int)} (h : OwnK B A v xs) (ht : Turn b N A C) (hb : b < B) : OwnK B C v xs := by
  obtain ⟨h1, h2⟩ := h
  refine ⟨h1, ?_⟩
  rcases h2 with h2 | ⟨g, cap, cur, hv, hg, hh, hr⟩
  · exact .inl h2
  · exact .inr ⟨g, cap, cur, hv, hg, ht.kept g _ hh (by omega) (.inr rfl), hr⟩
theorem ownK_cells {B k : Nat} {w : World} {v : Value} {xs : List (Int × Int)} {o : Obj} (h : OwnK B w v xs) (hk : w.heap[k]? = some o) (ho : o.isCells = false) : some k ≠ v.ownBlock := by
  intro e
  obtain ⟨_, h2 | ⟨g, cap, cur, hv, hg, hh, _⟩⟩ := h
  · rw [h2.1] at e; cases e
  · rw [hv] at e
    injection e with e
    have e : k = g := e
    subst e
    rw [hk] at hh
    injection hh with hh
    rw [hh] at ho
    cases ho
theorem clipK_any (a : Option Addr) (cap n : Nat) (w : World) (hn : a = none → n = 0 ∧ cap = 0) (hl : n < 1000000) (hle : n ≤ cap) (hm : cap ≤ maxLen) :
    Calls Tryz.prog 42 #[.slice a n cap] w fun e w' => e = .returned (.slice a n n) ∧ w = w' := by
  cases a with
  | none =>
    obtain ⟨rfl, rfl⟩ := hn rfl
    clear hn
    go_enter Tryz.func42, Tryz.ntmps42
    go_wp2
    go_ret
    exact ⟨rfl, rfl⟩
  | some ad =>
    clear hn
    unfold maxLen at hm
    go_enter Tryz.func42, Tryz.ntmps42
    go_wp2
    go_ret
    exact ⟨rfl, rfl⟩
theorem up_any (x : Option Addr) (line : Int) (w : World) : Calls Tryz.prog 41 #[.pointer x, .int .u64 line] w fun e w' => e = .returned (.func (.func 66) #[] #[.pointer (some ⟨w.heap.size, 0, none⟩), .pointer (some ⟨w.heap.size + 1, 0, none⟩)]) ∧ w' = (w.alloc (.cells #[.pointer x] (26))).alloc (.cells #[.int .u64 line] (52)) := by
  go_enter Tryz.func41, Tryz.ntmps41
  go_wp2
  go_ret
  exact ⟨rfl, rfl⟩
def ChainOwn (xs : List (Int × Int)) (w : World) (e : Ending) (w' : World) : Prop := ∃ a cap, e = .returned (.slice a xs.length xs.length) ∧ OwnK w.heap.size w' (.slice a xs.length cap) xs ∧ Below w.heap.size w w'
theorem ownK_le {B C : Nat} {w : World} {v : Value} {xs : List (Int × Int)} (h : OwnK B w v xs) (hc : C ≤ B) : OwnK C w v xs :=
  ⟨h.1, h.2.imp id (fun ⟨g, cap, cur, h1, h2, r⟩ => ⟨g, cap, cur, h1, Nat.le_trans hc h2, r⟩)⟩
def ChainPost (xs : List (Int × Int)) (w : World) (e : Ending) (w' : World) : Prop := ∃ a, e = .returned (.slice a xs.length xs.length) ∧ Lns w' a xs ∧ Below w.heap.size w w'
theorem chain_len {ls : List Ln} : ∀ (n : Nat) (line a : Int), (chainF ls n line a).length ≤ n
  | 0, _, _ => Nat.le_refl _
  | n + 1, line, a => by
    rw [chainF_succ]
    cases parL ls line with
    | none => simp
    | some p =>
      simp only [List.length_cons]
      by_cases h0 : line = 0
      · simp [h0]
      · rw [if_neg h0]; have := chain_len (ls := ls) n p line; omega
set_option maxRecDepth 100000 in
set_option maxHeartbeats 1000000 in
theorem chain_in {bs : List Br} {ls : List Ln} (p : Nat) (line : Int) (w : World) (h : TreeIs w p bs ls) (hf : FormedL ls) (hl1 : ls.length < 1000000) :
    CallsIn Fence.wide 5 Tryz.prog (24) #[.pointer (some ⟨p, 0, none⟩), .int .u64 line] w (ChainOwn (chainF ls ls.length line 18446744073709551615) w) := by
  obtain ⟨w1, hw1⟩ : ∃ w1 : World, w1 = w.alloc (.cells #[.slice none 0 0] (59)) := ⟨_, rfl⟩
  have hB1 : Below w.heap.size w w1 := by rw [hw1]; exact balc (Below.refl _ _)
  have HT := Lib.hid (there_any p w1 (h.ext hB1))
  rw [hw1] at HT
  obtain ⟨w2, hw2⟩ : ∃ w2 : World, w2 = (w1.alloc (.cells #[.pointer (some ⟨p, 0, none⟩)] (26))).alloc (.cells #[.int .u64 line] (52)) := ⟨_, rfl⟩
  have hB2 : Below w.heap.size w w2 := by rw [hw2]; exact balc (balc hB1)
  have hs1 : w1.heap.size = w.heap.size + 1 := by rw [hw1]; simp
  have hs2 : w2.heap.size = w.heap.size + 3 := by rw [hw2]; simp [hs1]
  have ho2 : w2.heap[w.heap.size]? = some (.cells #[.slice none 0 0] (59) (0, 0)) := by rw [hw2, hw1]; exact blk_alloc (blk_alloc (blk_new_at rfl _))
  have hu2 : UpW w p (w.heap.size + 1) (w.heap.size + 2) line w2 := ⟨hB2.size, fun k hk => hB2.block k hk, by rw [hw2]; exact blk_alloc (blk_new_at hs1.symm _), by rw [hw2]; exact blk_new_at (by simp [hs1]) _⟩
  have HSQ := Lib.hid (up1_but 4 (by omega) h hf hl1 hu2 (by omega) (by omega) (by omega) (by omega) (bo := w.heap.size) (Nat.le_refl _) (by omega) (by omega) (by omega))
  refine callsIn_of_wp_marks Tryz.func24 rfl trivial ?_ rfl
  simp only [Tryz.ntmps24, List.size_toArray, List.length_cons, List.length_nil, Nat.reduceAdd, Nat.reduceSub, Array.replicate_succ, Array.replicate_zero, List.push_toArray, List.append_toArray, List.nil_append, List.cons_append]
  gi_wp2_with (first | (refine ⟨trivial, ?_⟩; gi_at_call 35; refine (callsIn_wide.2 HT.out).mono ?_; rintro e w' ⟨rfl, rfl⟩) | (refine ⟨trivial, ?_⟩; gi_at_call 41; refine (callsIn_wide.2 (up_any _ _ _)).mono ?_; rintro e w' ⟨rfl, rfl⟩))
  have hww : ((w.alloc (.cells #[.slice none 0 0] (59))).alloc (.cells #[.pointer (some ⟨p, 0, none⟩)] (26))).alloc (.cells #[.int .u64 line] (52)) = w2 := by rw [hw2, hw1]
  rw [hww]
  clear hww hw1 hw2 HT
  refine wpIn_range_but (n := 5) (gf := 66) (lb := #[.pointer (some ⟨w.heap.size + 1, 0, none⟩), .pointer (some ⟨w.heap.size + 2, 0, none⟩)]) rfl (enters_of Tryz.func66 (by kernel_rfl) rfl) (encs := encL) (fun _ => rfl) (chainF ls ls.length line 18446744073709551615) (b := w.heap.size + 2) (bo := w.heap.size) (by omega) HSQ.out
    (fun pre W => ∃ v, W.heap[w.heap.size]? = some (.cells #[v] (59) (0, 0)) ∧ OwnK w2.heap.size W v pre ∧ Below w.heap.size w W ∧ w2.heap.size ≤ W.heap.size)
    (fun pre A B hi ht => by
      obtain ⟨v, hv, hO, hb, hsz⟩ := hi
      exact ⟨v, ht.kept _ _ hv (by omega) (.inl (by omega)), ownK_turn hO ht (by omega), ht.below hb (by omega) (by omega) (Nat.le_refl _), Nat.le_trans hsz ht.size⟩)
    ⟨_, ho2, World.ownsRow_nil _ _ _ _, hB2, Nat.le_refl _⟩
    (fun x => { tmps := #[.pointer (some ⟨p, 0, none⟩), .int .u64 line, undef, undef, .pointer (some ⟨w.heap.size, 0, none⟩), .int .u64 x.1, .int .u64 x.2, .pointer (some ⟨p, 0, none⟩), .bool true, .bool false, .pointer (some ⟨p, 0, none⟩), .int .u64 line, .func (.func 66) #[] #[.pointer (some ⟨w.heap.size + 1, 0, none⟩), .pointer (some ⟨w.heap.size + 1 + 1, 0, none⟩)], .int .u64 x.1, .int .u64 x.2, undef, undef, undef, undef, undef, undef, undef, undef], defers := [] }) ?assign ?body ?done
  case assign =>
    intro l x W K hK
    gi_wp2
    exact hK
  case body =>
    rintro l pre x W ⟨v, hv, hO, hB, hNW⟩ hpre
    have hc := cell_of_blk hv 0
    simp at hc
    have hpl : pre.length < 1000000 := by
      have h1 := hpre.length_le
      have h2 := chain_len (ls := ls) ls.length line 18446744073709551615
      rw [List.length_append, List.length_singleton] at h1
      omega
    obtain ⟨X, hX⟩ : ∃ X : World, X = W.alloc (.cells #[.int .u64 x.1, .int .u64 x.2] (58)) := ⟨_, rfl⟩
    have hBX : Below W.heap.size W X := by rw [hX]; exact (Below.refl _ _).alloc (Nat.le_refl _) _
    obtain ⟨v', w', hr, hO', hg⟩ := run_append_link X w2.heap.size v pre W.heap.size x (ownsRow_below hO hBX (Nat.le_refl _)) (by rw [hX]; exact blk_new_at rfl _) hpl (Nat.le_trans hNW hBX.size) (59)
    have hown : ∀ k, v.ownBlock = some k → w2.heap.size ≤ k := fun k e => (World.ownsRow.lt hO _ e).1
    have hv' : w'.heap[w.heap.size]? = some (.cells #[v] (59) (0, 0)) := (hg.block _ (lt_of_blk (blk_below hv hBX (lt_of_blk hv))) (fun e => by have := hown _ e.symm; omega)).trans (blk_below hv hBX (lt_of_blk hv))
    have hcw := cell_of_blk hv' 0
    have hfw := frozen_of_blk hv' 0
    simp at hcw
    obtain ⟨a, cap, rfl, hle, -⟩ := els_of_owns lnc_len hO'
    have hsX := hBX.size
    have hsg := hg.size
    have HE := Lib.hid (show ∀ u : Value, (∀ (k : Nat), k < w2.heap.size → k ≠ w.heap.size → (w'.setCell ⟨w.heap.size, 0, none⟩ u).heap[k]? = W.heap[k]?) ∧ (∀ (k : Nat) (o : Obj), w2.heap.size ≤ k → W.heap[k]? = some o → o.isCells = false → (w'.setCell ⟨w.heap.size, 0, none⟩ u).heap[k]? = some o) ∧ Below w.heap.size w (w'.setCell ⟨w.heap.size, 0, none⟩ u) from fun u => by
      refine ⟨fun k hk hne => ?_, fun k o hk ho hoc => ?_, ?_⟩
      · rw [Below.heap_setCell _ _ _ _ hne, hg.block k (by omega) (fun e => by have := hown _ e.symm; omega), hBX.block k (by omega)]
      · exact blk_setCell_other ((hg.block k (by have := lt_of_blk ho; omega) (ownK_cells hO ho hoc)).trans (blk_below ho hBX (lt_of_blk ho))) (by show k ≠ w.heap.size; omega) _
      · exact ((hB.trans (hBX.mono hB.size)).grown hg (by have := hB.size; omega) (fun k e => by have := hown _ e; omega)).setCell (Nat.le_refl _) _)
    have HO := Lib.hid hO'
    rw [hX] at hr
    clear hX hO' hO hg hB hown
    gi_wp2_with (gi_at_builtin; refine wpListIn_append_run _ rfl _ _ _ _ rfl _ _ rfl rfl _ _ hr ?_)
    obtain ⟨e1, e2, e3⟩ := HE.out (.slice a (pre.length + 1) cap)
    have HO2 := HO.out
    rw [show (pre ++ [x]).length = pre.length + 1 by simp] at HO2
    refine ⟨⟨by rw [World.size_setCell]; omega, e1⟩, e2, _, blk_setCell hv' _, ownsRow_setCell_below (a := ⟨w.heap.size, 0, none⟩) HO2 (by show w.heap.size < w2.heap.size; omega) _, e3, by rw [World.size_setCell]; omega⟩
  case done =>
    rintro W ⟨v, hv, hO, hB, hNW⟩ hK
    have hcl := chain_len (ls := ls) ls.length line 18446744073709551615
    obtain ⟨k, hk⟩ : ∃ k, k = chainF ls ls.length line 18446744073709551615 := ⟨_, rfl⟩
    have HKK := Lib.hid hk
    rw [← hk] at hO hcl
    rw [hs2] at hK
    obtain ⟨a, cap, rfl, hle, hE⟩ := els_of_owns lnc_len hO
    have hform : (a = none → k.length = 0 ∧ cap = 0) ∧ cap ≤ maxLen := by
      obtain ⟨_, h2 | ⟨g, c, cur, hv, hg, hh, _, hm, _⟩⟩ := hO
      · obtain ⟨h3, h4⟩ := h2
        injection h3 with h3 h5 h6
        exact ⟨fun _ => ⟨h5, h6⟩, by rw [h6]; unfold maxLen; omega⟩
      · injection hv with h3 h5 h6
        subst h6
        exact ⟨fun h => by rw [h3] at h; (cases h), hm⟩
    have hc := cell_of_blk hv 0
    have hf := frozen_of_blk hv 0
    simp at hc
    have hE' : Lns W a k := hE
    have HV := Lib.hid hv
    have HOO := Lib.hid hO
    have HCLP := Lib.hid (clipK_any a cap k.length W hform.1 (by omega) hle hform.2)
    clear hO hform hE hv hk
    gi_wp2_with (refine ⟨trivial, ?_⟩; gi_at_call 42; refine (callsIn_wide.2 HCLP.out).mono ?_; rintro e w4 ⟨rfl, rfl⟩)
    have hD : (W.setCell ⟨w.heap.size, 0, none⟩ (.slice a k.length k.length)).heap[w.heap.size + 3]? = some (.deferred (some [])) := blk_setCell_other hK (by show w.heap.size + 3 ≠ w.heap.size; omega) _
    refine ⟨by simp, .inl ⟨_, _, rfl, run_takeDeferred hD, ?_⟩⟩
    have hBe : Below w.heap.size w (W.setCell ⟨w.heap.size, 0, none⟩ (.slice a k.length k.length)) := hB.setCell (Nat.le_refl _) _
    have hB5 := belowK_b (w := w) (Nat.le_refl _) (W.setCell ⟨w.heap.size, 0, none⟩ (.slice a k.length k.length)) (w.heap.size + 3) _ (.deferred none) (by omega) hD rfl rfl
    have hx5 : ((W.setCell ⟨w.heap.size, 0, none⟩ (.slice a k.length k.length)).putObj (w.heap.size + 3) (.deferred none)).heap[w.heap.size]? = some (.cells #[.slice a k.length k.length] (59) (0, 0)) := (World.putObj_heap_other (by omega)).trans (blk_setCell HV.out _)
    have hc5 := cell_of_blk hx5 0
    simp at hc5
    refine ⟨.slice a k.length k.length, by simp [results, Tryz.results24, go_sem, hc5], ?_⟩
    rw [← HKK.out]
    have hO2 := ownsRow_setCell_below (a := ⟨w.heap.size, 0, none⟩) HOO.out (by show w.heap.size < w2.heap.size; omega) (.slice a k.length k.length)
    have hO3 := ownsRow_putObj hO2 (.deferred none) hD rfl
    exact ⟨a, cap, rfl, ownK_le hO3 (by omega), hBe.trans hB5⟩
theorem chain_own {bs : List Br} {ls : List Ln} (p : Nat) (line : Int) (w : World) (h : TreeIs w p bs ls) (hf : FormedL ls) (hl1 : ls.length < 1000000) :
    Calls Tryz.prog (24) #[.pointer (some ⟨p, 0, none⟩), .int .u64 line] w (ChainOwn (chainF ls ls.length line 18446744073709551615) w) :=
  (callsIn_wide (n := 5)).1 (chain_in p line w h hf hl1)
/-- Chain. -/
theorem chain_any {bs : List Br} {ls : List Ln} (p : Nat) (line : Int) (w : World) (h : TreeIs w p bs ls) (hf : FormedL ls) (hl1 : ls.length < 1000000) :
    Calls Tryz.prog (24) #[.pointer (some ⟨p, 0, none⟩), .int .u64 line] w (ChainPost (chainF ls ls.length line 18446744073709551615) w) :=
  (chain_own p line w h hf hl1).mono (by
    rintro e w' ⟨a, cap, rfl, hO, hB⟩
    obtain ⟨a9, c9, hv9, -, hE9⟩ := els_of_owns lnc_len hO
    cases hv9
    exact ⟨a, rfl, hE9, hB⟩)
end Go.Proofs.YticcccciefaemaaGreatDoor.Ln

namespace Go.Proofs.YticcccciefaemaaGreatDoor.Ln
open Go.RowKit Go.Shelf Go.Herb

theorem own_pre {α : Type} {enc : α → List Value} {s e B n : Nat} {w : World} {v : Value} {xs : List α} (h : w.ownsRow B e s v n (xs.flatMap enc)) (h0 : 0 < n) :
    ∃ (g c : Nat) (R : List Value), v = .slice (some ⟨g, 0, none⟩) n c ∧ B ≤ g ∧ w.heap[g]? = some (.cells (xs.flatMap enc ++ R).toArray e (0, 0)) ∧ n ≤ c ∧ c ≤ maxLen := by
  obtain ⟨hl, h2 | ⟨g, cap, cur, hv, hg, hh, hle, hm, hsz, htk⟩⟩ := h
  · omega
  · refine ⟨g, cap, cur.toList.drop (n * s), hv, hg, ?_, hle, hm⟩
    rw [← htk, List.take_append_drop]
    exact hh
/-- A slice that is laid anew, as long as its room. -/
def FreshPost {α : Type} (enc : α → List Value) (ty : TypeId) (xs : List α) (w : World) (e : Ending) (w' : World) : Prop :=
  ∃ (g : Nat) (R : List Value), e = .returned (.slice (some ⟨g, 0, none⟩) xs.length xs.length) ∧ w.heap.size ≤ g ∧ w'.heap[g]? = some (.cells (xs.flatMap enc ++ R).toArray ty (0, 0)) ∧ Below w.heap.size w w'

set_option maxRecDepth 100000 in
theorem cloneL_any (a : Option Addr) (cap n : Nat) (xs : List Ln) (w : World) (hE : Lns w a xs) (hn : xs.length = n) (h0 : 0 < n) (hn1 : n < 1000000) :
    Calls Tryz.prog (37) #[.slice a n cap] w fun e w' => ∃ (g c : Nat) (R : List Value), e = .returned (.slice (some ⟨g, 0, none⟩) n c) ∧ w.heap.size ≤ g ∧ w'.heap[g]? = some (.cells (xs.flatMap lnc ++ R).toArray (74) (0, 0)) ∧ n ≤ c ∧ c ≤ maxLen ∧ Below w.heap.size w w' := by
  obtain ⟨b, o, rfl, hlb, -⟩ := hE.get 0 (by omega)
  obtain ⟨i0, hin, hz0, hz1, hz2⟩ := info_parts infoL
  obtain ⟨W, hW⟩ : ∃ W : World, W = w.alloc (.cells #[] (74)) := ⟨_, rfl⟩
  have hB : Below w.heap.size w W := by rw [hW]; exact balc (Below.refl _ _)
  have hx : W.heap[w.heap.size]? = some (.cells #[] (74) (0, 0)) := by rw [hW]; exact blk_new_at rfl _
  have hO : W.ownsRow w.heap.size (74) 2 (.slice (some ⟨w.heap.size, 0, none⟩) 0 0) 0 ([] : List Value) := ⟨rfl, .inr ⟨w.heap.size, 0, #[], rfl, Nat.le_refl _, hx, Nat.le_refl _, Nat.zero_le _, rfl, rfl⟩⟩
  obtain ⟨v', w', hr, h2, h3, h4⟩ := run_append_own (P := Tryz.prog) W w.heap.size (23) (23) (74) i0 _ 2 16 Tryz.underlying23 hin hz0 hz1 hz2 rfl (by decide) (.slice (some ⟨w.heap.size, 0, none⟩) 0 0) 0 [] hO ⟨b, o, none⟩ n cap (xs.flatMap lnc) (by rw [flatMap_len lnc_len, hn]) (Els.flat (hE.ext hB) lnc_len (by decide)) (fun v hv => by
    obtain ⟨x, _, hx⟩ := List.mem_flatMap.1 hv
    exact lnc_one x v hx) (by unfold maxLen; omega) (by omega) hB.size
  rw [Nat.zero_add, List.nil_append] at h2
  obtain ⟨g, c, R, rfl, hg, hh, hle, hmx⟩ := own_pre h2 h0
  have HE := Lib.hid (show w.heap.size ≤ g ∧ w'.heap[g]? = some (.cells (xs.flatMap lnc ++ R).toArray (74) (0, 0)) ∧ n ≤ c ∧ c ≤ maxLen ∧ Below w.heap.size w w' from ⟨hg, hh, hle, hmx, hB.grown h3 hB.size (fun k e => by cases e; exact Nat.le_refl _)⟩)
  rw [hW] at hr
  have qT : ∀ (w : World) (a : Option Addr) (l c : Nat), (binOp .eql (23) (.slice a l c) (.slice none 0 0)).run Tryz.prog w = .ok (.bool a.isNone) w := fun w a l c => Lib.run_eql_slice_nil w _ _ a l c 0 0 Tryz.underlying23
  clear hW hB hx hO h2 h3 h4 hg hh hle hmx hE hn hin hz0 hz1 hz2 hlb
  go_enter Tryz.func37, Tryz.ntmps37
  go_wp2_with (at_builtin; refine Lib.wpList_append_run _ rfl _ _ _ _ rfl _ _ rfl rfl _ _ hr ?_)
  go_ret
  exact ⟨g, c, R, rfl, HE.out⟩
theorem clipL_any (ad : Addr) (cap n : Nat) (w : World) (hl : n < 1000000) (hle : n ≤ cap) (hm : cap ≤ maxLen) :
    Calls Tryz.prog (36) #[.slice (some ad) n cap] w fun e w' => e = .returned (.slice (some ad) n n) ∧ w = w' := by
  have _hl := hl
  unfold maxLen at hm
  have _hm := hm
  go_enter Tryz.func36, Tryz.ntmps36
  go_wp2
  go_ret
  exact ⟨rfl, rfl⟩
set_option maxRecDepth 100000 in
theorem allL_any {bs : List Br} {ls : List Ln} (p : Nat) (w : World) (h : TreeIs w p bs ls) (h0 : 0 < ls.length) (h1 : ls.length < 1000000) :
    Calls Tryz.prog (21) #[.pointer (some ⟨p, 0, none⟩)] w (FreshPost lnc (74) ls w) := by
  have HT := Lib.hid (there_any p w h)
  obtain ⟨ba, bc, la, lc, hb, hB, hL⟩ := h.blk
  obtain ⟨n, hn⟩ : ∃ n, ls.length = n := ⟨_, rfl⟩
  have c0 := cell_of_blk hb 1
  simp at c0
  rw [hn] at h0 h1 c0
  have HC := Lib.hid (cloneL_any la lc n ls w hL hn h0 h1)
  have HN := Lib.hid hn
  have HI := Lib.hid h1
  clear h hb hB hL hn h0 h1
  go_enter Tryz.func21, Tryz.ntmps21
  go_wp2_with (first
    | (go_at_call 35; refine HT.out.mono ?_; rintro e w' ⟨rfl, rfl⟩)
    | (go_at_call 37; refine HC.out.mono ?_; rintro e w1 ⟨g, c, R, rfl, hg, hh, hle, hmx, hB1⟩)
    | (go_at_call 36; refine (clipL_any ⟨g, 0, none⟩ c n w1 HI.out hle hmx).mono ?_; rintro e w2 ⟨rfl, rfl⟩))
  go_ret
  rw [← HN.out] at *
  exact ⟨g, R, rfl, hg, hh, hB1⟩
theorem allL_none {v : Value} (w : World) (h : Calls Tryz.prog (35) #[v] w fun e w' => e = .returned (.bool false) ∧ w = w') : Calls Tryz.prog (21) #[v] w fun e w' => e = .returned (.slice none 0 0) ∧ w = w' := by
  have H := Lib.hid h
  clear h
  go_enter Tryz.func21, Tryz.ntmps21
  go_wp2_with (go_at_call 35; refine H.out.mono ?_; rintro e w' ⟨rfl, rfl⟩)
  go_ret
  exact ⟨rfl, rfl⟩

set_option maxRecDepth 100000 in
theorem cloneB_any (a : Option Addr) (cap n : Nat) (xs : List Br) (w : World) (hE : Brs w a xs) (hn : xs.length = n) (h0 : 0 < n) (hn1 : n < 1000000) :
    Calls Tryz.prog (40) #[.slice a n cap] w fun e w' => ∃ (g c : Nat) (R : List Value), e = .returned (.slice (some ⟨g, 0, none⟩) n c) ∧ w.heap.size ≤ g ∧ w'.heap[g]? = some (.cells (xs.flatMap brc ++ R).toArray (78) (0, 0)) ∧ n ≤ c ∧ c ≤ maxLen ∧ Below w.heap.size w w' := by
  obtain ⟨b, o, rfl, hlb, -⟩ := hE.get 0 (by omega)
  obtain ⟨i0, hin, hz0, hz1, hz2⟩ := info_parts infoB
  obtain ⟨W, hW⟩ : ∃ W : World, W = w.alloc (.cells #[] (78)) := ⟨_, rfl⟩
  have hB : Below w.heap.size w W := by rw [hW]; exact balc (Below.refl _ _)
  have hx : W.heap[w.heap.size]? = some (.cells #[] (78) (0, 0)) := by rw [hW]; exact blk_new_at rfl _
  have hO : W.ownsRow w.heap.size (78) 3 (.slice (some ⟨w.heap.size, 0, none⟩) 0 0) 0 ([] : List Value) := ⟨rfl, .inr ⟨w.heap.size, 0, #[], rfl, Nat.le_refl _, hx, Nat.le_refl _, Nat.zero_le _, rfl, rfl⟩⟩
  obtain ⟨v', w', hr, h2, h3, h4⟩ := run_append_own (P := Tryz.prog) W w.heap.size (22) (22) (78) i0 _ 3 32 Tryz.underlying22 hin hz0 hz1 hz2 rfl (by decide) (.slice (some ⟨w.heap.size, 0, none⟩) 0 0) 0 [] hO ⟨b, o, none⟩ n cap (xs.flatMap brc) (by rw [flatMap_len brc_len, hn]) (Els.flat (hE.ext hB) brc_len (by decide)) (fun v hv => by
    obtain ⟨x, _, hx⟩ := List.mem_flatMap.1 hv
    exact brc_one x v hx) (by unfold maxLen; omega) (by omega) hB.size
  rw [Nat.zero_add, List.nil_append] at h2
  obtain ⟨g, c, R, rfl, hg, hh, hle, hmx⟩ := own_pre h2 h0
  have HE := Lib.hid (show w.heap.size ≤ g ∧ w'.heap[g]? = some (.cells (xs.flatMap brc ++ R).toArray (78) (0, 0)) ∧ n ≤ c ∧ c ≤ maxLen ∧ Below w.heap.size w w' from ⟨hg, hh, hle, hmx, hB.grown h3 hB.size (fun k e => by cases e; exact Nat.le_refl _)⟩)
  rw [hW] at hr
  have qT : ∀ (w : World) (a : Option Addr) (l c : Nat), (binOp .eql (22) (.slice a l c) (.slice none 0 0)).run Tryz.prog w = .ok (.bool a.isNone) w := fun w a l c => Lib.run_eql_slice_nil w _ _ a l c 0 0 Tryz.underlying22
  clear hW hB hx hO h2 h3 h4 hg hh hle hmx hE hn hin hz0 hz1 hz2 hlb
  go_enter Tryz.func40, Tryz.ntmps40
  go_wp2_with (at_builtin; refine Lib.wpList_append_run _ rfl _ _ _ _ rfl _ _ rfl rfl _ _ hr ?_)
  go_ret
  exact ⟨g, c, R, rfl, HE.out⟩
theorem clipB_any (ad : Addr) (cap n : Nat) (w : World) (hl : n < 1000000) (hle : n ≤ cap) (hm : cap ≤ maxLen) :
    Calls Tryz.prog (39) #[.slice (some ad) n cap] w fun e w' => e = .returned (.slice (some ad) n n) ∧ w = w' := by
  have _hl := hl
  unfold maxLen at hm
  have _hm := hm
  go_enter Tryz.func39, Tryz.ntmps39
  go_wp2
  go_ret
  exact ⟨rfl, rfl⟩
set_option maxRecDepth 100000 in
theorem allB_any {bs : List Br} {ls : List Ln} (p : Nat) (w : World) (h : TreeIs w p bs ls) (h0 : 0 < bs.length) (h1 : bs.length < 1000000) :
    Calls Tryz.prog (23) #[.pointer (some ⟨p, 0, none⟩)] w (FreshPost brc (78) bs w) := by
  have HT := Lib.hid (there_any p w h)
  obtain ⟨ba, bc, la, lc, hb, hB, hL⟩ := h.blk
  obtain ⟨n, hn⟩ : ∃ n, bs.length = n := ⟨_, rfl⟩
  have c0 := cell_of_blk hb 0
  simp at c0
  rw [hn] at h0 h1 c0
  have HC := Lib.hid (cloneB_any ba bc n bs w hB hn h0 h1)
  have HN := Lib.hid hn
  have HI := Lib.hid h1
  clear h hb hB hL hn h0 h1
  go_enter Tryz.func23, Tryz.ntmps23
  go_wp2_with (first
    | (go_at_call 35; refine HT.out.mono ?_; rintro e w' ⟨rfl, rfl⟩)
    | (go_at_call 40; refine HC.out.mono ?_; rintro e w1 ⟨g, c, R, rfl, hg, hh, hle, hmx, hB1⟩)
    | (go_at_call 39; refine (clipB_any ⟨g, 0, none⟩ c n w1 HI.out hle hmx).mono ?_; rintro e w2 ⟨rfl, rfl⟩))
  go_ret
  rw [← HN.out] at *
  exact ⟨g, R, rfl, hg, hh, hB1⟩
theorem allB_none {v : Value} (w : World) (h : Calls Tryz.prog (35) #[v] w fun e w' => e = .returned (.bool false) ∧ w = w') : Calls Tryz.prog (23) #[v] w fun e w' => e = .returned (.slice none 0 0) ∧ w = w' := by
  have H := Lib.hid h
  clear h
  go_enter Tryz.func23, Tryz.ntmps23
  go_wp2_with (go_at_call 35; refine H.out.mono ?_; rintro e w' ⟨rfl, rfl⟩)
  go_ret
  exact ⟨rfl, rfl⟩
end Go.Proofs.YticcccciefaemaaGreatDoor.Ln
