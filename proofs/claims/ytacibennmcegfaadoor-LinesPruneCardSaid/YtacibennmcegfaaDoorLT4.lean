/- A range over a function whose iterator turns one block of its own, where the rounds keep what the caller says; up's contract so. Condition: the lines are formed. -/
import Derived.Test.YtacibennmcegfaaDoorLP8
namespace Go.Herb
open Go.RowKit
/-- What a round keeps for the iterator. -/
structure KeepP (kp : Nat → Prop) (A B : World) : Prop where
  size : A.heap.size ≤ B.heap.size
  kept : ∀ (k : Nat), kp k → B.heap[k]? = A.heap[k]?
variable {P : Program}
/-- An iterator's contract: all of xs come, one behind the other, the rounds never saying 'no more'. -/
def SeqKp {α : Type} (n : Nat) (P : Program) (g : Nat) (lb : Array Value) (b : Nat) (kp : Nat → Prop) (encs : α → Array Value) (xs : List α) (w : World) : Prop :=
  ∀ (l : Nat) (J : List α → World → Prop) (W : World), Below w.heap.size w W → (∀ pre A B, J pre A → TurnI b A B → J pre B) →
    (∀ pre x W1, J pre W1 → (pre ++ [x]) <+: xs → YieldAt Fence.wide (n - 1) P l (encs x) W1 fun e W' => e = .returned (.bool true) ∧ J (pre ++ [x]) W' ∧ KeepP kp W1 W') →
    J [] W → CallsIn Fence.wide n P g (#[.func (.yield l) #[] #[]] ++ lb) W fun e W' => (∃ v, e = .returned v) ∧ J xs W'
def kpPost {α : Type} (N : Nat) (kp : Nat → Prop) (I : List α → World → Prop) (xs : List α) (W : World) : Exit → Act → World → Prop
  | .normal, _, W' => KeepP kp W W' ∧ (∀ (k : Nat) (o : Obj), N ≤ k → W.heap[k]? = some o → o.isCells = false → W'.heap[k]? = some o) ∧ I xs W'
  | _, _, _ => False

theorem wpIn_range_kp {α : Type} {n : Nat} {g : Operand} {ps : Array Tmp} {assign body : Code} {Q : Exit → Act → World → Prop} {a : Act} {w : World}
    {gf : Nat} {lb : Array Value} (hg : a.eval g = .func (.func gf) #[] lb) (eg : ∀ args w, (callFunc gf args).run P w = .ok (.enter gf args) w)
    {encs : α → Array Value} (hps : ∀ x, (encs x).size = ps.size) (xs : List α) {b : Nat} {kp : Nat → Prop} (hkp : ∀ k, kp k → k < w.heap.size) (hb : b < w.heap.size) (hseq : SeqKp (n - 1) P gf lb b kp encs xs w)
    (I : List α → World → Prop) (hI : ∀ pre A B, I pre A → Turn b w.heap.size A B → I pre B) (h0 : I [] w) (a₁ : α → Act)
    (hassign : ∀ (l : Nat) (x : α) (W : World) (K : Act → World → Prop), K (a₁ x) W →
      assign.wpIn (Fence.wide.inRound l) (n - 1 - 1) P (Exit.then K (fun _ _ _ => False)) { tmps := (ps.zip (encs x)).foldl (fun t (p, v) => t.setIfInBounds p v) a.tmps, defers := [] } W)
    (hbody : ∀ (l : Nat) (pre : List α) (x : α) (W : World), I pre W → (pre ++ [x]) <+: xs → body.wpIn (Fence.wide.inRound l) (n - 1 - 1) P (kpPost w.heap.size kp I (pre ++ [x]) W) (a₁ x) W)
    (hdone : ∀ (W : World), I xs W → W.heap[w.heap.size]? = some (.deferred (some [])) → Q .normal { a with defers := { target := .collected w.heap.size, args := #[] } :: a.defers } W) :
    (Code.rangeFunc g ps assign body).wpIn Fence.wide n P Q a w := by
  refine wpIn_rangeFunc fun fn hfn => ?_
  obtain ⟨rec, hrec⟩ : ∃ rec : LoopState → Loop, rec = fun st => { state := st, pending := none, fn, tmps := a.tmps, params := ps, assign, body, defers := w.heap.size } := ⟨_, rfl⟩
  obtain ⟨W1, hW1⟩ : ∃ W1, W1 = (w.alloc (.deferred (some []))).alloc (.loop (rec .ready)) := ⟨_, rfl⟩
  have hB1 : Below w.heap.size w W1 := by rw [hW1]; exact balc (balc (Below.refl _ _))
  have hL1 : W1.heap[w.heap.size + 1]? = some (.loop (rec .ready)) := by rw [hW1]; exact blk_new_at (by simp) _
  have hK1 : W1.heap[w.heap.size]? = some (.deferred (some [])) := by rw [hW1]; exact blk_alloc (blk_new_at rfl _)
  refine ⟨w.heap.size + 1, [{ target := .collected w.heap.size, args := #[] }], W1, { target := .fn (.func gf) lb, args := #[.func (.yield (w.heap.size + 1)) #[] #[]] }, W1, gf,
    #[.func (.yield (w.heap.size + 1)) #[] #[]] ++ lb, W1, ?_, ?_, ?_, ?_, ?_, ?_⟩
  · rw [hW1, hrec]; exact run_enterLoop_outer _ _ _ _ _
  · simp only [resolve, hg]
    simp [go_sem]
  · intro f' _; trivial
  · simp [invoke, go_sem, eg]
  · intro h; cases h
  · refine (hseq (w.heap.size + 1) (fun pre W => I pre W ∧ W.heap[w.heap.size + 1]? = some (.loop (rec .ready)) ∧ W.heap[w.heap.size]? = some (.deferred (some []))) W1 hB1
      (fun pre A B hs ht => ⟨hI _ _ _ hs.1 ht.turn, ht.kept _ _ hs.2.1 (by omega), ht.kept _ _ hs.2.2 (by omega)⟩) ?_ ⟨hI _ _ _ h0 (TurnI.of_below hB1).turn, hL1, hK1⟩).mono ?_
    · rintro pre x W ⟨hi, hl, hk⟩ hpre
      have hlt := lt_of_blk hl
      have hy := run_yield (P := P) (args := encs x) hl (by rw [hrec]; exact hps x)
      rw [hrec] at hy
      refine ⟨fn, _, assign, body, hy, roundIn_of_wpIn hfn (hassign _ x W _ ⟨_, run_beginRound hl (by rw [hrec]), ?_⟩)⟩
      have hl2 : (W.putObj (w.heap.size + 1) (.loop { rec .ready with state := .busy })).heap[w.heap.size + 1]? = some (.loop { rec .ready with state := .busy }) := World.putObj_heap_same hlt
      have hk2 : (W.putObj (w.heap.size + 1) (.loop { rec .ready with state := .busy })).heap[w.heap.size]? = some (.deferred (some [])) := (World.putObj_heap_other (by omega)).trans hk
      refine wpIn_mono (hbody _ pre x _ (hI _ _ _ hi (Turn.putObj _ hl rfl (by omega))) hpre) ?_
      rintro e a3 W3 hp
      cases e with
      | normal =>
        obtain ⟨hk3, hn3, hi3⟩ := hp
        have hl3 := hn3 _ _ (by omega) hl2 rfl
        have hd3 := hn3 _ _ (Nat.le_refl _) hk2 rfl
        have hlt3 := lt_of_blk hl3
        have hr := run_endRound (P := P) none hl3
        rw [hrec] at hr
        refine ⟨_, _, hr, rfl, ⟨hI _ _ _ hi3 (Turn.putObj _ hl3 rfl (by omega)), ?_, ?_⟩, ?_⟩
        · rw [hrec]; exact World.putObj_heap_same hlt3
        · exact (World.putObj_heap_other (by omega)).trans hd3
        · refine ⟨?_, fun k hk => ?_⟩
          · have := hk3.size
            simp only [World.putObj, Array.size_setIfInBounds] at this ⊢
            exact this
          · have hkl := hkp k hk
            rw [World.putObj_heap_other (by omega), hk3.kept k hk, World.putObj_heap_other (by omega)]
      | ret => exact hp.elim
      | exit id => exact hp.elim
      | goto t => exact hp.elim
      | panic ch => exact hp.elim
      | outgrown => exact hp.elim
    · rintro e W2 ⟨⟨v, rfl⟩, hi, hl, hk⟩
      exact ⟨none, _, by have := run_endLoop (P := P) hl (by rw [hrec]; simp); rw [hrec] at this; exact this, hdone _ (hI _ _ _ hi (Turn.putObj _ hl rfl (by omega))) ((World.putObj_heap_other (by omega)).trans hk)⟩
end Go.Herb
namespace Go.Proofs.YtacibennmcegfaaDoor
open Go.RowKit Go.Shelf Go.Herb
theorem UpW.keepP {w0 X u : World} {p bt b : Nat} {kp : Nat → Prop} {line : Int} (h : UpW w0 p bt b line X) (hk : KeepP kp X u) (h0 : ∀ k, k < w0.heap.size → kp k) (ht : kp bt) (hb : kp b) : UpW w0 p bt b line u :=
  ⟨Nat.le_trans h.size hk.size, fun k hlt => (hk.kept k (h0 k hlt)).trans (h.old k hlt), (hk.kept bt ht).trans h.tree, (hk.kept b hb).trans h.at_⟩
set_option maxRecDepth 100000 in
set_option maxHeartbeats 1000000 in
theorem up1_kp (n : Nat) (hn : 1 ≤ n) {w0 w : World} {p bt b : Nat} {kp : Nat → Prop} {bs : List Br} {ls : List Ln} {line : Int} (ht : TreeIs w0 p bs ls) (hf : FormedL ls) (hl1 : ls.length < 1000000) (hu : UpW w0 p bt b line w) (hw0 : w0.heap.size ≤ w.heap.size) (hbtl : bt < w.heap.size) (hbl : b < w.heap.size)
    (hb0' : w0.heap.size ≤ b) (h1 : bt ≠ b) (hkp0 : ∀ k, k < w0.heap.size → kp k) (hkt : kp bt) (hkb : kp b) :
    SeqKp n Tryd.prog (45) #[.pointer (some ⟨bt, 0, none⟩), .pointer (some ⟨b, 0, none⟩)] b kp encL (chainF ls ls.length line 18446744073709551615) w := fun l J W hW hJ hY h0 => by
  refine callsIn_wide.2 ?_
  obtain ⟨ba, bc, la, lc, hblk, hBs, hLs⟩ := ht.blk
  obtain ⟨gb, go, rfl, -, -⟩ := hLs.get 0 (by
    obtain ⟨h, _⟩ := List.getElem?_eq_some_iff.1 hf.first
    exact h)
  have HLC : Hid (∀ (u : World), w0.heap.size ≤ u.heap.size → (∀ k, k < w0.heap.size → u.heap[k]? = w0.heap[k]?) → ∀ (i : Nat) (x q : Int), ls[i]? = some (x, q) → u.cell? ⟨gb, go + i * 2 + 1, none⟩ = some (.int .u64 q)) := Lib.hid (fun u hus huo i x q hi => by
    obtain ⟨hil, hie⟩ := List.getElem?_eq_some_iff.1 hi
    obtain ⟨b', o', he, hlt, hc⟩ := (els_keep hLs hus huo).get i hil
    injection he with he
    injection he with e1 e2
    subst e1 e2
    exact hc 1 _ (by rw [hie]; rfl))
  obtain ⟨nb, hnb⟩ : ∃ nb, nb = bs.length := ⟨_, rfl⟩
  obtain ⟨m, hm⟩ : ∃ m, m = ls.length := ⟨_, rfl⟩
  rw [← hnb, ← hm] at hblk
  have hpl := ht.lt
  -- at whatever world of the iterator's: the cells, and the call of line
  have HAT : Hid (∀ (X : World) (q : Int), UpW w0 p bt b q X → (∀ u, Below X.heap.size X u → u.cell? ⟨bt, 0, none⟩ = some (.pointer (some ⟨p, 0, none⟩)) ∧ u.cell? ⟨p, 0, none⟩ = some (.slice ba nb bc) ∧ u.cell? ⟨p, 1, none⟩ = some (.slice (some ⟨gb, go, none⟩) m lc) ∧ u.cell? ⟨b, 0, none⟩ = some (.int .u64 q)) ∧
      (∀ u, Below X.heap.size X u → Calls Tryd.prog (41) #[partsV ba nb bc (some ⟨gb, go, none⟩) m lc, .int .u64 q] u (LinePost ls q u))) := Lib.hid (fun X q hx => ⟨fun u hu => by
    have hx' := hx.ext hu
    have c0 := cell_of_blk hx'.tree 0
    have c1 := cell_of_blk ((hx'.old p hpl).trans hblk) 0
    have c2 := cell_of_blk ((hx'.old p hpl).trans hblk) 1
    have c3 := cell_of_blk hx'.at_ 0
    simp at c0 c1 c2 c3
    exact ⟨c0, c1, c2, c3⟩, fun u hu => line_any ba nb bc (some ⟨gb, go, none⟩) lc m ls q u (els_keep hLs (hx.ext hu).size (hx.ext hu).old) hm.symm (by omega) hf.srt⟩)
  have HW := Lib.hid (hu.ext hW)
  have HSW := Lib.hid hW.size
  obtain ⟨-, hLN⟩ := HAT.out W line HW.out
  obtain ⟨S1, S2, S3, S4⟩ := (HAT.out W line HW.out).1 W (Below.refl _ _)
  have HS1 := Lib.hid (HAT.out W line HW.out).1
  have HLN := Lib.hid hLN
  have HDA := Lib.hid (show Below W.heap.size W W.drew from (Below.refl W.heap.size W).drew)
  have HJ := Lib.hid hJ
  have HY := Lib.hid hY
  have H0 := Lib.hid h0
  have HF := Lib.hid hf
  have HM := Lib.hid hm
  have HL1 := Lib.hid hl1
  clear hblk hBs hLs hLN hW hu hpl ht hJ hY h0 hf hnb hm hl1
  have hgoal : (#[Value.func (.yield l) #[] #[]] ++ #[.pointer (some ⟨bt, 0, none⟩), .pointer (some ⟨b, 0, none⟩)] : Array Value) = #[Value.func (.yield l) #[] #[], .pointer (some ⟨bt, 0, none⟩), .pointer (some ⟨b, 0, none⟩)] := rfl
  rw [hgoal]
  clear hgoal
  go_enter Tryd.func45, Tryd.ntmps45
  go_upto_region 1 with fail
  go_region_held3 (fun u => u.cell? ⟨bt, 0, none⟩ = some (.pointer (some ⟨p, 0, none⟩)) ∧ u.cell? ⟨p, 0, none⟩ = some (.slice ba nb bc) ∧ u.cell? ⟨p, 1, none⟩ = some (.slice (some ⟨gb, go, none⟩) m lc) ∧ u.cell? ⟨b, 0, none⟩ = some (.int .u64 line)) (first | exact HS1.out _ HDA.out | exact HS1.out _ hbu) (first | (go_at_call 41; (with_reducible refine (HLN.out _ HDA.out).mono ?_); rintro e w5 ⟨r, rfl, hr, hb5⟩; have hbu := HDA.out.trans (hb5.mono HDA.out.size)))
  have HUW := Lib.hid (HW.out.ext hbu)
  have HJ5 := Lib.hid (HJ.out _ _ _ H0.out (TurnI.of_below hbu))
  have HSZ := Lib.hid (Nat.le_trans HSW.out hbu.size)
  have HLA := Lib.hid hr
  clear hr hb5 hbu S1 S2 S3 S4 HS1 HLN HDA HW HSW H0
  go_wp2_with fail
  go_loopg [4, 5] ((r + 1).toNat) (fun gk av iv wr => ∃ (pre : List (Int × Int)) (line' ahead' r' : Int), gk = (r' + 1).toNat ∧ av = .int .u64 ahead' ∧ iv = .int .i64 r' ∧ Hid (LineAt ls line' r') ∧ Hid (chainF ls ls.length line 18446744073709551615 = pre ++ chainF ls ls.length line' ahead') ∧ Hid (UpW w0 p bt b line' wr) ∧ Hid (J pre wr) ∧ Hid (w.heap.size ≤ wr.heap.size))
  case atStart => exact ⟨[], line, _, r, rfl, rfl, rfl, HLA, Lib.hid rfl, HUW, HJ5, HSZ⟩
  case round =>
    clear HUW HJ5 HSZ HLA
    obtain ⟨pre, line', ahead', r', rfl, rfl, rfl, HLA, HCH, HUW, HJP, HSZ⟩ := hrel
    rcases HLA.out with ⟨i, q, rfl, hi, hpi⟩ | ⟨rfl, hno⟩
    case inr =>
      have HE := Lib.hid (show J (chainF ls ls.length line 18446744073709551615) wr from by rw [HCH.out, chain_none hno, List.append_nil]; exact HJP.out)
      clear hno
      go_wp2_with fail
      go_end0
      exact ⟨⟨_, rfl⟩, HE.out⟩
    have hi0 : (i : Int) ≥ 0 := by omega
    have HI := Lib.hid hi
    have hpre : (pre ++ [(line', ahead')]) <+: chainF ls ls.length line 18446744073709551615 := by
      rw [HCH.out]
      by_cases hl0 : line' = 0
      · rw [hl0] at hi ⊢
        rw [chain_zero HF.out hi]
        exact ⟨[], by simp⟩
      · obtain ⟨j, -, -, he⟩ := chain_next (ahead := ahead') HF.out hi hl0
        rw [he]
        exact ⟨chainF ls ls.length q line', by simp⟩
    obtain ⟨fn, tmps, assign, body, hy, hR⟩ := HY.out pre (line', ahead') wr HJP.out hpre
    dsimp only [encL] at hy
    have hcb := cell_of_blk HUW.out.at_ 0
    simp at hcb
    have HLT := Lib.hid (show bt < w.heap.size ∧ b < w.heap.size ∧ w0.heap.size ≤ w.heap.size from ⟨hbtl, hbl, hw0⟩)
    clear hi hpi hpre
    go_upto_region 4 with fail
    refine (wpIn_wide (n := n)).1 ?_
    gi_wp2
    refine hR.mono ?_
    rintro e W3 ⟨rfl, hJ3, hK3⟩
    have hu3 := HUW.out.keepP hK3 hkp0 hkt hkb
    have hc3 := cell_of_blk hu3.at_ 0
    simp at hc3
    gi_wp2
    clear hy hR hcb
    by_cases hl0 : line' = 0
    · have hb0 : (line' == 0) = true := by simp [hl0]
      have HE := Lib.hid (show J (chainF ls ls.length line 18446744073709551615) W3 from by
        have e := HCH.out
        rw [hl0, chain_zero HF.out (by rw [← hl0]; exact HI.out)] at e
        rw [e, ← hl0]
        exact hJ3)
      clear hl0 hJ3 hK3 hu3
      go_wp2_with fail
      refine bodyPost_ret (results_none rfl _ _ _) rfl ?_
      exact ⟨⟨_, rfl⟩, HE.out⟩
    · have hb0 : (line' == 0) = false := by simp [hl0]
      have HL0 := Lib.hid hl0
      have HU3 := Lib.hid hu3
      have HJ3 := Lib.hid hJ3
      have HZ3 := Lib.hid (Nat.le_trans HSZ.out hK3.size)
      have HS3 := Lib.hid (HAT.out W3 line' hu3).1
      have i1 : (0 : Int) ≤ (i : Int) := by omega
      have i2 : (i : Int) < (m : Int) := by
        have := HM.out
        obtain ⟨h, _⟩ := List.getElem?_eq_some_iff.1 HI.out
        omega
      have HQ := Lib.hid (fun (u : World) (hu : Below W3.heap.size W3 u) => HLC.out u (HU3.out.ext hu).size (HU3.out.ext hu).old i line' q HI.out)
      have HD3 := Lib.hid (show Below W3.heap.size W3 W3.drew from (Below.refl W3.heap.size W3).drew)
      clear hl0 hJ3 hK3 hu3 hc3
      go_upto_region 5 with fail
      have HS4 : Hid (∀ x : Int, UpW w0 p bt b x (W3.setCell ⟨b, 0, none⟩ (.int .u64 x)).drew) := Lib.hid (fun x => (HU3.out.set hb0' h1 x).ext (bdrw (Below.refl _ _)))
      obtain ⟨r1, -, r3, r4⟩ := HS3.out W3 (Below.refl _ _)
      have r5 := HQ.out W3 (Below.refl _ _)
      have r6 := frozen_of_blk HU3.out.at_ 0
      go_region
      clear r1 r3 r4 r5 r6 HQ HS3 i1 i2
      have HU4 := Lib.hid (HS4.out q)
      have HJ4 := Lib.hid (HJ.out _ _ _ HJ3.out ((TurnI.setCell (j := 0) (.int .u64 q)).trans (TurnI.of_below (bdrw (Below.refl _ _)))))
      have HZ4 := Lib.hid (show w.heap.size ≤ (W3.setCell ⟨b, 0, none⟩ (.int .u64 q)).drew.heap.size from Nat.le_trans HZ3.out (by simp))
      clear HS4 HD3 HJ3 HZ3 HU3
      generalize (W3.setCell ⟨b, 0, none⟩ (.int .u64 q)).drew = W4 at *
      have HLN := Lib.hid (HAT.out W4 q HU4.out).2
      obtain ⟨S1, S2, S3, S4⟩ := (HAT.out W4 q HU4.out).1 W4 (Below.refl _ _)
      have HS1 := Lib.hid (HAT.out W4 q HU4.out).1
      have HDA := Lib.hid (show Below W4.heap.size W4 W4.drew from (Below.refl W4.heap.size W4).drew)
      go_upto_region 3 with fail
      go_region_held3 (fun u => u.cell? ⟨bt, 0, none⟩ = some (.pointer (some ⟨p, 0, none⟩)) ∧ u.cell? ⟨p, 0, none⟩ = some (.slice ba nb bc) ∧ u.cell? ⟨p, 1, none⟩ = some (.slice (some ⟨gb, go, none⟩) m lc) ∧ u.cell? ⟨b, 0, none⟩ = some (.int .u64 q)) (first | exact HS1.out _ HDA.out | exact HS1.out _ hbu) (first | (go_at_call 41; (with_reducible refine (HLN.out _ HDA.out).mono ?_); rintro e w5 ⟨r5, rfl, hr, hb5⟩; have hbu := HDA.out.trans (hb5.mono HDA.out.size)))
      have HUW5 := Lib.hid (HU4.out.ext hbu)
      have HJ5 := Lib.hid (HJ.out _ _ _ HJ4.out (TurnI.of_below hbu))
      have HZ5 := Lib.hid (Nat.le_trans HZ4.out hbu.size)
      have HLA5 := Lib.hid hr
      obtain ⟨j, hji, ⟨q2, hjq⟩, hch⟩ := chain_next (ahead := ahead') HF.out HI.out HL0.out
      have hr5 : r5 = (j : Int) := by
        rcases hr with ⟨i5, p5, rfl, h5, -⟩ | ⟨-, h5⟩
        · have e1 := lnc_srt HF.out.srt (Nat.le_refl i5) h5 h5
          rcases Nat.lt_trichotomy i5 j with h6 | h6 | h6
          · have := FormedL.srt HF.out
            obtain ⟨a1, a2⟩ := List.getElem?_eq_some_iff.1 h5
            obtain ⟨a3, a4⟩ := List.getElem?_eq_some_iff.1 hjq
            have a5 := List.pairwise_iff_getElem.1 this i5 j a1 a3 h6
            rw [a2, a4] at a5
            exact absurd a5 (Int.lt_irrefl _)
          · rw [h6]
          · have := FormedL.srt HF.out
            obtain ⟨a1, a2⟩ := List.getElem?_eq_some_iff.1 h5
            obtain ⟨a3, a4⟩ := List.getElem?_eq_some_iff.1 hjq
            have a5 := List.pairwise_iff_getElem.1 this j i5 a3 a1 h6
            rw [a2, a4] at a5
            exact absurd a5 (Int.lt_irrefl _)
        · rw [parL_at HF.out.srt (x := (q, q2)) hjq] at h5
          cases h5
      have HCH5 := Lib.hid (show chainF ls ls.length line 18446744073709551615 = (pre ++ [(line', ahead')]) ++ chainF ls ls.length q line' from by rw [HCH.out, hch]; simp)
      have hme : (r5 + 1).toNat < ((i : Int) + 1).toNat := by omega
      clear hr hb5 hbu S1 S2 S3 S4 HS1 HLN HDA hjq hch hji hr5
      go_wp2_with fail
      go_roundg ((r5 + 1).toNat)
      case measure => exact hme
      case rel => exact ⟨pre ++ [(line', ahead')], q, line', r5, rfl, rfl, rfl, HLA5, HCH5, HUW5, HJ5, HZ5⟩
end Go.Proofs.YtacibennmcegfaaDoor
