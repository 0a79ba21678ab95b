/- keeps.Keep: the facts that somebody sees. Condition: fewer than 1000 facts and watches, fewer than 1000000 links. · herbariumlaw01.SameFacts at equal lists; Great. Condition: fewer than 1000000 facts. · herbariumlaw18.within and great; which facts of the chapter's example are kept. Condition: fewer than 1000000 facts. -/
import Derived.Test.YticcccciefaemaaGreatDoorK8
namespace Go.Proofs.YticcccciefaemaaGreatDoor
open Go.RowKit Go.Shelf Go.Herb

/-- A watch. -/
structure Wt where
  a : Option Addr
  c : Nat
  cs : List Lk
  at_ : Int
  on : Bool
  wt : (Lit.int .u64 at_).wf = true
def wc (x : Wt) : List Value := [.slice x.a x.cs.length x.c, .int .u64 x.at_, .bool x.on]
theorem wc_len (x : Wt) : (wc x).length = 3 := rfl
structure Watches (w : World) (a : Option Addr) (ws : List Wt) : Prop where
  els : Els wc 3 w a ws
  links : ∀ x ∈ ws, Links w x.a x.cs
  few : ∀ x ∈ ws, x.cs.length < 1000000
theorem Watches.ext {w w' : World} {a : Option Addr} {ws : List Wt} (h : Watches w a ws) (hb : Below w.heap.size w w') : Watches w' a ws := ⟨h.els.ext hb, fun x hx => (h.links x hx).ext hb, h.few⟩

/-- Does a watch look at the i-th fact, of those of a spot? -/
def LooksAt (xs : List Fc) (s : Spot) (x : Wt) (i : Nat) : Prop := LookB (sqF xs) x.on x.at_ ((rowP xs xs.length s).filter (seenI xs (uptoM (backs x.cs x.cs.length)))) i
def KeptP (xs : List Fc) (ws : List Wt) (i : Nat) : Prop := ∃ s, ∃ x ∈ ws, LooksAt xs s x i
def keptL (xs : List Fc) (f : Nat → Bool) (n : Nat) : List Fc := (List.range n).filterMap (fun i => if f i then xs[i]? else none)
/-- Those facts are kept. -/
def KeepIs (xs : List Fc) (ws : List Wt) (ys : List Fc) : Prop := ∃ f : Nat → Bool, (∀ i, i < xs.length → (f i = true ↔ KeptP xs ws i)) ∧ ys = keptL xs f xs.length
theorem keptL_succ (xs : List Fc) (f : Nat → Bool) (n : Nat) (h : n < xs.length) : keptL xs f (n + 1) = keptL xs f n ++ if f n then [xs[n]] else [] := by
  unfold keptL
  rw [List.range_succ, List.filterMap_append]
  congr 1
  cases hf : f n <;> simp [hf, List.getElem?_eq_getElem h]
theorem keptL_len (xs : List Fc) (f : Nat → Bool) (n : Nat) : (keptL xs f n).length ≤ n := by
  have := List.length_filterMap_le (fun i => if f i then xs[i]? else none) (List.range n)
  simpa [keptL] using this

/-- Counts: those that are not none. -/
def Cnt (n : Nat) (cs : List Nat) (Q : Nat → Prop) : Prop := cs.length = n ∧ ∀ j, j < n → (0 < cs.getD j 0 ↔ Q j)
def Bnd (cs : List Nat) (b : Nat) : Prop := ∀ j, cs.getD j 0 ≤ b
theorem getD_set_same (cs : List Nat) (j v : Nat) (h : j < cs.length) : (cs.set j v).getD j 0 = v := by rw [List.getD_eq_getElem?_getD, List.getElem?_set_self h]; rfl
theorem getD_set_other (cs : List Nat) (i j v : Nat) (h : j ≠ i) : (cs.set j v).getD i 0 = cs.getD i 0 := by rw [List.getD_eq_getElem?_getD, List.getD_eq_getElem?_getD, List.getElem?_set_ne h]
theorem Cnt.inc {n : Nat} {cs : List Nat} {Q Q' : Nat → Prop} (h : Cnt n cs Q) (j : Nat) (hj : j < n) (hq : ∀ i, Q' i ↔ Q i ∨ i = j) : Cnt n (cs.set j (cs.getD j 0 + 1)) Q' := by
  obtain ⟨h1, h2⟩ := h
  refine ⟨by rw [List.length_set]; exact h1, fun i hi => ?_⟩
  rw [hq]
  by_cases e : j = i
  · subst e
    rw [getD_set_same _ _ _ (by omega)]
    exact ⟨fun _ => .inr rfl, fun _ => by omega⟩
  · rw [getD_set_other _ _ _ _ e, h2 i hi]
    exact ⟨.inl, fun h => h.resolve_right (fun e2 => e e2.symm)⟩
theorem Cnt.same {n : Nat} {cs : List Nat} {Q Q' : Nat → Prop} (h : Cnt n cs Q) (hq : ∀ i, Q' i ↔ Q i) : Cnt n cs Q' := ⟨h.1, fun j hj => (h.2 j hj).trans (hq j).symm⟩
theorem Bnd.inc {cs : List Nat} {b : Nat} (h : Bnd cs b) (j : Nat) (hj : j < cs.length) : Bnd (cs.set j (cs.getD j 0 + 1)) (b + 1) := fun i => by
  by_cases e : j = i
  · subst e
    rw [getD_set_same _ _ _ hj]
    have := h j
    omega
  · rw [getD_set_other _ _ _ _ e]
    have := h i
    omega
theorem Bnd.mono {cs : List Nat} {b b' : Nat} (h : Bnd cs b) (hb : b ≤ b') : Bnd cs b' := fun j => Nat.le_trans (h j) hb

/-- No list, or a row of its own. -/
def FreshK (B : Nat) (w' : World) (a : Option Addr) (ys : List Fc) : Prop := (a = none ∧ ys = []) ∨ ∃ g cap, a = some ⟨g, 0, none⟩ ∧ B ≤ g ∧ Row fc 6 55 w' g cap ys
def KeepPost (xs : List Fc) (ws : List Wt) (w : World) (e : Ending) (w' : World) : Prop :=
  ∃ (a : Option Addr) (ys : List Fc), e = .returned (.slice a ys.length ys.length) ∧ KeepIs xs ws ys ∧ Facts w' a ys ∧ FreshK w.heap.size w' a ys ∧ ys.length ≤ xs.length ∧ Below w.heap.size w w'

theorem row_set_mid {g : Nat} {w wr : World} {r : Nat} (hg : ∀ b, g < b → b < r → wr.heap[b]? = w.heap[b]?) (v : Value) (j : Nat) : ∀ b, g < b → b < r → (wr.setCell ⟨g, j, none⟩ v).heap[b]? = w.heap[b]? := fun b h1 h2 =>
  (Below.heap_setCell wr ⟨g, j, none⟩ v b (show b ≠ g by omega)).trans (hg b h1 h2)

theorem els_setCell {α : Type} {enc : α → List Value} {s g j : Nat} {w : World} {a : Option Addr} {xs : List α} (h : Els enc s w a xs) (hne : ∀ ad, a = some ad → ad.block ≠ g) (v : Value) : Els enc s (w.setCell ⟨g, j, none⟩ v) a xs :=
  ⟨fun i hi => by
    obtain ⟨b, o, ha, hlt, hc⟩ := h.get i hi
    have hb : b ≠ g := hne _ ha
    exact ⟨b, o, ha, by simpa [World.setCell] using hlt, fun q c hq => (World.cell?_of_block (w := w) (Below.heap_setCell w ⟨g, j, none⟩ v b hb)).trans (hc q c hq)⟩⟩

set_option maxRecDepth 100000 in
set_option maxHeartbeats 8000000 in
theorem keep_any (al : Option Addr) (cl : Nat) (xs : List Fc) (aw : Option Addr) (cw : Nat) (ws : List Wt) (w : World) (hL : Facts w al xs) (hW : Watches w aw ws) (hxl : xs.length < 1000) (hwl : ws.length < 1000) :
    Calls Tryz.prog (13) #[.slice al xs.length cl, .slice aw ws.length cw] w (KeepPost xs ws w) := by
  obtain ⟨i0, hin, hz0, hz1, hz2⟩ := info_parts info3
  obtain ⟨n, hn⟩ : ∃ n, n = xs.length := ⟨_, rfl⟩
  obtain ⟨w1, hrun, hown, hgr⟩ := run_makeSlice_full (P := Tryz.prog) (w := w) w.heap.size (90) (3) i0 (.int .i64 0) 1 Tryz.underlying90 hin hz0 hz1 .i64 .i64 n (by omega) (by rw [hz2]; omega) (by unfold maxLen; omega) (Nat.le_refl _)
  have hcells : (madeCells (Value.int IntKind.i64 0).cells (n * 1)).toList = (List.replicate n 0).flatMap ic := by
    show (madeCells #[.int .i64 0] (n * 1)).toList = _
    rw [toList_madeCells_one, flat_one ic_one, List.map_replicate, Nat.mul_one]
    rfl
  rw [hcells] at hown
  have hrow1 : IRow w1 w.heap.size n (List.replicate n 0) := by
    have h2 := row_of_owns (enc := ic) (xs := List.replicate n 0) (by simpa using hown)
    rcases h2 with ⟨h3, _⟩ | ⟨g, cap, h3, _, h4⟩
    · cases h3
    · simp only [Value.slice.injEq, Option.some.injEq, Addr.mk.injEq] at h3
      obtain ⟨⟨rfl, _, _⟩, _, rfl⟩ := h3
      exact h4
  have hb1 : Below w.heap.size w w1 := Below.grown (Below.refl _ _) hgr (Nat.le_refl _) (fun k e => by cases e)
  have hs1 := hrow1.lt
  have HN := Lib.hid hn
  have HL := Lib.hid hL
  have HW := Lib.hid hW
  have HB1 := Lib.hid hb1
  have HROW1 := Lib.hid hrow1
  rw [hn] at hrun
  have hnb : n < 1000 := by omega
  clear hin hz0 hz1 hz2 hown hgr hcells hrow1 hb1 hL hW hn
  go_enter Tryz.func13, Tryz.ntmps13
  go_wp2_with fail
  refine (rows_any al cl xs w1 (HL.out.ext HB1.out) (by omega)).mono ?_
  rintro e w2 ⟨mb, B, rfl, hRI, hmb, hmB, hBs, hb2⟩
  obtain ⟨M, hM, hMl, hMs, hMn, -⟩ := hRI
  have hMnd := hM.nodup
  have hmlt := hM.lt
  obtain ⟨w3, hrange, hIt, hb3, hs3⟩ := hM.range Tryz.underlying91
  have HIT := Lib.hid hIt
  have HMS := Lib.hid hMs
  have HMN := Lib.hid hMn
  have HMND := Lib.hid hMnd
  have HB3 := Lib.hid ((HB1.out.trans (hb2.mono (Nat.le_of_lt hs1))).trans (hb3.mono (by omega)))
  have hb13 : Below w1.heap.size w1 w3 := hb2.trans (hb3.mono hb2.size)
  have HROW3 := Lib.hid (HROW1.out.below hb13)
  have H23 := Lib.hid hb3
  have hs13 := hb13.size
  clear hM hIt hMs hMn hMnd hb2 hb3 hb13 hrun HROW1 HB1
  go_wp2_with fail
  go_loopg [] M.length (fun gk wr => ∃ (done todo : List (Spot × Value)) (cs : List Nat), todo.length = gk ∧ M.Perm (done ++ todo) ∧ IterIs Tryz.prog (94) eS (fun v : Value => v) wr mb w2.heap.size M todo ∧ IRow wr w.heap.size n cs ∧ Cnt n cs (fun j => ∃ p ∈ done, ∃ x ∈ ws, LooksAt xs p.1 x j) ∧ Bnd cs (done.length * 1000000) ∧ Below w.heap.size w wr ∧ (∀ b, w.heap.size < b → b < w2.heap.size → wr.heap[b]? = w3.heap[b]?) ∧ w2.heap.size < wr.heap.size)
  case atStart => exact ⟨[], M, List.replicate n 0, rfl, .refl _, HIT.out, HROW3.out, ⟨List.length_replicate, fun j hj => by rw [List.getD_eq_getElem?_getD, List.getElem?_replicate]; simp [hj]⟩, fun j => by rw [List.getD_eq_getElem?_getD, List.getElem?_replicate]; split <;> simp, HB3.out, fun _ _ _ => rfl, by omega⟩
  case round =>
    obtain ⟨done, todo, cs, htl, hpm, hit, hrow, hcnt, hbnd, hBw, hmid, hws2⟩ := hrel
    have hdl : done.length + todo.length = M.length := by have := hpm.length_eq; simp at this; omega
    have HPM := Lib.hid hpm
    have HROW := Lib.hid hrow
    have HCNT := Lib.hid hcnt
    have HBND := Lib.hid hbnd
    have HBW := Lib.hid hBw
    have HMID := Lib.hid hmid
    clear hpm hrow hcnt hbnd hBw hmid
    rcases hit.next 0 with ⟨ht0, hnx⟩ | ⟨p, todo', w4, htp, hpm2, hnx, hit2, hg2, hs2, hen⟩
    · subst ht0
      have hcnt := HCNT.out
      have hkp : ∀ i, i < xs.length → (decide (0 < cs.getD i 0) = true ↔ KeptP xs ws i) := by
        intro i hi
        rw [decide_eq_true_eq, hcnt.2 i (by have := HN.out; omega)]
        constructor
        · rintro ⟨q, _, hx⟩; exact ⟨q.1, hx⟩
        · rintro ⟨s, x, hx, hl⟩
          cases hg : getL M s with
          | none =>
            have h1 := HMN.out s hg
            unfold LooksAt LookB at hl
            rw [h1] at hl
            simp at hl
          | some v =>
            have hm := (getL_some HMND.out).1 hg
            have hpm := HPM.out.mem_iff.1 hm
            rw [List.append_nil] at hpm
            exact ⟨(s, v), hpm, x, hx, hl⟩
      obtain ⟨f, hf⟩ : ∃ f : Nat → Bool, f = fun i => decide (0 < cs.getD i 0) := ⟨_, rfl⟩
      have hkp2 : ∀ i, i < xs.length → (f i = true ↔ KeptP xs ws i) := by rw [hf]; exact hkp
      have HKP := Lib.hid hkp2
      have HF := Lib.hid hf
      clear hit hcnt hkp hkp2 hf
      go_wp2_with fail
      obtain ⟨gk1, rfl⟩ : ∃ g : Nat, g = gk := ⟨_, rfl⟩
      obtain ⟨wo, rfl⟩ : ∃ wo : World, wo = wr := ⟨_, rfl⟩
      have hgo := HROW.out.lt
      go_loopg [12, 50] xs.length (fun gk ov iv wr => ∃ i : Nat, i + gk = xs.length ∧ iv = .int .i64 i ∧ OwnF wo.heap.size wr ov (keptL xs f i) ∧ Below wo.heap.size wo wr)
      case atStart => exact ⟨0, by omega, rfl, World.ownsRow_nil _ _ _ _, Below.refl _ _⟩
      case round =>
        obtain ⟨i, hi, rfl, hown, hBi⟩ := hrel
        have HBI := Lib.hid hBi
        have HOWN := Lib.hid hown
        have hsi := hBi.size
        clear hBi hown
        by_cases hlt : i < xs.length
        · obtain ⟨b, o, rfl, hlb, hcell⟩ := HL.out.get i hlt
          have hbw := HBW.out.trans (HBI.out.mono HBW.out.size)
          obtain ⟨c, hc⟩ := at_some (xs := cs) i (by have := HCNT.out.1; have := HN.out; omega)
          have k0 := irow_cell (HROW.out.same (HBI.out.block _ hgo)) i c hc
          have hfi : f i = decide (0 < c) := by rw [HF.out]; show decide (0 < cs.getD i 0) = decide (0 < c); rw [getD_of hc]
          have hgr : w.heap.size < wr.heap.size := by omega
          have hsn := keptL_succ xs f i hlt
          have hkl := keptL_len xs f i
          generalize xs[i] = x at *
          have e0 := (hbw.cell (p := ⟨b, _, none⟩) hlb).trans (hcell 0 _ rfl)
          have e1 := (hbw.cell (p := ⟨b, _, none⟩) hlb).trans (hcell 1 _ rfl)
          have e2 := (hbw.cell (p := ⟨b, _, none⟩) hlb).trans (hcell 2 _ rfl)
          have e3 := (hbw.cell (p := ⟨b, _, none⟩) hlb).trans (hcell 3 _ rfl)
          have e4 := (hbw.cell (p := ⟨b, _, none⟩) hlb).trans (hcell 4 _ rfl)
          have e5 := (hbw.cell (p := ⟨b, _, none⟩) hlb).trans (hcell 5 _ rfl)
          simp only [Nat.add_zero] at e0 e1 e2 e3 e4 e5
          have hi0 : (0 : Int) ≤ (i : Int) := by omega
          have hi1 : (i : Int) < (xs.length : Int) := by omega
          have hlr : b < wr.heap.size := by have := hbw.size; omega
          clear hcell hbw hc
          cases hfc : decide (0 < c) with
          | false =>
            have hc0 : ¬ 0 < c := of_decide_eq_false hfc
            rw [hfi, hfc] at hsn
            have HSN := Lib.hid hsn
            have hBX : Below wr.heap.size wr (wr.alloc (.cells #[.string x.key, .int .u32 x.valid, .int .u64 x.seq, .int .u64 x.line, .int .u8 x.kind, .string x.val] (55))) := (Below.refl _ _).alloc (Nat.le_refl _) _
            have HO2 := Lib.hid (OwnF.below HOWN.out hBX)
            have HB2 := Lib.hid (HBI.out.trans (hBX.mono hsi))
            clear hsn hfi hBX
            go_wp2_with fail
            go_roundg (gk - 1)
            case measure => omega
            case rel => exact ⟨i + 1, by omega, by go_num, by rw [HSN.out]; simpa using HO2.out, HB2.out⟩
          | true =>
            have hc0 : 0 < c := of_decide_eq_true hfc
            rw [hfi, hfc] at hsn
            have HSN := Lib.hid hsn
            obtain ⟨X, hX⟩ : ∃ X : World, X = (wr.alloc (.cells (fc x).toArray (55))).alloc (.cells (fc x).toArray (55)) := ⟨_, rfl⟩
            have hBX : Below wr.heap.size wr X := by rw [hX]; exact ((Below.refl _ _).alloc (Nat.le_refl _) _).alloc (by simp) _
            have hX1 : X.heap[wr.heap.size + 1]? = some (.cells (fc x).toArray (55) (0, 0)) := by rw [hX]; exact blk_new_at (by simp) _
            obtain ⟨v', w4, hrun, hO2, hg2⟩ := run_append_facts X wo.heap.size _ (keptL xs f i) (some ⟨wr.heap.size + 1, 0, none⟩) 1 [x] (OwnF.below HOWN.out hBX) (els_of_one hX1) (by omega) (by simp) (fun h => by cases h) (by have := hBX.size; omega) (56)
            have hrow' : ∀ k', _ → wo.heap.size ≤ k' := fun k' hk' => (World.ownsRow.lt HOWN.out k' hk').1
            have HB2 := Lib.hid ((HBI.out.trans (hBX.mono hsi)).grown hg2 (Nat.le_trans hsi hBX.size) hrow')
            have hrun' : (Builtin.append_ #[(56), (56)] (56) #[_, .slice (some ⟨wr.heap.size + 1, 0, none⟩) 1 1]).run Tryz.prog X = .ok v' w4 := hrun
            rw [hX] at hrun'
            have HRUN := Lib.hid hrun'
            have HO2 := Lib.hid hO2
            clear hX hBX hX1 hrun hrun' hO2 hg2 hrow' hsn hfi
            simp only [fc] at HRUN
            go_wp2_with (at_builtin; refine Lib.wpList_append_run _ rfl _ _ _ _ rfl _ _ rfl rfl _ _ (HRUN.out) ?_)
            go_roundg (gk - 1)
            case measure => omega
            case rel => exact ⟨i + 1, by omega, by go_num, by rw [HSN.out]; exact HO2.out, HB2.out⟩
        · have hie : i = xs.length := by omega
          subst hie
          have hkl := keptL_len xs f xs.length
          have HKI := Lib.hid (⟨f, HKP.out, rfl⟩ : KeepIs xs ws (keptL xs f xs.length))
          have HBF := Lib.hid (HBW.out.trans (HBI.out.mono HBW.out.size))
          rcases row_of_owns (enc := fc) (show wr.ownsRow wo.heap.size _ 6 _ (keptL xs f xs.length).length _ from HOWN.out) with ⟨rfl, hnil⟩ | ⟨g, cap, rfl, hg, hR⟩
          · have HNIL := Lib.hid hnil
            clear hnil
            go_wp2_with fail
            refine (clipF_any none 0 0 _ (fun _ => ⟨rfl, rfl⟩) (by decide) (Nat.le_refl _) (Nat.zero_le _)).mono ?_
            rintro e w5 ⟨rfl, rfl⟩
            go_wp2_with fail
            go_ret
            exact ⟨none, [], rfl, HNIL.out ▸ HKI.out, Els.nil _ _ _ _, .inl ⟨rfl, rfl⟩, Nat.zero_le _, HBF.out⟩
          · have hle := hR.le
            have hmx := hR.max
            have HRR := Lib.hid hR
            clear hR
            go_wp2_with fail
            refine (clipF_any (some ⟨g, 0, none⟩) cap (keptL xs f xs.length).length _ (fun h => by cases h) (by omega) hle hmx).mono ?_
            rintro e w5 ⟨rfl, rfl⟩
            go_wp2_with fail
            go_ret
            exact ⟨some ⟨g, 0, none⟩, keptL xs f xs.length, rfl, HKI.out, HRR.out.els fc_len, .inr ⟨g, cap, rfl, Nat.le_trans HBW.out.size hg, HRR.out⟩, hkl, HBF.out⟩
    · have hgp : getL M p.1 = some p.2 := (getL_some HMND.out).2 hpm2
      obtain ⟨hpo, -⟩ := HMS.out _ _ hgp
      rw [← HN.out] at hpo
      have hrowlt : ∀ k, p.2.ownBlock = some k → B ≤ k ∧ k < w2.heap.size := fun k e => World.ownsRow.lt hpo k e
      have hpo3 : OwnI B w3 p.2 (rowP xs n p.1) := ownsRow_below hpo H23.out (Nat.le_refl _)
      have hpo4 : OwnI B w4 p.2 (rowP xs n p.1) := by
        obtain ⟨q1, q2 | ⟨g, cap, cur, e, hgb, hh, rest⟩⟩ := hpo3
        · exact ⟨q1, .inl q2⟩
        · have hlt := hrowlt g (by rw [e]; rfl)
          refine ⟨q1, .inr ⟨g, cap, cur, e, hgb, ?_, rest⟩⟩
          rw [hg2.block g (by omega) (fun e => by cases e; omega), HMID.out g (by omega) hlt.2]
          exact hh
      obtain ⟨ra, rc, hpv, -, hrE⟩ := els_of_owns ic_len hpo4
      have hrl := rowP_len xs n p.1
      have HRF := Lib.hid (show ∀ ad, ra = some ad → ad.block ≠ w.heap.size from fun ad h => by have := hrowlt ad.block (by rw [hpv, h]; rfl); omega)
      have hB4 : Below w.heap.size w w4 := HBW.out.grown hg2 HBW.out.size (fun k e => by cases e; omega)
      have hrow4 := HROW.out.same (hg2.block w.heap.size HROW.out.lt (fun e => by injection e with e; omega))
      have hmid4 : ∀ b, w.heap.size < b → b < w2.heap.size → w4.heap[b]? = w3.heap[b]? := fun b h1 h2 => (hg2.block b (by omega) (fun e => by cases e; omega)).trans (HMID.out b h1 h2)
      have hpm' : M.Perm ((done ++ [p]) ++ todo') := by
        refine HPM.out.trans ?_
        rw [List.append_assoc]
        exact htp.append_left done
      have htl' : todo.length = todo'.length + 1 := by have := htp.length_eq; simpa using this
      have hs24 := hg2.size
      rw [hpv] at hnx hen
      have HP' := Lib.hid hpm'
      have HRE := Lib.hid hrE
      have HIT4 := Lib.hid hit2
      have HB4 := Lib.hid hB4
      have HROW4 := Lib.hid hrow4
      have HMID4 := Lib.hid hmid4
      clear hit hit2 htp hpm2 hgp hpo hpo3 hpo4 hrowlt hpv hrE hB4 hrow4 hmid4 hpm' HPM HROW HBW HMID hg2
      go_wp2_with fail
      clear hnx hen
      obtain ⟨gk1, rfl⟩ : ∃ g : Nat, g = gk := ⟨_, rfl⟩
      obtain ⟨wo, rfl⟩ : ∃ wo : World, wo = wr := ⟨_, rfl⟩
      go_loopg [27] ws.length (fun gk kv wr => ∃ (k : Nat) (cs : List Nat), k + gk = ws.length ∧ kv = .int .i64 k ∧ IterIs Tryz.prog (94) eS (fun v : Value => v) wr mb w2.heap.size M todo' ∧ IRow wr w.heap.size n cs ∧ Cnt n cs (fun j => (∃ p ∈ done, ∃ x ∈ ws, LooksAt xs p.1 x j) ∨ ∃ x ∈ ws.take k, LooksAt xs p.1 x j) ∧ Bnd cs (done.length * 1000000 + k * 1000) ∧ Below w.heap.size w wr ∧ (∀ b, w.heap.size < b → b < w2.heap.size → wr.heap[b]? = w3.heap[b]?) ∧ w2.heap.size < wr.heap.size ∧ Ints wr ra (rowP xs n p.1))
      case atStart => exact ⟨0, cs, by omega, rfl, HIT4.out, HROW4.out, HCNT.out.same (fun i => by simp), HBND.out.mono (by omega), HB4.out, HMID4.out, by omega, HRE.out⟩
      case round =>
        clear HIT4 HROW4 HB4 HMID4 HRE HCNT HBND
        obtain ⟨k, cs2, hk, rfl, hit, hrow, hcnt, hbnd, hBw, hmid, hwk, hre⟩ := hrel
        have HIT5 := Lib.hid hit
        have HROW5 := Lib.hid hrow
        have HCNT5 := Lib.hid hcnt
        have HBND5 := Lib.hid hbnd
        have HB5 := Lib.hid hBw
        have HMID5 := Lib.hid hmid
        have HRE5 := Lib.hid hre
        clear hit hrow hcnt hbnd hBw hmid hre
        by_cases hlt : k < ws.length
        · obtain ⟨bw, ow, rfl, hlbw, hcw⟩ := HW.out.els.get k hlt
          have hxm : ws[k] ∈ ws := List.getElem_mem hlt
          have htk : ws.take (k + 1) = ws.take k ++ [ws[k]] := List.take_succ_eq_append_getElem hlt
          have hli := HW.out.links ws[k] hxm
          have hfew := HW.out.few ws[k] hxm
          generalize ws[k] = x at *
          have c0 := (HB5.out.cell (p := ⟨bw, _, none⟩) hlbw).trans (hcw 0 _ rfl)
          have c1 := (HB5.out.cell (p := ⟨bw, _, none⟩) hlbw).trans (hcw 1 _ rfl)
          have c2 := (HB5.out.cell (p := ⟨bw, _, none⟩) hlbw).trans (hcw 2 _ rfl)
          simp only [Nat.add_zero] at c0 c1 c2
          have hk0 : (0 : Int) ≤ (k : Int) := by omega
          have hk1 : (k : Int) < (ws.length : Int) := by omega
          have hbx : Below wr.heap.size wr (wr.alloc (.cells #[.slice x.a x.cs.length x.c, .int .u64 x.at_, .bool x.on] (63))) := (Below.refl _ _).alloc (Nat.le_refl _) _
          have hcon := look_any al cl xs ra rc (rowP xs n p.1) x.a x.c x.cs x.at_ x.on (wr.alloc (.cells #[.slice x.a x.cs.length x.c, .int .u64 x.at_, .bool x.on] (63))) ((HL.out.ext HB5.out).ext hbx) (HRE5.out.ext hbx) ((hli.ext HB5.out).ext hbx) (by omega) (by omega) hfew rowP_lt (rowP_asc _ _ _)
          have HCON := Lib.hid hcon
          have HBX := Lib.hid hbx
          have HTK := Lib.hid htk
          have hgr : w.heap.size < wr.heap.size := by omega
          clear hcw hxm htk hli hfew hbx hcon
          go_wp2_with fail
          refine (HCON.out).mono ?_
          rintro e w5 ⟨ya, yc, ys, rfl, hyE, hyl, hym, hb5, hyf⟩
          have hb5' := HBX.out.trans (hb5.mono HBX.out.size)
          have HYM := Lib.hid (show ∀ i, i ∈ ys ↔ LooksAt xs p.1 x i from fun i => by rw [hym]; unfold LooksAt; rw [HN.out])
          have HYE := Lib.hid hyE
          have HYF := Lib.hid (show ∀ ad, ya = some ad → ad.block ≠ w.heap.size from fun ad h => by have := hyf ad h; simp only [World.size_alloc] at this; omega)
          have HIT6 := Lib.hid (HIT5.out.same (hb5'.block _ (by omega)) (hb5'.block _ (by omega)))
          have HROW6 := Lib.hid (HROW5.out.below hb5')
          have HB6 := Lib.hid (HB5.out.trans (hb5'.mono HB5.out.size))
          have HMID6 := Lib.hid (show ∀ b, w.heap.size < b → b < w2.heap.size → w5.heap[b]? = w3.heap[b]? from fun b h1 h2 => (hb5'.block b (by omega)).trans (HMID5.out b h1 h2))
          have HRE6 := Lib.hid (HRE5.out.ext hb5')
          have hs5 := hb5'.size
          clear hb5 hb5' hym hyE hyf HCON HBX HIT5 HROW5 HB5 HMID5 HRE5 c0 c1 c2
          go_wp2_with fail
          obtain ⟨gk2, rfl⟩ : ∃ g : Nat, g = gk := ⟨_, rfl⟩
          obtain ⟨wo2, rfl⟩ : ∃ wo : World, wo = wr := ⟨_, rfl⟩
          go_loopg [36] ys.length (fun gk iv wr => ∃ (i : Nat) (cs : List Nat), i + gk = ys.length ∧ iv = .int .i64 i ∧ IterIs Tryz.prog (94) eS (fun v : Value => v) wr mb w2.heap.size M todo' ∧ IRow wr w.heap.size n cs ∧ Cnt n cs (fun j => ((∃ p ∈ done, ∃ x ∈ ws, LooksAt xs p.1 x j) ∨ ∃ x ∈ ws.take k, LooksAt xs p.1 x j) ∨ j ∈ ys.take i) ∧ Bnd cs (done.length * 1000000 + k * 1000 + i) ∧ Below w.heap.size w wr ∧ (∀ b, w.heap.size < b → b < w2.heap.size → wr.heap[b]? = w3.heap[b]?) ∧ w2.heap.size < wr.heap.size ∧ Ints wr ra (rowP xs n p.1) ∧ Ints wr ya ys)
          case atStart => exact ⟨0, cs2, by omega, rfl, HIT6.out, HROW6.out, HCNT5.out.same (fun i => by simp), HBND5.out.mono (by omega), HB6.out, HMID6.out, by omega, HRE6.out, HYE.out⟩
          case round =>
            clear HIT6 HROW6 HB6 HMID6 HRE6 HCNT5 HBND5 HYE
            obtain ⟨i, cs3, hi, rfl, hit, hrow, hcnt, hbnd, hBw, hmid, hwk2, hre, hye⟩ := hrel
            have HIT7 := Lib.hid hit
            have HROW7 := Lib.hid hrow
            have HCNT7 := Lib.hid hcnt
            have HBND7 := Lib.hid hbnd
            have HB7 := Lib.hid hBw
            have HMID7 := Lib.hid hmid
            have HRE7 := Lib.hid hre
            have HYE7 := Lib.hid hye
            clear hit hrow hcnt hbnd hBw hmid hre hye
            by_cases hilt : i < ys.length
            · obtain ⟨by_, oy, rfl, hlby, hcy⟩ := HYE7.out.get i hilt
              have hjn : ys[i] < n := by
                have h1 := (HYM.out ys[i]).1 (List.getElem_mem hilt)
                have h2 := rowP_lt (xs := xs) _ (List.mem_filter.1 h1.1).1
                have := HN.out
                omega
              have hty : ys.take (i + 1) = ys.take i ++ [ys[i]] := List.take_succ_eq_append_getElem hilt
              have y0 := hcy 0 _ rfl
              simp only [Nat.add_zero, Nat.mul_one] at y0
              generalize ys[i] = j at *
              have hcl3 : cs3.length = n := HCNT7.out.1
              obtain ⟨c, hc⟩ := at_some (xs := cs3) j (by omega)
              have c0 := irow_cell HROW7.out j c hc
              have f0 := HROW7.out.frozen j
              have hcd : cs3.getD j 0 = c := getD_of hc
              have hcb : c ≤ done.length * 1000000 + k * 1000 + i := by rw [← hcd]; exact HBND7.out j
              have hcw : IntKind.i64.wrap ((c : Int) + 1) = (c : Int) + 1 := IntWalk.i64_in _ (by omega)
              have hi0 : (0 : Int) ≤ (i : Int) := by omega
              have hi1 : (i : Int) < (ys.length : Int) := by omega
              have hj0 : (0 : Int) ≤ (j : Int) := by omega
              have hj1 : (j : Int) < (xs.length : Int) := by have := HN.out; omega
              have hbyne : by_ ≠ w.heap.size := HYF.out _ rfl
              have HTY := Lib.hid hty
              have HCD := Lib.hid hcd
              have HC3 := Lib.hid hcl3
              clear hcy hty hcd hcl3 hc hcb
              go_wp2_with fail
              go_roundg (gk - 1)
              case measure => omega
              case rel =>
                have e1 : ∀ b, b ≠ w.heap.size → (wr.setCell ⟨w.heap.size, j, none⟩ (.int .i64 ((c : Int) + 1))).heap[b]? = wr.heap[b]? := fun b h => Below.heap_setCell wr ⟨w.heap.size, j, none⟩ _ b h
                refine ⟨i + 1, cs3.set j (c + 1), by omega, by go_num, HIT7.out.same (e1 _ (by omega)) (e1 _ (by omega)), irow_set HROW7.out j (c + 1), ?_, ?_, HB7.out.setCell (Nat.le_refl _) _, row_set_mid HMID7.out _ _, by simpa [World.setCell] using hwk2, ?_, ?_⟩
                · rw [← HCD.out]
                  refine HCNT7.out.inc j hjn (fun q => ?_)
                  rw [HTY.out, List.mem_append, List.mem_singleton]
                  simp only [or_assoc]
                · rw [← HCD.out]
                  refine Bnd.mono (HBND7.out.inc j (by rw [HC3.out]; exact hjn)) ?_
                  omega
                · exact els_setCell (g := w.heap.size) (j := j) (a := ra) (enc := ic) (s := 1) (w := wr) (xs := rowP xs n p.1) HRE7.out (fun ad h => HRF.out ad h) (.int .i64 ((c : Int) + 1))
                · exact els_setCell (g := w.heap.size) (j := j) (enc := ic) (s := 1) (w := wr) (a := some ⟨by_, oy, none⟩) (xs := ys) HYE7.out (fun ad h => by injection h with h; rw [← h]; exact hbyne) (.int .i64 ((c : Int) + 1))
            · have hie : i = ys.length := by omega
              subst hie
              go_wp2_with fail
              go_roundg (gk2 - 1)
              case measure => omega
              case rel =>
                refine ⟨k + 1, cs3, by omega, by go_num, HIT7.out, HROW7.out, HCNT7.out.same (fun j => ?_), HBND7.out.mono (by omega), HB7.out, HMID7.out, by omega, HRE7.out⟩
                rw [HTK.out, List.take_length, HYM.out, or_assoc]
                refine or_congr_right ?_
                constructor
                · rintro ⟨z, hz, hx⟩
                  rcases List.mem_append.1 hz with hz | hz
                  · exact .inl ⟨z, hz, hx⟩
                  · rw [List.mem_singleton.1 hz] at hx; exact .inr hx
                · rintro (⟨z, hz, hx⟩ | hx)
                  · exact ⟨z, List.mem_append_left _ hz, hx⟩
                  · exact ⟨x, by simp, hx⟩
        · have hke : k = ws.length := by omega
          subst hke
          go_wp2_with fail
          go_roundg (gk1 - 1)
          case measure => omega
          case rel =>
            refine ⟨done ++ [p], todo', cs2, by omega, HP'.out, HIT5.out, HROW5.out, HCNT5.out.same (fun j => ?_), HBND5.out.mono (by rw [List.length_append, List.length_singleton]; omega), HB5.out, HMID5.out, by omega⟩
            rw [List.take_length]
            constructor
            · rintro ⟨q, hq, hx⟩
              rcases List.mem_append.1 hq with hq | hq
              · exact .inl ⟨q, hq, hx⟩
              · rw [List.mem_singleton.1 hq] at hx; exact .inr hx
            · rintro (⟨q, hq, hx⟩ | hx)
              · exact ⟨q, List.mem_append_left _ hq, hx⟩
              · exact ⟨p, by simp, hx⟩
end Go.Proofs.YticcccciefaemaaGreatDoor

namespace Go.Proofs.YticcccciefaemaaGreatDoor
open Go.RowKit Go.Shelf Go.Herb

theorem drewN_drewN' (w : World) (a b : Nat) : (w.drewN a).drewN b = w.drewN (a + b) := by simp [World.drewN, Nat.add_assoc]

theorem run_eqF (x y : Fc) (w : World) : (Op.equalIn 10000 55 (fv x) (fv y)).run Tryz.prog w = .ok (x.key.toList == y.key.toList && x.valid == y.valid && x.seq == y.seq && x.line == y.line && x.kind == y.kind && x.val.toList == y.val.toList) w := by
  have hS : Tryz.prog.underlying 55 = some (.struct (Tryz.prog.fieldsOf 55)) := by kernel_rfl
  have hp : Tryz.prog.stoodInHeld 55 = false := by kernel_rfl
  rw [show (10000 : Nat) = 9999 + 1 from rfl, run_equalIn_agg w 9999 55 _ _ hS hp]
  simp only [Program.fieldsOf, Tryz.underlying55]
  have u25 := Tryz.underlying52
  have u36 := Tryz.underlying51
  have u37 := Tryz.underlying53
  have u9 := Tryz.underlying9
  go_simp
  by_cases h1 : x.key.toList = y.key.toList <;> by_cases h2 : x.valid = y.valid <;> by_cases h3 : x.seq = y.seq <;> by_cases h4 : x.line = y.line <;> by_cases h5 : x.kind = y.kind <;> by_cases h6 : x.val.toList = y.val.toList <;> simp [h1, h2, h3, h4, h5, h6]

theorem guardF : Tryz.prog.eqGuardType Tryz.prog.depth 55 = false := by kernel_rfl

theorem run_neqF (x y : Fc) (w : World) : (binOp .neq 55 (fv x) (fv y)).run Tryz.prog w = .ok (.bool (!(x.key.toList == y.key.toList && x.valid == y.valid && x.seq == y.seq && x.line == y.line && x.kind == y.kind && x.val.toList == y.val.toList))) w := by
  rw [run_neq_struct, run_eqF]; rfl

theorem run_neqF_same (x : Fc) (w : World) : (binOp .neq 55 (.agg #[.string x.key, .int .u32 x.valid, .int .u64 x.seq, .int .u64 x.line, .int .u8 x.kind, .string x.val]) (.agg #[.string x.key, .int .u32 x.valid, .int .u64 x.seq, .int .u64 x.line, .int .u8 x.kind, .string x.val])).run Tryz.prog w = .ok (.bool false) w := by
  have := run_neqF x x w
  simpa using this

set_option maxHeartbeats 400000 in
theorem equalF_any (a1 a2 : Option Addr) (c1 c2 : Nat) (ts : List Fc) (w : World) (h1 : Facts w a1 ts) (h2 : Facts w a2 ts) (hlen : ts.length < 1000000) :
    Calls Tryz.prog 29 #[.slice a1 ts.length c1, .slice a2 ts.length c2] w fun e w' => e = .returned (.bool true) ∧ ∃ n, w' = w.drewN n := by
  have HX := Lib.hid h1
  have HY := Lib.hid h2
  clear h1 h2
  go_enter Tryz.func29, Tryz.ntmps29
  go_wp2
  go_loopg [5] ts.length (fun gk i wr => ∃ k : Nat, k + gk = ts.length ∧ i = .int .i64 k ∧ ∃ n, wr = w.drewN n)
  case atStart => exact ⟨0, by omega, rfl, 0, rfl⟩
  case round =>
    obtain ⟨k, hk, rfl, n, rfl⟩ := hrel
    by_cases hlt : k < ts.length
    · obtain ⟨b1, o1, rfl, h1, hc1⟩ := HX.out.get k hlt
      obtain ⟨b2, o2, rfl, h2, hc2⟩ := HY.out.get k hlt
      have f0 := hc1 0 _ rfl
      have f1 := hc1 1 _ rfl
      have f2 := hc1 2 _ rfl
      have f3 := hc1 3 _ rfl
      have f4 := hc1 4 _ rfl
      have f5 := hc1 5 _ rfl
      have g0 := hc2 0 _ rfl
      have g1 := hc2 1 _ rfl
      have g2 := hc2 2 _ rfl
      have g3 := hc2 3 _ rfl
      have g4 := hc2 4 _ rfl
      have g5 := hc2 5 _ rfl
      simp only [Nat.add_zero] at f0 g0
      generalize ts[k] = x at *
      have hneq := run_neqF_same x
      have hgt := guardF
      clear hc1 hc2 HX HY
      obtain ⟨W, hW⟩ : ∃ W : World, W = w.drewN n := ⟨_, rfl⟩
      have hcell : ∀ a v, w.cell? a = some v → W.cell? a = some v := fun a v h => by rw [hW]; exact h
      have f0 := hcell _ _ f0
      have f1 := hcell _ _ f1
      have f2 := hcell _ _ f2
      have f3 := hcell _ _ f3
      have f4 := hcell _ _ f4
      have f5 := hcell _ _ f5
      have g0 := hcell _ _ g0
      have g1 := hcell _ _ g1
      have g2 := hcell _ _ g2
      have g3 := hcell _ _ g3
      have g4 := hcell _ _ g4
      have g5 := hcell _ _ g5
      rw [← hW]
      have HW := Lib.hid hW
      clear hW hcell
      go_wp2
      go_quiet (fail)
      go_wp2
      go_roundg (gk - 1)
      case measure => omega
      case rel => exact ⟨k + 1, by omega, by go_num, by rw [HW.out]; exact ⟨_, drewN_drewN' _ _ _⟩⟩
    · go_wp2
      go_ret
      exact ⟨rfl, n, rfl⟩

theorem sameFacts_any (a1 a2 : Option Addr) (c1 c2 : Nat) (ts : List Fc) (w : World) (h1 : Facts w a1 ts) (h2 : Facts w a2 ts) (hlen : ts.length < 1000000) :
    Calls Tryz.prog 12 #[.slice a1 ts.length c1, .slice a2 ts.length c2] w fun e w' => e = .returned (.bool true) ∧ ∃ n, w' = w.drewN n := by
  have hcon := equalF_any a1 a2 c1 c2 ts w h1 h2 hlen
  clear h1 h2
  go_enter Tryz.func12, Tryz.ntmps12
  go_wp2_with fail
  refine hcon.mono ?_
  rintro e w1 ⟨rfl, n, rfl⟩
  go_wp2
  go_ret
  exact ⟨rfl, n, rfl⟩

theorem below_drewN {B : Nat} {a w : World} (h : Below B a w) (n : Nat) : Below B a (w.drewN n) := h.trans ⟨rfl, rfl, rfl, Nat.le_refl _, fun _ _ => rfl⟩

theorem bytes_ext {a b : ByteArray} (h : a.toList = b.toList) : a = b := by
  rw [ByteArray.toList_eq, ByteArray.toList_eq] at h
  exact ByteArray.ext (Array.toList_inj.1 h)

theorem fc_ext {x y : Fc} (h0 : x.key.toList = y.key.toList) (h1 : x.valid = y.valid) (h2 : x.seq = y.seq) (h3 : x.line = y.line) (h4 : x.kind = y.kind) (h5 : x.val.toList = y.val.toList) : x = y := by
  obtain ⟨a0, a1, a2, a3, a4, a5, _, _, _, _, _⟩ := x
  obtain ⟨b0, b1, b2, b3, b4, b5, _, _, _, _, _⟩ := y
  simp only at h0 h1 h2 h3 h4 h5
  have := bytes_ext h0
  have := bytes_ext h5
  subst_vars
  rfl

def sameF (x y : Fc) : Bool := x.key.toList == y.key.toList && x.valid == y.valid && x.seq == y.seq && x.line == y.line && x.kind == y.kind && x.val.toList == y.val.toList
theorem sameF_iff {x y : Fc} : sameF x y = true ↔ x = y := by
  unfold sameF
  simp only [Bool.and_eq_true, beq_iff_eq]
  constructor
  · rintro ⟨⟨⟨⟨⟨h0, h1⟩, h2⟩, h3⟩, h4⟩, h5⟩; exact fc_ext h0 h1 h2 h3 h4 h5
  · rintro rfl; simp

theorem run_eqlF (x y : Fc) (w : World) : (binOp .eql 55 (.agg #[.string x.key, .int .u32 x.valid, .int .u64 x.seq, .int .u64 x.line, .int .u8 x.kind, .string x.val]) (.agg #[.string y.key, .int .u32 y.valid, .int .u64 y.seq, .int .u64 y.line, .int .u8 y.kind, .string y.val])).run Tryz.prog w = .ok (.bool (sameF x y)) w := by
  have h := run_eqF x y w
  have : (binOp .eql 55 (fv x) (fv y)).run Tryz.prog w = .ok (.bool (sameF x y)) w := by
    rw [run_eql_struct, h]; rfl
  exact this
theorem facts_of_blk {w : World} {b : Nat} {xs : List Fc} {cs : Array Value} (h : w.heap[b]? = some (.cells cs 55 (0, 0))) (hc : cs.toList = xs.flatMap fc) : Facts w (some ⟨b, 0, none⟩) xs := by
  refine ⟨fun i hi => ⟨b, 0, rfl, lt_of_blk h, fun j c hj => ?_⟩⟩
  have hjs : j < 6 := by
    rcases Nat.lt_or_ge j 6 with h' | h'
    · exact h'
    · rw [List.getElem?_eq_none (by rw [fc_len]; exact h')] at hj; simp at hj
  have h1 := flatMap_get fc_len xs i j hi hjs
  rw [cell_of_blk h, Nat.zero_add, ← Array.getElem?_toList, hc, h1]
  exact hj
theorem links_of_blk {w : World} {b : Nat} {xs : List Lk} {cs : Array Value} (h : w.heap[b]? = some (.cells cs 58 (0, 0))) (hc : cs.toList = xs.flatMap lc) : Links w (some ⟨b, 0, none⟩) xs := by
  refine ⟨fun i hi => ⟨b, 0, rfl, lt_of_blk h, fun j c hj => ?_⟩⟩
  have hl : ∀ x : Lk, (lc x).length = 2 := fun _ => rfl
  have hjs : j < 2 := by
    rcases Nat.lt_or_ge j 2 with h' | h'
    · exact h'
    · rw [List.getElem?_eq_none (by rw [hl]; exact h')] at hj; simp at hj
  have h1 := flatMap_get hl xs i j hi hjs
  rw [cell_of_blk h, Nat.zero_add, ← Array.getElem?_toList, hc, h1]
  exact hj
end Go.Proofs.YticcccciefaemaaGreatDoor

namespace Go.Proofs.YticcccciefaemaaGreatDoor
open Go.RowKit Go.Shelf Go.Herb

theorem sub_ne {α : Type} {x y : α} {l m : List α} (h : x ≠ y) (hs : (x :: l).Sublist (y :: m)) : (x :: l).Sublist m := by
  cases hs with
  | cons _ h => exact h
  | cons_cons _ _ => exact absurd rfl h

def greatB (n : Nat) (ws : List Wt) : Bool := decide (30 < ws.length) || (ws.any (fun x => decide (120 < n) || decide (40 < x.cs.length)) || decide (80 < n))

end Go.Proofs.YticcccciefaemaaGreatDoor
