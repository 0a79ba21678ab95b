/- The reference's Keep. Condition: fewer than 1000 facts and watches, fewer than 1000000 links. -/
import Derived.Test.YticcccciefaemaaDoorR6
import Derived.Test.YticcccciefaemaaDoorVr
namespace Go.Proofs.YticcccciefaemaaDoor
open Go.RowKit Go.Shelf Go.Herb
attribute [local go_sem ↓] Go.wp_at_zero Go.wp_at_succ

theorem firstI_in (xs : List Fc) (i : Nat) (hi : i < xs.length) : InL xs[i] (xs.take i) ↔ firstI xs i = false := by
  rw [← Bool.not_eq_true, firstI_iff xs i hi]
  unfold InL
  constructor
  · rintro ⟨y, hy, h1, h2, h3⟩ hall
    obtain ⟨j, hj, rfl⟩ := List.getElem_of_mem hy
    rw [List.length_take] at hj
    rw [List.getElem_take] at h1 h2 h3
    exact hall j (by omega) ⟨h1, h2, h3⟩
  · intro h
    refine Classical.byContradiction fun hn => h fun j hj hh => hn ⟨xs[j], ?_, hh⟩
    exact List.mem_take_iff_getElem.2 ⟨j, by omega, rfl⟩
/-- One watch more. -/
theorem sees_next (ws : List Wt) (k : Nat) (hk : k < ws.length) (P : Wt → Prop) : (∃ x ∈ ws.take (k + 1), P x) ↔ (∃ x ∈ ws.take k, P x) ∨ P ws[k] := by
  rw [List.take_succ_eq_append_getElem hk]
  constructor
  · rintro ⟨x, hx, h⟩
    rcases List.mem_append.1 hx with hx | hx
    · exact .inl ⟨x, hx, h⟩
    · rw [List.mem_singleton.1 hx] at h; exact .inr h
  · rintro (⟨x, hx, h⟩ | h)
    · exact ⟨x, List.mem_append_left _ hx, h⟩
    · exact ⟨ws[k], List.mem_append_right _ (List.mem_singleton.2 rfl), h⟩

def RefKeepPost (xs : List Fc) (ws : List Wt) (w : World) (e : Ending) (w' : World) : Prop :=
  ∃ (a : Option Addr) (c : Nat) (ys : List Fc), e = .returned (.slice a ys.length c) ∧ KeepIs xs ws ys ∧ Facts w' a ys ∧ ys.length ≤ xs.length ∧ Below w.heap.size w w'

set_option maxRecDepth 100000 in
set_option maxHeartbeats 4000000 in
theorem refKeep_any (al : Option Addr) (cl : Nat) (xs : List Fc) (aw : Option Addr) (cw : Nat) (ws : List Wt) (w : World) (hL : SlIn fc 6 w al cl xs) (hW : Watches w aw ws) (hxl : xs.length < 1000) (hwl : ws.length < 1000) :
    Calls Tryd.prog (9) #[.slice al xs.length cl, .slice aw ws.length cw] w (RefKeepPost xs ws w) := by
  obtain ⟨f, hf⟩ : ∃ f : Nat → Bool, ∀ i, f i = true ↔ KeptP xs ws i := ⟨fun i => @decide _ (Classical.propDecidable (KeptP xs ws i)), fun i => by simp⟩
  have hle := hL.le
  have hno := hL.none
  have HF := Lib.hid hf
  have HNO := Lib.hid hno
  have HL := Lib.hid hL.els
  have HW := Lib.hid hW
  clear hL hW hf hno
  go_enter Tryd.func9, Tryd.ntmps9
  go_wp2_with fail
  go_loopg [5, 6] xs.length (fun gk ov iv wr => ∃ i : Nat, i + gk = xs.length ∧ iv = .int .i64 i ∧ OwnF w.heap.size wr ov (keptL xs f i) ∧ Below w.heap.size w wr)
  case atStart => exact ⟨0, by omega, rfl, World.ownsRow_nil _ _ _ _, Below.refl _ _⟩
  case round =>
    obtain ⟨i, hi, rfl, hown, hBi⟩ := hrel
    have HBI := Lib.hid hBi
    have HOWN := Lib.hid hown
    have hsi := hBi.size
    have hkl := keptL_len xs f i
    clear hBi hown
    by_cases hilt : i < xs.length
    · obtain ⟨b, o, rfl, hlb, hcell⟩ := HL.out.get i hilt
      have hsn := keptL_succ xs f i hilt
      have hfi := firstI_in xs i hilt
      have hkr := kept_ref xs ws i hilt
      rw [← HF.out] at hkr
      obtain ⟨q1, hs1, hT1, hn1⟩ := sliceF_lo (w := w) HL.out hle (k := i) (by omega) HNO.out
      obtain ⟨tk, htk⟩ : ∃ tk, tk = xs.take i := ⟨_, rfl⟩
      have htl : tk.length < 1000000 := by have := List.length_take_le i xs; rw [htk]; omega
      rw [← htk] at hs1 hT1 hfi
      generalize xs[i] = x at *
      have HX : Hid (∀ W, Below w.heap.size w W → W.cell? ⟨b, o + i * 6, none⟩ = some (.string x.key) ∧ W.cell? ⟨b, o + i * 6 + 1, none⟩ = some (.int .u32 x.valid) ∧ W.cell? ⟨b, o + i * 6 + 2, none⟩ = some (.int .u64 x.seq) ∧ W.cell? ⟨b, o + i * 6 + 3, none⟩ = some (.int .u64 x.line) ∧ W.cell? ⟨b, o + i * 6 + 4, none⟩ = some (.int .u8 x.kind) ∧ W.cell? ⟨b, o + i * 6 + 5, none⟩ = some (.string x.val)) := Lib.hid (fun W hW => ⟨(hW.cell (p := ⟨b, _, none⟩) hlb).trans (hcell 0 _ rfl), (hW.cell (p := ⟨b, _, none⟩) hlb).trans (hcell 1 _ rfl), (hW.cell (p := ⟨b, _, none⟩) hlb).trans (hcell 2 _ rfl), (hW.cell (p := ⟨b, _, none⟩) hlb).trans (hcell 3 _ rfl), (hW.cell (p := ⟨b, _, none⟩) hlb).trans (hcell 4 _ rfl), (hW.cell (p := ⟨b, _, none⟩) hlb).trans (hcell 5 _ rfl)⟩)
      obtain ⟨e0, e1, e2, e3, e4, e5⟩ := HX.out wr HBI.out
      have hlr : b < wr.heap.size := Nat.lt_of_lt_of_le hlb hsi
      have hi0 : (0 : Int) ≤ (i : Int) := by omega
      have hi1 : (i : Int) < (xs.length : Int) := by omega
      have hin : ∀ u, Below w.heap.size w u → Calls Tryd.prog (19) #[.agg #[.string x.key, .int .u32 x.valid, .int .u64 x.seq, .int .u64 x.line, .int .u8 x.kind, .string x.val], .slice q1 tk.length cl] u fun e w' => ∃ b : Bool, e = .returned (.bool b) ∧ (b = true ↔ InL x tk) ∧ Below u.heap.size u w' := fun u hu => in_any x q1 cl tk u (hT1.ext hu) htl
      have HIN := Lib.hid hin
      have HSN := Lib.hid hsn
      have HFI := Lib.hid hfi
      have HKR := Lib.hid hkr
      clear hcell hsn hfi hkr hT1 htk hin hn1
      go_wp2_with fail
      go_region_held3 (fun w' => w'.cell? ⟨b, o + i * 6, none⟩ = some (.string x.key) ∧ w'.cell? ⟨b, o + i * 6 + 1, none⟩ = some (.int .u32 x.valid) ∧ w'.cell? ⟨b, o + i * 6 + 2, none⟩ = some (.int .u64 x.seq) ∧ w'.cell? ⟨b, o + i * 6 + 3, none⟩ = some (.int .u64 x.line) ∧ w'.cell? ⟨b, o + i * 6 + 4, none⟩ = some (.int .u8 x.kind) ∧ w'.cell? ⟨b, o + i * 6 + 5, none⟩ = some (.string x.val)) (go_keep)
        (first | (go_at_call 19; refine ((HIN.out _ (by first | exact HBI.out.drew | exact HBI.out)).mono ?_); rintro e u1 ⟨b1, rfl, hb1, hb⟩; have hu1 : Below wr.heap.size wr u1 := (by first | exact (Below.refl _ _).drew | exact Below.refl _ _ : Below wr.heap.size wr _).trans hb; clear hb; have c0 := (hu1.cell (p := ⟨b, o + i * 6, none⟩) hlr).trans e0; have c1 := (hu1.cell (p := ⟨b, o + i * 6 + 1, none⟩) hlr).trans e1; have c2 := (hu1.cell (p := ⟨b, o + i * 6 + 2, none⟩) hlr).trans e2; have c3 := (hu1.cell (p := ⟨b, o + i * 6 + 3, none⟩) hlr).trans e3; have c4 := (hu1.cell (p := ⟨b, o + i * 6 + 4, none⟩) hlr).trans e4; have c5 := (hu1.cell (p := ⟨b, o + i * 6 + 5, none⟩) hlr).trans e5; have HP1 := Lib.hid hb1; clear hb1))
      rename_i hheld
      have HO1 := Lib.hid (HOWN.out.below hu1)
      have HB1 := Lib.hid (HBI.out.trans (hu1.mono hsi))
      have hs1' := HB1.out.size
      clear hheld hu1 c0 c1 c2 c3 c4 c5 e0 e1 e2 e3 e4 e5 HIN HOWN HBI hs1 hlr hsi
      cases b1 with
      | true =>
        have hff : f i = false := by
          have h1 := HFI.out.1 (HP1.out.1 rfl)
          cases hc : f i with
          | false => rfl
          | true => have := (HKR.out.1 hc).1; rw [h1] at this; cases this
        have HFF := Lib.hid hff
        clear hff HP1
        go_wp2
        go_roundg (gk - 1)
        case measure => omega
        case rel => exact ⟨i + 1, by omega, by go_num, by rw [HSN.out, HFF.out]; simpa using HO1.out, HB1.out⟩
      | false =>
        have hfst : firstI xs i = true := by
          cases hc : firstI xs i with
          | true => rfl
          | false => have := HP1.out.2 (HFI.out.2 hc); cases this
        have hfx : f i = true ↔ ∃ y ∈ ws, RefSees xs y x := HKR.out.trans ⟨fun h => h.2, fun h => ⟨hfst, h⟩⟩
        have HFX := Lib.hid hfx
        clear hfst hfx HP1 HKR HFI
        go_wp2_with fail
        obtain ⟨g2, rfl⟩ : ∃ g : Nat, g = gk := ⟨_, rfl⟩
        obtain ⟨wo, rfl⟩ : ∃ wo : World, wo = u1 := ⟨_, rfl⟩
        go_loopg [7, 8] ws.length (fun gk bv kv wr => ∃ (k : Nat) (kb : Bool), k + gk = ws.length ∧ bv = .bool kb ∧ kv = .int .i64 k ∧ Hid (kb = true ↔ ∃ y ∈ ws.take k, RefSees xs y x) ∧ OwnF w.heap.size wr (u5) (keptL xs f i) ∧ Below w.heap.size w wr)
        case atStart => exact ⟨0, false, by omega, rfl, rfl, Lib.hid (by simp), HO1.out, HB1.out⟩
        case round =>
          clear HO1 HB1 hs1'
          obtain ⟨k, kb, hk, rfl, rfl, HKB, hown, hBw⟩ := hrel
          have HOW := Lib.hid hown
          have HBW := Lib.hid hBw
          have hsw := hBw.size
          clear hown hBw
          obtain ⟨e0, e1, e2, e3, e4, e5⟩ := HX.out wr HBW.out
          have hlr : b < wr.heap.size := Nat.lt_of_lt_of_le hlb hsw
          by_cases hklt : k < ws.length
          · have hnx := sees_next ws k hklt (fun y => RefSees xs y x)
            have HNX := Lib.hid hnx
            clear hnx
            cases kb with
            | true =>
              have HT := Lib.hid (show ∃ y ∈ ws.take (k + 1), RefSees xs y x from HNX.out.2 (.inl (HKB.out.1 rfl)))
              clear HNX
              go_wp2_with fail
              go_quiet (fail)
              go_wp2
              go_roundg (gk - 1)
              case measure => omega
              case rel => exact ⟨k + 1, true, by omega, rfl, by go_num, Lib.hid ⟨fun _ => HT.out, fun _ => rfl⟩, OwnF.below HOW.out (below_drewN (Below.refl _ _) _), below_drewN HBW.out _⟩
            | false =>
              obtain ⟨bw, ow, rfl, hlbw, hcw⟩ := HW.out.els.get k hklt
              have hxm : ws[k] ∈ ws := List.getElem_mem hklt
              have hli := HW.out.links ws[k] hxm
              have hfew := HW.out.few ws[k] hxm
              generalize ws[k] = y at *
              have t0 := (HBW.out.cell (p := ⟨bw, _, none⟩) hlbw).trans (hcw 0 _ rfl)
              have t1 := (HBW.out.cell (p := ⟨bw, _, none⟩) hlbw).trans (hcw 1 _ rfl)
              have t2 := (HBW.out.cell (p := ⟨bw, _, none⟩) hlbw).trans (hcw 2 _ rfl)
              simp only [Nat.add_zero] at t0 t1 t2
              have hlw : bw < wr.heap.size := Nat.lt_of_lt_of_le hlbw hsw
              have hk0 : (0 : Int) ≤ (k : Int) := by omega
              have hk1 : (k : Int) < (ws.length : Int) := by omega
              have hcon : ∀ u, Below w.heap.size w u → _ := fun u hu => seesRef_any y x (some ⟨b, o, none⟩) cl xs u (HL.out.ext hu) hxl (hli.ext hu) hfew
              have HCON := Lib.hid hcon
              clear hcw hxm hli hfew hcon
              go_wp2_with fail
              go_region_held3 (fun w' => w'.cell? ⟨b, o + i * 6, none⟩ = some (.string x.key) ∧ w'.cell? ⟨b, o + i * 6 + 1, none⟩ = some (.int .u32 x.valid) ∧ w'.cell? ⟨b, o + i * 6 + 2, none⟩ = some (.int .u64 x.seq) ∧ w'.cell? ⟨b, o + i * 6 + 3, none⟩ = some (.int .u64 x.line) ∧ w'.cell? ⟨b, o + i * 6 + 4, none⟩ = some (.int .u8 x.kind) ∧ w'.cell? ⟨b, o + i * 6 + 5, none⟩ = some (.string x.val) ∧ w'.cell? ⟨bw, ow + k * 3, none⟩ = some (.slice y.a y.cs.length y.c) ∧ w'.cell? ⟨bw, ow + k * 3 + 1, none⟩ = some (.int .u64 y.at_) ∧ w'.cell? ⟨bw, ow + k * 3 + 2, none⟩ = some (.bool y.on)) (go_keep)
                (first | (go_at_call 20; refine ((HCON.out _ (by first | exact HBW.out.drew | exact HBW.out)).mono ?_); rintro e u ⟨b1, rfl, hb1, hb⟩; have hu : Below wr.heap.size wr u := (by first | exact (Below.refl _ _).drew | exact Below.refl _ _ : Below wr.heap.size wr _).trans hb; clear hb; have c0 := (hu.cell (p := ⟨b, o + i * 6, none⟩) hlr).trans e0; have c1 := (hu.cell (p := ⟨b, o + i * 6 + 1, none⟩) hlr).trans e1; have c2 := (hu.cell (p := ⟨b, o + i * 6 + 2, none⟩) hlr).trans e2; have c3 := (hu.cell (p := ⟨b, o + i * 6 + 3, none⟩) hlr).trans e3; have c4 := (hu.cell (p := ⟨b, o + i * 6 + 4, none⟩) hlr).trans e4; have c5 := (hu.cell (p := ⟨b, o + i * 6 + 5, none⟩) hlr).trans e5; have d0 := (hu.cell (p := ⟨bw, ow + k * 3, none⟩) hlw).trans t0; have d1 := (hu.cell (p := ⟨bw, ow + k * 3 + 1, none⟩) hlw).trans t1; have d2 := (hu.cell (p := ⟨bw, ow + k * 3 + 2, none⟩) hlw).trans t2; have HP1 := Lib.hid hb1; clear hb1))
              rename_i hheld
              have HT := Lib.hid (show b1 = true ↔ ∃ y ∈ ws.take (k + 1), RefSees xs y x from HP1.out.trans ⟨fun h => HNX.out.2 (.inr h), fun h => by
                rcases HNX.out.1 h with h | h
                · have := HKB.out.2 h; cases this
                · exact h⟩)
              have HOU := Lib.hid (HOW.out.below hu)
              have HBU := Lib.hid (HBW.out.trans (hu.mono hsw))
              clear hheld hu c0 c1 c2 c3 c4 c5 d0 d1 d2 e0 e1 e2 e3 e4 e5 t0 t1 t2 HP1 HNX HCON
              go_wp2
              go_roundg (gk - 1)
              case measure => omega
              case rel => exact ⟨k + 1, b1, by omega, rfl, by go_num, HT, HOU.out, HBU.out⟩
          · have hke : k = ws.length := by omega
            subst hke
            have hkf : kb = f i := by
              rw [Bool.eq_iff_iff, HFX.out, HKB.out, List.take_length]
            cases kb with
            | false =>
              have HFF := Lib.hid hkf.symm
              clear hkf e0 e1 e2 e3 e4 e5
              go_wp2
              go_roundg (g2 - 1)
              case measure => omega
              case rel => exact ⟨i + 1, by omega, by go_num, by rw [HSN.out, HFF.out]; simpa using HOW.out, HBW.out⟩
            | true =>
              have HFF := Lib.hid hkf.symm
              clear hkf
              obtain ⟨X, hX⟩ : ∃ X : World, X = wr.alloc (.cells (fc x).toArray (41)) := ⟨_, rfl⟩
              have hBX : Below wr.heap.size wr X := by rw [hX]; exact (Below.refl _ _).alloc (Nat.le_refl _) _
              have hX1 : X.heap[wr.heap.size]? = some (.cells (fc x).toArray (41) (0, 0)) := by rw [hX]; exact blk_new_at rfl _
              obtain ⟨v', w4, hrun, hO2, hg2⟩ := run_append_facts X w.heap.size _ (keptL xs f i) (some ⟨wr.heap.size, 0, none⟩) 1 [x] (OwnF.below HOW.out hBX) (els_of_one hX1) (by omega) (by simp) (fun h => by cases h) (by have := hBX.size; omega) (22)
              have hrow : ∀ k', _ → w.heap.size ≤ k' := fun k' hk' => (World.ownsRow.lt HOW.out k' hk').1
              have HB2 := Lib.hid ((HBW.out.trans (hBX.mono hsw)).grown hg2 (Nat.le_trans hsw hBX.size) hrow)
              have hrun' : (Builtin.append_ #[(22), (22)] (22) #[_, .slice (some ⟨wr.heap.size, 0, none⟩) 1 1]).run Tryd.prog X = .ok v' w4 := hrun
              rw [hX] at hrun'
              have HRUN := Lib.hid hrun'
              have HO2 := Lib.hid hO2
              clear hX hBX hX1 hrun hrun' hO2 hg2 hrow
              simp only [fc] at HRUN
              go_wp2_with (at_builtin; refine Lib.wpList_append_run _ rfl _ _ _ _ rfl _ _ rfl rfl _ _ (HRUN.out) ?_)
              go_roundg (g2 - 1)
              case measure => omega
              case rel => exact ⟨i + 1, by omega, by go_num, by rw [HSN.out, HFF.out]; exact HO2.out, HB2.out⟩
    · have hie : i = xs.length := by omega
      subst hie
      obtain ⟨a, c, rfl, -, hE⟩ := els_of_owns fc_len (show wr.ownsRow w.heap.size _ 6 _ (keptL xs f xs.length).length _ from HOWN.out)
      have HE := Lib.hid hE
      have HKI := Lib.hid (⟨f, fun i _ => HF.out i, rfl⟩ : KeepIs xs ws (keptL xs f xs.length))
      clear hE HOWN
      go_wp2
      go_ret
      exact ⟨a, c, _, rfl, HKI.out, HE.out, hkl, HBI.out⟩
end Go.Proofs.YticcccciefaemaaDoor
