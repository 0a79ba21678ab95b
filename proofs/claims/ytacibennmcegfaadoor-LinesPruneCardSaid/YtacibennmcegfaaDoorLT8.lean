/- LinesPrune: its walk. No condition. -/
import Derived.Test.YtacibennmcegfaaDoorLT7
import Derived.Test.YtacibennmcegfaaDoorLT6
import Derived.Test.YtacibennmcegfaaDoorLQ1
import Derived.Test.YtacibennmcegfaaDoorLQ4
namespace Go.Proofs.YtacibennmcegfaaDoor
open Go.RowKit Go.Shelf Go.Herb
theorem run_len_c {w : World} {b : Nat} {m : List (Int × Int)} (h : MapC w b m) (ty : TypeId) : (Builtin.len_ #[(56)] ty #[.map (some b)]).run Tryd.prog w = .ok (.int .i64 (m.length : Int)) w := by
  obtain ⟨es, c, h1, _, h2⟩ := h.blk
  have h3 : es.size = m.length := by
    have := congrArg List.length h2
    simpa using this
  rw [run_len_map w (56) ty b es c (by kernel_rfl) h1, h3]
  rfl
/-- What is read lies apart from a map. -/
theorem mapC_apart {α : Type} {enc : α → List Value} {s b : Nat} {w : World} {m : List (Int × Int)} {a : Option Addr} {xs : List α} (h : MapC w b m) (hE : Els enc s w a xs) (h0 : 0 < xs.length) (hs : ∀ x, 0 < (enc x).length) : ∀ ad, a = some ad → ad.block ≠ b := by
  intro ad had e
  obtain ⟨g, o, ha, _, hc⟩ := hE.get 0 h0
  rw [had] at ha
  injection ha with ha
  subst ha
  have e : g = b := e
  subst e
  obtain ⟨es, c, h1, _⟩ := h.blk
  have h2 := hc 0 _ (List.getElem?_eq_getElem (hs _))
  unfold World.cell? at h2
  simp only [h1] at h2
  cases h2
theorem turnI_grown {M : Nat} {A B : World} (h : A.grownBy B (some M)) : TurnI M A B :=
  ⟨h.os, h.tape, h.output, h.size, fun k o ho hk => (h.block k (lt_of_blk ho) (fun e => hk (by injection e))).trans ho⟩
set_option maxRecDepth 100000 in
set_option maxHeartbeats 4000000 in
theorem lawPrune_any (ba : Option Addr) (bc : Nat) (bs : List Br) (la : Option Addr) (lc : Nat) (ls : List Ln) (a : Option Addr) (cap : Nat) (ns : List Int) (w : World) (sB : SIn brc 3 (fun q : Br => q.1.size ≤ maxLen ∧ U64 q.2.1 ∧ U64 q.2.2) w ba bc bs) (sL : SIn lnc 2 (fun q : Ln => U64 q.1 ∧ U64 q.2) w la lc ls) (sN : SIn uc 1 U64 w a cap ns) :
    Calls Tryd.prog (6) #[.agg #[.slice ba bs.length bc, .slice la ls.length lc], .slice a ns.length cap] w fun e w' => e = .returned (.bool true) ∧ Below w.heap.size w w' := by
  obtain ⟨nb, hnb⟩ : ∃ nb, nb = bs.length := ⟨_, rfl⟩
  obtain ⟨n, hn⟩ : ∃ n, n = ls.length := ⟨_, rfl⟩
  obtain ⟨nn, hnn⟩ : ∃ nn, nn = ns.length := ⟨_, rfl⟩
  rw [← hnb, ← hn, ← hnn]
  obtain ⟨W, hW⟩ : ∃ W : World, W = w.alloc (.cells #[.slice ba nb bc, .slice la n lc] (25)) := ⟨_, rfl⟩
  have hB : Below w.heap.size w W := by rw [hW]; exact balc (Below.refl _ _)
  have hx0 : W.heap[w.heap.size]? = some (.cells #[.slice ba nb bc, .slice la n lc] (25) (0, 0)) := by rw [hW]; exact blk_new_at rfl _
  have HC : Hid (∀ u, Below W.heap.size W u → u.cell? ⟨w.heap.size, 0, none⟩ = some (.slice ba nb bc) ∧ u.cell? ⟨w.heap.size, 1, none⟩ = some (.slice la n lc)) := Lib.hid (fun u hu => by
    have h0 := cell_of_blk (blk_below hx0 hu (lt_of_blk hx0)) 0
    have h1 := cell_of_blk (blk_below hx0 hu (lt_of_blk hx0)) 1
    simp at h0 h1
    exact ⟨h0, h1⟩)
  have HOF := Lib.hid (fun (u : World) (hu : Below W.heap.size W u) (h1 : nb ≤ 100) (h2 : n ≤ 100) => of_any ba bc nb la lc n bs ls u (sB.els.ext (hB.trans (hu.mono hB.size))) hnb.symm (sL.els.ext (hB.trans (hu.mono hB.size))) hn.symm (by rw [hn]; exact sL.le) sL.max h1 h2 (fun x hx => (sB.all x hx).2.1) (fun x hx => by have := (sB.all x hx).1; unfold maxLen at this; omega))
  have HBS := Lib.hid (fun (u : World) (hu : Below W.heap.size W u) => sB.els.ext (hB.trans (hu.mono hB.size)))
  have HNS := Lib.hid (fun (u : World) (hu : Below W.heap.size W u) => sN.els.ext (hB.trans (hu.mono hB.size)))
  have HNZ := Lib.hid sN.nil
  have HUL := Lib.hid (show ∀ k p, (k, p) ∈ ls → (Lit.int .u64 k).wf = true from fun k p h => (sL.all _ h).1)
  have HNB := Lib.hid hnb
  have HNN := Lib.hid hnn
  have HB := Lib.hid hB
  have HW := Lib.hid hW
  have HN := Lib.hid hn
  clear hB hx0 sB sL sN hnb hn hW hnn
  by_cases hn100 : 100 < nn
  · have hg : (nn : Int) > 100 := by omega
    clear HOF HBS HNS HNZ HUL
    go_enter Tryd.func6, Tryd.ntmps6
    go_upto_region 1 with fail
    rw [← HW.out]
    obtain ⟨c0, c1⟩ := HC.out W (Below.refl _ _)
    go_wp2_with fail
    refine (great_any ba la none nb bc n lc 0 0 W).mono ?_
    rintro e w1 ⟨r, rfl, -, hB1⟩
    have HB1 := Lib.hid (HB.out.trans (hB1.mono HB.out.size))
    clear c0 c1 hB1 HC hn100
    cases r with
    | true =>
      go_wp2_with (go_at_call 9; refine (lives_any _).mono ?_; rintro e w9 ⟨rfl, hb9⟩)
      go_ret
      exact ⟨rfl, HB1.out.trans (hb9.mono HB1.out.size)⟩
    | false =>
      go_wp2_with (go_at_call 9; refine (lives_any _).mono ?_; rintro e w9 ⟨rfl, hb9⟩)
      go_ret
      exact ⟨rfl, HB1.out.trans (hb9.mono HB1.out.size)⟩
  have hg100 : ¬ (nn : Int) > 100 := by omega
  go_enter Tryd.func6, Tryd.ntmps6
  go_upto_region 1 with fail
  rw [← HW.out]
  obtain ⟨c0, c1⟩ := HC.out W (Below.refl _ _)
  go_wp2_with fail
  refine (great_any ba la none nb bc n lc 0 0 W).mono ?_
  rintro e w1 ⟨r, rfl, hr, hB1⟩
  clear c0 c1
  obtain ⟨c0, c1⟩ := HC.out w1 hB1
  cases r with
  | true =>
    have HB1 := Lib.hid (HB.out.trans (hB1.mono HB.out.size))
    clear hr HOF hB1
    go_wp2_with (go_at_call 9; refine (lives_any _).mono ?_; rintro e w9 ⟨rfl, hb9⟩)
    go_ret
    exact ⟨rfl, HB1.out.trans (hb9.mono HB1.out.size)⟩
  | false =>
  obtain ⟨g1, g2⟩ := hr rfl
  have HO := Lib.hid (HOF.out w1 hB1 g1 g2)
  have HBW := Lib.hid hB1
  have HG2 := Lib.hid g2
  clear hr HOF hB1 g1 g2
  go_wp2_with fail
  refine HO.out.mono ?_
  clear HO c0 c1
  rintro e w2 ⟨⟨-, rfl⟩ | ⟨hG, p, rfl, ht⟩, hB2⟩
  · have HB2 := Lib.hid (HB.out.trans ((HBW.out.trans (hB2.mono HBW.out.size)).mono HB.out.size))
    clear hB2
    go_wp2_with (go_at_call 9; refine (lives_any _).mono ?_; rintro e w9 ⟨rfl, hb9⟩)
    go_ret
    exact ⟨rfl, HB2.out.trans (hb9.mono HB2.out.size)⟩
  have HG := Lib.hid hG
  have HT := Lib.hid ht
  have HBW2 := Lib.hid (HBW.out.trans (hB2.mono HBW.out.size))
  have HL := Lib.hid (show 0 < bs.length ∧ bs.length ≤ 12 ∧ 0 < ls.length ∧ ls.length ≤ 48 ∧ nn ≤ 100 ∧ nn = ns.length from ⟨hG.b1, hG.b12, hG.l1, hG.nl, by omega, HNN.out⟩)
  clear hG ht hB2 HBW hn100 hg100
  go_wp2_with fail
  refine (prune_any p a cap nn ns w2 HT.out HG.out.formed HL.out.2.2.2.1 HL.out.1 HL.out.2.1 (HNS.out w2 HBW2.out) HNN.out.symm HNZ.out HL.out.2.2.2.2.1).mono ?_
  rintro e w3 ⟨⟨rfl, -⟩ | ⟨p2, rfl, hfr, ht2⟩, hB3⟩
  · have HB3 := Lib.hid (HB.out.trans ((HBW2.out.trans (hB3.mono HBW2.out.size)).mono HB.out.size))
    clear hB3
    go_wp2_with (go_at_call 9; refine (lives_any _).mono ?_; rintro e w9 ⟨rfl, hb9⟩)
    go_ret
    exact ⟨rfl, HB3.out.trans (hb9.mono HB3.out.size)⟩
  obtain ⟨ls2, hls2⟩ : ∃ ls2, ls2 = prunedL ls (fromL ns bs) := ⟨_, rfl⟩
  rw [← hls2] at ht2
  have HFR := Lib.hid hfr
  have HT2 := Lib.hid ht2
  have HLS2 := Lib.hid hls2
  have HB3 := Lib.hid hB3
  have HBW3 := Lib.hid (HBW2.out.trans (hB3.mono HBW2.out.size))
  have HF2 := Lib.hid (show FormedL ls2 ∧ ls2.length ≤ ls.length from by
    rw [hls2]
    refine ⟨pruned_formed HG.out.formed hfr ?_, List.length_filter_le _ _⟩
    unfold fromL
    intro h
    have := congrArg List.length h
    simp only [List.length_append, List.length_map, List.length_nil] at this
    have := HL.out.1
    omega)
  clear hfr ht2 hls2 hB3
  obtain ⟨v, w4, hr, hO, hg4⟩ := run_append_u w3 w3.heap.size (.slice none 0 0) [] a cap nn ns (World.ownsRow_nil _ _ _ _) (HNS.out w3 HBW3.out) HNN.out.symm HNZ.out (by have := HL.out; simp only [List.length_nil]; omega) (Nat.le_refl _) (46)
  have HO4 := Lib.hid (show OwnU w3.heap.size w4 v ns from by simpa using hO)
  have HB4 := Lib.hid (show Below w3.heap.size w3 w4 from (Below.refl _ _).grown hg4 (Nat.le_refl _) (fun k e => by cases e))
  clear hO hg4
  go_wp2_with (at_builtin; refine Lib.wpList_append_run _ rfl _ _ _ _ rfl _ _ rfl rfl _ _ hr ?_)
  clear hr
  go_loopg [9, 10] nb (fun gk fv iv wr => ∃ i : Nat, i + gk = nb ∧ iv = .int .i64 i ∧ Hid (OwnU w3.heap.size wr fv (ns ++ (bs.take i).map (·.2.1))) ∧ Hid (Below w3.heap.size w3 wr))
  case atStart => exact ⟨0, by omega, rfl, Lib.hid (by simpa using HO4.out), HB4⟩
  case round =>
    obtain ⟨i, hi, rfl, HO, HBq⟩ := hrel
    have HWq := Lib.hid (HBW3.out.trans (HBq.out.mono HBW3.out.size))
    obtain ⟨c0, -⟩ := HC.out wr HWq.out
    by_cases hlt : i < nb
    · have hil : i < bs.length := by have := HNB.out; omega
      obtain ⟨b, o, rfl, hlb, hcx⟩ := (HBS.out wr HWq.out).get i hil
      have HTK := Lib.hid (List.take_succ_eq_append_getElem hil)
      generalize bs[i] = x at hcx HTK
      have g1 := hcx 1 _ rfl
      have i0 : (0 : Int) ≤ (i : Int) := by omega
      have i1 : (i : Int) < (nb : Int) := by omega
      have iw : IntKind.i64.wrap ((i : Int) + 1) = (i : Int) + 1 := IntWalk.i64_in _ (by have := HL.out; have := HNB.out; omega)
      obtain ⟨X, hX⟩ : ∃ X : World, X = wr.alloc (.cells #[.int .u64 x.2.1] (34)) := ⟨_, rfl⟩
      have hBX : Below wr.heap.size wr X := by rw [hX]; exact balc (Below.refl _ _)
      obtain ⟨v', w', hr, hO', hg⟩ := run_append_u1 X w3.heap.size _ _ wr.heap.size x.2.1 (ownsRow_below HO.out hBX (Nat.le_refl _)) (by rw [hX]; exact blk_new_at rfl _) (by have := HL.out; have := HNB.out; simp only [List.length_append, List.length_map, List.length_take]; omega) (Nat.le_trans HBq.out.size hBX.size) (46)
      have HO2 := Lib.hid (show OwnU w3.heap.size w' v' (ns ++ (bs.take (i + 1)).map (·.2.1)) from by rw [HTK.out, List.map_append, ← List.append_assoc]; exact hO')
      have HB2 := Lib.hid ((HBq.out.trans (hBX.mono HBq.out.size)).grown hg (Nat.le_trans HBq.out.size hBX.size) (fun k e => (World.ownsRow.lt HO.out k e).1))
      rw [hX] at hr
      clear hX hBX hO' hg hcx
      go_wp2_with (at_builtin; refine Lib.wpList_append_run _ rfl _ _ _ _ rfl _ _ rfl rfl _ _ hr ?_)
      go_roundg (gk - 1)
      case measure => omega
      case rel => exact ⟨i + 1, by omega, by go_num, HO2, HB2⟩
    have h1 : ¬ (i : Int) < (nb : Int) := by omega
    have HFRO := Lib.hid (show OwnU w3.heap.size wr u9 (fromL ns bs) from by have := HO.out; rwa [List.take_of_length_le (by have := HNB.out; omega)] at this)
    obtain ⟨fa, fc, hfv, -, -, -, -⟩ := own_parts HFRO.out
    subst hfv
    obtain ⟨m, hm⟩ : ∃ m, (fromL ns bs).length = m := ⟨_, rfl⟩
    have HM := Lib.hid (show (fromL ns bs).length = m ∧ m ≤ 112 from ⟨hm, by rw [← hm]; unfold fromL; rw [List.length_append, List.length_map]; have := HL.out; omega⟩)
    have HFE0 := Lib.hid (show Nums wr fa (fromL ns bs) from owns_els uc_len HFRO.out)
    rw [hm]
    have hmm := @run_makeMap Tryd.prog
    obtain ⟨M, hMs⟩ : ∃ M, M = wr.heap.size := ⟨_, rfl⟩
    have HM0 := Lib.hid (show MapC (wr.alloc (.map #[] 0)) M [] from by rw [hMs]; exact MapIs.made wr)
    have HBM := Lib.hid (show Below M wr (wr.alloc (.map #[] 0)) from by rw [hMs]; exact (Below.refl _ _).alloc (Nat.le_refl _) _)
    have HMS := Lib.hid hMs
    obtain ⟨wb, hwb⟩ : ∃ wb, wb = wr := ⟨_, rfl⟩
    have HWB := Lib.hid hwb
    have HBT : Hid (∀ u, Below M wb u → Below w3.heap.size w3 u) := Lib.hid (fun u hu => by rw [hwb, hMs] at hu; exact HBq.out.trans (hu.mono HBq.out.size))
    have HFE : Hid (∀ u, Below M wb u → Nums u fa (fromL ns bs)) := Lib.hid (fun u hu => by rw [hwb] at hu; exact HFE0.out.below hu (by rw [hMs]; exact Nat.le_refl _))
    have HMB := Lib.hid (show M ≤ wb.heap.size from by rw [hwb, hMs]; exact Nat.le_refl _)
    clear HO HO4 HB4 hm hi hlt HFRO
    go_wp2_with fail
    rw [← hMs]
    clear hMs hmm hwb
    go_loopg [12] m (fun gk iv wq => ∃ i : Nat, i + gk = m ∧ iv = .int .i64 i ∧ Hid (∃ mm, MapC wq M mm ∧ CountM mm (keepL ls ((fromL ns bs).take i))) ∧ Hid (Below M wb wq))
    case atStart => exact ⟨0, by omega, rfl, Lib.hid ⟨[], HM0.out, CountM.nil⟩, Lib.hid (by rw [HWB.out]; exact HBM.out)⟩
    case round =>
      clear HM0 HBM HMS HWB HFE0 HBq HWq
      obtain ⟨i, hi, rfl, HMC, HBm⟩ := hrel
      have HB3w := Lib.hid (HBT.out wr HBm.out)
      by_cases hlt : i < m
      · have hil : i < (fromL ns bs).length := by have := HM.out; omega
        obtain ⟨b, o, rfl, hlb, hcx⟩ := (HFE.out wr HBm.out).get i hil
        have HTK := Lib.hid (List.take_succ_eq_append_getElem hil)
        have HID := Lib.hid (List.getElem_mem hil)
        generalize (fromL ns bs)[i] = id at hcx HTK HID
        have g0 := hcx 0 _ rfl
        simp only [Nat.mul_one, Nat.add_zero] at g0
        have i0 : (0 : Int) ≤ (i : Int) := by omega
        have i1 : (i : Int) < (m : Int) := by omega
        have iw : IntKind.i64.wrap ((i : Int) + 1) = (i : Int) + 1 := IntWalk.i64_in _ (by have := HM.out; omega)
        obtain ⟨kc, hkc⟩ : ∃ kc, kc = chainF ls ls.length id 18446744073709551615 := ⟨_, rfl⟩
        obtain ⟨K, hK⟩ : ∃ K, kc.length = K := ⟨_, rfl⟩
        have HK := Lib.hid (show kc.length = K ∧ K ≤ 48 from ⟨hK, by have := chain_len (ls := ls) ls.length id 18446744073709551615; rw [← hkc, hK] at this; have := HL.out; omega⟩)
        have HCH1 : Hid (Calls Tryd.prog (11) #[.pointer (some ⟨p, 0, none⟩), .int .u64 id] wr fun e w' => ∃ a, e = .returned (.slice a K K) ∧ Lns w' a kc ∧ Below wr.heap.size wr w') := Lib.hid ((chain_any p id wr (HT.out.ext (HB3.out.trans (HB3w.out.mono HB3.out.size))) HG.out.formed (by have := HL.out; omega)).mono (by
          rintro e w' ⟨a, rfl, hE, hb⟩
          rw [← hkc] at hE
          exact ⟨a, by rw [← hkc, hK], hE, hb⟩))
        have HCH2 : Hid (∀ u, Below wr.heap.size wr u → Calls Tryd.prog (11) #[.pointer (some ⟨p2, 0, none⟩), .int .u64 id] u fun e w' => ∃ a, e = .returned (.slice a K K) ∧ Lns w' a kc ∧ Below u.heap.size u w') := Lib.hid (fun u hu => (chain_any p2 id u (HT2.out.ext (HB3w.out.trans (hu.mono HB3w.out.size))) HF2.out.1 (by have := HL.out; have := HF2.out.2; omega)).mono (by
          rintro e w' ⟨a, rfl, hE, hb⟩
          have e1 : chainF ls2 ls2.length id 18446744073709551615 = kc := by rw [HLS2.out, prune_chain HG.out.formed HFR.out HID.out, hkc]
          rw [e1] at hE
          exact ⟨a, by rw [e1, hK], hE, hb⟩))
        have HKC := Lib.hid hkc
        clear hkc hK hcx
        go_upto_region 19 with (go_at_call 11; refine HCH1.out.mono ?_; rintro e w5 ⟨ka, rfl, hE5, hB5⟩)
        have g5 := (hB5.cell (p := ⟨b, _, none⟩) hlb).trans g0
        have HE5 := Lib.hid hE5
        have HB5 := Lib.hid hB5
        clear hE5 hB5 HCH1 g0
        go_wp2_with fail
        refine (HCH2.out w5 HB5.out).mono ?_
        rintro e w6 ⟨kb, rfl, hE6, hB6⟩
        have HSK := Lib.hid (sameK_any ka kb K K K kc w6 (HE5.out.ext hB6) hE6 HK.out.1 (by have := HK.out; omega))
        have HE6 := Lib.hid (HE5.out.ext hB6)
        have HB6 := Lib.hid (HB5.out.trans (hB6.mono HB5.out.size))
        clear hE6 hB6 HCH2 g5
        go_wp2_with fail
        refine HSK.out.mono ?_
        rintro e w7 ⟨rfl, hB7⟩
        have HE7 := Lib.hid (HE6.out.ext hB7)
        have HB7 := Lib.hid (HB6.out.trans (hB7.mono HB6.out.size))
        have HMC7 : Hid (∃ mm, MapC w7 M mm ∧ CountM mm (keepL ls ((fromL ns bs).take i) ++ (kc.take 0).map (·.1))) := Lib.hid (by
          obtain ⟨mm, h1, h2⟩ := HMC.out
          exact ⟨mm, h1.same (HB7.out.block _ h1.lt), by simpa using h2⟩)
        have HAP := Lib.hid (show ∀ u, TurnI M w7 u → Lns u ka kc from fun u hu => by
          rcases Nat.eq_zero_or_pos kc.length with h0 | h0
          · rw [List.length_eq_zero_iff.1 h0]; exact Els.nil _ _ _ _
          · obtain ⟨mm, h1, -⟩ := HMC7.out
            exact els_turn HE7.out hu (mapC_apart h1 HE7.out h0 (fun _ => by simp [lnc])))
        have HBM7 := Lib.hid (HBm.out.trans (HB7.out.mono (Nat.le_trans HMB.out HBm.out.size)))
        clear hB7 HSK HE5 HE6 HB5 HB6
        go_wp2_with fail
        obtain ⟨gi, hgi⟩ : ∃ gi, gi = gk := ⟨_, rfl⟩
        rw [← hgi] at hi
        have HGI := Lib.hid hgi
        clear hgi
        go_loopg [14] K (fun gj jv wz => ∃ j : Nat, j + gj = K ∧ jv = .int .i64 j ∧ Hid (∃ mm, MapC wz M mm ∧ CountM mm (keepL ls ((fromL ns bs).take i) ++ (kc.take j).map (·.1))) ∧ Hid (TurnI M w7 wz))
        case atStart => exact ⟨0, by omega, rfl, HMC7, Lib.hid (TurnI.of_below (Below.refl _ _))⟩
        case round =>
          obtain ⟨j, hj, rfl, HMJ, HTJ⟩ := hrel
          by_cases hjl : j < K
          · have hjk : j < kc.length := by have := HK.out; omega
            obtain ⟨cb, co, rfl, hlc, hcc⟩ := (HAP.out wr HTJ.out).get j hjk
            have HTK2 := Lib.hid (List.take_succ_eq_append_getElem hjk)
            have HMY := Lib.hid (List.getElem_mem hjk)
            generalize kc[j] = y at hcc HTK2 HMY
            have y0 := hcc 0 _ rfl
            simp only [Nat.add_zero] at y0
            have j0 : (0 : Int) ≤ (j : Int) := by omega
            have j1 : (j : Int) < (K : Int) := by omega
            have jw : IntKind.i64.wrap ((j : Int) + 1) = (j : Int) + 1 := IntWalk.i64_in _ (by have := HK.out; omega)
            have hwf : (Lit.int .u64 y.1).wf = true := by
              have h1 := HMY.out
              rw [HKC.out] at h1
              obtain ⟨q, hq⟩ := chain_mem ls _ _ _ y h1
              exact HUL.out _ q hq
            obtain ⟨mm, hmc, hcm⟩ := HMJ.out
            have hcn := hcm.cnt y.1
            have hLL : (keepL ls ((fromL ns bs).take i) ++ (kc.take j).map (·.1)).length ≤ 10000 := by
              have h1 := keepL_len HL.out.2.2.2.1 ((fromL ns bs).take i)
              have h2 : ((fromL ns bs).take i).length ≤ 112 := by rw [List.length_take]; have := HM.out; omega
              rw [List.length_append, List.length_map, List.length_take]
              have := HK.out
              omega
            have hml : mm.length < 100 := by
              have h1 := hcm.length (srtL_nodup HG.out.formed.srt) (fun k hk => by
                rcases List.mem_append.1 hk with h | h
                · obtain ⟨q, hq⟩ := keepL_mem h
                  exact List.mem_map.2 ⟨_, hq, rfl⟩
                · obtain ⟨z, hz, rfl⟩ := List.mem_map.1 h
                  have hz := List.mem_of_mem_take hz
                  rw [HKC.out] at hz
                  obtain ⟨q, hq⟩ := chain_mem ls _ _ _ z hz
                  exact List.mem_map.2 ⟨_, hq, rfl⟩)
              have h2 := List.length_filter_le (fun k => decide (k ∈ keepL ls ((fromL ns bs).take i) ++ (kc.take j).map (·.1))) (ls.map (·.1))
              rw [← h1, List.length_map] at h2
              have := HL.out
              omega
            have hlk := MapIs.lookN hmc y.1 hwf
            obtain ⟨w', hrun, hM1, hg1, -⟩ := MapIs.storeC hmc y.1 (cntM mm y.1 + 1) hwf hml
            obtain ⟨cn, hcnv⟩ : ∃ cn, cn = cntM mm y.1 := ⟨_, rfl⟩
            have HC2 := Lib.hid (show CountM (putL mm y.1 (cn + 1)) (keepL ls ((fromL ns bs).take i) ++ (kc.take (j + 1)).map (·.1)) from by
              rw [HTK2.out, List.map_append, ← List.append_assoc, hcnv]
              exact hcm.step y.1)
            rw [← hcnv] at hlk hrun hM1 hcn
            have cw : IntKind.i64.wrap (cn + 1) = cn + 1 := IntWalk.i64_in _ (by omega)
            have HM1 := Lib.hid hM1
            have HT1 := Lib.hid (HTJ.out.trans (turnI_grown hg1))
            clear hcc hwf hmc hcm hcn hLL hml hM1 hg1 hcnv HMJ
            go_wp2_with fail
            go_roundg (gk - 1)
            case measure => omega
            case rel => exact ⟨j + 1, by omega, by go_num, Lib.hid ⟨_, HM1.out, HC2.out⟩, HT1⟩
          · have h1 : ¬ (j : Int) < (K : Int) := by omega
            have HE := Lib.hid (show ∃ mm, MapC wr M mm ∧ CountM mm (keepL ls ((fromL ns bs).take (i + 1))) from by
              obtain ⟨mm, h1, h2⟩ := HMJ.out
              refine ⟨mm, h1, ?_⟩
              rw [HTK.out, keepL_snoc, chainF_ahead ls ls.length id 0 18446744073709551615, ← HKC.out]
              rwa [show kc.take j = kc from List.take_of_length_le (by have := HK.out; omega)] at h2)
            have HBE := Lib.hid (HTJ.out.below HBM7.out (Nat.le_refl _) HMB.out)
            go_wp2_with fail
            go_roundg (gi - 1)
            case measure => have := HGI.out; omega
            case rel => exact ⟨i + 1, by omega, by go_num, HE, HBE⟩
      have h1 : ¬ (i : Int) < (m : Int) := by omega
      have HMF : Hid (∃ mm, MapC wr M mm ∧ CountM mm (keepL ls (fromL ns bs))) := Lib.hid (by
        obtain ⟨mm, h1, h2⟩ := HMC.out
        rw [show (fromL ns bs).take i = fromL ns bs from List.take_of_length_le (by have := HM.out; omega)] at h2
        exact ⟨mm, h1, h2⟩)
      obtain ⟨kl, hkl⟩ : ∃ kl, ls2.length = kl := ⟨_, rfl⟩
      have HKL := Lib.hid (show ls2.length = kl ∧ 0 < kl ∧ kl ≤ 48 from ⟨hkl, by obtain ⟨h1, _⟩ := List.getElem?_eq_some_iff.1 HF2.out.1.first; omega, by have := HF2.out.2; have := HL.out; omega⟩)
      have HAL := Lib.hid (allL_n p2 kl wr (HT2.out.ext HB3w.out) hkl HKL.out.2.1 (by have := HKL.out; omega))
      clear HMC hkl hi hlt HFE HMB
      go_wp2_with fail
      refine HAL.out.mono ?_
      rintro e w5 ⟨gl, Rl, rfl, -, hhl, hB5⟩
      have HHL := Lib.hid hhl
      have HB5 := Lib.hid hB5
      have HB35 := Lib.hid (HB3w.out.trans (hB5.mono HB3w.out.size))
      have HBW5 := Lib.hid (HBW3.out.trans (HB35.out.mono HBW3.out.size))
      have HPR := Lib.hid (prune_any p2 a cap nn ns w5 (HT2.out.ext HB35.out) HF2.out.1 (by have := HKL.out; omega) HL.out.1 HL.out.2.1 (HNS.out w5 HBW5.out) HNN.out.symm HNZ.out HL.out.2.2.2.2.1)
      clear hhl hB5 HAL
      go_wp2_with fail
      refine HPR.out.mono ?_
      rintro e w6 ⟨⟨rfl, hno⟩ | ⟨p3, rfl, -, ht3⟩, hB6⟩
      · refine absurd (fun id hid => ?_) hno
        obtain ⟨q, hq⟩ := HFR.out id hid
        exact ⟨q, by rw [HLS2.out]; exact pruned_in HG.out.formed hid hq⟩
      rw [show prunedL ls2 (fromL ns bs) = ls2 from by rw [HLS2.out]; exact pruned_again HG.out.formed HFR.out] at ht3
      have HT3 := Lib.hid ht3
      have HB56 := Lib.hid hB6
      have HB6 := Lib.hid (HB35.out.trans (hB6.mono HB35.out.size))
      have HBW6 := Lib.hid (HBW3.out.trans (HB6.out.mono HBW3.out.size))
      have HHL6 := Lib.hid (blk_below HHL.out hB6 (lt_of_blk HHL.out))
      have HMF6 : Hid (∃ mm, MapC w6 M mm ∧ CountM mm (keepL ls (fromL ns bs)) ∧ mm.length = kl) := Lib.hid (by
        obtain ⟨mm, h1, h2⟩ := HMF.out
        refine ⟨mm, (h1.same (HB5.out.block _ h1.lt)).same (HB56.out.block _ (Nat.lt_of_lt_of_le h1.lt HB5.out.size)), h2, ?_⟩
        rw [pruned_len HG.out.formed.srt h2, ← HLS2.out]
        exact HKL.out.1)
      clear ht3 hB6 HPR HHL HB5 HB35 HBW5 HMF HB56
      have HKP : Hid (∀ u, Below w6.heap.size w6 u → u.cell? ⟨w.heap.size, 0, none⟩ = some (.slice ba nb bc) ∧ ∀ ty : TypeId, (Builtin.len_ #[(56)] ty #[.map (some M)]).run Tryd.prog u = .ok (.int .i64 (kl : Int)) u) := Lib.hid (fun u hu => by
        obtain ⟨c0, -⟩ := HC.out u (HBW6.out.trans (hu.mono HBW6.out.size))
        obtain ⟨mm, h1, h2, h3⟩ := HMF6.out
        refine ⟨c0, fun ty => ?_⟩
        have := run_len_c (h1.same (hu.block _ h1.lt)) ty
        rwa [h3] at this)
      have HA1 : Hid (∀ u, Below w6.heap.size w6 u → Calls Tryd.prog (13) #[.pointer (some ⟨p3, 0, none⟩)] u fun e w' => ∃ (g : Nat) (R : List Value), e = .returned (.slice (some ⟨g, 0, none⟩) kl kl) ∧ w'.heap[g]? = some (.cells (ls2.flatMap lnc ++ R).toArray (36) (0, 0)) ∧ Below u.heap.size u w') := Lib.hid (fun u hu => (allL_n p3 kl u (HT3.out.ext hu) HKL.out.1 HKL.out.2.1 (by have := HKL.out; omega)).mono (by
        rintro e w' ⟨g, R, rfl, -, hh, hb⟩
        exact ⟨g, R, rfl, hh, hb⟩))
      have HA2 : Hid (∀ u, Below w6.heap.size w6 u → Calls Tryd.prog (12) #[.pointer (some ⟨p2, 0, none⟩)] u fun e w' => ∃ (g : Nat) (R : List Value), e = .returned (.slice (some ⟨g, 0, none⟩) nb nb) ∧ w'.heap[g]? = some (.cells (bs.flatMap brc ++ R).toArray (45) (0, 0)) ∧ Below u.heap.size u w') := Lib.hid (fun u hu => (allB_n p2 nb u (HT2.out.ext (HB6.out.trans (hu.mono HB6.out.size))) HNB.out.symm (by have := HL.out; have := HNB.out; omega) (by have := HL.out; have := HNB.out; omega)).mono (by
        rintro e w' ⟨g, R, rfl, -, hh, hb⟩
        exact ⟨g, R, rfl, hh, hb⟩))
      have HS1 := Lib.hid (fun (u : World) (g : Nat) (R : List Value) (hu : Below w6.heap.size w6 u) (hx : u.heap[g]? = some (.cells (ls2.flatMap lnc ++ R).toArray (36) (0, 0))) => sameL_any (some ⟨g, 0, none⟩) (some ⟨gl, 0, none⟩) kl kl kl ls2 u (els_pre lnc_len hx) (els_pre lnc_len (blk_below HHL6.out hu (lt_of_blk HHL6.out))) HKL.out.1 (by have := HKL.out; omega))
      have HS2 := Lib.hid (fun (u : World) (g : Nat) (R : List Value) (hu : Below w6.heap.size w6 u) (hx : u.heap[g]? = some (.cells (bs.flatMap brc ++ R).toArray (45) (0, 0))) => sameB_any (some ⟨g, 0, none⟩) ba nb bc nb bs u (els_pre brc_len hx) (HBS.out u (HBW6.out.trans (hu.mono HBW6.out.size))) HNB.out.symm (by have := HL.out; have := HNB.out; omega))
      have HFIN := Lib.hid (fun u (hu : Below w6.heap.size w6 u) => HB.out.trans ((HBW6.out.trans (hu.mono HBW6.out.size)).mono HB.out.size))
      have HKU := Lib.hid (show ∀ x ∈ ls2, (Lit.int .u64 x.1).wf = true ∧ x.1 ∈ keepL ls (fromL ns bs) from fun x hx => by
        rw [HLS2.out] at hx
        unfold prunedL at hx
        obtain ⟨h1, h2⟩ := List.mem_filter.1 hx
        exact ⟨HUL.out x.1 x.2 h1, of_decide_eq_true h2⟩)
      have kl48 : kl ≤ 48 := HKL.out.2.2
      have HKL2 := Lib.hid HKL.out.1
      clear HC HBS HNS HNZ HUL HNB HNN HB HW HN HG HT HBW2 HL HFR HT2 HB3 HBW3 HF2 HM HBT HB3w HT3 HB6 HBW6 HLS2 HKL HG2 HBm
      go_upto_region 27 with fail
      refine r27_any HKP HA1 HA2 HS1 HS2 (by rintro ch ⟨t, d⟩ ⟨t', d'⟩ w' rfl h; exact h) ?_
      intro v117 v118 v119 v120 v121 v122 v123 v124 v125 v126 v127 v128 v129 v130 v131 v132 v133 v134 v135 v136 v137 v138 v139 w8 hb8
      have HB8 := Lib.hid hb8
      clear hb8 HKP HA1 HA2 HS1 HS2
      have HMF8 : Hid (∃ mm, MapC w8 M mm ∧ CountM mm (keepL ls (fromL ns bs))) := Lib.hid (by
        obtain ⟨mm, h1, h2, -⟩ := HMF6.out
        exact ⟨mm, h1.same (HB8.out.block _ h1.lt), h2⟩)
      have HE8 := Lib.hid (show Lns w8 (some ⟨gl, 0, none⟩) ls2 from els_pre lnc_len (blk_below HHL6.out HB8.out (lt_of_blk HHL6.out)))
      clear HMF6 HHL6
      go_wp2_with fail
      go_loopg [18] kl (fun gj jv wz => ∃ j : Nat, j + gj = kl ∧ jv = .int .i64 j ∧ Hid (Below w8.heap.size w8 wz))
      case atStart => exact ⟨0, by omega, rfl, Lib.hid (Below.refl _ _)⟩
      case round =>
        obtain ⟨j, hj, rfl, HBZ⟩ := hrel
        by_cases hjl : j < kl
        · have hjk : j < ls2.length := by have := HKL2.out; omega
          obtain ⟨cb, co, hce, hlc, hcc⟩ := HE8.out.get j hjk
          injection hce with hce
          injection hce with e1 e2
          subst e1 e2
          obtain ⟨hwf, hin⟩ := HKU.out _ (List.getElem_mem hjk)
          generalize ls2[j] = y at hcc hwf hin
          have y0 := (HBZ.out.cell (p := ⟨_, _, none⟩) hlc).trans (hcc 0 _ rfl)
          simp only [Nat.zero_add, Nat.add_zero] at y0
          have j0 : (0 : Int) ≤ (j : Int) := by omega
          have j1 : (j : Int) < (kl : Int) := by omega
          have jw : IntKind.i64.wrap ((j : Int) + 1) = (j : Int) + 1 := IntWalk.i64_in _ (by omega)
          obtain ⟨mm, hmc, hcm⟩ := HMF8.out
          have hlk := MapIs.lookN (hmc.same (HBZ.out.block _ hmc.lt)) y.1 hwf
          have hne := (hcm.cnt y.1).2.2 hin
          generalize cntM mm y.1 = cn at hlk hne
          have hq : (cn == 0) = false := beq_eq_false_iff_ne.2 hne
          clear hcc hwf hin hmc hcm hne
          go_wp2_with fail
          go_roundg (gk - 1)
          case measure => omega
          case rel => exact ⟨j + 1, by omega, by go_num, HBZ⟩
        · have h1 : ¬ (j : Int) < (kl : Int) := by omega
          have HBE := Lib.hid (HB8.out.trans (HBZ.out.mono HB8.out.size))
          go_wp2_with (go_at_call 9; refine (lives_any _).mono ?_; rintro e w9 ⟨rfl, hb9⟩)
          go_ret
          exact ⟨rfl, HFIN.out _ (HBE.out.trans (hb9.mono HBE.out.size))⟩
end Go.Proofs.YtacibennmcegfaaDoor
