/- lines.parts.named: its walk. Condition: the lists' cells lie; the branches' lines are numbers of 64 bits. · herbariumlaw15.great; lines.Of. Condition: at most 100 branches and lines. · How branches, lines, numbers, acts are read. No condition. -/
import Derived.Test.YtchcelodeepjdaaGreatDoorLN9b
import Derived.Test.YtchcelodeepjdaaGreatDoorLN9d
import Derived.Test.YtchcelodeepjdaaGreatDoorLN9f
import Derived.Sort.Walk0
import Derived.Test.YtchcelodeepjdaaGreatDoorLP9
import Derived.Lib.SliceRun
import Derived.Test.YtchcelodeepjdaaGreatDoorRd
import Derived.Test.YtchcelodeepjdaaGreatDoorProg
namespace Go.Proofs.YtchcelodeepjdaaGreatDoor.Ln
open Go.RowKit Go.Herb

abbrev eU (v : Int) : Value := .int .u64 v
abbrev eI (v : Int) : Value := .int .i64 v
theorem eU_inj : ∀ a a', eU a = eU a' → a = a' := fun a a' h => by injection h
theorem lawU : Maps.Keyed Tryz.prog (26) := Maps.int_keyed Tryz.underlying26
abbrev MapC (w : World) (b : Nat) (m : List (Int × Int)) : Prop := MapIs Tryz.prog (26) eU eI w b m
theorem zeroI (w : World) : (zeroValue (3)).run Tryz.prog w = .ok (.int .i64 0) w := by kernel_rfl
def NamedPost (bs : List Br) (ls : List Ln) (w : World) (e : Ending) (w' : World) : Prop := ∃ r : Bool, e = .returned (.bool r) ∧ (r = true ↔ NamedL bs ls ∧ 1 ≤ bs.length ∧ bs.length ≤ 12) ∧ Below w.heap.size w w'

theorem MapIs.lookC {w : World} {b : Nat} {m : List (Int × Int)} {ls : List Int} (h : MapC w b m) (hc : Counted m ls) (k : Int) (hk : (Lit.int .u64 k).wf = true) :
    (Instr.lookup (144) (.map (some b)) (.int .u64 k) false).run Tryz.prog w = .ok (.int .i64 (if k ∈ ls then 1 else 0)) w := by
  have := (MapIs.look h lawU eU_inj Tryz.underlying144 (zeroI w) (Maps.keyOf_int_mk Tryz.underlying26 hk)).1
  rw [hc k] at this
  by_cases hin : k ∈ ls
  · rw [if_pos hin] at this ⊢
    exact this
  · rw [if_neg hin] at this ⊢
    exact this
theorem MapIs.storeC {w : World} {b : Nat} {m : List (Int × Int)} (h : MapC w b m) (k v : Int) (hk : (Lit.int .u64 k).wf = true) (hl : m.length < 100) :
    ∃ w', (Instr.mapUpdate (144) (.map (some b)) (.int .u64 k) (.int .i64 v)).run Tryz.prog w = .ok () w' ∧ MapC w' b (putL m k v) ∧ w.grownBy w' (some b) ∧ w'.heap.size = w.heap.size :=
  MapIs.store h lawU eU_inj Tryz.underlying144 (by unfold maxLen; omega) v (Maps.keyOf_int_mk Tryz.underlying26 hk)

set_option maxRecDepth 100000 in
set_option maxHeartbeats 2000000 in
theorem named_any (ba : Option Addr) (bc n : Nat) (la : Option Addr) (lc m : Nat) (bs : List Br) (ls : List Ln) (w : World) (hBs : Brs w ba bs) (hbn : bs.length = n) (hLs : Lns w la ls) (hln : ls.length = m) (hm : m < 1000000) (hs : SrtL ls)
    (hwf : ∀ x ∈ bs, (Lit.int .u64 x.2.1).wf = true) (hst : ∀ x ∈ bs, x.1.size ≤ 9223372036854775807) :
    Calls Tryz.prog (71) #[partsV ba n bc la m lc] w (NamedPost bs ls w) := by
  obtain ⟨W, hW⟩ : ∃ W : World, W = w.alloc (.cells #[.slice ba n bc, .slice la m lc] (133)) := ⟨_, rfl⟩
  have hB : Below w.heap.size w W := by rw [hW]; exact (Below.refl _ _).alloc (Nat.le_refl _) _
  have hx0 : W.heap[w.heap.size]? = some (.cells #[.slice ba n bc, .slice la m lc] (133) (0, 0)) := by rw [hW]; exact blk_new_at rfl _
  have HB := Lib.hid hB
  have HE := Lib.hid hBs
  have HL := Lib.hid hLs
  have HN := Lib.hid hbn
  have HLN := Lib.hid hln
  have HS := Lib.hid hs
  have HWF := Lib.hid hwf
  have HST := Lib.hid hst
  have HC : Hid (∀ u, Below W.heap.size W u → u.cell? ⟨w.heap.size, 0, none⟩ = some (.slice ba n bc) ∧ u.cell? ⟨w.heap.size, 1, none⟩ = some (.slice la m lc)) := Lib.hid (fun u hu => by
    have h0 := cell_of_blk (blk_below hx0 hu (lt_of_blk hx0)) 0
    have h1 := cell_of_blk (blk_below hx0 hu (lt_of_blk hx0)) 1
    simp at h0 h1
    exact ⟨h0, h1⟩)
  have HW := Lib.hid hW
  have hWs : w.heap.size + 1 = W.heap.size := by rw [hW]; simp
  clear hB hx0 hBs hLs hbn hln hs hwf hst
  have hout : ¬ (NamedL bs ls ∧ 1 ≤ bs.length ∧ bs.length ≤ 12) → Hid (∀ u, Below w.heap.size w u → NamedPost bs ls w (.returned (.bool false)) u) := fun h => Lib.hid (fun u hu => ⟨false, rfl, ⟨(fun h => by cases h), fun h2 => absurd h2 h⟩, hu⟩)
  have HOUT := Lib.hid hout
  clear hout
  have hmm := @run_makeMap Tryz.prog
  go_enter Tryz.func71, Tryz.ntmps71
  by_cases h1 : n < 1
  · have HF := HOUT.out (fun h => by have := HN.out; omega)
    have h1' : (n : Int) < 1 := by omega
    go_wp2_with fail
    go_ret
    rw [← HW.out]
    exact HF.out _ HB.out
  · by_cases h2 : 12 < n
    · have HF := HOUT.out (fun h => by have := HN.out; omega)
      have h1' : ¬ (n : Int) < 1 := by omega
      have h2' : (12 : Int) < (n : Int) := by omega
      go_wp2_with fail
      go_ret
      rw [← HW.out]
      exact HF.out _ HB.out
    · have h1' : ¬ (n : Int) < 1 := by omega
      have h2' : ¬ (12 : Int) < (n : Int) := by omega
      clear hW
      go_wp2_with fail
      rw [← HW.out]
      obtain ⟨V, hV⟩ : ∃ V : World, V = W.alloc (.map #[] 0) := ⟨_, rfl⟩
      have HV := Lib.hid (show MapC V W.heap.size [] ∧ Below W.heap.size W V from by rw [hV]; exact ⟨MapIs.made W, (Below.refl _ _).alloc (Nat.le_refl _) _⟩)
      rw [← hV]
      clear hV hmm
      go_loopg [20] n (fun gk iv wr => ∃ (i : Nat) (cm : List (Int × Int)), i + gk = n ∧ iv = .int .i64 i ∧ Hid (NamedL (bs.take i) ls) ∧ Hid (MapC wr W.heap.size cm) ∧ Hid (Counted cm ((bs.take i).map (·.2.1))) ∧ Hid (cm.length ≤ i) ∧ Hid (Below W.heap.size W wr))
      case atStart => exact ⟨0, [], by omega, rfl, Lib.hid (NamedL.nil ls), Lib.hid HV.out.1, Lib.hid Counted.nil, Lib.hid (Nat.le_refl _), Lib.hid HV.out.2⟩
      case round =>
        obtain ⟨i, cm, hi, rfl, HFI, HM, HCM, HLM, HBW⟩ := hrel
        have HBw := Lib.hid (HB.out.trans (HBW.out.mono HB.out.size))
        by_cases hlt : i < n
        · have hil : i < bs.length := by have := HN.out; omega
          obtain ⟨b, o, rfl, hlb, hcx⟩ := HE.out.get i hil
          have HXE := Lib.hid (List.getElem?_eq_getElem hil)
          have HTK := Lib.hid (List.take_succ_eq_append_getElem hil)
          have HWX := Lib.hid (HWF.out _ (List.getElem_mem hil))
          have HSZ := Lib.hid (HST.out _ (List.getElem_mem hil))
          generalize bs[i] = x at HXE hcx HTK HWX HSZ
          obtain ⟨k, hk⟩ : ∃ k : Nat, k = i - 1 := ⟨_, rfl⟩
          obtain ⟨yn, HYN, HYC⟩ : ∃ yn : ByteArray, Hid (∀ y, 0 < i → bs[i - 1]? = some y → y.1 = yn) ∧ Hid (∀ u, Below w.heap.size w u → u.cell? ⟨b, o + k * 3, none⟩ = some (.string yn)) := by
            have hil1 : i - 1 < bs.length := by omega
            obtain ⟨b', o', he', _, hcy⟩ := HE.out.get (i - 1) hil1
            injection he' with he'
            cases he'
            exact ⟨bs[i - 1].1, Lib.hid (fun y _ hy => by rw [List.getElem?_eq_getElem hil1] at hy; injection hy with hy; rw [← hy]), Lib.hid (fun u hu => by rw [hk]; exact (hu.cell (p := ⟨b, _, none⟩) hlb).trans (hcy 0 _ rfl))⟩
          have g1 := (HBw.out.cell (p := ⟨b, _, none⟩) hlb).trans (hcx 0 _ rfl)
          have g2 := (HBw.out.cell (p := ⟨b, _, none⟩) hlb).trans (hcx 1 _ rfl)
          have g3 := (HBw.out.cell (p := ⟨b, _, none⟩) hlb).trans (hcx 2 _ rfl)
          simp only [Nat.add_zero] at g1 g2 g3
          obtain ⟨X1, hX1⟩ : ∃ X1 : World, X1 = wr.alloc (.cells #[.string x.1, .int .u64 x.2.1, .int .u64 x.2.2] (73)) := ⟨_, rfl⟩
          have hB1 : Below wr.heap.size wr X1 := by rw [hX1]; exact (Below.refl _ _).alloc (Nat.le_refl _) _
          have hx1 : X1.heap[wr.heap.size]? = some (.cells #[.string x.1, .int .u64 x.2.1, .int .u64 x.2.2] (73) (0, 0)) := by rw [hX1]; exact blk_new_at rfl _
          have hM1 : MapC X1 W.heap.size cm := HM.out.same (hB1.block _ HM.out.lt)
          obtain ⟨c, hc⟩ : ∃ c : Int, c = if x.2.1 ∈ (bs.take i).map (·.2.1) then 1 else 0 := ⟨_, rfl⟩
          have HCV := Lib.hid hc
          have hc01 : 0 ≤ c ∧ c ≤ 1 := by rw [hc]; split <;> omega
          have hlk := MapIs.lookC hM1 HCM.out x.2.1 HWX.out
          rw [← hc] at hlk
          obtain ⟨X, hst, hM3, hg3, hs3⟩ := MapIs.storeC hM1 x.2.1 (c + 1) HWX.out (by have := HLM.out; omega)
          have hw2 : IntKind.i64.wrap (c + 1) = c + 1 := IntWalk.i64_in _ (by omega)
          have hwlt := HM.out.lt
          have hWwr := HBW.out.size
          have hx3 : X.heap[wr.heap.size]? = some (.cells #[.string x.1, .int .u64 x.2.1, .int .u64 x.2.2] (73) (0, 0)) := (hg3.block _ (lt_of_blk hx1) (fun e => by injection e with e; omega)).trans hx1
          have HX := Lib.hid (show Below w.heap.size w X from (HBw.out.trans (hB1.mono HBw.out.size)).grown hg3 (HBw.out.trans (hB1.mono HBw.out.size)).size (fun k e => by injection e with e; omega))
          have HX2 := Lib.hid (show Below W.heap.size W X from (HBW.out.trans (hB1.mono HBW.out.size)).grown hg3 (HBW.out.trans (hB1.mono HBW.out.size)).size (fun k e => by injection e with e; omega))
          have HM3 := Lib.hid hM3
          have HCB : Hid (∀ u, Below X.heap.size X u → u.cell? ⟨wr.heap.size, 0, none⟩ = some (.string x.1) ∧ u.cell? ⟨wr.heap.size, 1, none⟩ = some (.int .u64 x.2.1)) := Lib.hid (fun u hu => by
            have k0 := cell_of_blk (blk_below hx3 hu (lt_of_blk hx3)) 0
            have k1 := cell_of_blk (blk_below hx3 hu (lt_of_blk hx3)) 1
            simp at k0 k1
            exact ⟨k0, k1⟩)
          have HKP : Hid (∀ u, Below X.heap.size X u → u.cell? ⟨wr.heap.size, 0, none⟩ = some (.string x.1) ∧ u.cell? ⟨wr.heap.size, 1, none⟩ = some (.int .u64 x.2.1) ∧ u.cell? ⟨w.heap.size, 0, none⟩ = some (.slice (some ⟨b, o, none⟩) n bc) ∧ u.cell? ⟨w.heap.size, 1, none⟩ = some (.slice la m lc) ∧ u.cell? ⟨b, o + k * 3, none⟩ = some (.string yn) ∧ (Instr.lookup (144) (.map (some W.heap.size)) (.int .u64 x.2.1) false).run Tryz.prog u = .ok (.int .i64 (c + 1)) u) := Lib.hid (fun u hu => by
            obtain ⟨k2, k3⟩ := HC.out u (HX2.out.trans (hu.mono HX2.out.size))
            have k5 := (MapIs.look (HM3.out.same (hu.block _ HM3.out.lt)) lawU eU_inj Tryz.underlying144 (zeroI u) (Maps.keyOf_int_mk Tryz.underlying26 HWX.out)).1
            rw [getL_put_same] at k5
            exact ⟨(HCB.out u hu).1, (HCB.out u hu).2, k2, k3, HYC.out u (HX.out.trans (hu.mono HX.out.size)), k5⟩)
          have HLA : Hid (∀ u, Below X.heap.size X u → Calls Tryz.prog (98) #[partsV (some ⟨b, o, none⟩) n bc la m lc, .int .u64 x.2.1] u (LinePost ls x.2.1 u)) := Lib.hid (fun u hu => line_any (some ⟨b, o, none⟩) n bc la lc m ls x.2.1 u (HL.out.ext (HX.out.trans (hu.mono HX.out.size))) HLN.out hm HS.out)
          have hi0 : (0 : Int) ≤ (i : Int) := by omega
          have hi1 : (i : Int) < (n : Int) := by omega
          have hw1 : IntKind.i64.wrap ((i : Int) + 1) = (i : Int) + 1 := IntWalk.i64_in _ (by omega)
          have hw3 : 0 < i → IntKind.i64.wrap ((i : Int) - 1) = (k : Int) := fun h => by rw [IntWalk.i64_in _ (by omega)]; omega
          have hk0 : (0 : Int) ≤ (k : Int) := by omega
          have hk1 : (k : Int) < (n : Int) := by omega
          clear hk
          clear hcx hB1 hM1 hx1 hg3 hc hc01 hx3 hM3
          rw [hX1] at hlk hst
          clear hX1
          go_wp2_with fail
          clear g1 g2 g3 hlk hst hs3
          have HDA := Lib.hid (show Below X.heap.size X X.drew from (Below.refl X.heap.size X).drew)
          by_cases hnm : nameB x.1 = true
          · have HNM := Lib.hid hnm
            have HIN := Lib.hid (show ∀ u, Below X.heap.size X u → Calls Tryz.prog (99) #[.string x.1] u (fun e w' => e = .returned (.bool true) ∧ Below u.heap.size u w') from fun u hu => (isName_any x.1 u HSZ.out).mono fun e w' ⟨h3, h4⟩ => ⟨by rw [h3, hnm], h4⟩)
            clear hnm
            by_cases h0i : 0 < i
            · have d0 : decide ((0 : Int) < (i : Int)) = true := decide_eq_true (by omega)
              have hw3 := hw3 h0i
              by_cases hle : yn.toList < x.1.toList
              · have d1 : Op.bytesLess x.1.toList yn.toList = false := by rw [bytesLess_eq]; exact decide_eq_false (fun h => List.lt_irrefl _ (List.lt_trans hle h))
                have d2 : (x.1.toList == yn.toList) = false := beq_eq_false_iff_ne.2 (fun h => by rw [h] at hle; exact List.lt_irrefl _ hle)
                have HLT0 := Lib.hid (show ∀ y, 0 < i → bs[i - 1]? = some y → y.1.toList < x.1.toList from fun y h5 h6 => by rw [HYN.out y h5 h6]; exact hle)
                clear hle
                cases hp : parL ls x.2.1 with
                | none =>
                  have HF := HOUT.out (fun h => by obtain ⟨-, -, ⟨q, hq⟩, -⟩ := h.1.at HXE.out; rw [hp] at hq; cases hq)
                  have HLI := Lib.hid (show ∀ u, Below X.heap.size X u → Calls Tryz.prog (98) #[partsV (some ⟨b, o, none⟩) n bc la m lc, .int .u64 x.2.1] u (fun e w' => e = .returned (.int .i64 (-1)) ∧ Below u.heap.size u w') from fun u hu => by
                    refine (HLA.out u hu).mono ?_
                    rintro e w' ⟨r, rfl, ⟨j, q, -, -, h3⟩ | ⟨rfl, -⟩, h2⟩
                    · rw [hp] at h3; cases h3
                    · exact ⟨rfl, h2⟩)
                  clear hp HLA
                  refine r9_C2 HKP HIN HLI h0i d0 hw3 hk0 hk1 d1 d2 (by rintro ch ⟨t, d⟩ ⟨t', d'⟩ w' rfl h; exact h) ?_
                  intro v30 v31 v32 v33 v34 v35 v36 v37 v38 v39 v40 v41 v42 v43 v44 v45 v46 v47 v48 v49 v50 v51 v52 v53 v54 v55 v56 v57 v58 v59 v60 v61 v62 wq hbu
                  have HBU := Lib.hid (HX.out.trans (hbu.mono HX.out.size))
                  clear hbu
                  go_wp2
                  go_ret
                  exact HF.out _ HBU.out
                | some q =>
                  have HLI := Lib.hid (show ∀ u, Below X.heap.size X u → Calls Tryz.prog (98) #[partsV (some ⟨b, o, none⟩) n bc la m lc, .int .u64 x.2.1] u (fun e w' => ∃ j : Nat, e = .returned (.int .i64 (j : Int)) ∧ Below u.heap.size u w') from fun u hu => by
                    refine (HLA.out u hu).mono ?_
                    rintro e w' ⟨r, rfl, ⟨j, q, rfl, -, h3⟩ | ⟨-, h3⟩, h2⟩
                    · exact ⟨j, rfl, h2⟩
                    · rw [hp] at h3; cases h3)
                  clear HLA
                  refine r9_C3 HKP HIN HLI h0i d0 hw3 hk0 hk1 d1 d2 (by rintro ch ⟨t, d⟩ ⟨t', d'⟩ w' rfl h; exact h) ?_
                  intro v30 v31 v32 v33 v34 v35 v36 v37 v38 v39 v40 v41 v42 v43 v44 v45 v46 v47 v48 v49 v50 v51 v52 v53 v54 v55 v56 v57 v58 v59 v60 v61 v62 wq hbu
                  have HBU := Lib.hid (HX2.out.trans (hbu.mono HX2.out.size))
                  have HBF := Lib.hid (HX.out.trans (hbu.mono HX.out.size))
                  have HMU := Lib.hid (HM3.out.same (hbu.block _ HM3.out.lt))
                  clear hbu
                  by_cases hin : x.2.1 ∈ (bs.take i).map (·.2.1)
                  · have HF := HOUT.out (fun h => (h.1.at HXE.out).2.2.2 hin)
                    obtain rfl : c = 1 := by have := HCV.out; rw [if_pos hin] at this; exact this
                    clear hp hin
                    go_wp2
                    go_ret
                    exact HF.out _ HBF.out
                  · have HFN := Lib.hid (HFI.out.next HXE.out HNM.out HLT0.out hp hin)
                    obtain rfl : c = 0 := by have := HCV.out; rw [if_neg hin] at this; exact this
                    have HCT := Lib.hid (show Counted (putL cm x.2.1 (0 + 1)) ((bs.take (i + 1)).map (·.2.1)) from by rw [HTK.out, List.map_append]; exact HCM.out.put x.2.1)
                    have HLT := Lib.hid (show (putL cm x.2.1 (0 + 1)).length ≤ i + 1 from by have := putL_length cm x.2.1 (0 + 1); have := HLM.out; omega)
                    clear hp hin
                    go_wp2
                    go_roundg (gk - 1)
                    case measure => omega
                    case rel => exact ⟨i + 1, _, by omega, by go_num, HFN, HMU, HCT, HLT, HBU⟩
              · have d1 : (Op.bytesLess x.1.toList yn.toList || x.1.toList == yn.toList) = true := by rw [bytesLess_eq]; rcases List.le_iff_lt_or_eq.1 (List.not_lt.1 hle) with h | h <;> simp [h]
                have HF := HOUT.out (fun h => by
                  have hi1 : i - 1 < bs.length := by have := HN.out; omega
                  have h5 := (h.1.at HXE.out).2.1 _ h0i (List.getElem?_eq_getElem hi1)
                  rw [HYN.out _ h0i (List.getElem?_eq_getElem hi1)] at h5
                  exact hle h5)
                clear hle HLA
                refine r9_C1 HKP HIN h0i d0 hw3 hk0 hk1 d1 (by rintro ch ⟨t, d⟩ ⟨t', d'⟩ w' rfl h; exact h) ?_
                intro v30 v31 v32 v33 v34 v35 v36 v37 v38 v39 v40 v41 v42 v43 v44 v45 v46 v47 v48 v49 v50 v51 v52 v53 v54 v55 v56 v57 v58 v59 v60 v61 v62 wq hbu
                have HBU := Lib.hid (HX.out.trans (hbu.mono HX.out.size))
                clear hbu
                go_wp2
                go_ret
                exact HF.out _ HBU.out
            · have d0 : decide ((0 : Int) < (i : Int)) = false := decide_eq_false (by omega)
              have HLT0 := Lib.hid (show ∀ y, 0 < i → bs[i - 1]? = some y → y.1.toList < x.1.toList from fun y h5 h6 => absurd h5 h0i)
              cases hp : parL ls x.2.1 with
              | none =>
                have HF := HOUT.out (fun h => by obtain ⟨-, -, ⟨q, hq⟩, -⟩ := h.1.at HXE.out; rw [hp] at hq; cases hq)
                have HLI := Lib.hid (show ∀ u, Below X.heap.size X u → Calls Tryz.prog (98) #[partsV (some ⟨b, o, none⟩) n bc la m lc, .int .u64 x.2.1] u (fun e w' => e = .returned (.int .i64 (-1)) ∧ Below u.heap.size u w') from fun u hu => by
                  refine (HLA.out u hu).mono ?_
                  rintro e w' ⟨r, rfl, ⟨j, q, -, -, h3⟩ | ⟨rfl, -⟩, h2⟩
                  · rw [hp] at h3; cases h3
                  · exact ⟨rfl, h2⟩)
                clear hp HLA
                refine r9_B1 HKP HIN HLI h0i d0 (by rintro ch ⟨t, d⟩ ⟨t', d'⟩ w' rfl h; exact h) ?_
                intro v30 v31 v32 v33 v34 v35 v36 v37 v38 v39 v40 v41 v42 v43 v44 v45 v46 v47 v48 v49 v50 v51 v52 v53 v54 v55 v56 v57 v58 v59 v60 v61 v62 wq hbu
                have HBU := Lib.hid (HX.out.trans (hbu.mono HX.out.size))
                clear hbu
                go_wp2
                go_ret
                exact HF.out _ HBU.out
              | some q =>
                have HLI := Lib.hid (show ∀ u, Below X.heap.size X u → Calls Tryz.prog (98) #[partsV (some ⟨b, o, none⟩) n bc la m lc, .int .u64 x.2.1] u (fun e w' => ∃ j : Nat, e = .returned (.int .i64 (j : Int)) ∧ Below u.heap.size u w') from fun u hu => by
                  refine (HLA.out u hu).mono ?_
                  rintro e w' ⟨r, rfl, ⟨j, q, rfl, -, h3⟩ | ⟨-, h3⟩, h2⟩
                  · exact ⟨j, rfl, h2⟩
                  · rw [hp] at h3; cases h3)
                clear HLA
                refine r9_B2 HKP HIN HLI h0i d0 (by rintro ch ⟨t, d⟩ ⟨t', d'⟩ w' rfl h; exact h) ?_
                intro v30 v31 v32 v33 v34 v35 v36 v37 v38 v39 v40 v41 v42 v43 v44 v45 v46 v47 v48 v49 v50 v51 v52 v53 v54 v55 v56 v57 v58 v59 v60 v61 v62 wq hbu
                have HBU := Lib.hid (HX2.out.trans (hbu.mono HX2.out.size))
                have HBF := Lib.hid (HX.out.trans (hbu.mono HX.out.size))
                have HMU := Lib.hid (HM3.out.same (hbu.block _ HM3.out.lt))
                clear hbu
                by_cases hin : x.2.1 ∈ (bs.take i).map (·.2.1)
                · have HF := HOUT.out (fun h => (h.1.at HXE.out).2.2.2 hin)
                  obtain rfl : c = 1 := by have := HCV.out; rw [if_pos hin] at this; exact this
                  clear hp hin
                  go_wp2
                  go_ret
                  exact HF.out _ HBF.out
                · have HFN := Lib.hid (HFI.out.next HXE.out HNM.out HLT0.out hp hin)
                  obtain rfl : c = 0 := by have := HCV.out; rw [if_neg hin] at this; exact this
                  have HCT := Lib.hid (show Counted (putL cm x.2.1 (0 + 1)) ((bs.take (i + 1)).map (·.2.1)) from by rw [HTK.out, List.map_append]; exact HCM.out.put x.2.1)
                  have HLT := Lib.hid (show (putL cm x.2.1 (0 + 1)).length ≤ i + 1 from by have := putL_length cm x.2.1 (0 + 1); have := HLM.out; omega)
                  clear hp hin
                  go_wp2
                  go_roundg (gk - 1)
                  case measure => omega
                  case rel => exact ⟨i + 1, _, by omega, by go_num, HFN, HMU, HCT, HLT, HBU⟩
          · have HF := HOUT.out (fun h => hnm (h.1.at HXE.out).1)
            have HIN := Lib.hid (show ∀ u, Below X.heap.size X u → Calls Tryz.prog (99) #[.string x.1] u (fun e w' => e = .returned (.bool false) ∧ Below u.heap.size u w') from fun u hu => (isName_any x.1 u HSZ.out).mono fun e w' ⟨h3, h4⟩ => ⟨by rw [h3]; simp [hnm], h4⟩)
            clear hnm HLA
            refine r9_A HKP HIN (by rintro ch ⟨t, d⟩ ⟨t', d'⟩ w' rfl h; exact h) ?_
            intro v30 v31 v32 v33 v34 v35 v36 v37 v38 v39 v40 v41 v42 v43 v44 v45 v46 v47 v48 v49 v50 v51 v52 v53 v54 v55 v56 v57 v58 v59 v60 v61 v62 wq hbu
            have HBU := Lib.hid (HX.out.trans (hbu.mono HX.out.size))
            clear hbu
            go_wp2
            go_ret
            exact HF.out _ HBU.out
        · have hie : bs.take i = bs := List.take_of_length_le (by have := HN.out; omega)
          have HT := Lib.hid (show NamedPost bs ls w (.returned (.bool true)) wr from ⟨true, rfl, ⟨fun _ => ⟨by have := HFI.out; rwa [hie] at this, by have := HN.out; omega, by have := HN.out; omega⟩, fun _ => rfl⟩, HBw.out⟩)
          clear hie
          go_wp2_with fail
          go_ret
          exact HT.out
end Go.Proofs.YtchcelodeepjdaaGreatDoor.Ln

namespace Go.Proofs.YtchcelodeepjdaaGreatDoor.Ln
open Go.RowKit Go.Shelf Go.Herb

/-- What a tree is made of. -/
structure GoodT (bs : List Br) (ls : List Ln) : Prop where
  formed : FormedL ls
  nl : ls.length ≤ 48
  named : NamedL bs ls
  b1 : 1 ≤ bs.length
  b12 : bs.length ≤ 12
theorem GoodT.l1 {bs : List Br} {ls : List Ln} (h : GoodT bs ls) : 0 < ls.length := by
  obtain ⟨h1, _⟩ := List.getElem?_eq_some_iff.1 h.formed.first
  exact h1
def OfPost (bs : List Br) (ls : List Ln) (w : World) (e : Ending) (w' : World) : Prop :=
  ((¬ GoodT bs ls ∧ e = .returned (.tuple #[.pointer none, .int .i64 4])) ∨ (GoodT bs ls ∧ ∃ p : Nat, e = .returned (.tuple #[.pointer (some ⟨p, 0, none⟩), .int .i64 0]) ∧ TreeIs w' p bs ls)) ∧ Below w.heap.size w w'
/-- A tree at p, its lists in blocks of their own. -/
structure TreeAt (w : World) (p g h : Nat) (bs : List Br) (ls : List Ln) : Prop where
  tree : w.heap[p]? = some (.cells #[.slice (some ⟨g, 0, none⟩) bs.length bs.length, .slice (some ⟨h, 0, none⟩) ls.length ls.length, .int .i64 1] (168) (0, 0))
  brs : w.heap[g]? = some (.cells (bs.flatMap brc).toArray (73) (0, 0))
  lns : w.heap[h]? = some (.cells (ls.flatMap lnc).toArray (53) (0, 0))
theorem TreeAt.is {w : World} {p g h : Nat} {bs : List Br} {ls : List Ln} (t : TreeAt w p g h bs ls) : TreeIs w p bs ls := TreeIs.mk2 rfl rfl t.tree t.brs t.lns
def OfNew (bs : List Br) (ls : List Ln) (w : World) (e : Ending) (w' : World) : Prop :=
  ((¬ GoodT bs ls ∧ e = .returned (.tuple #[.pointer none, .int .i64 4])) ∨ (GoodT bs ls ∧ ∃ p g h : Nat, e = .returned (.tuple #[.pointer (some ⟨p, 0, none⟩), .int .i64 0]) ∧ TreeAt w' p g h bs ls ∧ w.heap.size ≤ p ∧ w.heap.size ≤ g ∧ w.heap.size ≤ h)) ∧ Below w.heap.size w w'
set_option maxRecDepth 100000 in
theorem of_newB (ba : Option Addr) (bc n : Nat) (la : Option Addr) (lc m : Nat) (bs : List Br) (ls : List Ln) (w : World) (hBs : Brs w ba bs) (hbn : bs.length = n) (hLs : Lns w la ls) (hln : ls.length = m) (hle : m ≤ lc) (hmx : lc ≤ maxLen) (hn : n < 1000000) (hm : m < 1000000)
    (hwf : ∀ x ∈ bs, (Lit.int .u64 x.2.1).wf = true) (hst : ∀ x ∈ bs, x.1.size ≤ 9223372036854775807) :
    Calls Tryz.prog (30) #[.slice ba n bc, .slice la m lc] w (OfNew bs ls w) := by
  obtain ⟨W, hW⟩ : ∃ W : World, W = w.alloc (.cells #[.slice ba n bc, .slice la m lc] (133)) := ⟨_, rfl⟩
  have hB : Below w.heap.size w W := by rw [hW]; exact balc (Below.refl _ _)
  have hx0 : W.heap[w.heap.size]? = some (.cells #[.slice ba n bc, .slice la m lc] (133) (0, 0)) := by rw [hW]; exact blk_new_at rfl _
  have HC : Hid (∀ u, Below W.heap.size W u → u.cell? ⟨w.heap.size, 0, none⟩ = some (.slice ba n bc) ∧ u.cell? ⟨w.heap.size, 1, none⟩ = some (.slice la m lc)) := Lib.hid (fun u hu => by
    have h0 := cell_of_blk (blk_below hx0 hu (lt_of_blk hx0)) 0
    have h1 := cell_of_blk (blk_below hx0 hu (lt_of_blk hx0)) 1
    simp at h0 h1
    exact ⟨h0, h1⟩)
  have HF := Lib.hid (formed_any ba n bc la lc m ls W (hLs.ext hB) hln hle hmx)
  have HNM := Lib.hid (fun (hs : SrtL ls) (u : World) (hu : Below W.heap.size W u) => named_any ba bc n la lc m bs ls u (hBs.ext (hB.trans (hu.mono hB.size))) hbn (hLs.ext (hB.trans (hu.mono hB.size))) hln (by omega) hs hwf hst)
  have HCP := Lib.hid (fun (h0 : 0 < n) (h1 : 0 < m) (u : World) (hu : Below W.heap.size W u) => copied_any ba bc n la lc m bs ls u (hBs.ext (hB.trans (hu.mono hB.size))) (hLs.ext (hB.trans (hu.mono hB.size))) hbn hln h0 h1 (by omega) (by omega))
  have HN := Lib.hid (show bs.length = n ∧ ls.length = m from ⟨hbn, hln⟩)
  have HB := Lib.hid hB
  have HW := Lib.hid hW
  rw [hW] at HF
  clear hB hx0 hBs hbn hLs hln hle hmx hn hm hwf hst hW
  go_enter Tryz.func30, Tryz.ntmps30
  go_wp2_with fail
  refine HF.out.mono ?_
  rw [← HW.out]
  rintro e w1 ⟨r, rfl, hr, hB1⟩
  have HB1 := Lib.hid (HB.out.trans (hB1.mono HB.out.size))
  obtain ⟨c0, c1⟩ := HC.out w1 hB1
  cases r with
  | false =>
    have HE := Lib.hid (show ¬ GoodT bs ls from fun h => by have := hr.2 ⟨h.formed, h.nl⟩; cases this)
    clear hr HF HNM HCP
    go_wp2_with fail
    go_ret2
    exact ⟨.inl ⟨HE.out, rfl⟩, HB1.out⟩
  | true =>
    obtain ⟨hf, h48⟩ := hr.1 rfl
    have HFM := Lib.hid hf
    have H48 := Lib.hid h48
    have HNM2 := Lib.hid (HNM.out hf.srt w1 hB1)
    have HBW := Lib.hid hB1
    clear hr HF HNM hf h48 hB1
    go_wp2_with fail
    refine HNM2.out.mono ?_
    rintro e w2 ⟨r, rfl, hr, hB2⟩
    have HB2 := Lib.hid (HB1.out.trans (hB2.mono HB1.out.size))
    have HBW2 := Lib.hid (HBW.out.trans (hB2.mono HBW.out.size))
    obtain ⟨d0, d1⟩ := HC.out w2 HBW2.out
    cases r with
    | false =>
      have HE := Lib.hid (show ¬ GoodT bs ls from fun h => by have := hr.2 ⟨h.named, h.b1, h.b12⟩; cases this)
      clear hr HCP hB2
      go_wp2_with fail
      go_ret2
      exact ⟨.inl ⟨HE.out, rfl⟩, HB2.out⟩
    | true =>
      obtain ⟨h1, h2, h3⟩ := hr.1 rfl
      have HG := Lib.hid (show GoodT bs ls from ⟨HFM.out, H48.out, h1, h2, h3⟩)
      have HCQ := Lib.hid (HCP.out (by have := HN.out; omega) (by have := HN.out; have := HG.out.l1; omega) w2 HBW2.out)
      clear hr HCP hB2 h1 h2 h3
      go_wp2_with (first
        | (go_at_call 73; refine HCQ.out.mono ?_; rintro e w3 ⟨g, h, rfl, hg, hh, hg0, hh0, -, hB3⟩)
        | (go_at_call 72; refine (made_any _ _ _ _ _ _ _).mono ?_; rintro e w4 ⟨rfl, hx4, hB4⟩))
      go_ret2
      have hg4 := blk_below hg hB4 (lt_of_blk hg)
      have hh4 := blk_below hh hB4 (lt_of_blk hh)
      have hs2 := HB2.out.size
      have hs3 := hB3.size
      exact ⟨.inr ⟨HG.out, _, g, h, rfl, ⟨by rw [HN.out.1, HN.out.2]; exact hx4, hg4, hh4⟩, by omega, by omega, by omega⟩, HB2.out.trans ((hB3.trans (hB4.mono hB3.size)).mono HB2.out.size)⟩
theorem of_new (ba : Option Addr) (bc n : Nat) (la : Option Addr) (lc m : Nat) (bs : List Br) (ls : List Ln) (w : World) (hBs : Brs w ba bs) (hbn : bs.length = n) (hLs : Lns w la ls) (hln : ls.length = m) (hle : m ≤ lc) (hmx : lc ≤ maxLen) (hn : n ≤ 100) (hm : m ≤ 100)
    (hwf : ∀ x ∈ bs, (Lit.int .u64 x.2.1).wf = true) (hst : ∀ x ∈ bs, x.1.size ≤ 9223372036854775807) :
    Calls Tryz.prog (30) #[.slice ba n bc, .slice la m lc] w (OfNew bs ls w) :=
  of_newB ba bc n la lc m bs ls w hBs hbn hLs hln hle hmx (by omega) (by omega) hwf hst
theorem of_anyB (ba : Option Addr) (bc n : Nat) (la : Option Addr) (lc m : Nat) (bs : List Br) (ls : List Ln) (w : World) (hBs : Brs w ba bs) (hbn : bs.length = n) (hLs : Lns w la ls) (hln : ls.length = m) (hle : m ≤ lc) (hmx : lc ≤ maxLen) (hn : n < 1000000) (hm : m < 1000000)
    (hwf : ∀ x ∈ bs, (Lit.int .u64 x.2.1).wf = true) (hst : ∀ x ∈ bs, x.1.size ≤ 9223372036854775807) :
    Calls Tryz.prog (30) #[.slice ba n bc, .slice la m lc] w (OfPost bs ls w) :=
  (of_newB ba bc n la lc m bs ls w hBs hbn hLs hln hle hmx hn hm hwf hst).mono (by
    rintro e w' ⟨⟨h, rfl⟩ | ⟨h, p, g, k, rfl, ht, -, -, -⟩, hB⟩
    · exact ⟨.inl ⟨h, rfl⟩, hB⟩
    · exact ⟨.inr ⟨h, p, rfl, ht.is⟩, hB⟩)
theorem of_any (ba : Option Addr) (bc n : Nat) (la : Option Addr) (lc m : Nat) (bs : List Br) (ls : List Ln) (w : World) (hBs : Brs w ba bs) (hbn : bs.length = n) (hLs : Lns w la ls) (hln : ls.length = m) (hle : m ≤ lc) (hmx : lc ≤ maxLen) (hn : n ≤ 100) (hm : m ≤ 100)
    (hwf : ∀ x ∈ bs, (Lit.int .u64 x.2.1).wf = true) (hst : ∀ x ∈ bs, x.1.size ≤ 9223372036854775807) :
    Calls Tryz.prog (30) #[.slice ba n bc, .slice la m lc] w (OfPost bs ls w) :=
  (of_new ba bc n la lc m bs ls w hBs hbn hLs hln hle hmx hn hm hwf hst).mono (by
    rintro e w' ⟨⟨h, rfl⟩ | ⟨h, p, g, k, rfl, ht, -, -, -⟩, hB⟩
    · exact ⟨.inl ⟨h, rfl⟩, hB⟩
    · exact ⟨.inr ⟨h, p, rfl, ht.is⟩, hB⟩)
end Go.Proofs.YtchcelodeepjdaaGreatDoor.Ln

namespace Go.Proofs.YtchcelodeepjdaaGreatDoor.Ln
open Go.ChangeShapes Go.WideShapes Go.ChangeAt Go.RowKit Go.Herb Go.Deep

section
variable {H : Type} {enc : TypeId × Value → H} {w : World}
def U64 (x : Int) : Prop := (Lit.int .u64 x).wf = true
theorem fieldAt {fs : Array Field} {Q : Nat → TypeId → Prop} (h : ∀ (j : Nat) (f : Field), fs[j]? = some f → Q j f.type) (j : Nat) (t : TypeId) (ht : (fs[j]?).map (·.type) = some t) : Q j t := by
  obtain ⟨f, hf, rfl⟩ := Option.map_eq_some_iff.1 ht
  exact h j f hf
/-- The fields of a struct, each where it lies. -/
theorem rd_struct {t : TypeId} {fuel : Nat} {cs : List Value} {x : DataW H × List MemPlace} (ht : Tryz.prog.underlying t = some (.struct (Tryz.prog.fieldsOf t))) (h : DataW.trod enc Tryz.prog w 0 (fun _ => true) true fuel t cs = some x) :
    cs.length = Tryz.prog.cellsOf t ∧ ∃ n, ∀ (i o u : Nat), ((Tryz.prog.fieldsOf t)[i]?).map (fun f => (f.offset, f.type)) = some (o, u) → ∃ y, DataW.trod enc Tryz.prog w 0 (fun _ => true) true n u ((cs.drop o).take (Tryz.prog.cellsOf u)) = some y := by
  obtain ⟨ys, n, _, _, hlen, hyl, hf⟩ := DataW.trod_struct ht h
  refine ⟨hlen, n, fun i o u hi => ?_⟩
  obtain ⟨f, hf', he⟩ := Option.map_eq_some_iff.1 hi
  simp only [Prod.mk.injEq] at he
  obtain ⟨rfl, rfl⟩ := he
  have hil : i < (Tryz.prog.fieldsOf t).size := (Array.getElem?_eq_some_iff.1 hf').1
  exact ⟨_, (hf i f hf').trans (List.getElem?_eq_getElem (by omega))⟩
/-- A slice, as it may come in. -/
structure SIn {α : Type} (enc : α → List Value) (s : Nat) (Q : α → Prop) (w : World) (a : Option Addr) (cap : Nat) (xs : List α) : Prop where
  els : Els enc s w a xs
  nil : a = none → cap = 0
  le : xs.length ≤ cap
  max : cap ≤ maxLen
  all : ∀ x ∈ xs, Q x
set_option maxRecDepth 100000 in
theorem rd_lines {fuel : Nat} {cs : List Value} {x : DataW H × List MemPlace} (h : DataW.trod enc Tryz.prog w 0 (fun _ => true) true fuel (28) cs = some x) :
    ∃ (a : Option Addr) (cap : Nat) (xs : List Ln), cs = [.slice a xs.length cap] ∧ SIn lnc 2 (fun q : Ln => U64 q.1 ∧ U64 q.2) w a cap xs := by
  have hfs : Tryz.prog.underlying (53) = some (.struct (Tryz.prog.fieldsOf (53))) := by kernel_rfl
  rcases open_slice_fields Tryz.underlying28 hfs (by kernel_rfl) (by kernel_rfl) h with h0 | ⟨a, len, cap, hcs, hl, hm, hi⟩
  · exact ⟨none, 0, [], h0, ⟨Els.nil _ _ _ _, fun _ => rfl, Nat.le_refl _, by unfold maxLen; decide, by simp⟩⟩
  · obtain ⟨xs, hlen, hq, hE⟩ := els_of_cells (enc := lnc) (s := 2) (w := w) (a := a) (Q := fun q : Ln => U64 q.1 ∧ U64 q.2) len (fun _ => by simp [lnc]) (fun i hil => by
      obtain ⟨n, hj⟩ := hi i hil
      have hsz : (Tryz.prog.fieldsOf (53)).size = 2 := by kernel_rfl
      rw [hsz] at hj
      obtain ⟨v0, y0, c0, e0⟩ := fieldAt (Q := fun j t => ∃ v y, w.cell? (a.add (i * 2 + j)) = some v ∧ DataW.trod enc Tryz.prog w 0 (fun _ => true) true n t [v] = some y) hj 0 (26) (by kernel_rfl)
      obtain ⟨v1, y1, c1, e1⟩ := fieldAt (Q := fun j t => ∃ v y, w.cell? (a.add (i * 2 + j)) = some v ∧ DataW.trod enc Tryz.prog w 0 (fun _ => true) true n t [v] = some y) hj 1 (26) (by kernel_rfl)
      obtain ⟨n0, hn0, _, w0⟩ := DataW.trod_int Tryz.underlying26 e0
      obtain ⟨n1, hn1, _, w1⟩ := DataW.trod_int Tryz.underlying26 e1
      simp only [List.cons.injEq, and_true] at hn0 hn1
      subst hn0 hn1
      refine ⟨(n0, n1), ⟨w0, w1⟩, fun j c hj => ?_⟩
      match j, hj with
      | 0, hj => simp [lnc] at hj; subst hj; exact c0
      | 1, hj => simp [lnc] at hj; subst hj; exact c1
      | j + 2, hj => simp [lnc] at hj)
    subst hlen
    exact ⟨some a, cap, xs, hcs, ⟨hE, (fun h => by cases h), hl, hm, hq⟩⟩
set_option maxRecDepth 100000 in
theorem rd_branches {fuel : Nat} {cs : List Value} {x : DataW H × List MemPlace} (h : DataW.trod enc Tryz.prog w 0 (fun _ => true) true fuel (27) cs = some x) :
    ∃ (a : Option Addr) (cap : Nat) (xs : List Br), cs = [.slice a xs.length cap] ∧ SIn brc 3 (fun q : Br => q.1.size ≤ maxLen ∧ U64 q.2.1 ∧ U64 q.2.2) w a cap xs := by
  have hfs : Tryz.prog.underlying (73) = some (.struct (Tryz.prog.fieldsOf (73))) := by kernel_rfl
  rcases open_slice_fields Tryz.underlying27 hfs (by kernel_rfl) (by kernel_rfl) h with h0 | ⟨a, len, cap, hcs, hl, hm, hi⟩
  · exact ⟨none, 0, [], h0, ⟨Els.nil _ _ _ _, fun _ => rfl, Nat.le_refl _, by unfold maxLen; decide, by simp⟩⟩
  · obtain ⟨xs, hlen, hq, hE⟩ := els_of_cells (enc := brc) (s := 3) (w := w) (a := a) (Q := fun q : Br => q.1.size ≤ maxLen ∧ U64 q.2.1 ∧ U64 q.2.2) len (fun _ => by simp [brc]) (fun i hil => by
      obtain ⟨n, hj⟩ := hi i hil
      have hsz : (Tryz.prog.fieldsOf (73)).size = 3 := by kernel_rfl
      rw [hsz] at hj
      obtain ⟨v0, y0, c0, e0⟩ := fieldAt (Q := fun j t => ∃ v y, w.cell? (a.add (i * 3 + j)) = some v ∧ DataW.trod enc Tryz.prog w 0 (fun _ => true) true n t [v] = some y) hj 0 (9) (by kernel_rfl)
      obtain ⟨v1, y1, c1, e1⟩ := fieldAt (Q := fun j t => ∃ v y, w.cell? (a.add (i * 3 + j)) = some v ∧ DataW.trod enc Tryz.prog w 0 (fun _ => true) true n t [v] = some y) hj 1 (26) (by kernel_rfl)
      obtain ⟨v2, y2, c2, e2⟩ := fieldAt (Q := fun j t => ∃ v y, w.cell? (a.add (i * 3 + j)) = some v ∧ DataW.trod enc Tryz.prog w 0 (fun _ => true) true n t [v] = some y) hj 2 (26) (by kernel_rfl)
      obtain ⟨n0, hn0, _, w0⟩ := DataW.trod_string Tryz.underlying9 e0
      obtain ⟨n1, hn1, _, w1⟩ := DataW.trod_int Tryz.underlying26 e1
      obtain ⟨n2, hn2, _, w2⟩ := DataW.trod_int Tryz.underlying26 e2
      simp only [List.cons.injEq, and_true] at hn0 hn1 hn2
      subst hn0 hn1 hn2
      refine ⟨(n0, n1, n2), ⟨w0, w1, w2⟩, fun j c hj => ?_⟩
      match j, hj with
      | 0, hj => simp [brc] at hj; subst hj; exact c0
      | 1, hj => simp [brc] at hj; subst hj; exact c1
      | 2, hj => simp [brc] at hj; subst hj; exact c2
      | j + 3, hj => simp [brc] at hj)
    subst hlen
    exact ⟨some a, cap, xs, hcs, ⟨hE, (fun h => by cases h), hl, hm, hq⟩⟩
end
end Go.Proofs.YtchcelodeepjdaaGreatDoor.Ln
