/- views.Of: where its answer lies. Condition: fewer than 1000000 facts and links. · ViewsOf's walk. No condition. · ViewsOf's walk, as its row asks it. No condition. -/
import Derived.Test.YtenocakpipppiaaGreatDoorX6
import Derived.Test.YtenocakpipppiaaGreatDoorV8
import Derived.Test.YtenocakpipppiaaGreatDoorS8
namespace Go.Proofs.YtenocakpipppiaaGreatDoor
open Go.RowKit Go.Shelf Go.Herb Go.Sort

def SortedR (zs : List Fc) (w : World) (e : Ending) (w' : World) : Prop :=
  ∃ (a : Option Addr) (ys : List Fc), e = .returned (.slice a ys.length ys.length) ∧ ys.Perm zs ∧ ys.Pairwise (fun x y => ¬ LtF y x) ∧ Facts w' a ys ∧ ((a = none ∧ ys = []) ∨ ∃ g cap, a = some ⟨g, 0, none⟩ ∧ w.heap.size ≤ g ∧ Row fc 6 (50) w' g cap ys) ∧ Below w.heap.size w w'

set_option maxRecDepth 100000 in
set_option maxHeartbeats 1000000 in
theorem sortedR_any (b : Nat) (m : List (Spot × Fc)) (w : World) (hM : MapS w b m) (hlen : m.length < 1000000) : Calls Tryz.prog 22 #[.map (some b)] w (SortedR (m.map (·.2)) w) := by
  obtain ⟨i0, hi, hz0, hz1, hz2⟩ := info_parts Tryz.info50
  have hbw := hM.lt
  obtain ⟨w1, hrun, hIt, hB1, hs1⟩ := hM.range Tryz.underlying55
  have HIT := Lib.hid hIt
  have HB1 := Lib.hid hB1
  have HS1 := Lib.hid hs1
  clear hIt hB1 hs1 hM
  go_enter Tryz.func22, Tryz.ntmps22
  go_wp2_with fail
  go_loopg [3] m.length (fun gk v wr => ∃ done todo : List (Spot × Fc), todo.length = gk ∧ m.Perm (done ++ todo) ∧ IterIs Tryz.prog 87 eS fv wr b w.heap.size m todo ∧ OwnF (w.heap.size + 1) wr v (done.map (·.2)) ∧ Below w.heap.size w wr ∧ w.heap.size < wr.heap.size)
  case atStart => exact ⟨[], m, rfl, List.Perm.refl _, HIT.out, World.ownsRow_nil _ _ _ _, HB1.out, by have := HS1.out; omega⟩
  case round =>
    obtain ⟨done, todo, htl, hpm, hit, hown, hBw, hws⟩ := hrel
    have hdl : done.length + todo.length = m.length := by have := hpm.length_eq; simp at this; omega
    have HPM := Lib.hid hpm
    have HBW := Lib.hid hBw
    clear hpm hBw
    rcases hit.next 0 with ⟨ht0, hnx⟩ | ⟨p, todo', w2, htp, hpm2, hnx, hit2, hg2, hs2, hen⟩
    · subst ht0
      have hfin : (done.map (·.2)).Perm (m.map (·.2)) := by
        have := HPM.out
        rw [List.append_nil] at this
        exact (this.map _).symm
      have HFIN := Lib.hid hfin
      clear hit hfin
      rcases row_of_owns hown with ⟨rfl, hnil⟩ | ⟨g, cap, rfl, hg, hR⟩
      · have HNIL := Lib.hid hnil
        clear hown hnil
        go_wp2_with (first | (go_at_call 33; refine (sortFunc_none none 0 _ _).mono ?_; rintro e w3 ⟨rfl, rfl⟩) | (go_at_call 39; refine (clipF_any none 0 0 _ (fun _ => ⟨rfl, rfl⟩) (by decide) (Nat.le_refl _) (Nat.zero_le _)).mono ?_; rintro e w4 ⟨rfl, rfl⟩))
        go_ret
        have hnil := HNIL.out
        have hz := HFIN.out
        rw [hnil] at hz
        exact ⟨none, [], rfl, hz, List.Pairwise.nil, Els.nil _ _ _ _, .inl ⟨rfl, rfl⟩, HBW.out⟩
      · have hcon := sortFunc_any g cap (done.map (·.2)) wr hR (by simp; omega)
        have hdz : (done.map (·.2)).length < 1000000 := by simp; omega
        have hmx := hR.max
        generalize done.map (·.2) = zs at *
        have HR := Lib.hid hR
        clear hown hR
        go_wp2_with fail
        refine hcon.mono ?_
        rintro e w3 ⟨rfl, ys, hyp, hys, hR3, hg3⟩
        have hyl : ys.length = zs.length := hyp.length_eq
        have hle3 := hR3.le
        rw [← hyl]
        have HYP := Lib.hid hyp
        have HYS := Lib.hid hys
        have HR3 := Lib.hid hR3
        have HG3 := Lib.hid hg3
        have hyz : ys.length < 1000000 := by omega
        clear hyp hys hR3 hg3 hyl hcon
        go_wp2_with (go_at_call 39; refine (clipF_any (some ⟨g, 0, none⟩) cap ys.length w3 (fun h => by cases h) hyz hle3 hmx).mono ?_; rintro e w4 ⟨rfl, rfl⟩)
        go_ret
        exact ⟨some ⟨g, 0, none⟩, ys, rfl, HYP.out.trans HFIN.out, HYS.out, HR3.out.els fc_len, .inr ⟨g, cap, rfl, by omega, HR3.out⟩, HBW.out.grown HG3.out HBW.out.size (fun k e => by cases e; omega)⟩
    · have hB2 : Below w.heap.size w w2 := HBW.out.grown hg2 HBW.out.size (fun k e => by cases e; exact Nat.le_refl _)
      have hrow : ∀ k, u3.ownBlock = some k → w.heap.size + 1 ≤ k := fun k hk => (World.ownsRow.lt hown k hk).1
      have hown2 : OwnF (w.heap.size + 1) w2 u3 (done.map (·.2)) := by
        refine World.ownsRow.kept hown hg2 (.inr (fun h => ?_))
        have := hrow _ h
        omega
      have hw2 : w.heap.size + 1 ≤ w2.heap.size := by omega
      obtain ⟨X, hX⟩ : ∃ X : World, X = (w2.alloc (.cells (fc p.2).toArray 50)).alloc (.cells (fc p.2).toArray 50) := ⟨_, rfl⟩
      have hBX : Below w2.heap.size w2 X := by rw [hX]; exact ((Below.refl _ _).alloc (Nat.le_refl _) _).alloc (by simp) _
      have hXs : X.heap.size = w2.heap.size + 2 := by rw [hX]; simp
      have hzX : X.heap[w2.heap.size + 1]? = some (.cells (fc p.2).toArray 50 (0, 0)) := by rw [hX]; exact blk_new_at (by simp) _
      obtain ⟨v', w', hrunA, hO', hg'⟩ := run_append_facts X (w.heap.size + 1) u3 (done.map (·.2)) (some ⟨w2.heap.size + 1, 0, none⟩) 1 [p.2] (hown2.below hBX) (els_of_one hzX) (by simp; omega) (by simp) (fun h => by cases h) (by omega) 22
      have hrunA' : (Builtin.append_ #[22, 22] 22 #[u3, .slice (some ⟨w2.heap.size + 1, 0, none⟩) 1 1]).run Tryz.prog X = .ok v' w' := hrunA
      rw [hX] at hrunA'
      have hblk : ∀ c, c < w.heap.size + 1 → w'.heap[c]? = w2.heap[c]? := fun c hc => (hg'.block c (by omega) (fun e => by have := hrow c e.symm; omega)).trans (hBX.block c (by omega))
      have hB' : Below w.heap.size w w' := (hB2.trans (hBX.mono (by omega))).grown hg' (by omega) (fun k e => by have := hrow k e; omega)
      have hs' : X.heap.size ≤ w'.heap.size := hg'.size
      have hO'' : OwnF (w.heap.size + 1) w' v' ((done ++ [p]).map (·.2)) := by rw [List.map_append]; exact hO'
      have hpm' : m.Perm ((done ++ [p]) ++ todo') := by
        refine HPM.out.trans ?_
        rw [List.append_assoc]
        exact htp.append_left done
      have hit' : IterIs Tryz.prog 87 eS fv w' b w.heap.size m todo' := hit2.same (hblk b (by omega)) (hblk _ (by omega))
      have htl' : todo.length = todo'.length + 1 := by have := htp.length_eq; simpa using this
      have HRUN := Lib.hid hrunA'
      have HO := Lib.hid hO''
      have HP' := Lib.hid hpm'
      have HI' := Lib.hid hit'
      have HB' := Lib.hid hB'
      have hws' : w.heap.size < w'.heap.size := by omega
      clear hrunA hrunA' hO' hO'' hpm' hit' hB' hblk hg' hBX hzX hX hown2 hown hit hit2 hg2 hB2 htp hpm2 HPM HBW hrow hXs hs' hs2
      simp only [fc] at HRUN
      go_wp2_with (at_builtin; refine Lib.wpList_append_run _ rfl _ _ _ _ rfl _ _ rfl rfl _ _ (HRUN.out) ?_)
      go_roundg (gk - 1)
      case measure => omega
      case rel => exact ⟨done ++ [p], todo', by omega, HP'.out, HI'.out, HO.out, HB'.out, hws'⟩

set_option maxHeartbeats 1000000 in
theorem viewsOfR_any (al : Option Addr) (cl : Nat) (xs : List Fc) (ac : Option Addr) (cc : Nat) (cs : List Lk) (at_ : Int) (w : World) (hL : Facts w al xs) (hC : Links w ac cs) (hx : xs.length < 1000000) (hc : cs.length < 1000000) :
    Calls Tryz.prog 7 #[.slice al xs.length cl, .slice ac cs.length cc, .int .u64 at_] w (SortedR (lastL (seenL xs cs at_)) w) := by
  have HL := Lib.hid hL
  have HC := Lib.hid hC
  clear hL hC
  go_enter Tryz.func7, Tryz.ntmps7
  go_wp2_with fail
  refine (seen_any al xs.length cl ac cc cs at_ w HC.out hc).mono ?_
  rintro e w1 ⟨bl, bu, ba, bm, rfl, hB1, hV⟩
  have HB1 := Lib.hid hB1
  have HV := Lib.hid hV
  clear hB1 hV
  go_wp2_with fail
  refine (last_any 41 _ (seenL xs cs at_) (fun pre => pre <+: seenL xs cs at_) xs.length w1.heap.size hx w1 (Nat.le_refl _) (enters_of Tryz.func41 (by kernel_rfl) rfl) (seen1_stops 2 (by omega) bl bu ba bm al cl xs hx _ at_ w1 HV.out (HL.out.ext HB1.out))).mono ?_
  rintro e w2 ⟨b, rfl, hb, hB2, hM⟩
  have HB2 := Lib.hid hB2
  have HM := Lib.hid hM
  clear hB2 hM
  go_wp2_with fail
  refine (sortedR_any b _ w2 HM.out (by
    have h1 := lastM_len (seenL xs cs at_)
    have h2 : (seenL xs cs at_).length ≤ xs.length := List.length_filter_le _ _
    omega)).mono ?_
  rintro e w3 ⟨a, ys, rfl, hp, hs, hF, hn, hB3⟩
  have HP := Lib.hid hp
  have HS := Lib.hid hs
  have HF := Lib.hid hF
  have HN := Lib.hid (show (a = none ∧ ys = []) ∨ ∃ g cap, a = some ⟨g, 0, none⟩ ∧ w.heap.size ≤ g ∧ Row fc 6 (50) w3 g cap ys from by
    rcases hn with h | ⟨g, cap, h1, h2, h3⟩
    · exact .inl h
    · exact .inr ⟨g, cap, h1, by have := HB1.out.size; have := HB2.out.size; omega, h3⟩)
  have HB3 := Lib.hid hB3
  clear hp hs hF hn hB3
  go_wp2
  go_ret
  exact ⟨a, ys, rfl, HP.out, HS.out, HF.out, HN.out, HB1.out.trans ((HB2.out.trans (HB3.out.mono HB2.out.size)).mono HB1.out.size)⟩
end Go.Proofs.YtenocakpipppiaaGreatDoor

namespace Go.Proofs.YtenocakpipppiaaGreatDoor
open Go.RowKit Go.Shelf Go.Herb Go.Sort

set_option maxRecDepth 100000 in
set_option maxHeartbeats 4000000 in
theorem viewsOfL_any (al : Option Addr) (cl : Nat) (xs : List Fc) (ac : Option Addr) (cc : Nat) (cs : List Lk) (at_ : Int) (on : Bool) (low high : ByteArray) (valid : Int) (w : World) (hL : SlIn fc 6 w al cl xs) (hC : SlIn lc 2 w ac cc cs) (hlo : low.size ≤ maxLen) :
    Calls Tryz.prog (3) #[.slice al xs.length cl, .agg #[.slice ac cs.length cc, .int .u64 at_, .bool on, .string low, .string high, .int .u32 valid]] w fun e w' => e = .returned (.bool true) ∧ Below w.heap.size w w' := by
  have HXL := Lib.hid hL.lenle
  have HCL := Lib.hid hC.lenle
  have HLO := Lib.hid hlo
  obtain ⟨W0, hW0⟩ : ∃ W0 : World, W0 = w.alloc (.cells #[.slice ac cs.length cc, .int .u64 at_, .bool on, .string low, .string high, .int .u32 valid] (29)) := ⟨_, rfl⟩
  have hb0 : Below w.heap.size w W0 := by rw [hW0]; exact (Below.refl _ _).alloc (Nat.le_refl _) _
  have hx0 : W0.heap[w.heap.size]? = some (.cells #[.slice ac cs.length cc, .int .u64 at_, .bool on, .string low, .string high, .int .u32 valid] (29) (0, 0)) := by rw [hW0]; exact blk_new_at rfl _
  have HA : Hid (∀ u, Below W0.heap.size W0 u → u.cell? ⟨w.heap.size, 0, none⟩ = some (.slice ac cs.length cc) ∧ u.cell? ⟨w.heap.size, 1, none⟩ = some (.int .u64 at_) ∧ u.cell? ⟨w.heap.size, 2, none⟩ = some (.bool on) ∧ u.cell? ⟨w.heap.size, 3, none⟩ = some (.string low) ∧ u.cell? ⟨w.heap.size, 4, none⟩ = some (.string high) ∧ u.cell? ⟨w.heap.size, 5, none⟩ = some (.int .u32 valid)) := Lib.hid (fun u hu => by
    have h1 := blk_below hx0 hu (lt_of_blk hx0)
    have f0 := cell_of_blk h1 0
    have f1 := cell_of_blk h1 1
    have f2 := cell_of_blk h1 2
    have f3 := cell_of_blk h1 3
    have f4 := cell_of_blk h1 4
    have f5 := cell_of_blk h1 5
    simp at f0 f1 f2 f3 f4 f5
    exact ⟨f0, f1, f2, f3, f4, f5⟩)
  have HL0 := Lib.hid (hL.els.ext hb0)
  have HC0 := Lib.hid (hC.els.ext hb0)
  have HB0 := Lib.hid hb0
  have hs0 : W0.heap.size = w.heap.size + 1 := by rw [hW0]; simp
  obtain ⟨a0, a1, a2, a3, a4, a5⟩ := HA.out W0 (Below.refl _ _)
  have HW0 := Lib.hid hW0
  rw [hW0] at a0
  clear hL hC hb0 hx0
  go_enter Tryz.func3, Tryz.ntmps3
  go_wp2_with fail
  rw [← HW0.out]
  refine (great17_any al ac xs.length cl cs.length cc W0 HXL.out HCL.out).mono ?_
  rintro e w1 ⟨rfl, rfl⟩
  by_cases hg : 120 < xs.length ∨ 40 < cs.length
  · rw [great_wide hg]
    clear hg a0 a1 a2 a3 a4 a5 hW0 HW0
    go_wp2_with fail
    refine (livesV_any _).mono ?_
    rintro e w2 ⟨rfl, hb⟩
    have HB := Lib.hid (HB0.out.trans (hb.mono HB0.out.size))
    clear hb
    go_wp2
    go_ret
    exact ⟨rfl, HB.out⟩
  · rw [great_not hg]
    have hxl : xs.length ≤ 120 := by omega
    have hcl : cs.length ≤ 40 := by omega
    clear hg a0 hW0 HW0
    go_wp2_with fail
    refine (twin_any al cl xs _ HL0.out (by omega)).mono ?_
    rintro e w1 ⟨gt, rfl, hgt, hR1, hB1⟩
    have hgl := hR1.lt
    have hF1 : Facts w1 (some ⟨gt, 0, none⟩) xs := by
      have := (hR1.els fc_len).take xs.length
      rwa [List.take_left] at this
    have HF1 := Lib.hid hF1
    have HR1 := Lib.hid hR1
    have HB1 := Lib.hid hB1
    obtain ⟨b0, b1, -, -, -, -⟩ := HA.out w1 hB1
    have HGT := Lib.hid hgt
    clear hF1 hR1 hB1 a1 a2 a3 a4 a5
    go_wp2_with fail
    refine (viewsOfR_any (some ⟨gt, 0, none⟩) (xs.length + 2) xs ac cc cs at_ w1 HF1.out (HC0.out.ext HB1.out) (by omega) (by omega)).mono ?_
    rintro e w2 ⟨av, ys, rfl, hp2, hs2, hF2, hrow2, hB2⟩
    have hyl : ys.length ≤ 120 := by
      have h1 := hp2.length_eq
      have h2 := lastM_len (seenL xs cs at_)
      have h3 : (seenL xs cs at_).length ≤ xs.length := List.length_filter_le _ _
      have h4 : (lastL (seenL xs cs at_)).length = (lastM (seenL xs cs at_)).length := by simp
      omega
    have HP2 := Lib.hid hp2
    have HS2 := Lib.hid hs2
    have HF2 := Lib.hid hF2
    have HROW := Lib.hid hrow2
    have HB2 := Lib.hid (HB1.out.trans (hB2.mono HB1.out.size))
    have HR2 := Lib.hid (HR1.out.below hB2)
    have HFt2 := Lib.hid (HF1.out.ext hB2)
    have hs12 := hB2.size
    obtain ⟨d0, d1, -, -, -, -⟩ := HA.out w2 HB2.out
    clear hp2 hs2 hF2 hrow2 hB2 HF1 b0 b1
    go_wp2_with fail
    refine (refOf_any al cl xs ac cc cs at_ w2 (HL0.out.ext HB2.out) (HC0.out.ext HB2.out) (by omega) (by omega)).mono ?_
    rintro e w3 ⟨am, cm, rfl, hF3, hB3⟩
    have hone : refOf (xs.filter (seenC cs at_)) = ys := by
      have h1 := refOf_view (xs.filter (seenC cs at_))
      have h2 := HP2.out
      rw [seenL_eq] at h2
      exact view_one h1.1 h2 h1.2 HS2.out (lastL_spots _)
    rw [hone] at hF3 ⊢
    have HF3 := Lib.hid hF3
    have HB3 := Lib.hid (HB2.out.trans (hB3.mono HB2.out.size))
    have HB23 := Lib.hid hB3
    have HFt3 := Lib.hid (HFt2.out.ext hB3)
    obtain ⟨e0, e1, e2, e3, e4, e5⟩ := HA.out w3 HB3.out
    clear hF3 hB3 d0 d1 hone HFt2
    go_wp2_with fail
    refine (value_any (some ⟨gt, 0, none⟩) (xs.length + 2) xs low valid w3 HFt3.out (by omega)).mono ?_
    rintro e w4 ⟨rfl, hB4⟩
    have HB34 := Lib.hid hB4
    have HB4 := Lib.hid (HB3.out.trans (hB4.mono HB3.out.size))
    have HFt4 := Lib.hid (HFt3.out.ext hB4)
    obtain ⟨f0, f1, f2, f3, f4, f5⟩ := HA.out w4 HB4.out
    clear hB4 e0 e1 e2 e3 e4 e5 HFt3
    go_wp2_with fail
    refine (refValue_any al cl xs low valid w4 (HL0.out.ext HB4.out) (by omega)).mono ?_
    rintro e W ⟨rfl, hB5⟩
    have HBW := Lib.hid (HB4.out.trans (hB5.mono HB4.out.size))
    have HB2W := Lib.hid (HB23.out.trans ((HB34.out.trans (hB5.mono HB34.out.size)).mono HB23.out.size))
    have HB3W := Lib.hid (HB34.out.trans (hB5.mono HB34.out.size))
    have HFtW := Lib.hid (HFt4.out.ext hB5)
    have HLW := Lib.hid (HL0.out.ext HBW.out)
    have HCW := Lib.hid (HC0.out.ext HBW.out)
    have HVW := Lib.hid (HF2.out.ext HB2W.out)
    have HMW := Lib.hid (HF3.out.ext HB3W.out)
    clear hB5 f0 f1 f2 f3 f4 f5 HFt4 HF3
    have HAW := Lib.hid (show ∀ u, Below W.heap.size W u → u.cell? ⟨w.heap.size, 0, none⟩ = some (.slice ac cs.length cc) ∧ u.cell? ⟨w.heap.size, 1, none⟩ = some (.int .u64 at_) ∧ u.cell? ⟨w.heap.size, 2, none⟩ = some (.bool on) ∧ u.cell? ⟨w.heap.size, 3, none⟩ = some (.string low) ∧ u.cell? ⟨w.heap.size, 4, none⟩ = some (.string high) ∧ u.cell? ⟨w.heap.size, 5, none⟩ = some (.int .u32 valid) from fun u hu => HA.out u (HBW.out.trans (hu.mono HBW.out.size)))
    have HSF := Lib.hid (show ∀ u, Below W.heap.size W u → Calls Tryz.prog (11) #[.slice av ys.length ys.length, .slice am ys.length cm] u (fun e w' => e = .returned (.bool true) ∧ Below W.heap.size W w') from fun u hu => by
      refine (sameFacts_any av am ys.length cm ys u (HVW.out.ext hu) (HMW.out.ext hu) (by omega)).mono ?_
      rintro e w' ⟨rfl, k, rfl⟩
      exact ⟨rfl, below_drewN hu k⟩)
    have HSC := Lib.hid (show ∀ u, Below W.heap.size W u → Calls Tryz.prog (13) #[.slice (some ⟨gt, 0, none⟩) xs.length (xs.length + 2), .string low, .string high, .int .u32 valid] u (fun e w' => ∃ pa pn, e = .returned (.slice pa pn pn) ∧ (scanL xs low high valid (namedL (keysOf xs))).length = pn ∧ Els pc 2 w' pa (scanL xs low high valid (namedL (keysOf xs))) ∧ Below W.heap.size W w') from fun u hu => by
      refine (scan_any (some ⟨gt, 0, none⟩) (xs.length + 2) xs low high valid u (HFtW.out.ext hu) (by omega)).mono ?_
      rintro e w' ⟨pa, rfl, h1, -, h2⟩
      exact ⟨pa, _, rfl, rfl, h1, hu.trans (h2.mono hu.size)⟩)
    have HRS := Lib.hid (show ∀ u, Below W.heap.size W u → Calls Tryz.prog (14) #[.slice al xs.length cl, .string low, .string high, .int .u32 valid] u (fun e w' => ∃ qa qn qc, e = .returned (.slice qa qn qc) ∧ (scanL xs low high valid (namedL (keysOf xs))).length = qn ∧ Els pc 2 w' qa (scanL xs low high valid (namedL (keysOf xs))) ∧ Below u.heap.size u w' ∧ Below W.heap.size W w') from fun u hu => by
      refine (refScan_any al cl xs.length xs rfl low high valid u (HLW.out.ext hu) (by omega)).mono ?_
      rintro e w' ⟨qa, qn, qc, rfl, h0, h1, h2⟩
      exact ⟨qa, qn, qc, rfl, h0, h1, h2, hu.trans (h2.mono hu.size)⟩)
    have hsl : (scanL xs low high valid (namedL (keysOf xs))).length < 1000000 := by
      have h1 := scanL_len xs low high valid (namedL (keysOf xs))
      have h2 := namedL_len (keysOf xs)
      have h3 : (keysOf xs).length = xs.length := by simp [keysOf]
      omega
    have HSP := Lib.hid (show ∀ u pa qa c1 c2 n m, (scanL xs low high valid (namedL (keysOf xs))).length = n → (scanL xs low high valid (namedL (keysOf xs))).length = m → Els pc 2 u pa (scanL xs low high valid (namedL (keysOf xs))) → Els pc 2 u qa (scanL xs low high valid (namedL (keysOf xs))) → Below W.heap.size W u → Calls Tryz.prog (12) #[.slice pa n c1, .slice qa m c2] u (fun e w' => e = .returned (.bool true) ∧ Below W.heap.size W w') from fun u pa qa c1 c2 n m h1 h2 h3 h4 hu => by
      subst h1
      subst h2
      refine (SamePairs_any pa qa c1 c2 _ _ rfl u h3 h4 hsl).mono ?_
      rintro e w' ⟨rfl, k, rfl⟩
      exact ⟨rfl, below_drewN hu k⟩)
    have HHI := Lib.hid (show ∀ u, Below W.heap.size W u → Calls Tryz.prog (16) #[.slice (some ⟨gt, 0, none⟩) xs.length (xs.length + 2), .agg #[.slice ac cs.length cc, .int .u64 at_, .bool on], .string low] u (fun e w' => ∃ ha hn hs, e = .returned (.slice ha hn hn) ∧ hs.length = hn ∧ Els ec 4 w' ha hs ∧ Hid (hs.Perm ((newF low at_ (seenA xs cs)).1 ++ (lastM (oldF low at_ (seenA xs cs))).map (·.2)) ∧ hs.Pairwise (fun x y => ¬ LtF y x)) ∧ Below W.heap.size W w') from fun u hu => by
      refine (history_any (some ⟨gt, 0, none⟩) (xs.length + 2) xs ac cc cs at_ on low u (HFtW.out.ext hu) (HCW.out.ext hu) (by omega) (by omega) HLO.out).mono ?_
      rintro e w' ⟨ha, hs, rfl, h1, h2, h3, -, h4⟩
      exact ⟨ha, _, hs, rfl, rfl, h3, Lib.hid ⟨h1, h2⟩, hu.trans (h4.mono hu.size)⟩)
    have HRH := Lib.hid (show ∀ u hn hs, hs.length = hn → Hid (hs.Perm ((newF low at_ (seenA xs cs)).1 ++ (lastM (oldF low at_ (seenA xs cs))).map (·.2)) ∧ hs.Pairwise (fun x y => ¬ LtF y x)) → Below W.heap.size W u → Calls Tryz.prog (17) #[.slice al xs.length cl, .agg #[.slice ac cs.length cc, .int .u64 at_, .bool on], .string low] u (fun e w' => ∃ ra rc, e = .returned (.slice ra hn rc) ∧ Els ec 4 w' ra hs ∧ hn < 1000000 ∧ Below u.heap.size u w' ∧ Below W.heap.size W w') from fun u hn hs h0 h1 hu => by
      refine (refHistory_any al cl xs ac cc cs at_ on low u (HLW.out.ext hu) (HCW.out.ext hu) (by omega) (by omega)).mono ?_
      rintro e w' ⟨ra, rn, rc, out, rfl, g1, g2, g3, g4, g5⟩
      have g6 := hist_one h1.out.1 h1.out.2 g3 g4
      subst g6
      have g7 : out.length < 1000000 := by
        rw [g3.length_eq, List.length_append]
        have k1 := laterL_len at_ (mineL low cs xs)
        have k2 : (mineL low cs xs).length ≤ xs.length := List.length_filter_le _ _
        have k3 := refOf_len ((mineL low cs xs).filter (seenC cs at_))
        have k4 : ((mineL low cs xs).filter (seenC cs at_)).length ≤ (mineL low cs xs).length := List.length_filter_le _ _
        omega
      subst h0
      subst g1
      exact ⟨ra, rc, rfl, g2, g7, g5, hu.trans (g5.mono hu.size)⟩)
    have HSE := Lib.hid (show ∀ u pa qa c1 c2 n hs, hs.length = n → n < 1000000 → Els ec 4 u pa hs → Els ec 4 u qa hs → Below W.heap.size W u → Calls Tryz.prog (15) #[.slice pa n c1, .slice qa n c2] u (fun e w' => e = .returned (.bool true) ∧ Below W.heap.size W w') from fun u pa qa c1 c2 n hs h1 h2 h3 h4 hu => by
      refine (SameEntries_any pa qa c1 c2 n hs h1 u h3 h4 h2).mono ?_
      rintro e w' ⟨rfl, k, rfl⟩
      exact ⟨rfl, below_drewN hu k⟩)
    clear hsl
    generalize valueL low valid xs = r
    obtain ⟨rv, rb⟩ := r
    go_upto_region 9 with (fail)
    go_cut [105] (fun v wq => ∃ X : World, X = wq ∧ v = .bool false ∧ Hid (Below W.heap.size W X))
    case first =>
      go_wp2_with fail
      go_region_held3 (fun u => u.cell? ⟨w.heap.size, 0, none⟩ = some (.slice ac cs.length cc) ∧ u.cell? ⟨w.heap.size, 1, none⟩ = some (.int .u64 at_) ∧ u.cell? ⟨w.heap.size, 2, none⟩ = some (.bool on) ∧ u.cell? ⟨w.heap.size, 3, none⟩ = some (.string low) ∧ u.cell? ⟨w.heap.size, 4, none⟩ = some (.string high) ∧ u.cell? ⟨w.heap.size, 5, none⟩ = some (.int .u32 valid)) (first | exact HAW.out _ ((Below.refl _ _).drew) | exact HAW.out _ (by assumption))
        (first
        | (go_at_call 11; (with_reducible refine (HSF.out _ ((Below.refl _ _).drew)).mono ?_); rintro e u1 ⟨rfl, hb1⟩)
        | (go_at_call 13; (with_reducible refine (HSC.out _ hb1).mono ?_); rintro e u2 ⟨pa, pn, rfl, s1, s2, hb2⟩)
        | (go_at_call 14; (with_reducible refine (HRS.out _ hb2).mono ?_); rintro e u3 ⟨qa, qn, qc, rfl, s3, s4, s5, hb3⟩)
        | (go_at_call 12; (with_reducible refine (HSP.out _ _ _ _ _ _ _ s1 s3 (s2.ext s5) s4 hb3).mono ?_); rintro e u4 ⟨rfl, hb4⟩)
        | (go_at_call 16; (with_reducible refine (HHI.out _ hb4).mono ?_); rintro e u5 ⟨ha, hn, hs, rfl, t1, t2, t3, hb5⟩)
        | (go_at_call 17; (with_reducible refine (HRH.out _ _ _ t1 t3 hb5).mono ?_); rintro e u6 ⟨ra, rc, rfl, t4, t5, t6, hb6⟩)
        | (go_at_call 15; (with_reducible refine (HSE.out _ _ _ _ _ _ _ t1 t5 (t2.ext t6) t4 hb6).mono ?_); rintro e u7 ⟨rfl, hb7⟩))
      all_goals
        have HBX := Lib.hid hb7
        go_wp2
        go_meet
        exact ⟨_, rfl, rfl, HBX⟩
    case rest =>
    obtain ⟨X, rfl, rfl, HBX⟩ := hcut
    clear HAW HSF HSC HRS HSP HHI HRH HSE
    have HB2X := Lib.hid (show Below w2.heap.size w2 X from HB2W.out.trans (HBX.out.mono HB2W.out.size))
    have HB0X := Lib.hid (show Below W0.heap.size W0 X from HBW.out.trans (HBX.out.mono HBW.out.size))
    obtain ⟨Z, hZ⟩ : ∃ Z : World, Z = X.alloc (.cells #[.slice none 0 0] (45)) := ⟨_, rfl⟩
    have hbz : Z.heap[X.heap.size]? = some (.cells #[.slice none 0 0] (45) (0, 0)) := by rw [hZ]; exact blk_new_at rfl _
    have hXZ : Below X.heap.size X Z := by rw [hZ]; exact (Below.refl _ _).alloc (Nat.le_refl _) _
    have hZs : X.heap.size + 1 = Z.heap.size := by rw [hZ]; simp
    have HBK := Lib.hid (show BookIs Z X.heap.size Z.heap.size [] from ⟨⟨_, hbz, World.ownsRow_nil _ _ _ _⟩, by omega, Nat.le_refl _⟩)
    have HXZ := Lib.hid hXZ
    have HZS := Lib.hid hZs
    have hgt2 : gt < w2.heap.size := Nat.lt_of_lt_of_le hgl hs12
    have hX2 := HB2X.out.size
    clear hbz hXZ hZs
    go_wp2_with fail
    rw [← hZ]
    clear hZ
    refine (bookFacts_1 X.heap.size Z.heap.size [] (some ⟨gt, 0, none⟩) xs.length (xs.length + 2) Z HBK.out rfl).mono ?_
    rintro e w6 ⟨⟨v6, rfl⟩, hbk6, hB6⟩
    have HBK6 := Lib.hid hbk6
    have HB6 := Lib.hid (show Below X.heap.size X w6 from HXZ.out.trans hB6)
    have hs6 := HB6.out.size
    have HT6 := Lib.hid (show Facts w6 (some ⟨gt, 0, none⟩) (xs ++ [twinMk, twinMk]) from (HR2.out.same ((HB6.out.block gt (by omega)).trans (HB2X.out.block gt hgt2))).els fc_len)
    have HL6 := Lib.hid (show Facts w6 al xs from HL0.out.ext (HB0X.out.trans (HB6.out.mono HB0X.out.size)))
    clear hbk6 hB6 HBK
    go_wp2_with fail
    refine (left_any gt al cl xs w6 HT6.out HL6.out (by omega)).mono ?_
    rintro e w7 ⟨rfl, hB7⟩
    have HBK7 := Lib.hid (HBK6.out.below hB7)
    have HB7 := Lib.hid (show Below X.heap.size X w7 from HB6.out.trans (hB7.mono hs6))
    clear hB7 HBK6 HT6 HL6 HB6
    go_wp2_with fail
    refine (bookFacts_2 X.heap.size Z.heap.size _ av ys.length ys.length w7 HBK7.out rfl).mono ?_
    rintro e w8 ⟨⟨v8, rfl⟩, hbk8, hB8⟩
    have HBK8 := Lib.hid hbk8
    have HB8 := Lib.hid (show Below X.heap.size X w8 from HB7.out.trans hB8)
    have hs8 := HB8.out.size
    have h0X := HB0X.out.size
    have hw0 : w.heap.size ≤ W0.heap.size := HB0.out.size
    have hw01 := HB1.out.size
    have HSt : Hid (Sh w.heap.size X.heap.size w8 (some ⟨gt, 0, none⟩) xs.length (xs.length + 2) (xs ++ [twinMk, twinMk])) := Lib.hid (.inr ⟨gt, xs.length + 2, rfl, by have := HGT.out; omega, by omega, HR2.out.same ((HB8.out.block gt (by omega)).trans (HB2X.out.block gt hgt2)), by omega, by simp, by simp; omega⟩)
    have HSk : Hid (Sh w.heap.size X.heap.size w8 av ys.length ys.length ys) := Lib.hid (by
      rcases HROW.out with ⟨rfl, rfl⟩ | ⟨g, cap, rfl, h1, h2⟩
      · exact .inl ⟨rfl, rfl, rfl, rfl⟩
      · have hgl2 := h2.lt
        exact .inr ⟨g, cap, rfl, by omega, by omega, h2.same ((HB8.out.block g (by omega)).trans (HB2X.out.block g hgl2)), Nat.le_refl _, Nat.le_refl _, by omega⟩)
    have HNE : Hid (∀ g, blkOf (some ⟨gt, 0, none⟩) = some g → blkOf av ≠ some g) := Lib.hid (by
      intro g hg hg2
      cases hg
      rcases HROW.out with ⟨rfl, _⟩ | ⟨g', cap, rfl, h1, h2⟩
      · cases hg2
      · simp only [blkOf, Option.map_some, Option.some.injEq] at hg2
        omega)
    have HBA := Lib.hid (show Below w.heap.size w w8 from HB0.out.trans ((HB0X.out.trans (HB8.out.mono h0X)).mono hw0))
    clear hbk8 hB8 HBK7 HB7
    go_wp2_with fail
    refine (apart_any w.heap.size X.heap.size Z.heap.size (some ⟨gt, 0, none⟩) xs.length (xs.length + 2) mk1 (xs ++ [twinMk, twinMk]) av ys.length ys.length mk2 ys w8 HBK8.out HSt.out HSk.out HNE.out (by omega)).mono ?_
    rintro e w9 ⟨rfl, hB9⟩
    have HB9 := Lib.hid (HBA.out.trans hB9)
    clear hB9
    go_wp2_with fail
    refine (livesV_any _).mono ?_
    rintro e w10 ⟨rfl, hB10⟩
    have HB10 := Lib.hid (HB9.out.trans (hB10.mono HB9.out.size))
    clear hB10
    go_wp2
    go_ret
    exact ⟨rfl, HB10.out⟩
end Go.Proofs.YtenocakpipppiaaGreatDoor

namespace Go.Proofs.YtenocakpipppiaaGreatDoor
open Go.RowKit Go.Shelf Go.Herb

theorem viewsOf_row (al : Option Addr) (cl : Nat) (xs : List Fc) (ac : Option Addr) (cc : Nat) (cs : List Lk) (at_ : Int) (on : Bool) (low high : ByteArray) (valid : Int) (w : World) (hL : SlIn fc 6 w al cl xs) (hC : SlIn lc 2 w ac cc cs) (_ : (Lit.int .u64 at_).wf = true) (hlo : low.size ≤ maxLen) (_ : high.size ≤ maxLen) (_ : (Lit.int .u32 valid).wf = true) :
    Calls Tryz.prog (3) #[.slice al xs.length cl, .agg #[.slice ac cs.length cc, .int .u64 at_, .bool on, .string low, .string high, .int .u32 valid]] w fun e w' => e = .returned (.bool true) ∧ Below w.heap.size w w' :=
  viewsOfL_any al cl xs ac cc cs at_ on low high valid w hL hC hlo
end Go.Proofs.YtenocakpipppiaaGreatDoor
