/- views.Diff: its walk. Condition: fewer than 1000 facts. -/
import Derived.Test.YtenocakpipppiaaM3
namespace Go.Proofs.Ytenocakpipppiaa
open Go.RowKit Go.Shelf Go.Herb

theorem clipS_any (a : Option Addr) (cap n : Nat) (w : World) (hn : a = none → n = 0 ∧ cap = 0) (hl : n < 1000000) (hle : n ≤ cap) (hm : cap ≤ maxLen) :
    Calls Try.prog 33 #[.slice a n cap] w fun e w' => e = .returned (.slice a n n) ∧ w = w' := by
  cases a with
  | none =>
    obtain ⟨rfl, rfl⟩ := hn rfl
    clear hn
    go_enter Try.func33, Try.ntmps33
    go_wp2
    go_ret
    exact ⟨rfl, rfl⟩
  | some ad =>
    clear hn
    unfold maxLen at hm
    go_enter Try.func33, Try.ntmps33
    go_wp2
    go_ret
    exact ⟨rfl, rfl⟩

def DiffPost (ds : List Str) (w : World) (e : Ending) (w' : World) : Prop := ∃ a, e = .returned (.slice a ds.length ds.length) ∧ Strs w' a ds ∧ (a = none → ds = []) ∧ Below w.heap.size w w'

/-- What 'same' is when these entries have come. -/
def sameAcc (l m done : List (Int × Sd)) : Bool := decide (l.length = m.length) && done.all (fun p => decide (getL m p.1 = some p.2))
theorem sameAcc_snoc (l m done : List (Int × Sd)) (p : Int × Sd) : sameAcc l m (done ++ [p]) = (sameAcc l m done && decide (getL m p.1 = some p.2)) := by
  unfold sameAcc
  rw [List.all_append, Bool.and_assoc]
  simp

set_option maxRecDepth 100000 in
set_option maxHeartbeats 4000000 in
theorem diff_any (a1 a2 : Option Addr) (c1 c2 : Nat) (xs ys : List Fc) (w : World) (h1 : Facts w a1 xs) (h2 : Facts w a2 ys) (hx : xs.length < 1000) (hy : ys.length < 1000) :
    Calls Try.prog 19 #[.slice a1 xs.length c1, .slice a2 ys.length c2] w (DiffPost (diffL xs ys) w) := by
  have H1 := Lib.hid h1
  have H2 := Lib.hid h2
  have HX := Lib.hid hx
  have HY := Lib.hid hy
  unfold diffL
  obtain ⟨ks, hks⟩ : ∃ ks, ks = namedL (keysOf xs ++ keysOf ys) := ⟨_, rfl⟩
  rw [← hks]
  have HKS := Lib.hid hks
  clear h1 h2 hx hy hks
  go_enter Try.func19, Try.ntmps19
  go_wp2_with fail
  refine (spoken_any a1 c1 xs w H1.out HX.out).mono ?_
  rintro e w1 ⟨mx, rfl, hSx, hB1⟩
  have HSX := Lib.hid hSx
  have HB1 := Lib.hid hB1
  clear hSx hB1
  go_wp2_with fail
  refine (spoken_any a2 c2 ys w1 (H2.out.ext HB1.out) HY.out).mono ?_
  rintro e w2 ⟨my, rfl, hSy, hB2⟩
  have HSY := Lib.hid hSy
  have HSX2 := Lib.hid (HSX.out.below hB2)
  have HB2 := Lib.hid (HB1.out.trans (hB2.mono HB1.out.size))
  clear hSy hB2 HB1 HSX
  obtain ⟨W, hW⟩ : ∃ W : World, W = w2.alloc (.cells #[.slice a1 xs.length c1, .slice a2 ys.length c2] 22) := ⟨_, rfl⟩
  have hBW : Below w2.heap.size w2 W := by rw [hW]; exact (Below.refl _ _).alloc (Nat.le_refl _) _
  have hW0 : W.heap[w2.heap.size]? = some (.cells #[.slice a1 xs.length c1, .slice a2 ys.length c2] 22 (0, 0)) := by rw [hW]; exact blk_new_at rfl _
  have hE : Els slc 1 W (some ⟨w2.heap.size, 0, none⟩) [((a1, c1, xs) : Sl), (a2, c2, ys)] := by
    refine ⟨fun i hi => ⟨w2.heap.size, 0, rfl, lt_of_blk hW0, fun j c hj => ?_⟩⟩
    rw [cell_of_blk hW0]
    have hj0 : j = 0 := by
      rcases Nat.eq_zero_or_pos j with h | h
      · exact h
      · rw [List.getElem?_eq_none (by simp; omega)] at hj; cases hj
    subst hj0
    have : i = 0 ∨ i = 1 := by simp at hi; omega
    rcases this with rfl | rfl
    · simpa using hj
    · simpa using hj
  have hcon := named_any (some ⟨w2.heap.size, 0, none⟩) 2 [((a1, c1, xs) : Sl), (a2, c2, ys)] W hE (by
    intro l hl
    rcases List.mem_cons.1 hl with rfl | hl
    · exact (H1.out.ext HB2.out).ext hBW
    · rw [List.mem_singleton.1 hl]; exact (H2.out.ext HB2.out).ext hBW) (by simp) (by simp [keysAll, keysOf]; have := HX.out; have := HY.out; omega)
  have hk1 : keysAll [((a1, c1, xs) : Sl), (a2, c2, ys)] = keysOf xs ++ keysOf ys := by simp [keysAll]
  unfold NamedPost at hcon
  rw [hk1, ← HKS.out] at hcon
  rw [hW] at hcon
  have HCON := Lib.hid hcon
  have hsW : W.heap.size = w2.heap.size + 1 := by rw [hW]; simp
  clear hW0 hE hcon hk1
  go_wp2_with fail
  refine (HCON.out).mono ?_
  rintro e w3 ⟨v3, rfl, hO3, hB3⟩
  rw [← hW] at hO3 hB3
  obtain ⟨ka, kc, rfl, hkc, hK3⟩ := hO3.els
  have hkm : ∀ k ∈ ks, (⟨k.toArray⟩ : ByteArray).size ≤ maxLen := by
    intro k hk
    rw [HKS.out, namedL_mem, List.mem_append, mem_keysOf, mem_keysOf] at hk
    rcases hk with ⟨x, _, rfl⟩ | ⟨x, _, rfl⟩
    · rw [mk_bytes]; exact x.wk
    · rw [mk_bytes]; exact x.wk
  have hkl : ks.length < 1000000 := by
    rw [HKS.out]
    have h1 := namedL_len (keysOf xs ++ keysOf ys)
    have h2 : (keysOf xs ++ keysOf ys).length = xs.length + ys.length := by simp [keysOf]
    have := HX.out
    have := HY.out
    omega
  have hbW3 : Below w2.heap.size w2 w3 := hBW.trans (hB3.mono (by omega))
  have HK := Lib.hid hK3
  have HKL := Lib.hid hkl
  have HKM := Lib.hid hkm
  have HB3 := Lib.hid (HB2.out.trans (hbW3.mono HB2.out.size))
  have HSX3 := Lib.hid (HSX2.out.below hbW3)
  have HSY3 := Lib.hid (HSY.out.below hbW3)
  clear hO3 hB3 hK3 hkl hkm hkc HCON hW hBW hbW3 hsW HSX2 HSY HB2 H1 H2
  go_wp2_with fail
  go_loopg [4, 23] ks.length (fun gk ov iv wr => ∃ i : Nat, i + gk = ks.length ∧ iv = .int .i64 i ∧ OwnS w3.heap.size wr ov (diffOf xs ys (ks.take i)) ∧ Below w3.heap.size w3 wr)
  case atStart => exact ⟨0, by omega, rfl, World.ownsRow_nil _ _ _ _, Below.refl _ _⟩
  case round =>
    obtain ⟨i, hi, rfl, hown, hBi⟩ := hrel
    have HBI := Lib.hid hBi
    have HOWN := Lib.hid hown
    have hsi := hBi.size
    have hkl := HKL.out
    clear hBi hown
    by_cases hilt : i < ks.length
    · obtain ⟨b, o, rfl, hlb, hcell⟩ := HK.out.get i hilt
      have hsn := diffOf_succ xs ys ks i hilt
      have hi0 : (0 : Int) ≤ (i : Int) := by omega
      have hi1 : (i : Int) < (ks.length : Int) := by omega
      have hkm := HKM.out ks[i] (List.getElem_mem hilt)
      obtain ⟨k, hk⟩ : ∃ k : Str, k = ks[i] := ⟨_, rfl⟩
      rw [← hk] at hsn hcell hkm
      obtain ⟨kb, hkb⟩ : ∃ kb : ByteArray, kb = ⟨k.toArray⟩ := ⟨_, rfl⟩
      have hkt : k = kb.toList := by rw [hkb]; exact (bytes_mk k).symm
      have c0 := (HBI.out.cell (p := ⟨b, _, none⟩) hlb).trans (hcell 0 _ rfl)
      simp only [Nat.add_zero, Nat.mul_one] at c0
      rw [show encStr k = .string kb from by rw [hkb]] at c0
      have hsk : sameK xs ys k = sameB (innL kb xs) (innL kb ys) := by rw [hkb]; rfl
      rw [← hkb] at hkm
      rw [hsk] at hsn
      obtain ⟨vx, hvx, hlx⟩ := (HSX3.out.below HBI.out).look kb hkm
      obtain ⟨vy, hvy, hly⟩ := (HSY3.out.below HBI.out).look kb hkm
      have hlx0 := hlx wr (Below.refl _ _)
      have hly0 := hly wr (Below.refl _ _)
      have hlenx := hvx.len
      have hleny := hvy.len
      have hwf : ∀ p ∈ innL kb xs, (Lit.int .u32 p.1).wf = true := innL_wf
      have hllx := innL_len kb xs
      have hlly := innL_len kb ys
      have hxb := HX.out
      have hyb := HY.out
      generalize innL kb xs = lx at *
      generalize innL kb ys = ly at *
      have HSN := Lib.hid hsn
      have HLY := Lib.hid hly
      have HVY := Lib.hid hvy
      have HKT := Lib.hid hkt
      have hlb' : w3.heap.size ≤ wr.heap.size := hsi
      clear hk hcell hsk hkb hsn hkm hly hvy hkt hlx
      rcases hvx with ⟨rfl, rfl⟩ | ⟨bx, rfl, hmx⟩
      · have hrg := run_range_nilMap (P := Try.prog) wr (75) _ _ Try.underlying75
        have hnx := run_next_nilMap (P := Try.prog) wr (0) 0 0 #[]
        simp only [List.length_nil] at hlenx
        by_cases hz : ly.length = 0
        · have hfb : sameB [] ly = true := by simp [sameB, hz]
          have HFB := Lib.hid hfb
          rw [hz] at hleny
          clear hfb hz
          go_wp2_with fail
          refine wp_loop_rounds 1 ?_
          rw [rounds_succ]
          go_wp2_with fail
          go_roundg (gk - 1)
          case measure => omega
          case rel => exact ⟨i + 1, by omega, by go_num, by rw [HSN.out, HFB.out]; simpa using (OwnS.below HOWN.out ((Below.refl _ _).alloc (Nat.le_refl _) _)), HBI.out.alloc hsi _⟩
        · have hfb : sameB [] ly = false := by simp [sameB]; omega
          have HFB := Lib.hid hfb
          have z1 : decide ((0 : Int) = (ly.length : Int)) = false := decide_eq_false (by omega)
          have z2 : ((0 : Int) == (ly.length : Int)) = false := beq_eq_false_iff_ne.2 (by omega)
          have z3 : decide (0 = ly.length) = false := decide_eq_false (by omega)
          have z4 : (0 == ly.length) = false := beq_eq_false_iff_ne.2 (by omega)
          have z5 : decide (ly.length = 0) = false := decide_eq_false (by omega)
          clear hfb hz
          obtain ⟨u, hu⟩ : ∃ u : World, u = wr.alloc (.mapIter none 0 #[] 0) := ⟨_, rfl⟩
          rw [← hu] at hrg hnx
          have HBU : Hid (Below w3.heap.size w3 u) := Lib.hid (by rw [hu]; exact HBI.out.alloc hsi _)
          have HOU : Hid (OwnS w3.heap.size u u4 (diffOf xs ys (ks.take i))) := Lib.hid (by rw [hu]; exact OwnS.below HOWN.out ((Below.refl _ _).alloc (Nat.le_refl _) _))
          clear hu
          go_wp2_with fail
          refine wp_loop_rounds 1 ?_
          rw [rounds_succ]
          obtain ⟨X, hX⟩ : ∃ X : World, X = u.alloc (.cells #[.string kb] 9) := ⟨_, rfl⟩
          have hBX : Below u.heap.size u X := by rw [hX]; exact (Below.refl _ _).alloc (Nat.le_refl _) _
          have hX1 : X.heap[u.heap.size]? = some (.cells #[.string kb] 9 (0, 0)) := by rw [hX]; exact blk_new_at rfl _
          have hsu : w3.heap.size ≤ u.heap.size := HBU.out.size
          have hxl : (diffOf xs ys (ks.take i)).length < 1000000 := by
            have h1 : (diffOf xs ys (ks.take i)).length ≤ (ks.take i).length := List.length_filter_le _ _
            have h2 := List.length_take_le i ks
            omega
          obtain ⟨v', w4, hrun, hO4, hg4⟩ := run_append_str X w3.heap.size u4 _ u.heap.size kb (OwnS.below HOU.out hBX) hX1 hxl (by have := hBX.size; omega) (54)
          have hrow : ∀ k', u4.ownBlock = some k' → w3.heap.size ≤ k' := fun k' hk' => (World.ownsRow.lt HOU.out k' hk').1
          have HB4 := Lib.hid ((HBU.out.trans (hBX.mono hsu)).grown hg4 (Nat.le_trans hsu hBX.size) hrow)
          rw [hX] at hrun
          have HRUN := Lib.hid hrun
          have HO4 := Lib.hid hO4
          clear hX hBX hX1 hrun hO4 hg4 hrow hxl
          go_wp2_with (at_builtin; refine Lib.wpList_append_run _ rfl _ _ _ _ rfl _ _ rfl rfl _ _ (HRUN.out) ?_)
          go_roundg (gk - 1)
          case measure => omega
          case rel => exact ⟨i + 1, by omega, by go_num, by rw [HSN.out, HFB.out, HKT.out]; simpa using HO4.out, HB4.out⟩
      · obtain ⟨w4, hrg, hit, hB4, hs4⟩ := hmx.range Try.underlying75
        obtain ⟨le, hle⟩ : ∃ le, le = decide (lx.length = ly.length) := ⟨_, rfl⟩
        have z2 : ((lx.length : Int) == (ly.length : Int)) = le := by rw [hle, Bool.eq_iff_iff, beq_iff_eq, decide_eq_true_eq]; omega
        have z3 : (lx.length == ly.length) = le := by rw [hle, Bool.eq_iff_iff, beq_iff_eq, decide_eq_true_eq]
        have z1 : decide ((lx.length : Int) = (ly.length : Int)) = le := by rw [hle, Bool.eq_iff_iff, decide_eq_true_eq, decide_eq_true_eq]; omega
        have z4 : decide (lx.length = ly.length) = le := hle.symm
        have HIT := Lib.hid hit
        have HB4 := Lib.hid hB4
        have HS4 := Lib.hid hs4
        have HWF := Lib.hid hwf
        have HLE := Lib.hid hle
        clear hit hB4 hs4 hmx hwf hle
        go_wp2_with fail
        obtain ⟨wo, rfl⟩ : ∃ wo : World, wo = wr := ⟨_, rfl⟩
        obtain ⟨g2, rfl⟩ : ∃ g : Nat, g = gk := ⟨_, rfl⟩
        clear z1 z2 z3 z4 hrg hlx0 hly0 hlenx hleny c0
        go_loopg [9] lx.length (fun gk sv wr => ∃ (done todo : List (Int × Sd)) (bb : Bool), todo.length = gk ∧ Hid (lx.Perm (done ++ todo)) ∧ IterIs Try.prog (31) eV eSd wr bx wo.heap.size lx todo ∧ sv = .bool bb ∧ Hid (bb = sameAcc lx ly done) ∧ Below wo.heap.size wo wr)
        case atStart => exact ⟨[], lx, le, rfl, Lib.hid (List.Perm.refl _), HIT.out, rfl, Lib.hid (by rw [HLE.out]; simp [sameAcc]), HB4.out⟩
        case round =>
          obtain ⟨done, todo, bb, htl, HPM, hit, rfl, HBB, hBw⟩ := hrel
          have HBW := Lib.hid hBw
          have hsw := hBw.size
          clear hBw
          rcases hit.next 0 with ⟨ht0, hnx⟩ | ⟨p, todo', w5, htp, hpm2, hnx, hit2, hg2, hs2, hen⟩
          · subst ht0
            have hfb : sameB lx ly = bb := by
              have := HPM.out
              rw [List.append_nil] at this
              rw [HBB.out]
              unfold sameB sameAcc
              rw [all_perm this]
            have HFB := Lib.hid hfb
            obtain ⟨u, hu⟩ : ∃ u : World, u = wr := ⟨_, rfl⟩
            have HBU : Hid (Below w3.heap.size w3 u) := Lib.hid (by rw [hu]; exact HBI.out.trans (HBW.out.mono hsi))
            have HOU : Hid (OwnS w3.heap.size u u4 (diffOf xs ys (ks.take i))) := Lib.hid (by rw [hu]; exact OwnS.below HOWN.out HBW.out)
            rw [← hu]
            rw [← hu] at hnx
            clear hu hit hfb HPM HBB HBW hsw
            cases bb with
            | true =>
              go_wp2_with fail
              go_roundg (g2 - 1)
              case measure => omega
              case rel => exact ⟨i + 1, by omega, by go_num, by rw [HSN.out, HFB.out]; simpa using HOU.out, HBU.out⟩
            | false =>
              obtain ⟨X, hX⟩ : ∃ X : World, X = u.alloc (.cells #[.string kb] 9) := ⟨_, rfl⟩
              have hBX : Below u.heap.size u X := by rw [hX]; exact (Below.refl _ _).alloc (Nat.le_refl _) _
              have hX1 : X.heap[u.heap.size]? = some (.cells #[.string kb] 9 (0, 0)) := by rw [hX]; exact blk_new_at rfl _
              have hsu : w3.heap.size ≤ u.heap.size := HBU.out.size
              have hxl : (diffOf xs ys (ks.take i)).length < 1000000 := by
                have h1 : (diffOf xs ys (ks.take i)).length ≤ (ks.take i).length := List.length_filter_le _ _
                have h2 := List.length_take_le i ks
                omega
              obtain ⟨v', w4, hrun, hO4, hg4⟩ := run_append_str X w3.heap.size u4 _ u.heap.size kb (OwnS.below HOU.out hBX) hX1 hxl (by have := hBX.size; omega) (54)
              have hrow : ∀ k', u4.ownBlock = some k' → w3.heap.size ≤ k' := fun k' hk' => (World.ownsRow.lt HOU.out k' hk').1
              have HB4 := Lib.hid ((HBU.out.trans (hBX.mono hsu)).grown hg4 (Nat.le_trans hsu hBX.size) hrow)
              rw [hX] at hrun
              have HRUN := Lib.hid hrun
              have HO4 := Lib.hid hO4
              clear hX hBX hX1 hrun hO4 hg4 hrow hxl
              go_wp2_with (at_builtin; refine Lib.wpList_append_run _ rfl _ _ _ _ rfl _ _ rfl rfl _ _ (HRUN.out) ?_)
              go_roundg (g2 - 1)
              case measure => omega
              case rel => exact ⟨i + 1, by omega, by go_num, by rw [HSN.out, HFB.out, HKT.out]; simpa using HO4.out, HB4.out⟩
          · have hp1 := HWF.out p hpm2
            have hB5 : Below wo.heap.size wo w5 := HBW.out.grown hg2 hsw (fun k e => by cases e; exact Nat.le_refl _)
            obtain ⟨w6, hw6⟩ : ∃ w6 : World, w6 = w5.alloc (.cells #[.int .u8 p.2.1, .string p.2.2] 77) := ⟨_, rfl⟩
            have hB6 : Below wo.heap.size wo w6 := by rw [hw6]; exact hB5.alloc hB5.size _
            have hlk := HLY.out w6 hB6
            have hlv := (HVY.out.below hB6).look p.1 hp1
            have hsn := sameAcc_snoc lx ly done p
            rw [hw6] at hlk hlv
            have hpm' : lx.Perm ((done ++ [p]) ++ todo') := by
              refine HPM.out.trans ?_
              rw [List.append_assoc]
              exact htp.append_left _
            have htl' : todo.length = todo'.length + 1 := by have := htp.length_eq; simpa using this
            have hbl := hit2.map.lt
            have hrl := hit2.lt
            have HP' := Lib.hid hpm'
            have HIT2 := Lib.hid hit2
            have HB5 := Lib.hid hB5
            have HSN2 := Lib.hid hsn
            clear hB5 hB6 hw6 hpm' hit2 hit hg2 htp hpm2 hp1 HPM hsn
            cases hgv : getL ly p.1 with
            | none =>
              rw [hgv] at hlv
              simp only [tupV] at hlv
              have HGV := Lib.hid hgv
              clear hgv
              have hfin : Hid (false = sameAcc lx ly (done ++ [p])) := Lib.hid (by rw [HSN2.out, HGV.out]; simp)
              cases bb with
              | true =>
                go_wp2
                go_roundg (gk - 1)
                case measure => omega
                case rel => exact ⟨done ++ [p], todo', false, by omega, HP', HIT2.out.same ((Below.heap_alloc _ _ _ (by simp; omega)).trans (Below.heap_alloc _ _ _ hbl)) ((Below.heap_alloc _ _ _ (by simp; omega)).trans (Below.heap_alloc _ _ _ hrl)), rfl, hfin, (HB5.out.alloc HB5.out.size _).alloc (by have := HB5.out.size; simp; omega) _⟩
              | false =>
                go_wp2
                go_roundg (gk - 1)
                case measure => omega
                case rel => exact ⟨done ++ [p], todo', false, by omega, HP', HIT2.out.same ((Below.heap_alloc _ _ _ (by simp; omega)).trans (Below.heap_alloc _ _ _ hbl)) ((Below.heap_alloc _ _ _ (by simp; omega)).trans (Below.heap_alloc _ _ _ hrl)), rfl, hfin, (HB5.out.alloc HB5.out.size _).alloc (by have := HB5.out.size; simp; omega) _⟩
            | some sd =>
              rw [hgv] at hlv
              simp only [tupV] at hlv
              have HGV := Lib.hid hgv
              clear hgv
              cases bb with
              | true =>
                have hfin : Hid (decide (sd = p.2) = sameAcc lx ly (done ++ [p])) := Lib.hid (by rw [HSN2.out, HGV.out, ← HBB.out]; simp)
                have heq := run_eqlS sd p.2
                have hgt := guardS
                obtain ⟨dd, hdd⟩ : ∃ dd, dd = decide (sd = p.2) := ⟨_, rfl⟩
                rw [← hdd] at heq hfin
                clear hdd
                go_wp2
                go_roundg (gk - 1)
                case measure => omega
                case rel => exact ⟨done ++ [p], todo', dd, by omega, HP', HIT2.out.same ((Below.heap_alloc _ _ _ (by simp; omega)).trans (Below.heap_alloc _ _ _ hbl)) ((Below.heap_alloc _ _ _ (by simp; omega)).trans (Below.heap_alloc _ _ _ hrl)), rfl, hfin, (HB5.out.alloc HB5.out.size _).alloc (by have := HB5.out.size; simp; omega) _⟩
              | false =>
                have hfin : Hid (false = sameAcc lx ly (done ++ [p])) := Lib.hid (by rw [HSN2.out, ← HBB.out]; simp)
                go_wp2
                go_roundg (gk - 1)
                case measure => omega
                case rel => exact ⟨done ++ [p], todo', false, by omega, HP', HIT2.out.same ((Below.heap_alloc _ _ _ (by simp; omega)).trans (Below.heap_alloc _ _ _ hbl)) ((Below.heap_alloc _ _ _ (by simp; omega)).trans (Below.heap_alloc _ _ _ hrl)), rfl, hfin, (HB5.out.alloc HB5.out.size _).alloc (by have := HB5.out.size; simp; omega) _⟩
    · have hie : i = ks.length := by omega
      subst hie
      have hown := HOWN.out
      rw [List.take_length] at hown
      have hpl : (diffOf xs ys ks).length ≤ ks.length := List.length_filter_le _ _
      have hmaxv : ∀ a c n, u4 = .slice a n c → c ≤ maxLen ∧ (a = none → n = 0 ∧ c = 0) := by
        intro a c n he
        rcases hown with ⟨_, ⟨h1, _⟩ | ⟨g, cap', cur, hv, _, _, _, hm, _⟩⟩
        · rw [h1] at he; cases he; exact ⟨Nat.zero_le _, fun _ => ⟨rfl, rfl⟩⟩
        · rw [hv] at he; cases he; exact ⟨hm, fun h => by cases h⟩
      obtain ⟨pa, pcap, rfl, hle, hE⟩ := hown.els
      obtain ⟨hm1, hm2⟩ := hmaxv _ _ _ rfl
      have hnone : pa = none → diffOf xs ys ks = [] := fun h => List.length_eq_zero_iff.1 (hm2 h).1
      generalize diffOf xs ys ks = ps at *
      have HE := Lib.hid hE
      have hpn : ps.length < 1000000 := by omega
      have hcl := clipS_any pa pcap ps.length wr hm2 hpn hle hm1
      have HCL := Lib.hid hcl
      have HN := Lib.hid hnone
      clear hown hpl hE hcl hm1 hm2 hle hmaxv hnone HOWN
      go_wp2_with (go_at_call 33; refine (HCL.out).mono ?_; rintro e w4 ⟨rfl, rfl⟩)
      go_ret
      exact ⟨pa, rfl, HE.out, HN.out, HB3.out.trans (HBI.out.mono HB3.out.size)⟩
end Go.Proofs.Ytenocakpipppiaa
