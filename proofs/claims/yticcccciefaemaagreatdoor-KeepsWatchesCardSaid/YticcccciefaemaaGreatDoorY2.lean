/- vectors: Points. Condition: at most 41 lines. · law16.samePoints, sameVectors, where they are the same. No condition. · law16.VectorsAgain's walk. No condition. · ref16: at, of, above. No condition. · ref16: with. Condition: fewer than 100000 points. -/
import Derived.Test.YticcccciefaemaaGreatDoorOX
namespace Go.Herb
theorem ddP_len (xs : Bh) (k : Nat) : (ddP xs k).length ≤ k := by
  have := List.length_filterMap_le (fun i => if i = 0 ∨ ¬ xs.getD (i - 1) (0, 0) = xs.getD i (0, 0) then some (xs.getD i (0, 0)) else none) (List.range k)
  rw [List.length_range] at this
  exact this
open Classical in
/-- The base of two lines. -/
noncomputable def baseQ (x y : Bh) : Int × Int := if h : ∃ q, IsBase x y q then h.choose else (0, 0)
theorem baseQ_of {x y : Bh} {q : Int × Int} (h : IsBase x y q) : baseQ x y = q := by
  unfold baseQ
  rw [dif_pos ⟨q, h⟩]
  exact (Exists.choose_spec (⟨q, h⟩ : ∃ q, IsBase x y q)).uniq h
noncomputable def rowB (L : Vs) (i : Nat) : Bh := (L.drop (i + 1)).map (fun r => baseQ (L.getD i (0, [])).2 r.2)
/-- The bases of all pairs of lines, of the first i lines. -/
noncomputable def pairsB (L : Vs) (i : Nat) : Bh := (List.range i).flatMap (rowB L)
theorem pairsB_succ (L : Vs) (i : Nat) : pairsB L (i + 1) = pairsB L i ++ rowB L i := by
  unfold pairsB
  rw [List.range_succ, List.flatMap_append]
  simp
theorem rowB_len (L : Vs) (i : Nat) : (rowB L i).length = L.length - (i + 1) := by simp [rowB]
theorem rowB_take {L : Vs} {i j : Nat} {x y : Int × Bh} {q : Int × Int} (hx : L[i]? = some x) (hy : L[i + 1 + j]? = some y) (h : IsBase x.2 y.2 q) : (rowB L i).take (j + 1) = (rowB L i).take j ++ [q] := by
  have h1 : (rowB L i)[j]? = some q := by
    unfold rowB
    rw [List.getElem?_map, List.getElem?_drop, hy, List.getD_eq_getElem?_getD, hx]
    simp only [Option.map_some, Option.getD_some, baseQ_of h]
  obtain ⟨h2, h3⟩ := List.getElem?_eq_some_iff.1 h1
  rw [List.take_succ_eq_append_getElem h2, h3]
theorem pairsB_len {L : Vs} (h : L.length ≤ 41) : ∀ i, i ≤ 41 → (pairsB L i).length ≤ i * 41
  | 0, _ => by simp [pairsB]
  | i + 1, hi => by
    have := pairsB_len h i (by omega)
    rw [pairsB_succ, List.length_append, rowB_len]
    omega
end Go.Herb
namespace Go.Proofs.YticcccciefaemaaGreatDoor.Vx
open Go.RowKit Go.Shelf Go.Herb Go.Sort

/-- The points, rising, without doubles. -/
def PtsOf (L : Vs) (ps : Bh) : Prop := ∃ ys : Bh, ys.Perm (pairsB L L.length) ∧ ys.Pairwise (fun a b => ¬ LtP b a) ∧ ps = ddP ys ys.length
theorem PtsOf.uniq {L : Vs} {ps qs : Bh} (h : PtsOf L ps) (k : PtsOf L qs) : ps = qs := by
  obtain ⟨ys, h1, h2, rfl⟩ := h
  obtain ⟨zs, k1, k2, rfl⟩ := k
  have : ys = zs := (h1.trans k1.symm).eq_of_pairwise (fun a b _ _ h3 h4 => by
    unfold LtP at h3 h4
    exact Prod.ext (by omega) (by omega)) h2 k2
  rw [this]
def PointsPost (L : Vs) (w : World) (e : Ending) (w' : World) : Prop :=
  ∃ (va : Option Addr) (vcap : Nat) (ps : Bh), e = .returned (.slice va ps.length ps.length) ∧ PtsOf L ps ∧ OwnP w.heap.size w' (.slice va ps.length vcap) ps ∧ Below w.heap.size w w'

def SortedC (n : Nat) (ks : List Int) (w : World) (e : Ending) (w' : World) : Prop := ∃ a cap ys, e = .returned (.slice a n cap) ∧ ys.length = n ∧ ys.Perm ks ∧ ys.Pairwise (· ≤ ·) ∧ Els nu 1 w' a ys ∧ n ≤ cap ∧ Below w.heap.size w w'
set_option maxHeartbeats 1000000 in
theorem sortedC_any (bl b : Nat) (m : List (Int × Nat)) (N : Nat) (hNk : m.length = N) (hm : N < 1000000) (w : World) (hV : w.heap[bl]? = some (.cells #[.map (some b)] (45) (0, 0))) (hM : MapIs Tryz.prog (52) eU eM w b m) :
    Calls Tryz.prog (44) #[.func (.func (69)) #[] #[.pointer (some ⟨bl, 0, none⟩)]] w (SortedC N (m.map (·.1)) w) := by
  have H := Lib.hid (collect_any (gf := (69)) rfl trivial (enters_of Tryz.func69 (by kernel_rfl) rfl) _ m.length (by omega) w (fun W hW => keysM_stops bl b m W ((hW.block _ (lt_of_blk hV)).trans hV) (hM.same (hW.block _ hM.lt))))
  clear hV hM
  go_enter Tryz.func44, Tryz.ntmps44
  go_wp2_with fail
  refine (H.out).mono ?_
  rintro e w1 ⟨v, ys, rfl, h1, h2, h3⟩
  have hyl : ys.length = N := h1.length_eq.trans (by simpa using hNk)
  rcases row_of_owns h2 with ⟨rfl, rfl⟩ | ⟨g, cap, rfl, hg2, hR⟩
  · go_wp2_with fail
    refine (sortNone_any w1).mono ?_
    rintro e w2 ⟨rfl, rfl⟩
    have HE := Lib.hid (show SortedC N (m.map (·.1)) w (.returned (.slice none 0 0)) w1 from ⟨none, 0, [], by rw [← hyl]; rfl, hyl, h1, .nil, Els.nil _ _ _ _, by simp at hyl; omega, h3⟩)
    clear h1 h2 h3
    go_wp2
    go_ret
    exact HE.out
  · have HS := Lib.hid (sortU_any g cap ys.length ys rfl w1 hR (by omega))
    have H1 := Lib.hid h1
    have H3 := Lib.hid h3
    have HYL := Lib.hid hyl
    have HLE := Lib.hid hR.le
    clear h1 h2 h3 hR hyl
    go_wp2_with fail
    refine (HS.out).mono ?_
    rintro e w2 ⟨rfl, zs, hz1, hz2, hz3, hz4⟩
    have HE := Lib.hid (show SortedC N (m.map (·.1)) w (.returned (.slice (some ⟨g, 0, none⟩) ys.length cap)) w2 from ⟨some ⟨g, 0, none⟩, cap, zs, by rw [HYL.out], by rw [hz1.length_eq, HYL.out], hz1.trans H1.out, hz2, hz3.els nu_len, by rw [← HYL.out]; exact HLE.out, H3.out.grown hz4 H3.out.size (fun k e => by cases e; exact hg2)⟩)
    clear hz1 hz2 hz3 hz4 HS
    go_wp2
    go_ret
    exact HE.out
theorem els_drop {w : World} {b o : Nat} {ks : List Int} (h : Els nu 1 w (some ⟨b, o, none⟩) ks) (k : Nat) : Els nu 1 w (some ⟨b, o + k * 1, none⟩) (ks.drop k) :=
  ⟨fun i hi => by
    obtain ⟨b', o', ha, hlt, hc⟩ := h.get (k + i) (by simp at hi; omega)
    injection ha with ha
    cases ha
    refine ⟨b, o + k * 1, rfl, hlt, fun j c hj => ?_⟩
    rw [List.getElem_drop] at hj
    have := hc j c hj
    rwa [show o + k * 1 + i * 1 + j = o + (k + i) * 1 + j by omega]⟩
/-- 's[k+1:]'. -/
theorem slice_hiU {w : World} {ad : Addr} {kc k n : Nat} {ks : List Int} (hE : Els nu 1 w (some ad) ks) (hn : ks.length = n) (hle : n ≤ kc) (hk : k + 1 ≤ n) :
    ∃ a2, (∀ W, (Instr.slice (106) (.slice (some ad) n kc) (some (.int .i64 ((k : Int) + 1))) none none).run Tryz.prog W = .ok (.slice a2 (n - (k + 1)) (kc - (k + 1))) W) ∧ Els nu 1 w a2 (ks.drop (k + 1)) := by
  refine ⟨if kc = k + 1 then some ad else (some ad).map (·.add ((k + 1) * 1)), fun W => ?_, ?_⟩
  · have := run_slice_l (P := Tryz.prog) W (106) (some ad) n kc (by kernel_rfl) .i64 ((k : Int) + 1) (by omega) (by omega)
    rw [this]
    rw [show Tryz.prog.elem (106) = (52) from by kernel_rfl, Tryz.sizeOf52, show ((k : Int) + 1).toNat = k + 1 by omega]
    simp [sliced, Result.andThen]
  · by_cases h0 : kc = k + 1
    · have : ks.drop (k + 1) = [] := List.drop_eq_nil_of_le (by omega)
      rw [this]
      exact Els.nil _ _ _ _
    · rw [if_neg h0, Option.map_some]
      by_cases hz : ks.drop (k + 1) = []
      · rw [hz]; exact Els.nil _ _ _ _
      · obtain ⟨b, o, ha, _⟩ := hE.get 0 (by omega)
        injection ha with ha
        subst ha
        rw [addr_add]
        exact els_drop hE (k + 1)

set_option maxRecDepth 100000 in
set_option maxHeartbeats 2000000 in
theorem points_any (p mb : Nat) (M : List (Int × Nat)) (L : Vs) (w : World) (h : VecIs w p mb M L) (hG : GoodV L) (hS : Small L) (h40 : L.length ≤ 41) :
    Calls Tryz.prog (25) #[.pointer (some ⟨p, 0, none⟩)] w (PointsPost L w) := by
  have H := Lib.hid h
  have HG := Lib.hid hG
  have HS := Lib.hid hS
  have H40 := Lib.hid h40
  have c0 := cell_of_blk h.blk 0
  simp at c0
  have hML : M.length = L.length := h.len
  have HML := Lib.hid hML
  clear h hG hS hML
  go_enter Tryz.func25, Tryz.ntmps25
  go_wp2_with fail
  refine (there_any p mb w H.out.blk).mono ?_
  rintro e w' ⟨rfl, rfl⟩
  go_wp2_with fail
  refine (keysM_any mb w).mono ?_
  rintro e w1 ⟨bl, rfl, hb1, hbl⟩
  have HB1 := Lib.hid hb1
  have HBL := Lib.hid hbl
  clear hb1 hbl c0
  go_wp2_with fail
  refine (sortedC_any bl mb M L.length HML.out (by omega) w1 HBL.out (H.out.below HB1.out).out).mono ?_
  rintro e w2 ⟨ka, kc, ks, rfl, hkl, hkp, hks, hke, hkn, hb2⟩
  have hkk := sorted_keys HG.out.srt (hkp.trans H.out.keys) hks
  have HB2 := Lib.hid (HB1.out.trans (hb2.mono HB1.out.size))
  have HKE := Lib.hid hke
  have HKK := Lib.hid hkk
  have HKL := Lib.hid hkl
  have HKN := Lib.hid hkn
  clear hkl hkp hks hke hkn hb2 hkk HB1 HBL
  go_wp2_with fail
  go_loopg [2, 21] L.length (fun gk ov iv wr => ∃ (k : Nat), k + gk = L.length ∧ iv = .int .i64 k ∧ OwnP w2.heap.size wr ov (pairsB L k) ∧ Below w2.heap.size w2 wr)
  case atStart => exact ⟨0, by omega, rfl, World.ownsRow_nil _ _ _ _, Below.refl _ _⟩
  case round =>
    obtain ⟨k, hk, rfl, hown, hbk⟩ := hrel
    have HBK := Lib.hid hbk
    have hsk := hbk.size
    have HOWN := Lib.hid hown
    clear hbk hown
    by_cases hlt : k < L.length
    · obtain ⟨b, o, rfl, hlb, hcell⟩ := HKE.out.get k (by have := HKL.out; omega)
      obtain ⟨a2, hsl, hE2⟩ := slice_hiU (k := k) HKE.out HKL.out HKN.out (by omega)
      have hkx : ks[k]'(by have := HKL.out; omega) = L[k].1 := by
        have := HKK.out
        subst this
        simp
      have hx0 := (HBK.out.cell (p := ⟨b, _, none⟩) hlb).trans (hcell 0 _ rfl)
      rw [hkx] at hx0
      simp only [Nat.add_zero, Nat.mul_one] at hx0
      have hk0 : (0 : Int) ≤ (k : Int) := by omega
      have hk1 : (k : Int) < (L.length : Int) := by omega
      have hw1 : IntKind.i64.wrap ((k : Int) + 1) = (k : Int) + 1 := IntWalk.i64_in _ (by omega)
      have HX := Lib.hid (List.getElem?_eq_getElem hlt)
      have HE2 := Lib.hid hE2
      have HSL := Lib.hid hsl
      clear hcell hkx hE2 hsl
      generalize L[k] = x at *
      obtain ⟨xl, xb⟩ := x
      have hsl := HSL.out
      clear HSL
      go_wp2_with fail
      clear hx0 hk0 hk1 hw1 hsl
      obtain ⟨g1, rfl⟩ : ∃ g1 : Nat, g1 = gk := ⟨_, rfl⟩
      obtain ⟨wo, rfl⟩ : ∃ wo : World, wo = wr := ⟨_, rfl⟩
      have hgx : getL L xl = some xb := (getL_some HG.out.srt.nodup).2 (List.mem_of_getElem? HX.out)
      have HGX := Lib.hid hgx
      clear hgx
      go_loopg [2, 31] (L.length - (k + 1)) (fun gk ov jv wr => ∃ j : Nat, j + gk = L.length - (k + 1) ∧ jv = .int .i64 j ∧ Hid (OwnP w2.heap.size wr ov (pairsB L k ++ (rowB L k).take j)) ∧ Hid (Below w2.heap.size w2 wr))
      case atStart => exact ⟨0, by omega, rfl, Lib.hid (by simpa using HOWN.out), HBK⟩
      case round =>
        obtain ⟨j, hj, rfl, HO, HBJ⟩ := hrel
        have hsj := HBJ.out.size
        by_cases hjl : j < L.length - (k + 1)
        · obtain ⟨b', o', rfl, hlb', hcell⟩ := HE2.out.get j (by have := HKL.out; simp; omega)
          have hkl2 : k + 1 + j < L.length := by omega
          have hjx : (ks.drop (k + 1))[j]'(by have := HKL.out; simp; omega) = L[k + 1 + j].1 := by
            have := HKK.out
            subst this
            simp
          have hx0 := (HBJ.out.cell (p := ⟨b', _, none⟩) hlb').trans (hcell 0 _ rfl)
          rw [hjx] at hx0
          simp only [Nat.add_zero, Nat.mul_one] at hx0
          have hj0 : (0 : Int) ≤ (j : Int) := by omega
          have hj1 : (j : Int) < ((L.length - (k + 1) : Nat) : Int) := by omega
          have HY := Lib.hid (List.getElem?_eq_getElem hkl2)
          clear hcell hjx
          generalize L[k + 1 + j] = y at *
          obtain ⟨yl, yb⟩ := y
          have hgy : getL L yl = some yb := (getL_some HG.out.srt.nodup).2 (List.mem_of_getElem? HY.out)
          have HCA := Lib.hid ((base_call H.out HG.out HS.out HGX.out hgy).out wr (HB2.out.trans (HBJ.out.mono HB2.out.size)))
          have hlp : (pairsB L k).length ≤ 1681 := Nat.le_trans (pairsB_len H40.out k (by have := H40.out; omega)) (by have := H40.out; omega)
          have hlr : (rowB L k).length ≤ 41 := by rw [rowB_len]; have := H40.out; omega
          have HYL := Lib.hid (show (pairsB L k ++ (rowB L k).take j).length < 1000000 by simp; omega)
          clear hgy hlp hlr hkl2
          obtain ⟨zs, hzs⟩ : ∃ zs, zs = pairsB L k ++ (rowB L k).take j := ⟨_, rfl⟩
          rw [← hzs] at HO HYL
          have HZS := Lib.hid hzs
          clear hzs
          obtain ⟨oa, oc, rfl, hn1, hn2, hn3, hn4⟩ := own_parts HO.out
          clear hn1 hn2 hn3 hn4
          go_wp2_with fail
          refine (HCA.out).mono ?_
          rintro e w5 ⟨q, rfl, hB, hb5⟩
          clear hx0 hj0 hj1
          obtain ⟨X, hX⟩ : ∃ X : World, X = w5.alloc (.cells #[.int .u64 q.1, .int .u64 q.2] (72)) := ⟨_, rfl⟩
          have hXs : X.heap.size = w5.heap.size + 1 := by rw [hX]; simp
          obtain ⟨Z, hZ⟩ : ∃ Z : World, Z = X.alloc (.cells #[.int .u64 q.1, .int .u64 q.2] (72)) := ⟨_, rfl⟩
          have hZb : Below wr.heap.size wr Z := by
            rw [hZ, hX]
            have h5 := hb5.size
            exact (hb5.alloc h5 _).alloc (by simp; omega) _
          have hZx : Z.heap[X.heap.size]? = some (.cells #[.int .u64 q.1, .int .u64 q.2] (72) (0, 0)) := by rw [hZ]; exact blk_new_at rfl _
          obtain ⟨v', w9, hrun, hO9, hg9⟩ := run_append_p Z w2.heap.size _ _ X.heap.size q (ownsRow_below HO.out hZb (Nat.le_refl _)) hZx HYL.out (by have := hZb.size; omega) (66)
          have hbn : Below w2.heap.size w2 w9 := (HBJ.out.trans (hZb.mono hsj)).grown hg9 (by have := hZb.size; omega) (fun k e => (World.ownsRow.lt HO.out k e).1)
          have HO9 := Lib.hid (show OwnP w2.heap.size w9 v' (pairsB L k ++ (rowB L k).take (j + 1)) by rw [rowB_take HX.out HY.out hB, ← List.append_assoc, ← HZS.out]; exact hO9)
          have HBN := Lib.hid hbn
          rw [hXs, hZ, hX] at hrun
          have HRUN := Lib.hid hrun
          clear hX hXs hZ hZb hZx hrun hO9 hg9 hbn hB hb5 HO
          go_wp2_with (at_builtin; refine Lib.wpList_append_run _ rfl _ _ _ _ rfl _ _ rfl rfl _ _ (HRUN.out) ?_)
          go_roundg (gk - 1)
          case measure => omega
          case rel => exact ⟨j + 1, by omega, by go_num, HO9, HBN⟩
        · have hje : j = L.length - (k + 1) := by omega
          have HOE := Lib.hid (show OwnP w2.heap.size wr u2 (pairsB L (k + 1)) by
            have := HO.out
            rw [List.take_of_length_le (by rw [rowB_len]; omega)] at this
            rw [pairsB_succ]; exact this)
          clear hje
          go_wp2_with fail
          go_roundg (g1 - 1)
          case measure => omega
          case rel => exact ⟨k + 1, by omega, by go_num, HOE.out, HBJ.out⟩
    · have hke : k = L.length := by omega
      subst hke
      have hlp : (pairsB L L.length).length ≤ 1681 := Nat.le_trans (pairsB_len H40.out L.length H40.out) (by have := H40.out; omega)
      have HB := Lib.hid (HB2.out.trans (HBK.out.mono HB2.out.size))
      rcases row_of_owns HOWN.out with ⟨rfl, hnil⟩ | ⟨g, cap, rfl, hg, hR⟩
      · have HE := Lib.hid (show PointsPost L w (.returned (.slice none 0 0)) wr from ⟨none, 0, [], rfl, ⟨[], by rw [hnil], .nil, rfl⟩, World.ownsRow_nil _ _ _ _, HB.out⟩)
        clear hlp hnil
        go_wp2_with fail
        refine (sortFunc_none none 0 _ wr).mono ?_
        rintro e w' ⟨rfl, rfl⟩
        go_wp2_with fail
        refine (compact_none _).mono ?_
        rintro e w'' ⟨rfl, rfl⟩
        go_wp2_with fail
        refine (clipP_any none 0 0 _ (fun _ => ⟨rfl, rfl⟩) (by omega) (Nat.le_refl _) (Nat.zero_le _)).mono ?_
        rintro e w'' ⟨rfl, rfl⟩
        go_wp2
        go_ret
        exact HE.out
      · have HSO := Lib.hid (sortP_any g cap _ wr hR (by omega))
        have HG2 := Lib.hid hg
        have HLP := Lib.hid hlp
        have HMX := Lib.hid hR.max
        obtain ⟨pn, hpn⟩ : ∃ pn, pn = (pairsB L L.length).length := ⟨_, rfl⟩
        rw [← hpn] at HSO HLP ⊢
        have HPN := Lib.hid hpn
        clear hlp hg hR hpn
        go_wp2_with fail
        refine (HSO.out).mono ?_
        rintro e w5 ⟨rfl, ys, hy1, hy2, hy3, hy4⟩
        have hyl : ys.length = pn := by rw [HPN.out]; exact hy1.length_eq
        have HCO := Lib.hid (compactP_any g cap ys pn hyl w5 hy3 (by have := HLP.out; omega))
        have HY := Lib.hid (And.intro hy1 hy2)
        have HB5 := Lib.hid (HB.out.grown hy4 HB.out.size (fun k e => by cases e; exact Nat.le_trans HB2.out.size HG2.out))
        have HYL := Lib.hid hyl
        clear hy1 hy2 hy3 hy4 hyl
        go_wp2_with fail
        refine (HCO.out).mono ?_
        rintro e w6 ⟨rfl, hR6, hg6⟩
        have hdl : (ddP ys ys.length).length < 1000000 := by
          have := ddP_len ys ys.length
          have h2 := HYL.out
          have h3 := HLP.out
          omega
        have HCL := Lib.hid (clipP_any (some ⟨g, 0, none⟩) cap (ddP ys ys.length).length w6 (fun h => by cases h) hdl hR6.le HMX.out)
        have HE := Lib.hid (show PointsPost L w (.returned (.slice (some ⟨g, 0, none⟩) (ddP ys ys.length).length (ddP ys ys.length).length)) w6 from ⟨_, cap, _, rfl, ⟨ys, HY.out.1, HY.out.2, rfl⟩, hR6.owns pc_len (Nat.le_trans HB2.out.size HG2.out), HB5.out.grown hg6 HB5.out.size (fun k e => by cases e; exact Nat.le_trans HB2.out.size HG2.out)⟩)
        clear hdl hR6 hg6
        go_wp2_with fail
        refine (HCL.out).mono ?_
        rintro e w' ⟨rfl, rfl⟩
        go_wp2
        go_ret
        exact HE.out
end Go.Proofs.YticcccciefaemaaGreatDoor.Vx

namespace Go.Herb
theorem drewN_two (w : World) (n m : Nat) : ∃ k, (w.drewN n).drewN m = w.drewN k := ⟨n + m, by simp [World.drewN, Nat.add_assoc]⟩
theorem els_drewN {α : Type} {enc : α → List Value} {s : Nat} {w : World} {a : Option Addr} {xs : List α} (h : Els enc s w a xs) (n : Nat) : Els enc s (w.drewN n) a xs := ⟨h.get⟩
end Go.Herb
namespace Go.Proofs.YticcccciefaemaaGreatDoor.Vx
open Go.RowKit Go.Shelf Go.Herb

end Go.Proofs.YticcccciefaemaaGreatDoor.Vx

namespace Go.Proofs.YticcccciefaemaaGreatDoor.Vx
open Go.RowKit Go.Shelf Go.Herb

theorem below_drN {B : Nat} {a w : World} (h : Below B a w) (q : Nat) : Below B a (w.drewN q) := ⟨h.os, h.tape, h.output, h.size, h.block⟩
theorem vin_ext {w w' : World} {a : Option Addr} {xs : List Vc} (h : VIn w a xs) (hb : Below w.heap.size w w') : VIn w' a xs := ⟨h.els.ext hb, fun x hx => (h.inn x hx).ext hb, h.wf, h.len, h.lens⟩
theorem good_ok {L : Vs} (h : GoodV L) : okV L := ⟨h.srt, fun p hp => ⟨(h.inn p hp).srt, fun q hq => by have := (h.inn p hp).pos q hq; omega⟩⟩
/-- What All answers, as it lies. -/
structure AllAt (B : Nat) (w : World) (va : Option Addr) (xs : List Vc) (L : Vs) : Prop where
  len : xs.length = L.length
  vs : vsOf xs = L
  own : ∃ vcap, OwnV B w (.slice va xs.length vcap) xs
  at_ : ∀ x ∈ xs, VcAt B w x ∧ ∀ r, va = some ⟨r, 0, none⟩ → x.a ≠ some ⟨r, 0, none⟩
theorem AllAt.vin {B : Nat} {w : World} {va : Option Addr} {xs : List Vc} {L : Vs} (h : AllAt B w va xs L) (hG : GoodV L) (hS : Small L) : VIn w va xs := by
  obtain ⟨vcap, ho⟩ := h.own
  exact vin_of h.vs ho (fun x hx => (h.at_ x hx).1) hG hS
theorem ofN_any (a : Option Addr) (cap : Nat) (xs : List Vc) (L : Vs) (hL : vsOf xs = L) (hG : GoodV L) (w : World) (h : VIn w a xs) :
    Calls Tryz.prog (6) #[.slice a L.length cap] w fun e w' => ∃ p mb M, e = .returned (.tuple #[.pointer (some ⟨p, 0, none⟩), .int .i64 0]) ∧ VecNew w.heap.size w' p mb M L ∧ Below w.heap.size w w' := by
  subst hL
  rw [vsOf_len]
  refine (of_any a cap xs w h).mono ?_
  rintro e w' ⟨v, er, rfl, hb, ⟨rfl, _, p, mb, M, rfl, hv⟩ | ⟨_, hn, _⟩⟩
  · exact ⟨p, mb, M, rfl, hv, hb⟩
  · exact absurd (good_ok hG) hn

/-- What the writes into the rows of points leave. -/
structure Fr (xs : List Vc) (W wr : World) : Prop where
  hb : Below 0 W wr
  blk : ∀ b, (∀ x ∈ xs, x.a ≠ some ⟨b, 0, none⟩) → wr.heap[b]? = W.heap[b]?
  rows : ∀ x ∈ xs, ∀ g, x.a = some ⟨g, 0, none⟩ → ∃ cur, wr.heap[g]? = some (.cells cur (72) (0, 0)) ∧ x.ps.length * 2 ≤ cur.size
theorem Fr.set {xs : List Vc} {W wr : World} (h : Fr xs W wr) {x : Vc} (hx : x ∈ xs) {g : Nat} (hg : x.a = some ⟨g, 0, none⟩) (o : Nat) (v : Value) : Fr xs W (wr.setCell ⟨g, o, none⟩ v) := by
  refine ⟨⟨h.hb.os, h.hb.tape, h.hb.output, by simpa [World.setCell] using h.hb.size, fun b hb => absurd hb (Nat.not_lt_zero b)⟩, fun b hb => ?_, fun y hy g2 hg2 => ?_⟩
  · rw [Below.heap_setCell wr ⟨g, o, none⟩ v b (fun e => hb x hx (by rw [hg, e]))]
    exact h.blk b hb
  · obtain ⟨cur, h1, h2⟩ := h.rows y hy g2 hg2
    by_cases e : g2 = g
    · subst e
      exact ⟨_, blk_setCell h1 v, by simpa using h2⟩
    · exact ⟨cur, blk_setCell_other h1 e v, h2⟩
theorem Fr.start {B : Nat} {w W : World} {va : Option Addr} {xs : List Vc} {L : Vs} (h : AllAt B w va xs L) (hb : Below w.heap.size w W) : Fr xs W W := by
  refine ⟨Below.refl _ _, fun _ _ => rfl, fun x hx g hg => ?_⟩
  obtain ⟨cap, ho⟩ := (h.at_ x hx).1.own
  rcases row_of_owns ho with ⟨h1, _⟩ | ⟨g', cp, h1, _, hR⟩
  · rw [hg] at h1; cases h1
  · rw [hg] at h1
    cases h1
    obtain ⟨cur, hc, hsz, _⟩ := hR.blk
    exact ⟨cur, (hb.block _ (lt_of_blk hc)).trans hc, by rw [hsz]; exact Nat.mul_le_mul_right 2 hR.le⟩
theorem VcAt.lie {B : Nat} {w : World} {x : Vc} (h : VcAt B w x) {g : Nat} (hg : x.a = some ⟨g, 0, none⟩) : B ≤ g ∧ g < w.heap.size := by
  obtain ⟨cap, ho⟩ := h.own
  exact World.ownsRow.lt ho g (by rw [hg]; rfl)
theorem VcAt.some {B : Nat} {w : World} {x : Vc} (h : VcAt B w x) (h0 : 0 < x.ps.length) : ∃ g, x.a = some ⟨g, 0, none⟩ := by
  obtain ⟨cap, ho⟩ := h.own
  rcases row_of_owns ho with ⟨_, h1⟩ | ⟨g', cp, h1, _, _⟩
  · rw [h1] at h0; simp at h0
  · exact ⟨g', by injection h1⟩

end Go.Proofs.YticcccciefaemaaGreatDoor.Vx

namespace Go.Herb
theorem getL_step {β : Type} {L : List (Int × β)} {i : Nat} {k : Int} {x : Int × β} (h : getL (L.take i) k = none) (hx : L[i]? = some x) : getL (L.take (i + 1)) k = if x.1 = k then some x.2 else none := by
  obtain ⟨hi, rfl⟩ := List.getElem?_eq_some_iff.1 hx
  rw [List.take_succ_eq_append_getElem hi]
  unfold getL at h ⊢
  rw [List.find?_append]
  rw [Option.map_eq_none_iff] at h
  rw [h, Option.none_or]
  by_cases e : L[i].1 = k <;> simp [e]
theorem getL_first {β : Type} {L : List (Int × β)} {i : Nat} {k : Int} {x : Int × β} (h : getL (L.take i) k = none) (hx : L[i]? = some x) (e : x.1 = k) : getL L k = some x.2 := by
  have h1 := getL_step h hx
  rw [if_pos e] at h1
  have h2 : L = L.take (i + 1) ++ L.drop (i + 1) := (List.take_append_drop _ _).symm
  rw [h2]
  unfold getL at h1 ⊢
  rw [List.find?_append]
  cases hf : (L.take (i + 1)).find? (fun p => decide (p.1 = k)) with
  | none => rw [hf] at h1; simp at h1
  | some y => rw [hf] at h1; simpa using h1
end Go.Herb
namespace Go.Proofs.YticcccciefaemaaGreatDoor.Vx
open Go.RowKit Go.Shelf Go.Herb

/-- The reference's vectors, as they lie. -/
structure RefIs (w : World) (p : Nat) (la : Option Addr) (lc : Nat) (xs : List Vc) (L : Vs) : Prop where
  blk : w.heap[p]? = some (.cells #[.slice la xs.length lc] (83) (0, 0))
  inn : VIn w la xs
  vs : vsOf xs = L
theorem RefIs.below {w w' : World} {p : Nat} {la : Option Addr} {lc : Nat} {xs : List Vc} {L : Vs} (h : RefIs w p la lc xs L) (hb : Below w.heap.size w w') : RefIs w' p la lc xs L := ⟨blk_below h.blk hb (lt_of_blk h.blk), vin_ext h.inn hb, h.vs⟩

def AtPost (xs : List Vc) (L : Vs) (line : Int) (w : World) (e : Ending) (w' : World) : Prop :=
  w' = w ∧ ((∃ (i : Nat) (x : Vc), e = .returned (.int .i64 i) ∧ xs[i]? = some x ∧ x.line = line ∧ getL L line = some x.ps) ∨ (e = .returned (.int .i64 (-1)) ∧ getL L line = none))
theorem at_any (p : Nat) (la : Option Addr) (lc : Nat) (xs : List Vc) (L : Vs) (line : Int) (w : World) (h : RefIs w p la lc xs L) :
    Calls Tryz.prog (73) #[.pointer (some ⟨p, 0, none⟩), .int .u64 line] w (AtPost xs L line w) := by
  have H := Lib.hid h
  have c0 := cell_of_blk h.blk 0
  simp at c0
  have hml := h.inn.len
  unfold maxLen at hml
  obtain ⟨n, hn⟩ : ∃ n, n = xs.length := ⟨_, rfl⟩
  rw [← hn] at c0 hml
  have HN := Lib.hid hn
  clear h hn
  go_enter Tryz.func73, Tryz.ntmps73
  go_wp2_with fail
  go_loopg [5] n (fun gk iv wr => ∃ i : Nat, i + gk = n ∧ iv = .int .i64 i ∧ Hid (getL (L.take i) line = none) ∧ wr = w)
  case atStart => exact ⟨0, by omega, rfl, Lib.hid rfl, rfl⟩
  case round =>
    obtain ⟨i, hi, rfl, HL, rfl⟩ := hrel
    by_cases hlt : i < n
    · have hil : i < xs.length := by have := HN.out; omega
      obtain ⟨b, o, rfl, hlb, hc⟩ := H.out.inn.els.get i hil
      have x0 := hc 0 _ rfl
      simp only [Nat.add_zero] at x0
      have HX := Lib.hid (List.getElem?_eq_getElem hil)
      have HLX := Lib.hid (show L[i]? = some (xs[i].line, xs[i].ps) by rw [← H.out.vs]; unfold vsOf; rw [List.getElem?_map, HX.out]; rfl)
      clear hc
      generalize xs[i] = x at *
      obtain ⟨xl, xa, xc, xp⟩ := x
      simp only at x0 HLX
      have hk0 : (0 : Int) ≤ (i : Int) := by omega
      have hk1 : (i : Int) < (n : Int) := by omega
      by_cases he : xl = line
      · have HE := Lib.hid (show AtPost xs L line wr (.returned (.int .i64 i)) wr from ⟨rfl, .inl ⟨i, _, rfl, HX.out, he, getL_first HL.out HLX.out he⟩⟩)
        go_wp2_with fail
        go_ret
        exact HE.out
      · have HS := Lib.hid (show getL (L.take (i + 1)) line = none by rw [getL_step HL.out HLX.out, if_neg he])
        go_wp2_with fail
        go_roundg (gk - 1)
        case measure => omega
        case rel => exact ⟨i + 1, by omega, by go_num, HS, rfl⟩
    · have HE := Lib.hid (show AtPost xs L line wr (.returned (.int .i64 (-1))) wr from ⟨rfl, .inr ⟨rfl, by
        have h1 := HL.out
        rwa [List.take_of_length_le (by rw [← H.out.vs, vsOf_len]; have := HN.out; omega)] at h1⟩⟩)
      go_wp2_with fail
      go_ret
      exact HE.out
theorem refOf_any (a : Option Addr) (cap n : Nat) (b : Bh) (line : Int) (w : World) (h : Pts w a b) (hn : b.length = n) (hm : n ≤ maxLen) :
    Calls Tryz.prog (74) #[.slice a n cap, .int .u64 line] w fun e w' => e = .returned (.int .u64 (g0 b line)) ∧ w' = w := by
  have H := Lib.hid h
  have HN := Lib.hid hn
  unfold maxLen at hm
  clear h hn
  go_enter Tryz.func74, Tryz.ntmps74
  go_wp2_with fail
  go_loopg [5] n (fun gk iv wr => ∃ i : Nat, i + gk = n ∧ iv = .int .i64 i ∧ Hid (getL (b.take i) line = none) ∧ wr = w)
  case atStart => exact ⟨0, by omega, rfl, Lib.hid rfl, rfl⟩
  case round =>
    obtain ⟨i, hi, rfl, HL, rfl⟩ := hrel
    by_cases hlt : i < n
    · have hil : i < b.length := by have := HN.out; omega
      obtain ⟨b', o, rfl, hlb, hc⟩ := H.out.get i hil
      have x0 := hc 0 _ rfl
      have x1 := hc 1 _ rfl
      simp only [Nat.add_zero] at x0 x1
      have HX := Lib.hid (List.getElem?_eq_getElem hil)
      clear hc
      generalize b[i] = x at *
      obtain ⟨xl, xs⟩ := x
      simp only at x0 x1
      have hk0 : (0 : Int) ≤ (i : Int) := by omega
      have hk1 : (i : Int) < (n : Int) := by omega
      by_cases he : xl = line
      · have HE := Lib.hid (g0_of_some (getL_first HL.out HX.out he))
        go_wp2_with fail
        go_ret
        exact ⟨by rw [HE.out]; first | done | rfl, rfl⟩
      · have HS := Lib.hid (show getL (b.take (i + 1)) line = none by rw [getL_step HL.out HX.out, if_neg he])
        go_wp2_with fail
        go_roundg (gk - 1)
        case measure => omega
        case rel => exact ⟨i + 1, by omega, by go_num, HS, rfl⟩
    · have HE := Lib.hid (g0_of_none (show getL b line = none by
        have h1 := HL.out
        rwa [List.take_of_length_le (by have := HN.out; omega)] at h1))
      go_wp2_with fail
      go_ret
      exact ⟨by rw [HE.out]; first | done | rfl, rfl⟩
end Go.Proofs.YticcccciefaemaaGreatDoor.Vx

namespace Go.Herb
theorem putS_end {b : Bh} {k s : Int} (h : ∀ q ∈ b, q.1 < k) : putS b k s = b ++ [(k, s)] := by
  unfold putS
  rw [List.filter_eq_self.2 (fun q hq => decide_eq_true (h q hq)), List.filter_eq_nil_iff.2 (fun q hq => by have := h q hq; simp; omega)]
theorem putS_same_snoc {b : Bh} {k s : Int} {x : Int × Int} (h : ∀ q ∈ b, q.1 < k) (hx : x.1 = k) : putS (b ++ [x]) k s = b ++ [(k, s)] := by
  unfold putS
  have h1 : b.filter (fun q => decide (q.1 < k)) = b := List.filter_eq_self.2 (fun q hq => decide_eq_true (h q hq))
  have h2 : b.filter (fun q => decide (k < q.1)) = [] := List.filter_eq_nil_iff.2 (fun q hq => by have := h q hq; simp; omega)
  rw [List.filter_append, List.filter_append, h1, h2]
  simp [hx]
theorem putS_gt_snoc {b : Bh} {k s : Int} {x : Int × Int} (hx : k < x.1) : putS (b ++ [x]) k s = putS b k s ++ [x] := by
  unfold putS
  rw [List.filter_append, List.filter_append]
  have : ¬ x.1 < k := by omega
  simp [hx, this]
/-- What 'with' has put down of the first i. -/
def WithSt (b : Bh) (k s : Int) (i : Nat) (put : Bool) (out : Bh) : Prop :=
  (put = false ∧ (∀ q ∈ b.take i, q.1 < k) ∧ out = b.take i) ∨ (put = true ∧ out = putS (b.take i) k s ∧ ∃ q ∈ b.take i, k ≤ q.1)
theorem WithSt.step {b : Bh} {k s : Int} {i : Nat} {put : Bool} {out : Bh} (h : WithSt b k s i put out) (hb : SrtK b) {x : Int × Int} (hx : b[i]? = some x) :
    (put = true → k < x.1 ∧ WithSt b k s (i + 1) true (out ++ [x])) ∧ (put = false → x.1 < k → WithSt b k s (i + 1) false (out ++ [x])) ∧
    (put = false → x.1 = k → WithSt b k s (i + 1) true (out ++ [(k, s)])) ∧ (put = false → k < x.1 → WithSt b k s (i + 1) true (out ++ [(k, s)] ++ [x])) := by
  obtain ⟨hi, rfl⟩ := List.getElem?_eq_some_iff.1 hx
  have ht := List.take_succ_eq_append_getElem hi
  unfold WithSt
  rw [ht]
  rcases h with ⟨rfl, h1, rfl⟩ | ⟨rfl, rfl, q, hq, hk⟩
  · refine ⟨fun h => (by cases h), fun _ hlt => .inl ⟨rfl, fun q hq => ?_, rfl⟩, fun _ he => .inr ⟨rfl, (putS_same_snoc h1 he).symm, b[i], List.mem_append_right _ (List.mem_singleton.2 rfl), by omega⟩, fun _ hlt => .inr ⟨rfl, ?_, b[i], List.mem_append_right _ (List.mem_singleton.2 rfl), by omega⟩⟩
    · rcases List.mem_append.1 hq with hq | hq
      · exact h1 q hq
      · rw [List.mem_singleton.1 hq]; exact hlt
    · rw [putS_gt_snoc hlt, putS_end h1]
  · refine ⟨fun _ => ?_, fun h => (by cases h), fun h => (by cases h), fun h => (by cases h)⟩
    have hlt : k < b[i].1 := by
      obtain ⟨j, hj, he⟩ := List.getElem_of_mem hq
      rw [List.getElem_take] at he
      have hj' : j < i := by simp at hj; omega
      have := List.pairwise_iff_getElem.1 hb j i (by omega) hi hj'
      rw [he] at this
      omega
    exact ⟨hlt, .inr ⟨rfl, (putS_gt_snoc hlt).symm, q, List.mem_append_left _ hq, hk⟩⟩
theorem WithSt.len {b : Bh} {k s : Int} {i : Nat} {put : Bool} {out : Bh} (h : WithSt b k s i put out) : out.length ≤ b.length + 1 := by
  rcases h with ⟨_, _, rfl⟩ | ⟨_, rfl, _⟩
  · simp; omega
  · have := putS_len (b := b.take i) (k := k) (v := s)
    simp at this
    omega
end Go.Herb
namespace Go.Proofs.YticcccciefaemaaGreatDoor.Vx
open Go.RowKit Go.Shelf Go.Herb

theorem app_one {w0 wr : World} {v : Value} {ys : Bh} (x : Int × Int) (hb : Below w0.heap.size w0 wr) (hO : OwnP w0.heap.size wr v ys) (hl : ys.length < 1000000) :
    ∃ v' w9, (∀ ty, (Builtin.append_ #[(66), (66)] ty #[v, .slice (some ⟨wr.heap.size, 0, none⟩) 1 1]).run Tryz.prog (wr.alloc (.cells #[.int .u64 x.1, .int .u64 x.2] (72))) = .ok v' w9) ∧ OwnP w0.heap.size w9 v' (ys ++ [x]) ∧ Below w0.heap.size w0 w9 := by
  have hZb : Below wr.heap.size wr (wr.alloc (.cells #[.int .u64 x.1, .int .u64 x.2] (72))) := (Below.refl _ _).alloc (Nat.le_refl _) _
  have hs := hb.size
  have hzs := hZb.size
  obtain ⟨v', w9, hrun, hO9, hg9⟩ := run_append_p (wr.alloc (.cells #[.int .u64 x.1, .int .u64 x.2] (72))) w0.heap.size v ys wr.heap.size x (ownsRow_below hO hZb (Nat.le_refl _)) (blk_new_at rfl _) hl (by omega) (66)
  exact ⟨v', w9, fun _ => hrun, hO9, (hb.trans (hZb.mono hs)).grown hg9 (by omega) (fun k e => (World.ownsRow.lt hO k e).1)⟩

end Go.Proofs.YticcccciefaemaaGreatDoor.Vx
