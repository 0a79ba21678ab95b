/- vectors: Points. Condition: at most 41 lines. -/
import Derived.Test.YtnnpheklgdbohaaOV
import Derived.Test.YtnnpheklgdbohaaOP
import Derived.Test.YtnnpheklgdbohaaOX
namespace Go.Herb
theorem ddP_len (xs : Bh) (k : Nat) : (ddP xs k).length ≤ k := by
  have := List.length_filterMap_le (fun i => if i = 0 ∨ ¬ xs.getD (i - 1) (0, 0) = xs.getD i (0, 0) then some (xs.getD i (0, 0)) else none) (List.range k)
  rw [List.length_range] at this
  exact this
open Classical in
/-- The base of two lines. -/
noncomputable def baseQ (x y : Bh) : Int × Int := if h : ∃ q, IsBase x y q then h.choose else (0, 0)
theorem baseQ_of {x y : Bh} {q : Int × Int} (h : IsBase x y q) : baseQ x y = q := by
  unfold baseQ
  rw [dif_pos ⟨q, h⟩]
  exact (Exists.choose_spec (⟨q, h⟩ : ∃ q, IsBase x y q)).uniq h
noncomputable def rowB (L : Vs) (i : Nat) : Bh := (L.drop (i + 1)).map (fun r => baseQ (L.getD i (0, [])).2 r.2)
/-- The bases of all pairs of lines, of the first i lines. -/
noncomputable def pairsB (L : Vs) (i : Nat) : Bh := (List.range i).flatMap (rowB L)
theorem pairsB_succ (L : Vs) (i : Nat) : pairsB L (i + 1) = pairsB L i ++ rowB L i := by
  unfold pairsB
  rw [List.range_succ, List.flatMap_append]
  simp
theorem rowB_len (L : Vs) (i : Nat) : (rowB L i).length = L.length - (i + 1) := by simp [rowB]
theorem rowB_take {L : Vs} {i j : Nat} {x y : Int × Bh} {q : Int × Int} (hx : L[i]? = some x) (hy : L[i + 1 + j]? = some y) (h : IsBase x.2 y.2 q) : (rowB L i).take (j + 1) = (rowB L i).take j ++ [q] := by
  have h1 : (rowB L i)[j]? = some q := by
    unfold rowB
    rw [List.getElem?_map, List.getElem?_drop, hy, List.getD_eq_getElem?_getD, hx]
    simp only [Option.map_some, Option.getD_some, baseQ_of h]
  obtain ⟨h2, h3⟩ := List.getElem?_eq_some_iff.1 h1
  rw [List.take_succ_eq_append_getElem h2, h3]
theorem pairsB_len {L : Vs} (h : L.length ≤ 41) : ∀ i, i ≤ 41 → (pairsB L i).length ≤ i * 41
  | 0, _ => by simp [pairsB]
  | i + 1, hi => by
    have := pairsB_len h i (by omega)
    rw [pairsB_succ, List.length_append, rowB_len]
    omega
end Go.Herb
namespace Go.Proofs.Ytnnpheklgdbohaa
open Go.RowKit Go.Shelf Go.Herb Go.Sort

/-- The points, rising, without doubles. -/
def PtsOf (L : Vs) (ps : Bh) : Prop := ∃ ys : Bh, ys.Perm (pairsB L L.length) ∧ ys.Pairwise (fun a b => ¬ LtP b a) ∧ ps = ddP ys ys.length
theorem PtsOf.uniq {L : Vs} {ps qs : Bh} (h : PtsOf L ps) (k : PtsOf L qs) : ps = qs := by
  obtain ⟨ys, h1, h2, rfl⟩ := h
  obtain ⟨zs, k1, k2, rfl⟩ := k
  have : ys = zs := (h1.trans k1.symm).eq_of_pairwise (fun a b _ _ h3 h4 => by
    unfold LtP at h3 h4
    exact Prod.ext (by omega) (by omega)) h2 k2
  rw [this]
def PointsPost (L : Vs) (w : World) (e : Ending) (w' : World) : Prop :=
  ∃ (va : Option Addr) (vcap : Nat) (ps : Bh), e = .returned (.slice va ps.length ps.length) ∧ PtsOf L ps ∧ OwnP w.heap.size w' (.slice va ps.length vcap) ps ∧ Below w.heap.size w w'

def SortedC (n : Nat) (ks : List Int) (w : World) (e : Ending) (w' : World) : Prop := ∃ a cap ys, e = .returned (.slice a n cap) ∧ ys.length = n ∧ ys.Perm ks ∧ ys.Pairwise (· ≤ ·) ∧ Els nu 1 w' a ys ∧ n ≤ cap ∧ Below w.heap.size w w'
set_option maxHeartbeats 1000000 in
theorem sortedC_any (bl b : Nat) (m : List (Int × Nat)) (N : Nat) (hNk : m.length = N) (hm : N < 1000000) (w : World) (hV : w.heap[bl]? = some (.cells #[.map (some b)] (58) (0, 0))) (hM : MapIs Try.prog (29) eU eM w b m) :
    Calls Try.prog (31) #[.func (.func (52)) #[] #[.pointer (some ⟨bl, 0, none⟩)]] w (SortedC N (m.map (·.1)) w) := by
  have H := Lib.hid (collect_any (gf := (52)) rfl trivial (enters_of Try.func52 (by kernel_rfl) rfl) _ m.length (by omega) w (fun W hW => keysM_stops bl b m W ((hW.block _ (lt_of_blk hV)).trans hV) (hM.same (hW.block _ hM.lt))))
  clear hV hM
  go_enter Try.func31, Try.ntmps31
  go_wp2_with fail
  refine (H.out).mono ?_
  rintro e w1 ⟨v, ys, rfl, h1, h2, h3⟩
  have hyl : ys.length = N := h1.length_eq.trans (by simpa using hNk)
  rcases row_of_owns h2 with ⟨rfl, rfl⟩ | ⟨g, cap, rfl, hg2, hR⟩
  · go_wp2_with fail
    refine (sortNone_any w1).mono ?_
    rintro e w2 ⟨rfl, rfl⟩
    have HE := Lib.hid (show SortedC N (m.map (·.1)) w (.returned (.slice none 0 0)) w1 from ⟨none, 0, [], by rw [← hyl]; rfl, hyl, h1, .nil, Els.nil _ _ _ _, by simp at hyl; omega, h3⟩)
    clear h1 h2 h3
    go_wp2
    go_ret
    exact HE.out
  · have HS := Lib.hid (sortU_any g cap ys.length ys rfl w1 hR (by omega))
    have H1 := Lib.hid h1
    have H3 := Lib.hid h3
    have HYL := Lib.hid hyl
    have HLE := Lib.hid hR.le
    clear h1 h2 h3 hR hyl
    go_wp2_with fail
    refine (HS.out).mono ?_
    rintro e w2 ⟨rfl, zs, hz1, hz2, hz3, hz4⟩
    have HE := Lib.hid (show SortedC N (m.map (·.1)) w (.returned (.slice (some ⟨g, 0, none⟩) ys.length cap)) w2 from ⟨some ⟨g, 0, none⟩, cap, zs, by rw [HYL.out], by rw [hz1.length_eq, HYL.out], hz1.trans H1.out, hz2, hz3.els nu_len, by rw [← HYL.out]; exact HLE.out, H3.out.grown hz4 H3.out.size (fun k e => by cases e; exact hg2)⟩)
    clear hz1 hz2 hz3 hz4 HS
    go_wp2
    go_ret
    exact HE.out
theorem els_drop {w : World} {b o : Nat} {ks : List Int} (h : Els nu 1 w (some ⟨b, o, none⟩) ks) (k : Nat) : Els nu 1 w (some ⟨b, o + k * 1, none⟩) (ks.drop k) :=
  ⟨fun i hi => by
    obtain ⟨b', o', ha, hlt, hc⟩ := h.get (k + i) (by simp at hi; omega)
    injection ha with ha
    cases ha
    refine ⟨b, o + k * 1, rfl, hlt, fun j c hj => ?_⟩
    rw [List.getElem_drop] at hj
    have := hc j c hj
    rwa [show o + k * 1 + i * 1 + j = o + (k + i) * 1 + j by omega]⟩
/-- 's[k+1:]'. -/
theorem slice_hiU {w : World} {ad : Addr} {kc k n : Nat} {ks : List Int} (hE : Els nu 1 w (some ad) ks) (hn : ks.length = n) (hle : n ≤ kc) (hk : k + 1 ≤ n) :
    ∃ a2, (∀ W, (Instr.slice (66) (.slice (some ad) n kc) (some (.int .i64 ((k : Int) + 1))) none none).run Try.prog W = .ok (.slice a2 (n - (k + 1)) (kc - (k + 1))) W) ∧ Els nu 1 w a2 (ks.drop (k + 1)) := by
  refine ⟨if kc = k + 1 then some ad else (some ad).map (·.add ((k + 1) * 1)), fun W => ?_, ?_⟩
  · have := run_slice_l (P := Try.prog) W (66) (some ad) n kc (by kernel_rfl) .i64 ((k : Int) + 1) (by omega) (by omega)
    rw [this]
    rw [show Try.prog.elem (66) = (29) from by kernel_rfl, Try.sizeOf29, show ((k : Int) + 1).toNat = k + 1 by omega]
    simp [sliced, Result.andThen]
  · by_cases h0 : kc = k + 1
    · have : ks.drop (k + 1) = [] := List.drop_eq_nil_of_le (by omega)
      rw [this]
      exact Els.nil _ _ _ _
    · rw [if_neg h0, Option.map_some]
      by_cases hz : ks.drop (k + 1) = []
      · rw [hz]; exact Els.nil _ _ _ _
      · obtain ⟨b, o, ha, _⟩ := hE.get 0 (by omega)
        injection ha with ha
        subst ha
        rw [addr_add]
        exact els_drop hE (k + 1)

set_option maxRecDepth 100000 in
set_option maxHeartbeats 2000000 in
theorem points_any (p mb : Nat) (M : List (Int × Nat)) (L : Vs) (w : World) (h : VecIs w p mb M L) (hG : GoodV L) (hS : Small L) (h40 : L.length ≤ 41) :
    Calls Try.prog (27) #[.pointer (some ⟨p, 0, none⟩)] w (PointsPost L w) := by
  have H := Lib.hid h
  have HG := Lib.hid hG
  have HS := Lib.hid hS
  have H40 := Lib.hid h40
  have c0 := cell_of_blk h.blk 0
  simp at c0
  have hML : M.length = L.length := h.len
  have HML := Lib.hid hML
  clear h hG hS hML
  go_enter Try.func27, Try.ntmps27
  go_wp2_with fail
  refine (there_any p mb w H.out.blk).mono ?_
  rintro e w' ⟨rfl, rfl⟩
  go_wp2_with fail
  refine (keysM_any mb w).mono ?_
  rintro e w1 ⟨bl, rfl, hb1, hbl⟩
  have HB1 := Lib.hid hb1
  have HBL := Lib.hid hbl
  clear hb1 hbl c0
  go_wp2_with fail
  refine (sortedC_any bl mb M L.length HML.out (by omega) w1 HBL.out (H.out.below HB1.out).out).mono ?_
  rintro e w2 ⟨ka, kc, ks, rfl, hkl, hkp, hks, hke, hkn, hb2⟩
  have hkk := sorted_keys HG.out.srt (hkp.trans H.out.keys) hks
  have HB2 := Lib.hid (HB1.out.trans (hb2.mono HB1.out.size))
  have HKE := Lib.hid hke
  have HKK := Lib.hid hkk
  have HKL := Lib.hid hkl
  have HKN := Lib.hid hkn
  clear hkl hkp hks hke hkn hb2 hkk HB1 HBL
  go_wp2_with fail
  go_loopg [2, 21] L.length (fun gk ov iv wr => ∃ (k : Nat), k + gk = L.length ∧ iv = .int .i64 k ∧ OwnP w2.heap.size wr ov (pairsB L k) ∧ Below w2.heap.size w2 wr)
  case atStart => exact ⟨0, by omega, rfl, World.ownsRow_nil _ _ _ _, Below.refl _ _⟩
  case round =>
    obtain ⟨k, hk, rfl, hown, hbk⟩ := hrel
    have HBK := Lib.hid hbk
    have hsk := hbk.size
    have HOWN := Lib.hid hown
    clear hbk hown
    by_cases hlt : k < L.length
    · obtain ⟨b, o, rfl, hlb, hcell⟩ := HKE.out.get k (by have := HKL.out; omega)
      obtain ⟨a2, hsl, hE2⟩ := slice_hiU (k := k) HKE.out HKL.out HKN.out (by omega)
      have hkx : ks[k]'(by have := HKL.out; omega) = L[k].1 := by
        have := HKK.out
        subst this
        simp
      have hx0 := (HBK.out.cell (p := ⟨b, _, none⟩) hlb).trans (hcell 0 _ rfl)
      rw [hkx] at hx0
      simp only [Nat.add_zero, Nat.mul_one] at hx0
      have hk0 : (0 : Int) ≤ (k : Int) := by omega
      have hk1 : (k : Int) < (L.length : Int) := by omega
      have hw1 : IntKind.i64.wrap ((k : Int) + 1) = (k : Int) + 1 := IntWalk.i64_in _ (by omega)
      have HX := Lib.hid (List.getElem?_eq_getElem hlt)
      have HE2 := Lib.hid hE2
      have HSL := Lib.hid hsl
      clear hcell hkx hE2 hsl
      generalize L[k] = x at *
      obtain ⟨xl, xb⟩ := x
      have hsl := HSL.out
      clear HSL
      go_wp2_with fail
      clear hx0 hk0 hk1 hw1 hsl
      obtain ⟨g1, rfl⟩ : ∃ g1 : Nat, g1 = gk := ⟨_, rfl⟩
      obtain ⟨wo, rfl⟩ : ∃ wo : World, wo = wr := ⟨_, rfl⟩
      have hgx : getL L xl = some xb := (getL_some HG.out.srt.nodup).2 (List.mem_of_getElem? HX.out)
      have HGX := Lib.hid hgx
      clear hgx
      go_loopg [2, 31] (L.length - (k + 1)) (fun gk ov jv wr => ∃ j : Nat, j + gk = L.length - (k + 1) ∧ jv = .int .i64 j ∧ Hid (OwnP w2.heap.size wr ov (pairsB L k ++ (rowB L k).take j)) ∧ Hid (Below w2.heap.size w2 wr))
      case atStart => exact ⟨0, by omega, rfl, Lib.hid (by simpa using HOWN.out), HBK⟩
      case round =>
        obtain ⟨j, hj, rfl, HO, HBJ⟩ := hrel
        have hsj := HBJ.out.size
        by_cases hjl : j < L.length - (k + 1)
        · obtain ⟨b', o', rfl, hlb', hcell⟩ := HE2.out.get j (by have := HKL.out; simp; omega)
          have hkl2 : k + 1 + j < L.length := by omega
          have hjx : (ks.drop (k + 1))[j]'(by have := HKL.out; simp; omega) = L[k + 1 + j].1 := by
            have := HKK.out
            subst this
            simp
          have hx0 := (HBJ.out.cell (p := ⟨b', _, none⟩) hlb').trans (hcell 0 _ rfl)
          rw [hjx] at hx0
          simp only [Nat.add_zero, Nat.mul_one] at hx0
          have hj0 : (0 : Int) ≤ (j : Int) := by omega
          have hj1 : (j : Int) < ((L.length - (k + 1) : Nat) : Int) := by omega
          have HY := Lib.hid (List.getElem?_eq_getElem hkl2)
          clear hcell hjx
          generalize L[k + 1 + j] = y at *
          obtain ⟨yl, yb⟩ := y
          have hgy : getL L yl = some yb := (getL_some HG.out.srt.nodup).2 (List.mem_of_getElem? HY.out)
          have HCA := Lib.hid ((base_call H.out HG.out HS.out HGX.out hgy).out wr (HB2.out.trans (HBJ.out.mono HB2.out.size)))
          have hlp : (pairsB L k).length ≤ 1681 := Nat.le_trans (pairsB_len H40.out k (by have := H40.out; omega)) (by have := H40.out; omega)
          have hlr : (rowB L k).length ≤ 41 := by rw [rowB_len]; have := H40.out; omega
          have HYL := Lib.hid (show (pairsB L k ++ (rowB L k).take j).length < 1000000 by simp; omega)
          clear hgy hlp hlr hkl2
          obtain ⟨zs, hzs⟩ : ∃ zs, zs = pairsB L k ++ (rowB L k).take j := ⟨_, rfl⟩
          rw [← hzs] at HO HYL
          have HZS := Lib.hid hzs
          clear hzs
          obtain ⟨oa, oc, rfl, hn1, hn2, hn3, hn4⟩ := own_parts HO.out
          clear hn1 hn2 hn3 hn4
          go_wp2_with fail
          refine (HCA.out).mono ?_
          rintro e w5 ⟨q, rfl, hB, hb5⟩
          clear hx0 hj0 hj1
          obtain ⟨X, hX⟩ : ∃ X : World, X = w5.alloc (.cells #[.int .u64 q.1, .int .u64 q.2] (34)) := ⟨_, rfl⟩
          have hXs : X.heap.size = w5.heap.size + 1 := by rw [hX]; simp
          obtain ⟨Z, hZ⟩ : ∃ Z : World, Z = X.alloc (.cells #[.int .u64 q.1, .int .u64 q.2] (34)) := ⟨_, rfl⟩
          have hZb : Below wr.heap.size wr Z := by
            rw [hZ, hX]
            have h5 := hb5.size
            exact (hb5.alloc h5 _).alloc (by simp; omega) _
          have hZx : Z.heap[X.heap.size]? = some (.cells #[.int .u64 q.1, .int .u64 q.2] (34) (0, 0)) := by rw [hZ]; exact blk_new_at rfl _
          obtain ⟨v', w9, hrun, hO9, hg9⟩ := run_append_p Z w2.heap.size _ _ X.heap.size q (ownsRow_below HO.out hZb (Nat.le_refl _)) hZx HYL.out (by have := hZb.size; omega) (30)
          have hbn : Below w2.heap.size w2 w9 := (HBJ.out.trans (hZb.mono hsj)).grown hg9 (by have := hZb.size; omega) (fun k e => (World.ownsRow.lt HO.out k e).1)
          have HO9 := Lib.hid (show OwnP w2.heap.size w9 v' (pairsB L k ++ (rowB L k).take (j + 1)) by rw [rowB_take HX.out HY.out hB, ← List.append_assoc, ← HZS.out]; exact hO9)
          have HBN := Lib.hid hbn
          rw [hXs, hZ, hX] at hrun
          have HRUN := Lib.hid hrun
          clear hX hXs hZ hZb hZx hrun hO9 hg9 hbn hB hb5 HO
          go_wp2_with (at_builtin; refine Lib.wpList_append_run _ rfl _ _ _ _ rfl _ _ rfl rfl _ _ (HRUN.out) ?_)
          go_roundg (gk - 1)
          case measure => omega
          case rel => exact ⟨j + 1, by omega, by go_num, HO9, HBN⟩
        · have hje : j = L.length - (k + 1) := by omega
          have HOE := Lib.hid (show OwnP w2.heap.size wr u2 (pairsB L (k + 1)) by
            have := HO.out
            rw [List.take_of_length_le (by rw [rowB_len]; omega)] at this
            rw [pairsB_succ]; exact this)
          clear hje
          go_wp2_with fail
          go_roundg (g1 - 1)
          case measure => omega
          case rel => exact ⟨k + 1, by omega, by go_num, HOE.out, HBJ.out⟩
    · have hke : k = L.length := by omega
      subst hke
      have hlp : (pairsB L L.length).length ≤ 1681 := Nat.le_trans (pairsB_len H40.out L.length H40.out) (by have := H40.out; omega)
      have HB := Lib.hid (HB2.out.trans (HBK.out.mono HB2.out.size))
      rcases row_of_owns HOWN.out with ⟨rfl, hnil⟩ | ⟨g, cap, rfl, hg, hR⟩
      · have HE := Lib.hid (show PointsPost L w (.returned (.slice none 0 0)) wr from ⟨none, 0, [], rfl, ⟨[], by rw [hnil], .nil, rfl⟩, World.ownsRow_nil _ _ _ _, HB.out⟩)
        clear hlp hnil
        go_wp2_with fail
        refine (sortFunc_none none 0 _ wr).mono ?_
        rintro e w' ⟨rfl, rfl⟩
        go_wp2_with fail
        refine (compact_none _).mono ?_
        rintro e w'' ⟨rfl, rfl⟩
        go_wp2_with fail
        refine (clipP_any none 0 0 _ (fun _ => ⟨rfl, rfl⟩) (by omega) (Nat.le_refl _) (Nat.zero_le _)).mono ?_
        rintro e w'' ⟨rfl, rfl⟩
        go_wp2
        go_ret
        exact HE.out
      · have HSO := Lib.hid (sortP_any g cap _ wr hR (by omega))
        have HG2 := Lib.hid hg
        have HLP := Lib.hid hlp
        have HMX := Lib.hid hR.max
        obtain ⟨pn, hpn⟩ : ∃ pn, pn = (pairsB L L.length).length := ⟨_, rfl⟩
        rw [← hpn] at HSO HLP ⊢
        have HPN := Lib.hid hpn
        clear hlp hg hR hpn
        go_wp2_with fail
        refine (HSO.out).mono ?_
        rintro e w5 ⟨rfl, ys, hy1, hy2, hy3, hy4⟩
        have hyl : ys.length = pn := by rw [HPN.out]; exact hy1.length_eq
        have HCO := Lib.hid (compactP_any g cap ys pn hyl w5 hy3 (by have := HLP.out; omega))
        have HY := Lib.hid (And.intro hy1 hy2)
        have HB5 := Lib.hid (HB.out.grown hy4 HB.out.size (fun k e => by cases e; exact Nat.le_trans HB2.out.size HG2.out))
        have HYL := Lib.hid hyl
        clear hy1 hy2 hy3 hy4 hyl
        go_wp2_with fail
        refine (HCO.out).mono ?_
        rintro e w6 ⟨rfl, hR6, hg6⟩
        have hdl : (ddP ys ys.length).length < 1000000 := by
          have := ddP_len ys ys.length
          have h2 := HYL.out
          have h3 := HLP.out
          omega
        have HCL := Lib.hid (clipP_any (some ⟨g, 0, none⟩) cap (ddP ys ys.length).length w6 (fun h => by cases h) hdl hR6.le HMX.out)
        have HE := Lib.hid (show PointsPost L w (.returned (.slice (some ⟨g, 0, none⟩) (ddP ys ys.length).length (ddP ys ys.length).length)) w6 from ⟨_, cap, _, rfl, ⟨ys, HY.out.1, HY.out.2, rfl⟩, hR6.owns pc_len (Nat.le_trans HB2.out.size HG2.out), HB5.out.grown hg6 HB5.out.size (fun k e => by cases e; exact Nat.le_trans HB2.out.size HG2.out)⟩)
        clear hdl hR6 hg6
        go_wp2_with fail
        refine (HCL.out).mono ?_
        rintro e w' ⟨rfl, rfl⟩
        go_wp2
        go_ret
        exact HE.out
end Go.Proofs.Ytnnpheklgdbohaa
