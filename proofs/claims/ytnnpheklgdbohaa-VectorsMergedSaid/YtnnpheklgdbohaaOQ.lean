/- law16.VectorsMerged's walk. No condition. -/
import Derived.Test.YtnnpheklgdbohaaOP
namespace Go.Herb
open Go
theorem madeV_key {K : List Int} {acts : List Ac} : ∀ {L : Vs}, InK K L → (∀ x ∈ acts, x.line ∈ K) → InK K (madeV L acts) := by
  have key : ∀ (l : List Ac) (L : Vs), InK K L → (∀ x ∈ l, x.line ∈ K) → InK K (l.foldl doneV L) := by
    intro l
    induction l with
    | nil => intro L h _; exact h
    | cons x l ih =>
      intro L h hl
      rw [List.foldl_cons]
      refine ih _ ?_ (fun y hy => hl y (by simp [hy]))
      unfold doneV
      split
      · rename_i hc; exact actV_key h (hl x (by simp)) hc.1
      · exact h
  intro L h ha
  exact key _ L h (fun x hx => ha x ((List.take_subset _ _) hx))
theorem InK.cons {K : List Int} {L : Vs} (h : InK K L) (k : Int) : InK (k :: K) L := fun p hp q hq => List.mem_cons_of_mem _ (h p hp q hq)
theorem supF_ge (l : Bh) (k z : Int) : z ≤ supF l k z := by
  induction l generalizing z with
  | nil => exact Int.le_refl _
  | cons p l ih =>
    rw [supF_cons]
    split
    · have := ih (max z p.2); omega
    · exact ih z
theorem supF_mono (l : Bh) (k : Int) {y z : Int} (h : y ≤ z) : supF l k y ≤ supF l k z := by
  induction l generalizing y z with
  | nil => exact h
  | cons p l ih =>
    rw [supF_cons, supF_cons]
    split
    · exact ih (by omega)
    · exact ih h
/-- What is laid has at least what each had. -/
theorem laid_ge {bs : List Bh} {b : Bh} (hb : b ∈ bs) (ho : Okm b) (k : Int) : g0 b k ≤ g0 (laidB bs) k := by
  rw [g0_laid]
  induction bs with
  | nil => simp at hb
  | cons c bs ih =>
    rw [List.flatten_cons, supF_append]
    rcases List.mem_cons.1 hb with rfl | hb
    · have h1 := supF_one ho k 0 (Int.le_refl _)
      have h2 := supF_ge bs.flatten k (supF b k 0)
      omega
    · have h1 := ih hb
      have h2 := supF_mono bs.flatten k (supF_ge c k 0)
      omega
theorem putS_same {L : Vs} (h : SrtK L) (k : Int) (b : Bh) : getL (putS L k b) k = some b := by rw [getL_putS h, if_pos rfl]
theorem putS_other {L : Vs} (h : SrtK L) {k l : Int} (b : Bh) (hl : l ≠ k) : getL (putS L k b) l = getL L l := by rw [getL_putS h, if_neg hl]
/-- Behind a merge. -/
theorem merge_law {L : Vs} (h : GoodV L) {line ot s : Int} (hs : U64 s) (e : (mergeV L line ot s).1 = 0) : ∃ c x, getL L ot = some c ∧ getL (mergeV L line ot s).2 line = some x ∧ getL (mergeV L line ot s).2 ot = some c ∧ ∀ q, IsBase x c q → IsBase c c q := by
  unfold mergeV at e ⊢
  cases hg : getL L line with
  | none => rw [hg] at e; simp at e
  | some b =>
    cases hg2 : getL L ot with
    | none => rw [hg, hg2] at e; simp at e
    | some c =>
      simp only [hg, hg2] at e ⊢
      split
      · rename_i ha
        have hc := (h.get hg2).1.ok
        refine ⟨c, _, rfl, putS_same h.srt _ _, by rw [putS_other h.srt _ (fun e => ha.1 e.symm)]; exact hg2, fun q hq => ?_⟩
        have hm : ∀ k, min (g0 (laidB [b, c, [(line, s)]]) k) (g0 c k) = min (g0 c k) (g0 c k) := fun k => by
          have := laid_ge (bs := [b, c, [(line, s)]]) (b := c) (by simp) hc k
          omega
        exact ⟨fun k => by rw [← hm]; exact hq.top k, hq.none, hq.nn, fun h0 => by rw [← hm]; exact hq.at_ h0, fun k h0 hk => hq.low k h0 (by rw [hm]; exact hk)⟩
      · rename_i ha; rw [if_neg ha] at e; simp at e
/-- Behind a fork. -/
theorem fork_law {L : Vs} (h : GoodV L) {line fr : Int} (e : (forkV L line fr).1 = 0) : ∃ c, getL L fr = some c ∧ getL (forkV L line fr).2 line = some c ∧ getL (forkV L line fr).2 fr = some c := by
  unfold forkV at e ⊢
  cases hg : getL L fr with
  | none => rw [hg] at e; simp at e
  | some b =>
    simp only [hg] at e ⊢
    split
    · rename_i ha; rw [if_pos ha] at e; simp at e
    · rename_i ha
      have hne : fr ≠ line := fun e => ha (by rw [← e, hg]; rfl)
      rw [laid_one (h.get hg).1]
      exact ⟨b, rfl, putS_same h.srt _ _, by rw [putS_other h.srt _ hne]; exact hg⟩
end Go.Herb
namespace Go.Proofs.Ytnnpheklgdbohaa
open Go.RowKit Go.Shelf Go.Herb

theorem keysAllV_len2 {xs : List Vc} {acts : List Ac} (h : greatB xs acts = false) : (keysAllV xs acts).length ≤ 2700 := by
  obtain ⟨h1, h2, h3⟩ := greatB_false h
  have h4 : ∀ l : List Vc, (∀ x ∈ l, x.ps.length ≤ 60) → (l.flatMap (fun x => x.ps.map (·.1))).length ≤ l.length * 60 := by
    intro l
    induction l with
    | nil => simp
    | cons x l ih =>
      intro hl
      have := ih (fun y hy => hl y (by simp [hy]))
      have := hl x (by simp)
      simp only [List.flatMap_cons, List.length_append, List.length_map, List.length_cons]
      omega
  have := h4 xs h3
  unfold keysAllV
  simp only [List.length_append, List.length_map]
  omega
theorem madeK {xs : List Vc} {acts : List Ac} : InK (keysAllV xs acts) (madeV (vsOf xs) acts) := madeV_key (keysAllV_in xs acts) (fun x hx => List.mem_append_right _ (List.mem_map.2 ⟨x, hx, rfl⟩))
/-- One act more: still small. -/
theorem small_act {xs : List Vc} {acts : List Ac} (hg : greatB xs acts = false) (hG : GoodV (madeV (vsOf xs) acts)) (hl : (madeV (vsOf xs) acts).length ≤ 40) (x : Ac) (e : (actV (madeV (vsOf xs) acts) x).1 = 0) : GoodV (actV (madeV (vsOf xs) acts) x).2 ∧ Small (actV (madeV (vsOf xs) acts) x).2 := by
  have h1 := actV_good hG e
  refine ⟨h1, small_of h1 (actV_key (madeK.cons x.line) (by simp) e) ?_ ?_⟩
  · have := keysAllV_len2 hg; simp only [List.length_cons]; omega
  · have := actV_len (madeV (vsOf xs) acts) x; omega
def mkAc (x : Ac) (k : Int) (hk : (Lit.int .u8 k).wf = true) : Ac := ⟨k, x.line, x.other, x.n, hk, x.wl, x.wo, x.wn⟩

set_option maxRecDepth 100000 in
set_option maxHeartbeats 4000000 in
theorem merged_any (a : Option Addr) (cap : Nat) (xs : List Vc) (ab : Option Addr) (cb : Nat) (acts : List Ac) (x : Ac) (w : World) (h : VIn w a xs) (ha : AIn w ab acts) :
    Calls Try.prog (5) #[.slice a xs.length cap, .slice ab acts.length cb, .agg #[.int .u8 x.kind, .int .u64 x.line, .int .u64 x.other, .int .u64 x.n]] w fun e w' => e = .returned (.bool true) ∧ Below w.heap.size w w' := by
  obtain ⟨W0, hW0⟩ : ∃ W0 : World, W0 = w.alloc (.cells #[.int .u8 x.kind, .int .u64 x.line, .int .u64 x.other, .int .u64 x.n] (40)) := ⟨_, rfl⟩
  have hb0 : Below w.heap.size w W0 := by rw [hW0]; exact (Below.refl _ _).alloc (Nat.le_refl _) _
  have hx0 : W0.heap[w.heap.size]? = some (.cells #[.int .u8 x.kind, .int .u64 x.line, .int .u64 x.other, .int .u64 x.n] (40) (0, 0)) := by rw [hW0]; exact blk_new_at rfl _
  have HM := Lib.hid (made_any a cap xs ab cb acts W0 ⟨h.els.ext hb0, fun x hx => (h.inn x hx).ext hb0, h.wf, h.len, h.lens⟩ (ha.els.ext hb0) ha.len)
  have HB0 := Lib.hid hb0
  have HX0 := Lib.hid hx0
  clear h ha hb0 hx0
  have hneq := run_neqP
  have hgt := guardP
  go_enter Try.func5, Try.ntmps5
  go_wp2_with fail
  rw [← hW0]
  clear hW0
  refine (HM.out).mono ?_
  rintro e w1 ⟨v, c, rfl, hb1, ht, hf⟩
  have HB1 := Lib.hid (HB0.out.trans (hb1.mono HB0.out.size))
  clear HM
  cases c with
  | false =>
    clear ht hf hb1
    go_wp2_with fail
    refine (lives_any w1).mono ?_
    rintro e w2 ⟨rfl, hb2⟩
    have HB2 := Lib.hid (HB1.out.trans (hb2.mono HB1.out.size))
    clear hb2
    go_wp2
    go_ret
    exact ⟨rfl, HB2.out⟩
  | true =>
    obtain ⟨hgr, _, hg, hs, hl40, p, mb, M, rfl, hv⟩ := ht rfl
    have HSA := Lib.hid (fun y => small_act hgr hg hl40 y)
    obtain ⟨L, hL⟩ : ∃ L, L = madeV (vsOf xs) acts := ⟨_, rfl⟩
    rw [← hL] at hg hs hv HSA
    have HV1 := Lib.hid hv
    have HGD := Lib.hid hg
    have HSM := Lib.hid hs
    have hx1 := blk_below HX0.out hb1 (lt_of_blk HX0.out)
    have HX1 := Lib.hid hx1
    have X1 := cell_of_blk hx1 1
    have X2 := cell_of_blk hx1 2
    have X3 := cell_of_blk hx1 3
    simp at X1 X2 X3
    clear hv hg hs hL ht hf hb1 hl40 hgr hx1
    go_wp2_with fail
    refine (merge_any p mb M L x.line x.other x.n w1 HV1.out HGD.out HSM.out x.wl x.wo x.wn).mono ?_
    rintro e w2 ⟨v2, rfl, h1, h2, hb2⟩
    obtain ⟨er, her⟩ : ∃ er, er = (mergeV L x.line x.other x.n).1 := ⟨_, rfl⟩
    rw [← her] at h1 h2 ⊢
    have HER := Lib.hid her
    have H1 := Lib.hid h1
    have HB2 := Lib.hid hb2
    clear h1 h2 hb2 her X1 X2 X3
    go_upto_if 40 with (fail)
    go_cut [] (fun wx => Below w1.heap.size w1 wx)
    case first =>
      by_cases h0 : er = 0
      · subst h0
        obtain ⟨p', mb', M', rfl, hv'⟩ := H1.out rfl
        obtain ⟨cc, xx, hgo, hgl2, hgo2, hlaw⟩ := merge_law HGD.out x.wn HER.out.symm
        have hsm := HSA.out (mkAc x 2 rfl) HER.out.symm
        have HCA := base_call (HV1.out.below HB2.out) HGD.out HSM.out hgo hgo
        have HVP := Lib.hid hv'
        have HSM2 := Lib.hid hsm
        have HG2 := Lib.hid hgl2
        have HG3 := Lib.hid hgo2
        have HLAW := Lib.hid hlaw
        have hx2 := blk_below HX1.out HB2.out (lt_of_blk HX1.out)
        have HX2 := Lib.hid hx2
        have X1 := cell_of_blk hx2 1
        have X2 := cell_of_blk hx2 2
        simp at X1 X2
        clear hv' hgo hgl2 hgo2 hlaw hsm H1 hx2
        go_wp2_with fail
        refine (HCA.out _ (Below.refl _ _)).mono ?_
        rintro e w5 ⟨q, rfl, hB, hb5⟩
        obtain ⟨Y, hY⟩ : ∃ Y : World, Y = w5.alloc (.cells #[.int .u64 q.1, .int .u64 q.2] (34)) := ⟨_, rfl⟩
        have hYb : Below w2.heap.size w2 Y := by rw [hY]; exact hb5.alloc hb5.size _
        have hYx : Y.heap[w5.heap.size]? = some (.cells #[.int .u64 q.1, .int .u64 q.2] (34) (0, 0)) := by rw [hY]; exact blk_new_at rfl _
        have HYB := Lib.hid hYb
        have HYX := Lib.hid hYx
        have hxY := blk_below HX2.out hYb (lt_of_blk HX2.out)
        have Y1 := cell_of_blk hxY 1
        have Y2 := cell_of_blk hxY 2
        simp at Y1 Y2
        have HCB := base_call (HVP.out.below hYb) HSM2.out.1 HSM2.out.2 HG2.out HG3.out
        have HBQ := Lib.hid hB
        rw [hY] at Y1 Y2
        clear hb5 hB hYb hYx hxY X1 X2 HCA
        go_wp2_with fail
        rw [← hY] at Y1 Y2 ⊢
        clear hY
        refine (HCB.out _ (Below.refl _ _)).mono ?_
        rintro e w6 ⟨q', rfl, hB', hb6⟩
        obtain rfl := HBQ.out.uniq (HLAW.out _ hB')
        have hyx6 := blk_below HYX.out hb6 (lt_of_blk HYX.out)
        have z0 := cell_of_blk hyx6 0
        have z1 := cell_of_blk hyx6 1
        simp at z0 z1
        have hlt5 := lt_of_blk hyx6
        have HFIN := Lib.hid (show Below w1.heap.size w1 w6 from HB2.out.trans ((HYB.out.trans (hb6.mono HYB.out.size)).mono HB2.out.size))
        clear hyx6 hB' hb6 Y1 Y2 HCB
        go_wp2_with fail
        go_meet
        exact HFIN.out.alloc HFIN.out.size _
      · have h0' : (er == 0) = false := by simpa using h0
        have h0d : decide (er = 0) = false := decide_eq_false h0
        go_wp2_with fail
        go_meet
        exact HB2.out
    case rest =>
    rename_i wq
    have HB3 := Lib.hid hcut
    clear hcut HB2 H1 HER
    have hx3 := blk_below HX1.out HB3.out (lt_of_blk HX1.out)
    have X1 := cell_of_blk hx3 1
    have X2 := cell_of_blk hx3 2
    simp at X1 X2
    have HV3 := Lib.hid (HV1.out.below HB3.out)
    clear hx3
    go_wp2_with fail
    refine (fork_any p mb M L x.line x.other _ HV3.out HGD.out HSM.out x.wl x.wo).mono ?_
    rintro e w2 ⟨v2, rfl, h1, h2, hb2⟩
    obtain ⟨er, her⟩ : ∃ er, er = (forkV L x.line x.other).1 := ⟨_, rfl⟩
    rw [← her] at h1 h2 ⊢
    have HER := Lib.hid her
    have H1 := Lib.hid h1
    have HB2 := Lib.hid (HB3.out.trans (hb2.mono HB3.out.size))
    clear h1 h2 hb2 her X1 X2
    go_upto_if 82 with (fail)
    go_cut [] (fun wx => Below w1.heap.size w1 wx)
    case first =>
      by_cases h0 : er = 0
      · subst h0
        obtain ⟨p', mb', M', rfl, hv'⟩ := H1.out rfl
        obtain ⟨cc, hgo, hgl2, hgo2⟩ := fork_law HGD.out HER.out.symm
        have hsm := HSA.out (mkAc x 1 rfl) HER.out.symm
        have HCA := base_call (HV1.out.below HB2.out) HGD.out HSM.out hgo hgo
        have HVP := Lib.hid hv'
        have HSM2 := Lib.hid hsm
        have HG2 := Lib.hid hgl2
        have HG3 := Lib.hid hgo2
        have hx2 := blk_below HX1.out HB2.out (lt_of_blk HX1.out)
        have HX2 := Lib.hid hx2
        have X1 := cell_of_blk hx2 1
        have X2 := cell_of_blk hx2 2
        simp at X1 X2
        clear hv' hgo hgl2 hgo2 hsm H1 hx2
        go_wp2_with fail
        refine (HCA.out _ (Below.refl _ _)).mono ?_
        rintro e w5 ⟨q, rfl, hB, hb5⟩
        obtain ⟨Y, hY⟩ : ∃ Y : World, Y = w5.alloc (.cells #[.int .u64 q.1, .int .u64 q.2] (34)) := ⟨_, rfl⟩
        have hYb : Below w2.heap.size w2 Y := by rw [hY]; exact hb5.alloc hb5.size _
        have hYx : Y.heap[w5.heap.size]? = some (.cells #[.int .u64 q.1, .int .u64 q.2] (34) (0, 0)) := by rw [hY]; exact blk_new_at rfl _
        have HYB := Lib.hid hYb
        have HYX := Lib.hid hYx
        have hxY := blk_below HX2.out hYb (lt_of_blk HX2.out)
        have Y1 := cell_of_blk hxY 1
        have Y2 := cell_of_blk hxY 2
        simp at Y1 Y2
        have HCB := base_call (HVP.out.below hYb) HSM2.out.1 HSM2.out.2 HG2.out HG3.out
        have HBQ := Lib.hid hB
        rw [hY] at Y1 Y2
        clear hb5 hB hYb hYx hxY X1 X2 HCA
        go_wp2_with fail
        rw [← hY] at Y1 Y2 ⊢
        clear hY
        refine (HCB.out _ (Below.refl _ _)).mono ?_
        rintro e w6 ⟨q', rfl, hB', hb6⟩
        obtain rfl := HBQ.out.uniq hB'
        have hyx6 := blk_below HYX.out hb6 (lt_of_blk HYX.out)
        have z0 := cell_of_blk hyx6 0
        have z1 := cell_of_blk hyx6 1
        simp at z0 z1
        have hlt5 := lt_of_blk hyx6
        have HFIN := Lib.hid (show Below w1.heap.size w1 w6 from HB2.out.trans ((HYB.out.trans (hb6.mono HYB.out.size)).mono HB2.out.size))
        clear hyx6 hB' hb6 Y1 Y2 HCB
        go_wp2_with fail
        go_meet
        exact HFIN.out.alloc HFIN.out.size _
      · have h0' : (er == 0) = false := by simpa using h0
        have h0d : decide (er = 0) = false := decide_eq_false h0
        go_wp2_with fail
        go_meet
        exact HB2.out
    case rest =>
    have HB4 := Lib.hid hcut
    clear hcut HB2 H1 HER
    go_wp2_with fail
    refine (lives_any _).mono ?_
    rintro e w5 ⟨rfl, hb5⟩
    have HB5 := Lib.hid (HB1.out.trans ((HB4.out.trans (hb5.mono HB4.out.size)).mono HB1.out.size))
    clear hb5
    go_wp2
    go_ret
    exact ⟨rfl, HB5.out⟩
end Go.Proofs.Ytnnpheklgdbohaa
