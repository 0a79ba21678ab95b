/- herbariumlaw18.sees. Condition: fewer than 1000000 facts and links. -/
import Derived.Test.YticcccciefaemaaQM
import Derived.Deep.DeepCutAuto
namespace Go.Proofs.Yticcccciefaemaa
open Go.RowKit Go.Shelf Go.Herb

/-- The commits that are asked for. -/
def atsOf (x : Wt) (f : Fc) : List Int := if x.on = true ∧ x.at_ < f.seq then [x.at_, f.seq] else [x.at_]
theorem sees_ats (xs : List Fc) (x : Wt) (f : Fc) : SeesP xs x f ↔ ∃ t ∈ atsOf x f, f ∈ lastL (seenL xs x.cs t) := by
  unfold SeesP atsOf
  by_cases h : x.on = true ∧ x.at_ < f.seq
  · rw [if_pos h]
    simp [h.1, h.2]
  · rw [if_neg h]
    simp only [List.mem_singleton, exists_eq_left]
    constructor
    · rintro (h1 | ⟨h1, h2, _⟩)
      · exact h1
      · exact absurd ⟨h1, h2⟩ h
    · exact .inl

def SeesPost (xs : List Fc) (x : Wt) (f : Fc) (w : World) (e : Ending) (w' : World) : Prop := ∃ b : Bool, e = .returned (.bool b) ∧ (b = true ↔ SeesP xs x f) ∧ Below w.heap.size w w'

set_option maxRecDepth 100000 in
set_option maxHeartbeats 4000000 in
theorem sees_post (x : Wt) (f : Fc) (al : Option Addr) (cl : Nat) (xs : List Fc) (w : World) (hL : Facts w al xs) (hC : Links w x.a x.cs) (hl : xs.length < 1000000) (hc : x.cs.length < 1000000) :
    Calls Try.prog (13) #[.agg #[.slice x.a x.cs.length x.c, .int .u64 x.at_, .bool x.on], .agg #[.string f.key, .int .u32 f.valid, .int .u64 f.seq, .int .u64 f.line, .int .u8 f.kind, .string f.val], .slice al xs.length cl] w (SeesPost xs x f w) := by
  have HL := Lib.hid hL
  have HC := Lib.hid hC
  clear hL hC
  go_enter Try.func13, Try.ntmps13
  go_upto_region 1 with (fail)
  go_cut [7] (fun v wx => OwnU (w.heap.size + 2) wx v [x.at_] ∧ Below w.heap.size w wx ∧ w.heap.size + 2 ≤ wx.heap.size ∧ wx.heap[w.heap.size]? = some (.cells #[.slice x.a x.cs.length x.c, .int .u64 x.at_, .bool x.on] (27) (0, 0)) ∧ wx.heap[w.heap.size + 1]? = some (.cells #[.string f.key, .int .u32 f.valid, .int .u64 f.seq, .int .u64 f.line, .int .u8 f.kind, .string f.val] (38) (0, 0)))
  case first =>
    go_wp2_with fail
    go_meet
    have hq : ∀ (W : World) (n : Nat), n = W.heap.size → w.heap.size + 2 = W.heap.size → OwnU (w.heap.size + 2) (W.alloc (.cells #[.int .u64 x.at_] (25))) (.slice (some ⟨n, 0, none⟩) 1 1) [x.at_] := by
      intro W n h1 h2
      subst h1
      exact World.ownsRow_lit W #[.int .u64 x.at_] 1 (Nat.le_of_eq h2) (by decide) rfl
    refine ⟨hq _ _ (by simp) (by simp), ?_, by simp, ?_, ?_⟩
    · exact (((Below.refl _ _).alloc (Nat.le_refl _) _).alloc (by simp) _).alloc (by simp; omega) _
    · exact blk_alloc (blk_alloc (blk_new_at rfl _))
    · exact blk_alloc (blk_new_at (by simp) _)
  case rest =>
  obtain ⟨hO, hBW, hsW, hb0, hb1⟩ := hcut
  have HO := Lib.hid hO
  have HBW := Lib.hid hBW
  have HB0 := Lib.hid hb0
  have HB1 := Lib.hid hb1
  have t0 := cell_of_blk HB0.out 0
  have t1 := cell_of_blk HB0.out 1
  have t2 := cell_of_blk HB0.out 2
  have u2 := cell_of_blk HB1.out 2
  simp at t0 t1 t2 u2
  clear hO hBW hb0 hb1
  go_upto_region 2 with (fail)
  go_cut [22] (fun v wx => v = .bool (decide (x.on = true ∧ x.at_ < f.seq)) ∧ wc = wx)
  case first =>
    by_cases hon : x.on = true
    · rw [hon] at t2
      by_cases hlt : x.at_ < f.seq
      · have hd : decide (x.on = true ∧ x.at_ < f.seq) = true := by simp [hon, hlt]
        have HD := Lib.hid hd
        clear hd hon
        go_wp2_with fail
        go_meet
        exact ⟨by rw [HD.out], rfl⟩
      · have hd : decide (x.on = true ∧ x.at_ < f.seq) = false := by simp [hlt]
        have HD := Lib.hid hd
        clear hd hon
        go_wp2_with fail
        go_meet
        exact ⟨by rw [HD.out], rfl⟩
    · have hd : decide (x.on = true ∧ x.at_ < f.seq) = false := by simp [hon]
      have hon : x.on = false := by simpa using hon
      rw [hon] at t2
      have HD := Lib.hid hd
      clear hd hon
      go_wp2_with fail
      go_meet
      exact ⟨by rw [HD.out], rfl⟩
  case rest =>
  obtain ⟨rfl, rfl⟩ := hcut
  go_upto_if 22 with (fail)
  go_cut [7] (fun v wx => OwnU (w.heap.size + 2) wx v (atsOf x f) ∧ Below w.heap.size w wx ∧ w.heap.size + 2 ≤ wx.heap.size ∧ wx.heap[w.heap.size]? = some (.cells #[.slice x.a x.cs.length x.c, .int .u64 x.at_, .bool x.on] (27) (0, 0)) ∧ wx.heap[w.heap.size + 1]? = some (.cells #[.string f.key, .int .u32 f.valid, .int .u64 f.seq, .int .u64 f.line, .int .u8 f.kind, .string f.val] (38) (0, 0)))
  case first =>
    by_cases hd : x.on = true ∧ x.at_ < f.seq
    · have hat : atsOf x f = [x.at_] ++ [f.seq] := by unfold atsOf; rw [if_pos hd]; rfl
      have hd2 : decide (x.on = true ∧ x.at_ < f.seq) = true := decide_eq_true hd
      rw [hd2]
      have HAT := Lib.hid hat
      clear hat hd hd2
      obtain ⟨X, hX⟩ : ∃ X, X = wc.alloc (.cells #[.int .u64 f.seq] (25)) := ⟨_, rfl⟩
      have hwX : Below wc.heap.size wc X := by rw [hX]; exact (Below.refl _ _).alloc (Nat.le_refl _) _
      have hvX : X.heap[wc.heap.size]? = some (.cells #[.int .u64 f.seq] (25) (0, 0)) := by rw [hX]; exact blk_new_at rfl _
      have hoX : OwnU (w.heap.size + 2) X u7 [x.at_] := ownsRow_below HO.out hwX (Nat.le_refl _)
      obtain ⟨v', w', hrun, hO', hg⟩ := run_append_num X (w.heap.size + 2) u7 [x.at_] wc.heap.size f.seq hoX hvX (by simp) (by have := hwX.size; omega) (56)
      have hB2 : Below (w.heap.size + 2) wc w' := Below.grown (hwX.mono hsW) hg (by have := hwX.size; omega) (fun k e => (World.ownsRow.lt hoX k e).1)
      have k0 := blk_below HB0.out hB2 (by omega)
      have k1 := blk_below HB1.out hB2 (by omega)
      have k2 := HBW.out.trans (hB2.mono (by omega))
      have k3 := hB2.size
      have K0 := Lib.hid k0
      have K1 := Lib.hid k1
      have K2 := Lib.hid k2
      have K3 := Lib.hid hO'
      rw [hX] at hrun
      have HRUN := Lib.hid hrun
      clear hwX hvX hoX hO' hg hB2 k0 k1 k2 hX hrun
      go_wp2_with (at_builtin; refine Lib.wpList_append_run _ rfl _ _ _ _ rfl _ _ rfl rfl _ _ (HRUN.out) ?_)
      go_meet
      exact ⟨by rw [HAT.out]; exact K3.out, K2.out, by omega, K0.out, K1.out⟩
    · have hat : atsOf x f = [x.at_] := by unfold atsOf; rw [if_neg hd]
      have hd2 : decide (x.on = true ∧ x.at_ < f.seq) = false := decide_eq_false hd
      rw [hd2]
      have HAT := Lib.hid hat
      clear hat hd hd2
      go_wp2_with fail
      go_meet
      exact ⟨by rw [HAT.out]; exact HO.out, HBW.out, hsW, HB0.out, HB1.out⟩
  case rest =>
  obtain ⟨hO, hBW, hsW, hb0, hb1⟩ := hcut
  obtain ⟨ta, tc, rfl, -, hE⟩ := els_of_owns uc_len hO
  clear HO HBW HB0 HB1 hO t0 t1 t2 u2
  have HE := Lib.hid hE
  have HBW := Lib.hid hBW
  have HB0 := Lib.hid hb0
  have HB1 := Lib.hid hb1
  clear hE hBW hb0 hb1
  obtain ⟨ts, hts⟩ : ∃ ts, ts = atsOf x f := ⟨_, rfl⟩
  have htl : ts.length < 1000000 := by rw [hts]; unfold atsOf; split <;> simp
  rw [← hts] at HE
  rw [← hts]
  have HTS := Lib.hid hts
  clear hts
  go_wp2_with fail
  go_loopg [8] ts.length (fun gk iv wr => ∃ i : Nat, i + gk = ts.length ∧ iv = .int .i64 i ∧ (∀ (q : Nat) (hq : q < ts.length), q < i → f ∉ lastL (seenL xs x.cs ts[q])) ∧ Below w.heap.size w wr ∧ w.heap.size + 2 ≤ wr.heap.size ∧ wr.heap[w.heap.size]? = some (.cells #[.slice x.a x.cs.length x.c, .int .u64 x.at_, .bool x.on] (27) (0, 0)) ∧ wr.heap[w.heap.size + 1]? = some (.cells #[.string f.key, .int .u32 f.valid, .int .u64 f.seq, .int .u64 f.line, .int .u8 f.kind, .string f.val] (38) (0, 0)) ∧ Els uc 1 wr ta ts)
  case atStart => exact ⟨0, by omega, rfl, fun _ _ h => by omega, HBW.out, hsW, HB0.out, HB1.out, HE.out⟩
  case round =>
    obtain ⟨i, hi, rfl, hno, hBr, hsr, hb0, hb1, hEr⟩ := hrel
    have HNO := Lib.hid hno
    clear HBW hsW HB0 HB1 HE
    by_cases hlt : i < ts.length
    · obtain ⟨tb, tof, rfl, htb, hcl⟩ := hEr.get i hlt
      have e0 : wr.cell? ⟨tb, tof + i * 1, none⟩ = some (.int .u64 ts[i]) := hcl 0 _ rfl
      have t0 := cell_of_blk hb0 0
      simp at t0
      obtain ⟨t, ht⟩ : ∃ t, t = ts[i] := ⟨_, rfl⟩
      rw [← ht] at e0
      have hii : tof + i * 1 = tof + i := by omega
      rw [hii] at e0
      have hall : ∀ u : World, Below wr.heap.size wr u → Calls Try.prog (12) #[.slice al xs.length cl, .slice x.a x.cs.length x.c, .int .u64 t] u (SortedPost (lastL (seenL xs x.cs t)) u) := fun u hu => viewsOf_any al cl xs x.a x.c x.cs t u (HL.out.ext (hBr.trans (hu.mono hBr.size))) (HC.out.ext (hBr.trans (hu.mono hBr.size))) hl hc
      have HALL := Lib.hid hall
      have HT := Lib.hid ht
      have HBR := Lib.hid hBr
      have HB0 := Lib.hid hb0
      have HB1 := Lib.hid hb1
      have HER := Lib.hid hEr
      have hl1 : w.heap.size < wr.heap.size := by omega
      have hi0 : (0 : Int) ≤ (i : Int) := by omega
      have hi1 : (i : Int) < (ts.length : Int) := by omega
      clear hall ht hcl hii hno hBr hb0 hb1 hEr
      go_wp2_with fail
      go_region_held3 (fun w' => w'.cell? ⟨w.heap.size, 0, none⟩ = some (.slice x.a x.cs.length x.c) ∧ w'.cell? ⟨tb, tof + i, none⟩ = some (.int .u64 t)) (go_keep)
        (first | (go_at_call 12; refine ((HALL.out _ (by first | exact (Below.refl _ _).drew | exact Below.refl _ _)).mono ?_); rintro e w5 ⟨a2, ys, rfl, hp2, hpw2, hF2, hn2, hB5⟩; have hb5 : Below wr.heap.size wr w5 := (by first | exact (Below.refl _ _).drew | exact Below.refl _ _ : Below wr.heap.size wr _).trans hB5; have m0 := (hb5.cell (p := ⟨w.heap.size, 0, none⟩) hl1).trans t0; have m1 := (hb5.cell (p := ⟨tb, tof + i, none⟩) htb).trans e0))
      rename_i hheld
      have HP2 := Lib.hid hp2
      have HF2 := Lib.hid hF2
      have k0 := blk_below HB0.out hb5 hl1
      have k1 := blk_below HB1.out hb5 (show w.heap.size + 1 < wr.heap.size by omega)
      have HE5 := Lib.hid (HER.out.ext hb5)
      have HB5 := Lib.hid (HBR.out.trans (hb5.mono HBR.out.size))
      have hs5 : w.heap.size + 2 ≤ w5.heap.size := Nat.le_trans hsr hb5.size
      have hyl : ys.length < 1000000 := by
        rw [hp2.length_eq]
        have h1 := lastM_len (seenL xs x.cs t)
        have h2 : (seenL xs x.cs t).length ≤ xs.length := List.length_filter_le _ _
        have h3 : (lastL (seenL xs x.cs t)).length = (lastM (seenL xs x.cs t)).length := List.length_map _
        omega
      have HB0 := Lib.hid k0
      have HB1 := Lib.hid k1
      clear hheld hp2 hF2 k0 k1 hb5 hB5 hpw2 hn2 t0 e0 m0 m1 HALL HER HBR
      go_wp2_with fail
      obtain ⟨g1, rfl⟩ : ∃ g : Nat, g = gk := ⟨_, rfl⟩
      go_loopg [10] ys.length (fun gk kv wr => ∃ k n : Nat, k + gk = ys.length ∧ kv = .int .i64 k ∧ (∀ (q : Nat) (hq : q < ys.length), q < k → ys[q] ≠ f) ∧ wr = w5.drewN n)
      case atStart => exact ⟨0, 0, by omega, rfl, fun _ _ h => by omega, rfl⟩
      case round =>
        obtain ⟨k, n, hk, rfl, hn2, rfl⟩ := hrel
        have HN2 := Lib.hid hn2
        clear hn2
        by_cases hkl : k < ys.length
        · obtain ⟨yb, yo, rfl, hyb, hcy⟩ := HF2.out.get k hkl
          obtain ⟨y, hy⟩ : ∃ y, y = ys[k] := ⟨_, rfl⟩
          rw [← hy] at hcy
          have e0 := hcy 0 _ rfl
          have e1 := hcy 1 _ rfl
          have e2 := hcy 2 _ rfl
          have e3 := hcy 3 _ rfl
          have e4 := hcy 4 _ rfl
          have e5 := hcy 5 _ rfl
          have f0 := cell_of_blk HB1.out 0
          have f1 := cell_of_blk HB1.out 1
          have f2 := cell_of_blk HB1.out 2
          have f3 := cell_of_blk HB1.out 3
          have f4 := cell_of_blk HB1.out 4
          have f5 := cell_of_blk HB1.out 5
          simp only [Nat.add_zero] at e0 e1 e2 e3 e4 e5
          simp at f0 f1 f2 f3 f4 f5
          have hk0 : (0 : Int) ≤ (k : Int) := by omega
          have hk1 : (k : Int) < (ys.length : Int) := by omega
          have heq := run_eqlF y f
          have hgt := guardF
          obtain ⟨wq, hwq⟩ : ∃ wq, wq = w5.drewN n := ⟨_, rfl⟩
          have hcq : ∀ p, wq.cell? p = w5.cell? p := fun p => by rw [hwq]; rfl
          rw [← hcq] at e0 e1 e2 e3 e4 e5 f0 f1 f2 f3 f4 f5
          rw [← hwq]
          have HWQ := Lib.hid hwq
          have HY := Lib.hid hy
          clear hcq hwq hcy hy
          cases hs : sameF y f with
          | true =>
            have HQ := Lib.hid (sameF_iff.1 hs)
            rw [hs] at heq
            clear hs
            go_wp2_with fail
            go_quiet (fail)
            go_wp2
            go_ret
            refine ⟨true, rfl, ⟨fun _ => ?_, fun _ => rfl⟩, ?_⟩
            · refine (sees_ats xs x f).2 ⟨t, by rw [← HTS.out, HT.out]; exact List.getElem_mem _, ?_⟩
              rw [← HQ.out, HY.out]
              exact HP2.out.mem_iff.1 (List.getElem_mem _)
            · rw [HWQ.out, World.drewN_drewN]
              exact below_drewN HB5.out _
          | false =>
            have HQ := Lib.hid (show y ≠ f from fun e => by rw [sameF_iff.2 e] at hs; cases hs)
            rw [hs] at heq
            clear hs
            go_wp2_with fail
            go_quiet (fail)
            go_wp2
            go_roundg (gk - 1)
            case measure => omega
            case rel =>
              refine ⟨k + 1, n + nq, by omega, by go_num, fun q hq hqk => ?_, by rw [HWQ.out, World.drewN_drewN]⟩
              rcases Nat.lt_or_eq_of_le (Nat.le_of_lt_succ hqk) with h | h
              · exact HN2.out q hq h
              · subst h; rw [← HY.out]; exact HQ.out
        · have hke : k = ys.length := by omega
          subst hke
          go_wp2
          go_roundg (g1 - 1)
          case measure => omega
          case rel =>
            refine ⟨i + 1, by omega, by go_num, fun q hq hqi => ?_, below_drewN HB5.out _, hs5, HB0.out, HB1.out, ⟨fun j hj => HE5.out.get j hj⟩⟩
            rcases Nat.lt_or_eq_of_le (Nat.le_of_lt_succ hqi) with h | h
            · exact HNO.out q hq h
            · subst h
              intro hm
              rw [← HT.out] at hm
              obtain ⟨r, hr, he⟩ := List.getElem_of_mem (HP2.out.mem_iff.2 hm)
              exact HN2.out r hr hr he
    · have hie : i = ts.length := by omega
      subst hie
      have HBR := Lib.hid hBr
      clear hno hb0 hb1 hBr hEr
      go_wp2
      go_ret
      refine ⟨false, rfl, ⟨fun h => by simp at h, fun h => ?_⟩, HBR.out⟩
      obtain ⟨t, ht1, ht2⟩ := (sees_ats xs x f).1 h
      rw [← HTS.out] at ht1
      obtain ⟨q, hq, rfl⟩ := List.getElem_of_mem ht1
      exact absurd ht2 (HNO.out q hq hq)
end Go.Proofs.Yticcccciefaemaa
