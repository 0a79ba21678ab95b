/- ViewsTime's walk. No condition. -/
import Derived.Test.YtenocakpipppiaaV3
namespace Go.Proofs.Ytenocakpipppiaa
open Go.RowKit Go.Shelf Go.Herb

/-- A fact that puts. -/
def putF (f : Fc) : Fc := ⟨f.key, f.valid, f.seq, f.line, 0, f.val, f.wk, f.wv, f.ws, f.wl, rfl⟩

theorem best_put (f : Fc) (xs : List Fc) : bestF f.key f.valid (putF f :: xs) = some (putF f) := by
  unfold bestF
  have h0 : bestStep f.key f.valid none (putF f) = some (putF f) := by simp [bestStep, putF]
  rw [List.foldl_cons, h0]
  induction xs with
  | nil => rfl
  | cons x xs ih =>
    rw [List.foldl_cons]
    have : bestStep f.key f.valid (some (putF f)) x = some (putF f) := by
      unfold bestStep
      rw [if_neg]
      rintro ⟨_, h1, h2⟩
      have := h2 _ rfl
      simp [putF] at this
      omega
    rw [this]
    exact ih
theorem value_put (f : Fc) (xs : List Fc) : valueL f.key f.valid (putF f :: xs) = (f.val, true) := by
  unfold valueL
  rw [best_put]
  rfl
theorem value_later (f : Fc) (xs : List Fc) : valueL f.key (f.valid - 1) (putF f :: xs) = valueL f.key (f.valid - 1) xs := by
  unfold valueL bestF
  rw [List.foldl_cons]
  have : bestStep f.key (f.valid - 1) none (putF f) = none := by
    unfold bestStep
    rw [if_neg]
    rintro ⟨_, h1, _⟩
    simp [putF] at h1
    omega
  rw [this]

theorem row_of_one {w : World} {vb : Nat} {x : Fc} (hb : w.heap[vb]? = some (.cells (fc x).toArray 34 (0, 0))) : Row fc 6 34 w vb 1 [x] :=
  ⟨⟨_, hb, rfl, by simp [fc]⟩, Nat.le_refl _, by unfold maxLen; decide⟩

theorem viewsTime_great (a : Option Addr) (cap : Nat) (xs : List Fc) (f : Fc) (w : World) (hL : SlIn fc 6 w a cap xs) (hg : 120 < xs.length) :
    Calls Try.prog 5 #[.slice a xs.length cap, fv f] w fun e w' => e = .returned (.bool true) ∧ Below w.heap.size w w' := by
  have hm := hL.lenle
  have hd : (decide (120 < xs.length) || decide (40 < 0)) = true := by simp [hg]
  have HM := Lib.hid hm
  clear hL hg hm
  go_enter Try.func5, Try.ntmps5
  go_wp2_with fail
  refine (great17_any _ _ _ _ _ _ _ HM.out (by unfold maxLen; decide)).mono ?_
  rintro e w' ⟨rfl, rfl⟩
  rw [hd]
  go_wp2_with fail
  refine (livesV_any _).mono ?_
  rintro e w' ⟨rfl, hB⟩
  have HB := Lib.hid hB
  clear hB
  go_wp2
  go_ret
  exact ⟨rfl, ((Below.refl _ _).alloc (Nat.le_refl _) _).trans (HB.out.mono (by simp))⟩

set_option maxRecDepth 100000 in
set_option maxHeartbeats 1000000 in
theorem viewsTime_small (a : Option Addr) (cap : Nat) (xs : List Fc) (f : Fc) (w : World) (hL : SlIn fc 6 w a cap xs) (hg : ¬ 120 < xs.length) :
    Calls Try.prog 5 #[.slice a xs.length cap, fv f] w fun e w' => e = .returned (.bool true) ∧ Below w.heap.size w w' := by
  have hm := hL.lenle
  have hd : (decide (120 < xs.length) || decide (40 < 0)) = false := by simp; omega
  have hx : xs.length < 1000000 := by omega
  have HM := Lib.hid hm
  have HL := Lib.hid hL
  have HX := Lib.hid hx
  have HX1 := Lib.hid (show xs.length + 1 < 1000000 by omega)
  clear hL hg hm hx
  obtain ⟨X, hX⟩ : ∃ X : World, X = (w.alloc (.cells #[.string f.key, .int .u32 f.valid, .int .u64 f.seq, .int .u64 f.line, .int .u8 0, .string f.val] 34)).alloc (.cells #[.string f.key, .int .u32 f.valid, .int .u64 f.seq, .int .u64 f.line, .int .u8 0, .string f.val] 34) := ⟨_, rfl⟩
  have hBX : Below w.heap.size w X := by rw [hX]; exact ((Below.refl _ _).alloc (Nat.le_refl _) _).alloc (by simp) _
  have hX0 : X.heap[w.heap.size]? = some (.cells (fc (putF f)).toArray 34 (0, 0)) := by rw [hX]; exact blk_alloc (blk_new_at rfl _)
  have hX1 : X.heap[w.heap.size + 1]? = some (.cells (fc (putF f)).toArray 34 (0, 0)) := by rw [hX]; exact blk_new_at (by simp) _
  have hsX : X.heap.size = w.heap.size + 2 := by rw [hX]; simp
  have hown : OwnF (w.heap.size + 1) X (.slice (some ⟨w.heap.size + 1, 0, none⟩) 1 1) [putF f] := (row_of_one hX1).owns fc_len (Nat.le_refl _)
  obtain ⟨v', w1, hrun, hO, hgr⟩ := run_append_facts X (w.heap.size + 1) _ [putF f] a cap xs hown (HL.out.els.ext hBX) (by simp) HX.out HL.out.none (by omega) (22)
  have hgo : ∀ k, (Value.slice (some ⟨w.heap.size + 1, 0, none⟩) 1 1).ownBlock = some k → w.heap.size + 1 ≤ k := by
    intro k hk
    injection hk with hk
    exact Nat.le_of_eq hk
  have hb0 : w1.heap[w.heap.size]? = some (.cells (fc (putF f)).toArray 34 (0, 0)) := (hgr.block _ (by omega) (fun e => by have := hgo _ e.symm; omega)).trans hX0
  have hB1 : Below w.heap.size w w1 := hBX.grown hgr (by omega) (fun k e => by have := hgo k e; omega)
  obtain ⟨av, cv, rfl, -, hE⟩ := els_of_owns fc_len (show w1.ownsRow (w.heap.size + 1) 34 6 v' ([putF f] ++ xs).length (([putF f] ++ xs).flatMap fc) from hO)
  have hs1 : w.heap.size < w1.heap.size := lt_of_blk hb0
  have c0 := cell_of_blk hb0 0
  have c1 := cell_of_blk hb0 1
  have c5 := cell_of_blk hb0 5
  simp [fc, putF] at c0 c1 c5
  have h1 := value_any av cv ([putF f] ++ xs) f.key f.valid w1 hE (by have := HX1.out; simp; omega)
  rw [show [putF f] ++ xs = putF f :: xs from rfl, value_put] at h1
  rw [hX] at hrun
  have HRUN := Lib.hid hrun
  have HB1 := Lib.hid hB1
  have HE := Lib.hid hE
  have H1 := Lib.hid h1
  have C0 := Lib.hid c0
  have C1 := Lib.hid c1
  have C5 := Lib.hid c5
  clear hX hBX hX0 hX1 hsX hown hrun hO hgr hgo hb0 hB1 hE h1 c0 c1 c5
  have hlen : ([putF f] ++ xs).length = xs.length + 1 := by simp
  rw [hlen] at HRUN
  rw [show (putF f :: xs).length = xs.length + 1 from rfl] at H1
  clear hlen
  go_enter Try.func5, Try.ntmps5
  go_wp2_with fail
  refine (great17_any _ _ _ _ _ _ _ HM.out (by unfold maxLen; decide)).mono ?_
  rintro e w' ⟨rfl, rfl⟩
  rw [hd]
  clear hd
  go_wp2_with (at_builtin; refine Lib.wpList_append_run _ rfl _ _ _ _ rfl _ _ rfl rfl _ _ (HRUN.out) ?_; have c0 := C0.out; have c1 := C1.out)
  refine (H1.out).mono ?_
  rintro e w2 ⟨rfl, hB2⟩
  have c0' := (hB2.cell (p := ⟨w.heap.size, 0, none⟩) hs1).trans C0.out
  have c1' := (hB2.cell (p := ⟨w.heap.size, 1, none⟩) hs1).trans C1.out
  have c5' := (hB2.cell (p := ⟨w.heap.size, 5, none⟩) hs1).trans C5.out
  have hs2 := hB2.size
  have hBt : Below w.heap.size w w2 := HB1.out.trans (hB2.mono (by omega))
  have HBT := Lib.hid hBt
  have HB2 := Lib.hid hB2
  have hv1 : valueL f.key (f.valid - 1) ([putF f] ++ xs) = valueL f.key (f.valid - 1) xs := value_later f xs
  have hV : Facts w2 a xs := HL.out.els.ext hBt
  have h2 := value_any a cap xs f.key (f.valid - 1) w2 hV HX.out
  have H2 := Lib.hid h2
  have HV1 := Lib.hid hv1
  clear hv1 hV h2 hBt hB2 c0 c1
  have hb := bounds_u32 f.wv
  have hb0 := hb.1
  have hb1 := hb.2
  clear hb
  have HC0 := Lib.hid c0'
  have HC1 := Lib.hid c1'
  clear C0 C1
  by_cases hz : f.valid = 0
  · have hzb : (f.valid == 0) = true := by simp [hz]
    clear hz
    go_wp2_with fail
    refine (livesV_any _).mono ?_
    rintro e w3 ⟨rfl, hB3⟩
    have HB3 := Lib.hid hB3
    clear hB3
    go_wp2
    go_ret
    exact ⟨rfl, HBT.out.trans (HB3.out.mono HBT.out.size)⟩
  · have hzb : (f.valid == 0) = false := by simp [hz]
    have hz1 : 1 ≤ f.valid := by omega
    clear hz
    go_wp2_with fail
    refine (H2.out).mono ?_
    rintro e w3 ⟨rfl, hB3⟩
    have d0 := (hB3.cell (p := ⟨w.heap.size, 0, none⟩) (show w.heap.size < _ by omega)).trans HC0.out
    have d1 := (hB3.cell (p := ⟨w.heap.size, 1, none⟩) (show w.heap.size < _ by omega)).trans HC1.out
    have hs3 := hB3.size
    have hB13 : Below w1.heap.size w1 w3 := HB2.out.trans (hB3.mono hs2)
    have h3 := value_any av cv ([putF f] ++ xs) f.key (f.valid - 1) w3 (HE.out.ext hB13) (by have := HX1.out; simp; omega)
    rw [HV1.out, show ([putF f] ++ xs).length = xs.length + 1 from by simp] at h3
    have HBT3 := Lib.hid (HBT.out.trans (hB3.mono HBT.out.size))
    have H3 := Lib.hid h3
    clear c0' c1' c5' hB13 h3 hB3
    generalize valueL f.key (f.valid - 1) xs = r at *
    clear H2 HV1
    go_wp2_with fail
    refine (H3.out).mono ?_
    rintro e w4 ⟨rfl, hB4⟩
    have HBT4 := Lib.hid (HBT3.out.trans (hB4.mono HBT3.out.size))
    clear hB4
    go_wp2_with fail
    refine (livesV_any _).mono ?_
    rintro e w5 ⟨rfl, hB5⟩
    have HBT5 := Lib.hid (HBT4.out.trans (hB5.mono HBT4.out.size))
    clear hB5
    go_wp2
    go_ret
    exact ⟨rfl, HBT5.out⟩

theorem viewsTime_any (a : Option Addr) (cap : Nat) (xs : List Fc) (f : Fc) (w : World) (hL : SlIn fc 6 w a cap xs) :
    Calls Try.prog 5 #[.slice a xs.length cap, fv f] w fun e w' => e = .returned (.bool true) ∧ Below w.heap.size w w' := by
  by_cases hg : 120 < xs.length
  · exact viewsTime_great a cap xs f w hL hg
  · exact viewsTime_small a cap xs f w hL hg
end Go.Proofs.Ytenocakpipppiaa
