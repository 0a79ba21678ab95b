/- ref16: with. Condition: fewer than 100000 points. -/
import Derived.Test.YtnnpheklgdbohaaY1
namespace Go.Herb
theorem putS_end {b : Bh} {k s : Int} (h : ∀ q ∈ b, q.1 < k) : putS b k s = b ++ [(k, s)] := by
  unfold putS
  rw [List.filter_eq_self.2 (fun q hq => decide_eq_true (h q hq)), List.filter_eq_nil_iff.2 (fun q hq => by have := h q hq; simp; omega)]
theorem putS_same_snoc {b : Bh} {k s : Int} {x : Int × Int} (h : ∀ q ∈ b, q.1 < k) (hx : x.1 = k) : putS (b ++ [x]) k s = b ++ [(k, s)] := by
  unfold putS
  have h1 : b.filter (fun q => decide (q.1 < k)) = b := List.filter_eq_self.2 (fun q hq => decide_eq_true (h q hq))
  have h2 : b.filter (fun q => decide (k < q.1)) = [] := List.filter_eq_nil_iff.2 (fun q hq => by have := h q hq; simp; omega)
  rw [List.filter_append, List.filter_append, h1, h2]
  simp [hx]
theorem putS_gt_snoc {b : Bh} {k s : Int} {x : Int × Int} (hx : k < x.1) : putS (b ++ [x]) k s = putS b k s ++ [x] := by
  unfold putS
  rw [List.filter_append, List.filter_append]
  have : ¬ x.1 < k := by omega
  simp [hx, this]
/-- What 'with' has put down of the first i. -/
def WithSt (b : Bh) (k s : Int) (i : Nat) (put : Bool) (out : Bh) : Prop :=
  (put = false ∧ (∀ q ∈ b.take i, q.1 < k) ∧ out = b.take i) ∨ (put = true ∧ out = putS (b.take i) k s ∧ ∃ q ∈ b.take i, k ≤ q.1)
theorem WithSt.step {b : Bh} {k s : Int} {i : Nat} {put : Bool} {out : Bh} (h : WithSt b k s i put out) (hb : SrtK b) {x : Int × Int} (hx : b[i]? = some x) :
    (put = true → k < x.1 ∧ WithSt b k s (i + 1) true (out ++ [x])) ∧ (put = false → x.1 < k → WithSt b k s (i + 1) false (out ++ [x])) ∧
    (put = false → x.1 = k → WithSt b k s (i + 1) true (out ++ [(k, s)])) ∧ (put = false → k < x.1 → WithSt b k s (i + 1) true (out ++ [(k, s)] ++ [x])) := by
  obtain ⟨hi, rfl⟩ := List.getElem?_eq_some_iff.1 hx
  have ht := List.take_succ_eq_append_getElem hi
  unfold WithSt
  rw [ht]
  rcases h with ⟨rfl, h1, rfl⟩ | ⟨rfl, rfl, q, hq, hk⟩
  · refine ⟨fun h => (by cases h), fun _ hlt => .inl ⟨rfl, fun q hq => ?_, rfl⟩, fun _ he => .inr ⟨rfl, (putS_same_snoc h1 he).symm, b[i], List.mem_append_right _ (List.mem_singleton.2 rfl), by omega⟩, fun _ hlt => .inr ⟨rfl, ?_, b[i], List.mem_append_right _ (List.mem_singleton.2 rfl), by omega⟩⟩
    · rcases List.mem_append.1 hq with hq | hq
      · exact h1 q hq
      · rw [List.mem_singleton.1 hq]; exact hlt
    · rw [putS_gt_snoc hlt, putS_end h1]
  · refine ⟨fun _ => ?_, fun h => (by cases h), fun h => (by cases h), fun h => (by cases h)⟩
    have hlt : k < b[i].1 := by
      obtain ⟨j, hj, he⟩ := List.getElem_of_mem hq
      rw [List.getElem_take] at he
      have hj' : j < i := by simp at hj; omega
      have := List.pairwise_iff_getElem.1 hb j i (by omega) hi hj'
      rw [he] at this
      omega
    exact ⟨hlt, .inr ⟨rfl, (putS_gt_snoc hlt).symm, q, List.mem_append_left _ hq, hk⟩⟩
theorem WithSt.len {b : Bh} {k s : Int} {i : Nat} {put : Bool} {out : Bh} (h : WithSt b k s i put out) : out.length ≤ b.length + 1 := by
  rcases h with ⟨_, _, rfl⟩ | ⟨_, rfl, _⟩
  · simp; omega
  · have := putS_len (b := b.take i) (k := k) (v := s)
    simp at this
    omega
end Go.Herb
namespace Go.Proofs.Ytnnpheklgdbohaa
open Go.RowKit Go.Shelf Go.Herb

theorem app_one {w0 wr : World} {v : Value} {ys : Bh} (x : Int × Int) (hb : Below w0.heap.size w0 wr) (hO : OwnP w0.heap.size wr v ys) (hl : ys.length < 1000000) :
    ∃ v' w9, (∀ ty, (Builtin.append_ #[(30), (30)] ty #[v, .slice (some ⟨wr.heap.size, 0, none⟩) 1 1]).run Try.prog (wr.alloc (.cells #[.int .u64 x.1, .int .u64 x.2] (34))) = .ok v' w9) ∧ OwnP w0.heap.size w9 v' (ys ++ [x]) ∧ Below w0.heap.size w0 w9 := by
  have hZb : Below wr.heap.size wr (wr.alloc (.cells #[.int .u64 x.1, .int .u64 x.2] (34))) := (Below.refl _ _).alloc (Nat.le_refl _) _
  have hs := hb.size
  have hzs := hZb.size
  obtain ⟨v', w9, hrun, hO9, hg9⟩ := run_append_p (wr.alloc (.cells #[.int .u64 x.1, .int .u64 x.2] (34))) w0.heap.size v ys wr.heap.size x (ownsRow_below hO hZb (Nat.le_refl _)) (blk_new_at rfl _) hl (by omega) (30)
  exact ⟨v', w9, fun _ => hrun, hO9, (hb.trans (hZb.mono hs)).grown hg9 (by omega) (fun k e => (World.ownsRow.lt hO k e).1)⟩

set_option maxRecDepth 100000 in
set_option maxHeartbeats 2000000 in
theorem with_any (a : Option Addr) (cap n : Nat) (b : Bh) (k s : Int) (w : World) (h : Pts w a b) (hn : b.length = n) (hm : n < 100000) (hS : SrtK b) :
    Calls Try.prog (44) #[.slice a n cap, .agg #[.int .u64 k, .int .u64 s]] w fun e w' => ∃ va vcap, e = .returned (.slice va (putS b k s).length vcap) ∧ OwnP w.heap.size w' (.slice va (putS b k s).length vcap) (putS b k s) ∧ Below w.heap.size w w' := by
  obtain ⟨w0, hw0⟩ : ∃ w0 : World, w0 = w.alloc (.cells #[.int .u64 k, .int .u64 s] (34)) := ⟨_, rfl⟩
  have hb0 : Below w.heap.size w w0 := by rw [hw0]; exact (Below.refl _ _).alloc (Nat.le_refl _) _
  have hbx : w0.heap[w.heap.size]? = some (.cells #[.int .u64 k, .int .u64 s] (34) (0, 0)) := by rw [hw0]; exact blk_new_at rfl _
  have hs0 : w0.heap.size = w.heap.size + 1 := by rw [hw0]; simp
  have H := Lib.hid (show Pts w0 a b from h.ext hb0)
  have HN := Lib.hid hn
  have HS := Lib.hid hS
  have HB0 := Lib.hid hb0
  have HBX := Lib.hid hbx
  have HS0 := Lib.hid hs0
  clear h hn hS hb0 hbx hs0
  go_enter Try.func44, Try.ntmps44
  go_wp2_with fail
  rw [← hw0]
  clear hw0
  go_loopg [5, 6, 7] n (fun gk ov pv iv wr => ∃ (i : Nat) (put : Bool) (out : Bh), i + gk = n ∧ iv = .int .i64 i ∧ pv = .bool put ∧ Hid (WithSt b k s i put out) ∧ Hid (OwnP w0.heap.size wr ov out) ∧ Hid (Below w0.heap.size w0 wr))
  case atStart => exact ⟨0, false, [], by omega, rfl, rfl, Lib.hid (.inl ⟨rfl, by simp, rfl⟩), Lib.hid (World.ownsRow_nil _ _ _ _), Lib.hid (Below.refl _ _)⟩
  case round =>
    obtain ⟨i, put, out, hi, rfl, rfl, HW, HO, HB⟩ := hrel
    by_cases hlt : i < n
    · have hil : i < b.length := by have := HN.out; omega
      obtain ⟨b', o, rfl, hlb, hc⟩ := H.out.get i hil
      have hc0 := hc 0 _ rfl
      have hc1 := hc 1 _ rfl
      have HST := Lib.hid (HW.out.step HS.out (List.getElem?_eq_getElem hil))
      have HOL := Lib.hid (show out.length < 100002 by have := HW.out.len; have := HN.out; omega)
      clear hc
      generalize b[i] = x at *
      obtain ⟨xl, xs⟩ := x
      simp only [Nat.add_zero] at hc0 hc1 HST
      have HF : Hid (∀ u, Below w0.heap.size w0 u → u.cell? ⟨b', o + i * 2, none⟩ = some (.int .u64 xl) ∧ u.cell? ⟨b', o + i * 2 + 1, none⟩ = some (.int .u64 xs) ∧ u.cell? ⟨w.heap.size, 0, none⟩ = some (.int .u64 k) ∧ u.cell? ⟨w.heap.size, 1, none⟩ = some (.int .u64 s)) := Lib.hid (fun u hu => by
        have hbxr := (hu.block w.heap.size (by have := HS0.out; omega)).trans HBX.out
        have k0 := cell_of_blk hbxr 0
        have k1 := cell_of_blk hbxr 1
        simp at k0 k1
        exact ⟨(hu.cell (p := ⟨b', _, none⟩) hlb).trans hc0, (hu.cell (p := ⟨b', _, none⟩) hlb).trans hc1, k0, k1⟩)
      have hk0 : (0 : Int) ≤ (i : Int) := by omega
      have hk1 : (i : Int) < (n : Int) := by omega
      clear hc0 hc1 hlb
      cases put with
      | true =>
        obtain ⟨hgt, hst⟩ := HST.out.1 rfl
        have HST2 := Lib.hid hst
        have hne : ¬ xl = k := by omega
        have hnb : (xl != k) = true := by simp [hne]
        clear hst
        obtain ⟨x0, x1, k0, k1⟩ := HF.out _ HB.out
        go_wp2_with fail
        go_quiet (fail)
        have HOq := Lib.hid (show OwnP w0.heap.size (wr.drewN nq) u5 out from HO.out)
        have HBq := Lib.hid (show Below w0.heap.size w0 (wr.drewN nq) from below_drN HB.out nq)
        clear x0 x1 k0 k1
        generalize wr.drewN nq = wq at *
        obtain ⟨x0, x1, k0, k1⟩ := HF.out _ HBq.out
        go_wp2_with fail
        go_quiet (fail)
        have HOqq := Lib.hid (show OwnP w0.heap.size (wq.drewN nq) u5 out from HOq.out)
        have HBqq := Lib.hid (show Below w0.heap.size w0 (wq.drewN nq) from below_drN HBq.out nq)
        clear x0 x1 k0 k1
        generalize wq.drewN nq = wq2 at *
        obtain ⟨x0, x1, k0, k1⟩ := HF.out _ HBqq.out
        obtain ⟨v1, w9, hrun, hO9, hB9⟩ := app_one (xl, xs) HBqq.out HOqq.out (by have := HOL.out; omega)
        have HR1 := Lib.hid hrun
        have HO1 := Lib.hid hO9
        have HB1 := Lib.hid hB9
        clear hrun hO9 hB9
        go_wp2_with (at_builtin; refine Lib.wpList_append_run _ rfl _ _ _ _ rfl _ _ rfl rfl _ _ (HR1.out _) ?_)
        go_roundg (gk - 1)
        case measure => omega
        case rel => exact ⟨i + 1, true, out ++ [(xl, xs)], by omega, by go_num, rfl, HST2, HO1, HB1⟩
      | false =>
        by_cases hlt2 : xl < k
        · have HST2 := Lib.hid (HST.out.2.1 rfl hlt2)
          have hne : ¬ xl = k := by omega
          have hnb : (xl != k) = true := by simp [hne]
          have hge : ¬ k ≤ xl := by omega
          obtain ⟨x0, x1, k0, k1⟩ := HF.out _ HB.out
          go_wp2_with fail
          go_quiet (fail)
          have HOq := Lib.hid (show OwnP w0.heap.size (wr.drewN nq) u5 out from HO.out)
          have HBq := Lib.hid (show Below w0.heap.size w0 (wr.drewN nq) from below_drN HB.out nq)
          clear x0 x1 k0 k1
          generalize wr.drewN nq = wq at *
          obtain ⟨x0, x1, k0, k1⟩ := HF.out _ HBq.out
          go_wp2_with fail
          go_quiet (fail)
          have HOqq := Lib.hid (show OwnP w0.heap.size (wq.drewN nq) u5 out from HOq.out)
          have HBqq := Lib.hid (show Below w0.heap.size w0 (wq.drewN nq) from below_drN HBq.out nq)
          clear x0 x1 k0 k1
          generalize wq.drewN nq = wq2 at *
          obtain ⟨x0, x1, k0, k1⟩ := HF.out _ HBqq.out
          obtain ⟨v1, w9, hrun, hO9, hB9⟩ := app_one (xl, xs) HBqq.out HOqq.out (by have := HOL.out; omega)
          have HR1 := Lib.hid hrun
          have HO1 := Lib.hid hO9
          have HB1 := Lib.hid hB9
          clear hrun hO9 hB9
          go_wp2_with (at_builtin; refine Lib.wpList_append_run _ rfl _ _ _ _ rfl _ _ rfl rfl _ _ (HR1.out _) ?_)
          go_roundg (gk - 1)
          case measure => omega
          case rel => exact ⟨i + 1, false, out ++ [(xl, xs)], by omega, by go_num, rfl, HST2, HO1, HB1⟩
        · have hge : k ≤ xl := by omega
          by_cases he : xl = k
          · have HST2 := Lib.hid (HST.out.2.2.1 rfl he)
            obtain ⟨x0, x1, k0, k1⟩ := HF.out _ HB.out
            go_wp2_with fail
            go_quiet (fail)
            have HOq := Lib.hid (show OwnP w0.heap.size (wr.drewN nq) u5 out from HO.out)
            have HBq := Lib.hid (show Below w0.heap.size w0 (wr.drewN nq) from below_drN HB.out nq)
            clear x0 x1 k0 k1
            generalize wr.drewN nq = wq at *
            obtain ⟨x0, x1, k0, k1⟩ := HF.out _ HBq.out
            have HE := Lib.hid he
            obtain ⟨v1, w9, hrun, hO9, hB9⟩ := app_one (k, s) HBq.out HOq.out (by have := HOL.out; omega)
            have HR1 := Lib.hid hrun
            have HO1 := Lib.hid hO9
            have HB1 := Lib.hid hB9
            clear hrun hO9 hB9
            clear he
            go_wp2_with (at_builtin; refine Lib.wpList_append_run _ rfl _ _ _ _ rfl _ _ rfl rfl _ _ (HR1.out _) ?_)
            clear x0 x1 k0 k1
            obtain ⟨x0, x1, k0, k1⟩ := HF.out _ HB1.out
            have he := HE.out
            have hnb : (xl != k) = false := by simp [he]
            subst he
            go_wp2_with fail
            go_quiet (fail)
            have HO1q := Lib.hid (show OwnP w0.heap.size (w9.drewN nq) v1 (out ++ [(xl, s)]) from HO1.out)
            have HB1q := Lib.hid (show Below w0.heap.size w0 (w9.drewN nq) from below_drN HB1.out nq)
            clear x0 x1 k0 k1
            generalize w9.drewN nq = wq2 at *
            go_wp2_with fail
            go_roundg (gk - 1)
            case measure => omega
            case rel => exact ⟨i + 1, true, out ++ [(xl, s)], by omega, by go_num, rfl, HST2, HO1q, HB1q⟩
          · have HST2 := Lib.hid (HST.out.2.2.2 rfl (by omega))
            have hnb : (xl != k) = true := by simp [he]
            obtain ⟨x0, x1, k0, k1⟩ := HF.out _ HB.out
            go_wp2_with fail
            go_quiet (fail)
            have HOq := Lib.hid (show OwnP w0.heap.size (wr.drewN nq) u5 out from HO.out)
            have HBq := Lib.hid (show Below w0.heap.size w0 (wr.drewN nq) from below_drN HB.out nq)
            clear x0 x1 k0 k1
            generalize wr.drewN nq = wq at *
            obtain ⟨x0, x1, k0, k1⟩ := HF.out _ HBq.out
            obtain ⟨v1, w9, hrun, hO9, hB9⟩ := app_one (k, s) HBq.out HOq.out (by have := HOL.out; omega)
            have HR1 := Lib.hid hrun
            have HO1 := Lib.hid hO9
            have HB1 := Lib.hid hB9
            clear hrun hO9 hB9
            go_wp2_with (at_builtin; refine Lib.wpList_append_run _ rfl _ _ _ _ rfl _ _ rfl rfl _ _ (HR1.out _) ?_)
            clear x0 x1 k0 k1
            obtain ⟨x0, x1, k0, k1⟩ := HF.out _ HB1.out
            go_wp2_with fail
            go_quiet (fail)
            have HO1q := Lib.hid (show OwnP w0.heap.size (w9.drewN nq) v1 (out ++ [(k, s)]) from HO1.out)
            have HB1q := Lib.hid (show Below w0.heap.size w0 (w9.drewN nq) from below_drN HB1.out nq)
            clear x0 x1 k0 k1
            generalize w9.drewN nq = wq2 at *
            obtain ⟨x0, x1, k0, k1⟩ := HF.out _ HB1q.out
            obtain ⟨v2, w10, hrun, hO9, hB9⟩ := app_one (xl, xs) HB1q.out HO1q.out (by have := HOL.out; rw [List.length_append]; simp; omega)
            have HR2 := Lib.hid hrun
            have HO2 := Lib.hid hO9
            have HB2 := Lib.hid hB9
            clear hrun hO9 hB9
            go_wp2_with (at_builtin; refine Lib.wpList_append_run _ rfl _ _ _ _ rfl _ _ rfl rfl _ _ (HR2.out _) ?_)
            go_roundg (gk - 1)
            case measure => omega
            case rel => exact ⟨i + 1, true, out ++ [(k, s)] ++ [(xl, xs)], by omega, by go_num, rfl, HST2, HO2, HB2⟩
    · have hi2 : i = b.length := by have := HN.out; omega
      have HOL := Lib.hid (show out.length < 100002 by have := HW.out.len; have := HN.out; omega)
      have hbxr := (HB.out.block w.heap.size (by have := HS0.out; omega)).trans HBX.out
      have k0 := cell_of_blk hbxr 0
      have k1 := cell_of_blk hbxr 1
      simp at k0 k1
      have HBW := Lib.hid (fun (u : World) (hu : Below w0.heap.size w0 u) => (show Below w.heap.size w u from HB0.out.trans (hu.mono HB0.out.size)))
      cases put with
      | true =>
        have ho : out = putS b k s := by
          rcases HW.out with ⟨h1, _⟩ | ⟨_, h1, _⟩
          · cases h1
          · rw [hi2, List.take_length] at h1; exact h1
        subst ho
        obtain ⟨oa, oc, rfl, -, -, -, -⟩ := own_parts HO.out
        have HE := Lib.hid (ownsRow_mono HO.out (by have := HS0.out; omega : w.heap.size ≤ w0.heap.size))
        clear hbxr k0 k1 hi2
        go_wp2_with fail
        go_ret
        exact ⟨oa, oc, rfl, HE.out, HBW.out _ HB.out⟩
      | false =>
        have ho : out ++ [(k, s)] = putS b k s := by
          rcases HW.out with ⟨_, h1, h2⟩ | ⟨h1, _⟩
          · rw [hi2, List.take_length] at h1 h2; rw [h2, putS_end h1]
          · cases h1
        obtain ⟨v1, w9, hrun, hO9, hB9⟩ := app_one (k, s) HB.out HO.out (by have := HOL.out; omega)
        rw [ho] at hO9
        obtain ⟨oa, oc, rfl, -, -, -, -⟩ := own_parts hO9
        have HR1 := Lib.hid hrun
        have HE := Lib.hid (ownsRow_mono hO9 (by have := HS0.out; omega : w.heap.size ≤ w0.heap.size))
        have HB1 := Lib.hid hB9
        clear hrun hO9 hB9 ho hbxr hi2
        go_wp2_with (at_builtin; refine Lib.wpList_append_run _ rfl _ _ _ _ rfl _ _ rfl rfl _ _ (HR1.out _) ?_)
        go_ret
        exact ⟨oa, oc, rfl, HE.out, HBW.out _ HB1.out⟩
end Go.Proofs.Ytnnpheklgdbohaa
