/- ref16: copied. Condition: fewer than 100000 lines, and points of each. -/
import Derived.Test.YtnnpheklgdbohaaY6
namespace Go.Proofs.Ytnnpheklgdbohaa
open Go.RowKit Go.Shelf Go.Herb

set_option maxRecDepth 100000 in
set_option maxHeartbeats 2000000 in
theorem refCopied_any (a : Option Addr) (cap n : Nat) (xs : List Vc) (w : World) (h : VIn w a xs) (hn : xs.length = n) (hS : Small (vsOf xs)) :
    Calls Try.prog (39) #[.slice a n cap] w fun e w' => ∃ v ys, e = .returned v ∧ CpAt w.heap.size w' v ys (vsOf xs) ∧ Below w.heap.size w w' := by
  have H := Lib.hid h
  have HN := Lib.hid hn
  have HS := Lib.hid hS
  have hnl : n < 100000 := by have := hS.len; rw [vsOf_len] at this; omega
  clear h hn hS
  go_enter Try.func39, Try.ntmps39
  go_wp2_with fail
  go_loopg [3, 4] n (fun gk ov iv wr => ∃ (i : Nat) (ys : List Vc), i + gk = n ∧ iv = .int .i64 i ∧ Hid (CpAt w.heap.size wr ov ys ((vsOf xs).take i)) ∧ Hid (Below w.heap.size w wr))
  case atStart => exact ⟨0, [], by omega, rfl, Lib.hid ⟨rfl, World.ownsRow_nil _ _ _ _, by simp⟩, Lib.hid (Below.refl _ _)⟩
  case round =>
    obtain ⟨i, ys, hi, rfl, HC, HB⟩ := hrel
    by_cases hlt : i < n
    · have hil : i < xs.length := by have := HN.out; omega
      obtain ⟨b, o, rfl, hlb, hc⟩ := H.out.els.get i hil
      have x0 := (HB.out.cell (p := ⟨b, _, none⟩) hlb).trans (hc 0 _ rfl)
      have x1 := (HB.out.cell (p := ⟨b, _, none⟩) hlb).trans (hc 1 _ rfl)
      simp only [Nat.add_zero] at x0 x1
      have HP := Lib.hid ((H.out.inn _ (List.getElem_mem hil)).ext HB.out)
      have HT := Lib.hid (show (vsOf xs).take (i + 1) = (vsOf xs).take i ++ [(xs[i].line, xs[i].ps)] by rw [List.take_succ_eq_append_getElem (by rw [vsOf_len]; exact hil), vsOf_get xs i hil])
      have HL := Lib.hid (show xs[i].ps.length < 100000 from HS.out.inn (xs[i].line, xs[i].ps) (by unfold vsOf; exact List.mem_map.2 ⟨xs[i], List.getElem_mem hil, rfl⟩))
      clear hc
      generalize xs[i] = x at *
      obtain ⟨xl, xa, xc, xp⟩ := x
      simp only at x0 x1 HP HT HL
      have hyl : ys.length < 1000000 := by
        have := congrArg List.length HC.out.vs
        rw [vsOf_len, List.length_take] at this
        omega
      obtain ⟨v1, w1, hr1, ho1, hb1⟩ := run_copy wr.drew wr.heap.size xa xc xp.length xp (els_drewN HP.out 1) rfl (by have := HL.out; omega) (Nat.le_refl _) (30)
      obtain ⟨a1, c1, rfl, -, -, -, -⟩ := own_parts ho1
      have hb1' : Below wr.heap.size wr w1 := (Below.drew (Below.refl wr.heap.size wr)).trans hb1
      have y0 := (hb1'.cell (p := ⟨b, _, none⟩) (Nat.lt_of_lt_of_le hlb HB.out.size)).trans x0
      obtain ⟨v2, w9, hr2, hC2, hB2⟩ := HC.out.add (line := xl) HB.out.size hb1' ho1 hyl
      rw [← HT.out] at hC2
      have HC2 := Lib.hid hC2
      have HB2 := Lib.hid (hB2 w rfl HB.out)
      have HR1 := Lib.hid hr1
      have HR2 := Lib.hid hr2
      obtain ⟨pn, hpn⟩ : ∃ pn, pn = xp.length := ⟨_, rfl⟩
      rw [← hpn] at x1 HR1 HR2
      have hk0 : (0 : Int) ≤ (i : Int) := by omega
      have hk1 : (i : Int) < (n : Int) := by omega
      clear hr1 hr2 ho1 hb1 hb1' hC2 hB2 hyl hpn
      go_wp2_with fail
      go_region_law (first | (refine step_append_run rfl (.const (.slice none 0 0)) (.tmp 21) (30) (30) rfl (.slice none 0 0) (.slice xa pn xc) (by simp [Act.eval]) (by simp [Act.eval]) _ _ (HR1.out) ?_) | (refine step_append_run rfl (.tmp 11) (.tmp 24) (22) (22) rfl u3 (.slice (some ⟨w1.heap.size, 0, none⟩) 1 1) (by simp [Act.eval]) (by simp [Act.eval]) _ _ (HR2.out _) ?_))
      all_goals
        clear x0 x1 y0
        go_wp2
        go_roundg (gk - 1)
        case measure => omega
        case rel => exact ⟨i + 1, _, by omega, by go_num, HC2, HB2⟩
    · have HE := Lib.hid (show CpAt w.heap.size wr u3 ys (vsOf xs) from by
        have h1 := HC.out
        rwa [List.take_of_length_le (by rw [vsOf_len]; have := HN.out; omega)] at h1)
      go_wp2_with fail
      go_ret
      exact ⟨u3, ys, rfl, HE.out, HB.out⟩
end Go.Proofs.Ytnnpheklgdbohaa
