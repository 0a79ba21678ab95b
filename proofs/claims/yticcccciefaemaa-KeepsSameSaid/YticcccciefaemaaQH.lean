/- herbariumlaw18.within and great; which facts of the chapter's example are kept. Condition: fewer than 1000000 facts. -/
import Derived.Test.YticcccciefaemaaQG
import Derived.Test.YticcccciefaemaaLk
namespace Go.Proofs.Yticcccciefaemaa
open Go.RowKit Go.Shelf Go.Herb

theorem sub_ne {α : Type} {x y : α} {l m : List α} (h : x ≠ y) (hs : (x :: l).Sublist (y :: m)) : (x :: l).Sublist m := by
  cases hs with
  | cons _ h => exact h
  | cons_cons _ _ => exact absurd rfl h

set_option maxHeartbeats 1000000 in
theorem within_any (a1 a2 : Option Addr) (c1 c2 : Nat) (xs ys : List Fc) (w : World) (h1 : Facts w a1 xs) (h2 : Facts w a2 ys) (hs : xs.Sublist ys) (hl : ys.length < 1000000) :
    Calls Try.prog (9) #[.slice a1 xs.length c1, .slice a2 ys.length c2] w fun e w' => e = .returned (.bool true) ∧ ∃ n, w' = w.drewN n := by
  have hxl : xs.length ≤ ys.length := hs.length_le
  have H1 := Lib.hid h1
  have H2 := Lib.hid h2
  have HS := Lib.hid hs
  clear h1 h2 hs
  go_enter Try.func9, Try.ntmps9
  go_wp2_with fail
  go_loopg [5, 6] ys.length (fun gk av iv wr => ∃ i k n : Nat, i + gk = ys.length ∧ k ≤ xs.length ∧ iv = .int .i64 i ∧ av = .int .i64 k ∧ (xs.drop k).Sublist (ys.drop i) ∧ wr = w.drewN n)
  case atStart => exact ⟨0, 0, 0, by omega, by omega, rfl, rfl, HS.out, rfl⟩
  case round =>
    obtain ⟨i, k, n, hi, hk, rfl, rfl, hsub, rfl⟩ := hrel
    have HSUB := Lib.hid hsub
    clear hsub
    by_cases hlt : i < ys.length
    · by_cases hkl : k < xs.length
      · obtain ⟨b, o, rfl, hlb, hc⟩ := H1.out.get k hkl
        obtain ⟨b2, o2, rfl, hlb2, hc2⟩ := H2.out.get i hlt
        have hd1 : xs.drop k = xs[k] :: xs.drop (k + 1) := List.drop_eq_getElem_cons hkl
        have hd2 : ys.drop i = ys[i] :: ys.drop (i + 1) := List.drop_eq_getElem_cons hlt
        have hyes : xs[k] = ys[i] → (xs.drop (k + 1)).Sublist (ys.drop (i + 1)) := fun e => by
          have := HSUB.out
          rw [hd1, hd2, e] at this
          exact List.cons_sublist_cons.1 this
        have hno : xs[k] ≠ ys[i] → (xs.drop k).Sublist (ys.drop (i + 1)) := fun e => by
          have := HSUB.out
          rw [hd1, hd2] at this
          rw [hd1]
          exact sub_ne e this
        generalize xs[k] = x at *
        generalize ys[i] = y at *
        have e0 := hc 0 _ rfl
        have e1 := hc 1 _ rfl
        have e2 := hc 2 _ rfl
        have e3 := hc 3 _ rfl
        have e4 := hc 4 _ rfl
        have e5 := hc 5 _ rfl
        have f0 := hc2 0 _ rfl
        have f1 := hc2 1 _ rfl
        have f2 := hc2 2 _ rfl
        have f3 := hc2 3 _ rfl
        have f4 := hc2 4 _ rfl
        have f5 := hc2 5 _ rfl
        simp only [Nat.add_zero] at e0 e1 e2 e3 e4 e5 f0 f1 f2 f3 f4 f5
        have HY := Lib.hid hyes
        have HNO := Lib.hid hno
        have hk0 : (0 : Int) ≤ (k : Int) := by omega
        have hk1 : (k : Int) < (xs.length : Int) := by omega
        have hi0 : (0 : Int) ≤ (i : Int) := by omega
        have hi1 : (i : Int) < (ys.length : Int) := by omega
        have heq := run_eqlF x y
        have hgt := guardF
        clear hc hc2 hd1 hd2 hyes hno
        obtain ⟨wq, hwq⟩ : ∃ wq, wq = w.drewN n := ⟨_, rfl⟩
        have hcq : ∀ p, wq.cell? p = w.cell? p := fun p => by rw [hwq]; rfl
        rw [← hcq] at e0 e1 e2 e3 e4 e5 f0 f1 f2 f3 f4 f5
        rw [← hwq]
        have HWQ := Lib.hid hwq
        clear hcq hwq
        cases hs : sameF x y with
        | true =>
          have HE := Lib.hid (sameF_iff.1 hs)
          rw [hs] at heq
          clear hs
          go_wp2_with fail
          go_quiet (fail)
          go_wp2
          go_roundg (gk - 1)
          case measure => omega
          case rel => exact ⟨i + 1, k + 1, n + nq, by omega, by omega, by go_num, by go_num, HY.out HE.out, by rw [HWQ.out, World.drewN_drewN]⟩
        | false =>
          have HE := Lib.hid (show x ≠ y from fun e => by rw [sameF_iff.2 e] at hs; cases hs)
          rw [hs] at heq
          clear hs
          go_wp2_with fail
          go_quiet (fail)
          go_wp2
          go_roundg (gk - 1)
          case measure => omega
          case rel => exact ⟨i + 1, k, n + nq, by omega, by omega, by go_num, by go_num, HNO.out HE.out, by rw [HWQ.out, World.drewN_drewN]⟩
      · have hke : k = xs.length := by omega
        subst hke
        go_wp2
        go_ret
        exact ⟨by simp, n, rfl⟩
    · have hie : i = ys.length := by omega
      have hke : k = xs.length := by
        have h1 := HSUB.out.length_le
        rw [List.length_drop, List.length_drop] at h1
        omega
      subst hke hie
      go_wp2
      go_ret
      exact ⟨by simp, n, rfl⟩

def greatB (n : Nat) (ws : List Wt) : Bool := decide (30 < ws.length) || (ws.any (fun x => decide (120 < n) || decide (40 < x.cs.length)) || decide (80 < n))

set_option maxHeartbeats 1000000 in
theorem greatK_any (al : Option Addr) (nl cl : Nat) (aw : Option Addr) (cw : Nat) (ws : List Wt) (w : World) (hn : nl ≤ maxLen) (hwl : ws.length ≤ maxLen) (hW : Els wc 3 w aw ws) (hc : ∀ x ∈ ws, x.cs.length ≤ maxLen) :
    Calls Try.prog (6) #[.slice al nl cl, .slice aw ws.length cw] w fun e w' => e = .returned (.bool (greatB nl ws)) ∧ w = w' := by
  have HN := Lib.hid hn
  have HW := Lib.hid hW
  have HC := Lib.hid hc
  unfold maxLen at hwl hn
  clear hW hc
  by_cases h30 : 30 < ws.length
  · have hb : greatB nl ws = true := by simp [greatB, h30]
    rw [hb]
    clear hb
    go_enter Try.func6, Try.ntmps6
    go_wp2
    go_ret
    exact ⟨rfl, rfl⟩
  · have hb : greatB nl ws = (ws.any (fun x => decide (120 < nl) || decide (40 < x.cs.length)) || decide (80 < nl)) := by simp [greatB, h30]
    rw [hb]
    clear hb
    go_enter Try.func6, Try.ntmps6
    go_wp2_with fail
    go_loopg [5] ws.length (fun gk iv wr => ∃ i : Nat, i + gk = ws.length ∧ iv = .int .i64 i ∧ (ws.take i).any (fun x => decide (120 < nl) || decide (40 < x.cs.length)) = false ∧ wr = w)
    case atStart => exact ⟨0, by omega, rfl, rfl, rfl⟩
    case round =>
      obtain ⟨i, hi, rfl, hf, rfl⟩ := hrel
      have HF := Lib.hid hf
      clear hf
      by_cases hlt : i < ws.length
      · obtain ⟨b, o, rfl, hlb, hcw⟩ := HW.out.get i hlt
        have hmem : ws[i] ∈ ws := List.getElem_mem hlt
        have hcl := HC.out ws[i] hmem
        have hsn : (ws.take (i + 1)).any (fun x => decide (120 < nl) || decide (40 < x.cs.length)) = (decide (120 < nl) || decide (40 < ws[i].cs.length)) := by
          rw [List.take_succ_eq_append_getElem hlt, List.any_append, HF.out]
          simp
        have HMEM := Lib.hid hmem
        generalize ws[i] = x at *
        have c0 := hcw 0 _ rfl
        simp only [Nat.add_zero] at c0
        have hi0 : (0 : Int) ≤ (i : Int) := by omega
        have hi1 : (i : Int) < (ws.length : Int) := by omega
        have HSN := Lib.hid hsn
        clear hcw hsn hmem
        go_wp2_with fail
        refine (great17_any al x.a nl cl x.cs.length x.c _ HN.out hcl).mono ?_
        rintro e w' ⟨rfl, rfl⟩
        cases hg : (decide (120 < nl) || decide (40 < x.cs.length)) with
        | true =>
          have hany : ws.any (fun x => decide (120 < nl) || decide (40 < x.cs.length)) = true := List.any_eq_true.2 ⟨x, HMEM.out, hg⟩
          have HANY := Lib.hid hany
          clear hany
          go_wp2_with fail
          go_ret
          exact ⟨by rw [HANY.out]; rfl, rfl⟩
        | false =>
          have HG := Lib.hid hg
          go_wp2_with fail
          go_roundg (gk - 1)
          case measure => omega
          case rel => exact ⟨i + 1, by omega, by go_num, by rw [HSN.out]; exact HG.out, rfl⟩
      · have hie : i = ws.length := by omega
        subst hie
        rw [List.take_length] at HF
        go_wp2_with fail
        go_ret
        refine ⟨?_, rfl⟩
        rw [HF.out, Bool.false_or]
        simp
        omega
end Go.Proofs.Yticcccciefaemaa
