/- herbariumlaw18.within and great; which facts of the chapter's example are kept. Condition: fewer than 1000000 facts. -/
import Derived.Test.YticcccciefaemaaDoorQG
import Derived.Test.YticcccciefaemaaDoorLk
namespace Go.Proofs.YticcccciefaemaaDoor
open Go.RowKit Go.Shelf Go.Herb

theorem sub_ne {α : Type} {x y : α} {l m : List α} (h : x ≠ y) (hs : (x :: l).Sublist (y :: m)) : (x :: l).Sublist m := by
  cases hs with
  | cons _ h => exact h
  | cons_cons _ _ => exact absurd rfl h

def greatB (n : Nat) (ws : List Wt) : Bool := decide (30 < ws.length) || (ws.any (fun x => decide (120 < n) || decide (40 < x.cs.length)) || decide (80 < n))

set_option maxHeartbeats 1000000 in
theorem greatK_any (al : Option Addr) (nl cl : Nat) (aw : Option Addr) (cw : Nat) (ws : List Wt) (w : World) (hn : nl ≤ maxLen) (hwl : ws.length ≤ maxLen) (hW : Els wc 3 w aw ws) (hc : ∀ x ∈ ws, x.cs.length ≤ maxLen) :
    Calls Tryd.prog (4) #[.slice al nl cl, .slice aw ws.length cw] w fun e w' => e = .returned (.bool (greatB nl ws)) ∧ w = w' := by
  have HN := Lib.hid hn
  have HW := Lib.hid hW
  have HC := Lib.hid hc
  unfold maxLen at hwl hn
  clear hW hc
  by_cases h30 : 30 < ws.length
  · have hb : greatB nl ws = true := by simp [greatB, h30]
    rw [hb]
    clear hb
    go_enter Tryd.func4, Tryd.ntmps4
    go_wp2
    go_ret
    exact ⟨rfl, rfl⟩
  · have hb : greatB nl ws = (ws.any (fun x => decide (120 < nl) || decide (40 < x.cs.length)) || decide (80 < nl)) := by simp [greatB, h30]
    rw [hb]
    clear hb
    go_enter Tryd.func4, Tryd.ntmps4
    go_wp2_with fail
    go_loopg [5] ws.length (fun gk iv wr => ∃ i : Nat, i + gk = ws.length ∧ iv = .int .i64 i ∧ (ws.take i).any (fun x => decide (120 < nl) || decide (40 < x.cs.length)) = false ∧ wr = w)
    case atStart => exact ⟨0, by omega, rfl, rfl, rfl⟩
    case round =>
      obtain ⟨i, hi, rfl, hf, rfl⟩ := hrel
      have HF := Lib.hid hf
      clear hf
      by_cases hlt : i < ws.length
      · obtain ⟨b, o, rfl, hlb, hcw⟩ := HW.out.get i hlt
        have hmem : ws[i] ∈ ws := List.getElem_mem hlt
        have hcl := HC.out ws[i] hmem
        have hsn : (ws.take (i + 1)).any (fun x => decide (120 < nl) || decide (40 < x.cs.length)) = (decide (120 < nl) || decide (40 < ws[i].cs.length)) := by
          rw [List.take_succ_eq_append_getElem hlt, List.any_append, HF.out]
          simp
        have HMEM := Lib.hid hmem
        generalize ws[i] = x at *
        have c0 := hcw 0 _ rfl
        simp only [Nat.add_zero] at c0
        have hi0 : (0 : Int) ≤ (i : Int) := by omega
        have hi1 : (i : Int) < (ws.length : Int) := by omega
        have HSN := Lib.hid hsn
        clear hcw hsn hmem
        go_wp2_with fail
        refine (great17_any al x.a nl cl x.cs.length x.c _ HN.out hcl).mono ?_
        rintro e w' ⟨rfl, rfl⟩
        cases hg : (decide (120 < nl) || decide (40 < x.cs.length)) with
        | true =>
          have hany : ws.any (fun x => decide (120 < nl) || decide (40 < x.cs.length)) = true := List.any_eq_true.2 ⟨x, HMEM.out, hg⟩
          have HANY := Lib.hid hany
          clear hany
          go_wp2_with fail
          go_ret
          exact ⟨by rw [HANY.out]; rfl, rfl⟩
        | false =>
          have HG := Lib.hid hg
          go_wp2_with fail
          go_roundg (gk - 1)
          case measure => omega
          case rel => exact ⟨i + 1, by omega, by go_num, by rw [HSN.out]; exact HG.out, rfl⟩
      · have hie : i = ws.length := by omega
        subst hie
        rw [List.take_length] at HF
        go_wp2_with fail
        go_ret
        refine ⟨?_, rfl⟩
        rw [HF.out, Bool.false_or]
        simp
        omega
end Go.Proofs.YticcccciefaemaaDoor
