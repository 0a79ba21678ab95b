/- lives: the chapter's example. No condition. -/
import Derived.Test.YtacibennmcegfaaDoorLPA
namespace Go.Proofs.YtacibennmcegfaaDoor
open Go.RowKit Go.Shelf Go.Herb

theorem run_eqlLn (a b c d : Int) (w : World) : (binOp .eql (36) (.agg #[.int .u64 a, .int .u64 b]) (.agg #[.int .u64 c, .int .u64 d])).run Tryd.prog w = .ok (.bool (decide (a = c ∧ b = d))) w := by
  have := run_eqLn a b c d w
  simp only [binOp]
  simp [Op.equal, Op.maxDepth, this]
theorem run_eqLk (a b c d : Int) (w : World) : (Op.equalIn 10000 (38) (.agg #[.int .u64 a, .int .u64 b]) (.agg #[.int .u64 c, .int .u64 d])).run Tryd.prog w = .ok (decide (a = c ∧ b = d)) w := by
  have hS : Tryd.prog.underlying (38) = some (.struct (Tryd.prog.fieldsOf (38))) := by kernel_rfl
  have hp : Tryd.prog.stoodInHeld (38) = false := by kernel_rfl
  rw [show (10000 : Nat) = 9999 + 1 from rfl, run_equalIn_agg w 9999 (38) _ _ hS hp]
  simp only [Program.fieldsOf, Tryd.underlying38]
  have u9 := Tryd.underlying34
  go_simp
  by_cases h1 : a = c <;> by_cases h2 : b = d <;> simp [h1, h2]
theorem run_eqlLk (a b c d : Int) (w : World) : (binOp .eql (38) (.agg #[.int .u64 a, .int .u64 b]) (.agg #[.int .u64 c, .int .u64 d])).run Tryd.prog w = .ok (.bool (decide (a = c ∧ b = d))) w := by
  have := run_eqLk a b c d w
  simp only [binOp]
  simp [Op.equal, Op.maxDepth, this]
theorem guardLk : Tryd.prog.eqGuardType Tryd.prog.depth (38) = false := by kernel_rfl
abbrev twoL : List Ln := [(0, 0), (5, 0)]
theorem twoL_formed : FormedL twoL := ⟨rfl, by unfold SrtL; simp, fun i x hi hx => by
  match i, hi with
  | 1, _ => exact ⟨0, (0, 0), by omega, rfl, by simp at hx; rw [← hx]⟩
  | i + 2, _ => simp at hx⟩
theorem twoL_chain : chainF twoL twoL.length 5 18446744073709551615 = [(5, 18446744073709551615), (0, 5)] := by rfl
def xB : ByteArray := ⟨#[120]⟩
theorem fork_x (p : Nat) (w : World) (h : TreeIs w p [(mainB, 0, 0)] [(0, 0)]) :
    Calls Tryd.prog (16) #[.pointer (some ⟨p, 0, none⟩), .string xB, .string mainB, .int .u64 5] w fun e w' => ∃ (q : Nat) (bs : List Br), e = .returned (.tuple #[.pointer (some ⟨q, 0, none⟩), .int .i64 0]) ∧ TreeIs w' q bs twoL ∧ Below w.heap.size w w' := by
  have hb : SrtB [(mainB, 0, 0)] := List.pairwise_singleton _ _
  have hl : SrtL [(0, 0)] := List.pairwise_singleton _ _
  have hne : mainB ≠ xB := by decide
  refine (fork_any p xB mainB 5 w h hb hl (by decide) (by decide) (by decide) (by decide) (by decide)).mono ?_
  rintro e w' ⟨⟨hno, -⟩ | ⟨-, q, i, old, rfl, hold, -, -, ht⟩, hB⟩
  · exact absurd ⟨nameB_x, fun x hx => by rw [List.mem_singleton.1 hx]; decide, ⟨_, List.mem_singleton.2 rfl, rfl⟩, fun x hx => by rw [List.mem_singleton.1 hx]; exact hne, by decide, by decide⟩ hno
  · rw [List.mem_singleton.1 hold] at ht
    exact ⟨q, _, rfl, ht, hB⟩
set_option maxRecDepth 100000 in
set_option maxHeartbeats 1000000 in
theorem lives_any (w : World) : Calls Tryd.prog (9) #[] w fun e w' => e = .returned (.bool true) ∧ Below w.heap.size w w' := by
  have q1 := run_eqlLn
  have q2 := run_eqlLk
  have q3 := guardLn
  have q4 := guardLk
  go_enter Tryd.func9, Tryd.ntmps9
  go_wp2_with (go_at_call 22; refine (first_any _).mono ?_; rintro e w1 ⟨p, rfl, h1, hB1⟩)
  refine (fork_x p w1 h1).mono ?_
  rintro e w2 ⟨q, bs, rfl, h2, hB2⟩
  have HB := Lib.hid (hB1.trans (hB2.mono hB1.size))
  have HCH : Hid (Calls Tryd.prog (11) #[.pointer (some ⟨q, 0, none⟩), .int .u64 5] w2 fun e w' => ∃ b o, e = .returned (.slice (some ⟨b, o, none⟩) 2 2) ∧ Hid (∀ u, Below w'.heap.size w' u → u.cell? ⟨b, o, none⟩ = some (.int .u64 5) ∧ u.cell? ⟨b, o + 1, none⟩ = some (.int .u64 18446744073709551615) ∧ u.cell? ⟨b, o + 2, none⟩ = some (.int .u64 0) ∧ u.cell? ⟨b, o + 2 + 1, none⟩ = some (.int .u64 5)) ∧ Below w2.heap.size w2 w') := Lib.hid ((chain_any q 5 w2 h2 twoL_formed (by decide)).mono (by
    rintro e w' ⟨a, rfl, hE, hB⟩
    rw [twoL_chain] at hE ⊢
    obtain ⟨b, o, rfl, hlt, hc⟩ := hE.get 0 (by decide)
    obtain ⟨b', o', he, -, hd⟩ := hE.get 1 (by decide)
    injection he with he
    injection he with e1 e2
    subst e1 e2
    refine ⟨b, o, rfl, Lib.hid (fun u hu => ⟨?_, ?_, ?_, ?_⟩), hB⟩
    · exact (hu.cell (p := ⟨b, _, none⟩) hlt).trans (hc 0 _ rfl)
    · exact (hu.cell (p := ⟨b, _, none⟩) hlt).trans (hc 1 _ rfl)
    · exact (hu.cell (p := ⟨b, _, none⟩) hlt).trans (hd 0 _ rfl)
    · exact (hu.cell (p := ⟨b, _, none⟩) hlt).trans (hd 1 _ rfl)))
  have HLS : Hid (∀ u, Below w2.heap.size w2 u → Calls Tryd.prog (13) #[.pointer (some ⟨q, 0, none⟩)] u fun e w' => ∃ g, e = .returned (.slice (some ⟨g, 0, none⟩) 2 2) ∧ w'.cell? ⟨g, 2, none⟩ = some (.int .u64 5) ∧ w'.cell? ⟨g, 2 + 1, none⟩ = some (.int .u64 0) ∧ Below u.heap.size u w') := Lib.hid (fun u hu => (allL_any q u (h2.ext hu) (by decide) (by decide)).mono (by
    rintro e w' ⟨g, R, rfl, hg, hh, hB⟩
    refine ⟨g, rfl, ?_, ?_, hB⟩
    · rw [cell_of_blk hh]; rfl
    · rw [cell_of_blk hh]; rfl))
  clear hB1 h1 hB2 h2
  go_upto_region 5 with (go_at_call 11; refine HCH.out.mono ?_; rintro e w3 ⟨b, o, rfl, HCC, hB3⟩)
  have HB3 := Lib.hid hB3
  clear hB3 HCH
  go_upto_region 6 with fail
  refine (HLS.out w3 HB3.out).mono ?_
  rintro e w4 ⟨g, rfl, -, -, hB4⟩
  have HB4 := Lib.hid (HB3.out.trans (hB4.mono HB3.out.size))
  have HC4 := Lib.hid (fun u (hu : Below w4.heap.size w4 u) => HCC.out u (hB4.trans (hu.mono hB4.size)))
  clear hB4
  have d1 : decide ((5 : Int) = 5 ∧ (0 : Int) = 0) = true := by decide
  have d2 : decide ((5 : Int) = 5 ∧ (18446744073709551615 : Int) = 18446744073709551615) = true := by decide
  have d3 : decide ((0 : Int) = 0 ∧ (5 : Int) = 5) = true := by decide
  go_wp2_with (go_at_call 13; refine (HLS.out w4 HB4.out).mono ?_; rintro e w5 ⟨g5, rfl, k2, k3, hB5⟩; obtain ⟨c0, c1, c2, c3⟩ := HC4.out w5 hB5; have HB5 := Lib.hid (HB4.out.trans (hB5.mono HB4.out.size)))
  go_ret
  exact ⟨rfl, HB.out.trans (HB5.out.mono HB.out.size)⟩
end Go.Proofs.YtacibennmcegfaaDoor
