/- The chapter's example of views holds. No condition. -/
import Derived.Test.YtenocakpipppiaaGreatDoorV1
import Derived.Deep.DrawnRows
import Derived.Outline
namespace Go.Herb
open Go.RowKit Go.Shelf
theorem Els.at_ {α : Type} {enc : α → List Value} {s : Nat} {w : World} {b o : Nat} {xs : List α} (h : Els enc s w (some ⟨b, o, none⟩) xs) (i : Nat) (hi : i < xs.length) (j : Nat) (c : Value) (hj : (enc xs[i])[j]? = some c) : w.cell? ⟨b, o + i * s + j, none⟩ = some c := by
  obtain ⟨b', o', ha, _, hc⟩ := h.get i hi
  injection ha with ha
  injection ha with h1 h2
  subst h1 h2
  exact hc j c hj
end Go.Herb
namespace Go.Proofs.YtenocakpipppiaaGreatDoor
open Go.RowKit Go.Shelf Go.Herb
attribute [local go_sem ↓] Go.wp_at_zero Go.wp_at_succ


set_option maxRecDepth 100000 in
set_option maxHeartbeats 2000000 in
theorem livesV_any (w : World) : Calls Tryz.prog 5 #[] w fun e w' => e = .returned (.bool true) ∧ Below w.heap.size w w' := by
  go_enter Tryz.func5, Tryz.ntmps5
  go_wp2_with fail
  obtain ⟨W, hW⟩ : ∃ W : World, W = (w.alloc (.cells #[.string ⟨#[97]⟩, .int .u32 5, .int .u64 1, .int .u64 0, .int .u8 0, .string ⟨#[120]⟩, .string ⟨#[97]⟩, .int .u32 5, .int .u64 2, .int .u64 0, .int .u8 0, .string ⟨#[121]⟩, .string ⟨#[97]⟩, .int .u32 9, .int .u64 3, .int .u64 0, .int .u8 1, .string ⟨#[]⟩] 50)).alloc (.cells #[.int .u64 0, .int .u64 18446744073709551615] 52) := ⟨_, rfl⟩
  have hl : Facts W (some ⟨w.heap.size, 0, none⟩) [xF1, xF2, xF3] := by rw [hW]; exact facts_of_blk (blk_alloc (blk_new_at rfl _)) rfl
  have hc : Links W (some ⟨w.heap.size + 1, 0, none⟩) [xLk] := by rw [hW]; exact links_of_blk (blk_new_at (by simp) _) rfl
  have hBW : Below w.heap.size w W := by rw [hW]; exact ((Below.refl _ w).alloc (Nat.le_refl _) _).alloc (by simp) _
  have hsW : w.heap.size + 2 = W.heap.size := by rw [hW]; simp
  rw [← hW]
  have HL := Lib.hid hl
  have HC := Lib.hid hc
  have HBW := Lib.hid hBW
  have hsz : w.heap.size < W.heap.size := by omega
  clear hW hl hc hBW hsW
  refine (viewsOf_is _ 3 [xF1, xF2, xF3] _ 1 [xLk] 3 [xF3, xF2] x_three W HL.out HC.out (by decide) (by decide)).mono ?_
  rintro e w1 ⟨a, rfl, hF, -, hB⟩
  have HF := Lib.hid hF
  have HB := Lib.hid hB
  have hz1 := hB.size
  have h7 := value_any a 2 [xF3, xF2] ⟨#[97]⟩ 7 w1 HF.out (by decide)
  rw [x_val7] at h7
  have H7 := Lib.hid h7
  clear h7 hF hB
  go_wp2_with fail
  refine (H7.out).mono ?_
  rintro e w2 ⟨rfl, hB2⟩
  have h9 := value_any a 2 [xF3, xF2] ⟨#[97]⟩ 9 w2 (HF.out.ext hB2) (by decide)
  rw [x_val9] at h9
  have H9 := Lib.hid h9
  have HB2 := Lib.hid hB2
  have hz2 := hB2.size
  clear h9 hB2 H7
  go_wp2_with fail
  refine (H9.out).mono ?_
  rintro e w3 ⟨rfl, hB3⟩
  have hz3 := hB3.size
  have hBW3 : Below W.heap.size W w3 := HB.out.trans (((HB2.out).trans (hB3.mono hz2)).mono hz1)
  have hl3 := HL.out.ext hBW3
  have hc3 := HC.out.ext hBW3
  have HF3 := Lib.hid (((HF.out.ext HB2.out).ext hB3))
  have HL3 := Lib.hid hl3
  have HC3 := Lib.hid hc3
  have HBW3 := Lib.hid (HBW.out.trans (hBW3.mono (by omega)))
  have hsz3 : w.heap.size < w3.heap.size := by omega
  clear hl3 hc3 hBW3 hB3 H9 HB HB2 HF HL HC HBW
  have c0 := HL3.out.at_ 2 (by decide) 0 _ rfl
  have c1 := HL3.out.at_ 2 (by decide) 1 _ rfl
  have c2 := HL3.out.at_ 2 (by decide) 2 _ rfl
  have c3 := HL3.out.at_ 2 (by decide) 3 _ rfl
  have c4 := HL3.out.at_ 2 (by decide) 4 _ rfl
  have c5 := HL3.out.at_ 2 (by decide) 5 _ rfl
  have d0 := HL3.out.at_ 1 (by decide) 0 _ rfl
  have d1 := HL3.out.at_ 1 (by decide) 1 _ rfl
  have d2 := HL3.out.at_ 1 (by decide) 2 _ rfl
  have d3 := HL3.out.at_ 1 (by decide) 3 _ rfl
  have d4 := HL3.out.at_ 1 (by decide) 4 _ rfl
  have d5 := HL3.out.at_ 1 (by decide) 5 _ rfl
  simp only [xF1, xF2, xF3] at c0 c1 c2 c3 c4 c5 d0 d1 d2 d3 d4 d5
  simp at c0 c1 c2 c3 c4 c5 d0 d1 d2 d3 d4 d5
  have cof : ∀ W', Below w3.heap.size w3 W' → Calls Tryz.prog 7 #[.slice (some ⟨w.heap.size, 0, none⟩) 3 3, .slice (some ⟨w.heap.size + 1, 0, none⟩) 1 1, .int .u64 1] W' fun e w' => ∃ a : Option Addr, e = .returned (.slice a 1 1) ∧ Facts w' a [xF1] ∧ Below W'.heap.size W' w' := by
    intro W' hW'
    exact (viewsOf_is _ 3 [xF1, xF2, xF3] _ 1 [xLk] 1 [xF1] x_one W' (HL3.out.ext hW') (HC3.out.ext hW') (by decide) (by decide)).mono fun e w' ⟨a, he, hF, _, hB⟩ => ⟨a, he, hF, hB⟩
  have csame1 : ∀ W' a, Below w3.heap.size w3 W' → Facts W' a [xF1] → Calls Tryz.prog 11 #[.slice a 1 1, .slice (some ⟨w.heap.size, 0, none⟩) 1 3] W' fun e w' => e = .returned (.bool true) ∧ ∃ n, w' = W'.drewN n := by
    intro W' a hW' hF
    exact sameFacts_any a _ 1 3 [xF1] W' hF ((HL3.out.ext hW').take 1) (by decide)
  have csame2 : ∀ W' b, Below w3.heap.size w3 W' → Facts W' (some ⟨b, 0, none⟩) [xF3, xF2] → Calls Tryz.prog 11 #[.slice a 2 2, .slice (some ⟨b, 0, none⟩) 2 2] W' fun e w' => e = .returned (.bool true) ∧ ∃ n, w' = W'.drewN n := by
    intro W' b hW' hF
    exact sameFacts_any a _ 2 2 [xF3, xF2] W' (HF3.out.ext hW') hF (by decide)
  have COF := Lib.hid cof
  have CS1 := Lib.hid csame1
  have CS2 := Lib.hid csame2
  clear cof csame1 csame2
  go_wp2_with fail
  go_region_held3 (fun w' => w'.cell? ⟨w.heap.size, 12, none⟩ = some (.string ⟨#[97]⟩) ∧ w'.cell? ⟨w.heap.size, 13, none⟩ = some (.int .u32 9) ∧ w'.cell? ⟨w.heap.size, 14, none⟩ = some (.int .u64 3) ∧ w'.cell? ⟨w.heap.size, 15, none⟩ = some (.int .u64 0) ∧ w'.cell? ⟨w.heap.size, 16, none⟩ = some (.int .u8 1) ∧ w'.cell? ⟨w.heap.size, 17, none⟩ = some (.string ⟨#[]⟩) ∧ w'.cell? ⟨w.heap.size, 6, none⟩ = some (.string ⟨#[97]⟩) ∧ w'.cell? ⟨w.heap.size, 7, none⟩ = some (.int .u32 5) ∧ w'.cell? ⟨w.heap.size, 8, none⟩ = some (.int .u64 2) ∧ w'.cell? ⟨w.heap.size, 9, none⟩ = some (.int .u64 0) ∧ w'.cell? ⟨w.heap.size, 10, none⟩ = some (.int .u8 0) ∧ w'.cell? ⟨w.heap.size, 11, none⟩ = some (.string ⟨#[121]⟩)) (go_keep)
    (first | (go_at_call 7; refine (COF.out _ (Below.refl _ _).drew).mono ?_; rintro e u1 ⟨a1, rfl, hF1, hb0⟩; have hb1 : Below w3.heap.size w3 u1 := (Below.refl _ _).drew.trans hb0; clear hb0; have HF1 := Lib.hid hF1; clear hF1; have c0' := (hb1.cell (p := ⟨w.heap.size, 12, none⟩) hsz3).trans c0; have c1' := (hb1.cell (p := ⟨w.heap.size, 13, none⟩) hsz3).trans c1; have c2' := (hb1.cell (p := ⟨w.heap.size, 14, none⟩) hsz3).trans c2; have c3' := (hb1.cell (p := ⟨w.heap.size, 15, none⟩) hsz3).trans c3; have c4' := (hb1.cell (p := ⟨w.heap.size, 16, none⟩) hsz3).trans c4; have c5' := (hb1.cell (p := ⟨w.heap.size, 17, none⟩) hsz3).trans c5; have d0' := (hb1.cell (p := ⟨w.heap.size, 6, none⟩) hsz3).trans d0; have d1' := (hb1.cell (p := ⟨w.heap.size, 7, none⟩) hsz3).trans d1; have d2' := (hb1.cell (p := ⟨w.heap.size, 8, none⟩) hsz3).trans d2; have d3' := (hb1.cell (p := ⟨w.heap.size, 9, none⟩) hsz3).trans d3; have d4' := (hb1.cell (p := ⟨w.heap.size, 10, none⟩) hsz3).trans d4; have d5' := (hb1.cell (p := ⟨w.heap.size, 11, none⟩) hsz3).trans d5)
           | (go_at_call 11; refine (CS1.out u1 a1 hb1 HF1.out).mono ?_; rintro e u2 ⟨rfl, n2, rfl⟩)
           | (go_at_call 11; refine (CS2.out _ _ ((below_drewN hb1 n2).alloc (show w3.heap.size ≤ _ from hb1.size) _) (facts_of_blk (blk_new_at rfl _) rfl)).mono ?_; rintro e u3 ⟨rfl, n3, rfl⟩))
  all_goals
    rename_i hheld
    clear hheld
    go_wp2
    go_ret
    exact ⟨rfl, HBW3.out.trans ((below_drewN ((below_drewN hb1 n2).alloc (show w3.heap.size ≤ _ from hb1.size) _) n3).mono (by omega))⟩
end Go.Proofs.YtenocakpipppiaaGreatDoor
