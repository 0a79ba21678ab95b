/- LinesNone: its walk. No condition. -/
import Derived.Test.YtacibennmcegfaaDoorLPC
import Derived.Test.YtacibennmcegfaaDoorLR
namespace Go.Proofs.YtacibennmcegfaaDoor
open Go.RowKit Go.Shelf Go.Herb

theorem balc9 {B : Nat} {w u : World} {o : Obj} (h : Below B w u) (hB : B ≤ w.heap.size := by exact Nat.le_refl _) : Below B w (u.alloc o) := h.alloc (Nat.le_trans hB h.size) o
set_option maxRecDepth 100000 in
set_option maxHeartbeats 2000000 in
theorem none_any (k : Int) (a b : ByteArray) (n : Int) (ad : Option Addr) (an ac : Nat) (line : Int) (w : World) :
    Calls Tryd.prog (7) #[.agg #[.int .u8 k, .string a, .string b, .int .u64 n, .slice ad an ac], .int .u64 line] w fun e w' => e = .returned (.bool true) ∧ Below w.heap.size w w' := by
  obtain ⟨X0, hX0⟩ : ∃ X0 : World, X0 = ((w.alloc (.cells #[.int .u8 k, .string a, .string b, .int .u64 n, .slice ad an ac] (48))).alloc (.cells #[.slice none 0 0, .slice none 0 0, .int .i64 0] (61))).alloc (.cells #[.pointer none, .pointer (some ⟨w.heap.size + 1, 0, none⟩)] (28)) := ⟨_, rfl⟩
  have hB0 : Below w.heap.size w X0 := by rw [hX0]; exact balc (balc (balc (Below.refl _ _)))
  obtain ⟨q, hq⟩ : ∃ q, q = w.heap.size := ⟨_, rfl⟩
  obtain ⟨g, hg⟩ : ∃ g, g = w.heap.size + 2 := ⟨_, rfl⟩
  have hxq : X0.heap[q]? = some (.cells #[.int .u8 k, .string a, .string b, .int .u64 n, .slice ad an ac] (48) (0, 0)) := by rw [hX0, hq]; exact blk_alloc (blk_alloc (blk_new_at rfl _))
  have hxt : X0.heap[w.heap.size + 1]? = some (.cells #[.slice none 0 0, .slice none 0 0, .int .i64 0] (61) (0, 0)) := by rw [hX0]; exact blk_alloc (blk_new_at (by simp) _)
  have hxg : X0.heap[g]? = some (.cells #[.pointer none, .pointer (some ⟨w.heap.size + 1, 0, none⟩)] (28) (0, 0)) := by rw [hX0, hg]; exact blk_new_at (by simp) _
  have HV : Hid (∀ i, i < 2 → ∃ x : Option Addr, NotThere (.pointer x) X0 ∧ ∀ u, Below X0.heap.size X0 u → u.cell? ⟨g, i, none⟩ = some (.pointer x) ∧ u.cell? ⟨q, 1, none⟩ = some (.string a) ∧ u.cell? ⟨q, 2, none⟩ = some (.string b) ∧ u.cell? ⟨q, 3, none⟩ = some (.int .u64 n) ∧ u.cell? ⟨q, 4, none⟩ = some (.slice ad an ac)) := Lib.hid (fun i hi => by
    have hcq : ∀ u, Below X0.heap.size X0 u → u.cell? ⟨q, 1, none⟩ = some (.string a) ∧ u.cell? ⟨q, 2, none⟩ = some (.string b) ∧ u.cell? ⟨q, 3, none⟩ = some (.int .u64 n) ∧ u.cell? ⟨q, 4, none⟩ = some (.slice ad an ac) := fun u hu => by
      have hb := blk_below hxq hu (lt_of_blk hxq)
      have c1 := cell_of_blk hb 1
      have c2 := cell_of_blk hb 2
      have c3 := cell_of_blk hb 3
      have c4 := cell_of_blk hb 4
      simp at c1 c2 c3 c4
      exact ⟨c1, c2, c3, c4⟩
    match i, hi with
    | 0, _ => exact ⟨none, notThere_nil _, fun u hu => ⟨by rw [cell_of_blk (blk_below hxg hu (lt_of_blk hxg)) 0]; rfl, hcq u hu⟩⟩
    | 1, _ => exact ⟨some ⟨w.heap.size + 1, 0, none⟩, notThere_raw _ _ hxt, fun u hu => ⟨by rw [cell_of_blk (blk_below hxg hu (lt_of_blk hxg)) 1]; rfl, hcq u hu⟩⟩)
  have HW := Lib.hid hB0
  have HX := Lib.hid hX0
  have HQ := Lib.hid hq
  have HG := Lib.hid hg
  clear hB0 hxq hxt hxg hX0
  go_enter Tryd.func7, Tryd.ntmps7
  go_wp2_with fail
  rw [← HX.out, ← hg, ← hq]
  clear hg hq
  go_loopg [6] 2 (fun gk iv wr => ∃ i : Nat, i + gk = 2 ∧ iv = .int .i64 i ∧ Hid (Below X0.heap.size X0 wr))
  case atStart => exact ⟨0, rfl, rfl, Lib.hid (Below.refl _ _)⟩
  case round =>
    obtain ⟨i, hi, rfl, HB⟩ := hrel
    by_cases hlt : i < 2
    · obtain ⟨x, hN, hS⟩ := HV.out i hlt
      have HN := Lib.hid hN
      have HS := Lib.hid hS
      have i0 : (0 : Int) ≤ (i : Int) := by omega
      have i1 : (i : Int) < 2 := by omega
      have iw : IntKind.i64.wrap ((i : Int) + 1) = (i : Int) + 1 := IntWalk.i64_in _ (by omega)
      clear hN hS HV
      go_upto_region 5 with fail
      go_region_held3 (fun u => u.cell? ⟨g, i, none⟩ = some (.pointer x) ∧ u.cell? ⟨q, 1, none⟩ = some (.string a) ∧ u.cell? ⟨q, 2, none⟩ = some (.string b) ∧ u.cell? ⟨q, 3, none⟩ = some (.int .u64 n) ∧ u.cell? ⟨q, 4, none⟩ = some (.slice ad an ac)) (exact HS.out _ (by first | exact HB.out | exact bdrw HB.out)) (first | (go_at_call 16; (with_reducible refine (fork_none a b n wr.drew (HN.out.ext (bdrw HB.out))).mono ?_); rintro e w' ⟨rfl, rfl⟩))
      all_goals rename_i hh
      all_goals clear hh
      have HB5 := Lib.hid (bdrw HB.out)
      clear HB
      generalize wr.drew = W5 at *
      go_upto_region 6 with fail
      go_region_held3 (fun u => u.cell? ⟨g, i, none⟩ = some (.pointer x) ∧ u.cell? ⟨q, 1, none⟩ = some (.string a) ∧ u.cell? ⟨q, 2, none⟩ = some (.string b) ∧ u.cell? ⟨q, 3, none⟩ = some (.int .u64 n) ∧ u.cell? ⟨q, 4, none⟩ = some (.slice ad an ac)) (exact HS.out _ (by first | exact HB5.out | exact bdrw HB5.out)) (first | (go_at_call 18; (with_reducible refine (drop_none a W5.drew (HN.out.ext (bdrw HB5.out))).mono ?_); rintro e w' ⟨rfl, rfl⟩))
      all_goals rename_i hh
      all_goals clear hh
      have HB6 := Lib.hid (bdrw HB5.out)
      clear HB5
      generalize W5.drew = W6 at *
      go_upto_region 7 with fail
      go_region_held3 (fun u => u.cell? ⟨g, i, none⟩ = some (.pointer x) ∧ u.cell? ⟨q, 1, none⟩ = some (.string a) ∧ u.cell? ⟨q, 2, none⟩ = some (.string b) ∧ u.cell? ⟨q, 3, none⟩ = some (.int .u64 n) ∧ u.cell? ⟨q, 4, none⟩ = some (.slice ad an ac)) (exact HS.out _ (by first | exact HB6.out | exact bdrw HB6.out)) (first | (go_at_call 21; (with_reducible refine (trim_none a n W6.drew (HN.out.ext (bdrw HB6.out))).mono ?_); rintro e w' ⟨rfl, rfl⟩))
      all_goals rename_i hh
      all_goals clear hh
      have HB7 := Lib.hid (bdrw HB6.out)
      clear HB6
      generalize W6.drew = W7 at *
      go_upto_region 8 with fail
      go_region_held3 (fun u => u.cell? ⟨g, i, none⟩ = some (.pointer x) ∧ u.cell? ⟨q, 1, none⟩ = some (.string a) ∧ u.cell? ⟨q, 2, none⟩ = some (.string b) ∧ u.cell? ⟨q, 3, none⟩ = some (.int .u64 n) ∧ u.cell? ⟨q, 4, none⟩ = some (.slice ad an ac)) (exact HS.out _ (by first | exact HB7.out | exact bdrw HB7.out)) (first | (go_at_call 20; (with_reducible refine (prune_none (.slice ad an ac) W7.drew (HN.out.ext (bdrw HB7.out))).mono ?_); rintro e w' ⟨rfl, rfl⟩))
      all_goals rename_i hh
      all_goals clear hh
      have HB8 := Lib.hid (bdrw HB7.out)
      clear HB7
      generalize W7.drew = W8 at *
      go_upto_region 9 with fail
      have hA := Lib.hid (balc9 (o := (.cells #[.string ⟨#[]⟩, .int .u64 0, .int .u64 0] (45))) HB8.out)
      have hL8 := HB8.out.size
      go_region_held3 (fun u => u.cell? ⟨g, i, none⟩ = some (.pointer x) ∧ u.cell? ⟨q, 1, none⟩ = some (.string a) ∧ u.cell? ⟨q, 2, none⟩ = some (.string b) ∧ u.cell? ⟨q, 3, none⟩ = some (.int .u64 n) ∧ u.cell? ⟨q, 4, none⟩ = some (.slice ad an ac)) (exact HS.out _ (by first | exact HB8.out | exact bdrw HB8.out | exact hA.out | exact bdrw hA.out | exact hb9 | exact bdrw hb9 | exact balc9 hb9 | (refine Below.setCell (Below.setCell (Below.setCell ?_ ?_ _) ?_ _) ?_ _; exact hb9; all_goals exact hL8))) (first | (go_at_call 17; (with_reducible refine (findN_none a (W8.alloc (.cells #[.string ⟨#[]⟩, .int .u64 0, .int .u64 0] (45))).drew (HN.out.ext (bdrw hA.out))).mono ?_); rintro e w9 ⟨rfl, hb9'⟩; have hb9 := (bdrw hA.out).trans (hb9'.mono (bdrw hA.out).size); have hz := blk_below (blk_drew (blk_new_at rfl (.cells #[.string ⟨#[]⟩, .int .u64 0, .int .u64 0] (45)))) hb9' (by show W8.heap.size < (W8.alloc _).heap.size; rw [World.size_alloc]; omega); have y0 := cell_of_blk hz 0; have y1 := cell_of_blk hz 1; have y2 := cell_of_blk hz 2; have z0 := frozen_of_blk hz 0; have z1 := frozen_of_blk hz 1; have z2 := frozen_of_blk hz 2; simp at y0 y1 y2; clear hb9' hz) | (go_at_call 17; (with_reducible refine (findN_none a W8.drew (HN.out.ext (bdrw HB8.out))).mono ?_); rintro e w9 ⟨rfl, hb9'⟩; have hb9 := (bdrw HB8.out).trans (hb9'.mono (bdrw HB8.out).size); clear hb9'))
      · have HB9 := Lib.hid (balc9 (o := (.cells #[.string ⟨#[]⟩, .int .u64 0, .int .u64 0] (45))) hb9)
        clear hb9 hA hL8 HB8
        rename_i hh
        clear hh
        generalize w9.alloc (.cells #[.string ⟨#[]⟩, .int .u64 0, .int .u64 0] (45)) = W9 at *
        obtain ⟨s1, -, -, -, -⟩ := HS.out W9 HB9.out
        clear HS
        go_wp2_with (first
          | (go_at_call 12; refine (allB_none W9 (HN.out.ext HB9.out).here).mono ?_; rintro e w' ⟨rfl, rfl⟩)
          | (go_at_call 13; refine (allL_none W9 (HN.out.ext HB9.out).here).mono ?_; rintro e w' ⟨rfl, rfl⟩)
          | (go_at_call 11; refine (chainN_none line W9 (HN.out.ext HB9.out)).mono ?_; rintro e w10 ⟨rfl, hb10⟩; have HB10 := Lib.hid (HB9.out.trans (hb10.mono HB9.out.size)); clear hb10))
        go_roundg (gk - 1)
        case measure => omega
        case rel => exact ⟨i + 1, by omega, by go_num, HB10⟩
      · have HB9 := Lib.hid (show Below X0.heap.size X0 (((w9.setCell ⟨W8.heap.size, 0, none⟩ (.string ⟨#[]⟩)).setCell ⟨W8.heap.size, 1, none⟩ (.int .u64 0)).setCell ⟨W8.heap.size, 2, none⟩ (.int .u64 0)) from by refine Below.setCell (Below.setCell (Below.setCell ?_ ?_ _) ?_ _) ?_ _; exact hb9; all_goals exact hL8)
        clear hb9 hA hL8 HB8 y0 y1 y2 z0 z1 z2
        rename_i hh
        clear hh
        generalize ((w9.setCell ⟨W8.heap.size, 0, none⟩ (.string ⟨#[]⟩)).setCell ⟨W8.heap.size, 1, none⟩ (.int .u64 0)).setCell ⟨W8.heap.size, 2, none⟩ (.int .u64 0) = W9 at *
        obtain ⟨s1, -, -, -, -⟩ := HS.out W9 HB9.out
        clear HS
        go_wp2_with (first
          | (go_at_call 12; refine (allB_none W9 (HN.out.ext HB9.out).here).mono ?_; rintro e w' ⟨rfl, rfl⟩)
          | (go_at_call 13; refine (allL_none W9 (HN.out.ext HB9.out).here).mono ?_; rintro e w' ⟨rfl, rfl⟩)
          | (go_at_call 11; refine (chainN_none line W9 (HN.out.ext HB9.out)).mono ?_; rintro e w10 ⟨rfl, hb10⟩; have HB10 := Lib.hid (HB9.out.trans (hb10.mono HB9.out.size)); clear hb10))
        go_roundg (gk - 1)
        case measure => omega
        case rel => exact ⟨i + 1, by omega, by go_num, HB10⟩
    · have : i = 2 := by omega
      subst this
      have HWR := Lib.hid (HW.out.trans (HB.out.mono HW.out.size))
      clear HV HB
      go_wp2_with (go_at_call 9; refine (lives_any wr).mono ?_; rintro e w9 ⟨rfl, hb9⟩)
      go_ret
      exact ⟨rfl, HWR.out.trans (hb9.mono HWR.out.size)⟩
/-- As the row asks it. -/
theorem none_row (k : Int) (a b : ByteArray) (n : Int) (ad : Option Addr) (an ac : Nat) (line : Int) (w : World) (_ : a.size ≤ maxLen) (_ : b.size ≤ maxLen) (_ : U64 n) (_ : (Lit.int .u64 line).wf = true) :
    Calls Tryd.prog (7) #[.agg #[.int .u8 k, .string a, .string b, .int .u64 n, .slice ad an ac], .int .u64 line] w fun e w' => e = .returned (.bool true) ∧ Below w.heap.size w w' := none_any k a b n ad an ac line w
end Go.Proofs.YtacibennmcegfaaDoor
