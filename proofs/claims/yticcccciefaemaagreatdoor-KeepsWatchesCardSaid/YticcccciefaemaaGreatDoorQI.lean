/- The chapter's example of keeps holds. No condition. -/
import Derived.Test.YticcccciefaemaaGreatDoorQH
import Derived.Deep.DrawnRows
namespace Go.Proofs.YticcccciefaemaaGreatDoor
open Go.RowKit Go.Shelf Go.Herb
attribute [local go_sem ↓] Go.wp_at_zero Go.wp_at_succ

def kF1 : Fc := ⟨⟨#[97]⟩, 5, 1, 0, 0, ⟨#[120]⟩, by decide, rfl, rfl, rfl, rfl⟩
def kF2 : Fc := ⟨⟨#[97]⟩, 5, 2, 0, 0, ⟨#[121]⟩, by decide, rfl, rfl, rfl, rfl⟩
def kLk : Lk := ⟨0, 18446744073709551615, rfl, rfl⟩
def kWt (a : Option Addr) (c : Nat) (at_ : Int) (on : Bool) (h : (Lit.int .u64 at_).wf = true) : Wt := ⟨a, c, [kLk], at_, on, h⟩

theorem k_row (s : Spot) : rowP [kF1, kF2] 2 s = if spotOf kF1 = s then [0, 1] else [] := by
  have h0 : firstI [kF1, kF2] 0 = true := by decide
  have h1 : firstI [kF1, kF2] 1 = true := by decide
  have a0 : atSpot [kF1, kF2] s 0 = decide (spotOf kF1 = s) := rfl
  have a1 : atSpot [kF1, kF2] s 1 = decide (spotOf kF1 = s) := rfl
  unfold rowP
  show List.filter _ [0, 1] = _
  by_cases h : spotOf kF1 = s
  · rw [if_pos h]
    simp [a0, a1, h0, h1, h]
  · rw [if_neg h]
    simp [a0, a1, h]
theorem k_seen : [0, 1].filter (seenI [kF1, kF2] (uptoM (backs [kLk] 1))) = [0, 1] := by decide
theorem k_kept (a : Option Addr) (c : Nat) (at_ : Int) (on : Bool) (h : (Lit.int .u64 at_).wf = true) (i : Nat) : KeptP [kF1, kF2] [kWt a c at_ on h] i ↔ LookB (sqF [kF1, kF2]) on at_ [0, 1] i := by
  unfold KeptP LooksAt
  constructor
  · rintro ⟨s, x, hx, hl⟩
    rw [List.mem_singleton] at hx
    subst hx
    have hr := k_row s
    show LookB (sqF [kF1, kF2]) on at_ [0, 1] i
    have hl2 : LookB (sqF [kF1, kF2]) on at_ ((rowP [kF1, kF2] 2 s).filter (seenI [kF1, kF2] (uptoM (backs [kLk] 1)))) i := hl
    rw [hr] at hl2
    by_cases hs : spotOf kF1 = s
    · rw [if_pos hs, k_seen] at hl2
      exact hl2
    · rw [if_neg hs] at hl2
      unfold LookB at hl2
      simp at hl2
  · intro hl
    refine ⟨spotOf kF1, _, List.mem_singleton.2 rfl, ?_⟩
    show LookB (sqF [kF1, kF2]) on at_ ((rowP [kF1, kF2] 2 (spotOf kF1)).filter (seenI [kF1, kF2] (uptoM (backs [kLk] 1)))) i
    rw [k_row, if_pos rfl, k_seen]
    exact hl
theorem k_look (on : Bool) (at_ : Int) (i : Nat) : LookB (sqF [kF1, kF2]) on at_ [0, 1] i ↔ (i = 0 ∧ (on = true ∨ 1 ≤ at_) ∧ at_ < 2) ∨ (i = 1 ∧ (on = true ∨ 2 ≤ at_)) := by
  have s0 : sqF [kF1, kF2] 0 = 1 := rfl
  have s1 : sqF [kF1, kF2] 1 = 2 := rfl
  unfold LookB
  simp only [List.mem_cons, List.not_mem_nil, or_false, forall_eq_or_imp, forall_eq]
  constructor
  · rintro ⟨rfl | rfl, h2, h3, h4⟩
    · rw [s0, s1] at h4
      rw [s0] at h3
      exact .inl ⟨rfl, h3, h4.2 (by omega)⟩
    · rw [s1] at h3
      exact .inr ⟨rfl, h3⟩
  · rintro (⟨rfl, h3, h4⟩ | ⟨rfl, h3⟩)
    · rw [s0, s1]
      exact ⟨.inl rfl, ⟨fun _ => by omega, fun _ => by omega⟩, h3, fun h => by omega, fun _ => h4⟩
    · rw [s0, s1]
      exact ⟨.inr rfl, ⟨fun h => by omega, fun _ => by omega⟩, h3, fun h => by omega, fun h => by omega⟩
theorem k_is {ws : List Wt} {ys : List Fc} (h : KeepIs [kF1, kF2] ws ys) (b0 b1 : Bool) (h0 : KeptP [kF1, kF2] ws 0 ↔ b0 = true) (h1 : KeptP [kF1, kF2] ws 1 ↔ b1 = true) : ys = (if b0 then [kF1] else []) ++ (if b1 then [kF2] else []) := by
  obtain ⟨f, hf, rfl⟩ := h
  have e0 : f 0 = b0 := Bool.eq_iff_iff.2 ((hf 0 (by decide)).trans h0)
  have e1 : f 1 = b1 := Bool.eq_iff_iff.2 ((hf 1 (by decide)).trans h1)
  unfold keptL
  show List.filterMap _ [0, 1] = _
  cases b0 <;> cases b1 <;> simp [e0, e1]

theorem k_two (a : Option Addr) (c : Nat) (h : (Lit.int .u64 2).wf = true) {ys : List Fc} (hk : KeepIs [kF1, kF2] [kWt a c 2 true h] ys) : ys = [kF2] :=
  k_is hk false true (by rw [k_kept, k_look]; simp) (by rw [k_kept, k_look]; simp)
theorem k_one (a : Option Addr) (c : Nat) (h : (Lit.int .u64 1).wf = true) {ys : List Fc} (hk : KeepIs [kF1, kF2] [kWt a c 1 true h] ys) : ys = [kF1, kF2] :=
  k_is hk true true (by rw [k_kept, k_look]; simp) (by rw [k_kept, k_look]; simp)
theorem k_still (a : Option Addr) (c : Nat) (h : (Lit.int .u64 1).wf = true) {ys : List Fc} (hk : KeepIs [kF1, kF2] [kWt a c 1 false h] ys) : ys = [kF1] :=
  k_is hk true false (by rw [k_kept, k_look]; simp) (by rw [k_kept, k_look]; simp)

theorem watch_of_blk {w : World} {b : Nat} {x : Wt} (h : w.heap[b]? = some (.cells #[.slice x.a x.cs.length x.c, .int .u64 x.at_, .bool x.on] (63) (0, 0))) (hl : Links w x.a x.cs) (hf : x.cs.length < 1000000) : Watches w (some ⟨b, 0, none⟩) [x] :=
  ⟨⟨fun i hi => ⟨b, 0, rfl, lt_of_blk h, fun j c hj => by
    have hi0 : i = 0 := by simp at hi; exact hi
    subst hi0
    rw [cell_of_blk h]
    simpa [wc] using hj⟩⟩, fun y hy => by rw [List.mem_singleton.1 hy]; exact hl, fun y hy => by rw [List.mem_singleton.1 hy]; exact hf⟩

theorem blk_new_drew (w : World) (o : Obj) : (w.alloc o).drew.heap[w.heap.size]? = some o := blk_new_at rfl _

set_option maxRecDepth 100000 in
set_option maxHeartbeats 4000000 in
theorem livesK_any (w : World) : Calls Tryz.prog (4) #[] w fun e w' => e = .returned (.bool true) ∧ Below w.heap.size w w' := by
  go_enter Tryz.func4, Tryz.ntmps4
  go_wp2_with fail
  obtain ⟨W, hW⟩ : ∃ W : World, W = (w.alloc (.cells #[.string ⟨#[97]⟩, .int .u32 5, .int .u64 1, .int .u64 0, .int .u8 0, .string ⟨#[120]⟩, .string ⟨#[97]⟩, .int .u32 5, .int .u64 2, .int .u64 0, .int .u8 0, .string ⟨#[121]⟩] (55))).alloc (.cells #[.int .u64 0, .int .u64 18446744073709551615] (58)) := ⟨_, rfl⟩
  have hb0 : W.heap[w.heap.size]? = some (.cells #[.string ⟨#[97]⟩, .int .u32 5, .int .u64 1, .int .u64 0, .int .u8 0, .string ⟨#[120]⟩, .string ⟨#[97]⟩, .int .u32 5, .int .u64 2, .int .u64 0, .int .u8 0, .string ⟨#[121]⟩] (55) (0, 0)) := by rw [hW]; exact blk_alloc (blk_new_at rfl _)
  have hl : Facts W (some ⟨w.heap.size, 0, none⟩) [kF1, kF2] := facts_of_blk hb0 rfl
  have hl2 : Facts W (some ⟨w.heap.size, 6, none⟩) [kF2] := ⟨fun i hi => ⟨w.heap.size, 6, rfl, lt_of_blk hb0, fun j c hj => by
    have hi0 : i = 0 := by simp at hi; exact hi
    subst hi0
    rw [cell_of_blk hb0]
    match j, hj with
    | 0, hj => simpa [fc, kF2] using hj
    | 1, hj => simpa [fc, kF2] using hj
    | 2, hj => simpa [fc, kF2] using hj
    | 3, hj => simpa [fc, kF2] using hj
    | 4, hj => simpa [fc, kF2] using hj
    | 5, hj => simpa [fc, kF2] using hj
    | j + 6, hj => simp [fc] at hj⟩⟩
  have hc : Links W (some ⟨w.heap.size + 1, 0, none⟩) [kLk] := by rw [hW]; exact links_of_blk (blk_new_at (by simp) _) rfl
  have hBW : Below w.heap.size w W := by rw [hW]; exact ((Below.refl _ w).alloc (Nat.le_refl _) _).alloc (by simp) _
  rw [← hW]
  have HL := Lib.hid hl
  have HL2 := Lib.hid hl2
  have HC := Lib.hid hc
  have HBW := Lib.hid hBW
  clear hW hl hl2 hc hBW hb0
  have ck1 : ∀ W' b, Below W.heap.size W W' → W'.heap[b]? = some (.cells #[.slice (some ⟨w.heap.size + 1, 0, none⟩) 1 1, .int .u64 2, .bool true] (63) (0, 0)) → Calls Tryz.prog (13) #[.slice (some ⟨w.heap.size, 0, none⟩) 2 2, .slice (some ⟨b, 0, none⟩) 1 1] W' fun e w' => ∃ a : Option Addr, e = .returned (.slice a 1 1) ∧ Facts w' a [kF2] ∧ Below W'.heap.size W' w' := by
    intro W' b hW' hb
    refine (keep_any _ 2 [kF1, kF2] _ 1 [kWt (some ⟨w.heap.size + 1, 0, none⟩) 1 2 true rfl] W' (HL.out.ext hW') (watch_of_blk hb (HC.out.ext hW') (show (1 : Nat) < 1000000 by decide)) (by decide) (show (1 : Nat) < 1000 by decide)).mono ?_
    rintro e w' ⟨a, ys, rfl, hk, hF, _, _, hB⟩
    obtain rfl := k_two _ _ _ hk
    exact ⟨a, rfl, hF, hB⟩
  have ck2 : ∀ W' b, Below W.heap.size W W' → W'.heap[b]? = some (.cells #[.slice (some ⟨w.heap.size + 1, 0, none⟩) 1 1, .int .u64 1, .bool true] (63) (0, 0)) → Calls Tryz.prog (13) #[.slice (some ⟨w.heap.size, 0, none⟩) 2 2, .slice (some ⟨b, 0, none⟩) 1 1] W' fun e w' => ∃ a : Option Addr, e = .returned (.slice a 2 2) ∧ Facts w' a [kF1, kF2] ∧ Below W'.heap.size W' w' := by
    intro W' b hW' hb
    refine (keep_any _ 2 [kF1, kF2] _ 1 [kWt (some ⟨w.heap.size + 1, 0, none⟩) 1 1 true rfl] W' (HL.out.ext hW') (watch_of_blk hb (HC.out.ext hW') (show (1 : Nat) < 1000000 by decide)) (by decide) (show (1 : Nat) < 1000 by decide)).mono ?_
    rintro e w' ⟨a, ys, rfl, hk, hF, _, _, hB⟩
    obtain rfl := k_one _ _ _ hk
    exact ⟨a, rfl, hF, hB⟩
  have ck3 : ∀ W' b, Below W.heap.size W W' → W'.heap[b]? = some (.cells #[.slice (some ⟨w.heap.size + 1, 0, none⟩) 1 1, .int .u64 1, .bool false] (63) (0, 0)) → Calls Tryz.prog (13) #[.slice (some ⟨w.heap.size, 0, none⟩) 2 2, .slice (some ⟨b, 0, none⟩) 1 1] W' fun e w' => ∃ a : Option Addr, e = .returned (.slice a 1 1) ∧ Facts w' a [kF1] ∧ Below W'.heap.size W' w' := by
    intro W' b hW' hb
    refine (keep_any _ 2 [kF1, kF2] _ 1 [kWt (some ⟨w.heap.size + 1, 0, none⟩) 1 1 false rfl] W' (HL.out.ext hW') (watch_of_blk hb (HC.out.ext hW') (show (1 : Nat) < 1000000 by decide)) (by decide) (show (1 : Nat) < 1000 by decide)).mono ?_
    rintro e w' ⟨a, ys, rfl, hk, hF, _, _, hB⟩
    obtain rfl := k_still _ _ _ hk
    exact ⟨a, rfl, hF, hB⟩
  have cs1 : ∀ W' a, Below W.heap.size W W' → Facts W' a [kF2] → Calls Tryz.prog (12) #[.slice a 1 1, .slice (some ⟨w.heap.size, 6, none⟩) 1 1] W' fun e w' => e = .returned (.bool true) ∧ ∃ n, w' = W'.drewN n := fun W' a hW' hF => sameFacts_any a _ 1 1 [kF2] W' hF (HL2.out.ext hW') (by decide)
  have cs2 : ∀ W' a, Below W.heap.size W W' → Facts W' a [kF1, kF2] → Calls Tryz.prog (12) #[.slice a 2 2, .slice (some ⟨w.heap.size, 0, none⟩) 2 2] W' fun e w' => e = .returned (.bool true) ∧ ∃ n, w' = W'.drewN n := fun W' a hW' hF => sameFacts_any a _ 2 2 [kF1, kF2] W' hF (HL.out.ext hW') (by decide)
  have cs3 : ∀ W' a, Below W.heap.size W W' → Facts W' a [kF1] → Calls Tryz.prog (12) #[.slice a 1 1, .slice (some ⟨w.heap.size, 0, none⟩) 1 2] W' fun e w' => e = .returned (.bool true) ∧ ∃ n, w' = W'.drewN n := fun W' a hW' hF => sameFacts_any a _ 1 2 [kF1] W' hF ((HL.out.ext hW').take 1) (by decide)
  have CK1 := Lib.hid ck1
  have CK2 := Lib.hid ck2
  have CK3 := Lib.hid ck3
  have CS1 := Lib.hid cs1
  have CS2 := Lib.hid cs2
  have CS3 := Lib.hid cs3
  clear ck1 ck2 ck3 cs1 cs2 cs3 HL HL2 HC
  go_region_held3 (fun w' => True) (go_keep)
    (first | (go_at_call 13; (with_reducible refine (CK1.out _ _ (((Below.refl _ _).alloc (Nat.le_refl _) _).drew) (blk_new_drew _ _)).mono ?_); rintro e u1 ⟨a1, rfl, hF1, hb0⟩; have hb1 : Below W.heap.size W u1 := Below.trans (((Below.refl _ _).alloc (Nat.le_refl _) _).drew) (hb0.mono (by simp)); clear hb0; have HF1 := Lib.hid hF1; clear hF1)
           | (go_at_call 12; (with_reducible refine (CS1.out u1 a1 hb1 HF1.out).mono ?_); rintro e u2 ⟨rfl, n2, rfl⟩; have hb2 : Below W.heap.size W (u1.drewN n2) := below_drewN hb1 n2; clear hb1 HF1; generalize u1.drewN n2 = v2 at *)
           | (go_at_call 13; (with_reducible refine (CK2.out _ _ (hb2.alloc hb2.size _) (blk_new_at rfl _)).mono ?_); rintro e u3 ⟨a3, rfl, hF3, hb0⟩; have hb3 : Below W.heap.size W u3 := Below.trans (hb2.alloc hb2.size _) (hb0.mono (by have := hb2.size; simp; omega)); clear hb0 hb2; have HF3 := Lib.hid hF3; clear hF3)
           | (go_at_call 12; (with_reducible refine (CS2.out u3 a3 hb3 HF3.out).mono ?_); rintro e u4 ⟨rfl, n4, rfl⟩; have hb4 : Below W.heap.size W (u3.drewN n4) := below_drewN hb3 n4; clear hb3 HF3; generalize u3.drewN n4 = v4 at *)
           | (go_at_call 13; (with_reducible refine (CK3.out _ _ (hb4.alloc hb4.size _) (blk_new_at rfl _)).mono ?_); rintro e u5 ⟨a5, rfl, hF5, hb0⟩; have hb5 : Below W.heap.size W u5 := Below.trans (hb4.alloc hb4.size _) (hb0.mono (by have := hb4.size; simp; omega)); clear hb0 hb4; have HF5 := Lib.hid hF5; clear hF5)
           | (go_at_call 12; (with_reducible refine (CS3.out u5 a5 hb5 HF5.out).mono ?_); rintro e u6 ⟨rfl, n6, rfl⟩; have hb6 : Below W.heap.size W (u5.drewN n6) := below_drewN hb5 n6))
  all_goals
    rename_i hheld
    clear hheld
    go_wp2
    go_ret
    exact ⟨rfl, HBW.out.trans (hb6.mono HBW.out.size)⟩
end Go.Proofs.YticcccciefaemaaGreatDoor
