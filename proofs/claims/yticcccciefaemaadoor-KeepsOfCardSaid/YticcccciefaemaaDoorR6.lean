/- The reference's sees. Condition: fewer than 1000 facts, fewer than 1000000 links. -/
import Derived.Test.YticcccciefaemaaDoorR5
import Derived.Test.YticcccciefaemaaDoorR3
namespace Go.Proofs.YticcccciefaemaaDoor
open Go.RowKit Go.Shelf Go.Herb
attribute [local go_sem ↓] Go.wp_at_zero Go.wp_at_succ

theorem inL_ref (f : Fc) (xs : List Fc) (cs : List Lk) (at_ : Int) : InL f (refOf (xs.filter (seenC cs at_))) ↔ InL f (lastL (seenL xs cs at_)) := by
  rw [seenL_eq]
  unfold InL
  constructor
  · rintro ⟨y, hy, h⟩; exact ⟨y, (mem_refOf _ _).1 hy, h⟩
  · rintro ⟨y, hy, h⟩; exact ⟨y, (mem_refOf _ _).2 hy, h⟩
theorem refSeen_len (xs : List Fc) (cs : List Lk) (at_ : Int) : (refOf (xs.filter (seenC cs at_))).length ≤ xs.length := Nat.le_trans (refOf_len _) (List.length_filter_le _ _)

def SeesPost (xs : List Fc) (x : Wt) (f : Fc) (w : World) (e : Ending) (w' : World) : Prop := ∃ b : Bool, e = .returned (.bool b) ∧ (b = true ↔ RefSees xs x f) ∧ Below w.heap.size w w'

set_option maxRecDepth 100000 in
set_option maxHeartbeats 2000000 in
theorem seesRef_any (x : Wt) (f : Fc) (al : Option Addr) (cl : Nat) (xs : List Fc) (w : World) (hL : Facts w al xs) (hl : xs.length < 1000) (hC : Links w x.a x.cs) (hc : x.cs.length < 1000000) :
    Calls Tryd.prog (20) #[.agg #[.slice x.a x.cs.length x.c, .int .u64 x.at_, .bool x.on], .agg #[.string f.key, .int .u32 f.valid, .int .u64 f.seq, .int .u64 f.line, .int .u8 f.kind, .string f.val], .slice al xs.length cl] w (SeesPost xs x f w) := by
  have HL := Lib.hid hL
  have HC := Lib.hid hC
  clear hL hC
  go_enter Tryd.func20, Tryd.ntmps20
  go_wp2_with fail
  obtain ⟨W, hW⟩ : ∃ W : World, W = (w.alloc (.cells #[.slice x.a x.cs.length x.c, .int .u64 x.at_, .bool x.on] (37))).alloc (.cells #[.string f.key, .int .u32 f.valid, .int .u64 f.seq, .int .u64 f.line, .int .u8 f.kind, .string f.val] (41)) := ⟨_, rfl⟩
  have hb0 : W.heap[w.heap.size]? = some (.cells #[.slice x.a x.cs.length x.c, .int .u64 x.at_, .bool x.on] (37) (0, 0)) := by rw [hW]; exact blk_alloc (blk_new_at rfl _)
  have hb1 : W.heap[w.heap.size + 1]? = some (.cells #[.string f.key, .int .u32 f.valid, .int .u64 f.seq, .int .u64 f.line, .int .u8 f.kind, .string f.val] (41) (0, 0)) := by rw [hW]; exact blk_new_at (by simp) _
  have hBW : Below w.heap.size w W := by rw [hW]; exact ((Below.refl _ w).alloc (Nat.le_refl _) _).alloc (by simp) _
  rw [← hW]
  have hWs : w.heap.size + 1 < W.heap.size := by rw [hW]; simp
  have hall : ∀ at_ u, Below W.heap.size W u → Calls Tryd.prog (33) #[.slice al xs.length cl, .slice x.a x.cs.length x.c, .int .u64 at_] u (RefPost (xs.filter (seenC x.cs at_)) u) := fun at_ u hu => refOf_any al cl xs x.a x.c x.cs at_ u (HL.out.ext (hBW.trans (hu.mono hBW.size))) (HC.out.ext (hBW.trans (hu.mono hBW.size))) hl hc
  have hin : ∀ (a : Option Addr) (c : Nat) (at_ : Int) u, Facts u a (refOf (xs.filter (seenC x.cs at_))) → Calls Tryd.prog (19) #[.agg #[.string f.key, .int .u32 f.valid, .int .u64 f.seq, .int .u64 f.line, .int .u8 f.kind, .string f.val], .slice a (refOf (xs.filter (seenC x.cs at_))).length c] u fun e w' => ∃ b : Bool, e = .returned (.bool b) ∧ (b = true ↔ InL f (lastL (seenL xs x.cs at_))) ∧ Below u.heap.size u w' := fun a c at_ u hF => (in_any f a c _ u hF (by have := refSeen_len xs x.cs at_; omega)).mono (by
    rintro e w' ⟨b, rfl, h, hb⟩
    exact ⟨b, rfl, h.trans (inL_ref _ _ _ _), hb⟩)
  have h0 := Nat.lt_trans (Nat.lt_succ_self _) hWs
  have t0 := cell_of_blk hb0 0
  have t1 := cell_of_blk hb0 1
  have t2 := cell_of_blk hb0 2
  have f0 := cell_of_blk hb1 0
  have f1 := cell_of_blk hb1 1
  have f2 := cell_of_blk hb1 2
  have f3 := cell_of_blk hb1 3
  have f4 := cell_of_blk hb1 4
  have f5 := cell_of_blk hb1 5
  simp at t0 t1 t2 f0 f1 f2 f3 f4 f5
  have HALL := Lib.hid hall
  have HIN := Lib.hid hin
  have HBW := Lib.hid hBW
  have HB0 := Lib.hid hb0
  have HB1 := Lib.hid hb1
  clear hW hb0 hb1 hBW hall hin
  go_region_held3 (fun w' => w'.cell? ⟨w.heap.size, 0, none⟩ = some (.slice x.a x.cs.length x.c) ∧ w'.cell? ⟨w.heap.size, 1, none⟩ = some (.int .u64 x.at_) ∧ w'.cell? ⟨w.heap.size + 1, 0, none⟩ = some (.string f.key) ∧ w'.cell? ⟨w.heap.size + 1, 1, none⟩ = some (.int .u32 f.valid) ∧ w'.cell? ⟨w.heap.size + 1, 2, none⟩ = some (.int .u64 f.seq) ∧ w'.cell? ⟨w.heap.size + 1, 3, none⟩ = some (.int .u64 f.line) ∧ w'.cell? ⟨w.heap.size + 1, 4, none⟩ = some (.int .u8 f.kind) ∧ w'.cell? ⟨w.heap.size + 1, 5, none⟩ = some (.string f.val)) (go_keep)
    (first | (go_at_call 33; refine ((HALL.out _ _ (by first | exact (Below.refl _ _).drew | exact Below.refl _ _)).mono ?_); rintro e u1 ⟨a1, c1, rfl, hF1, hb⟩; have hu1 : Below W.heap.size W u1 := (by first | exact (Below.refl _ _).drew | exact Below.refl _ _ : Below W.heap.size W _).trans hb; clear hb; have m0 := (hu1.cell (p := ⟨w.heap.size, 0, none⟩) h0).trans t0; have m1 := (hu1.cell (p := ⟨w.heap.size, 1, none⟩) h0).trans t1; have g0 := (hu1.cell (p := ⟨w.heap.size + 1, 0, none⟩) hWs).trans f0; have g1 := (hu1.cell (p := ⟨w.heap.size + 1, 1, none⟩) hWs).trans f1; have g2 := (hu1.cell (p := ⟨w.heap.size + 1, 2, none⟩) hWs).trans f2; have g3 := (hu1.cell (p := ⟨w.heap.size + 1, 3, none⟩) hWs).trans f3; have g4 := (hu1.cell (p := ⟨w.heap.size + 1, 4, none⟩) hWs).trans f4; have g5 := (hu1.cell (p := ⟨w.heap.size + 1, 5, none⟩) hWs).trans f5; have HF1 := Lib.hid hF1; clear hF1)
           | (go_at_call 19; refine ((HIN.out a1 c1 x.at_ u1 HF1.out).mono ?_); rintro e u2 ⟨b1, rfl, hb1, hb⟩; have hu2 : Below W.heap.size W u2 := hu1.trans (hb.mono hu1.size); clear hb; clear m0 m1 g0 g1 g2 g3 g4 g5; have m0 := (hu2.cell (p := ⟨w.heap.size, 0, none⟩) h0).trans t0; have m1 := (hu2.cell (p := ⟨w.heap.size, 1, none⟩) h0).trans t1; have g0 := (hu2.cell (p := ⟨w.heap.size + 1, 0, none⟩) hWs).trans f0; have g1 := (hu2.cell (p := ⟨w.heap.size + 1, 1, none⟩) hWs).trans f1; have g2 := (hu2.cell (p := ⟨w.heap.size + 1, 2, none⟩) hWs).trans f2; have g3 := (hu2.cell (p := ⟨w.heap.size + 1, 3, none⟩) hWs).trans f3; have g4 := (hu2.cell (p := ⟨w.heap.size + 1, 4, none⟩) hWs).trans f4; have g5 := (hu2.cell (p := ⟨w.heap.size + 1, 5, none⟩) hWs).trans f5; have HP1 := Lib.hid hb1; clear hb1))
  rename_i hheld
  have m2 := (hu2.cell (p := ⟨w.heap.size, 2, none⟩) h0).trans t2
  have HU2 := Lib.hid hu2
  clear hheld hu1 hu2 HF1 t0 t1 t2 f0 f1 f2 f3 f4 f5
  cases b1 with
  | true =>
    have HR := Lib.hid (show RefSees xs x f from .inl (HP1.out.1 rfl))
    clear m0 m1 m2 g0 g1 g2 g3 g4 g5 HP1
    go_wp2
    go_ret
    exact ⟨true, rfl, ⟨fun _ => HR.out, fun _ => rfl⟩, HBW.out.trans (HU2.out.mono HBW.out.size)⟩
  | false =>
    have hn1 : ¬ InL f (lastL (seenL xs x.cs x.at_)) := fun h => by have := HP1.out.2 h; cases this
    have HN1 := Lib.hid hn1
    clear hn1 HP1
    obtain ⟨on, hon⟩ : ∃ on, on = x.on := ⟨_, rfl⟩
    rw [← hon] at m2
    have HON := Lib.hid hon
    clear hon
    cases on with
    | false =>
      have HR := Lib.hid (show ¬ RefSees xs x f from fun h => by
        rcases h with h | ⟨h, _⟩
        · exact HN1.out h
        · rw [← HON.out] at h; cases h)
      clear HN1 HON
      go_wp2_with fail
      go_quiet (fail)
      go_wp2
      go_ret
      exact ⟨false, rfl, ⟨fun h => (by cases h), fun h => absurd h HR.out⟩, below_drewN (HBW.out.trans (HU2.out.mono HBW.out.size)) _⟩
    | true =>
      by_cases hq : x.at_ < f.seq
      · have d1 : decide (x.at_ < f.seq) = true := decide_eq_true hq
        have HQ := Lib.hid hq
        have l0 : w.heap.size < u2.heap.size := Nat.lt_of_lt_of_le h0 HU2.out.size
        have l1 : w.heap.size + 1 < u2.heap.size := Nat.lt_of_lt_of_le hWs HU2.out.size
        clear hq
        go_wp2_with fail
        go_region_held3 (fun w' => w'.cell? ⟨w.heap.size, 0, none⟩ = some (.slice x.a x.cs.length x.c) ∧ w'.cell? ⟨w.heap.size, 1, none⟩ = some (.int .u64 x.at_) ∧ w'.cell? ⟨w.heap.size, 2, none⟩ = some (.bool true) ∧ w'.cell? ⟨w.heap.size + 1, 0, none⟩ = some (.string f.key) ∧ w'.cell? ⟨w.heap.size + 1, 1, none⟩ = some (.int .u32 f.valid) ∧ w'.cell? ⟨w.heap.size + 1, 2, none⟩ = some (.int .u64 f.seq) ∧ w'.cell? ⟨w.heap.size + 1, 3, none⟩ = some (.int .u64 f.line) ∧ w'.cell? ⟨w.heap.size + 1, 4, none⟩ = some (.int .u8 f.kind) ∧ w'.cell? ⟨w.heap.size + 1, 5, none⟩ = some (.string f.val)) (go_keep)
          (first | (go_at_call 33; refine ((HALL.out f.seq _ (by first | exact HU2.out.drew | exact HU2.out)).mono ?_); rintro e u3 ⟨a3, c3, rfl, hF3, hb⟩; have hu3 : Below u2.heap.size u2 u3 := (by first | exact (Below.refl _ _).drew | exact Below.refl _ _ : Below u2.heap.size u2 _).trans hb; clear hb; have q0 := (hu3.cell (p := ⟨w.heap.size, 0, none⟩) l0).trans m0; have q1 := (hu3.cell (p := ⟨w.heap.size, 1, none⟩) l0).trans m1; have q2 := (hu3.cell (p := ⟨w.heap.size, 2, none⟩) l0).trans m2; have k0 := (hu3.cell (p := ⟨w.heap.size + 1, 0, none⟩) l1).trans g0; have k1 := (hu3.cell (p := ⟨w.heap.size + 1, 1, none⟩) l1).trans g1; have k2 := (hu3.cell (p := ⟨w.heap.size + 1, 2, none⟩) l1).trans g2; have k3 := (hu3.cell (p := ⟨w.heap.size + 1, 3, none⟩) l1).trans g3; have k4 := (hu3.cell (p := ⟨w.heap.size + 1, 4, none⟩) l1).trans g4; have k5 := (hu3.cell (p := ⟨w.heap.size + 1, 5, none⟩) l1).trans g5; have HF3 := Lib.hid hF3; clear hF3)
                 | (go_at_call 19; refine ((HIN.out a3 c3 f.seq u3 HF3.out).mono ?_); rintro e u4 ⟨b2, rfl, hb2, hb⟩; have hu4 : Below u2.heap.size u2 u4 := hu3.trans (hb.mono hu3.size); clear hb q0 q1 q2 k0 k1 k2 k3 k4 k5; have q0 := (hu4.cell (p := ⟨w.heap.size, 0, none⟩) l0).trans m0; have q1 := (hu4.cell (p := ⟨w.heap.size, 1, none⟩) l0).trans m1; have q2 := (hu4.cell (p := ⟨w.heap.size, 2, none⟩) l0).trans m2; have k0 := (hu4.cell (p := ⟨w.heap.size + 1, 0, none⟩) l1).trans g0; have k1 := (hu4.cell (p := ⟨w.heap.size + 1, 1, none⟩) l1).trans g1; have k2 := (hu4.cell (p := ⟨w.heap.size + 1, 2, none⟩) l1).trans g2; have k3 := (hu4.cell (p := ⟨w.heap.size + 1, 3, none⟩) l1).trans g3; have k4 := (hu4.cell (p := ⟨w.heap.size + 1, 4, none⟩) l1).trans g4; have k5 := (hu4.cell (p := ⟨w.heap.size + 1, 5, none⟩) l1).trans g5; have HP2 := Lib.hid hb2; clear hb2))
        all_goals
          rename_i hheld
          have HR := Lib.hid (show b2 = true ↔ RefSees xs x f from ⟨fun h => .inr ⟨HON.out.symm, HQ.out, HP2.out.1 h⟩, fun h => by
            rcases h with h | ⟨_, _, h⟩
            · exact absurd h HN1.out
            · exact HP2.out.2 h⟩)
          have HU4 := Lib.hid hu4
          clear hheld hu3 hu4 HF3 HP2 m0 m1 m2 g0 g1 g2 g3 g4 g5 q0 q1 q2 k0 k1 k2 k3 k4 k5 HON d1
          go_wp2
          go_ret
          exact ⟨b2, rfl, HR.out, HBW.out.trans ((HU2.out.trans (HU4.out.mono HU2.out.size)).mono HBW.out.size)⟩
      · have d1 : decide (x.at_ < f.seq) = false := decide_eq_false hq
        have HR := Lib.hid (show ¬ RefSees xs x f from fun h => by
          rcases h with h | ⟨_, h, _⟩
          · exact HN1.out h
          · exact hq h)
        clear HN1 HON hq
        go_wp2_with fail
        go_quiet (fail)
        go_wp2
        go_ret
        exact ⟨false, rfl, ⟨fun h => (by cases h), fun h => absurd h HR.out⟩, below_drewN (HBW.out.trans (HU2.out.mono HBW.out.size)) _⟩
end Go.Proofs.YticcccciefaemaaDoor
