/- The reference's view: its walk. Condition: fewer than 1000 facts, fewer than 1000000 links. -/
import Derived.Test.YtenocakpipppiaaGreatDoorR4
import Derived.Deep.DrawnRows
namespace Go.Proofs.YtenocakpipppiaaGreatDoor
open Go.RowKit Go.Shelf Go.Herb
attribute [local go_sem ↓] Go.wp_at_zero Go.wp_at_succ

def RefPost (zs : List Fc) (w : World) (e : Ending) (w' : World) : Prop :=
  ∃ (a : Option Addr) (c : Nat), e = .returned (.slice a (refOf zs).length c) ∧ Facts w' a (refOf zs) ∧ Below w.heap.size w w'

theorem bcell {B : Nat} {W w1 : World} (hb : Below B W w1) : (∀ b o, b < B → w1.cell? ⟨b, o, none⟩ = W.cell? ⟨b, o, none⟩) :=
  fun b o h => hb.cell (p := ⟨b, o, none⟩) h

theorem ahead_t {x y : Fc} (h : AhF x y) (w : World) : Calls Tryz.prog (26) #[.agg #[.string x.key, .int .u32 x.valid, .int .u64 x.seq, .int .u64 x.line, .int .u8 x.kind, .string x.val], .agg #[.string y.key, .int .u32 y.valid, .int .u64 y.seq, .int .u64 y.line, .int .u8 y.kind, .string y.val]] w fun e w' => e = .returned (.bool true) ∧ Below w.heap.size w w' :=
  (ahead_any x y w).mono (by rintro e w' ⟨rfl, hb⟩; exact ⟨by rw [decide_eq_true h], hb⟩)
theorem ahead_f {x y : Fc} (h : ¬ AhF x y) (w : World) : Calls Tryz.prog (26) #[.agg #[.string x.key, .int .u32 x.valid, .int .u64 x.seq, .int .u64 x.line, .int .u8 x.kind, .string x.val], .agg #[.string y.key, .int .u32 y.valid, .int .u64 y.seq, .int .u64 y.line, .int .u8 y.kind, .string y.val]] w fun e w' => e = .returned (.bool false) ∧ Below w.heap.size w w' :=
  (ahead_any x y w).mono (by rintro e w' ⟨rfl, hb⟩; exact ⟨by rw [decide_eq_false h], hb⟩)

set_option maxRecDepth 100000 in
set_option maxHeartbeats 4000000 in
theorem refOf_any (al : Option Addr) (cl : Nat) (xs : List Fc) (ac : Option Addr) (cc : Nat) (cs : List Lk) (at_ : Int) (w : World) (hL : Facts w al xs) (hC : Links w ac cs) (hx : xs.length < 1000) (hc : cs.length < 1000000) :
    Calls Tryz.prog (8) #[.slice al xs.length cl, .slice ac cs.length cc, .int .u64 at_] w (RefPost (xs.filter (seenC cs at_)) w) := by
  have HL := Lib.hid hL
  have HC := Lib.hid hC
  clear hL hC
  go_enter Tryz.func8, Tryz.ntmps8
  go_wp2_with fail
  go_loopg [7, 8] xs.length (fun gk ov iv wr => ∃ i : Nat, i + gk = xs.length ∧ iv = .int .i64 i ∧ OwnF w.heap.size wr ov (refOf ((xs.take i).filter (seenC cs at_))) ∧ Below w.heap.size w wr)
  case atStart => exact ⟨0, by omega, rfl, World.ownsRow_nil _ _ _ _, Below.refl _ _⟩
  case round =>
    obtain ⟨i, hi, rfl, hown, hBi⟩ := hrel
    have HBI := Lib.hid hBi
    have HOWN := Lib.hid hown
    have hsi := hBi.size
    clear hBi hown
    by_cases hilt : i < xs.length
    · obtain ⟨b, o, rfl, hlb, hcell⟩ := HL.out.get i hilt
      have hsn := filter_succ (seenC cs at_) xs i hilt
      have hrl := refOf_len ((xs.take i).filter (seenC cs at_))
      have hfl : ((xs.take i).filter (seenC cs at_)).length ≤ i := Nat.le_trans (List.length_filter_le _ _) (List.length_take_le _ _)
      generalize xs[i] = x at *
      have HX : Hid (∀ W, Below w.heap.size w W → W.cell? ⟨b, o + i * 6, none⟩ = some (.string x.key) ∧ W.cell? ⟨b, o + i * 6 + 1, none⟩ = some (.int .u32 x.valid) ∧ W.cell? ⟨b, o + i * 6 + 2, none⟩ = some (.int .u64 x.seq) ∧ W.cell? ⟨b, o + i * 6 + 3, none⟩ = some (.int .u64 x.line) ∧ W.cell? ⟨b, o + i * 6 + 4, none⟩ = some (.int .u8 x.kind) ∧ W.cell? ⟨b, o + i * 6 + 5, none⟩ = some (.string x.val)) := Lib.hid (fun W hW => ⟨(hW.cell (p := ⟨b, _, none⟩) hlb).trans (hcell 0 _ rfl), (hW.cell (p := ⟨b, _, none⟩) hlb).trans (hcell 1 _ rfl), (hW.cell (p := ⟨b, _, none⟩) hlb).trans (hcell 2 _ rfl), (hW.cell (p := ⟨b, _, none⟩) hlb).trans (hcell 3 _ rfl), (hW.cell (p := ⟨b, _, none⟩) hlb).trans (hcell 4 _ rfl), (hW.cell (p := ⟨b, _, none⟩) hlb).trans (hcell 5 _ rfl)⟩)
      obtain ⟨e0, e1, e2, e3, e4, e5⟩ := HX.out wr HBI.out
      have hlr : b < wr.heap.size := by omega
      have hi0 : (0 : Int) ≤ (i : Int) := by omega
      have hi1 : (i : Int) < (xs.length : Int) := by omega
      have HSN := Lib.hid hsn
      have cseen := seenRef_any x ac cc cs at_ wr (HC.out.ext HBI.out) (by omega)
      clear hsn hcell
      cases hs : seenC cs at_ x with
      | false =>
        rw [hs] at cseen
        have CS := Lib.hid cseen
        have HS := Lib.hid hs
        clear cseen hs
        go_wp2_with fail
        refine (CS.out).mono ?_
        rintro e w1 ⟨rfl, hb1⟩
        have HB1 := Lib.hid (HBI.out.trans (hb1.mono hsi))
        have HO1 := Lib.hid (HOWN.out.below hb1)
        clear hb1 CS e0 e1 e2 e3 e4 e5
        go_wp2
        go_roundg (gk - 1)
        case measure => omega
        case rel => exact ⟨i + 1, by omega, by go_num, by rw [HSN.out, HS.out]; simpa using HO1.out, HB1.out⟩
      | true =>
        rw [hs] at cseen
        have CS := Lib.hid cseen
        obtain ⟨N, hN⟩ : ∃ N, N = refOf ((xs.take (i + 1)).filter (seenC cs at_)) := ⟨_, rfl⟩
        have HNX := Lib.hid hN
        rw [HSN.out, hs, if_pos rfl, refOf_snoc] at hN
        clear HSN
        generalize refOf ((xs.take i).filter (seenC cs at_)) = zs at *
        have hzl : zs.length < 1000 := by omega
        have HN := Lib.hid hN
        obtain ⟨ka, kc, rfl, hkc, hKE⟩ := els_of_owns fc_len (show wr.ownsRow w.heap.size _ 6 _ zs.length _ from HOWN.out)
        have HKE := Lib.hid hKE
        clear cseen hs hN hKE hrl hfl
        go_wp2_with fail
        refine (CS.out).mono ?_
        rintro e w1 ⟨rfl, hb1⟩
        have HB1 := Lib.hid (HBI.out.trans (hb1.mono hsi))
        have HO1 := Lib.hid (HOWN.out.below hb1)
        have HK1 := Lib.hid (HKE.out.ext hb1)
        clear hb1 CS e0 e1 e2 e3 e4 e5 HKE HOWN hlr HBI hsi
        go_wp2_with fail
        obtain ⟨g2, rfl⟩ : ∃ g : Nat, g = gk := ⟨_, rfl⟩
        go_loopg [9] zs.length (fun gk kv wr => ∃ k : Nat, k + gk = zs.length ∧ kv = .int .i64 k ∧ Hid (∀ y ∈ zs.take k, AhF y x) ∧ OwnF w.heap.size wr (.slice ka zs.length kc) zs ∧ Facts wr ka zs ∧ Below w.heap.size w wr)
        case atStart => exact ⟨0, by omega, rfl, Lib.hid (by simp), HO1.out, HK1.out, HB1.out⟩
        case round =>
          clear HO1 HK1 HB1
          obtain ⟨k, hk, rfl, HAL, hown, hke, hBw⟩ := hrel
          have HOW := Lib.hid hown
          have HKE := Lib.hid hke
          have HBW := Lib.hid hBw
          have hsw := hBw.size
          clear hown hke hBw
          by_cases hklt : k < zs.length
          · obtain ⟨b3, o3, rfl, hlb3, hcell3⟩ := HKE.out.get k hklt
            obtain ⟨e0, e1, e2, e3, e4, e5⟩ := HX.out wr HBW.out
            have hnext : AhF zs[k] x → ∀ y ∈ zs.take (k + 1), AhF y x := fun h y hy => by
              rw [List.take_succ_eq_append_getElem hklt] at hy
              rcases List.mem_append.1 hy with hy | hy
              · exact HAL.out y hy
              · rw [List.mem_singleton.1 hy]; exact h
            have hins := refStep_ins zs x k (Nat.le_of_lt hklt) HAL.out
            have hsame := refStep_same zs x k hklt HAL.out
            have HNXT := Lib.hid hnext
            have HINS := Lib.hid hins
            have HSAME := Lib.hid hsame
            clear hnext hins hsame
            obtain ⟨y, hy⟩ : ∃ y, y = zs[k] := ⟨_, rfl⟩
            rw [← hy] at hcell3 HNXT HSAME
            have HY := Lib.hid hy
            have f0 := hcell3 0 _ rfl
            have f1 := hcell3 1 _ rfl
            have f2 := hcell3 2 _ rfl
            have f3 := hcell3 3 _ rfl
            have f4 := hcell3 4 _ rfl
            have f5 := hcell3 5 _ rfl
            simp only [Nat.add_zero] at f0 f1 f2 f3 f4 f5
            have hk0 : (0 : Int) ≤ (k : Int) := by omega
            have hk1 : (k : Int) < (zs.length : Int) := by omega
            have hlr : b < wr.heap.size := Nat.lt_of_lt_of_le hlb hsw
            clear hcell3 hy
            by_cases ha : AhF y x
            · have CA := Lib.hid (ahead_t ha)
              have HN2 := Lib.hid (HNXT.out ha)
              clear ha
              go_wp2_with fail
              go_region_held3 (fun w' => w'.cell? ⟨b, o + i * 6, none⟩ = some (.string x.key) ∧ w'.cell? ⟨b, o + i * 6 + 1, none⟩ = some (.int .u32 x.valid) ∧ w'.cell? ⟨b, o + i * 6 + 2, none⟩ = some (.int .u64 x.seq) ∧ w'.cell? ⟨b, o + i * 6 + 3, none⟩ = some (.int .u64 x.line) ∧ w'.cell? ⟨b, o + i * 6 + 4, none⟩ = some (.int .u8 x.kind) ∧ w'.cell? ⟨b, o + i * 6 + 5, none⟩ = some (.string x.val) ∧ w'.cell? ⟨b3, o3 + k * 6, none⟩ = some (.string y.key) ∧ w'.cell? ⟨b3, o3 + k * 6 + 1, none⟩ = some (.int .u32 y.valid) ∧ w'.cell? ⟨b3, o3 + k * 6 + 2, none⟩ = some (.int .u64 y.seq) ∧ w'.cell? ⟨b3, o3 + k * 6 + 3, none⟩ = some (.int .u64 y.line) ∧ w'.cell? ⟨b3, o3 + k * 6 + 4, none⟩ = some (.int .u8 y.kind) ∧ w'.cell? ⟨b3, o3 + k * 6 + 5, none⟩ = some (.string y.val)) (go_keep) (first | (go_at_call 26; refine (CA.out _).mono ?_; rintro e u ⟨rfl, hbu0⟩; have hbu : Below wr.heap.size wr u := (Below.refl _ _).drew.trans hbu0; clear hbu0; have c0 := (hbu.cell (p := ⟨b, o + i * 6, none⟩) hlr).trans e0; have c1 := (hbu.cell (p := ⟨b, o + i * 6 + 1, none⟩) hlr).trans e1; have c2 := (hbu.cell (p := ⟨b, o + i * 6 + 2, none⟩) hlr).trans e2; have c3 := (hbu.cell (p := ⟨b, o + i * 6 + 3, none⟩) hlr).trans e3; have c4 := (hbu.cell (p := ⟨b, o + i * 6 + 4, none⟩) hlr).trans e4; have c5 := (hbu.cell (p := ⟨b, o + i * 6 + 5, none⟩) hlr).trans e5; have d0 := (hbu.cell (p := ⟨b3, o3 + k * 6, none⟩) hlb3).trans f0; have d1 := (hbu.cell (p := ⟨b3, o3 + k * 6 + 1, none⟩) hlb3).trans f1; have d2 := (hbu.cell (p := ⟨b3, o3 + k * 6 + 2, none⟩) hlb3).trans f2; have d3 := (hbu.cell (p := ⟨b3, o3 + k * 6 + 3, none⟩) hlb3).trans f3; have d4 := (hbu.cell (p := ⟨b3, o3 + k * 6 + 4, none⟩) hlb3).trans f4; have d5 := (hbu.cell (p := ⟨b3, o3 + k * 6 + 5, none⟩) hlb3).trans f5))
              all_goals
                rename_i hheld
                clear c0 c1 c2 c3 c4 c5 d0 d1 d2 d3 d4 d5
                have HOU := Lib.hid (HOW.out.below hbu)
                have HKU := Lib.hid (HKE.out.ext hbu)
                have HBU := Lib.hid (HBW.out.trans (hbu.mono hsw))
                clear hheld hbu e0 e1 e2 e3 e4 e5 f0 f1 f2 f3 f4 f5
                go_wp2
                go_roundg (gk - 1)
                case measure => omega
                case rel => exact ⟨k + 1, by omega, by go_num, HN2, HOU.out, HKU.out, HBU.out⟩
            · have CA := Lib.hid (ahead_f ha)
              by_cases ha2 : AhF x y
              · have CA2 := Lib.hid (ahead_t ha2)
                have hNk : N = zs.take k ++ [x] ++ zs.drop k := HN.out.trans (HINS.out (fun _ => ⟨by rw [← HY.out]; exact ha, by rw [← HY.out]; exact ha2⟩))
                clear ha ha2
                go_wp2_with fail
                go_region_held3 (fun w' => w'.cell? ⟨b, o + i * 6, none⟩ = some (.string x.key) ∧ w'.cell? ⟨b, o + i * 6 + 1, none⟩ = some (.int .u32 x.valid) ∧ w'.cell? ⟨b, o + i * 6 + 2, none⟩ = some (.int .u64 x.seq) ∧ w'.cell? ⟨b, o + i * 6 + 3, none⟩ = some (.int .u64 x.line) ∧ w'.cell? ⟨b, o + i * 6 + 4, none⟩ = some (.int .u8 x.kind) ∧ w'.cell? ⟨b, o + i * 6 + 5, none⟩ = some (.string x.val) ∧ w'.cell? ⟨b3, o3 + k * 6, none⟩ = some (.string y.key) ∧ w'.cell? ⟨b3, o3 + k * 6 + 1, none⟩ = some (.int .u32 y.valid) ∧ w'.cell? ⟨b3, o3 + k * 6 + 2, none⟩ = some (.int .u64 y.seq) ∧ w'.cell? ⟨b3, o3 + k * 6 + 3, none⟩ = some (.int .u64 y.line) ∧ w'.cell? ⟨b3, o3 + k * 6 + 4, none⟩ = some (.int .u8 y.kind) ∧ w'.cell? ⟨b3, o3 + k * 6 + 5, none⟩ = some (.string y.val)) (go_keep) (first | (go_at_call 26; refine (CA.out _).mono ?_; rintro e u ⟨rfl, hbu0⟩; have hbu : Below wr.heap.size wr u := (Below.refl _ _).drew.trans hbu0; clear hbu0; have c0 := (hbu.cell (p := ⟨b, o + i * 6, none⟩) hlr).trans e0; have c1 := (hbu.cell (p := ⟨b, o + i * 6 + 1, none⟩) hlr).trans e1; have c2 := (hbu.cell (p := ⟨b, o + i * 6 + 2, none⟩) hlr).trans e2; have c3 := (hbu.cell (p := ⟨b, o + i * 6 + 3, none⟩) hlr).trans e3; have c4 := (hbu.cell (p := ⟨b, o + i * 6 + 4, none⟩) hlr).trans e4; have c5 := (hbu.cell (p := ⟨b, o + i * 6 + 5, none⟩) hlr).trans e5; have d0 := (hbu.cell (p := ⟨b3, o3 + k * 6, none⟩) hlb3).trans f0; have d1 := (hbu.cell (p := ⟨b3, o3 + k * 6 + 1, none⟩) hlb3).trans f1; have d2 := (hbu.cell (p := ⟨b3, o3 + k * 6 + 2, none⟩) hlb3).trans f2; have d3 := (hbu.cell (p := ⟨b3, o3 + k * 6 + 3, none⟩) hlb3).trans f3; have d4 := (hbu.cell (p := ⟨b3, o3 + k * 6 + 4, none⟩) hlb3).trans f4; have d5 := (hbu.cell (p := ⟨b3, o3 + k * 6 + 5, none⟩) hlb3).trans f5))
                rename_i hheld
                clear c0 c1 c2 c3 c4 c5 d0 d1 d2 d3 d4 d5
                have HOU := Lib.hid (HOW.out.below hbu)
                have HKU := Lib.hid (HKE.out.ext hbu)
                have HBU := Lib.hid (HBW.out.trans (hbu.mono hsw))
                have hlru : b < u.heap.size := Nat.lt_of_lt_of_le hlb HBU.out.size
                have hlr3 : b3 < u.heap.size := Nat.lt_of_lt_of_le hlb3 hbu.size
                obtain ⟨e0, e1, e2, e3, e4, e5⟩ := HX.out u HBU.out
                replace f0 := (hbu.cell (p := ⟨b3, _, none⟩) hlb3).trans f0
                replace f1 := (hbu.cell (p := ⟨b3, _, none⟩) hlb3).trans f1
                replace f2 := (hbu.cell (p := ⟨b3, _, none⟩) hlb3).trans f2
                replace f3 := (hbu.cell (p := ⟨b3, _, none⟩) hlb3).trans f3
                replace f4 := (hbu.cell (p := ⟨b3, _, none⟩) hlb3).trans f4
                replace f5 := (hbu.cell (p := ⟨b3, _, none⟩) hlb3).trans f5
                have hsu := HBU.out.size
                clear hheld hbu CA HOW HKE HBW hlr
                go_wp2_with fail
                go_region_held3 (fun w' => w'.cell? ⟨b, o + i * 6, none⟩ = some (.string x.key) ∧ w'.cell? ⟨b, o + i * 6 + 1, none⟩ = some (.int .u32 x.valid) ∧ w'.cell? ⟨b, o + i * 6 + 2, none⟩ = some (.int .u64 x.seq) ∧ w'.cell? ⟨b, o + i * 6 + 3, none⟩ = some (.int .u64 x.line) ∧ w'.cell? ⟨b, o + i * 6 + 4, none⟩ = some (.int .u8 x.kind) ∧ w'.cell? ⟨b, o + i * 6 + 5, none⟩ = some (.string x.val) ∧ w'.cell? ⟨b3, o3 + k * 6, none⟩ = some (.string y.key) ∧ w'.cell? ⟨b3, o3 + k * 6 + 1, none⟩ = some (.int .u32 y.valid) ∧ w'.cell? ⟨b3, o3 + k * 6 + 2, none⟩ = some (.int .u64 y.seq) ∧ w'.cell? ⟨b3, o3 + k * 6 + 3, none⟩ = some (.int .u64 y.line) ∧ w'.cell? ⟨b3, o3 + k * 6 + 4, none⟩ = some (.int .u8 y.kind) ∧ w'.cell? ⟨b3, o3 + k * 6 + 5, none⟩ = some (.string y.val)) (go_keep) (first | (go_at_call 26; refine (CA2.out _).mono ?_; rintro e v ⟨rfl, hbu0⟩; have hbu : Below u.heap.size u v := (Below.refl _ _).drew.trans hbu0; clear hbu0; have c0 := (hbu.cell (p := ⟨b, o + i * 6, none⟩) hlru).trans e0; have c1 := (hbu.cell (p := ⟨b, o + i * 6 + 1, none⟩) hlru).trans e1; have c2 := (hbu.cell (p := ⟨b, o + i * 6 + 2, none⟩) hlru).trans e2; have c3 := (hbu.cell (p := ⟨b, o + i * 6 + 3, none⟩) hlru).trans e3; have c4 := (hbu.cell (p := ⟨b, o + i * 6 + 4, none⟩) hlru).trans e4; have c5 := (hbu.cell (p := ⟨b, o + i * 6 + 5, none⟩) hlru).trans e5; have d0 := (hbu.cell (p := ⟨b3, o3 + k * 6, none⟩) hlr3).trans f0; have d1 := (hbu.cell (p := ⟨b3, o3 + k * 6 + 1, none⟩) hlr3).trans f1; have d2 := (hbu.cell (p := ⟨b3, o3 + k * 6 + 2, none⟩) hlr3).trans f2; have d3 := (hbu.cell (p := ⟨b3, o3 + k * 6 + 3, none⟩) hlr3).trans f3; have d4 := (hbu.cell (p := ⟨b3, o3 + k * 6 + 4, none⟩) hlr3).trans f4; have d5 := (hbu.cell (p := ⟨b3, o3 + k * 6 + 5, none⟩) hlr3).trans f5))
                rename_i hheld
                clear c0 c1 c2 c3 c4 c5 d0 d1 d2 d3 d4 d5
                have HOW := Lib.hid (HOU.out.below hbu)
                have HKE := Lib.hid (HKU.out.ext hbu)
                have HBW := Lib.hid (HBU.out.trans (hbu.mono hsu))
                clear hheld hbu CA2 HOU HKU HBU e0 e1 e2 e3 e4 e5 f0 f1 f2 f3 f4 f5 hlru hlr3 hsu
                have hwf : w.heap.size ≤ v.heap.size := HBW.out.size
                obtain ⟨q1, hs1, hT1, hn1⟩ := sliceF_lo HKE.out hkc (k := k) (by omega) (OwnF.none0 HOW.out)
                obtain ⟨q2, hs2, hT2, hn2⟩ := sliceF_hi HKE.out hkc (k := k) (by omega) (OwnF.none0 HOW.out)
                obtain ⟨tk, htk⟩ : ∃ tk, tk = zs.take k := ⟨_, rfl⟩
                obtain ⟨dk, hdk⟩ : ∃ dk, dk = zs.drop k := ⟨_, rfl⟩
                have htl : tk.length ≤ k := by rw [htk]; exact List.length_take_le _ _
                have hl1 : tk.length < 1000000 := by omega
                have hl2 : dk.length < 1000000 := by rw [hdk, List.length_drop]; omega
                have hl3 : (tk ++ [x]).length < 1000000 := by rw [List.length_append, List.length_singleton]; omega
                rw [← htk] at hs1 hT1 hNk
                rw [← hdk] at hs2 hT2 hNk
                have HNK := Lib.hid hNk
                have HT1 := Lib.hid hT1
                have HT2 := Lib.hid hT2
                have HN1 := Lib.hid hn1
                have HN2 := Lib.hid hn2
                obtain ⟨e0, e1, e2, e3, e4, e5⟩ := HX.out v HBW.out
                have hlr : b < v.heap.size := Nat.lt_of_lt_of_le hlb hwf
                clear hT1 hT2 hn1 hn2 htk hdk hNk hkc htl
                go_wp2_with fail
                go_region_held3 (fun w' => w'.cell? ⟨b, o + i * 6, none⟩ = some (.string x.key) ∧ w'.cell? ⟨b, o + i * 6 + 1, none⟩ = some (.int .u32 x.valid) ∧ w'.cell? ⟨b, o + i * 6 + 2, none⟩ = some (.int .u64 x.seq) ∧ w'.cell? ⟨b, o + i * 6 + 3, none⟩ = some (.int .u64 x.line) ∧ w'.cell? ⟨b, o + i * 6 + 4, none⟩ = some (.int .u8 x.kind) ∧ w'.cell? ⟨b, o + i * 6 + 5, none⟩ = some (.string x.val)) (go_keep)
                  (first | (refine wp_append_facts (.const (.slice none 0 0)) (.tmp 77) (by rfl) v.heap.size (.slice none 0 0) [] q1 kc tk (by rfl) (by rfl) (World.ownsRow_nil _ _ _ _) (HT1.out.ext (by first | exact (Below.refl _ _).drew | go_grown)) (by simp) hl1 HN1.out (by simp) ?_; intro v1 y1 hO1 hg1; have hb1 : Below v.heap.size v y1 := Below.grown (by first | exact (Below.refl _ _).drew | go_grown) hg1 (by simp) (fun k e => by cases e); have c0 := (hb1.cell (p := ⟨b, o + i * 6, none⟩) hlr).trans e0; have c1 := (hb1.cell (p := ⟨b, o + i * 6 + 1, none⟩) hlr).trans e1; have c2 := (hb1.cell (p := ⟨b, o + i * 6 + 2, none⟩) hlr).trans e2; have c3 := (hb1.cell (p := ⟨b, o + i * 6 + 3, none⟩) hlr).trans e3; have c4 := (hb1.cell (p := ⟨b, o + i * 6 + 4, none⟩) hlr).trans e4; have c5 := (hb1.cell (p := ⟨b, o + i * 6 + 5, none⟩) hlr).trans e5)
                         | (refine wp_append_facts (.tmp 78) (.tmp 83) (by rfl) v.heap.size v1 tk (some ⟨y1.heap.size, 0, none⟩) 1 [x] (by rfl) (by rfl) (OwnF.below hO1 (by go_grown)) (els_of_one (x := x) (blk_new_at (by rfl) _)) hl1 (by simp) (fun h => by cases h) (by have := hb1.size; first | omega | (simp only [World.size_alloc]; omega) | (show v.heap.size ≤ (y1.heap.push _).size; rw [Array.size_push]; omega)) ?_; intro v2 y2 hO2 hg2; have hb2 : Below v.heap.size v y2 := Below.grown (by first | exact hb1.alloc hb1.size _ | exact (hb1.alloc hb1.size _).drew | exact (hb1.drew).alloc hb1.size _) hg2 (by have := hb1.size; first | omega | (simp only [World.size_alloc]; omega) | (show v.heap.size ≤ (y1.heap.push _).size; rw [Array.size_push]; omega)) (fun k e => (World.ownsRow.lt hO1 k e).1); have d0 := (hb2.cell (p := ⟨b, o + i * 6, none⟩) hlr).trans e0; have d1 := (hb2.cell (p := ⟨b, o + i * 6 + 1, none⟩) hlr).trans e1; have d2 := (hb2.cell (p := ⟨b, o + i * 6 + 2, none⟩) hlr).trans e2; have d3 := (hb2.cell (p := ⟨b, o + i * 6 + 3, none⟩) hlr).trans e3; have d4 := (hb2.cell (p := ⟨b, o + i * 6 + 4, none⟩) hlr).trans e4; have d5 := (hb2.cell (p := ⟨b, o + i * 6 + 5, none⟩) hlr).trans e5)
                         | (refine wp_append_facts (.tmp 78) (.tmp 83) (by rfl) v.heap.size v1 tk (some ⟨v.heap.size, 0, none⟩) 1 [x] (by rfl) (by rfl) hO1 (els_of_one (x := x) ((hg1.block _ (by simp) (fun e => by cases e)).trans (blk_new_at (by rfl) _))) hl1 (by simp) (fun h => by cases h) hb1.size ?_; intro v2 y2 hO2 hg2; have hb2 : Below v.heap.size v y2 := Below.grown hb1 hg2 hb1.size (fun k e => (World.ownsRow.lt hO1 k e).1); have d0 := (hb2.cell (p := ⟨b, o + i * 6, none⟩) hlr).trans e0; have d1 := (hb2.cell (p := ⟨b, o + i * 6 + 1, none⟩) hlr).trans e1; have d2 := (hb2.cell (p := ⟨b, o + i * 6 + 2, none⟩) hlr).trans e2; have d3 := (hb2.cell (p := ⟨b, o + i * 6 + 3, none⟩) hlr).trans e3; have d4 := (hb2.cell (p := ⟨b, o + i * 6 + 4, none⟩) hlr).trans e4; have d5 := (hb2.cell (p := ⟨b, o + i * 6 + 5, none⟩) hlr).trans e5)
                         | (refine wp_append_facts (.tmp 84) (.tmp 87) (by rfl) v.heap.size v2 (tk ++ [x]) q2 (kc - k) dk (by rfl) (by rfl) hO2 (HT2.out.ext hb2) hl3 hl2 HN2.out hb2.size ?_; intro v3 y3 hO3 hg3; have hb3 : Below v.heap.size v y3 := Below.grown hb2 hg3 hb2.size (fun k e => (World.ownsRow.lt hO2 k e).1); have z0 := (hb3.cell (p := ⟨b, o + i * 6, none⟩) hlr).trans e0; have z1 := (hb3.cell (p := ⟨b, o + i * 6 + 1, none⟩) hlr).trans e1; have z2 := (hb3.cell (p := ⟨b, o + i * 6 + 2, none⟩) hlr).trans e2; have z3 := (hb3.cell (p := ⟨b, o + i * 6 + 3, none⟩) hlr).trans e3; have z4 := (hb3.cell (p := ⟨b, o + i * 6 + 4, none⟩) hlr).trans e4; have z5 := (hb3.cell (p := ⟨b, o + i * 6 + 5, none⟩) hlr).trans e5))
                all_goals
                  rename_i hheld
                  have hfin : OwnF w.heap.size y3 v3 N := by rw [HNK.out]; exact ownsRow_mono hO3 hwf
                  have HFINO := Lib.hid hfin
                  have HFINB := Lib.hid (HBW.out.trans (hb3.mono hwf))
                  clear c0 c1 c2 c3 c4 c5 d0 d1 d2 d3 d4 d5 z0 z1 z2 z3 z4 z5 hheld hfin hO1 hO2 hO3 hg1 hg2 hg3 hb1 hb2 hb3 hs1 hs2 e0 e1 e2 e3 e4 e5
                  go_wp2
                  go_roundg (g2 - 1)
                  case measure => omega
                  case rel => exact ⟨i + 1, by omega, by go_num, by rw [← HNX.out]; exact HFINO.out, HFINB.out⟩
              · have CA2 := Lib.hid (ahead_f ha2)
                have hNk : N = if y.seq < x.seq then zs.set k x else zs := HN.out.trans (HSAME.out ha ha2)
                have HNK := Lib.hid hNk
                clear ha ha2 hNk
                go_wp2_with fail
                go_region_held3 (fun w' => w'.cell? ⟨b, o + i * 6, none⟩ = some (.string x.key) ∧ w'.cell? ⟨b, o + i * 6 + 1, none⟩ = some (.int .u32 x.valid) ∧ w'.cell? ⟨b, o + i * 6 + 2, none⟩ = some (.int .u64 x.seq) ∧ w'.cell? ⟨b, o + i * 6 + 3, none⟩ = some (.int .u64 x.line) ∧ w'.cell? ⟨b, o + i * 6 + 4, none⟩ = some (.int .u8 x.kind) ∧ w'.cell? ⟨b, o + i * 6 + 5, none⟩ = some (.string x.val) ∧ w'.cell? ⟨b3, o3 + k * 6, none⟩ = some (.string y.key) ∧ w'.cell? ⟨b3, o3 + k * 6 + 1, none⟩ = some (.int .u32 y.valid) ∧ w'.cell? ⟨b3, o3 + k * 6 + 2, none⟩ = some (.int .u64 y.seq) ∧ w'.cell? ⟨b3, o3 + k * 6 + 3, none⟩ = some (.int .u64 y.line) ∧ w'.cell? ⟨b3, o3 + k * 6 + 4, none⟩ = some (.int .u8 y.kind) ∧ w'.cell? ⟨b3, o3 + k * 6 + 5, none⟩ = some (.string y.val)) (go_keep) (first | (go_at_call 26; refine (CA.out _).mono ?_; rintro e u ⟨rfl, hbu0⟩; have hbu : Below wr.heap.size wr u := (Below.refl _ _).drew.trans hbu0; clear hbu0; have c0 := (hbu.cell (p := ⟨b, o + i * 6, none⟩) hlr).trans e0; have c1 := (hbu.cell (p := ⟨b, o + i * 6 + 1, none⟩) hlr).trans e1; have c2 := (hbu.cell (p := ⟨b, o + i * 6 + 2, none⟩) hlr).trans e2; have c3 := (hbu.cell (p := ⟨b, o + i * 6 + 3, none⟩) hlr).trans e3; have c4 := (hbu.cell (p := ⟨b, o + i * 6 + 4, none⟩) hlr).trans e4; have c5 := (hbu.cell (p := ⟨b, o + i * 6 + 5, none⟩) hlr).trans e5; have d0 := (hbu.cell (p := ⟨b3, o3 + k * 6, none⟩) hlb3).trans f0; have d1 := (hbu.cell (p := ⟨b3, o3 + k * 6 + 1, none⟩) hlb3).trans f1; have d2 := (hbu.cell (p := ⟨b3, o3 + k * 6 + 2, none⟩) hlb3).trans f2; have d3 := (hbu.cell (p := ⟨b3, o3 + k * 6 + 3, none⟩) hlb3).trans f3; have d4 := (hbu.cell (p := ⟨b3, o3 + k * 6 + 4, none⟩) hlb3).trans f4; have d5 := (hbu.cell (p := ⟨b3, o3 + k * 6 + 5, none⟩) hlb3).trans f5))
                rename_i hheld
                clear c0 c1 c2 c3 c4 c5 d0 d1 d2 d3 d4 d5
                have HOU := Lib.hid (HOW.out.below hbu)
                have HKU := Lib.hid (HKE.out.ext hbu)
                have HBU := Lib.hid (HBW.out.trans (hbu.mono hsw))
                have hlru : b < u.heap.size := Nat.lt_of_lt_of_le hlb HBU.out.size
                have hlr3 : b3 < u.heap.size := Nat.lt_of_lt_of_le hlb3 hbu.size
                obtain ⟨e0, e1, e2, e3, e4, e5⟩ := HX.out u HBU.out
                replace f0 := (hbu.cell (p := ⟨b3, _, none⟩) hlb3).trans f0
                replace f1 := (hbu.cell (p := ⟨b3, _, none⟩) hlb3).trans f1
                replace f2 := (hbu.cell (p := ⟨b3, _, none⟩) hlb3).trans f2
                replace f3 := (hbu.cell (p := ⟨b3, _, none⟩) hlb3).trans f3
                replace f4 := (hbu.cell (p := ⟨b3, _, none⟩) hlb3).trans f4
                replace f5 := (hbu.cell (p := ⟨b3, _, none⟩) hlb3).trans f5
                have hsu := HBU.out.size
                clear hheld hbu CA HOW HKE HBW hlr
                go_wp2_with fail
                go_region_held3 (fun w' => w'.cell? ⟨b, o + i * 6, none⟩ = some (.string x.key) ∧ w'.cell? ⟨b, o + i * 6 + 1, none⟩ = some (.int .u32 x.valid) ∧ w'.cell? ⟨b, o + i * 6 + 2, none⟩ = some (.int .u64 x.seq) ∧ w'.cell? ⟨b, o + i * 6 + 3, none⟩ = some (.int .u64 x.line) ∧ w'.cell? ⟨b, o + i * 6 + 4, none⟩ = some (.int .u8 x.kind) ∧ w'.cell? ⟨b, o + i * 6 + 5, none⟩ = some (.string x.val) ∧ w'.cell? ⟨b3, o3 + k * 6, none⟩ = some (.string y.key) ∧ w'.cell? ⟨b3, o3 + k * 6 + 1, none⟩ = some (.int .u32 y.valid) ∧ w'.cell? ⟨b3, o3 + k * 6 + 2, none⟩ = some (.int .u64 y.seq) ∧ w'.cell? ⟨b3, o3 + k * 6 + 3, none⟩ = some (.int .u64 y.line) ∧ w'.cell? ⟨b3, o3 + k * 6 + 4, none⟩ = some (.int .u8 y.kind) ∧ w'.cell? ⟨b3, o3 + k * 6 + 5, none⟩ = some (.string y.val)) (go_keep) (first | (go_at_call 26; refine (CA2.out _).mono ?_; rintro e v ⟨rfl, hbu0⟩; have hbu : Below u.heap.size u v := (Below.refl _ _).drew.trans hbu0; clear hbu0; have c0 := (hbu.cell (p := ⟨b, o + i * 6, none⟩) hlru).trans e0; have c1 := (hbu.cell (p := ⟨b, o + i * 6 + 1, none⟩) hlru).trans e1; have c2 := (hbu.cell (p := ⟨b, o + i * 6 + 2, none⟩) hlru).trans e2; have c3 := (hbu.cell (p := ⟨b, o + i * 6 + 3, none⟩) hlru).trans e3; have c4 := (hbu.cell (p := ⟨b, o + i * 6 + 4, none⟩) hlru).trans e4; have c5 := (hbu.cell (p := ⟨b, o + i * 6 + 5, none⟩) hlru).trans e5; have d0 := (hbu.cell (p := ⟨b3, o3 + k * 6, none⟩) hlr3).trans f0; have d1 := (hbu.cell (p := ⟨b3, o3 + k * 6 + 1, none⟩) hlr3).trans f1; have d2 := (hbu.cell (p := ⟨b3, o3 + k * 6 + 2, none⟩) hlr3).trans f2; have d3 := (hbu.cell (p := ⟨b3, o3 + k * 6 + 3, none⟩) hlr3).trans f3; have d4 := (hbu.cell (p := ⟨b3, o3 + k * 6 + 4, none⟩) hlr3).trans f4; have d5 := (hbu.cell (p := ⟨b3, o3 + k * 6 + 5, none⟩) hlr3).trans f5))
                rename_i hheld
                clear c0 c1 c2 c3 c4 c5 d0 d1 d2 d3 d4 d5
                have HOW := Lib.hid (HOU.out.below hbu)
                have HKE := Lib.hid (HKU.out.ext hbu)
                have HBW := Lib.hid (HBU.out.trans (hbu.mono hsu))
                have hlv : b < v.heap.size := Nat.lt_of_lt_of_le hlb HBW.out.size
                have hlv3 : b3 < v.heap.size := Nat.lt_of_lt_of_le hlr3 hbu.size
                obtain ⟨e0, e1, e2, e3, e4, e5⟩ := HX.out v HBW.out
                replace f2 := (hbu.cell (p := ⟨b3, _, none⟩) hlr3).trans f2
                have hsv := HBW.out.size
                clear hheld hbu CA2 HOU HKU HBU f0 f1 f3 f4 f5 hlru hlr3 hsu
                by_cases hq : y.seq < x.seq
                · rw [if_pos hq] at HNK
                  obtain ⟨h0, -⟩ | ⟨g, cap, hvv, hg, hR⟩ := row_of_owns (enc := fc) (show v.ownsRow w.heap.size _ 6 (.slice (some ⟨b3, o3, none⟩) zs.length kc) zs.length _ from HOW.out)
                  · cases h0
                  · simp only [Value.slice.injEq, Option.some.injEq, Addr.mk.injEq] at hvv
                    obtain ⟨⟨rfl, rfl, -⟩, -, rfl⟩ := hvv
                    simp only [Nat.zero_add] at f2
                    have hq2 : decide (y.seq < x.seq) = true := decide_eq_true hq
                    have hgw : w.heap.size ≤ b3 := hg
                    have HR := Lib.hid hR
                    clear hR HOW HKE hq
                    go_wp2_with fail
                    go_quiet (fail)
                    clear e0 e1 e2 e3 e4 e5 f2 hq2
                    obtain ⟨R, hRd⟩ : ∃ R : World, R = v.drewN nq := ⟨_, rfl⟩
                    have hRR : Row fc 6 (50) R b3 kc zs := HR.out.same (by rw [hRd]; rfl)
                    have hBR : Below w.heap.size w R := by rw [hRd]; exact below_drewN HBW.out _
                    rw [← hRd]
                    have hfz := hRR.frozen
                    obtain ⟨e0, e1, e2, e3, e4, e5⟩ := HX.out R hBR
                    have g0 := hRR.cell fc_len k hklt 0 _ rfl
                    have g1 := hRR.cell fc_len k hklt 1 _ rfl
                    have g2' := hRR.cell fc_len k hklt 2 _ rfl
                    have g3 := hRR.cell fc_len k hklt 3 _ rfl
                    have g4 := hRR.cell fc_len k hklt 4 _ rfl
                    have g5 := hRR.cell fc_len k hklt 5 _ rfl
                    simp only [Nat.add_zero] at g0 g1 g2' g3 g4 g5
                    have HOF : Hid (OwnF w.heap.size (putF R b3 k x) (.slice (some ⟨b3, 0, none⟩) zs.length kc) (zs.set k x)) := by
                      have := (rowF_put hRR k x).owns fc_len hgw
                      rw [List.length_set] at this
                      exact Lib.hid (show World.ownsRow _ _ _ _ _ _ _ from by rw [List.length_set]; exact this)
                    have HBF := Lib.hid (show Below w.heap.size w (putF R b3 k x) from hBR.grown (grown_putF (grown_refl R (some b3)) k x) hBR.size (fun q e => by cases e; exact hgw))
                    have HFZ := Lib.hid hfz
                    have z0 := hfz (k * 6)
                    have z1 := hfz (k * 6 + 1)
                    have z2 := hfz (k * 6 + 2)
                    have z3 := hfz (k * 6 + 3)
                    have z4 := hfz (k * 6 + 4)
                    have z5 := hfz (k * 6 + 5)
                    have hrl : b < R.heap.size := Nat.lt_of_lt_of_le hlb hBR.size
                    clear hRd hRR hBR hfz HR HBW
                    go_wp2
                    go_roundg (g2 - 1)
                    case measure => omega
                    case rel => exact ⟨i + 1, by omega, by go_num, by rw [← HNX.out, HNK.out]; exact HOF.out, HBF.out⟩
                · rw [if_neg hq] at HNK
                  have hq2 : decide (y.seq < x.seq) = false := decide_eq_false hq
                  go_wp2_with fail
                  go_quiet (fail)
                  clear e0 e1 e2 e3 e4 e5 f2
                  go_wp2
                  go_roundg (g2 - 1)
                  case measure => omega
                  case rel => exact ⟨i + 1, by omega, by go_num, by rw [← HNX.out, HNK.out]; exact HOW.out, below_drewN HBW.out _⟩
          · obtain rfl : k = zs.length := by omega
            have hNk : N = zs.take zs.length ++ [x] ++ zs.drop zs.length := HN.out.trans (refStep_ins zs x zs.length (Nat.le_refl _) HAL.out (fun h => absurd h hklt))
            go_wp2_with fail
            go_quiet (fail)
            obtain ⟨v1, hv1⟩ : ∃ v1 : World, v1 = wr.drewN nq := ⟨_, rfl⟩
            have HB1 := Lib.hid (show Below w.heap.size w v1 from by rw [hv1]; exact below_drewN HBW.out _)
            have HO1 := Lib.hid (show OwnF w.heap.size v1 (.slice ka zs.length kc) zs from OwnF.below HOW.out (by rw [hv1]; exact below_drewN (Below.refl _ _) _))
            have HK1 := Lib.hid (show Facts v1 ka zs from HKE.out.ext (by rw [hv1]; exact below_drewN (Below.refl _ _) _))
            rw [← hv1]
            clear hv1 HOW HKE HBW hsw
            go_wp2_with fail
            go_quiet (fail)
            obtain ⟨v, hv⟩ : ∃ v : World, v = v1.drewN nq := ⟨_, rfl⟩
            have HBW := Lib.hid (show Below w.heap.size w v from by rw [hv]; exact below_drewN HB1.out _)
            have HOW := Lib.hid (show OwnF w.heap.size v (.slice ka zs.length kc) zs from OwnF.below HO1.out (by rw [hv]; exact below_drewN (Below.refl _ _) _))
            have HKE := Lib.hid (show Facts v ka zs from HK1.out.ext (by rw [hv]; exact below_drewN (Below.refl _ _) _))
            rw [← hv]
            clear hv HO1 HK1 HB1
            have hwf : w.heap.size ≤ v.heap.size := HBW.out.size
            obtain ⟨q1, hs1, hT1, hn1⟩ := sliceF_lo HKE.out hkc (k := zs.length) (by omega) (OwnF.none0 HOW.out)
            obtain ⟨q2, hs2, hT2, hn2⟩ := sliceF_hi HKE.out hkc (k := zs.length) (by omega) (OwnF.none0 HOW.out)
            obtain ⟨tk, htk⟩ : ∃ tk, tk = zs.take zs.length := ⟨_, rfl⟩
            obtain ⟨dk, hdk⟩ : ∃ dk, dk = zs.drop zs.length := ⟨_, rfl⟩
            have htl : tk.length ≤ zs.length := by rw [htk]; exact List.length_take_le _ _
            have hl1 : tk.length < 1000000 := by omega
            have hl2 : dk.length < 1000000 := by rw [hdk, List.length_drop]; omega
            have hl3 : (tk ++ [x]).length < 1000000 := by rw [List.length_append, List.length_singleton]; omega
            rw [← htk] at hs1 hT1 hNk
            rw [← hdk] at hs2 hT2 hNk
            have HNK := Lib.hid hNk
            have HT1 := Lib.hid hT1
            have HT2 := Lib.hid hT2
            have HN1 := Lib.hid hn1
            have HN2 := Lib.hid hn2
            obtain ⟨e0, e1, e2, e3, e4, e5⟩ := HX.out v HBW.out
            have hlr : b < v.heap.size := Nat.lt_of_lt_of_le hlb hwf
            clear hT1 hT2 hn1 hn2 htk hdk hNk hkc htl
            go_wp2_with fail
            go_region_held3 (fun w' => w'.cell? ⟨b, o + i * 6, none⟩ = some (.string x.key) ∧ w'.cell? ⟨b, o + i * 6 + 1, none⟩ = some (.int .u32 x.valid) ∧ w'.cell? ⟨b, o + i * 6 + 2, none⟩ = some (.int .u64 x.seq) ∧ w'.cell? ⟨b, o + i * 6 + 3, none⟩ = some (.int .u64 x.line) ∧ w'.cell? ⟨b, o + i * 6 + 4, none⟩ = some (.int .u8 x.kind) ∧ w'.cell? ⟨b, o + i * 6 + 5, none⟩ = some (.string x.val)) (go_keep)
              (first | (refine wp_append_facts (.const (.slice none 0 0)) (.tmp 77) (by rfl) v.heap.size (.slice none 0 0) [] q1 kc tk (by rfl) (by rfl) (World.ownsRow_nil _ _ _ _) (HT1.out.ext (by first | exact (Below.refl _ _).drew | go_grown)) (by simp) hl1 HN1.out (by simp) ?_; intro v1 y1 hO1 hg1; have hb1 : Below v.heap.size v y1 := Below.grown (by first | exact (Below.refl _ _).drew | go_grown) hg1 (by simp) (fun k e => by cases e); have c0 := (hb1.cell (p := ⟨b, o + i * 6, none⟩) hlr).trans e0; have c1 := (hb1.cell (p := ⟨b, o + i * 6 + 1, none⟩) hlr).trans e1; have c2 := (hb1.cell (p := ⟨b, o + i * 6 + 2, none⟩) hlr).trans e2; have c3 := (hb1.cell (p := ⟨b, o + i * 6 + 3, none⟩) hlr).trans e3; have c4 := (hb1.cell (p := ⟨b, o + i * 6 + 4, none⟩) hlr).trans e4; have c5 := (hb1.cell (p := ⟨b, o + i * 6 + 5, none⟩) hlr).trans e5)
                     | (refine wp_append_facts (.tmp 78) (.tmp 83) (by rfl) v.heap.size v1 tk (some ⟨y1.heap.size, 0, none⟩) 1 [x] (by rfl) (by rfl) (OwnF.below hO1 (by go_grown)) (els_of_one (x := x) (blk_new_at (by rfl) _)) hl1 (by simp) (fun h => by cases h) (by have := hb1.size; first | omega | (simp only [World.size_alloc]; omega) | (show v.heap.size ≤ (y1.heap.push _).size; rw [Array.size_push]; omega)) ?_; intro v2 y2 hO2 hg2; have hb2 : Below v.heap.size v y2 := Below.grown (by first | exact hb1.alloc hb1.size _ | exact (hb1.alloc hb1.size _).drew | exact (hb1.drew).alloc hb1.size _) hg2 (by have := hb1.size; first | omega | (simp only [World.size_alloc]; omega) | (show v.heap.size ≤ (y1.heap.push _).size; rw [Array.size_push]; omega)) (fun k e => (World.ownsRow.lt hO1 k e).1); have d0 := (hb2.cell (p := ⟨b, o + i * 6, none⟩) hlr).trans e0; have d1 := (hb2.cell (p := ⟨b, o + i * 6 + 1, none⟩) hlr).trans e1; have d2 := (hb2.cell (p := ⟨b, o + i * 6 + 2, none⟩) hlr).trans e2; have d3 := (hb2.cell (p := ⟨b, o + i * 6 + 3, none⟩) hlr).trans e3; have d4 := (hb2.cell (p := ⟨b, o + i * 6 + 4, none⟩) hlr).trans e4; have d5 := (hb2.cell (p := ⟨b, o + i * 6 + 5, none⟩) hlr).trans e5)
                     | (refine wp_append_facts (.tmp 78) (.tmp 83) (by rfl) v.heap.size v1 tk (some ⟨v.heap.size, 0, none⟩) 1 [x] (by rfl) (by rfl) hO1 (els_of_one (x := x) ((hg1.block _ (by simp) (fun e => by cases e)).trans (blk_new_at (by rfl) _))) hl1 (by simp) (fun h => by cases h) hb1.size ?_; intro v2 y2 hO2 hg2; have hb2 : Below v.heap.size v y2 := Below.grown hb1 hg2 hb1.size (fun k e => (World.ownsRow.lt hO1 k e).1); have d0 := (hb2.cell (p := ⟨b, o + i * 6, none⟩) hlr).trans e0; have d1 := (hb2.cell (p := ⟨b, o + i * 6 + 1, none⟩) hlr).trans e1; have d2 := (hb2.cell (p := ⟨b, o + i * 6 + 2, none⟩) hlr).trans e2; have d3 := (hb2.cell (p := ⟨b, o + i * 6 + 3, none⟩) hlr).trans e3; have d4 := (hb2.cell (p := ⟨b, o + i * 6 + 4, none⟩) hlr).trans e4; have d5 := (hb2.cell (p := ⟨b, o + i * 6 + 5, none⟩) hlr).trans e5)
                     | (refine wp_append_facts (.tmp 84) (.tmp 87) (by rfl) v.heap.size v2 (tk ++ [x]) q2 (kc - zs.length) dk (by rfl) (by rfl) hO2 (HT2.out.ext hb2) hl3 hl2 HN2.out hb2.size ?_; intro v3 y3 hO3 hg3; have hb3 : Below v.heap.size v y3 := Below.grown hb2 hg3 hb2.size (fun k e => (World.ownsRow.lt hO2 k e).1); have z0 := (hb3.cell (p := ⟨b, o + i * 6, none⟩) hlr).trans e0; have z1 := (hb3.cell (p := ⟨b, o + i * 6 + 1, none⟩) hlr).trans e1; have z2 := (hb3.cell (p := ⟨b, o + i * 6 + 2, none⟩) hlr).trans e2; have z3 := (hb3.cell (p := ⟨b, o + i * 6 + 3, none⟩) hlr).trans e3; have z4 := (hb3.cell (p := ⟨b, o + i * 6 + 4, none⟩) hlr).trans e4; have z5 := (hb3.cell (p := ⟨b, o + i * 6 + 5, none⟩) hlr).trans e5))
            all_goals
              rename_i hheld
              have hfin : OwnF w.heap.size y3 v3 N := by rw [HNK.out]; exact ownsRow_mono hO3 hwf
              have HFINO := Lib.hid hfin
              have HFINB := Lib.hid (HBW.out.trans (hb3.mono hwf))
              clear c0 c1 c2 c3 c4 c5 d0 d1 d2 d3 d4 d5 z0 z1 z2 z3 z4 z5 hheld hfin hO1 hO2 hO3 hg1 hg2 hg3 hb1 hb2 hb3 hs1 hs2 e0 e1 e2 e3 e4 e5
              go_wp2
              go_roundg (g2 - 1)
              case measure => omega
              case rel => exact ⟨i + 1, by omega, by go_num, by rw [← HNX.out]; exact HFINO.out, HFINB.out⟩
    · have hie : i = xs.length := by omega
      subst hie
      have hown := HOWN.out
      rw [List.take_length] at hown
      obtain ⟨a, c, rfl, -, hE⟩ := els_of_owns fc_len (show wr.ownsRow w.heap.size _ 6 _ (refOf (xs.filter (seenC cs at_))).length _ from hown)
      have HE := Lib.hid hE
      clear hown hE HOWN
      go_wp2
      go_ret
      exact ⟨a, c, rfl, HE.out, HBI.out⟩
end Go.Proofs.YtenocakpipppiaaGreatDoor
