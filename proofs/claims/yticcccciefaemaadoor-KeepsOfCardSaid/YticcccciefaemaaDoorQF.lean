/- keeps.rows: its contract. Condition: fewer than 1000000 facts. -/
import Derived.Test.YticcccciefaemaaDoorQE
namespace Go.Proofs.YticcccciefaemaaDoor
open Go.RowKit Go.Shelf Go.Herb

def RowsPost (xs : List Fc) (w : World) (e : Ending) (w' : World) : Prop := ∃ mb B : Nat, e = .returned (.map (some mb)) ∧ RowsIs B w' mb xs xs.length ∧ w.heap.size ≤ mb ∧ mb < B ∧ B ≤ w'.heap.size ∧ Below w.heap.size w w'

set_option maxRecDepth 100000 in
set_option maxHeartbeats 2000000 in
theorem rows_any (al : Option Addr) (cl : Nat) (xs : List Fc) (w : World) (hL : Facts w al xs) (hl : xs.length < 1000000) :
    Calls Tryd.prog (15) #[.slice al xs.length cl] w (RowsPost xs w) := by
  have hmm := @run_makeMap Tryd.prog
  have HL := Lib.hid hL
  clear hL
  go_enter Tryd.func15, Tryd.ntmps15
  go_wp2_with fail
  clear hmm
  obtain ⟨W0, hW0⟩ : ∃ W0 : World, W0 = (w.alloc (.cells #[.slice al xs.length cl] (22))).alloc (.map #[] 0) := ⟨_, rfl⟩
  have hsz : W0.heap.size = w.heap.size + 2 := by rw [hW0]; simp
  have hB0 : Below w.heap.size w W0 := by
    rw [hW0]
    exact ((Below.refl _ w).alloc (Nat.le_refl _) _).alloc (by simp) _
  have b0 : W0.heap[w.heap.size]? = some (.cells #[.slice al xs.length cl] (22) (0, 0)) := by
    rw [hW0]
    exact blk_alloc (blk_new_at rfl _)
  have b1 : MapP W0 (w.heap.size + 1) [] := by
    have h := MapIs.made (P := Tryd.prog) (k := (49)) (encK := eS) (encV := fun v : Value => v) (w.alloc (.cells #[.slice al xs.length cl] (22)))
    rw [World.size_alloc] at h
    rw [hW0]
    exact h
  have hr0 : RowsIs W0.heap.size W0 (w.heap.size + 1) xs 0 := ⟨[], b1, Nat.zero_le _, (fun s v h => by cases h), (fun s _ => rfl), (fun s t v u _ h => by cases h)⟩
  rw [← hW0]
  have HB0 := Lib.hid hB0
  have HBX := Lib.hid b0
  have HR0 := Lib.hid hr0
  have HL0 := Lib.hid (HL.out.ext hB0)
  clear hW0 hB0 b0 b1 hr0
  go_loopg [10] xs.length (fun gk iv wr => ∃ n : Nat, n + gk = xs.length ∧ iv = .int .i64 n ∧ RowsIs W0.heap.size wr (w.heap.size + 1) xs n ∧ Below (w.heap.size + 1) W0 wr ∧ W0.heap.size ≤ wr.heap.size)
  case atStart => exact ⟨0, by omega, rfl, HR0.out, Below.refl _ _, Nat.le_refl _⟩
  case round =>
    obtain ⟨n, hn, rfl, hR, hBn, hsn⟩ := hrel
    have HR := Lib.hid hR
    have HBN := Lib.hid hBn
    clear hR hBn
    by_cases hlt : n < xs.length
    · obtain ⟨b, o, rfl, hlb0, hcell0⟩ := HL.out.get n hlt
      have hbw := HB0.out.trans (HBN.out.mono (Nat.le_succ _))
      have hcell : ∀ j c, (fc xs[n])[j]? = some c → wr.cell? ⟨b, o + n * 6 + j, none⟩ = some c := fun j c hj => (hbw.cell (p := ⟨b, o + n * 6 + j, none⟩) hlb0).trans (hcell0 j c hj)
      have hbx := blk_below HBX.out HBN.out (by omega)
      have t0 := cell_of_blk hbx 0
      simp at t0
      have hrow := row_any xs n hlt
      have hput := fun h => RowsIs.put (n := n) (X := h) (xs := xs) (B := W0.heap.size) (mb := w.heap.size + 1)
      have hlbr : b < wr.heap.size := by omega
      obtain ⟨x, hx⟩ : ∃ x, x = xs[n] := ⟨_, rfl⟩
      rw [← hx] at hcell hrow
      have e0 := hcell 0 _ rfl
      have e1 := hcell 1 _ rfl
      have e2 := hcell 2 _ rfl
      have e3 := hcell 3 _ rfl
      have e4 := hcell 4 _ rfl
      have e5 := hcell 5 _ rfl
      simp only [Nat.add_zero] at e0 e1 e2 e3 e4 e5
      obtain ⟨X1, hX1⟩ : ∃ X1 : World, X1 = (wr.alloc (.cells #[.string x.key, .int .u32 x.valid, .int .u64 x.seq, .int .u64 x.line, .int .u8 x.kind, .string x.val] (41))).alloc (.cells #[.string x.key, .int .u32 x.valid] (49)) := ⟨_, rfl⟩
      have hBX1 : Below wr.heap.size wr X1 := by rw [hX1]; exact ((Below.refl _ _).alloc (Nat.le_refl _) _).alloc (by simp) _
      have hbf : X1.heap[wr.heap.size]? = some (.cells #[.string x.key, .int .u32 x.valid, .int .u64 x.seq, .int .u64 x.line, .int .u8 x.kind, .string x.val] (41) (0, 0)) := by rw [hX1]; exact blk_alloc (blk_new_at rfl _)
      have hsX : wr.heap.size + 2 = X1.heap.size := by rw [hX1]; simp
      have hRX := HR.out.below hBX1
      obtain ⟨va, vc, hlk, hints⟩ := hRX.look x
      have hE : REnv X1 w.heap.size wr.heap.size (some ⟨b, o, none⟩) cl xs x := ⟨blk_below hbx hBX1 (by omega), (HL.out.ext hbw).ext hBX1, by have := cell_of_blk hbf 2; simpa using this, by have := cell_of_blk hbf 3; simpa using this⟩
      have HE := Lib.hid hE
      have HINT := Lib.hid hints
      have HRX := Lib.hid hRX
      have HBW := Lib.hid hbw
      have HBX1 := Lib.hid hBX1
      have HX := Lib.hid hx
      have HROW := Lib.hid hrow
      have hrl := rowP_len xs n (spotOf x)
      have hn0 : (0 : Int) ≤ (n : Int) := by omega
      have hn1 : (n : Int) < (xs.length : Int) := by omega
      rw [hX1] at hlk
      have HX1 := Lib.hid hX1
      clear hcell hcell0 hbx hrow hput hBX1 hbf hRX hints hE hbw hx hX1
      go_wp2_with fail
      rw [← HX1.out]
      clear hlk e0 e1 e2 e3 e4 e5 t0
      refine (containsFunc_any HE.out va vc _ HINT.out rowP_lt (by omega) _ HROW.out).mono ?_
      rintro e w' ⟨rfl, m, rfl⟩
      have HRQ := Lib.hid (HRX.out.below (below_drewN (Below.refl _ _) m))
      have HBQ := Lib.hid (HBN.out.trans (below_drewN (HBX1.out.mono (show w.heap.size + 1 ≤ wr.heap.size by omega)) m))
      have hsQ : W0.heap.size ≤ (X1.drewN m).heap.size := by show W0.heap.size ≤ X1.heap.size; omega
      have c0 : (X1.drewN m).cell? ⟨wr.heap.size + 1, 0, none⟩ = some (.string x.key) := by rw [HX1.out]; exact cell_of_blk (blk_new_at (by simp) _) 0
      have c1 : (X1.drewN m).cell? ⟨wr.heap.size + 1, 1, none⟩ = some (.int .u32 x.valid) := by rw [HX1.out]; exact cell_of_blk (blk_new_at (by simp) _) 1
      have hlq : wr.heap.size + 1 < (X1.drewN m).heap.size := by show wr.heap.size + 1 < X1.heap.size; omega
      clear HE HINT HRX HBX1 HROW hrl hsX HX1
      generalize X1.drewN m = Q at *
      cases hf : firstI xs n with
      | false =>
        have HF := Lib.hid hf
        clear hf c0 c1
        go_wp2_with fail
        go_roundg (gk - 1)
        case measure => omega
        case rel => exact ⟨n + 1, by omega, by go_num, HRQ.out.skip HF.out, HBQ.out, hsQ⟩
      | true =>
        obtain ⟨v, st, W1, v', W2, W3, r1, r2, r3, hR3, hs3, hb3⟩ := RowsIs.put HRQ.out (by omega) hsQ hlt hf hl
        rw [← HX.out] at r1
        unfold goInt at r3
        have HR3 := Lib.hid hR3
        have HB3 := Lib.hid (hb3 _ _ HBQ.out (Nat.le_refl _) (by omega))
        have HRUN := Lib.hid r2
        clear hf hR3 hb3 r2
        go_wp2_with (at_builtin; refine Lib.wpList_append_run _ rfl _ _ _ _ rfl _ _ rfl rfl _ _ (HRUN.out) ?_)
        go_roundg (gk - 1)
        case measure => omega
        case rel => exact ⟨n + 1, by omega, by go_num, HR3.out, HB3.out, by omega⟩
    · have hne : n = xs.length := by omega
      subst hne
      go_wp2
      go_ret
      exact ⟨w.heap.size + 1, W0.heap.size, rfl, HR.out, by omega, by omega, hsn, HB0.out.trans (HBN.out.mono (Nat.le_succ _))⟩
end Go.Proofs.YticcccciefaemaaDoor
