/- slices.order2Ordered, medianOrdered, medianAdjacentOrdered, choosePivotOrdered at uint64. Condition: fewer than 1000000 numbers. -/
import Derived.Test.YtnnpheklgdbohaaO4
namespace Go.Proofs.Ytnnpheklgdbohaa
open Go.RowKit Go.Herb

/-- The row as it was; the count of swaps in its cell. -/
structure CtSt (g cap sb s : Nat) (xs : List Int) (w wr : World) : Prop where
  row : RowU wr g cap xs
  cnt : wr.heap[sb]? = some (.cells #[.int .i64 s] (3) (0, 0))
  grown : w.grownBy wr (some sb)
  ne : sb ≠ g
theorem CtSt.drewN {g cap sb s : Nat} {xs : List Int} {w wr : World} (h : CtSt g cap sb s xs w wr) (n : Nat) : CtSt g cap sb s xs w (wr.drewN n) := ⟨rowU_drewN h.row n, h.cnt, grown_drewN h.grown n, h.ne⟩
theorem CtSt.trans {g cap sb s t : Nat} {xs : List Int} {w u v : World} (h : CtSt g cap sb s xs w u) (k : CtSt g cap sb t xs u v) : CtSt g cap sb t xs w v := ⟨k.row, k.cnt, grown_trans h.grown k.grown, h.ne⟩
theorem CtSt.bump {g cap sb s : Nat} {xs : List Int} {w wr : World} (h : CtSt g cap sb s xs w wr) (t : Nat) : CtSt g cap sb t xs w (wr.setCell ⟨sb, 0, none⟩ (.int .i64 t)) :=
  ⟨h.row.same (Below.heap_setCell wr ⟨sb, 0, none⟩ _ g (fun e => h.ne e.symm)), by have := blk_setCell (j := 0) h.cnt (.int .i64 t); simpa using this, grown_set h.grown _ _, h.ne⟩

def OrdPost (g cap sb s a b : Nat) (xs : List Int) (w : World) (e : Ending) (w' : World) : Prop :=
  ∃ p q t : Nat, e = .returned (.tuple #[.int .i64 p, .int .i64 q]) ∧ (p = a ∨ p = b) ∧ (q = a ∨ q = b) ∧ t ≤ s + 1 ∧ CtSt g cap sb t xs w w'
set_option maxHeartbeats 1000000 in
theorem order2_any (g cap sb s a b N : Nat) (xs : List Int) (hN : xs.length = N) (ha : a < N) (hb : b < N) (w : World) (h : CtSt g cap sb s xs w w) (_ : N < 1000000) (hs : s < 1000) :
    Calls Try.prog (91) #[.slice (some ⟨g, 0, none⟩) N cap, .int .i64 a, .int .i64 b, .pointer (some ⟨sb, 0, none⟩)] w (OrdPost g cap sb s a b xs w) := by
  have H := Lib.hid h
  have c0 := rowU_cell h.row a (by omega)
  have d0 := rowU_cell h.row b (by omega)
  have r1 : (a : Int) < (N : Int) := by omega
  have r2 : (b : Int) < (N : Int) := by omega
  clear h hN
  by_cases hlt : at_ xs b < at_ xs a
  · have HL := Lib.hid hlt
    clear hlt
    go_enter Try.func91, Try.ntmps91
    go_wp2_with fail
    go_quiet ((go_at_call 79; exact Calls.quiet_of_same (less_t HL.out _)))
    clear c0 d0 r1 r2
    have H2 := Lib.hid (H.out.drewN nq)
    generalize w.drewN nq = w2 at *
    have s0 := cell_of_blk H2.out.cnt 0
    have z0 := frozen_of_blk H2.out.cnt 0
    simp at s0
    have HB := Lib.hid (H2.out.bump (s + 1))
    have ws : IntKind.i64.wrap ((s : Int) + 1) = (s : Int) + 1 := IntWalk.i64_in _ (by omega)
    have ES := Lib.hid (show (s : Int) + 1 = ((s + 1 : Nat) : Int) by omega)
    clear H H2
    go_wp2
    go_ret2
    exact ⟨b, a, s + 1, rfl, .inr rfl, .inl rfl, Nat.le_refl _, by first | exact HB.out | (rw [ES.out]; exact HB.out)⟩
  · have HL := Lib.hid (Int.not_lt.1 hlt)
    clear hlt
    go_enter Try.func91, Try.ntmps91
    go_wp2_with fail
    go_quiet ((go_at_call 79; exact Calls.quiet_of_same (less_f HL.out _)))
    clear c0 d0 r1 r2
    have H2 := Lib.hid (H.out.drewN nq)
    generalize w.drewN nq = w2 at *
    clear H
    go_wp2
    go_ret2
    exact ⟨a, b, s, rfl, .inl rfl, .inr rfl, by omega, H2.out⟩

def MedPost (g cap sb s lo hi : Nat) (xs : List Int) (w : World) (e : Ending) (w' : World) : Prop :=
  ∃ p t : Nat, e = .returned (.int .i64 p) ∧ lo ≤ p ∧ p ≤ hi ∧ t ≤ s + 3 ∧ CtSt g cap sb t xs w w'
theorem CtSt.refl {g cap sb s : Nat} {xs : List Int} {w wr : World} (h : CtSt g cap sb s xs w wr) : CtSt g cap sb s xs wr wr := ⟨h.row, h.cnt, grown_refl _ _, h.ne⟩
set_option maxHeartbeats 1000000 in
theorem median_any (g cap sb s a b c lo hi N : Nat) (xs : List Int) (hN : xs.length = N) (ha : lo ≤ a ∧ a ≤ hi) (hb : lo ≤ b ∧ b ≤ hi) (hc : lo ≤ c ∧ c ≤ hi) (hh : hi < N) (w : World) (h : CtSt g cap sb s xs w w) (hl : N < 1000000) (hs : s < 500) :
    Calls Try.prog (89) #[.slice (some ⟨g, 0, none⟩) N cap, .int .i64 a, .int .i64 b, .int .i64 c, .pointer (some ⟨sb, 0, none⟩)] w (MedPost g cap sb s lo hi xs w) := by
  have HN := Lib.hid hN
  have H := Lib.hid h
  clear h hN
  go_enter Try.func89, Try.ntmps89
  go_wp2_with fail
  refine (order2_any g cap sb s a b N xs HN.out (by omega) (by omega) w H.out hl (by omega)).mono ?_
  rintro e w1 ⟨p, q, t, rfl, hp, hq, ht, hst⟩
  have H1 := Lib.hid hst
  have hp' : lo ≤ p ∧ p ≤ hi := by omega
  have hq' : lo ≤ q ∧ q ≤ hi := by omega
  clear hst hp hq H
  go_wp2_with fail
  refine (order2_any g cap sb t q c N xs HN.out (by omega) (by omega) w1 H1.out.refl hl (by omega)).mono ?_
  rintro e w2 ⟨p2, q2, t2, rfl, hp2, hq2, ht2, hst⟩
  have H2 := Lib.hid (H1.out.trans hst)
  have hp2' : lo ≤ p2 ∧ p2 ≤ hi := by omega
  clear hst hp2 hq2 H1
  go_wp2_with fail
  refine (order2_any g cap sb t2 p p2 N xs HN.out (by omega) (by omega) w2 H2.out.refl hl (by omega)).mono ?_
  rintro e w3 ⟨p3, q3, t3, rfl, hp3, hq3, ht3, hst⟩
  have H3 := Lib.hid (H2.out.trans hst)
  have hq3' : lo ≤ q3 ∧ q3 ≤ hi := by omega
  clear hst hp3 hq3 H2
  go_wp2
  go_ret
  exact ⟨q3, t3, rfl, hq3'.1, hq3'.2, by omega, H3.out⟩

set_option maxHeartbeats 1000000 in
theorem medianAdj_any (g cap sb s a N : Nat) (xs : List Int) (hN : xs.length = N) (ha : 1 ≤ a) (hb : a + 1 < N) (w : World) (h : CtSt g cap sb s xs w w) (hl : N < 1000000) (hs : s < 500) :
    Calls Try.prog (88) #[.slice (some ⟨g, 0, none⟩) N cap, .int .i64 a, .pointer (some ⟨sb, 0, none⟩)] w (MedPost g cap sb s (a - 1) (a + 1) xs w) := by
  have HM := Lib.hid (median_any g cap sb s (a - 1) a (a + 1) (a - 1) (a + 1) N xs hN (by omega) (by omega) (by omega) (by omega) w h hl hs)
  obtain ⟨a0, ha0⟩ : ∃ a0, a0 = a - 1 := ⟨_, rfl⟩
  obtain ⟨a1, ha1⟩ : ∃ a1, a1 = a + 1 := ⟨_, rfl⟩
  rw [← ha0, ← ha1] at HM ⊢
  have e0 : (a : Int) - 1 = (a0 : Int) := by omega
  have e1 : (a : Int) + 1 = (a1 : Int) := by omega
  clear h hN ha0 ha1
  go_enter Try.func88, Try.ntmps88
  go_wp2_with fail
  clear e0 e1
  refine (HM.out).mono ?_
  rintro e w1 ⟨p, t, rfl, h1, h2, h3, h4⟩
  have H4 := Lib.hid h4
  clear h4 HM
  go_wp2
  go_ret
  exact ⟨p, t, rfl, h1, h2, h3, H4.out⟩

def PivPost (g cap a b : Nat) (xs : List Int) (w : World) (e : Ending) (w' : World) : Prop :=
  ∃ (p : Nat) (hint : Int), e = .returned (.tuple #[.int .i64 p, .int .i64 hint]) ∧ a < p ∧ p + 1 < b ∧ (hint = 0 ∨ hint = 1 ∨ hint = 2) ∧ RowU w' g cap xs ∧ Below w.heap.size w w'
theorem CtSt.below {g cap sb s : Nat} {xs : List Int} {w u : World} (h : CtSt g cap sb s xs (w.alloc (.cells #[.int .i64 0] (3))) u) (hs : sb = w.heap.size) : RowU u g cap xs ∧ Below w.heap.size w u := by
  refine ⟨h.row, ?_⟩
  have h1 : Below w.heap.size w (w.alloc (.cells #[.int .i64 0] (3))) := (Below.refl _ _).alloc (Nat.le_refl _) _
  exact h1.grown h.grown h1.size (fun k e => by cases e; omega)
set_option maxHeartbeats 2000000 in
theorem choosePivot_any (g cap a b N : Nat) (xs : List Int) (hN : xs.length = N) (hb : b ≤ N) (hab : a + 12 < b) (w : World) (h : RowU w g cap xs) (hl : N < 1000000) :
    Calls Try.prog (76) #[.slice (some ⟨g, 0, none⟩) N cap, .int .i64 a, .int .i64 b] w (PivPost g cap a b xs w) := by
  obtain ⟨n, hn⟩ : ∃ n, n = b - a := ⟨_, rfl⟩
  obtain ⟨i, hi⟩ : ∃ i, i = a + n / 4 := ⟨_, rfl⟩
  obtain ⟨j, hj⟩ : ∃ j, j = a + n / 4 * 2 := ⟨_, rfl⟩
  obtain ⟨k, hk⟩ : ∃ k, k = a + n / 4 * 3 := ⟨_, rfl⟩
  have en : (b : Int) - (a : Int) = (n : Int) := by omega
  have ei : (a : Int) + (n : Int) / 4 = (i : Int) := by omega
  have ej : (a : Int) + (n : Int) / 4 * 2 = (j : Int) := by omega
  have ek : (a : Int) + (n : Int) / 4 * 3 = (k : Int) := by omega
  have hgl := h.lt
  have hst : CtSt g cap w.heap.size 0 xs (w.alloc (.cells #[.int .i64 0] (3))) (w.alloc (.cells #[.int .i64 0] (3))) := ⟨h.below ((Below.refl _ _).alloc (Nat.le_refl _) _), blk_new_at rfl _, grown_refl _ _, by omega⟩
  have H := Lib.hid hst
  have HN := Lib.hid hN
  have hn8 : (8 : Int) ≤ (n : Int) := by omega
  have hbn : a + n = b := by omega
  have hi1 : a + 3 ≤ i ∧ i + 3 ≤ b ∧ a + 3 ≤ j ∧ j + 3 ≤ b ∧ a + 3 ≤ k ∧ k + 3 ≤ b := by omega
  have HB := Lib.hid hbn
  have HI := Lib.hid hi1
  clear hst h hN hn hi hj hk hbn
  by_cases h50 : 50 ≤ n
  · have h50' : (50 : Int) ≤ (n : Int) := by omega
    clear hi1
    go_enter Try.func76, Try.ntmps76
    go_wp2_with fail
    clear en ei ej ek
    obtain ⟨W, hW⟩ : ∃ W : World, W = w.alloc (.cells #[.int .i64 0] (3)) := ⟨_, rfl⟩
    rw [← hW] at H ⊢
    have HW := Lib.hid hW
    clear hW
    refine (medianAdj_any g cap w.heap.size 0 i N xs HN.out (by have := HI.out; omega) (by have := HI.out; omega) _ H.out.refl hl (by omega)).mono ?_
    rintro e w1 ⟨i', s1, rfl, i1, i2, i3, i4⟩
    have H1 := Lib.hid (H.out.trans i4)
    have hi' : a + 1 ≤ i' ∧ i' + 2 ≤ b := by have := HI.out; omega
    clear i4 i1 i2
    go_wp2_with fail
    refine (medianAdj_any g cap w.heap.size s1 j N xs HN.out (by have := HI.out; omega) (by have := HI.out; omega) _ H1.out.refl hl (by omega)).mono ?_
    rintro e w2 ⟨j', s2, rfl, i1, i2, j3, i4⟩
    have H2 := Lib.hid (H1.out.trans i4)
    have hj' : a + 1 ≤ j' ∧ j' + 2 ≤ b := by have := HI.out; omega
    clear i4 i1 i2
    go_wp2_with fail
    refine (medianAdj_any g cap w.heap.size s2 k N xs HN.out (by have := HI.out; omega) (by have := HI.out; omega) _ H2.out.refl hl (by omega)).mono ?_
    rintro e w3 ⟨k', s3, rfl, i1, i2, k3, i4⟩
    have H3 := Lib.hid (H2.out.trans i4)
    have hk' : a + 1 ≤ k' ∧ k' + 2 ≤ b := by have := HI.out; omega
    clear i4 i1 i2
    go_wp2_with fail
    refine (median_any g cap w.heap.size s3 i' j' k' (a + 1) (b - 2) N xs HN.out (by omega) (by omega) (by omega) (by omega) _ H3.out.refl hl (by omega)).mono ?_
    rintro e w4 ⟨p, s4, rfl, p1, p2, p3, i4⟩
    have H4 := Lib.hid (CtSt.below (by rw [← HW.out]; exact H3.out.trans i4) rfl)
    have s0 := cell_of_blk i4.cnt 0
    simp at s0
    clear i4 H H1 H2 H3 hi' hj' hk' HI HW
    by_cases h0 : s4 = 0
    · subst h0
      go_wp2
      go_ret2
      exact ⟨p, 1, rfl, by omega, by omega, .inr (.inl rfl), H4.out.1, H4.out.2⟩
    · have e0 : ((s4 : Int) == 0) = false := by simp; omega
      by_cases h12 : s4 = 12
      · subst h12
        go_wp2
        go_ret2
        exact ⟨p, 2, rfl, by omega, by omega, .inr (.inr rfl), H4.out.1, H4.out.2⟩
      · have e12 : ((s4 : Int) == 12) = false := by simp; omega
        go_wp2
        go_ret2
        exact ⟨p, 0, rfl, by omega, by omega, .inl rfl, H4.out.1, H4.out.2⟩
  · have h50' : ¬ (50 : Int) ≤ (n : Int) := by omega
    clear hi1
    go_enter Try.func76, Try.ntmps76
    go_wp2_with fail
    clear en ei ej ek
    obtain ⟨W, hW⟩ : ∃ W : World, W = w.alloc (.cells #[.int .i64 0] (3)) := ⟨_, rfl⟩
    rw [← hW] at H ⊢
    have HW := Lib.hid hW
    clear hW
    refine (median_any g cap w.heap.size 0 i j k (a + 1) (b - 2) N xs HN.out (by have := HI.out; omega) (by have := HI.out; omega) (by have := HI.out; omega) (by omega) _ H.out.refl hl (by omega)).mono ?_
    rintro e w4 ⟨p, s4, rfl, p1, p2, p3, i4⟩
    have H4 := Lib.hid (CtSt.below (by rw [← HW.out]; exact H.out.trans i4) rfl)
    have s0 := cell_of_blk i4.cnt 0
    simp at s0
    clear i4 H HI HW
    by_cases h0 : s4 = 0
    · subst h0
      go_wp2
      go_ret2
      exact ⟨p, 1, rfl, by omega, by omega, .inr (.inl rfl), H4.out.1, H4.out.2⟩
    · have e0 : ((s4 : Int) == 0) = false := by simp; omega
      by_cases h12 : s4 = 12
      · subst h12
        go_wp2
        go_ret2
        exact ⟨p, 2, rfl, by omega, by omega, .inr (.inr rfl), H4.out.1, H4.out.2⟩
      · have e12 : ((s4 : Int) == 12) = false := by simp; omega
        go_wp2
        go_ret2
        exact ⟨p, 0, rfl, by omega, by omega, .inl rfl, H4.out.1, H4.out.2⟩
end Go.Proofs.Ytnnpheklgdbohaa
