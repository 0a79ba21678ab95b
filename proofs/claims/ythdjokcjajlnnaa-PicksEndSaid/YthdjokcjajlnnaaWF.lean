import Derived.Test.YthdjokcjajlnnaaWE
namespace Go.Proofs.Ythdjokcjajlnnaa
open Go.RowKit Go.Herb Go.Fl

abbrev t1 : T := ⟨1, 100, ⟨#[97]⟩, ⟨#[99]⟩⟩
abbrev t2 : T := ⟨2, 100, ⟨#[98]⟩, ⟨#[100]⟩⟩
abbrev t3 : T := ⟨3, 100, ⟨#[120]⟩, ⟨#[121]⟩⟩

theorem ofP_three : ofP [] [t1, t2, t3] [] [] = ⟨0, 1, [t1, t2, t3], [], true⟩ := by simp [ofP]
theorem ofP_two : ofP [] [t1, t2] [] [] = ⟨0, 0, [], [], false⟩ := by simp [ofP, dirtyP, dirtyAt, bytesL]

theorem many_ok (w : World) (n : Nat) (hn : n = w.heap.size) (ts : List T) (cs : Array Value) (hcs : cs = (ts.flatMap tc).toArray) (hl : ts.length ≤ 1000) (h : ∀ t ∈ ts, 0 ≤ t.bytes ∧ t.bytes < 4294967296) :
    LvOk (w.alloc (.cells cs 45)) ⟨some ⟨n, 0, none⟩, ts.length, ts⟩ := by
  subst hn
  refine ⟨⟨fun i hi => ?_⟩, (fun h => by cases h), Nat.le_refl _, hl, h⟩
  refine ⟨w.heap.size, 0, rfl, by simp, fun j c hj => ?_⟩
  have hj4 : j < 4 := by
    rcases Nat.lt_or_ge j 4 with h' | h'
    · exact h'
    · rw [List.getElem?_eq_none (by rw [tc_len]; exact h')] at hj; simp at hj
  rw [cell_new, hcs]
  have := flatMap_get tc_len ts i j hi hj4
  simp only [Nat.zero_add, List.getElem?_toArray]
  rw [this]; exact hj

set_option maxRecDepth 100000 in
set_option maxHeartbeats 1000000 in
theorem lives_any (w : World) : Calls Try.prog 7 #[] w fun e w' => e = .returned (.bool true) ∧ Below w.heap.size w w' := by
  go_enter Try.func7, Try.ntmps7
  go_wp2_with fail
  obtain ⟨W, hW⟩ : ∃ W : World, W = w.alloc (Obj.cells #[.int .u64 0, .slice none 0 0, .slice none 0 0, .slice none 0 0] 26) := ⟨_, rfl⟩
  have hB : Below w.heap.size w W := by rw [hW]; go_grown
  have s := blk_new_at (show w.heap.size = w.heap.size from rfl) (Obj.cells #[.int .u64 0, .slice none 0 0, .slice none 0 0, .slice none 0 0] 26)
  rw [← hW] at s ⊢
  clear hW
  refine (table_any 1 ⟨#[97]⟩ ⟨#[99]⟩ W).mono ?_
  rintro e w1 ⟨rfl, hb1⟩
  go_wp2_with fail
  refine (table_any 2 ⟨#[98]⟩ ⟨#[100]⟩ w1).mono ?_
  rintro e w2 ⟨rfl, hb2⟩
  go_wp2_with fail
  refine (table_any 3 ⟨#[120]⟩ ⟨#[121]⟩ w2).mono ?_
  rintro e w3 ⟨rfl, hb3⟩
  have hlt := lt_of_blk s
  have hz1 := hb1.size
  have hz2 := hb2.size
  have s3 := blk_below (blk_below (blk_below s hb1 hlt) hb2 (by omega)) hb3 (by omega)
  have hB3 : Below w.heap.size w w3 := ((hB.trans (hb1.mono (by omega))).trans (hb2.mono (by omega))).trans (hb3.mono (by omega))
  have hz3 : w.heap.size < w3.heap.size := lt_of_blk s3
  clear hb1 hb2 hb3 hz1 hz2 hlt s hB
  obtain ⟨c0, c1, c2, c3, f0, f1, f2, f3⟩ := blk_cells4 s3
  have S3 := Lib.hid s3
  clear s3
  go_wp2_with fail
  obtain ⟨V, hV⟩ : ∃ V : World, V = (w3.setCell ⟨w.heap.size, 1, none⟩ (.slice (some ⟨w3.heap.size, 0, none⟩) 3 3)).alloc (Obj.cells #[.int .u64 1, .int .u32 100, .string ⟨#[97]⟩, .string ⟨#[99]⟩, .int .u64 2, .int .u32 100, .string ⟨#[98]⟩, .string ⟨#[100]⟩, .int .u64 3, .int .u32 100, .string ⟨#[120]⟩, .string ⟨#[121]⟩] 45) := ⟨_, rfl⟩
  have hL3 : LvOk V ⟨some ⟨w3.heap.size, 0, none⟩, 3, [t1, t2, t3]⟩ := by
    rw [hV]; exact many_ok _ _ (by simp) [t1, t2, t3] _ rfl (by simp) (by simp)
  have hBV : Below w.heap.size w V := by rw [hV]; go_grown
  have sV : V.heap[w.heap.size]? = some (.cells #[.int .u64 0, .slice (some ⟨w3.heap.size, 0, none⟩) 3 3, .slice none 0 0, .slice none 0 0] 26 (0, 0)) := by
    rw [hV]; exact blk_alloc (blk_setCell S3.out _)
  rw [← hV]
  clear hV c0 c1 c2 c3 f0 f1 f2 f3 S3
  have cof := of_any 0 ⟨some ⟨w3.heap.size, 0, none⟩, 3, [t1, t2, t3]⟩ ⟨none, 0, []⟩ ⟨none, 0, []⟩ none 0 [] V hL3 (nil_ok V) (nil_ok V) (Els.nil _ _ _ _) (by simp)
  simp only [ofP_three] at cof
  refine cof.mono ?_
  rintro e w5 ⟨li, lb, rfl, hli, hlb, hLi, hLb, hb5⟩
  simp only at hli hlb
  have hz := lt_of_blk sV
  have s5 := blk_below sV hb5 hz
  have hB5 := hBV.trans (hb5.mono (by omega))
  have hz5 : w.heap.size < w5.heap.size := lt_of_blk s5
  obtain ⟨li1, li2, li3⟩ := li
  obtain ⟨lb1, lb2, lb3⟩ := lb
  simp only at hli hlb
  subst hli hlb
  obtain ⟨c0, c1, c2, c3, f0, f1, f2, f3⟩ := blk_cells4 s5
  have S5 := Lib.hid s5
  clear cof hL3 sV s5 hb5 hz hLi hLb hBV
  go_wp2_with fail
  obtain ⟨W6, hW6⟩ : ∃ W6 : World, W6 = w5.alloc (Obj.cells #[.int .i64 0, .int .i64 1, .slice li1 3 li2, .slice lb1 0 lb2] 29) := ⟨_, rfl⟩
  have q6 : W6.heap[w5.heap.size]? = some (.cells #[.int .i64 0, .int .i64 1, .slice li1 3 li2, .slice lb1 0 lb2] 29 (0, 0)) := by rw [hW6]; exact blk_new_at rfl _
  have s6 := blk_alloc (o' := Obj.cells #[.int .i64 0, .int .i64 1, .slice li1 3 li2, .slice lb1 0 lb2] 29) S5.out
  rw [← hW6] at s6 ⊢
  have hB6 : Below w.heap.size w W6 := by rw [hW6]; exact hB5.alloc (by omega) _
  clear hW6 c0 c1 c2 c3 f0 f1 f2 f3 S5 hB5
  refine (table_any 1 ⟨#[97]⟩ ⟨#[99]⟩ W6).mono ?_
  rintro e w7 ⟨rfl, hb7⟩
  have q7 := blk_below q6 hb7 (lt_of_blk q6)
  have s7 := blk_below s6 hb7 (lt_of_blk s6)
  have hB7 := hB6.trans (hb7.mono (by have := lt_of_blk s6; omega))
  clear q6 s6 hB6 hb7
  go_wp2_with fail
  refine (table_any 2 ⟨#[98]⟩ ⟨#[100]⟩ w7).mono ?_
  rintro e w8 ⟨rfl, hb8⟩
  have q8 := blk_below q7 hb8 (lt_of_blk q7)
  have s8 := blk_below s7 hb8 (lt_of_blk s7)
  have hB8 := hB7.trans (hb8.mono (by have := lt_of_blk s7; omega))
  clear q7 s7 hB7 hb8
  have hz8 := lt_of_blk s8
  have hzq8 := lt_of_blk q8
  obtain ⟨c0, c1, c2, c3, f0, f1, f2, f3⟩ := blk_cells4 s8
  have S8 := Lib.hid s8
  have Q8 := Lib.hid q8
  clear s8 q8
  go_wp2_with fail
  obtain ⟨V, hV⟩ : ∃ V : World, V = (w8.setCell ⟨w.heap.size, 1, none⟩ (.slice (some ⟨w8.heap.size, 0, none⟩) 2 2)).alloc (Obj.cells #[.int .u64 1, .int .u32 100, .string ⟨#[97]⟩, .string ⟨#[99]⟩, .int .u64 2, .int .u32 100, .string ⟨#[98]⟩, .string ⟨#[100]⟩] 45) := ⟨_, rfl⟩
  have hL2 : LvOk V ⟨some ⟨w8.heap.size, 0, none⟩, 2, [t1, t2]⟩ := by
    rw [hV]; exact many_ok _ _ (by simp) [t1, t2] _ rfl (by simp) (by simp)
  have hBV : Below w.heap.size w V := by rw [hV]; go_grown
  have sV : V.heap[w.heap.size]? = some (.cells #[.int .u64 0, .slice (some ⟨w8.heap.size, 0, none⟩) 2 2, .slice none 0 0, .slice none 0 0] 26 (0, 0)) := by
    rw [hV]; exact blk_alloc (blk_setCell S8.out _)
  have qV : V.heap[w5.heap.size]? = some (.cells #[.int .i64 0, .int .i64 1, .slice li1 3 li2, .slice lb1 0 lb2] 29 (0, 0)) := by
    rw [hV]; exact blk_alloc (blk_setCell_other Q8.out (by simp; omega) _)
  rw [← hV]
  clear hV c0 c1 c2 c3 f0 f1 f2 f3 S8 Q8 hB8
  have cof := of_any 0 ⟨some ⟨w8.heap.size, 0, none⟩, 2, [t1, t2]⟩ ⟨none, 0, []⟩ ⟨none, 0, []⟩ none 0 [] V hL2 (nil_ok V) (nil_ok V) (Els.nil _ _ _ _) (by simp)
  simp only [ofP_two] at cof
  refine cof.mono ?_
  rintro e w9 ⟨mi, mb, rfl, hmi, hmb, -, -, hb9⟩
  have s9 := blk_below sV hb9 (lt_of_blk sV)
  have q9 := blk_below qV hb9 (lt_of_blk qV)
  have hB9 := hBV.trans (hb9.mono (by have := lt_of_blk sV; omega))
  have hz9 := lt_of_blk s9
  have hzq9 := lt_of_blk q9
  obtain ⟨mi1, mi2, mi3⟩ := mi
  obtain ⟨mb1, mb2, mb3⟩ := mb
  simp only at hmi hmb
  subst hmi hmb
  obtain ⟨c0, c1, c2, c3, f0, f1, f2, f3⟩ := blk_cells4 s9
  have Q9 := Lib.hid q9
  clear cof hL2 sV s9 hb9 qV hBV q9
  go_wp2_with fail
  refine (after_early 0 _ _ _ _).mono ?_
  rintro e w10 ⟨rfl, hb10⟩
  have hbA : Below w9.heap.size w9 w10 := ((Below.refl _ _).alloc (Nat.le_refl _) _).trans (hb10.mono (by simp))
  obtain ⟨d0, d1, d2, d3, -⟩ := blk_cells4 (blk_below Q9.out hbA hzq9)
  have hB10 := hB9.trans (hbA.mono (by omega))
  have hz10 : w5.heap.size < w10.heap.size := by have := hbA.size; omega
  clear c0 c1 c2 c3 f0 f1 f2 f3 hb10 hbA
  go_wp2
  go_ret
  exact ⟨rfl, by go_grown⟩
end Go.Proofs.Ythdjokcjajlnnaa
