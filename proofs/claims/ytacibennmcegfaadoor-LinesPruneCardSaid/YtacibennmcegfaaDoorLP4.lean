/- slices.Insert at branches, of one branch, where there is no room: the walk. Condition: fewer than 1000000 branches, not none. -/
import Derived.Test.YtacibennmcegfaaDoorLP3
namespace Go.Proofs.YtacibennmcegfaaDoor
open Go.RowKit Go.Shelf Go.Herb

theorem slice_hiB {g o n c i : Nat} {z : Int} (hz : z = (i : Int)) (hi : i ≤ n) : ∀ W, (Instr.slice (22) (.slice (some ⟨g, o, none⟩) n c) (some (.int .i64 z)) none none).run Tryd.prog W = .ok (.slice (some ⟨g, if c = i then o else o + i * 3, none⟩) (n - i) (c - i)) W := fun W => by
  subst hz
  have := run_slice_l (P := Tryd.prog) W (22) (some ⟨g, o, none⟩) n c (by kernel_rfl) .i64 i (by omega) (by omega)
  rw [this]
  rw [show Tryd.prog.elem (22) = (45) from by kernel_rfl, Tryd.sizeOf45]
  by_cases h0 : c = i <;> simp [sliced, Result.andThen, addr_add, h0]
theorem slice_loB {g o n c k : Nat} {z : Int} (hz : z = (k : Int)) (hk : k ≤ c) (h0 : 0 < c) : ∀ W, (Instr.slice (22) (.slice (some ⟨g, o, none⟩) n c) none (some (.int .i64 z)) none).run Tryd.prog W = .ok (.slice (some ⟨g, o, none⟩) k c) W := fun W => by
  have h1 : c ≠ 0 := by omega
  subst hz
  rw [run_slice_h (P := Tryd.prog) W (22) (some ⟨g, o, none⟩) n c (by kernel_rfl) .i64 k (by omega) (by omega)]
  rw [show Tryd.prog.elem (22) = (45) from by kernel_rfl, Tryd.sizeOf45]
  simp [sliced, Result.andThen, addr_add, h1]
def InsPost (bs : List Br) (i n : Nat) (x : Br) (w : World) (e : Ending) (w' : World) : Prop :=
  ∃ g c, e = .returned (.slice (some ⟨g, 0, none⟩) (n + 1) c) ∧ Brs w' (some ⟨g, 0, none⟩) (bs.take i ++ x :: bs.drop i) ∧ Below w.heap.size w w' ∧ w.heap.size ≤ g
set_option maxRecDepth 100000 in
theorem insert_end (g n vb : Nat) (x : Br) (bs : List Br) (w : World) (hg : Brs w (some ⟨g, 0, none⟩) bs) (hv : w.heap[vb]? = some (.cells (brc x).toArray (45) (0, 0))) (hn : bs.length = n) (h0 : 0 < n) (hn1 : n < 1000000) :
    Calls Tryd.prog (37) #[.slice (some ⟨g, 0, none⟩) n n, .int .i64 n, .slice (some ⟨vb, 0, none⟩) 1 1] w (InsPost bs n n x w) := by
  obtain ⟨i0, hin, hz0, hz1, hz2⟩ := info_parts infoB
  obtain ⟨c', w', hr, hE, hc', hB⟩ := run_append_full (P := Tryd.prog) brc_len (by decide) brc_one w (22) (45) i0 _ Tryd.underlying22 hin hz0 hz1 n n 1 1 (some ⟨g, 0, none⟩) (some ⟨vb, 0, none⟩) bs [x] hg (els_of_blk brc_len (by simpa using hv)) hn rfl h0 (by decide) (by omega) (by rw [hz2]; omega) (by unfold maxLen; omega)
  have hs1 := @slice_hiB g 0 n n n n rfl (Nat.le_refl _)
  have HE := Lib.hid (show Brs w' (some ⟨w.heap.size, 0, none⟩) (bs.take n ++ x :: bs.drop n) ∧ Below w.heap.size w w' from ⟨by rw [List.take_of_length_le (by omega), List.drop_eq_nil_of_le (by omega)]; exact hE, hB⟩)
  clear hin hz0 hz1 hz2 hE hB hg hv hn
  go_enter Tryd.func37, Tryd.ntmps37
  go_wp2_with (at_builtin; refine Lib.wpList_append_run _ rfl _ _ _ _ rfl _ _ rfl rfl _ _ (hr _) ?_)
  go_ret
  exact ⟨_, _, rfl, HE.out.1, HE.out.2, Nat.le_refl _⟩
theorem slice_hiM {g n c i : Nat} {z : Int} (hz : z = (i : Int)) (hi : i ≤ n) (hc : i < c) : ∀ W, (Instr.slice (22) (.slice (some ⟨g, 0, none⟩) n c) (some (.int .i64 z)) none none).run Tryd.prog W = .ok (.slice (some ⟨g, i * 3, none⟩) (n - i) (c - i)) W := fun W => by
  rw [slice_hiB hz hi W, if_neg (by omega), Nat.zero_add]
set_option maxRecDepth 100000 in
theorem insert_mid (g n i vb : Nat) (x : Br) (bs : List Br) (w : World) (hg : Brs w (some ⟨g, 0, none⟩) bs) (hv : w.heap[vb]? = some (.cells (brc x).toArray (45) (0, 0))) (hn : bs.length = n) (hi : i < n) (hn1 : n < 1000000) :
    Calls Tryd.prog (37) #[.slice (some ⟨g, 0, none⟩) n n, .int .i64 i, .slice (some ⟨vb, 0, none⟩) 1 1] w (InsPost bs i n x w) := by
  obtain ⟨i0, hin, hz0, hz1, hz2⟩ := info_parts infoB
  have hgl : g < w.heap.size := by
    obtain ⟨b, o, h, hl, _⟩ := hg.get 0 (by omega)
    injection h with h
    injection h with h1
    rw [h1]; exact hl
  have hT : (bs.take i).length = i := by rw [List.length_take]; omega
  have hD : (bs.drop i).length = n - i := by rw [List.length_drop]; omega
  have hold : (Builtin.firstCells i0.size i (.slice (some ⟨g, 0, none⟩) i n)).run Tryd.prog w.drew = .ok ((bs.take i).flatMap brc).toArray w.drew :=
    run_firstCells_some w.drew i0.size i ⟨g, 0, none⟩ i n _ (by rw [flatMap_len brc_len, hT, hz1]) (Els.flat (w := w.drew) ⟨(hg.take i).get⟩ brc_len (by decide))
  have hrz := fun ty => Lib.run_append_grow_zeros (P := Tryd.prog) w (22) (3) ty (45) i0 _ .i64 .i64 Tryd.underlying22 Tryd.underlying3 hin hz0 (some ⟨g, 0, none⟩) i n _ hold (n + 1 - i) (by omega) (by omega) (by omega) (by omega) (by rw [hz2]; omega) (growslice_fits (by omega) (by rw [hz2]; omega))
  rw [show i + (n + 1 - i) = n + 1 by omega] at hrz
  obtain ⟨G, hG⟩ : ∃ G, G = grownCap w (n + 1) n (45) := ⟨_, rfl⟩
  have hGn : n + 1 ≤ G := by rw [hG]; exact grownCap_ge _ _ _ _
  rw [← hG] at hrz
  obtain ⟨R, hR⟩ : ∃ R : Array Value, R = Builtin.zeroCells (Value.agg #[.string ⟨#[]⟩, .int .u64 0, .int .u64 0]).cells (n + 1 - i) ++ Builtin.zeroCells (Value.agg #[.string ⟨#[]⟩, .int .u64 0, .int .u64 0]).cells (G - (n + 1)) := ⟨_, rfl⟩
  have hRs : (n + 1 - i) * 3 ≤ R.size := by
    rw [hR]
    simp [Builtin.zeroCells, Value.cells]
  rw [Array.append_assoc, ← hR] at hrz
  obtain ⟨W1, hW1⟩ : ∃ W1 : World, W1 = w.drew.alloc (.cells (((bs.take i).flatMap brc).toArray ++ R) (45)) := ⟨_, rfl⟩
  rw [← hW1] at hrz
  have hB1 : Below w.heap.size w W1 := by rw [hW1]; exact (bdrw (Below.refl _ _)).alloc (Nat.le_refl _) _
  have hx1 : W1.heap[w.heap.size]? = some (.cells (((bs.take i).flatMap brc).toArray ++ R) (45) (0, 0)) := by rw [hW1]; exact blk_new_at rfl _
  have hTl : ((bs.take i).flatMap brc).length = i * 3 := by rw [flatMap_len brc_len, hT]
  have hmin : Nat.min 1 (n + 1 - i) = 1 := Nat.min_eq_left (by omega)
  have hcA := fun ty dc => run_copy_els (P := Tryd.prog) W1 (22) (22) ty (45) 3 w.heap.size (i * 3) (n + 1 - i) dc ⟨vb, 0, none⟩ 1 1 _ (45) (brc x) Tryd.underlying22 (by kernel_rfl) hx1 (by rw [brc_len, hmin]) (fun j v hj => by
    rw [addr_add, Nat.zero_add, cell_of_blk (blk_below hv hB1 (lt_of_blk hv))]
    simpa using hj) (by rw [brc_len]; simp only [Array.size_append, List.size_toArray]; omega) (brc_one x)
  have e1 : ((((bs.take i).flatMap brc).toArray ++ R).toList.take (i * 3) ++ brc x ++ (((bs.take i).flatMap brc).toArray ++ R).toList.drop (i * 3 + (brc x).length)).toArray = ((bs.take i).flatMap brc ++ (brc x ++ R.toList.drop 3)).toArray := by
    congr 1
    rw [Array.toList_append, brc_len, ← hTl, List.take_left, ← List.drop_drop, List.drop_left, List.append_assoc]
  rw [hmin, e1] at hcA
  obtain ⟨W2, hW2⟩ : ∃ W2 : World, W2 = W1.setRow w.heap.size ((bs.take i).flatMap brc ++ (brc x ++ R.toList.drop 3)).toArray := ⟨_, rfl⟩
  rw [← hW2] at hcA
  have hx2 : W2.heap[w.heap.size]? = some (.cells ((bs.take i).flatMap brc ++ (brc x ++ R.toList.drop 3)).toArray (45) (0, 0)) := by rw [hW2]; exact setRow_heap W1 _ _ _ _ _ hx1
  have hB2 : Below w.heap.size w W2 := by rw [hW2]; exact hB1.trans ⟨rfl, rfl, rfl, by simp [World.setRow], fun k hk => setRow_other W1 _ k _ (by omega)⟩
  have hcB := fun ty dc sc => run_copy_els (P := Tryd.prog) W2.drew (22) (22) ty (45) 3 w.heap.size ((i + 1) * 3) (n - i) dc ⟨g, i * 3, none⟩ (n - i) sc _ (45) ((bs.drop i).flatMap brc) Tryd.underlying22 (by kernel_rfl) hx2 (by rw [flatMap_len brc_len, hD, show Nat.min (n - i) (n - i) = n - i from Nat.min_self _]) (fun j v hj => by
    have h5 := Els.flat (w := W2.drew) (els_drop (hg.ext (bdrw hB2)) i) brc_len (by decide) j v hj
    exact h5) (by simp only [List.size_toArray, List.length_append, List.length_drop, brc_len, flatMap_len brc_len, hD, hT, Array.length_toList]; omega) (fun v hv => by
      obtain ⟨y, _, hy⟩ := List.mem_flatMap.1 hv
      exact brc_one y v hy)
  rw [show Nat.min (n - i) (n - i) = n - i from Nat.min_self _] at hcB
  have e2 : ∃ R2, ((((bs.take i).flatMap brc ++ (brc x ++ R.toList.drop 3)).toArray).toList.take ((i + 1) * 3) ++ (bs.drop i).flatMap brc ++ (((bs.take i).flatMap brc ++ (brc x ++ R.toList.drop 3)).toArray).toList.drop ((i + 1) * 3 + ((bs.drop i).flatMap brc).length)) = (bs.take i ++ x :: bs.drop i).flatMap brc ++ R2 := by
    refine ⟨((((bs.take i).flatMap brc ++ (brc x ++ R.toList.drop 3)).toArray).toList.drop ((i + 1) * 3 + ((bs.drop i).flatMap brc).length)), ?_⟩
    rw [show (bs.take i ++ x :: bs.drop i).flatMap brc = (bs.take i).flatMap brc ++ brc x ++ (bs.drop i).flatMap brc by simp [List.flatMap_append, List.flatMap_cons]]
    congr 2
    rw [show (i + 1) * 3 = ((bs.take i).flatMap brc ++ brc x).length by rw [List.length_append, hTl, brc_len]; omega, ← List.append_assoc, List.take_left]
  obtain ⟨R2, e2⟩ := e2
  obtain ⟨W3, hW3⟩ : ∃ W3 : World, W3 = W2.drew.setRow w.heap.size (((((bs.take i).flatMap brc ++ (brc x ++ R.toList.drop 3)).toArray).toList.take ((i + 1) * 3) ++ (bs.drop i).flatMap brc ++ (((bs.take i).flatMap brc ++ (brc x ++ R.toList.drop 3)).toArray).toList.drop ((i + 1) * 3 + ((bs.drop i).flatMap brc).length)).toArray) := ⟨_, rfl⟩
  rw [← hW3] at hcB
  have hx3 : W3.heap[w.heap.size]? = some (.cells (((((bs.take i).flatMap brc ++ (brc x ++ R.toList.drop 3)).toArray).toList.take ((i + 1) * 3) ++ (bs.drop i).flatMap brc ++ (((bs.take i).flatMap brc ++ (brc x ++ R.toList.drop 3)).toArray).toList.drop ((i + 1) * 3 + ((bs.drop i).flatMap brc).length)).toArray) (45) (0, 0)) := by rw [hW3]; exact setRow_heap W2.drew _ _ _ _ _ hx2
  have hB3 : Below w.heap.size w W3 := by rw [hW3]; exact (bdrw hB2).trans ⟨rfl, rfl, rfl, by simp [World.setRow], fun k hk => setRow_other W2.drew _ k _ (by omega)⟩
  have HE := Lib.hid (show Brs W3 (some ⟨w.heap.size, 0, none⟩) (bs.take i ++ x :: bs.drop i) ∧ Below w.heap.size w W3 from ⟨els_of_pre (R := R2) brc_len hx3 (by simpa using e2), hB3⟩)
  obtain ⟨N, hN⟩ : ∃ N, N = w.heap.size := ⟨_, rfl⟩
  have s1 := @slice_hiM g n n i i rfl (by omega) hi
  have s2 := @slice_loB g 0 n n i i rfl (by omega) (by omega)
  have s3 := @slice_hiM w.heap.size (n + 1) G i i rfl (by omega) (by omega)
  have s4 := @slice_hiM w.heap.size (n + 1) G (i + 1) ((i : Int) + 1) (by omega) (by omega) (by omega)
  have hkk : ((n + 1 - i : Nat) : Int) = (n : Int) + 1 - (i : Int) := by omega
  rw [hkk] at hrz
  rw [show n + 1 - (i + 1) = n - i by omega] at s4
  rw [← hN] at hrz hcA hcB s3 s4 HE
  obtain ⟨o1, ho1⟩ : ∃ o1, o1 = i * 3 := ⟨_, rfl⟩
  obtain ⟨o2, ho2⟩ : ∃ o2, o2 = (i + 1) * 3 := ⟨_, rfl⟩
  obtain ⟨k1, hk1⟩ : ∃ k1, k1 = n + 1 - i := ⟨_, rfl⟩
  obtain ⟨k2, hk2⟩ : ∃ k2, k2 = n - i := ⟨_, rfl⟩
  obtain ⟨k3, hk3⟩ : ∃ k3, k3 = G - i := ⟨_, rfl⟩
  obtain ⟨k4, hk4⟩ : ∃ k4, k4 = G - (i + 1) := ⟨_, rfl⟩
  rw [← ho1] at hcA hcB s1 s3
  rw [← ho2] at hcB s4
  rw [← hk1] at hcA s3
  rw [← hk2] at hcB s1 s4
  rw [← hk3] at s3
  rw [← hk4] at s4
  have HN := Lib.hid hN
  have q1 : ¬ (i : Int) = (n : Int) := by omega
  have q2 : (n : Int) < (n : Int) + 1 := by omega
  have q3 : IntKind.i64.wrap ((n : Int) + 1) = (n : Int) + 1 := IntWalk.i64_in _ (by omega)
  have q4 : IntKind.i64.wrap ((n : Int) + 1 - (i : Int)) = (n : Int) + 1 - (i : Int) := IntWalk.i64_in _ (by omega)
  have q5 : IntKind.i64.wrap ((i : Int) + 1) = (i : Int) + 1 := IntWalk.i64_in _ (by omega)
  clear hin hz0 hz1 hz2 hg hv hn hT hD hold hG hR hRs hW1 hB1 hx1 hTl e1 hW2 hx2 hB2 e2 hW3 hx3 hB3 hN hkk ho1 ho2 hk1 hk2 hk3 hk4 hgl
  go_enter Tryd.func37, Tryd.ntmps37
  go_upto_region 11 with (at_builtin; first | refine Lib.wpList_append_run _ rfl _ _ _ _ rfl _ _ rfl rfl _ _ (hrz _) ?_ | refine wpList_copy_eq _ rfl _ _ (22) (22) rfl _ _ rfl rfl (hcA _ _) ?_)
  go_region_held3 (fun _ => True) (exact trivial) (first | fail)
  go_wp2_with fail
  go_ret
  obtain ⟨f1, f2⟩ := HE.out
  rw [HN.out] at f1 f2
  exact ⟨_, _, by rw [HN.out]; rfl, f1, f2, Nat.le_refl _⟩
theorem insert_any (g n i vb : Nat) (x : Br) (bs : List Br) (w : World) (hg : Brs w (some ⟨g, 0, none⟩) bs) (hv : w.heap[vb]? = some (.cells (brc x).toArray (45) (0, 0))) (hn : bs.length = n) (h0 : 0 < n) (hi : i ≤ n) (hn1 : n < 1000000) :
    Calls Tryd.prog (37) #[.slice (some ⟨g, 0, none⟩) n n, .int .i64 i, .slice (some ⟨vb, 0, none⟩) 1 1] w (InsPost bs i n x w) := by
  rcases Nat.lt_or_ge i n with h | h
  · exact insert_mid g n i vb x bs w hg hv hn h hn1
  · have : i = n := by omega
    subst this
    exact insert_end g i vb x bs w hg hv hn h0 hn1
end Go.Proofs.YtacibennmcegfaaDoor
