/- slices.Delete at branches, of one branch, in a row of its own; Drop. Condition: fewer than 1000000 branches. -/
import Derived.Test.YtacibennmcegfaaDoorLS1
namespace Go.Proofs.YtacibennmcegfaaDoor
open Go.RowKit Go.Shelf Go.Herb

theorem zeroB : ∀ w, (zeroValue (45)).run Tryd.prog w = .ok (.agg #[.string ⟨#[]⟩, .int .u64 0, .int .u64 0]) w := Tryd.zeroValue45
theorem slice_fullB {g n i : Nat} (hi : i < n) : ∀ W, (Instr.slice (22) (.slice (some ⟨g, 0, none⟩) n n) (some (.int .i64 i)) (some (.int .i64 ((i : Int) + 1))) (some (.int .i64 n))).run Tryd.prog W = .ok (.slice (some ⟨g, i * 3, none⟩) 1 (n - i)) W := fun W => by
  rw [run_slice_lhm (P := Tryd.prog) W (22) (some ⟨g, 0, none⟩) n n (by kernel_rfl) .i64 .i64 .i64 i _ n (by omega) (by omega) (by omega) (by omega)]
  rw [show Tryd.prog.elem (22) = (45) from by kernel_rfl, Tryd.sizeOf45]
  have e2 : ¬ n = i := by omega
  simp [sliced, Result.andThen, addr_add, e2]
set_option maxRecDepth 100000 in
theorem delete_any (g n i : Nat) (bs : List Br) (w : World) (hg : w.heap[g]? = some (.cells (bs.flatMap brc).toArray (45) (0, 0))) (hn : bs.length = n) (hi : i < n) (hn1 : n < 1000000) :
    Calls Tryd.prog 39 #[.slice (some ⟨g, 0, none⟩) n n, .int .i64 i, .int .i64 ((i : Int) + 1)] w fun e w' => ∃ R : List Value, e = .returned (.slice (some ⟨g, 0, none⟩) (n - 1) n) ∧ w'.heap[g]? = some (.cells ((bs.take i ++ bs.drop (i + 1)).flatMap brc ++ R).toArray (45) (0, 0)) ∧ RowOnly g w w' := by
  obtain ⟨i0, hin, hz0, hz1, hz2⟩ := info_parts infoB
  have hT : (bs.take i).length = i := by rw [List.length_take]; omega
  have hD : (bs.drop (i + 1)).length = n - (i + 1) := by rw [List.length_drop]; omega
  have hTl : ((bs.take i).flatMap brc).length = i * 3 := by rw [flatMap_len brc_len, hT]
  have hDl : ((bs.drop (i + 1)).flatMap brc).length = (n - (i + 1)) * 3 := by rw [flatMap_len brc_len, hD]
  have hAl : (bs.flatMap brc).length = n * 3 := by rw [flatMap_len brc_len, hn]
  obtain ⟨W1, hW1⟩ : ∃ W1 : World, W1 = w.drew := ⟨_, rfl⟩
  have hg1 : W1.heap[g]? = some (.cells (bs.flatMap brc).toArray (45) (0, 0)) := by rw [hW1]; exact hg
  have hE1 : Brs W1 (some ⟨g, 0, none⟩) bs := els_of_blk brc_len hg1
  have hsrc : ∀ (off : Nat), off = (if n = i + 1 then 0 else (i + 1) * 3) → ∀ (j : Nat) (v : Value), ((bs.drop (i + 1)).flatMap brc)[j]? = some v → W1.cell? ((⟨g, off, none⟩ : Addr).add j) = some v := by
    intro off ho j v hj
    by_cases h : n = i + 1
    · have : j < ((bs.drop (i + 1)).flatMap brc).length := (List.getElem?_eq_some_iff.1 hj).1
      omega
    · rw [if_neg h] at ho
      subst ho
      exact Els.flat (w := W1) (els_drop hE1 (i + 1)) brc_len (by decide) j v hj
  have hap := fun ty (off : Nat) (ho : off = (if n = i + 1 then 0 else (i + 1) * 3)) => run_append_row (P := Tryd.prog) W1 (22) (45) i0 Tryd.underlying22 hin g i n (n - (i + 1)) (n - (i + 1)) ⟨g, off, none⟩ _ (45) ((bs.drop (i + 1)).flatMap brc) hg1 (by rw [hDl, hz1]) (hsrc off ho) (by omega) (by rw [hDl, hz1, List.size_toArray, hAl]; omega) (fun v hv => by
      obtain ⟨y, _, hy⟩ := List.mem_flatMap.1 hv
      exact brc_one y v hy) ty
  rw [hz1, show i + (n - (i + 1)) = n - 1 by omega] at hap
  have e1 : ((bs.flatMap brc).take (i * 3) ++ (bs.drop (i + 1)).flatMap brc ++ (bs.flatMap brc).drop (i * 3 + ((bs.drop (i + 1)).flatMap brc).length)) = (bs.take i ++ bs.drop (i + 1)).flatMap brc ++ (bs.flatMap brc).drop (i * 3 + ((bs.drop (i + 1)).flatMap brc).length) := by
    rw [List.flatMap_append]
    congr 2
    rw [show bs.flatMap brc = (bs.take i).flatMap brc ++ (bs.drop i).flatMap brc by rw [← List.flatMap_append, List.take_append_drop], ← hTl]
    exact List.take_left
  obtain ⟨T, hT0⟩ : ∃ T, T = (bs.take i ++ bs.drop (i + 1)).flatMap brc := ⟨_, rfl⟩
  have hTT : T.length = (n - 1) * 3 := by rw [hT0, List.flatMap_append, List.length_append, hTl, hDl]; omega
  obtain ⟨R, hR⟩ : ∃ R, R = (bs.flatMap brc).drop (i * 3 + ((bs.drop (i + 1)).flatMap brc).length) := ⟨_, rfl⟩
  have hRl : R.length = 3 := by rw [hR, List.length_drop, hAl, hDl]; omega
  have e3 : ((bs.flatMap brc).take (i * 3) ++ (bs.drop (i + 1)).flatMap brc ++ (bs.flatMap brc).drop (i * 3 + ((bs.drop (i + 1)).flatMap brc).length)) = T ++ R := by rw [e1, ← hT0, ← hR]
  simp only [e3] at hap
  obtain ⟨W2, hW2⟩ : ∃ W2 : World, W2 = W1.setRow g (T ++ R).toArray := ⟨_, rfl⟩
  rw [← hW2] at hap
  have hg2 : W2.heap[g]? = some (.cells (T ++ R).toArray (45) (0, 0)) := by rw [hW2]; exact setRow_heap W1 _ _ _ _ _ hg1
  have hcl := fun ty => run_clear_row (P := Tryd.prog) W2 (22) (45) _ Tryd.underlying22 zeroB g ((n - 1) * 3) 1 1 _ (45) hg2 (by decide) (by simp [Value.cells, hTT, hRl]) (by simp [Value.cells, Value.oneCell']) ty
  obtain ⟨Z, hZ⟩ : ∃ Z : List Value, Z = (Builtin.zeroCells (Value.agg #[.string ⟨#[]⟩, .int .u64 0, .int .u64 0]).cells 1).toList ++ (T ++ R).toArray.toList.drop ((n - 1) * 3 + 1 * (Value.agg #[.string ⟨#[]⟩, .int .u64 0, .int .u64 0]).cells.size) := ⟨_, rfl⟩
  have e2 : (T ++ R).toArray.toList.take ((n - 1) * 3) = T := by rw [← hTT]; simp
  rw [e2, List.append_assoc, ← hZ] at hcl
  obtain ⟨W3, hW3⟩ : ∃ W3 : World, W3 = W2.setRow g (T ++ Z).toArray := ⟨_, rfl⟩
  rw [← hW3] at hcl
  have HE := Lib.hid (show W3.heap[g]? = some (.cells ((bs.take i ++ bs.drop (i + 1)).flatMap brc ++ Z).toArray (45) (0, 0)) ∧ RowOnly g w W3 from ⟨by rw [← hT0, hW3]; exact setRow_heap W2 _ _ _ _ _ hg2, by rw [hW3, hW2, hW1]; exact (RowOnly.drew g w).trans ((RowOnly.setRow g _ _).trans (RowOnly.setRow g _ _))⟩)
  have q1 : (i : Int) ≠ (i : Int) + 1 := by omega
  have s1 := @slice_fullB g n i hi
  have s2 := @slice_loB g 0 n n i i rfl (by omega) (by omega)
  have s3 := @slice_hiB g 0 n n (i + 1) ((i : Int) + 1) (by omega) (by omega)
  have s4 : ∀ W, (Instr.slice (22) (.slice (some ⟨g, 0, none⟩) (n - 1) n) (some (.int .i64 ((n - 1 : Nat) : Int))) (some (.int .i64 (n : Int))) none).run Tryd.prog W = .ok (.slice (some ⟨g, (n - 1) * 3, none⟩) 1 1) W := fun W => by
    rw [run_slice_lh (P := Tryd.prog) W (22) (some ⟨g, 0, none⟩) (n - 1) n (by kernel_rfl) .i64 .i64 ((n - 1 : Nat) : Int) n (by omega) (by omega) (by omega)]
    rw [show Tryd.prog.elem (22) = (45) from by kernel_rfl, Tryd.sizeOf45]
    have e1 : n - (n - 1) = 1 := by omega
    have e2 : ¬ n = n - 1 := by omega
    simp [sliced, Result.andThen, addr_add, e1, e2]
  obtain ⟨off, hoff⟩ : ∃ off, off = (if n = i + 1 then 0 else (i + 1) * 3) := ⟨_, rfl⟩
  have hap := fun ty => hap ty off hoff
  rw [show (if n = i + 1 then 0 else 0 + (i + 1) * 3) = off by rw [hoff, Nat.zero_add]] at s3
  obtain ⟨m, hm⟩ : ∃ m, m = n - (i + 1) := ⟨_, rfl⟩
  obtain ⟨k, hk⟩ : ∃ k, k = n - 1 := ⟨_, rfl⟩
  obtain ⟨o, ho⟩ : ∃ o, o = (n - 1) * 3 := ⟨_, rfl⟩
  rw [← hm] at hap s3
  rw [← ho] at hcl s4
  rw [← hk] at hap s4 ⊢
  have HAP := Lib.hid hap
  rw [hW1] at HAP
  clear hap hin hz0 hz1 hz2 hT hD hTl hDl hAl hW1 hg1 hE1 hsrc e1 e3 hT0 hTT hR hRl hW2 hg2 hZ e2 hW3 hg hn hn1 hoff hm hk ho hi
  go_enter Tryd.func39, Tryd.ntmps39
  go_upto_region 5 with fail
  go_region_law (refine step_append_run rfl (.tmp 22) (.tmp 25) (22) (22) rfl (.slice (some ⟨g, 0, none⟩) i n) (.slice (some ⟨g, off, none⟩) m m) (by simp [Act.eval, Act.put]) (by simp [Act.eval, Act.put]) _ _ (HAP.out _) ?_)
  go_wp2_with (at_builtin; refine wpList_clear_eq _ rfl _ _ rfl _ rfl (hcl _) ?_)
  go_ret
  exact ⟨_, rfl, HE.out.1, HE.out.2⟩
end Go.Proofs.YtacibennmcegfaaDoor
