/- views.spoken: its walk. Condition: fewer than 1000 facts. -/
import Derived.Test.YtenocakpipppiaaM1
namespace Go.Proofs.Ytenocakpipppiaa
open Go.RowKit Go.Shelf Go.Herb

theorem innL_other {xs : List Fc} {i : Nat} (h : i < xs.length) (k' : ByteArray) (hk : k' ≠ xs[i].key) : innL k' (xs.take (i + 1)) = innL k' (xs.take i) := by
  rw [innL_succ k' xs i h, if_neg (fun e => hk (bytes_ext e).symm)]
theorem innL_own {xs : List Fc} {i : Nat} (h : i < xs.length) : innL xs[i].key (xs.take (i + 1)) = insV (innL xs[i].key (xs.take i)) xs[i] := by
  rw [innL_succ _ xs i h, if_pos rfl]
theorem keys_succ {xs : List Fc} {i : Nat} (h : i < xs.length) (k : ByteArray) : (∃ x ∈ xs.take (i + 1), x.key = k) ↔ (∃ x ∈ xs.take i, x.key = k) ∨ k = xs[i].key := by
  rw [List.take_succ_eq_append_getElem h]
  constructor
  · rintro ⟨x, hx, e⟩
    rcases List.mem_append.1 hx with hx | hx
    · exact .inl ⟨x, hx, e⟩
    · rw [List.mem_singleton.1 hx] at e; exact .inr e.symm
  · rintro (⟨x, hx, e⟩ | e)
    · exact ⟨x, List.mem_append.2 (.inl hx), e⟩
    · exact ⟨xs[i], List.mem_append.2 (.inr (by simp)), e.symm⟩

def SpokenPost (xs : List Fc) (w : World) (e : Ending) (w' : World) : Prop := ∃ mb, e = .returned (.map (some mb)) ∧ Spoken w' mb w.heap.size xs ∧ Below w.heap.size w w'

set_option maxRecDepth 100000 in
set_option maxHeartbeats 2000000 in
theorem spoken_any (a : Option Addr) (cap : Nat) (xs : List Fc) (w : World) (hL : Facts w a xs) (hlen : xs.length < 1000) :
    Calls Try.prog 32 #[.slice a xs.length cap] w (SpokenPost xs w) := by
  have HL := Lib.hid hL
  have hmm := @run_makeMap Try.prog
  have qT : ∀ (w : World) (r : Option Nat), (binOp .eql (75) (.map r) (.map none)).run Try.prog w = .ok (.bool r.isNone) w := fun w r => run_eql_map_nil w _ _ _ r Try.underlying75
  have hM0 := MapIs.made (P := Try.prog) (k := 9) (encK := eK) (encV := eM) w
  have HM0 := Lib.hid hM0
  clear hL hM0
  go_enter Try.func32, Try.ntmps32
  go_wp2_with fail
  go_loopg [11] xs.length (fun gk iv wr => ∃ (i : Nat) (M : List (ByteArray × Nat)), i + gk = xs.length ∧ iv = .int .i64 i ∧ Spk wr w.heap.size w.heap.size M (fun k => innL k (xs.take i)) ∧ (∀ k, k ∈ M.map (·.1) ↔ ∃ x ∈ xs.take i, x.key = k) ∧ M.length ≤ i ∧ Below w.heap.size w wr)
  case atStart => exact ⟨0, [], by omega, rfl, ⟨HM0.out, by simp, Nat.le_refl _, by simp, by simp⟩, by simp, by simp, (Below.refl _ _).alloc (Nat.le_refl _) _⟩
  case round =>
    obtain ⟨i, M, hi, rfl, hS, hK, hMl, hBi⟩ := hrel
    have HBI := Lib.hid hBi
    have HS := Lib.hid hS
    have HK := Lib.hid hK
    have hsi := hBi.size
    have hmb : w.heap.size < wr.heap.size := hS.out.lt
    clear hBi hS hK
    by_cases hilt : i < xs.length
    · obtain ⟨b, o, rfl, hlb, hcell⟩ := HL.out.get i hilt
      have hi0 : (0 : Int) ≤ (i : Int) := by omega
      have hi1 : (i : Int) < (xs.length : Int) := by omega
      have hoth := innL_other hilt
      have hownF := innL_own hilt
      have hks := keys_succ hilt
      generalize xs[i] = x at *
      have e0 := (HBI.out.cell (p := ⟨b, _, none⟩) hlb).trans (hcell 0 _ rfl)
      have e1 := (HBI.out.cell (p := ⟨b, _, none⟩) hlb).trans (hcell 1 _ rfl)
      have e2 := (HBI.out.cell (p := ⟨b, _, none⟩) hlb).trans (hcell 2 _ rfl)
      have e3 := (HBI.out.cell (p := ⟨b, _, none⟩) hlb).trans (hcell 3 _ rfl)
      have e4 := (HBI.out.cell (p := ⟨b, _, none⟩) hlb).trans (hcell 4 _ rfl)
      have e5 := (HBI.out.cell (p := ⟨b, _, none⟩) hlb).trans (hcell 5 _ rfl)
      simp only [Nat.add_zero] at e0 e1 e2 e3 e4 e5
      have hlr : b < wr.heap.size := by omega
      obtain ⟨kl, hkl⟩ := keyK x.key x.wk
      have hvl : keyOf Try.prog (31) (eV x.valid) = some _ := Maps.keyOf_int_mk Try.underlying31 x.wv
      obtain ⟨W1, hW1⟩ : ∃ W1 : World, W1 = wr.alloc (.cells (fc x).toArray 34) := ⟨_, rfl⟩
      have hB1 : Below wr.heap.size wr W1 := by rw [hW1]; exact (Below.refl _ _).alloc (Nat.le_refl _) _
      have hx1 : W1.heap[wr.heap.size]? = some (.cells (fc x).toArray 34 (0, 0)) := by rw [hW1]; exact blk_new_at rfl _
      have hs1 : W1.heap.size = wr.heap.size + 1 := by rw [hW1]; simp
      have hS1 := HS.out.below hB1
      have hlook := (hS1.out.look lawK eK_inj Try.underlying73 (zero75 _) hkl).1
      have hBw1 := HBI.out.trans (hB1.mono hsi)
      have HOTH := Lib.hid hoth
      have HOWN := Lib.hid hownF
      have HKS := Lib.hid hks
      clear hcell hoth hownF hks
      cases hg : getL M x.key with
      | none =>
        have hno : x.key ∉ M.map (·.1) := getL_none.1 hg
        have hF0 : innL x.key (xs.take i) = [] := innL_none (fun y hy e => hno ((HK.out x.key).2 ⟨y, hy, bytes_ext e⟩))
        rw [hg] at hlook
        simp only at hlook
        obtain ⟨W2, hW2⟩ : ∃ W2 : World, W2 = W1.alloc (.map #[] 0) := ⟨_, rfl⟩
        have hB2 : Below W1.heap.size W1 W2 := by rw [hW2]; exact (Below.refl _ _).alloc (Nat.le_refl _) _
        have hn2 : MapV W2 W1.heap.size [] := by rw [hW2]; exact MapIs.made W1
        obtain ⟨w3, hrun3, hM3, hg3, hs3⟩ := (hS1.out.same (hB2.block _ hS1.out.lt)).store lawK eK_inj Try.underlying73 (by unfold maxLen; omega) W1.heap.size hkl
        have hS3 := hS1.more (w1 := W2) (w2 := w3) hno hF0 (by omega) (Nat.le_refl _) hB2 hn2 hM3 hg3
        have hx2 := blk_below hx1 hB2 (by omega)
        have hx3 : w3.heap[wr.heap.size]? = some (.cells (fc x).toArray 34 (0, 0)) := (hg3.block _ (lt_of_blk hx2) (fun e => by injection e with e; omega)).trans hx2
        have hlook3 := (hS3.out.look lawK eK_inj Try.underlying73 (zero75 _) hkl).1
        rw [getL_put_same] at hlook3
        simp only at hlook3
        have hin3 : (x.key, W1.heap.size) ∈ putL M x.key W1.heap.size := (getL_some hS3.out.nodup).1 (getL_put_same _ _ _)
        have hinn3 := hS3.inn _ hin3
        simp only [hF0] at hinn3
        have hil3 := (hinn3.look lawV eV_inj Try.underlying75 (zero77 _) hvl).2
        rw [getL_nil] at hil3
        simp only at hil3
        obtain ⟨W4, hW4⟩ : ∃ W4 : World, W4 = w3.alloc (.cells #[.int .u8 0, .string .empty] 77) := ⟨_, rfl⟩
        have hB4 : Below w3.heap.size w3 W4 := by rw [hW4]; exact (Below.refl _ _).alloc (Nat.le_refl _) _
        have hS4 := hS3.below hB4
        have hx4 := blk_below hx3 hB4 (lt_of_blk hx3)
        have hlook4 := (hS4.out.look lawK eK_inj Try.underlying73 (zero75 _) hkl).1
        rw [getL_put_same] at hlook4
        simp only at hlook4
        have hinn4 := hS4.inn _ hin3
        simp only [hF0] at hinn4
        obtain ⟨w5, hrun5, hM5, hg5, hs5⟩ := hinn4.store lawV eV_inj Try.underlying75 (by simp; unfold maxLen; decide) (x.kind, x.val) hvl
        have hS5 : Spk w5 w.heap.size w.heap.size (putL M x.key W1.heap.size) (fun k => innL k (xs.take (i + 1))) := by
          refine hS4.put hin3 HOTH.out ?_ hg5
          simp only [HOWN.out, hF0]
          exact hM5
        have HS5 := Lib.hid hS5
        have hB5 : Below w.heap.size w w5 := by
          have h3 := (hBw1.trans (hB2.mono (by omega))).grown hg3 (by have := hB2.size; omega) (fun k e => by cases e; exact Nat.le_refl _)
          have h4 := h3.trans (hB4.mono h3.size)
          exact h4.grown hg5 h4.size (fun k e => by cases e; omega)
        have HB5 := Lib.hid hB5
        have hkeys : ∀ k, k ∈ (putL M x.key W1.heap.size).map (·.1) ↔ ∃ y ∈ xs.take (i + 1), y.key = k := by
          intro k
          rw [putL_keys, if_neg hno, List.mem_append, HK.out, HKS.out, List.mem_singleton]
        have HKEYS := Lib.hid hkeys
        have hml : (putL M x.key W1.heap.size).length ≤ i + 1 := by have := putL_length M x.key W1.heap.size; omega
        have c30 := cell_of_blk hx3 0
        have c31 := cell_of_blk hx3 1
        have c40 := cell_of_blk hx4 0
        have c41 := cell_of_blk hx4 1
        have c44 := cell_of_blk hx4 4
        have c45 := cell_of_blk hx4 5
        simp [fc] at c30 c31 c40 c41 c44 c45
        have hlx3 := lt_of_blk hx3
        rw [hs1] at hrun3 hlook3 hil3 hlook4 hrun5 HS5 HKEYS
        rw [hW4] at hlook4 hrun5 c40 c41 c44 c45
        rw [hW2] at hrun3
        rw [hW1] at hrun3 hlook
        simp only [fc] at hlook hrun3
        clear hS1 hB1 hx1 hB2 hn2 hM3 hg3 hS3 hx2 hx3 hin3 hinn3 hB4 hS4 hx4 hinn4 hM5 hg5 hS5 hB5 hkeys hg hBw1 hF0 hno hs3 hs5 hW1 hW2 hW4
        go_wp2
        go_roundg (gk - 1)
        case measure => omega
        case rel => exact ⟨i + 1, _, by omega, by go_num, HS5.out, HKEYS.out, by have := putL_length M x.key (wr.heap.size + 1); omega, HB5.out⟩
      | some b' =>
        have hin : (x.key, b') ∈ M := (getL_some hS1.out.nodup).1 hg
        rw [hg] at hlook
        simp only at hlook
        have hinn := hS1.inn _ hin
        simp only at hinn
        have hil := (hinn.look lawV eV_inj Try.underlying75 (zero77 _) hvl).2
        have c0 := cell_of_blk hx1 0
        have c1 := cell_of_blk hx1 1
        simp [fc] at c0 c1
        have hkeys : ∀ k, k ∈ M.map (·.1) ↔ ∃ y ∈ xs.take (i + 1), y.key = k := by
          intro k
          rw [HKS.out, ← HK.out]
          constructor
          · exact Or.inl
          · rintro (h | rfl)
            · exact h
            · exact List.mem_map.2 ⟨_, hin, rfl⟩
        have HKEYS := Lib.hid hkeys
        cases hv : getL (innL x.key (xs.take i)) x.valid with
        | some sd =>
          rw [hv] at hil
          simp only at hil
          have hins : insV (innL x.key (xs.take i)) x = innL x.key (xs.take i) := by
            unfold insV
            rw [if_pos]
            exact List.mem_map.2 ⟨_, (getL_some (innL_nodup _ _)).1 hv, rfl⟩
          obtain ⟨W4, hW4⟩ : ∃ W4 : World, W4 = W1.alloc (.cells #[.int .u8 sd.1, .string sd.2] 77) := ⟨_, rfl⟩
          have hB4 : Below W1.heap.size W1 W4 := by rw [hW4]; exact (Below.refl _ _).alloc (Nat.le_refl _) _
          have hS4 : Spk W4 w.heap.size w.heap.size M (fun k => innL k (xs.take (i + 1))) := by
            have h := hS1.below hB4
            have he : (fun k => innL k (xs.take (i + 1))) = fun k => innL k (xs.take i) := by
              funext k
              by_cases hk : k = x.key
              · rw [hk, HOWN.out, hins]
              · exact HOTH.out k hk
            rw [he]
            exact h
          rw [hW4, hW1] at hS4
          have HS4 := Lib.hid hS4
          rw [hW1] at hil hlook c0 c1
          simp only [fc] at hil hlook c0 c1 HS4
          have hBe : Below w.heap.size w W4 := hBw1.trans (hB4.mono (by omega))
          rw [hW4, hW1] at hBe
          simp only [fc] at hBe
          have HBE := Lib.hid hBe
          clear hS1 hB1 hx1 hinn hkeys hg hv hin hBw1 hB4 hS4 hW1 hW4 hins hBe
          go_wp2
          go_roundg (gk - 1)
          case measure => omega
          case rel => exact ⟨i + 1, M, by omega, by go_num, HS4.out, HKEYS.out, by omega, HBE.out⟩
        | none =>
          rw [hv] at hil
          simp only at hil
          obtain ⟨W4, hW4⟩ : ∃ W4 : World, W4 = W1.alloc (.cells #[.int .u8 0, .string .empty] 77) := ⟨_, rfl⟩
          have hB4 : Below W1.heap.size W1 W4 := by rw [hW4]; exact (Below.refl _ _).alloc (Nat.le_refl _) _
          have hS4 := hS1.below hB4
          have hx4 := blk_below hx1 hB4 (lt_of_blk hx1)
          have hlook4 := (hS4.out.look lawK eK_inj Try.underlying73 (zero75 _) hkl).1
          rw [hg] at hlook4
          simp only at hlook4
          have hinn4 := hS4.inn _ hin
          simp only at hinn4
          obtain ⟨w5, hrun5, hM5, hg5, hs5⟩ := hinn4.store lawV eV_inj Try.underlying75 (by have h1 := innL_len x.key (xs.take i); have h2 := List.length_take_le i xs; unfold maxLen; omega) (x.kind, x.val) hvl
          have hS5 : Spk w5 w.heap.size w.heap.size M (fun k => innL k (xs.take (i + 1))) := by
            refine hS4.put hin HOTH.out ?_ hg5
            simp only [HOWN.out]
            unfold insV
            rw [if_neg (getL_none.1 hv)]
            exact hM5
          have HS5 := Lib.hid hS5
          have hB5 : Below w.heap.size w w5 := by
            have h4 := hBw1.trans (hB4.mono (by omega))
            exact h4.grown hg5 h4.size (fun k e => by cases e; exact (hS1.low _ hin).1)
          have HB5 := Lib.hid hB5
          have c40 := cell_of_blk hx4 0
          have c41 := cell_of_blk hx4 1
          have c44 := cell_of_blk hx4 4
          have c45 := cell_of_blk hx4 5
          simp [fc] at c40 c41 c44 c45
          rw [hW4, hW1] at hlook4 hrun5 c40 c41 c44 c45
          rw [hW1] at hil hlook c0 c1
          simp only [fc] at hil hlook c0 c1 hlook4 hrun5 c40 c41 c44 c45
          clear hS1 hB1 hx1 hinn hkeys hg hv hin hBw1 hB4 hS4 hx4 hinn4 hM5 hg5 hS5 hB5 hW1 hW4 hs5
          go_wp2
          go_roundg (gk - 1)
          case measure => omega
          case rel => exact ⟨i + 1, M, by omega, by go_num, HS5.out, HKEYS.out, by omega, HB5.out⟩
    · have hie : i = xs.length := by omega
      subst hie
      have hS := HS.out
      have hK := HK.out
      rw [List.take_length] at hS hK
      have HS' := Lib.hid hS
      have HK' := Lib.hid hK
      clear hS hK HS HK
      go_wp2
      go_ret
      exact ⟨_, rfl, ⟨M, HS'.out, HK'.out⟩, HBI.out⟩
end Go.Proofs.Ytenocakpipppiaa
