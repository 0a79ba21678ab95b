/- slices.Index, Contains at numbers of 64 bits; Prune's closure. Condition: fewer than 1000000 numbers. -/
import Derived.Test.YtacibennmcegfaaDoorLS1
import Derived.Test.YtacibennmcegfaaDoorLR
import Derived.Test.YtacibennmcegfaaDoorLP7
namespace Go.Proofs.YtacibennmcegfaaDoor
open Go.RowKit Go.Shelf Go.Herb

abbrev Nums (w : World) (a : Option Addr) (ns : List Int) : Prop := Els uc 1 w a ns
theorem uc_len (x : Int) : (uc x).length = 1 := rfl
theorem index_any (a : Option Addr) (c n : Nat) (ns : List Int) (x : Int) (w : World) (hE : Nums w a ns) (hn : ns.length = n) (hn1 : n < 1000000) :
    Calls Tryd.prog 53 #[.slice a n c, .int .u64 x] w fun e w' => ∃ r : Int, e = .returned (.int .i64 r) ∧ (0 ≤ r ↔ x ∈ ns) ∧ w = w' := by
  have HE := Lib.hid hE
  have HN := Lib.hid hn
  clear hE hn
  go_enter Tryd.func53, Tryd.ntmps53
  go_wp2_with fail
  go_loopg [8] n (fun gk iv wr => ∃ i : Nat, i + gk = n ∧ iv = .int .i64 i ∧ Hid (x ∉ ns.take i) ∧ Hid (w = wr))
  case atStart => exact ⟨0, by omega, rfl, Lib.hid (by simp), Lib.hid rfl⟩
  case round =>
    obtain ⟨i, hi, rfl, HX, HW⟩ := hrel
    by_cases hlt : i < n
    · have hil : i < ns.length := by have := HN.out; omega
      obtain ⟨b, o, rfl, hlb, hcx⟩ := HE.out.get i hil
      have HTK := Lib.hid (List.take_succ_eq_append_getElem hil)
      have HMM := Lib.hid (List.getElem_mem hil)
      generalize ns[i] = y at hcx HTK HMM
      have g0 := hcx 0 _ rfl
      rw [HW.out] at g0
      simp only [Nat.mul_one, Nat.add_zero] at g0
      have i0 : (0 : Int) ≤ (i : Int) := by omega
      have i1 : (i : Int) < (n : Int) := by omega
      have iw : IntKind.i64.wrap ((i : Int) + 1) = (i : Int) + 1 := IntWalk.i64_in _ (by omega)
      clear hcx
      by_cases hxy : x = y
      · have hd : (x == y) = true := by rw [hxy]; exact beq_self_eq_true _
        have HQ := Lib.hid (show 0 ≤ (i : Int) ↔ x ∈ ns from ⟨fun _ => by rw [hxy]; exact HMM.out, fun _ => i0⟩)
        clear hxy
        go_wp2_with fail
        go_ret
        exact ⟨_, rfl, HQ.out, HW.out⟩
      · have hd : (x == y) = false := beq_eq_false_iff_ne.2 hxy
        have HX2 := Lib.hid (show x ∉ ns.take (i + 1) from by rw [HTK.out]; simp only [List.mem_append, List.mem_singleton, not_or]; exact ⟨HX.out, hxy⟩)
        clear hxy
        go_wp2_with fail
        go_roundg (gk - 1)
        case measure => omega
        case rel => exact ⟨i + 1, by omega, by go_num, HX2, HW⟩
    · have h1 : ¬ (i : Int) < (n : Int) := by omega
      have HQ := Lib.hid (show 0 ≤ (-1 : Int) ↔ x ∈ ns from ⟨fun h => by omega, fun h => absurd (by rw [List.take_of_length_le (by have := HN.out; omega)]; exact h) HX.out⟩)
      go_wp2_with fail
      go_ret
      exact ⟨_, rfl, HQ.out, HW.out⟩
theorem contains_any (a : Option Addr) (c n : Nat) (ns : List Int) (x : Int) (w : World) (hE : Nums w a ns) (hn : ns.length = n) (hn1 : n < 1000000) :
    Calls Tryd.prog 44 #[.slice a n c, .int .u64 x] w fun e w' => e = .returned (.bool (decide (x ∈ ns))) ∧ w = w' := by
  have HI := Lib.hid (index_any a c n ns x w hE hn hn1)
  clear hE hn hn1
  go_enter Tryd.func44, Tryd.ntmps44
  go_wp2_with fail
  refine HI.out.mono ?_
  rintro e w' ⟨r, rfl, hr, rfl⟩
  by_cases hx : 0 ≤ r
  · have hdd : decide (0 ≤ r) = true := decide_eq_true hx
    have HD := Lib.hid (show true = decide (x ∈ ns) from (decide_eq_true (hr.1 hx)).symm)
    have hg : r ≥ 0 := hx
    clear hr
    go_wp2_with fail
    go_ret
    exact ⟨by rw [← HD.out]; first | rfl | simp [hdd], rfl⟩
  · have HD := Lib.hid (show false = decide (x ∈ ns) from (decide_eq_false (fun h => hx (hr.2 h))).symm)
    have hg : ¬ r ≥ 0 := hx
    have hdd : decide (0 ≤ r) = false := decide_eq_false hx
    clear hr
    go_wp2_with fail
    go_ret
    exact ⟨by rw [← HD.out]; first | rfl | simp [hdd], rfl⟩
/-- Prune's closure: is a line not kept? -/
theorem closure_any (kb : Nat) (ka : Option Addr) (kc kn : Nat) (ks : List Int) (x : Ln) (w : World) (hc : w.cell? ⟨kb, 0, none⟩ = some (.slice ka kn kc)) (hE : Nums w ka ks) (hn : ks.length = kn) (hn1 : kn < 1000000) :
    Calls Tryd.prog 43 #[.agg #[.int .u64 x.1, .int .u64 x.2], .pointer (some ⟨kb, 0, none⟩)] w fun e w' => e = .returned (.bool (!decide (x.1 ∈ ks))) ∧ Below w.heap.size w w' := by
  obtain ⟨W, hW⟩ : ∃ W : World, W = w.alloc (.cells #[.int .u64 x.1, .int .u64 x.2] (36)) := ⟨_, rfl⟩
  have hB : Below w.heap.size w W := by rw [hW]; exact balc (Below.refl _ _)
  have HCO := Lib.hid (contains_any ka kc kn ks x.1 W (hE.ext hB) hn hn1)
  have hx : W.heap[w.heap.size]? = some (.cells #[.int .u64 x.1, .int .u64 x.2] (36) (0, 0)) := by rw [hW]; exact blk_new_at rfl _
  have c0 := cell_of_blk hx 0
  have k0 := (hB.cell (p := ⟨kb, 0, none⟩) (lt_of_cell hc)).trans hc
  simp at c0
  obtain ⟨d, hd⟩ : ∃ d, d = decide (x.1 ∈ ks) := ⟨_, rfl⟩
  rw [← hd] at HCO ⊢
  have HB := Lib.hid hB
  have HW := Lib.hid hW
  clear hE hn hn1 hW hB hx hc hd
  go_enter Tryd.func43, Tryd.ntmps43
  go_upto_region 1 with fail
  rw [← HW.out]
  go_wp2_with fail
  refine HCO.out.mono ?_
  rintro e w' ⟨rfl, rfl⟩
  go_wp2_with fail
  go_ret
  exact ⟨rfl, HB.out⟩
end Go.Proofs.YtacibennmcegfaaDoor
