/- What may be a name, byte by byte. No condition. · The reference's has and Name of lines. Condition: fewer than 1000000 lines. -/
import Derived.Test.YticcccciefaemaaGreatDoorLN8
import Derived.Test.YticcccciefaemaaGreatDoorLP7
namespace Go.Herb
open Go.RowKit
theorem dw_nil {α : Type} (p : α → Bool) : ∀ l : List α, l.dropWhile p = [] ↔ ∀ x ∈ l, p x = true
  | [] => by simp
  | x :: l => by
    rw [List.dropWhile_cons]
    cases h : p x with
    | true => simp [h, dw_nil p l]
    | false => simp [h]
theorem dw_head {α : Type} (p : α → Bool) : ∀ (l : List α) (x : α) (m : List α), l.dropWhile p = x :: m → p x = false
  | [], x, m, h => by simp at h
  | y :: l, x, m, h => by
    rw [List.dropWhile_cons] at h
    cases hy : p y with
    | true => rw [hy] at h; exact dw_head p l x m (by simpa using h)
    | false =>
      rw [hy] at h
      simp at h
      rw [← h.1]; exact hy
theorem trimS_nil (l cs : List UInt8) : Lib.trimS l cs = [] ↔ ∀ x ∈ l, cs.contains x = true := by
  unfold Lib.trimS Lib.trimLeftS Lib.trimRightS
  rw [dw_nil]
  constructor
  · intro h
    cases hm : l.reverse.dropWhile (cs.contains ·) with
    | nil =>
      intro x hx
      exact (dw_nil _ _).1 hm x (List.mem_reverse.2 hx)
    | cons y m =>
      have h1 := dw_head _ _ _ _ hm
      have h2 := h y (by rw [hm]; simp)
      rw [h1] at h2
      cases h2
  · intro h x hx
    have h1 : l.reverse.dropWhile (cs.contains ·) = [] := (dw_nil _ _).2 (fun x hx => h x (List.mem_reverse.1 hx))
    rw [h1] at hx
    cases hx
/-- May a byte stand in a name? -/
def letB (c : Nat) : Prop := (97 ≤ c ∧ c ≤ 122) ∨ (48 ≤ c ∧ c ≤ 57)
end Go.Herb
namespace Go.Proofs.YticcccciefaemaaGreatDoor.Ln
open Go.RowKit Go.Shelf Go.Herb
theorem letters_let : ∀ x : UInt8, lettersL.contains x = true ↔ letB x.toNat := by
  intro x
  have : ∀ n : Fin 256, lettersL.contains (UInt8.ofNat n.val) = true ↔ ((97 ≤ n.val ∧ n.val ≤ 122) ∨ (48 ≤ n.val ∧ n.val ≤ 57)) := by decide +kernel
  have h := this ⟨x.toNat, x.toNat_lt⟩
  simp only [UInt8.ofNat_toNat] at h
  exact h
theorem nameB_iff (s : ByteArray) : nameB s = true ↔ 0 < s.size ∧ s.size ≤ 12 ∧ ∀ x ∈ s.data.toList, letB x.toNat := by
  unfold nameB
  rw [Bool.and_eq_true, Bool.and_eq_true, List.isEmpty_iff, trimS_nil, decide_eq_true_eq]
  have h1 : (!s.toList.isEmpty) = true ↔ 0 < s.size := by
    rw [ByteArray.toList_eq]
    have : s.size = s.data.toList.length := by rw [Array.length_toList]; rfl
    rw [this]
    cases s.data.toList with
    | nil => simp
    | cons x l => simp
  rw [h1]
  constructor
  · rintro ⟨⟨a, b⟩, c⟩
    exact ⟨a, b, fun x hx => (letters_let x).1 (c x hx)⟩
  · rintro ⟨a, b, c⟩
    exact ⟨⟨a, b⟩, fun x hx => (letters_let x).2 (c x hx)⟩
end Go.Proofs.YticcccciefaemaaGreatDoor.Ln

namespace Go.Herb
def hasL (ls : List Ln) (k : Int) : Bool := ls.any (fun x => decide (x.1 = k))
theorem hasL_iff {ls : List Ln} {k : Int} : hasL ls k = true ↔ ∃ x ∈ ls, x.1 = k := by unfold hasL; rw [List.any_eq_true]; simp
end Go.Herb
namespace Go.Proofs.YticcccciefaemaaGreatDoor.Ln
open Go.RowKit Go.Shelf Go.Herb
theorem hasR_any (a : Option Addr) (c n : Nat) (ls : List Ln) (k : Int) (w : World) (hE : Lns w a ls) (hn : ls.length = n) (hn1 : n < 1000000) :
    Calls Tryz.prog 18 #[.slice a n c, .int .u64 k] w fun e w' => e = .returned (.bool (hasL ls k)) ∧ w = w' := by
  have HE := Lib.hid hE
  have HN := Lib.hid hn
  clear hE hn
  go_enter Tryz.func18, Tryz.ntmps18
  go_wp2_with fail
  go_loopg [5] n (fun gk iv wr => ∃ i : Nat, i + gk = n ∧ iv = .int .i64 i ∧ Hid (∀ x ∈ ls.take i, x.1 ≠ k) ∧ Hid (w = wr))
  case atStart => exact ⟨0, by omega, rfl, Lib.hid (by simp), Lib.hid rfl⟩
  case round =>
    obtain ⟨i, hi, rfl, HX, HW⟩ := hrel
    by_cases hlt : i < n
    · have hil : i < ls.length := by have := HN.out; omega
      obtain ⟨b, o, rfl, hlb, hcx⟩ := HE.out.get i hil
      have HTK := Lib.hid (List.take_succ_eq_append_getElem hil)
      have HMM := Lib.hid (List.getElem_mem hil)
      generalize ls[i] = y at hcx HTK HMM
      have g0 := hcx 0 _ rfl
      rw [HW.out] at g0
      simp only [Nat.add_zero] at g0
      have i0 : (0 : Int) ≤ (i : Int) := by omega
      have i1 : (i : Int) < (n : Int) := by omega
      have iw : IntKind.i64.wrap ((i : Int) + 1) = (i : Int) + 1 := IntWalk.i64_in _ (by omega)
      clear hcx
      by_cases hxy : y.1 = k
      · have hd : (y.1 == k) = true := by rw [hxy]; exact beq_self_eq_true _
        have HQ := Lib.hid (show hasL ls k = true from hasL_iff.2 ⟨y, HMM.out, hxy⟩)
        clear hxy
        go_wp2_with fail
        go_ret
        exact ⟨by rw [HQ.out]; rfl, HW.out⟩
      · have hd : (y.1 == k) = false := beq_eq_false_iff_ne.2 hxy
        have HX2 := Lib.hid (show ∀ x ∈ ls.take (i + 1), x.1 ≠ k from by
          rw [HTK.out]
          intro x hx
          rcases List.mem_append.1 hx with h1 | h1
          · exact HX.out x h1
          · rw [List.mem_singleton.1 h1]; exact hxy)
        clear hxy
        go_wp2_with fail
        go_roundg (gk - 1)
        case measure => omega
        case rel => exact ⟨i + 1, by omega, by go_num, HX2, HW⟩
    · have h1 : ¬ (i : Int) < (n : Int) := by omega
      have HQ := Lib.hid (show hasL ls k = false from by
        rw [Bool.eq_false_iff]
        intro h
        obtain ⟨x, hx, e⟩ := hasL_iff.1 h
        exact HX.out x (by rw [List.take_of_length_le (by have := HN.out; omega)]; exact hx) e)
      go_wp2_with fail
      go_ret
      exact ⟨by rw [HQ.out]; rfl, HW.out⟩
theorem nameR_any (s : ByteArray) (w : World) (hs : s.size ≤ 9223372036854775807) :
    Calls Tryz.prog 19 #[.string s] w fun e w' => e = .returned (.bool (nameB s)) ∧ w = w' := by
  by_cases h1 : s.size < 1
  · have hf : nameB s = false := by rw [Bool.eq_false_iff]; intro h; have := (nameB_iff s).1 h; omega
    have h2 : (s.size : Int) < 1 := by omega
    rw [hf]
    clear hf h1 hs
    go_enter Tryz.func19, Tryz.ntmps19
    go_wp2_with fail
    go_ret
    exact ⟨rfl, rfl⟩
  by_cases h2 : 12 < s.size
  · have hf : nameB s = false := by rw [Bool.eq_false_iff]; intro h; have := (nameB_iff s).1 h; omega
    have h3 : (s.size : Int) > 12 := by omega
    have h4 : ¬ (s.size : Int) < 1 := by omega
    rw [hf]
    clear hf h1 h2 hs
    go_enter Tryz.func19, Tryz.ntmps19
    go_wp2_with fail
    go_ret
    exact ⟨rfl, rfl⟩
  have h3 : ¬ (s.size : Int) > 12 := by omega
  have h4 : ¬ (s.size : Int) < 1 := by omega
  have HS := Lib.hid (show 0 < s.size ∧ s.size ≤ 12 from ⟨by omega, by omega⟩)
  have hsz : s.data.toList.length = s.size := by rw [Array.length_toList]; rfl
  obtain ⟨n, hn⟩ : ∃ n, n = s.size := ⟨_, rfl⟩
  have HN := Lib.hid hn
  have HZ := Lib.hid hsz
  clear h1 h2 hs hsz hn
  go_enter Tryz.func19, Tryz.ntmps19
  go_wp2_with fail
  go_loopg [3] n (fun gk iv wr => ∃ i : Nat, i + gk = n ∧ iv = .int .i64 i ∧ Hid (∀ x ∈ s.data.toList.take i, letB x.toNat) ∧ Hid (w = wr))
  case atStart => exact ⟨0, by omega, rfl, Lib.hid (by simp), Lib.hid rfl⟩
  case round =>
    obtain ⟨i, hi, rfl, HX, HW⟩ := hrel
    by_cases hlt : i < s.size
    · have h5 : (i : Int) < (s.size : Int) := by omega
      have h6 : (0 : Int) ≤ (i : Int) := by omega
      have hil : i < s.data.toList.length := by rw [HZ.out]; exact hlt
      have HTK := Lib.hid (List.take_succ_eq_append_getElem hil)
      have hel : s[i]'hlt = s.data.toList[i] := by rw [Array.getElem_toList]; rfl
      have HMM := Lib.hid (List.getElem_mem hil)
      have hidx : ∀ W, (Instr.index (9) (.string s) (.int .i64 (i : Int))).run Tryz.prog W = .ok (.int .u8 ((s.data.toList[i]).toNat : Int)) W := fun W => by
        rw [run_index_string (h := Tryz.underlying9), dif_pos ⟨h6, h5⟩]
        simp only [Int.toNat_natCast]
        rw [hel]
      generalize s.data.toList[i] = c at hidx HTK HMM hel
      have hc := c.toNat_lt
      have iw : IntKind.i64.wrap ((i : Int) + 1) = (i : Int) + 1 := IntWalk.i64_in _ (by have := HS.out; omega)
      have hix : ((i : Int)).toNat = i := Int.toNat_natCast i
      clear hel hil
      by_cases a1 : (c.toNat : Int) < 97
      · by_cases a2 : (c.toNat : Int) < 48
        · have HE := Lib.hid (show nameB s = false from by
            rw [Bool.eq_false_iff]
            intro h
            have h1 := ((nameB_iff s).1 h).2.2 c HMM.out
            unfold letB at h1
            omega)
          go_wp2_with fail
          go_ret
          exact ⟨by rw [HE.out]; rfl, HW.out⟩
        by_cases a3 : (c.toNat : Int) > 57
        · have HE := Lib.hid (show nameB s = false from by
            rw [Bool.eq_false_iff]
            intro h
            have h1 := ((nameB_iff s).1 h).2.2 c HMM.out
            unfold letB at h1
            omega)
          go_wp2_with fail
          go_ret
          exact ⟨by rw [HE.out]; rfl, HW.out⟩
        have HX2 := Lib.hid (show ∀ x ∈ s.data.toList.take (i + 1), letB x.toNat from by
          rw [HTK.out]
          intro x hx
          rcases List.mem_append.1 hx with h1 | h1
          · exact HX.out x h1
          · rw [List.mem_singleton.1 h1]; unfold letB; omega)
        clear hix hc
        go_wp2_with fail
        go_roundg (gk - 1)
        case measure => have := HN.out; omega
        case rel => exact ⟨i + 1, by have := HN.out; omega, by go_num, HX2, HW⟩
      by_cases a4 : (c.toNat : Int) > 122
      · have a2 : ¬ (c.toNat : Int) < 48 := by omega
        have a3 : (c.toNat : Int) > 57 := by omega
        have HE := Lib.hid (show nameB s = false from by
          rw [Bool.eq_false_iff]
          intro h
          have h1 := ((nameB_iff s).1 h).2.2 c HMM.out
          unfold letB at h1
          omega)
        go_wp2_with fail
        go_ret
        exact ⟨by rw [HE.out]; rfl, HW.out⟩
      have HX2 := Lib.hid (show ∀ x ∈ s.data.toList.take (i + 1), letB x.toNat from by
        rw [HTK.out]
        intro x hx
        rcases List.mem_append.1 hx with h1 | h1
        · exact HX.out x h1
        · rw [List.mem_singleton.1 h1]; unfold letB; omega)
      clear hix hc
      go_wp2_with fail
      go_roundg (gk - 1)
      case measure => have := HN.out; omega
      case rel => exact ⟨i + 1, by have := HN.out; omega, by go_num, HX2, HW⟩
    · have h5 : ¬ (i : Int) < (s.size : Int) := by omega
      have HQ := Lib.hid (show nameB s = true from (nameB_iff s).2 ⟨HS.out.1, HS.out.2, fun x hx => HX.out x (by rw [List.take_of_length_le (by have := HZ.out; omega)]; exact hx)⟩)
      go_wp2_with fail
      go_ret
      exact ⟨by rw [HQ.out]; rfl, HW.out⟩
end Go.Proofs.YticcccciefaemaaGreatDoor.Ln
