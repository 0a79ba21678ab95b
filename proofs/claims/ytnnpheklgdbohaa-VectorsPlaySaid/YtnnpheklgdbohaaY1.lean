/- ref16: at, of, above. No condition. -/
import Derived.Test.YtnnpheklgdbohaaOZ
namespace Go.Herb
theorem getL_step {β : Type} {L : List (Int × β)} {i : Nat} {k : Int} {x : Int × β} (h : getL (L.take i) k = none) (hx : L[i]? = some x) : getL (L.take (i + 1)) k = if x.1 = k then some x.2 else none := by
  obtain ⟨hi, rfl⟩ := List.getElem?_eq_some_iff.1 hx
  rw [List.take_succ_eq_append_getElem hi]
  unfold getL at h ⊢
  rw [List.find?_append]
  rw [Option.map_eq_none_iff] at h
  rw [h, Option.none_or]
  by_cases e : L[i].1 = k <;> simp [e]
theorem getL_first {β : Type} {L : List (Int × β)} {i : Nat} {k : Int} {x : Int × β} (h : getL (L.take i) k = none) (hx : L[i]? = some x) (e : x.1 = k) : getL L k = some x.2 := by
  have h1 := getL_step h hx
  rw [if_pos e] at h1
  have h2 : L = L.take (i + 1) ++ L.drop (i + 1) := (List.take_append_drop _ _).symm
  rw [h2]
  unfold getL at h1 ⊢
  rw [List.find?_append]
  cases hf : (L.take (i + 1)).find? (fun p => decide (p.1 = k)) with
  | none => rw [hf] at h1; simp at h1
  | some y => rw [hf] at h1; simpa using h1
end Go.Herb
namespace Go.Proofs.Ytnnpheklgdbohaa
open Go.RowKit Go.Shelf Go.Herb

/-- The reference's vectors, as they lie. -/
structure RefIs (w : World) (p : Nat) (la : Option Addr) (lc : Nat) (xs : List Vc) (L : Vs) : Prop where
  blk : w.heap[p]? = some (.cells #[.slice la xs.length lc] (57) (0, 0))
  inn : VIn w la xs
  vs : vsOf xs = L
theorem RefIs.below {w w' : World} {p : Nat} {la : Option Addr} {lc : Nat} {xs : List Vc} {L : Vs} (h : RefIs w p la lc xs L) (hb : Below w.heap.size w w') : RefIs w' p la lc xs L := ⟨blk_below h.blk hb (lt_of_blk h.blk), vin_ext h.inn hb, h.vs⟩

def AtPost (xs : List Vc) (L : Vs) (line : Int) (w : World) (e : Ending) (w' : World) : Prop :=
  w' = w ∧ ((∃ (i : Nat) (x : Vc), e = .returned (.int .i64 i) ∧ xs[i]? = some x ∧ x.line = line ∧ getL L line = some x.ps) ∨ (e = .returned (.int .i64 (-1)) ∧ getL L line = none))
theorem at_any (p : Nat) (la : Option Addr) (lc : Nat) (xs : List Vc) (L : Vs) (line : Int) (w : World) (h : RefIs w p la lc xs L) :
    Calls Try.prog (42) #[.pointer (some ⟨p, 0, none⟩), .int .u64 line] w (AtPost xs L line w) := by
  have H := Lib.hid h
  have c0 := cell_of_blk h.blk 0
  simp at c0
  have hml := h.inn.len
  unfold maxLen at hml
  obtain ⟨n, hn⟩ : ∃ n, n = xs.length := ⟨_, rfl⟩
  rw [← hn] at c0 hml
  have HN := Lib.hid hn
  clear h hn
  go_enter Try.func42, Try.ntmps42
  go_wp2_with fail
  go_loopg [5] n (fun gk iv wr => ∃ i : Nat, i + gk = n ∧ iv = .int .i64 i ∧ Hid (getL (L.take i) line = none) ∧ wr = w)
  case atStart => exact ⟨0, by omega, rfl, Lib.hid rfl, rfl⟩
  case round =>
    obtain ⟨i, hi, rfl, HL, rfl⟩ := hrel
    by_cases hlt : i < n
    · have hil : i < xs.length := by have := HN.out; omega
      obtain ⟨b, o, rfl, hlb, hc⟩ := H.out.inn.els.get i hil
      have x0 := hc 0 _ rfl
      simp only [Nat.add_zero] at x0
      have HX := Lib.hid (List.getElem?_eq_getElem hil)
      have HLX := Lib.hid (show L[i]? = some (xs[i].line, xs[i].ps) by rw [← H.out.vs]; unfold vsOf; rw [List.getElem?_map, HX.out]; rfl)
      clear hc
      generalize xs[i] = x at *
      obtain ⟨xl, xa, xc, xp⟩ := x
      simp only at x0 HLX
      have hk0 : (0 : Int) ≤ (i : Int) := by omega
      have hk1 : (i : Int) < (n : Int) := by omega
      by_cases he : xl = line
      · have HE := Lib.hid (show AtPost xs L line wr (.returned (.int .i64 i)) wr from ⟨rfl, .inl ⟨i, _, rfl, HX.out, he, getL_first HL.out HLX.out he⟩⟩)
        go_wp2_with fail
        go_ret
        exact HE.out
      · have HS := Lib.hid (show getL (L.take (i + 1)) line = none by rw [getL_step HL.out HLX.out, if_neg he])
        go_wp2_with fail
        go_roundg (gk - 1)
        case measure => omega
        case rel => exact ⟨i + 1, by omega, by go_num, HS, rfl⟩
    · have HE := Lib.hid (show AtPost xs L line wr (.returned (.int .i64 (-1))) wr from ⟨rfl, .inr ⟨rfl, by
        have h1 := HL.out
        rwa [List.take_of_length_le (by rw [← H.out.vs, vsOf_len]; have := HN.out; omega)] at h1⟩⟩)
      go_wp2_with fail
      go_ret
      exact HE.out
theorem refOf_any (a : Option Addr) (cap n : Nat) (b : Bh) (line : Int) (w : World) (h : Pts w a b) (hn : b.length = n) (hm : n ≤ maxLen) :
    Calls Try.prog (45) #[.slice a n cap, .int .u64 line] w fun e w' => e = .returned (.int .u64 (g0 b line)) ∧ w' = w := by
  have H := Lib.hid h
  have HN := Lib.hid hn
  unfold maxLen at hm
  clear h hn
  go_enter Try.func45, Try.ntmps45
  go_wp2_with fail
  go_loopg [5] n (fun gk iv wr => ∃ i : Nat, i + gk = n ∧ iv = .int .i64 i ∧ Hid (getL (b.take i) line = none) ∧ wr = w)
  case atStart => exact ⟨0, by omega, rfl, Lib.hid rfl, rfl⟩
  case round =>
    obtain ⟨i, hi, rfl, HL, rfl⟩ := hrel
    by_cases hlt : i < n
    · have hil : i < b.length := by have := HN.out; omega
      obtain ⟨b', o, rfl, hlb, hc⟩ := H.out.get i hil
      have x0 := hc 0 _ rfl
      have x1 := hc 1 _ rfl
      simp only [Nat.add_zero] at x0 x1
      have HX := Lib.hid (List.getElem?_eq_getElem hil)
      clear hc
      generalize b[i] = x at *
      obtain ⟨xl, xs⟩ := x
      simp only at x0 x1
      have hk0 : (0 : Int) ≤ (i : Int) := by omega
      have hk1 : (i : Int) < (n : Int) := by omega
      by_cases he : xl = line
      · have HE := Lib.hid (g0_of_some (getL_first HL.out HX.out he))
        go_wp2_with fail
        go_ret
        exact ⟨by rw [HE.out]; first | done | rfl, rfl⟩
      · have HS := Lib.hid (show getL (b.take (i + 1)) line = none by rw [getL_step HL.out HX.out, if_neg he])
        go_wp2_with fail
        go_roundg (gk - 1)
        case measure => omega
        case rel => exact ⟨i + 1, by omega, by go_num, HS, rfl⟩
    · have HE := Lib.hid (g0_of_none (show getL b line = none by
        have h1 := HL.out
        rwa [List.take_of_length_le (by have := HN.out; omega)] at h1))
      go_wp2_with fail
      go_ret
      exact ⟨by rw [HE.out]; first | done | rfl, rfl⟩
theorem refAbove_any (a : Option Addr) (cap n : Nat) (b : Bh) (s : Int) (w : World) (h : Pts w a b) (hn : b.length = n) (hm : n ≤ maxLen) :
    Calls Try.prog (43) #[.slice a n cap, .int .u64 s] w fun e w' => e = .returned (.bool (aboveB b s)) ∧ w' = w := by
  have H := Lib.hid h
  have HN := Lib.hid hn
  unfold maxLen at hm
  clear h hn
  go_enter Try.func43, Try.ntmps43
  go_wp2_with fail
  go_loopg [5] n (fun gk iv wr => ∃ i : Nat, i + gk = n ∧ iv = .int .i64 i ∧ Hid (∀ p ∈ b.take i, p.2 < s) ∧ wr = w)
  case atStart => exact ⟨0, by omega, rfl, Lib.hid (by simp), rfl⟩
  case round =>
    obtain ⟨i, hi, rfl, HL, rfl⟩ := hrel
    by_cases hlt : i < n
    · have hil : i < b.length := by have := HN.out; omega
      obtain ⟨b', o, rfl, hlb, hc⟩ := H.out.get i hil
      have x1 := hc 1 _ rfl
      have HX := Lib.hid (List.getElem_mem hil)
      have HT := Lib.hid (List.take_succ_eq_append_getElem hil)
      clear hc
      generalize b[i] = x at *
      obtain ⟨xl, xs⟩ := x
      simp only at x1
      have hk0 : (0 : Int) ≤ (i : Int) := by omega
      have hk1 : (i : Int) < (n : Int) := by omega
      by_cases he : xs < s
      · have HS := Lib.hid (show ∀ p ∈ b.take (i + 1), p.2 < s from fun p hp => by
          rw [HT.out] at hp
          rcases List.mem_append.1 hp with hp | hp
          · exact HL.out p hp
          · rw [List.mem_singleton.1 hp]; exact he)
        have he2 : ¬ s ≤ xs := by omega
        go_wp2_with fail
        go_roundg (gk - 1)
        case measure => omega
        case rel => exact ⟨i + 1, by omega, by go_num, HS, rfl⟩
      · have HE := Lib.hid (show aboveB b s = false from by
          rw [← Bool.not_eq_true, aboveB_iff]
          exact fun h => he (h.2 _ HX.out))
        have he2 : s ≤ xs := by omega
        go_wp2_with fail
        go_ret
        exact ⟨by rw [HE.out]; first | done | rfl, rfl⟩
    · have HE := Lib.hid (show aboveB b s = decide (0 < s) from by
        have h1 := HL.out
        rw [List.take_of_length_le (by have := HN.out; omega)] at h1
        by_cases h0 : 0 < s
        · rw [decide_eq_true h0, aboveB_iff]; exact ⟨h0, h1⟩
        · rw [decide_eq_false h0, ← Bool.not_eq_true, aboveB_iff]; exact fun h => h0 h.1)
      go_wp2_with fail
      go_ret
      exact ⟨by rw [HE.out]; first | done | rfl, rfl⟩
end Go.Proofs.Ytnnpheklgdbohaa
