/- lines.parts.line. Condition: fewer than 1000000 lines, sorted. -/
import Derived.Test.YtacibennmcegfaaDoorLN2
namespace Go.Herb
theorem parL_none_of {l : List Ln} {k : Int} (h : ∀ x ∈ l, x.1 ≠ k) : parL l k = none := by
  unfold parL
  rw [Option.map_eq_none_iff, List.find?_eq_none]
  intro x hx
  simpa using h x hx
end Go.Herb
namespace Go.Proofs.YtacibennmcegfaaDoor
open Go.RowKit Go.Herb

/-- A tree's parts, as a value. -/
abbrev partsV (ba : Option Addr) (bn bc : Nat) (la : Option Addr) (ln lc : Nat) : Value := .agg #[.slice ba bn bc, .slice la ln lc]
/-- Where a line stands; below 0: nowhere. -/
def LineAt (xs : List Ln) (k : Int) (r : Int) : Prop := (∃ (i : Nat) (p : Int), r = i ∧ xs[i]? = some (k, p) ∧ parL xs k = some p) ∨ (r = -1 ∧ parL xs k = none)
def LinePost (xs : List Ln) (k : Int) (w : World) (e : Ending) (w' : World) : Prop := ∃ r : Int, e = .returned (.int .i64 r) ∧ LineAt xs k r ∧ Below w.heap.size w w'
theorem line_any (ba : Option Addr) (bn bc : Nat) (la : Option Addr) (lc n : Nat) (xs : List Ln) (k : Int) (w : World) (hE : Lns w la xs) (hn : xs.length = n) (hm : n < 1000000) (hs : SrtL xs) :
    Calls Tryd.prog (41) #[partsV ba bn bc la n lc, .int .u64 k] w (LinePost xs k w) := by
  obtain ⟨W, hW⟩ : ∃ W : World, W = w.alloc (.cells #[.slice ba bn bc, .slice la n lc] (59)) := ⟨_, rfl⟩
  have hB : Below w.heap.size w W := by rw [hW]; exact (Below.refl _ _).alloc (Nat.le_refl _) _
  have HB := Lib.hid hB
  have HS := Lib.hid hs
  have HBS := Lib.hid (bsL_any la lc n xs k W (hE.ext hB) hn hm hs)
  rw [hW] at HBS
  clear hB hE hn hs
  go_enter Tryd.func41, Tryd.ntmps41
  go_wp2_with fail
  refine (HBS.out).mono ?_
  rw [← hW]
  rintro e w1 ⟨i, b, rfl, hi, hlo, hhi, hb, hB1⟩
  have HB1 := Lib.hid (HB.out.trans (hB1.mono HB.out.size))
  cases b with
  | true =>
    obtain ⟨p, hp⟩ := hb.1 rfl
    have HE := Lib.hid (show LinePost xs k w (.returned (.int .i64 (i : Int))) w1 from ⟨i, rfl, .inl ⟨i, p, rfl, hp, parL_at HS.out (x := (k, p)) hp⟩, HB1.out⟩)
    clear hlo hhi hb hB1 hp hW HBS
    go_wp2_with fail
    go_ret
    exact HE.out
  | false =>
    have hno : parL xs k = none := parL_none_of (fun x hx e => by
      obtain ⟨j, hj, he⟩ := List.getElem_of_mem hx
      have hx' : xs[j]? = some x := by rw [List.getElem?_eq_getElem hj, he]
      rcases Nat.lt_trichotomy j i with h | h | h
      · have := hlo j x h hx'; omega
      · subst h
        have := hb.2 ⟨x.2, by rw [hx', ← e]⟩
        cases this
      · have hi2 : i < xs.length := by omega
        have h1 := hhi i _ (Nat.le_refl _) (List.getElem?_eq_getElem hi2)
        have h2 := List.pairwise_iff_getElem.1 HS.out i j hi2 hj h
        rw [he] at h2
        omega)
    have HE := Lib.hid (show LinePost xs k w (.returned (.int .i64 (-1))) w1 from ⟨-1, rfl, .inr ⟨rfl, hno⟩, HB1.out⟩)
    clear hlo hhi hb hB1 hW HBS hno
    go_wp2_with fail
    go_ret
    exact HE.out
end Go.Proofs.YtacibennmcegfaaDoor
