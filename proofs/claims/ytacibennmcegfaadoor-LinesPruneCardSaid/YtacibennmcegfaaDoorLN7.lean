/- lines.isName. Condition: none but a string's length that an int holds. -/
import Derived.Test.YtacibennmcegfaaDoorLN6
import Derived.Test.YtacibennmcegfaaDoorLNt
namespace Go.Herb
open Go
/-- The letters of a name. -/
def lettersL : List UInt8 := [97, 98, 99, 100, 101, 102, 103, 104, 105, 106, 107, 108, 109, 110, 111, 112, 113, 114, 115, 116, 117, 118, 119, 120, 121, 122, 48, 49, 50, 51, 52, 53, 54, 55, 56, 57]
/-- What may be a branch's name. -/
def nameB (s : ByteArray) : Bool := !s.toList.isEmpty && decide (s.size ≤ 12) && (Lib.trimS s.data.toList lettersL).isEmpty
theorem nameB_x : nameB ⟨#[120]⟩ = true := by unfold nameB; rw [ByteArray.toList_eq]; decide
end Go.Herb
namespace Go.Proofs.YtacibennmcegfaaDoor
open Go.RowKit Go.Herb Go.Lib

theorem trim_any (s : ByteArray) (w : World) (hs : s.size ≤ 9223372036854775807) :
    Calls Tryd.prog 47 #[.string s, .string { data := #[97, 98, 99, 100, 101, 102, 103, 104, 105, 106, 107, 108, 109, 110, 111, 112, 113, 114, 115, 116, 117, 118, 119, 120, 121, 122, 48, 49, 50, 51, 52, 53, 54, 55, 56, 57] }] w fun e w' => ∃ r : ByteArray, e = .returned (.string r) ∧ r.toList.isEmpty = (Lib.trimS s.data.toList lettersL).isEmpty ∧ Below w.heap.size w w' := by
  have hcon := Any.strings_Trim_laid Tryd.lays160 (by kernel_rfl) s ⟨#[97, 98, 99, 100, 101, 102, 103, 104, 105, 106, 107, 108, 109, 110, 111, 112, 113, 114, 115, 116, 117, 118, 119, 120, 121, 122, 48, 49, 50, 51, 52, 53, 54, 55, 56, 57]⟩ w hs (by decide) (ascii_of_all (by decide))
  refine Calls.mono hcon ?_
  rintro e w' ⟨rfl, hB⟩
  exact ⟨_, rfl, by rw [ByteArray.toList_eq]; rfl, hB⟩
set_option maxRecDepth 100000 in
theorem isName_any (s : ByteArray) (w : World) (hs : s.size ≤ 9223372036854775807) :
    Calls Tryd.prog (36) #[.string s] w fun e w' => e = .returned (.bool (nameB s)) ∧ Below w.heap.size w w' := by
  unfold nameB
  have HT := Lib.hid (trim_any s w hs)
  obtain ⟨em, hem⟩ : ∃ em, em = s.toList.isEmpty := ⟨_, rfl⟩
  obtain ⟨tr, htr⟩ : ∃ tr, tr = (Lib.trimS s.data.toList lettersL).isEmpty := ⟨_, rfl⟩
  rw [← hem, ← htr]
  rw [← htr] at HT
  have hle : ((s.size : Int) ≤ 12) ↔ s.size ≤ 12 := by omega
  by_cases h1 : s.size ≤ 12
  · have h2 : (s.size : Int) ≤ 12 := by omega
    cases em with
    | true =>
      have he := hem.symm
      clear hem htr hle
      go_enter Tryd.func36, Tryd.ntmps36
      go_wp2_with fail
      go_ret
      exact ⟨by simp, Below.refl _ _⟩
    | false =>
      have he := hem.symm
      clear hem htr hle
      go_enter Tryd.func36, Tryd.ntmps36
      go_wp2_with (go_at_call 47; refine HT.out.mono ?_; rintro e w' ⟨r, rfl, hr, hB⟩)
      go_ret
      exact ⟨by simp [h1], hB⟩
  · have h2 : ¬ (s.size : Int) ≤ 12 := by omega
    cases em with
    | true =>
      have he := hem.symm
      clear hem htr hle
      go_enter Tryd.func36, Tryd.ntmps36
      go_wp2_with fail
      go_ret
      exact ⟨by simp, Below.refl _ _⟩
    | false =>
      have he := hem.symm
      clear hem htr hle
      go_enter Tryd.func36, Tryd.ntmps36
      go_wp2_with fail
      go_ret
      exact ⟨by simp, Below.refl _ _⟩
end Go.Proofs.YtacibennmcegfaaDoor
