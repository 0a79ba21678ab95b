/- Contracts of keeps.watching and of what it makes: who sees a span of commits. No condition. -/
import Derived.Test.YticcccciefaemaaDoorQA
import Derived.Outline
namespace Go.Proofs.YticcccciefaemaaDoor
open Go.RowKit Go.Shelf Go.Herb

def whoV (on : Bool) (at_ : Int) : Value := if on then .iface (87) (.agg #[.int .u64 at_]) else .iface (89) (.agg #[.int .u64 at_])

theorem watching_any (v : Value) (at_ : Int) (on : Bool) (w : World) : Calls Tryd.prog (32) #[.agg #[v, .int .u64 at_, .bool on]] w fun e w' => e = .returned (whoV on at_) ∧ Below w.heap.size w w' := by
  cases on
  · go_enter Tryd.func32, Tryd.ntmps32
    go_wp2
    go_ret
    exact ⟨rfl, by go_grown⟩
  · go_enter Tryd.func32, Tryd.ntmps32
    go_wp2
    go_ret
    exact ⟨rfl, by go_grown⟩

def seesB (on : Bool) (at_ frm next : Int) (last : Bool) : Bool := (on || decide (frm ≤ at_)) && (last || decide (at_ < next))

theorem goingSees_any (at_ frm next : Int) (last : Bool) (w : World) : Calls Tryd.prog (76) #[.agg #[.int .u64 at_], .agg #[.int .u64 frm, .int .u64 next, .bool last]] w fun e w' => e = .returned (.bool (seesB true at_ frm next last)) ∧ Below w.heap.size w w' := by
  cases last
  · by_cases h : at_ < next
    · have hd : decide (at_ < next) = true := decide_eq_true h
      have hb : seesB true at_ frm next false = true := by simp [seesB, h]
      rw [hb]
      clear h hb
      go_enter Tryd.func76, Tryd.ntmps76
      go_wp2
      go_ret
      exact ⟨rfl, by go_grown⟩
    · have hd : decide (at_ < next) = false := decide_eq_false h
      have hb : seesB true at_ frm next false = false := by simp [seesB, h]
      rw [hb]
      clear h hb
      go_enter Tryd.func76, Tryd.ntmps76
      go_wp2
      go_ret
      exact ⟨rfl, by go_grown⟩
  · have hb : seesB true at_ frm next true = true := by simp [seesB]
    rw [hb]
    clear hb
    go_enter Tryd.func76, Tryd.ntmps76
    go_wp2
    go_ret
    exact ⟨rfl, by go_grown⟩

theorem stillSees_any (at_ frm next : Int) (last : Bool) (w : World) : Calls Tryd.prog (77) #[.agg #[.int .u64 at_], .agg #[.int .u64 frm, .int .u64 next, .bool last]] w fun e w' => e = .returned (.bool (seesB false at_ frm next last)) ∧ Below w.heap.size w w' := by
  by_cases h0 : frm ≤ at_
  · have hd0 : decide (frm ≤ at_) = true := decide_eq_true h0
    cases last
    · by_cases h : at_ < next
      · have hd : decide (at_ < next) = true := decide_eq_true h
        have hb : seesB false at_ frm next false = true := by simp [seesB, h, h0]
        rw [hb]
        clear h hb h0
        go_enter Tryd.func77, Tryd.ntmps77
        go_wp2
        go_ret
        exact ⟨rfl, by go_grown⟩
      · have hd : decide (at_ < next) = false := decide_eq_false h
        have hb : seesB false at_ frm next false = false := by simp [seesB, h]
        rw [hb]
        clear h hb h0
        go_enter Tryd.func77, Tryd.ntmps77
        go_wp2
        go_ret
        exact ⟨rfl, by go_grown⟩
    · have hb : seesB false at_ frm next true = true := by simp [seesB, h0]
      rw [hb]
      clear hb h0
      go_enter Tryd.func77, Tryd.ntmps77
      go_wp2
      go_ret
      exact ⟨rfl, by go_grown⟩
  · have hd0 : decide (frm ≤ at_) = false := decide_eq_false h0
    have hb : seesB false at_ frm next last = false := by simp [seesB, h0]
    rw [hb]
    clear hb h0
    go_enter Tryd.func77, Tryd.ntmps77
    go_wp2
    go_ret
    exact ⟨rfl, by go_grown⟩
end Go.Proofs.YticcccciefaemaaDoor
