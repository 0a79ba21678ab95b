/- ViewsAgain's walk. No condition. · Plain facts for ViewsLast. No condition. -/
import Derived.Test.YtenocakpipppiaaGreatDoorV6
import Derived.Deep.DrawnRows
namespace Go.Proofs.YtenocakpipppiaaGreatDoor
open Go.RowKit Go.Shelf Go.Herb
attribute [local go_sem ↓] Go.wp_at_zero Go.wp_at_succ

/-- There is a view. -/
theorem viewsOf_ex (al : Option Addr) (cl : Nat) (xs : List Fc) (ac : Option Addr) (cc : Nat) (cs : List Lk) (at_ : Int) (w : World) (hL : Facts w al xs) (hC : Links w ac cs) (hx : xs.length < 1000000) (hc : cs.length < 1000000) :
    Calls Tryz.prog 7 #[.slice al xs.length cl, .slice ac cs.length cc, .int .u64 at_] w fun e w' => ∃ (a : Option Addr) (ys : List Fc), e = .returned (.slice a ys.length ys.length) ∧ IsView xs cs at_ ys ∧ Facts w' a ys ∧ (a = none → ys = []) ∧ Below w.heap.size w w' :=
  (viewsOf_any al cl xs ac cc cs at_ w hL hC hx hc).mono fun _ _ ⟨a, ys, he, hp, hs, hF, hn, hB⟩ => ⟨a, ys, he, ⟨hp, hs⟩, hF, hn, hB⟩

theorem great_wide {n m : Nat} (h : 120 < n ∨ 40 < m) : (decide (120 < n) || decide (40 < m)) = true := by
  rcases h with h | h <;> simp [h]
theorem great_not {n m : Nat} (h : ¬ (120 < n ∨ 40 < m)) : (decide (120 < n) || decide (40 < m)) = false := by
  have h1 : ¬ 120 < n := fun h' => h (.inl h')
  have h2 : ¬ 40 < m := fun h' => h (.inr h')
  simp [h1, h2]

end Go.Proofs.YtenocakpipppiaaGreatDoor

namespace Go.Proofs.YtenocakpipppiaaGreatDoor
open Go.RowKit Go.Shelf Go.Herb

theorem lt_total_key (a b : ByteArray) (h1 : ¬ a.toList < b.toList) (h2 : ¬ a.toList = b.toList) : b.toList < a.toList := by
  rcases lt_total_bytes a.toList b.toList with h | h | h
  · exact absurd h h1
  · exact absurd h h2
  · exact h

/-- Two facts one behind the other in a view. -/
theorem IsView.step {xs : List Fc} {cs : List Lk} {at_ : Int} {ys : List Fc} (h : IsView xs cs at_ ys) (k : Nat) (hk : k + 1 < ys.length) :
    ¬ (ys[k + 1].key.toList < ys[k].key.toList) ∧ (ys[k].key.toList = ys[k + 1].key.toList → ys[k + 1].valid < ys[k].valid) := by
  have hs := List.pairwise_iff_getElem.1 h.sorted k (k + 1) (by omega) hk (by omega)
  have hd := h.spots
  have hne : spotOf ys[k] ≠ spotOf ys[k + 1] := by
    have := List.pairwise_iff_getElem.1 (show List.Pairwise (· ≠ ·) (ys.map spotOf) from hd) k (k + 1) (by simp; omega) (by simpa using hk) (by omega)
    simpa using this
  refine ⟨fun hlt => hs (.inl hlt), fun e => ?_⟩
  have h1 : ¬ ys[k].valid < ys[k + 1].valid := fun hlt => hs (.inr ⟨e.symm, .inl hlt⟩)
  have h2 : ys[k].valid ≠ ys[k + 1].valid := fun e2 => hne (Prod.ext (bytes_ext e) e2)
  omega

def hitB (x y : Fc) : Bool := y.key.toList == x.key.toList && y.valid == x.valid
theorem hitB_spot {x y : Fc} : hitB x y = true ↔ spotOf y = spotOf x := by
  unfold hitB
  rw [Bool.and_eq_true, beq_iff_eq, beq_iff_eq]
  constructor
  · rintro ⟨h1, h2⟩; exact Prod.ext (bytes_ext h1) h2
  · intro h; injection h with h1 h2; exact ⟨by rw [h1], h2⟩

theorem hits_one {ys : List Fc} (hd : (ys.map spotOf).Nodup) {x y : Fc} (hy : y ∈ ys) (he : spotOf y = spotOf x) : (ys.filter (hitB x)).length = 1 := by
  induction ys with
  | nil => simp at hy
  | cons z ys ih =>
    obtain ⟨h1, h2⟩ := List.nodup_cons.1 (List.map_cons ▸ hd : (spotOf z :: ys.map spotOf).Nodup)
    by_cases hz : hitB x z = true
    · have hno : ys.filter (hitB x) = [] := by
        rw [List.filter_eq_nil_iff]
        intro u hu hh
        exact h1 (List.mem_map.2 ⟨u, hu, by rw [hitB_spot.1 hh, hitB_spot.1 hz]⟩)
      simp [hz, hno]
    · rw [List.filter_cons_of_neg hz]
      rcases List.mem_cons.1 hy with rfl | hy
      · exact absurd (hitB_spot.2 he) hz
      · exact ih h2 hy

theorem fc_ext {x y : Fc} (h0 : x.key.toList = y.key.toList) (h1 : x.valid = y.valid) (h2 : x.seq = y.seq) (h3 : x.line = y.line) (h4 : x.kind = y.kind) (h5 : x.val.toList = y.val.toList) : x = y := by
  obtain ⟨a0, a1, a2, a3, a4, a5, _, _, _, _, _⟩ := x
  obtain ⟨b0, b1, b2, b3, b4, b5, _, _, _, _, _⟩ := y
  simp only at h0 h1 h2 h3 h4 h5
  have := bytes_ext h0
  have := bytes_ext h5
  subst_vars
  rfl

def sameF (x y : Fc) : Bool := x.key.toList == y.key.toList && x.valid == y.valid && x.seq == y.seq && x.line == y.line && x.kind == y.kind && x.val.toList == y.val.toList
theorem sameF_iff {x y : Fc} : sameF x y = true ↔ x = y := by
  unfold sameF
  simp only [Bool.and_eq_true, beq_iff_eq]
  constructor
  · rintro ⟨⟨⟨⟨⟨h0, h1⟩, h2⟩, h3⟩, h4⟩, h5⟩; exact fc_ext h0 h1 h2 h3 h4 h5
  · rintro rfl; simp

theorem run_eqlF (x y : Fc) (w : World) : (binOp .eql 50 (.agg #[.string x.key, .int .u32 x.valid, .int .u64 x.seq, .int .u64 x.line, .int .u8 x.kind, .string x.val]) (.agg #[.string y.key, .int .u32 y.valid, .int .u64 y.seq, .int .u64 y.line, .int .u8 y.kind, .string y.val])).run Tryz.prog w = .ok (.bool (sameF x y)) w := by
  have h := run_eqF x y w
  have : (binOp .eql 50 (fv x) (fv y)).run Tryz.prog w = .ok (.bool (sameF x y)) w := by
    rw [run_eql_struct, h]; rfl
  exact this
end Go.Proofs.YtenocakpipppiaaGreatDoor
