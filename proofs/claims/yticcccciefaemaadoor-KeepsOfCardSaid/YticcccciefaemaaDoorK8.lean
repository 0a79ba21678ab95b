/- views.sorted and views.Of. Condition: fewer than 1000000 facts. -/
import Derived.Test.YticcccciefaemaaDoorK7
import Derived.Laws.OwnMore
import Derived.Lib.AppendZeros
namespace Go.Proofs.YticcccciefaemaaDoor
open Go.RowKit Go.Shelf Go.Herb

theorem Tryd.info41 : (Tryd.prog.info? 41).map (fun i => (i.zero, i.size, i.bytes)) = some (some (.agg #[.string .empty, .int .u32 0, .int .u64 0, .int .u64 0, .int .u8 0, .string .empty]), 6, 64) := by kernel_rfl

theorem clipF_any (a : Option Addr) (cap n : Nat) (w : World) (hn : a = none → n = 0 ∧ cap = 0) (hl : n < 1000000) (hle : n ≤ cap) (hm : cap ≤ maxLen) :
    Calls Tryd.prog 17 #[.slice a n cap] w fun e w' => e = .returned (.slice a n n) ∧ w = w' := by
  cases a with
  | none =>
    obtain ⟨rfl, rfl⟩ := hn rfl
    clear hn
    go_enter Tryd.func17, Tryd.ntmps17
    go_wp2
    go_ret
    exact ⟨rfl, rfl⟩
  | some ad =>
    clear hn
    unfold maxLen at hm
    go_enter Tryd.func17, Tryd.ntmps17
    go_wp2
    go_ret
    exact ⟨rfl, rfl⟩

/-- Facts that a call owns. -/
def OwnF (B : Nat) (w : World) (v : Value) (xs : List Fc) : Prop := w.ownsRow B 41 6 v xs.length (xs.flatMap fc)

theorem fc_flat_one (xs : List Fc) : ∀ v ∈ xs.flatMap fc, v.oneCell' = true := by
  intro v hv
  obtain ⟨x, _, hx⟩ := List.mem_flatMap.1 hv
  exact fc_one x v hx

theorem els_of_one {w : World} {vb : Nat} {x : Fc} (hb : w.heap[vb]? = some (.cells (fc x).toArray 41 (0, 0))) : Facts w (some ⟨vb, 0, none⟩) [x] := by
  refine ⟨fun i hi => ⟨vb, 0, rfl, lt_of_blk hb, fun j c hj => ?_⟩⟩
  have : i = 0 := by simpa using hi
  subst this
  rw [cell_of_blk hb]
  simpa using hj

theorem run_append_facts (w : World) (B : Nat) (v : Value) (xs : List Fc) (ab : Option Addr) (cb : Nat) (bs : List Fc) (ho : OwnF B w v xs) (hT : Facts w ab bs) (hx : xs.length < 1000000) (hb : bs.length < 1000000) (hn : ab = none → cb = 0) (hB : B ≤ w.heap.size) (ty : TypeId) :
    ∃ v' w', (Builtin.append_ #[22, 22] ty #[v, .slice ab bs.length cb]).run Tryd.prog w = .ok v' w' ∧ OwnF B w' v' (xs ++ bs) ∧ w.grownBy w' v.ownBlock := by
  obtain ⟨i0, hin, hz0, hz1, hz2⟩ := info_parts Tryd.info41
  cases ab with
  | none =>
    have h0 : bs = [] := by
      cases bs with
      | nil => rfl
      | cons x xs => obtain ⟨b, o, h, _⟩ := hT.get 0 (by simp); cases h
    subst h0
    rw [hn rfl]
    obtain ⟨av, cv, rfl, hle, -⟩ := els_of_owns fc_len ho
    have := run_append_owned_none (P := Tryd.prog) w B 22 ty 41 i0 6 Tryd.underlying22 hin _ _ _ ho
    exact ⟨_, w, this, by simpa using ho, grown_refl _ _⟩
  | some ad =>
    obtain ⟨v', w', hr, h2, h3, h4⟩ := run_append_own (P := Tryd.prog) w B 22 ty 41 i0 _ 6 64 Tryd.underlying22 hin hz0 hz1 hz2 rfl (by decide) v xs.length (xs.flatMap fc) ho ad bs.length cb (bs.flatMap fc) (flatMap_len fc_len _) (hT.flat fc_len (by decide)) (fc_flat_one _) (by unfold maxLen; omega) (by omega) hB
    refine ⟨v', w', hr, ?_, h3⟩
    unfold OwnF
    rw [List.length_append, List.flatMap_append]
    exact h2

theorem OwnF.below {B : Nat} {w w' : World} {v : Value} {ts : List Fc} (h : OwnF B w v ts) (hb : Below w.heap.size w w') : OwnF B w' v ts := ownsRow_below h hb (Nat.le_refl _)

def SortedPost (zs : List Fc) (w : World) (e : Ending) (w' : World) : Prop :=
  ∃ (a : Option Addr) (ys : List Fc), e = .returned (.slice a ys.length ys.length) ∧ ys.Perm zs ∧ ys.Pairwise (fun x y => ¬ LtF y x) ∧ Facts w' a ys ∧ (a = none → ys = []) ∧ Below w.heap.size w w'

/-- The facts that are seen. -/
abbrev seenL (xs : List Fc) (cs : List Lk) (at_ : Int) : List Fc := xs.filter (seenB (uptoM (backs cs cs.length)) at_)
/-- The last of each key and time. -/
abbrev lastL (xs : List Fc) : List Fc := (lastM xs).map (·.2)

end Go.Proofs.YticcccciefaemaaDoor
