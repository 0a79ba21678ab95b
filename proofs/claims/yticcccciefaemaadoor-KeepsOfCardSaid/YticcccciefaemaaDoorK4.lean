/- views.last: of each key and time the last fact. Condition: fewer than 1000000 facts. -/
import Derived.Test.YticcccciefaemaaDoorK3
namespace Go.Proofs.YticcccciefaemaaDoor
open Go.RowKit Go.Shelf Go.Herb
attribute [local go_sem] Oper.semAt_some

/-- A key, and a time. -/
abbrev Spot := ByteArray × Int
abbrev eS (s : Spot) : Value := .agg #[.string s.1, .int .u32 s.2]
theorem eS_inj : ∀ a a' : Spot, eS a = eS a' → a = a' := fun a a' h => by
  injection h with h
  injection h with h
  injection h with h1 h2
  injection h1 with h1
  injection h2 with h2 _
  injection h2 with _ h2
  exact Prod.ext h1 h2

theorem laidOut : laidOutB Tryd.prog = true := by kernel_rfl
theorem cells9 : Tryd.prog.cellsOf 9 = 1 := by kernel_rfl
theorem cells36 : Tryd.prog.cellsOf 38 = 1 := by kernel_rfl
theorem zero39 (w : World) : (zeroValue 41).run Tryd.prog w = .ok (.agg #[.string .empty, .int .u32 0, .int .u64 0, .int .u64 0, .int .u8 0, .string .empty]) w := by kernel_rfl

abbrev spotOf (x : Fc) : Spot := (x.key, x.valid)

/-- One fact more. -/
def lastStep (m : List (Spot × Fc)) (x : Fc) : List (Spot × Fc) :=
  match getL m (spotOf x) with
  | none => putL m (spotOf x) x
  | some y => if y.seq < x.seq then putL m (spotOf x) x else m
def lastM (xs : List Fc) : List (Spot × Fc) := xs.foldl lastStep []
theorem lastM_snoc (xs : List Fc) (x : Fc) : lastM (xs ++ [x]) = lastStep (lastM xs) x := by simp [lastM]
theorem lastStep_len (m : List (Spot × Fc)) (x : Fc) : (lastStep m x).length ≤ m.length + 1 := by
  unfold lastStep
  have := putL_length m (spotOf x) x
  split
  · exact this
  · split
    · exact this
    · omega
theorem lastM_len (xs : List Fc) : (lastM xs).length ≤ xs.length := by
  suffices h : ∀ (m : List (Spot × Fc)), (xs.foldl lastStep m).length ≤ m.length + xs.length by
    have := h []; simpa [lastM] using this
  induction xs with
  | nil => intro m; simp
  | cons p ps ih => intro m; have := ih (lastStep m p); have h2 := lastStep_len m p; simp only [List.foldl_cons, List.length_cons]; omega

/-- How a round of views.last leaves the world. -/
theorem last_two {B n₀ N0 : Nat} {w W : World} (o1 o2 : Obj) (hn₀ : n₀ ≤ w.heap.size) (hBi : Below w.heap.size w W) (hWs : N0 ≤ W.heap.size) {cs : Array Value} {t : TypeId} (i1 : W.heap[w.heap.size + 1]? = some (.cells cs t (0, 0))) :
    KeepsFrom B W ((W.alloc o1).alloc o2) ∧ Below n₀ W ((W.alloc o1).alloc o2) ∧ ((W.alloc o1).alloc o2).heap[w.heap.size + 1]? = some (.cells cs t (0, 0)) ∧ Below w.heap.size w ((W.alloc o1).alloc o2) ∧ N0 ≤ ((W.alloc o1).alloc o2).heap.size := by
  have := hBi.size
  exact ⟨((KeepsOthers.alloc _ _).trans (KeepsOthers.alloc _ _)).from _, ((Below.refl _ W).alloc (by omega) _).alloc (by simp; omega) _, blk_alloc (blk_alloc i1), (hBi.alloc hBi.size _).alloc (by simp; omega) _, by simp; omega⟩

theorem last_put {B n₀ N0 : Nat} {w W w1 : World} (hb : w.heap.size < B) (hn₀ : n₀ ≤ w.heap.size) {cs : Array Value} {t : TypeId} {W1 : World} (h : KeepsFrom B W W1 ∧ Below n₀ W W1 ∧ W1.heap[w.heap.size + 1]? = some (.cells cs t (0, 0)) ∧ Below w.heap.size w W1 ∧ N0 ≤ W1.heap.size) (hg : W1.grownBy w1 (some w.heap.size)) :
    KeepsFrom B W w1 ∧ Below n₀ W w1 ∧ w1.heap[w.heap.size + 1]? = some (.cells cs t (0, 0)) ∧ Below w.heap.size w w1 ∧ N0 ≤ w1.heap.size := by
  obtain ⟨h1, h2, h3, h4, h5⟩ := h
  have := h4.size
  exact ⟨h1.trans (KeepsFrom.of_grownBy hg (fun j e => by cases e; exact hb)), h2.grown hg (by omega) (fun k e => by cases e; exact hn₀), (hg.block _ (lt_of_blk h3) (fun e => by injection e with e; omega)).trans h3, h4.grown hg h4.size (fun k e => by cases e; exact Nat.le_refl _), Nat.le_trans h5 hg.size⟩

end Go.Proofs.YticcccciefaemaaDoor
