/- lines: what is asked of a tree that is not there. No condition. -/
import Derived.Test.YtacibennmcegfaaDoorLPB
namespace Go.Proofs.YtacibennmcegfaaDoor
open Go.RowKit Go.Shelf Go.Herb

/-- A tree that is not there, from a world on. -/
def NotThere (v : Value) (X : World) : Prop := ∀ u, Below X.heap.size X u → Calls Tryd.prog (27) #[v] u fun e w' => e = .returned (.bool false) ∧ u = w'
theorem NotThere.ext {v : Value} {X u : World} (h : NotThere v X) (hu : Below X.heap.size X u) : NotThere v u := fun u' hu' => h u' (hu.trans (hu'.mono hu.size))
theorem NotThere.here {v : Value} {X : World} (h : NotThere v X) : Calls Tryd.prog (27) #[v] X fun e w' => e = .returned (.bool false) ∧ X = w' := h X (Below.refl _ _)
theorem notThere_nil (X : World) : NotThere (.pointer none) X := fun u _ => there_nil u
theorem notThere_raw {x y : Value} (p : Nat) (X : World) (h : X.heap[p]? = some (.cells #[x, y, .int .i64 0] (61) (0, 0))) : NotThere (.pointer (some ⟨p, 0, none⟩)) X := fun u hu => there_raw p u (blk_below h hu (lt_of_blk h))

theorem fork_none {v : Value} (a b : ByteArray) (n : Int) (w : World) (h : NotThere v w) : Calls Tryd.prog (16) #[v, .string a, .string b, .int .u64 n] w fun e w' => e = .returned (.tuple #[.pointer none, .int .i64 2]) ∧ w = w' := by
  have H := Lib.hid h.here
  clear h
  go_enter Tryd.func16, Tryd.ntmps16
  go_wp2_with (go_at_call 27; refine H.out.mono ?_; rintro e w' ⟨rfl, rfl⟩)
  go_ret2
  exact ⟨rfl, rfl⟩
theorem prune_none {v : Value} (d : Value) (w : World) (h : NotThere v w) : Calls Tryd.prog (20) #[v, d] w fun e w' => e = .returned (.tuple #[.pointer none, .int .i64 2]) ∧ w = w' := by
  have H := Lib.hid h.here
  clear h
  go_enter Tryd.func20, Tryd.ntmps20
  go_wp2_with (go_at_call 27; refine H.out.mono ?_; rintro e w' ⟨rfl, rfl⟩)
  go_ret2
  exact ⟨rfl, rfl⟩
theorem found_none {v : Value} (a : ByteArray) (w : World) (h : NotThere v w) : Calls Tryd.prog (38) #[v, .string a] w fun e w' => e = .returned (.tuple #[.int .i64 0, .int .i64 2]) ∧ w = w' := by
  have H := Lib.hid h.here
  clear h
  go_enter Tryd.func38, Tryd.ntmps38
  go_wp2_with (go_at_call 27; refine H.out.mono ?_; rintro e w' ⟨rfl, rfl⟩)
  go_ret2
  exact ⟨rfl, rfl⟩
theorem drop_none {v : Value} (a : ByteArray) (w : World) (h : NotThere v w) : Calls Tryd.prog (18) #[v, .string a] w fun e w' => e = .returned (.tuple #[.pointer none, .int .i64 2]) ∧ w = w' := by
  have H := Lib.hid (found_none a w h)
  clear h
  go_enter Tryd.func18, Tryd.ntmps18
  go_wp2_with (go_at_call 38; refine H.out.mono ?_; rintro e w' ⟨rfl, rfl⟩)
  go_ret2
  exact ⟨rfl, rfl⟩
theorem trim_none {v : Value} (a : ByteArray) (n : Int) (w : World) (h : NotThere v w) : Calls Tryd.prog (21) #[v, .string a, .int .u64 n] w fun e w' => e = .returned (.tuple #[.pointer none, .int .i64 2]) ∧ w = w' := by
  have H := Lib.hid (found_none a w h)
  clear h
  go_enter Tryd.func21, Tryd.ntmps21
  go_wp2_with (go_at_call 38; refine H.out.mono ?_; rintro e w' ⟨rfl, rfl⟩)
  go_ret2
  exact ⟨rfl, rfl⟩
theorem findN_none {v : Value} (a : ByteArray) (w : World) (h : NotThere v w) : Calls Tryd.prog (17) #[v, .string a] w fun e w' => e = .returned (.tuple #[brV (⟨#[]⟩, 0, 0), .int .i64 2]) ∧ Below w.heap.size w w' :=
  find_none a w (fun u hu => found_none a u (h.ext hu))
theorem chainN_none {v : Value} (n : Int) (w : World) (h : NotThere v w) : Calls Tryd.prog (11) #[v, .int .u64 n] w fun e w' => e = .returned (.slice none 0 0) ∧ Below w.heap.size w w' := by
  have H := Lib.hid (h.ext ((Below.refl _ _).alloc (Nat.le_refl _) (.cells #[.slice none 0 0] (32)))).here
  clear h
  go_enter Tryd.func11, Tryd.ntmps11
  go_wp2_with (go_at_call 27; refine H.out.mono ?_; rintro e w' ⟨rfl, rfl⟩)
  (try simp only [Exit.inBlock, Exit.then])
  refine bodyPost_ret (v := .slice none 0 0) (by simp [results, Tryd.results11, go_sem, *]) rfl ?_
  exact ⟨rfl, by first | exact balc (Below.refl _ _) | exact (balc (Below.refl _ _)).setCell (Nat.le_refl _) _⟩
end Go.Proofs.YtacibennmcegfaaDoor
