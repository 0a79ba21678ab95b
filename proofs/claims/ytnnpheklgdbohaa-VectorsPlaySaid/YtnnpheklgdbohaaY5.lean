/- ref16: First. No condition. -/
import Derived.Test.YtnnpheklgdbohaaY4
namespace Go.Proofs.Ytnnpheklgdbohaa
open Go.RowKit Go.Shelf Go.Herb

/-- The reference's answer: vectors, made by the call. -/
def RefNew (L : Vs) (w : World) (v : Value) (w' : World) : Prop := ∃ p la lc xs, v = .pointer (some ⟨p, 0, none⟩) ∧ RefIs w' p la lc xs L ∧ Below w.heap.size w w'
theorem refFirst_any (w : World) : Calls Try.prog (21) #[] w fun e w' => ∃ v, e = .returned v ∧ RefNew [(0, [])] w v w' := by
  obtain ⟨X, hX⟩ : ∃ X : World, X = w.alloc (.cells (([⟨0, none, 0, []⟩] : List Vc).flatMap vc).toArray (32)) := ⟨_, rfl⟩
  have hXb : Below w.heap.size w X := by rw [hX]; exact (Below.refl _ _).alloc (Nat.le_refl _) _
  have hR : Row vc 2 (32) X w.heap.size 1 ([⟨0, none, 0, []⟩] : List Vc) := row_lit (xs := [⟨0, none, 0, []⟩]) vc_len (by rw [hX]; exact blk_new_at rfl _) (by decide)
  have hXs : X.heap.size = w.heap.size + 1 := by rw [hX]; simp
  obtain ⟨Z, hZ⟩ : ∃ Z : World, Z = X.alloc (.cells #[.slice (some ⟨w.heap.size, 0, none⟩) 1 1] (57)) := ⟨_, rfl⟩
  have hZb : Below X.heap.size X Z := by rw [hZ]; exact (Below.refl _ _).alloc (Nat.le_refl _) _
  have hZx : Z.heap[X.heap.size]? = some (.cells #[.slice (some ⟨w.heap.size, 0, none⟩) 1 1] (57) (0, 0)) := by rw [hZ]; exact blk_new_at rfl _
  have HE := Lib.hid (show RefNew [(0, [])] w (.pointer (some ⟨w.heap.size + 1, 0, none⟩)) Z from ⟨w.heap.size + 1, some ⟨w.heap.size, 0, none⟩, 1, [⟨0, none, 0, []⟩], rfl, ⟨by rw [← hXs]; exact hZx, ⟨(hR.els vc_len).ext hZb, fun x hx => by rw [List.mem_singleton.1 hx]; exact Els.nil _ _ _ _, fun x hx => by rw [List.mem_singleton.1 hx]; exact ⟨rfl, by simp⟩, by decide, fun x hx => by rw [List.mem_singleton.1 hx]; decide⟩, rfl⟩, hXb.trans (hZb.mono hXb.size)⟩)
  have hZ' : Z = (w.alloc (.cells #[.int .u64 0, .slice none 0 0] (32))).alloc (.cells #[.slice (some ⟨w.heap.size, 0, none⟩) 1 1] (57)) := by rw [hZ, hX]; rfl
  clear hX hXb hR hXs hZ hZb hZx
  go_enter Try.func21, Try.ntmps21
  go_wp2_with fail
  rw [← hZ']
  go_ret
  exact ⟨_, rfl, HE.out⟩
end Go.Proofs.Ytnnpheklgdbohaa
