/- A plain law on append at tables of the call's own: the row that it leaves lies in the old block or in a new one. Condition: fewer than 1000000 tables. -/
import Derived.Test.YthdjokcjajlnnaaA4
import Derived.Laws.OwnMore
namespace Go.Proofs.Ythdjokcjajlnnaa
open Go.RowKit Go.Herb

theorem append_block (w : World) (B : Nat) (v : Value) (xs : List T) (ad : Addr) (cb : Nat) (bs : List T) (ho : w.ownsRow B 45 4 v xs.length (xs.flatMap tc)) (hT : Tabs w (some ad) bs) (hx : xs.length < 1000000) (hb : bs.length < 1000000) (h0 : bs ≠ []) (ty : TypeId) (v' : Value) (w' : World)
    (hr : (Builtin.append_ #[23, 23] ty #[v, .slice (some ad) bs.length cb]).run Try.prog w = .ok v' w') : v'.ownBlock = v.ownBlock ∨ v'.ownBlock = some w.heap.size := by
  obtain ⟨i0, hin, hz0, hz1, hz2⟩ := info_parts Try.info45
  have hm : 0 < bs.length := List.length_pos_iff.2 h0
  have hsrc : Src Try.prog i0.size 23 (.slice (some ad) bs.length cb) bs.length (bs.flatMap tc) w := by
    rw [hz1]
    exact Src.ofSlice w Try.underlying23 ad bs.length cb _ (flatMap_len tc_len _) (hT.flat tc_len (by decide)) (tc_flat_one _)
  rcases row_of_owns ho with ⟨rfl, rfl⟩ | ⟨g, cap, rfl, _, hR⟩
  · rw [run_append_grow_src w 23 23 ty 45 i0 _ Try.underlying23 hin hz0 none 0 0 [] (run_firstCells_none w.drew _ 0 0 0) _ bs.length _ hsrc (by omega) (by omega) (by rw [hz2]; exact growslice_fits (by omega) (by omega))] at hr
    injection hr with h1 _
    subst h1
    exact .inr rfl
  · by_cases hroom : xs.length + bs.length ≤ cap
    · rw [run_append_room_src w 23 23 ty 45 i0 Try.underlying23 hin g 0 xs.length cap _ bs.length _ hsrc hroom (fun j hj => hR.isSome _ (by rw [hz1]; rw [flatMap_len tc_len] at hj; omega)) (fun j _ => hR.frozen _)] at hr
      injection hr with h1 _
      subst h1
      exact .inl rfl
    · rw [run_append_grow_src w 23 23 ty 45 i0 _ Try.underlying23 hin hz0 (some ⟨g, 0, none⟩) xs.length cap (xs.flatMap tc) (run_firstCells_some w.drew _ xs.length ⟨g, 0, none⟩ xs.length cap _ (by rw [hz1, flatMap_len tc_len]) (fun j u hu => (hR.els tc_len).flat tc_len (by decide) j u hu)) _ bs.length _ hsrc (by omega) (by omega) (by rw [hz2]; exact growslice_fits (by omega) (by omega))] at hr
      injection hr with h1 _
      subst h1
      exact .inr rfl
end Go.Proofs.Ythdjokcjajlnnaa
