/- Numbers of 64 bits in slices of the call's own: append, slices.Clone. Condition: fewer than 1000000 numbers. -/
import Derived.Test.YtacibennmcegfaaDoorLT1
import Derived.Laws.OwnMore
import Derived.Deep.AppendSrc
namespace Go.Herb
open Go.RowKit
theorem own_parts {B e s n : Nat} {w : World} {v : Value} {xs : List Value} (h : w.ownsRow B e s v n xs) : ∃ a cap, v = .slice a n cap ∧ (a = none → n = 0 ∧ cap = 0) ∧ n ≤ cap ∧ cap ≤ maxLen ∧ ∀ ad, a = some ad → B ≤ ad.block ∧ ad.block < w.heap.size := by
  obtain ⟨h1, ⟨rfl, h2⟩ | ⟨g, cap, cur, rfl, hg, hh, hle, hm, _⟩⟩ := h
  · subst h2
    exact ⟨none, 0, rfl, fun _ => ⟨rfl, rfl⟩, Nat.le_refl _, Nat.zero_le _, fun ad h => by cases h⟩
  · exact ⟨some ⟨g, 0, none⟩, cap, rfl, (fun h => by cases h), hle, hm, fun ad h => by cases h; exact ⟨hg, lt_of_blk hh⟩⟩
theorem owns_els {α : Type} {enc : α → List Value} {s B e n cap : Nat} {w : World} {a : Option Addr} {xs : List α} (hs : ∀ x, (enc x).length = s) (h : w.ownsRow B e s (.slice a n cap) xs.length (xs.flatMap enc)) : Els enc s w a xs := by
  obtain ⟨a', c', h1, _, h3⟩ := els_of_owns hs h
  injection h1 with h1
  rw [h1]
  exact h3
end Go.Herb
namespace Go.Proofs.YtacibennmcegfaaDoor
open Go.RowKit Go.Shelf Go.Herb

theorem infoU : (Tryd.prog.info? (34)).map (fun i => (i.zero, i.size, i.bytes)) = some (some (.int .u64 0), 1, 8) := by kernel_rfl
abbrev OwnU (B : Nat) (w : World) (v : Value) (ns : List Int) : Prop := w.ownsRow B (34) 1 v ns.length (ns.flatMap uc)
theorem uc_one (x : Int) : ∀ v ∈ uc x, v.oneCell' = true := by
  intro v hv
  simp [uc] at hv
  subst hv
  rfl
set_option maxRecDepth 100000 in
theorem run_append_u (w : World) (B : Nat) (v : Value) (xs : List Int) (a : Option Addr) (c n : Nat) (ys : List Int) (ho : OwnU B w v xs) (hY : Nums w a ys) (hn : ys.length = n) (hz : a = none → c = 0) (hx : xs.length + n < 2000000) (hB : B ≤ w.heap.size) (ty : TypeId) :
    ∃ v' w', (Builtin.append_ #[(46), (46)] ty #[v, .slice a n c]).run Tryd.prog w = .ok v' w' ∧ OwnU B w' v' (xs ++ ys) ∧ w.grownBy w' v.ownBlock := by
  subst hn
  obtain ⟨i0, hin, hz0, hz1, hz2⟩ := info_parts infoU
  cases a with
  | none =>
    have h0 : ys = [] := by
      cases ys with
      | nil => rfl
      | cons x xs => obtain ⟨b, o, h, _⟩ := hY.get 0 (by simp); cases h
    subst h0
    rw [hz rfl]
    have := run_append_owned_none (P := Tryd.prog) w B (46) ty (34) i0 1 Tryd.underlying46 hin _ _ _ ho
    exact ⟨_, w, this, by simpa using ho, grown_refl _ _⟩
  | some ad =>
    obtain ⟨v', w', hr, h2, h3, h4⟩ := run_append_own (P := Tryd.prog) w B (46) ty (34) i0 _ 1 8 Tryd.underlying46 hin hz0 hz1 hz2 rfl (by decide) v xs.length (xs.flatMap uc) ho ad ys.length c (ys.flatMap uc) (flatMap_len uc_len _) (hY.flat uc_len (by decide)) (fun v hv => by
      obtain ⟨x, _, hx⟩ := List.mem_flatMap.1 hv
      exact uc_one x v hx) (by unfold maxLen; omega) (by omega) hB
    refine ⟨v', w', hr, ?_, h3⟩
    unfold OwnU
    rw [List.length_append, List.flatMap_append]
    exact h2
theorem run_append_u1 (w : World) (B : Nat) (v : Value) (xs : List Int) (vb : Nat) (x : Int) (ho : OwnU B w v xs) (hb : w.heap[vb]? = some (.cells #[.int .u64 x] (34) (0, 0))) (hx : xs.length < 1000000) (hB : B ≤ w.heap.size) (ty : TypeId) :
    ∃ v' w', (Builtin.append_ #[(46), (46)] ty #[v, .slice (some ⟨vb, 0, none⟩) 1 1]).run Tryd.prog w = .ok v' w' ∧ OwnU B w' v' (xs ++ [x]) ∧ w.grownBy w' v.ownBlock :=
  run_append_u w B v xs (some ⟨vb, 0, none⟩) 1 1 [x] ho (els_of_blk uc_len (by simpa using hb)) rfl (fun h => by cases h) (by omega) hB ty
set_option maxRecDepth 100000 in
/-- One number more: where it comes to lie. -/
theorem run_append_u1x (w : World) (B : Nat) (v : Value) (xs : List Int) (vb : Nat) (x : Int) (ho : OwnU B w v xs) (hb : w.heap[vb]? = some (.cells #[.int .u64 x] (34) (0, 0))) (hx : xs.length < 1000000) (hB : B ≤ w.heap.size) (ty : TypeId) :
    ∃ v' w', (Builtin.append_ #[(46), (46)] ty #[v, .slice (some ⟨vb, 0, none⟩) 1 1]).run Tryd.prog w = .ok v' w' ∧ OwnU B w' v' (xs ++ [x]) ∧ w.grownBy w' v.ownBlock ∧ (v'.ownBlock = v.ownBlock ∨ v'.ownBlock = some w.heap.size) := by
  obtain ⟨v', w', hr, h2, h3⟩ := run_append_u1 w B v xs vb x ho hb hx hB ty
  refine ⟨v', w', hr, h2, h3, ?_⟩
  obtain ⟨i0, hin, hz0, hz1, hz2⟩ := info_parts infoU
  have hsrc : Src Tryd.prog i0.size (46) (.slice (some ⟨vb, 0, none⟩) 1 1) 1 (uc x) w := Src.ofSlice w Tryd.underlying46 ⟨vb, 0, none⟩ 1 1 _ (by rw [hz1]; rfl) (fun j u hj => by
    have : ((⟨vb, 0, none⟩ : Addr).add j) = ⟨vb, 0 + j, none⟩ := addr_add _ _ _
    rw [this, Nat.zero_add, cell_of_blk hb]
    simpa [uc] using hj) (uc_one x)
  obtain ⟨hl, ⟨rfl, h0⟩ | ⟨g, cap, cur, rfl, hg, hh, hle, hm, hsz, htk⟩⟩ := ho
  · have hr2 := run_append_grow_src (P := Tryd.prog) w (46) (46) ty (34) i0 _ Tryd.underlying46 hin hz0 none 0 0 [] (run_firstCells_none w.drew i0.size 0 0 0) _ 1 _ hsrc (by omega) (by omega) (growslice_fits (by omega) (by rw [hz2]; omega))
    rw [hr] at hr2
    injection hr2 with e1 e2
    exact .inr (by rw [e1]; rfl)
  · by_cases hroom : xs.length + 1 ≤ cap
    · have hr2 := run_append_room_src (P := Tryd.prog) w (46) (46) ty (34) i0 Tryd.underlying46 hin g 0 xs.length cap _ 1 _ hsrc hroom (fun j hj => by
        have hj0 : j = 0 := by have : (uc x).length = 1 := rfl; omega
        rw [cell_of_blk hh, hz1, hj0, Array.getElem?_eq_getElem (by omega)]
        rfl) (fun j _ => frozen_of_blk hh _)
      rw [hr] at hr2
      injection hr2 with e1 e2
      exact .inl (by rw [e1]; rfl)
    · have hold : (Builtin.firstCells i0.size xs.length (.slice (some ⟨g, 0, none⟩) xs.length cap)).run Tryd.prog w.drew = .ok (xs.flatMap uc).toArray w.drew :=
        run_firstCells_some w.drew i0.size xs.length ⟨g, 0, none⟩ xs.length cap _ (by rw [flatMap_len uc_len, hz1]) (fun j u hj => by
          have hjl : j < xs.length * 1 := by rw [← flatMap_len uc_len]; exact (List.getElem?_eq_some_iff.1 hj).1
          have : ((⟨g, 0, none⟩ : Addr).add j) = ⟨g, 0 + j, none⟩ := addr_add _ _ _
          rw [this, Nat.zero_add, cell_of_blk (w := w.drew) hh, ← hj, ← htk, List.getElem?_take_of_lt hjl, Array.getElem?_toList])
      have hr2 := run_append_grow_src (P := Tryd.prog) w (46) (46) ty (34) i0 _ Tryd.underlying46 hin hz0 (some ⟨g, 0, none⟩) xs.length cap _ hold _ 1 _ hsrc (by omega) (by omega) (growslice_fits (by omega) (by rw [hz2]; omega))
      rw [hr] at hr2
      injection hr2 with e1 e2
      exact .inr (by rw [e1]; rfl)
set_option maxRecDepth 100000 in
theorem cloneU_any (a : Option Addr) (cap n : Nat) (ns : List Int) (w : World) (hE : Nums w a ns) (hn : ns.length = n) (hz : a = none → cap = 0) (hn1 : n < 1000000) :
    Calls Tryd.prog 40 #[.slice a n cap] w fun e w' => ∃ v, e = .returned v ∧ OwnU w.heap.size w' v ns ∧ Below w.heap.size w w' := by
  cases a with
  | none =>
    have h0 : ns = [] := by
      cases ns with
      | nil => rfl
      | cons x xs => obtain ⟨b, o, h, _⟩ := hE.get 0 (by simp); cases h
    subst h0
    rw [hz rfl, ← hn]
    have qT : ∀ (w : World) (a : Option Addr) (l c : Nat), (binOp .eql (46) (.slice a l c) (.slice none 0 0)).run Tryd.prog w = .ok (.bool a.isNone) w := fun w a l c => Lib.run_eql_slice_nil w _ _ a l c 0 0 Tryd.underlying46
    clear hE hn hz hn1
    go_enter Tryd.func40, Tryd.ntmps40
    go_wp2_with fail
    go_ret
    exact ⟨_, rfl, World.ownsRow_nil _ _ _ _, Below.refl _ _⟩
  | some ad =>
    obtain ⟨W, hW⟩ : ∃ W : World, W = w.alloc (.cells #[] (34)) := ⟨_, rfl⟩
    have hB : Below w.heap.size w W := by rw [hW]; exact balc (Below.refl _ _)
    have hx : W.heap[w.heap.size]? = some (.cells #[] (34) (0, 0)) := by rw [hW]; exact blk_new_at rfl _
    have hO : OwnU w.heap.size W (.slice (some ⟨w.heap.size, 0, none⟩) 0 0) [] := ⟨rfl, .inr ⟨w.heap.size, 0, #[], rfl, Nat.le_refl _, hx, Nat.le_refl _, Nat.zero_le _, rfl, rfl⟩⟩
    obtain ⟨v', w', hr, h2, h3⟩ := run_append_u W w.heap.size _ [] (some ad) cap n ns hO (hE.ext hB) hn (fun h => by cases h) (by simp; omega) hB.size (46)
    have HE := Lib.hid (show OwnU w.heap.size w' v' ns ∧ Below w.heap.size w w' from ⟨by simpa using h2, hB.grown h3 hB.size (fun k e => by cases e; exact Nat.le_refl _)⟩)
    rw [hW] at hr
    have qT : ∀ (w : World) (a : Option Addr) (l c : Nat), (binOp .eql (46) (.slice a l c) (.slice none 0 0)).run Tryd.prog w = .ok (.bool a.isNone) w := fun w a l c => Lib.run_eql_slice_nil w _ _ a l c 0 0 Tryd.underlying46
    clear hW hB hx hO h2 h3 hE hn hz
    go_enter Tryd.func40, Tryd.ntmps40
    go_wp2_with (at_builtin; refine Lib.wpList_append_run _ rfl _ _ _ _ rfl _ _ rfl rfl _ _ hr ?_)
    go_ret
    exact ⟨_, rfl, HE.out⟩
end Go.Proofs.YtacibennmcegfaaDoor
