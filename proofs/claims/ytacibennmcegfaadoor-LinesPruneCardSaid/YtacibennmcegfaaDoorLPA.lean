/- lines: Lines, Branches: Clone, Clip. Condition: fewer than 1000000, not none. -/
import Derived.Test.YtacibennmcegfaaDoorLP9
import Derived.Lib.SliceRun
namespace Go.Proofs.YtacibennmcegfaaDoor
open Go.RowKit Go.Shelf Go.Herb

theorem own_pre {α : Type} {enc : α → List Value} {s e B n : Nat} {w : World} {v : Value} {xs : List α} (h : w.ownsRow B e s v n (xs.flatMap enc)) (h0 : 0 < n) :
    ∃ (g c : Nat) (R : List Value), v = .slice (some ⟨g, 0, none⟩) n c ∧ B ≤ g ∧ w.heap[g]? = some (.cells (xs.flatMap enc ++ R).toArray e (0, 0)) ∧ n ≤ c ∧ c ≤ maxLen := by
  obtain ⟨hl, h2 | ⟨g, cap, cur, hv, hg, hh, hle, hm, hsz, htk⟩⟩ := h
  · omega
  · refine ⟨g, cap, cur.toList.drop (n * s), hv, hg, ?_, hle, hm⟩
    rw [← htk, List.take_append_drop]
    exact hh
/-- A slice that is laid anew, as long as its room. -/
def FreshPost {α : Type} (enc : α → List Value) (ty : TypeId) (xs : List α) (w : World) (e : Ending) (w' : World) : Prop :=
  ∃ (g : Nat) (R : List Value), e = .returned (.slice (some ⟨g, 0, none⟩) xs.length xs.length) ∧ w.heap.size ≤ g ∧ w'.heap[g]? = some (.cells (xs.flatMap enc ++ R).toArray ty (0, 0)) ∧ Below w.heap.size w w'

set_option maxRecDepth 100000 in
theorem cloneL_any (a : Option Addr) (cap n : Nat) (xs : List Ln) (w : World) (hE : Lns w a xs) (hn : xs.length = n) (h0 : 0 < n) (hn1 : n < 1000000) :
    Calls Tryd.prog (33) #[.slice a n cap] w fun e w' => ∃ (g c : Nat) (R : List Value), e = .returned (.slice (some ⟨g, 0, none⟩) n c) ∧ w.heap.size ≤ g ∧ w'.heap[g]? = some (.cells (xs.flatMap lnc ++ R).toArray (36) (0, 0)) ∧ n ≤ c ∧ c ≤ maxLen ∧ Below w.heap.size w w' := by
  obtain ⟨b, o, rfl, hlb, -⟩ := hE.get 0 (by omega)
  obtain ⟨i0, hin, hz0, hz1, hz2⟩ := info_parts infoL
  obtain ⟨W, hW⟩ : ∃ W : World, W = w.alloc (.cells #[] (36)) := ⟨_, rfl⟩
  have hB : Below w.heap.size w W := by rw [hW]; exact balc (Below.refl _ _)
  have hx : W.heap[w.heap.size]? = some (.cells #[] (36) (0, 0)) := by rw [hW]; exact blk_new_at rfl _
  have hO : W.ownsRow w.heap.size (36) 2 (.slice (some ⟨w.heap.size, 0, none⟩) 0 0) 0 ([] : List Value) := ⟨rfl, .inr ⟨w.heap.size, 0, #[], rfl, Nat.le_refl _, hx, Nat.le_refl _, Nat.zero_le _, rfl, rfl⟩⟩
  obtain ⟨v', w', hr, h2, h3, h4⟩ := run_append_own (P := Tryd.prog) W w.heap.size (23) (23) (36) i0 _ 2 16 Tryd.underlying23 hin hz0 hz1 hz2 rfl (by decide) (.slice (some ⟨w.heap.size, 0, none⟩) 0 0) 0 [] hO ⟨b, o, none⟩ n cap (xs.flatMap lnc) (by rw [flatMap_len lnc_len, hn]) (Els.flat (hE.ext hB) lnc_len (by decide)) (fun v hv => by
    obtain ⟨x, _, hx⟩ := List.mem_flatMap.1 hv
    exact lnc_one x v hx) (by unfold maxLen; omega) (by omega) hB.size
  rw [Nat.zero_add, List.nil_append] at h2
  obtain ⟨g, c, R, rfl, hg, hh, hle, hmx⟩ := own_pre h2 h0
  have HE := Lib.hid (show w.heap.size ≤ g ∧ w'.heap[g]? = some (.cells (xs.flatMap lnc ++ R).toArray (36) (0, 0)) ∧ n ≤ c ∧ c ≤ maxLen ∧ Below w.heap.size w w' from ⟨hg, hh, hle, hmx, hB.grown h3 hB.size (fun k e => by cases e; exact Nat.le_refl _)⟩)
  rw [hW] at hr
  have qT : ∀ (w : World) (a : Option Addr) (l c : Nat), (binOp .eql (23) (.slice a l c) (.slice none 0 0)).run Tryd.prog w = .ok (.bool a.isNone) w := fun w a l c => Lib.run_eql_slice_nil w _ _ a l c 0 0 Tryd.underlying23
  clear hW hB hx hO h2 h3 h4 hg hh hle hmx hE hn hin hz0 hz1 hz2 hlb
  go_enter Tryd.func33, Tryd.ntmps33
  go_wp2_with (at_builtin; refine Lib.wpList_append_run _ rfl _ _ _ _ rfl _ _ rfl rfl _ _ hr ?_)
  go_ret
  exact ⟨g, c, R, rfl, HE.out⟩
theorem clipL_any (ad : Addr) (cap n : Nat) (w : World) (hl : n < 1000000) (hle : n ≤ cap) (hm : cap ≤ maxLen) :
    Calls Tryd.prog (32) #[.slice (some ad) n cap] w fun e w' => e = .returned (.slice (some ad) n n) ∧ w = w' := by
  have _hl := hl
  unfold maxLen at hm
  have _hm := hm
  go_enter Tryd.func32, Tryd.ntmps32
  go_wp2
  go_ret
  exact ⟨rfl, rfl⟩
set_option maxRecDepth 100000 in
theorem allL_any {bs : List Br} {ls : List Ln} (p : Nat) (w : World) (h : TreeIs w p bs ls) (h0 : 0 < ls.length) (h1 : ls.length < 1000000) :
    Calls Tryd.prog (13) #[.pointer (some ⟨p, 0, none⟩)] w (FreshPost lnc (36) ls w) := by
  have HT := Lib.hid (there_any p w h)
  obtain ⟨ba, bc, la, lc, hb, hB, hL⟩ := h.blk
  obtain ⟨n, hn⟩ : ∃ n, ls.length = n := ⟨_, rfl⟩
  have c0 := cell_of_blk hb 1
  simp at c0
  rw [hn] at h0 h1 c0
  have HC := Lib.hid (cloneL_any la lc n ls w hL hn h0 h1)
  have HN := Lib.hid hn
  have HI := Lib.hid h1
  clear h hb hB hL hn h0 h1
  go_enter Tryd.func13, Tryd.ntmps13
  go_wp2_with (first
    | (go_at_call 27; refine HT.out.mono ?_; rintro e w' ⟨rfl, rfl⟩)
    | (go_at_call 33; refine HC.out.mono ?_; rintro e w1 ⟨g, c, R, rfl, hg, hh, hle, hmx, hB1⟩)
    | (go_at_call 32; refine (clipL_any ⟨g, 0, none⟩ c n w1 HI.out hle hmx).mono ?_; rintro e w2 ⟨rfl, rfl⟩))
  go_ret
  rw [← HN.out] at *
  exact ⟨g, R, rfl, hg, hh, hB1⟩
theorem allL_none {v : Value} (w : World) (h : Calls Tryd.prog (27) #[v] w fun e w' => e = .returned (.bool false) ∧ w = w') : Calls Tryd.prog (13) #[v] w fun e w' => e = .returned (.slice none 0 0) ∧ w = w' := by
  have H := Lib.hid h
  clear h
  go_enter Tryd.func13, Tryd.ntmps13
  go_wp2_with (go_at_call 27; refine H.out.mono ?_; rintro e w' ⟨rfl, rfl⟩)
  go_ret
  exact ⟨rfl, rfl⟩

set_option maxRecDepth 100000 in
theorem cloneB_any (a : Option Addr) (cap n : Nat) (xs : List Br) (w : World) (hE : Brs w a xs) (hn : xs.length = n) (h0 : 0 < n) (hn1 : n < 1000000) :
    Calls Tryd.prog (31) #[.slice a n cap] w fun e w' => ∃ (g c : Nat) (R : List Value), e = .returned (.slice (some ⟨g, 0, none⟩) n c) ∧ w.heap.size ≤ g ∧ w'.heap[g]? = some (.cells (xs.flatMap brc ++ R).toArray (45) (0, 0)) ∧ n ≤ c ∧ c ≤ maxLen ∧ Below w.heap.size w w' := by
  obtain ⟨b, o, rfl, hlb, -⟩ := hE.get 0 (by omega)
  obtain ⟨i0, hin, hz0, hz1, hz2⟩ := info_parts infoB
  obtain ⟨W, hW⟩ : ∃ W : World, W = w.alloc (.cells #[] (45)) := ⟨_, rfl⟩
  have hB : Below w.heap.size w W := by rw [hW]; exact balc (Below.refl _ _)
  have hx : W.heap[w.heap.size]? = some (.cells #[] (45) (0, 0)) := by rw [hW]; exact blk_new_at rfl _
  have hO : W.ownsRow w.heap.size (45) 3 (.slice (some ⟨w.heap.size, 0, none⟩) 0 0) 0 ([] : List Value) := ⟨rfl, .inr ⟨w.heap.size, 0, #[], rfl, Nat.le_refl _, hx, Nat.le_refl _, Nat.zero_le _, rfl, rfl⟩⟩
  obtain ⟨v', w', hr, h2, h3, h4⟩ := run_append_own (P := Tryd.prog) W w.heap.size (22) (22) (45) i0 _ 3 32 Tryd.underlying22 hin hz0 hz1 hz2 rfl (by decide) (.slice (some ⟨w.heap.size, 0, none⟩) 0 0) 0 [] hO ⟨b, o, none⟩ n cap (xs.flatMap brc) (by rw [flatMap_len brc_len, hn]) (Els.flat (hE.ext hB) brc_len (by decide)) (fun v hv => by
    obtain ⟨x, _, hx⟩ := List.mem_flatMap.1 hv
    exact brc_one x v hx) (by unfold maxLen; omega) (by omega) hB.size
  rw [Nat.zero_add, List.nil_append] at h2
  obtain ⟨g, c, R, rfl, hg, hh, hle, hmx⟩ := own_pre h2 h0
  have HE := Lib.hid (show w.heap.size ≤ g ∧ w'.heap[g]? = some (.cells (xs.flatMap brc ++ R).toArray (45) (0, 0)) ∧ n ≤ c ∧ c ≤ maxLen ∧ Below w.heap.size w w' from ⟨hg, hh, hle, hmx, hB.grown h3 hB.size (fun k e => by cases e; exact Nat.le_refl _)⟩)
  rw [hW] at hr
  have qT : ∀ (w : World) (a : Option Addr) (l c : Nat), (binOp .eql (22) (.slice a l c) (.slice none 0 0)).run Tryd.prog w = .ok (.bool a.isNone) w := fun w a l c => Lib.run_eql_slice_nil w _ _ a l c 0 0 Tryd.underlying22
  clear hW hB hx hO h2 h3 h4 hg hh hle hmx hE hn hin hz0 hz1 hz2 hlb
  go_enter Tryd.func31, Tryd.ntmps31
  go_wp2_with (at_builtin; refine Lib.wpList_append_run _ rfl _ _ _ _ rfl _ _ rfl rfl _ _ hr ?_)
  go_ret
  exact ⟨g, c, R, rfl, HE.out⟩
theorem clipB_any (ad : Addr) (cap n : Nat) (w : World) (hl : n < 1000000) (hle : n ≤ cap) (hm : cap ≤ maxLen) :
    Calls Tryd.prog (30) #[.slice (some ad) n cap] w fun e w' => e = .returned (.slice (some ad) n n) ∧ w = w' := by
  have _hl := hl
  unfold maxLen at hm
  have _hm := hm
  go_enter Tryd.func30, Tryd.ntmps30
  go_wp2
  go_ret
  exact ⟨rfl, rfl⟩
set_option maxRecDepth 100000 in
theorem allB_any {bs : List Br} {ls : List Ln} (p : Nat) (w : World) (h : TreeIs w p bs ls) (h0 : 0 < bs.length) (h1 : bs.length < 1000000) :
    Calls Tryd.prog (12) #[.pointer (some ⟨p, 0, none⟩)] w (FreshPost brc (45) bs w) := by
  have HT := Lib.hid (there_any p w h)
  obtain ⟨ba, bc, la, lc, hb, hB, hL⟩ := h.blk
  obtain ⟨n, hn⟩ : ∃ n, bs.length = n := ⟨_, rfl⟩
  have c0 := cell_of_blk hb 0
  simp at c0
  rw [hn] at h0 h1 c0
  have HC := Lib.hid (cloneB_any ba bc n bs w hB hn h0 h1)
  have HN := Lib.hid hn
  have HI := Lib.hid h1
  clear h hb hB hL hn h0 h1
  go_enter Tryd.func12, Tryd.ntmps12
  go_wp2_with (first
    | (go_at_call 27; refine HT.out.mono ?_; rintro e w' ⟨rfl, rfl⟩)
    | (go_at_call 31; refine HC.out.mono ?_; rintro e w1 ⟨g, c, R, rfl, hg, hh, hle, hmx, hB1⟩)
    | (go_at_call 30; refine (clipB_any ⟨g, 0, none⟩ c n w1 HI.out hle hmx).mono ?_; rintro e w2 ⟨rfl, rfl⟩))
  go_ret
  rw [← HN.out] at *
  exact ⟨g, R, rfl, hg, hh, hB1⟩
theorem allB_none {v : Value} (w : World) (h : Calls Tryd.prog (27) #[v] w fun e w' => e = .returned (.bool false) ∧ w = w') : Calls Tryd.prog (12) #[v] w fun e w' => e = .returned (.slice none 0 0) ∧ w = w' := by
  have H := Lib.hid h
  clear h
  go_enter Tryd.func12, Tryd.ntmps12
  go_wp2_with (go_at_call 27; refine H.out.mono ?_; rintro e w' ⟨rfl, rfl⟩)
  go_ret
  exact ⟨rfl, rfl⟩
end Go.Proofs.YtacibennmcegfaaDoor
