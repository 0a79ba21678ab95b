/- lines: First, found, Find. Condition: branches sorted, fewer than 1000000. -/
import Derived.Test.YtacibennmcegfaaDoorLP1
namespace Go.Herb
open Go.RowKit
theorem els_of_blk {α : Type} {enc : α → List Value} {s g : Nat} {w : World} {t : TypeId} {fr : Nat × Nat} {xs : List α} (hs : ∀ x, (enc x).length = s) (h : w.heap[g]? = some (.cells (xs.flatMap enc).toArray t fr)) : Els enc s w (some ⟨g, 0, none⟩) xs :=
  ⟨fun i hi => ⟨g, 0, rfl, lt_of_blk h, fun j c hj => by
    have hjs : j < s := by
      rcases Nat.lt_or_ge j s with h' | h'
      · exact h'
      · rw [List.getElem?_eq_none (by rw [hs]; exact h')] at hj; cases hj
    rw [cell_of_blk h, Nat.zero_add]
    simp only [List.getElem?_toArray]
    rw [flatMap_get hs xs i j hi hjs]
    exact hj⟩⟩
theorem bytes_of_list {a b : ByteArray} (h : a.toList = b.toList) : a = b := by
  rw [ByteArray.toList_eq, ByteArray.toList_eq] at h
  obtain ⟨⟨a⟩⟩ := a
  obtain ⟨⟨b⟩⟩ := b
  simp at h
  rw [h]
end Go.Herb
namespace Go.Proofs.YtacibennmcegfaaDoor
open Go.RowKit Go.Shelf Go.Herb

theorem TreeIs.mk2 {w : World} {p g h n m bc lc : Nat} {bs : List Br} {ls : List Ln} (hn : bs.length = n) (hm : ls.length = m) (hp : w.heap[p]? = some (.cells #[.slice (some ⟨g, 0, none⟩) n bc, .slice (some ⟨h, 0, none⟩) m lc, .int .i64 1] (61) (0, 0)))
    (hg : w.heap[g]? = some (.cells (bs.flatMap brc).toArray (45) (0, 0))) (hh : w.heap[h]? = some (.cells (ls.flatMap lnc).toArray (36) (0, 0))) : TreeIs w p bs ls :=
  ⟨⟨_, _, _, _, by rw [hn, hm]; exact hp, els_of_blk brc_len hg, els_of_blk lnc_len hh⟩⟩

def mainB : ByteArray := ⟨#[109, 97, 105, 110]⟩
set_option maxRecDepth 100000 in
theorem first_any (w : World) : Calls Tryd.prog (22) #[] w fun e w' => ∃ p, e = .returned (.pointer (some ⟨p, 0, none⟩)) ∧ TreeIs w' p [(mainB, 0, 0)] [(0, 0)] ∧ Below w.heap.size w w' := by
  go_enter Tryd.func22, Tryd.ntmps22
  go_wp2_with (go_at_call 25; refine (made_any _ _ _ _ _ _ _).mono ?_; rintro e w' ⟨rfl, h1, h2⟩)
  go_ret
  simp only [World.size_alloc] at h1
  refine ⟨_, rfl, TreeIs.mk2 (n := 1) (m := 1) rfl rfl h1 (blk_below (o := .cells #[.string mainB, .int .u64 0, .int .u64 0] (45) (0, 0)) (blk_alloc (blk_new_at rfl _)) h2 (by simp; omega)) (blk_below (o := .cells #[.int .u64 0, .int .u64 0] (36) (0, 0)) (blk_new_at (by simp) _) h2 (by simp)), (balc (balc (Below.refl _ _)) : Below w.heap.size w _).trans (h2.mono (by simp; omega))⟩

def FoundPost (bs : List Br) (k : ByteArray) (w : World) (e : Ending) (w' : World) : Prop :=
  ((∃ (i : Nat) (x : Br), e = .returned (.tuple #[.int .i64 i, .int .i64 0]) ∧ bs[i]? = some x ∧ x.1 = k) ∨ (e = .returned (.tuple #[.int .i64 0, .int .i64 7]) ∧ ∀ x ∈ bs, x.1 ≠ k)) ∧ Below w.heap.size w w'
theorem found_nil (k : ByteArray) (w : World) : Calls Tryd.prog (38) #[.pointer none, .string k] w fun e w' => e = .returned (.tuple #[.int .i64 0, .int .i64 2]) ∧ w = w' := by
  go_enter Tryd.func38, Tryd.ntmps38
  go_wp2_with (go_at_call 27; refine (there_nil _).mono ?_; rintro e w' ⟨rfl, rfl⟩)
  go_ret2
  exact ⟨rfl, rfl⟩
theorem found_raw {x y : Value} (p : Nat) (k : ByteArray) (w : World) (h : w.heap[p]? = some (.cells #[x, y, .int .i64 0] (61) (0, 0))) : Calls Tryd.prog (38) #[.pointer (some ⟨p, 0, none⟩), .string k] w fun e w' => e = .returned (.tuple #[.int .i64 0, .int .i64 2]) ∧ w = w' := by
  go_enter Tryd.func38, Tryd.ntmps38
  go_wp2_with (go_at_call 27; refine (there_raw p _ h).mono ?_; rintro e w' ⟨rfl, rfl⟩)
  go_ret2
  exact ⟨rfl, rfl⟩
theorem bb_none {bs : List Br} {k : ByteArray} {i n : Nat} (hn : bs.length = n) (hs : SrtB bs) (hlo : ∀ (j : Nat) (x : Br), j < i → bs[j]? = some x → x.1.toList < k.toList) (hhi : ∀ (j : Nat) (x : Br), i ≤ j → bs[j]? = some x → ¬ x.1.toList < k.toList)
    (hb : ¬ ∃ p, bs[i]? = some p ∧ p.1.toList = k.toList) : ∀ x ∈ bs, x.1 ≠ k := by
  intro x hx e
  obtain ⟨j, hj, he⟩ := List.getElem_of_mem hx
  have hx' : bs[j]? = some x := by rw [List.getElem?_eq_getElem hj, he]
  rcases Nat.lt_trichotomy j i with h | h | h
  · have := hlo j x h hx'
    rw [e] at this
    exact List.lt_irrefl _ this
  · subst h
    exact hb ⟨x, hx', by rw [e]⟩
  · have hi2 : i < bs.length := by omega
    have h1 := hhi i _ (Nat.le_refl _) (List.getElem?_eq_getElem hi2)
    have h2 := List.pairwise_iff_getElem.1 hs i j hi2 hj h
    rw [he, e] at h2
    exact h1 h2
theorem found_any {bs : List Br} {ls : List Ln} (p : Nat) (k : ByteArray) (w : World) (h : TreeIs w p bs ls) (hs : SrtB bs) (hm : bs.length < 1000000) : Calls Tryd.prog (38) #[.pointer (some ⟨p, 0, none⟩), .string k] w (FoundPost bs k w) := by
  have HT := Lib.hid (there_any p w h)
  obtain ⟨ba, bc, la, lc, h1, h2, h3⟩ := h.blk
  obtain ⟨n, hn⟩ : ∃ n, n = bs.length := ⟨_, rfl⟩
  rw [← hn] at h1
  have c0 := cell_of_blk h1 0
  simp at c0
  have HBS := Lib.hid (bsB_any ba bc n bs k w h2 hn.symm (by omega) hs)
  have HN := Lib.hid hn
  have HS := Lib.hid hs
  clear h h1 h2 h3 hn hs hm
  go_enter Tryd.func38, Tryd.ntmps38
  go_wp2_with (go_at_call 27; refine HT.out.mono ?_; rintro e w' ⟨rfl, rfl⟩)
  refine (HBS.out).mono ?_
  rintro e w1 ⟨i, b, rfl, hi, hlo, hhi, hb, hB1⟩
  cases b with
  | true =>
    obtain ⟨x, hx, hk⟩ := hb.1 rfl
    have HE := Lib.hid (show FoundPost bs k w (.returned (.tuple #[.int .i64 (i : Int), .int .i64 0])) w1 from ⟨.inl ⟨i, x, rfl, hx, bytes_of_list hk⟩, hB1⟩)
    clear hlo hhi hb hB1 hx hk HBS HT c0
    go_wp2_with fail
    go_ret2
    exact HE.out
  | false =>
    have hno := bb_none HN.out.symm HS.out hlo hhi (fun h => by have := hb.2 h; cases this)
    have HE := Lib.hid (show FoundPost bs k w (.returned (.tuple #[.int .i64 0, .int .i64 7])) w1 from ⟨.inr ⟨rfl, hno⟩, hB1⟩)
    clear hlo hhi hb hB1 hno HBS HT c0
    go_wp2_with fail
    go_ret2
    exact HE.out
abbrev brV (x : Br) : Value := .agg #[.string x.1, .int .u64 x.2.1, .int .u64 x.2.2]
def FindPost (bs : List Br) (k : ByteArray) (w : World) (e : Ending) (w' : World) : Prop :=
  ((∃ (i : Nat) (x : Br), e = .returned (.tuple #[brV x, .int .i64 0]) ∧ bs[i]? = some x ∧ x.1 = k) ∨ (e = .returned (.tuple #[brV (⟨#[]⟩, 0, 0), .int .i64 7]) ∧ ∀ x ∈ bs, x.1 ≠ k)) ∧ Below w.heap.size w w'
theorem find_none {v : Value} (k : ByteArray) (w : World) (h : ∀ u, Below w.heap.size w u → Calls Tryd.prog (38) #[v, .string k] u fun e w' => e = .returned (.tuple #[.int .i64 0, .int .i64 2]) ∧ u = w') : Calls Tryd.prog (17) #[v, .string k] w fun e w' => e = .returned (.tuple #[brV (⟨#[]⟩, 0, 0), .int .i64 2]) ∧ Below w.heap.size w w' := by
  have H := Lib.hid h
  clear h
  go_enter Tryd.func17, Tryd.ntmps17
  go_wp2_with (go_at_call 38; refine (H.out _ (balc (Below.refl _ _))).mono ?_; rintro e w' ⟨rfl, rfl⟩)
  (try simp only [Exit.inBlock, Exit.then])
  refine bodyPost_ret (v := .tuple #[brV (⟨#[]⟩, 0, 0), .int .i64 2]) (by simp [results, Tryd.results17, go_sem, *]) rfl ?_
  exact ⟨rfl, balc (Below.refl _ _)⟩
set_option maxRecDepth 100000 in
theorem find_any {bs : List Br} {ls : List Ln} (p : Nat) (k : ByteArray) (w : World) (h : TreeIs w p bs ls) (hs : SrtB bs) (hm : bs.length < 1000000) : Calls Tryd.prog (17) #[.pointer (some ⟨p, 0, none⟩), .string k] w (FindPost bs k w) := by
  obtain ⟨W, hW⟩ : ∃ W : World, W = w.alloc (.cells #[.string ⟨#[]⟩, .int .u64 0, .int .u64 0] (45)) := ⟨_, rfl⟩
  have hB : Below w.heap.size w W := by rw [hW]; exact balc (Below.refl _ _)
  have hx0 : W.heap[w.heap.size]? = some (.cells #[.string ⟨#[]⟩, .int .u64 0, .int .u64 0] (45) (0, 0)) := by rw [hW]; exact blk_new_at rfl _
  have HB := Lib.hid hB
  have HF := Lib.hid (found_any p k W (h.ext hB) hs hm)
  obtain ⟨ba, bc, la, lc, h1, h2, h3⟩ := h.blk
  obtain ⟨n, hn⟩ : ∃ n, n = bs.length := ⟨_, rfl⟩
  rw [← hn] at h1
  have h1W := blk_below h1 hB h.lt
  have HP := Lib.hid (show Brs W ba bs from h2.ext hB)
  have HN := Lib.hid hn
  have HW := Lib.hid hW
  rw [hW] at HF
  clear h h1 h2 h3 hn hs hm hB
  go_enter Tryd.func17, Tryd.ntmps17
  go_upto_region 2 with (go_at_call 38; refine HF.out.mono ?_; rw [← HW.out]; rintro e w1 ⟨⟨i, x, rfl, hx, hk⟩ | ⟨rfl, hno⟩, hB1⟩)
  · have hb1 := blk_below h1W hB1 (lt_of_blk h1W)
    have hb2 := blk_below hx0 hB1 (lt_of_blk hx0)
    have c0 := cell_of_blk hb1 0
    have d0 := cell_of_blk hb2 0
    have d1 := cell_of_blk hb2 1
    have d2 := cell_of_blk hb2 2
    have e0 := frozen_of_blk hb2 0
    have e1 := frozen_of_blk hb2 1
    have e2 := frozen_of_blk hb2 2
    simp at c0 d0 d1 d2
    obtain ⟨hil, hxe⟩ := List.getElem?_eq_some_iff.1 hx
    obtain ⟨b, o, rfl, hlb, hcx⟩ := HP.out.get i hil
    rw [hxe] at hcx
    have g1 := (hB1.cell (p := ⟨b, _, none⟩) hlb).trans (hcx 0 _ rfl)
    have g2 := (hB1.cell (p := ⟨b, _, none⟩) hlb).trans (hcx 1 _ rfl)
    have g3 := (hB1.cell (p := ⟨b, _, none⟩) hlb).trans (hcx 2 _ rfl)
    simp only [Nat.add_zero] at g1 g2 g3
    have i0 : (0 : Int) ≤ (i : Int) := by omega
    have i1 : (i : Int) < (n : Int) := by have := HN.out; omega
    have HE := Lib.hid (show ∃ i : Nat, bs[i]? = some x ∧ x.1 = k from ⟨i, hx, hk⟩)
    have HB2 := Lib.hid (HB.out.trans (hB1.mono HB.out.size))
    clear hB1 hb1 hb2 hxe hcx hx hk h1W hx0
    go_wp2_with fail
    (try simp only [Exit.inBlock, Exit.then])
    refine bodyPost_ret (v := .tuple #[brV x, .int .i64 0]) (by simp [results, Tryd.results17, go_sem, *]) rfl ?_
    obtain ⟨i, q1, q2⟩ := HE.out
    exact ⟨.inl ⟨i, x, rfl, q1, q2⟩, ((HB2.out.setCell (Nat.le_refl _) _).setCell (Nat.le_refl _) _).setCell (Nat.le_refl _) _⟩
  · have hb2 := blk_below hx0 hB1 (lt_of_blk hx0)
    have d0 := cell_of_blk hb2 0
    have d1 := cell_of_blk hb2 1
    have d2 := cell_of_blk hb2 2
    have e0 := frozen_of_blk hb2 0
    have e1 := frozen_of_blk hb2 1
    have e2 := frozen_of_blk hb2 2
    simp at d0 d1 d2
    have HE := Lib.hid hno
    have HB2 := Lib.hid (HB.out.trans (hB1.mono HB.out.size))
    clear hB1 hb2 hno h1W hx0
    go_wp2_with fail
    (try simp only [Exit.inBlock, Exit.then])
    refine bodyPost_ret (v := .tuple #[brV (⟨#[]⟩, 0, 0), .int .i64 7]) (by simp [results, Tryd.results17, go_sem, *]) rfl ?_
    exact ⟨.inr ⟨rfl, HE.out⟩, ((HB2.out.setCell (Nat.le_refl _) _).setCell (Nat.le_refl _) _).setCell (Nat.le_refl _) _⟩
end Go.Proofs.YtacibennmcegfaaDoor
