/- ref16: a store into copies; copies as vectors. No condition. -/
import Derived.Test.YtnnpheklgdbohaaY7
namespace Go.Proofs.Ytnnpheklgdbohaa
open Go.RowKit Go.Shelf Go.Herb

theorem flat_set : ∀ (ys : List Vc) (i : Nat) (y : Vc) (a : Option Addr) (c : Nat) (ps : Bh), ys[i]? = some y → (ys.flatMap vc).set (i * 2 + 1) (.slice a ps.length c) = (ys.set i ⟨y.line, a, c, ps⟩).flatMap vc
  | [], _, _, _, _, _, h => by simp at h
  | z :: zs, 0, y, a, c, ps, h => by
    simp at h
    subst h
    rfl
  | z :: zs, i + 1, y, a, c, ps, h => by
    have ih := flat_set zs i y a c ps (by simpa using h)
    rw [List.set_cons_succ, List.flatMap_cons, List.flatMap_cons, ← ih, show (i + 1) * 2 + 1 = (i * 2 + 1) + 1 + 1 by omega]
    rfl
theorem rowV_set {w : World} {g cap : Nat} {ys : List Vc} (h : Row vc 2 (32) w g cap ys) {i : Nat} {y : Vc} (hy : ys[i]? = some y) (a : Option Addr) (c : Nat) (ps : Bh) :
    Row vc 2 (32) (w.setCell ⟨g, i * 2 + 1, none⟩ (.slice a ps.length c)) g cap (ys.set i ⟨y.line, a, c, ps⟩) := by
  obtain ⟨cur, hc, hsz, htk⟩ := h.blk
  refine ⟨⟨_, blk_setCell hc _, by simpa using hsz, ?_⟩, by simpa using h.le, h.max⟩
  rw [Array.toList_setIfInBounds, List.length_set, List.take_set, htk, flat_set ys i y a c ps hy]
theorem vsOf_set (ys : List Vc) (i : Nat) (l : Int) (a : Option Addr) (c : Nat) (ps : Bh) : vsOf (ys.set i ⟨l, a, c, ps⟩) = (vsOf ys).set i (l, ps) := by unfold vsOf; rw [List.map_set]
theorem owns_of_rowV {B g cap : Nat} {w : World} {ys : List Vc} (h : Row vc 2 (32) w g cap ys) (hB : B ≤ g) : OwnV B w (.slice (some ⟨g, 0, none⟩) ys.length cap) ys := by
  obtain ⟨cur, hc, hsz, htk⟩ := h.blk
  exact ⟨flatMap_len vc_len _, .inr ⟨g, cap, cur, rfl, hB, hc, h.le, h.max, hsz, htk⟩⟩
theorem CpAt.len {B : Nat} {w : World} {v : Value} {ys : List Vc} {L : Vs} (h : CpAt B w v ys L) : ys.length = L.length := by rw [← h.vs, vsOf_len]
/-- Copies, of which one is stored anew. -/
theorem CpAt.set {B B' : Nat} {w : World} {g n cap : Nat} {ys : List Vc} {L : Vs} {i : Nat} {y : Vc} {a : Option Addr} {c : Nat} {ps : Bh}
    (h : CpAt B w (.slice (some ⟨g, 0, none⟩) n cap) ys L) (hy : ys[i]? = some y) (ho : OwnP B' w (.slice a ps.length c) ps) (hB : B ≤ B') (hg : g < B') :
    CpAt B (w.setCell ⟨g, i * 2 + 1, none⟩ (.slice a ps.length c)) (.slice (some ⟨g, 0, none⟩) n cap) (ys.set i ⟨y.line, a, c, ps⟩) (L.set i (y.line, ps)) := by
  have hgr : w.grownBy (w.setCell ⟨g, i * 2 + 1, none⟩ (.slice a ps.length c)) (some g) := grown_set (grown_refl _ _) _ _
  refine ⟨by rw [vsOf_set, h.vs], ?_, fun z hz => ?_⟩
  · rcases row_of_owns h.own with ⟨h1, h2⟩ | ⟨g', cap', h1, h2, h3⟩
    · injection h1 with h1; cases h1
    · injection h1 with h1 h4 h5
      injection h1 with h1
      injection h1 with h1
      subst h1 h4 h5
      have := owns_of_rowV (rowV_set h3 hy a c ps) h2
      rwa [List.length_set] at this
  · rcases List.mem_or_eq_of_mem_set hz with hz | rfl
    · obtain ⟨g1, g2⟩ := h.at_ z hz
      exact ⟨g1.kept hgr (fun r e => g2 r (by rw [← e]; rfl)), g2⟩
    · have hlt : ∀ r, a = some ⟨r, 0, none⟩ → B' ≤ r := fun r e => (World.ownsRow.lt ho r (by rw [e]; rfl)).1
      refine ⟨VcO.kept (x := ⟨y.line, a, c, ps⟩) ⟨c, ownsRow_mono ho hB⟩ hgr (fun r e ha => ?_), fun r e ha => ?_⟩
      · injection e with e
        have := hlt r ha
        omega
      · have h1 := hlt r ha
        have e2 : g = r := by injection e
        omega
  
theorem VcO.pts {B : Nat} {w : World} {x : Vc} (h : VcO B w x) : Pts w x.a x.ps := by
  obtain ⟨cap, ho⟩ := h
  exact owns_els pc_len ho
theorem CpAt.vin {B : Nat} {w : World} {va : Option Addr} {n cap : Nat} {ys : List Vc} {L : Vs} (h : CpAt B w (.slice va n cap) ys L) (hG : GoodV L) : n = ys.length ∧ VIn w va ys := by
  have hm : ∀ x ∈ ys, (x.line, x.ps) ∈ L := fun x hx => by rw [← h.vs]; exact List.mem_map.2 ⟨x, hx, rfl⟩
  obtain ⟨a', c', e, -, hl1, hl2, -⟩ := own_parts h.own
  injection e with e1 e2 e3
  subst e1 e2 e3
  refine ⟨rfl, owns_els vc_len h.own, fun x hx => (h.at_ x hx).1.pts, fun x h => ⟨hG.wf _ (hm x h), fun q hq => (hG.inn _ (hm x h)).wf q hq⟩, Nat.le_trans hl1 hl2, fun x hx => ?_⟩
  obtain ⟨c, hc⟩ := (h.at_ x hx).1
  obtain ⟨_, _, _, -, h1, h2, -⟩ := own_parts hc
  exact Nat.le_trans h1 h2
theorem CpAt.get {B : Nat} {w : World} {v : Value} {ys xs : List Vc} {i : Nat} {x : Vc} (h : CpAt B w v ys (vsOf xs)) (hx : xs[i]? = some x) : ∃ y, ys[i]? = some y ∧ y.line = x.line ∧ y.ps = x.ps := by
  have h1 : (vsOf ys)[i]? = some (x.line, x.ps) := by rw [h.vs]; unfold vsOf; rw [List.getElem?_map, hx]; rfl
  unfold vsOf at h1
  rw [List.getElem?_map] at h1
  obtain ⟨y, h2, h3⟩ := Option.map_eq_some_iff.1 h1
  injection h3 with h3 h4
  exact ⟨y, h2, h3, h4⟩
theorem CpAt.below {B : Nat} {w w' : World} {v : Value} {ys : List Vc} {L : Vs} (h : CpAt B w v ys L) (hb : Below w.heap.size w w') : CpAt B w' v ys L :=
  ⟨h.vs, ownsRow_below h.own hb (Nat.le_refl _), fun y hy => ⟨(h.at_ y hy).1.below hb, (h.at_ y hy).2⟩⟩
/-- Copies behind a pointer: the reference's vectors. -/
theorem CpAt.ref {B p : Nat} {w : World} {va : Option Addr} {n cap : Nat} {ys : List Vc} {L : Vs} (h : CpAt B w (.slice va n cap) ys L) (hG : GoodV L) (hp : w.heap[p]? = some (.cells #[.slice va n cap] (57) (0, 0))) : RefIs w p va cap ys L := by
  obtain ⟨rfl, hv⟩ := h.vin hG
  exact ⟨hp, hv, h.vs⟩
/-- The reference's new vectors, of which a line's points may be stored anew. -/
structure NAt (B q g n cap : Nat) (u : World) (ys : List Vc) (L : Vs) : Prop where
  cp : CpAt B u (.slice (some ⟨g, 0, none⟩) n cap) ys L
  blk : u.heap[q]? = some (.cells #[.slice (some ⟨g, 0, none⟩) n cap] (57) (0, 0))
  lt : g < q
  lb : B ≤ g
theorem NAt.below {B q g n cap : Nat} {u u' : World} {ys : List Vc} {L : Vs} (h : NAt B q g n cap u ys L) (hb : Below u.heap.size u u') : NAt B q g n cap u' ys L := ⟨h.cp.below hb, blk_below h.blk hb (lt_of_blk h.blk), h.lt, h.lb⟩
theorem NAt.row {B q g n cap : Nat} {u : World} {ys : List Vc} {L : Vs} (h : NAt B q g n cap u ys L) : n = ys.length ∧ Row vc 2 (32) u g cap ys := by
  rcases row_of_owns h.cp.own with ⟨h1, _⟩ | ⟨g', cap', h1, _, h3⟩
  · injection h1 with h1; cases h1
  · injection h1 with h1 h4 h5
    injection h1 with h1
    injection h1 with h1
    subst h1 h4 h5
    exact ⟨rfl, h3⟩
theorem NAt.cells {B q g n cap : Nat} {u : World} {ys : List Vc} {L : Vs} (h : NAt B q g n cap u ys L) {i : Nat} {y : Vc} (hy : ys[i]? = some y) :
    u.cell? ⟨q, 0, none⟩ = some (.slice (some ⟨g, 0, none⟩) n cap) ∧ u.cell? ⟨g, i * 2 + 1, none⟩ = some (.slice y.a y.ps.length y.c) ∧ u.frozen? ⟨g, i * 2 + 1, none⟩ = false ∧ Pts u y.a y.ps := by
  obtain ⟨hi, rfl⟩ := List.getElem?_eq_some_iff.1 hy
  have h0 := cell_of_blk h.blk 0
  simp at h0
  exact ⟨h0, h.row.2.cell vc_len i hi 1 _ rfl, h.row.2.frozen _, (h.cp.at_ _ (List.getElem_mem hi)).1.pts⟩
/-- A call that laid points, then the store. -/
theorem NAt.put {B q g n cap : Nat} {W u : World} {ys : List Vc} {L : Vs} (h : NAt B q g n cap W ys L) {i : Nat} {y : Vc} (hy : ys[i]? = some y) {a : Option Addr} {c k : Nat} {ps : Bh} (hb : Below W.heap.size W u) (ho : OwnP W.heap.size u (.slice a k c) ps) (hk : k = ps.length) (hB : B ≤ W.heap.size) :
    NAt B q g n cap (u.setCell ⟨g, i * 2 + 1, none⟩ (.slice a k c)) (ys.set i ⟨y.line, a, c, ps⟩) (L.set i (y.line, ps)) ∧ ∀ w0 : World, w0.heap.size ≤ B → Below w0.heap.size w0 W → Below w0.heap.size w0 (u.setCell ⟨g, i * 2 + 1, none⟩ (.slice a k c)) := by
  subst hk
  have h' := h.below hb
  have hq := lt_of_blk h.blk
  have hl := h.lt
  refine ⟨⟨h'.cp.set hy ho hB (by omega), blk_setCell_other h'.blk (by show q ≠ g; omega) _, h.lt, h.lb⟩, fun w0 h0 hw => ?_⟩
  have h1 : Below w0.heap.size w0 u := hw.trans (hb.mono hw.size)
  exact h1.grown (grown_set (grown_refl _ _) _ _ : u.grownBy _ (some g)) h1.size (fun k e => by injection e with e; have := h.lb; omega)
theorem NAt.ref {B q g n cap : Nat} {u : World} {ys : List Vc} {L : Vs} (h : NAt B q g n cap u ys L) (hG : GoodV L) : RefIs u q (some ⟨g, 0, none⟩) cap ys L := h.cp.ref hG h.blk
def RefPost (r : Int × Vs) (w : World) (e : Ending) (w' : World) : Prop :=
  ∃ v, e = .returned (.tuple #[v, .int .i64 r.1]) ∧ (r.1 = 0 → ∃ p la lc xs, v = .pointer (some ⟨p, 0, none⟩) ∧ RefIs w' p la lc xs r.2) ∧ (r.1 ≠ 0 → v = .pointer none) ∧ Below w.heap.size w w'
theorem refErr {r : Int × Vs} {w w' : World} (h : r.1 ≠ 0) (hb : Below w.heap.size w w') : RefPost r w (.returned (.tuple #[.pointer none, .int .i64 r.1])) w' := ⟨_, rfl, fun h0 => absurd h0 h, fun _ => rfl, hb⟩
theorem refOk {r : Int × Vs} {w w' : World} {p : Nat} {la : Option Addr} {lc : Nat} {xs : List Vc} (h0 : r.1 = 0) (h : RefIs w' p la lc xs r.2) (hb : Below w.heap.size w w') : RefPost r w (.returned (.tuple #[.pointer (some ⟨p, 0, none⟩), .int .i64 r.1])) w' :=
  ⟨_, rfl, fun _ => ⟨p, la, lc, xs, rfl, h⟩, fun h1 => absurd h0 h1, hb⟩
end Go.Proofs.Ytnnpheklgdbohaa
