/- ref16: what copied lays (its walk is to come). Condition: fewer than 1000000 lines. -/
import Derived.Test.YtnnpheklgdbohaaY5
namespace Go.Proofs.Ytnnpheklgdbohaa
open Go.RowKit Go.Shelf Go.Herb

/-- 'append(nil, s..)': a copy of one's own. -/
theorem run_copy (w : World) (B : Nat) (a : Option Addr) (c n : Nat) (ps : Bh) (hP : Pts w a ps) (hn : ps.length = n) (hl : n < 1000000) (hB : B ≤ w.heap.size) (ty : TypeId) :
    ∃ v' w', (Builtin.append_ #[(30), (30)] ty #[.slice none 0 0, .slice a n c]).run Try.prog w = .ok v' w' ∧ OwnP B w' v' ps ∧ Below w.heap.size w w' := by
  subst hn
  obtain ⟨i0, hin, hz0, hz1, hz2⟩ := info_parts infoP
  have ho : OwnP B w (.slice none 0 0) [] := World.ownsRow_nil _ _ _ _
  cases a with
  | none =>
    have h0 : ps = [] := by
      cases ps with
      | nil => rfl
      | cons x xs => obtain ⟨b, o, h, _⟩ := hP.get 0 (by simp); cases h
    subst h0
    refine ⟨.slice none 0 0, w, ?_, ho, Below.refl _ _⟩
    have hu := Try.underlying30
    simp [Builtin.append_, run_underlying hu, sizeOf, typeInfo, hin, Builtin.lenOf, Builtin.firstCells]
  | some ad =>
    obtain ⟨v', w', hr, h2, h3, h4⟩ := run_append_own (P := Try.prog) w B (30) ty (34) i0 _ 2 16 Try.underlying30 hin hz0 hz1 hz2 rfl (by decide) (.slice none 0 0) 0 [] ho ad ps.length c (ps.flatMap pc) (flatMap_len pc_len _) (hP.flat pc_len (by decide)) (fun u hu => by
      obtain ⟨q, _, hq⟩ := List.mem_flatMap.1 hu
      exact pc_one q u hq) (by unfold maxLen; omega) (by omega) hB
    refine ⟨v', w', hr, ?_, h3.os, h3.tape, h3.output, h3.size, fun k hk => h3.block k hk (by simp [Value.ownBlock])⟩
    unfold OwnP
    simpa using h2
/-- The points lie in a block of the call's own, or there are none. -/
def VcO (B : Nat) (w : World) (x : Vc) : Prop := ∃ c, OwnP B w (.slice x.a x.ps.length c) x.ps
theorem VcO.kept {B : Nat} {w w' : World} {x : Vc} {row : Option Nat} (h : VcO B w x) (hg : w.grownBy w' row) (hr : ∀ r, row = some r → x.a ≠ some ⟨r, 0, none⟩) : VcO B w' x := by
  obtain ⟨cap, ho⟩ := h
  refine ⟨cap, World.ownsRow.kept ho hg ?_⟩
  rcases row_of_owns ho with ⟨h1, _⟩ | ⟨g, cap, h1, _, _⟩
  · rw [h1]; exact .inl rfl
  · refine .inr (fun e => ?_)
    rw [h1] at e
    have h2 : x.a = some ⟨g, 0, none⟩ := by injection h1
    exact hr g e.symm h2
theorem VcO.below {B : Nat} {w w' : World} {x : Vc} (h : VcO B w x) (hb : Below w.heap.size w w') : VcO B w' x := by
  obtain ⟨cap, ho⟩ := h
  exact ⟨cap, ownsRow_below ho hb (Nat.le_refl _)⟩
/-- Copies, laid by the call. -/
structure CpAt (B : Nat) (w : World) (v : Value) (ys : List Vc) (L : Vs) : Prop where
  vs : vsOf ys = L
  own : OwnV B w v ys
  at_ : ∀ y ∈ ys, VcO B w y ∧ ∀ r, v.ownBlock = some r → y.a ≠ some ⟨r, 0, none⟩
theorem CpAt.add {B : Nat} {wr w1 : World} {v : Value} {ys : List Vc} {L : Vs} {line : Int} {ps : Bh} {a1 : Option Addr} {c1 : Nat} (h : CpAt B wr v ys L) (hB : B ≤ wr.heap.size) (hb : Below wr.heap.size wr w1)
    (ho : OwnP wr.heap.size w1 (.slice a1 ps.length c1) ps) (hl : ys.length < 1000000) :
    ∃ v' w9, (∀ ty, (Builtin.append_ #[(22), (22)] ty #[v, .slice (some ⟨w1.heap.size, 0, none⟩) 1 1]).run Try.prog (w1.alloc (.cells #[.int .u64 line, .slice a1 ps.length c1] (32))) = .ok v' w9) ∧ CpAt B w9 v' (ys ++ [⟨line, a1, c1, ps⟩]) (L ++ [(line, ps)]) ∧ (∀ w0 : World, w0.heap.size = B → Below B w0 wr → Below B w0 w9) := by
  obtain ⟨Z, hZ⟩ : ∃ Z : World, Z = w1.alloc (.cells #[.int .u64 line, .slice a1 ps.length c1] (32)) := ⟨_, rfl⟩
  have hZb : Below w1.heap.size w1 Z := by rw [hZ]; exact (Below.refl _ _).alloc (Nat.le_refl _) _
  have hZx : Z.heap[w1.heap.size]? = some (.cells #[.int .u64 line, .slice a1 ps.length c1] (32) (0, 0)) := by rw [hZ]; exact blk_new_at rfl _
  have hZ2 : Below wr.heap.size wr Z := hb.trans (hZb.mono hb.size)
  have hs1 := hb.size
  have hs2 := hZb.size
  obtain ⟨v', w9, hr, h2, hg, h5⟩ := run_append_v Z B v ys w1.heap.size ⟨line, a1, c1, ps⟩ (ownsRow_below h.own hZ2 (Nat.le_refl _)) hZx hl (by omega) (22)
  have hvb : ∀ k, v.ownBlock = some k → B ≤ k ∧ k < wr.heap.size := fun k e => World.ownsRow.lt h.own k e
  have hab : ∀ r, a1 = some ⟨r, 0, none⟩ → wr.heap.size ≤ r ∧ r < w1.heap.size := fun r e => World.ownsRow.lt ho r (by rw [e]; rfl)
  rw [← hZ]
  refine ⟨v', w9, fun _ => hr, ⟨by rw [← h.vs]; simp [vsOf], h2, fun y hy => ?_⟩, fun w0 e0 hw => ?_⟩
  · rcases List.mem_append.1 hy with hy | hy
    · obtain ⟨g1, g2⟩ := h.at_ y hy
      refine ⟨(g1.below hZ2).kept hg g2, fun r e => ?_⟩
      rcases h5 with h5 | h5
      · exact g2 r (by rw [← h5]; exact e)
      · rw [h5] at e
        injection e with e
        obtain ⟨cp, hc⟩ := g1
        intro ha
        have := (World.ownsRow.lt hc r (by rw [ha]; rfl)).2
        omega
    · rw [List.mem_singleton.1 hy]
      refine ⟨VcO.kept (x := ⟨line, a1, c1, ps⟩) ⟨c1, ownsRow_mono (ownsRow_below ho hZb (Nat.le_refl _)) hB⟩ hg (fun r e ha => by have := (hvb r e).2; have := (hab r ha).1; omega), fun r e ha => ?_⟩
      have h3 := hab r ha
      rcases h5 with h5 | h5
      · have := (hvb r (by rw [← h5]; exact e)).2; omega
      · rw [h5] at e; injection e with e; omega
  · exact (hw.trans (hZ2.mono hB)).grown hg (by have := hw.size; omega) (fun k e => (hvb k e).1)
end Go.Proofs.Ytnnpheklgdbohaa
