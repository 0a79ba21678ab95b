/- views.History's entries: append, Clip; SortFunc at what a call owns. No condition. -/
import Derived.Test.YtenocakpipppiaaGreatDoorH4
namespace Go.Proofs.YtenocakpipppiaaGreatDoor
open Go.RowKit Go.Shelf Go.Herb Go.Sort

/-- A fact's entry. -/
def ec (x : Fc) : List Value := [.int .u32 x.valid, .int .u64 x.seq, .int .u8 x.kind, .string x.val]
theorem ec_len (x : Fc) : (ec x).length = 4 := rfl
def OwnE (B : Nat) (w : World) (v : Value) (xs : List Fc) : Prop := w.ownsRow B 71 4 v xs.length (xs.flatMap ec)
theorem OwnE.below {B : Nat} {w w' : World} {v : Value} {ts : List Fc} (h : OwnE B w v ts) (hb : Below w.heap.size w w') : OwnE B w' v ts := ownsRow_below h hb (Nat.le_refl _)
theorem OwnE.els {B : Nat} {w : World} {v : Value} {ss : List Fc} (h : OwnE B w v ss) : ∃ a cap, v = .slice a ss.length cap ∧ ss.length ≤ cap ∧ Els ec 4 w a ss := els_of_owns ec_len h
theorem Tryz.info71 : (Tryz.prog.info? 71).map (fun i => (i.zero, i.size, i.bytes)) = some (some (.agg #[.int .u32 0, .int .u64 0, .int .u8 0, .string .empty]), 4, 40) := by kernel_rfl

theorem run_append_entry (w : World) (B : Nat) (v : Value) (ss : List Fc) (vb : Nat) (p : Fc) (ho : OwnE B w v ss) (hb : w.heap[vb]? = some (.cells #[.int .u32 p.valid, .int .u64 p.seq, .int .u8 p.kind, .string p.val] 71 (0, 0))) (hx : ss.length < 1000000) (hB : B ≤ w.heap.size) (ty : TypeId) :
    ∃ v' w', (Builtin.append_ #[41, 41] ty #[v, .slice (some ⟨vb, 0, none⟩) 1 1]).run Tryz.prog w = .ok v' w' ∧ OwnE B w' v' (ss ++ [p]) ∧ w.grownBy w' v.ownBlock := by
  obtain ⟨i0, hin, hz0, hz1, hz2⟩ := info_parts Tryz.info71
  obtain ⟨v', w', hr, h2, h3, h4⟩ := run_append_own (P := Tryz.prog) w B 41 ty 71 i0 _ 4 40 Tryz.underlying41 hin hz0 hz1 hz2 rfl (by decide) v ss.length (ss.flatMap ec) ho ⟨vb, 0, none⟩ 1 1 (ec p) rfl (fun j u hj => by
      have : ((⟨vb, 0, none⟩ : Addr).add j) = ⟨vb, 0 + j, none⟩ := addr_add _ _ _
      rw [this, Nat.zero_add, cell_of_blk hb]
      simpa [ec] using hj) (by intro v hv; simp [ec] at hv; rcases hv with rfl | rfl | rfl | rfl <;> rfl) (by unfold maxLen; omega) (by omega) hB
  refine ⟨v', w', hr, ?_, h3⟩
  unfold OwnE
  rw [List.length_append, List.flatMap_append]
  simpa using h2

theorem clipE_any (a : Option Addr) (cap n : Nat) (w : World) (hn : a = none → n = 0 ∧ cap = 0) (hl : n < 1000000) (hle : n ≤ cap) (hm : cap ≤ maxLen) :
    Calls Tryz.prog 35 #[.slice a n cap] w fun e w' => e = .returned (.slice a n n) ∧ w = w' := by
  cases a with
  | none =>
    obtain ⟨rfl, rfl⟩ := hn rfl
    clear hn
    go_enter Tryz.func35, Tryz.ntmps35
    go_wp2
    go_ret
    exact ⟨rfl, rfl⟩
  | some ad =>
    clear hn
    unfold maxLen at hm
    go_enter Tryz.func35, Tryz.ntmps35
    go_wp2
    go_ret
    exact ⟨rfl, rfl⟩

/-- SortFunc at what a call owns. -/
theorem sortOwn_any (B : Nat) (v : Value) (xs : List Fc) (w : World) (hO : OwnF B w v xs) (hx : xs.length < 1000000) :
    Calls Tryz.prog 33 #[v, .func (.func 34) #[] #[]] w fun e w' => e = .returned (.tuple #[]) ∧ ∃ ys : List Fc, ys.Perm xs ∧ ys.Pairwise (fun a b => ¬ LtF b a) ∧ OwnF B w' v ys ∧ w.grownBy w' v.ownBlock := by
  rcases row_of_owns hO with ⟨rfl, rfl⟩ | ⟨g, cap, rfl, hg, hR⟩
  · refine (sortFunc_none none 0 _ w).mono ?_
    rintro e w' ⟨rfl, rfl⟩
    exact ⟨rfl, [], List.Perm.refl _, List.Pairwise.nil, hO, grown_refl _ _⟩
  · refine (sortFunc_any g cap xs w hR hx).mono ?_
    rintro e w' ⟨rfl, ys, h1, h2, h3, h4⟩
    refine ⟨rfl, ys, h1, h2, ?_, h4⟩
    have := h3.owns fc_len hg
    rw [h1.length_eq] at this
    unfold OwnF
    rw [h1.length_eq]
    exact this

theorem hist_len (key : ByteArray) (at_ : Int) (zs : List Fc) : (oldF key at_ zs).length + (newF key at_ zs).1.length ≤ zs.length := by
  have h : ∀ k, k ≤ zs.length → (oldF key at_ (zs.take k)).length + (newF key at_ (zs.take k)).1.length ≤ k := by
    intro k
    induction k with
    | zero => intro _; simp [oldF, newF]
    | succ k ih =>
      intro hk
      have h1 := ih (by omega)
      rw [List.take_succ_eq_append_getElem (by omega), oldF_snoc, newF_snoc]
      unfold newStep
      split
      · rename_i h2
        rw [if_neg (fun h3 => by have := h2.2; have := h3.2.1; omega), List.length_append, List.length_singleton]
        omega
      · split
        · simp only [List.length_append, List.length_singleton]
          omega
        · omega
  have h2 := h zs.length (Nat.le_refl _)
  rw [List.take_length] at h2
  exact h2

theorem own_not_cellsE {B : Nat} {w : World} {v : Value} {xs : List Fc} (h : OwnE B w v xs) {r : Nat} {o : Obj} (ho : w.heap[r]? = some o) (hc : o.isCells = false) : v.ownBlock ≠ some r := by
  intro e
  rcases h.2 with ⟨rfl, _⟩ | ⟨g, cap, cur, rfl, _, hg, _⟩
  · simp [Value.ownBlock] at e
  · simp [Value.ownBlock] at e
    rw [e, ho] at hg
    cases hg
    cases hc
theorem histDef6 {B D : Nat} {w5 w6 : World} {va : Value} {nw : List Fc} {o : Obj} (hO : OwnF B w5 va nw) (hD : w5.heap[D]? = some o) (hc : o.isCells = false) (hg : w5.grownBy w6 va.ownBlock) : w6.heap[D]? = some o :=
  (hg.block _ (lt_of_blk hD) (fun e => own_not_cells hO hD hc e.symm)).trans hD
theorem histEls {B D : Nat} {w : World} {v : Value} {xs : List Fc} (h : OwnE B w v xs) (hD : w.heap[D]? = some (.deferred (some []))) (o : Obj) : OwnE B (w.putObj D o) v xs := by
  refine World.ownsRow.kept h (grownBy_putObj' w D o) ?_
  cases hv : v.ownBlock with
  | none => exact .inl rfl
  | some k => exact .inr (fun e => own_not_cellsE h hD rfl (by rw [hv]; exact e))

def HistPost (zs nw : List Fc) (w : World) (e : Ending) (w' : World) : Prop :=
  ∃ (a : Option Addr) (ys : List Fc), e = .returned (.slice a ys.length ys.length) ∧ ys.Perm (nw ++ (lastM zs).map (·.2)) ∧ ys.Pairwise (fun x y => ¬ LtF y x) ∧ Els ec 4 w' a ys ∧ (a = none → ys = []) ∧ Below w.heap.size w w'
end Go.Proofs.YtenocakpipppiaaGreatDoor
