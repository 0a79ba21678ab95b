/- Contract of picks.After at a plan whose tables stand on the shelf. Condition: levels of at most 1000 tables; no table or one is put in. -/
import Derived.Test.YthdjokcjajlnnaaA4b
import Derived.Test.YthdjokcjajlnnaaW4
import Derived.Deep.DeepCutAuto
import Derived.Deep.CutBlock
import Derived.Laws.OwnMore
namespace Go.Proofs.Ythdjokcjajlnnaa
open Go.RowKit Go.Herb

/-- What a plan takes from level i. -/
def some3 (f t : Nat) (ins bs : List T) (i : Nat) : List T := (if i = f then ins else []) ++ (if i = t then bs else [])

def upd (f : Nat → Value) (k : Nat) (v : Value) (i : Nat) : Value := if i = k then v else f i

theorem three_cell {w : World} {g : Nat} {line : Value} {f : Nat → Value} {t : TypeId} (h : w.heap[g]? = some (.cells #[line, f 0, f 1, f 2] t (0, 0))) (k : Nat) (hk : k < 3) : w.cell? ⟨g, 1 + k, none⟩ = some (f k) := by
  rw [cell_of_blk h]
  have : k = 0 ∨ k = 1 ∨ k = 2 := by omega
  rcases this with rfl | rfl | rfl <;> rfl

theorem three_set {w : World} {g : Nat} {line : Value} {f : Nat → Value} {t : TypeId} (h : w.heap[g]? = some (.cells #[line, f 0, f 1, f 2] t (0, 0))) (k : Nat) (hk : k < 3) (v : Value) :
    (w.setCell ⟨g, 1 + k, none⟩ v).heap[g]? = some (.cells #[line, upd f k v 0, upd f k v 1, upd f k v 2] t (0, 0)) := by
  rw [blk_setCell h]
  have : k = 0 ∨ k = 1 ∨ k = 2 := by omega
  rcases this with rfl | rfl | rfl <;> rfl

theorem trio_cell {w : World} {g : Nat} {f : Nat → Value} {t : TypeId} (h : w.heap[g]? = some (.cells #[f 0, f 1, f 2] t (0, 0))) (k : Nat) (hk : k < 3) : w.cell? ⟨g, k, none⟩ = some (f k) := by
  rw [cell_of_blk h]
  have : k = 0 ∨ k = 1 ∨ k = 2 := by omega
  rcases this with rfl | rfl | rfl <;> rfl

theorem trio_set {w : World} {g : Nat} {f : Nat → Value} {t : TypeId} (h : w.heap[g]? = some (.cells #[f 0, f 1, f 2] t (0, 0))) (k : Nat) (hk : k < 3) (v : Value) :
    (w.setCell ⟨g, k, none⟩ v).heap[g]? = some (.cells #[upd f k v 0, upd f k v 1, upd f k v 2] t (0, 0)) := by
  rw [blk_setCell h]
  have : k = 0 ∨ k = 1 ∨ k = 2 := by omega
  rcases this with rfl | rfl | rfl <;> rfl

/-- A row of tables of the call's own. -/
def Own (B : Nat) (w : World) (v : Value) (ts : List T) : Prop := w.ownsRow B 45 4 v ts.length (ts.flatMap tc)

theorem Own.below {B : Nat} {w w' : World} {v : Value} {ts : List T} (h : Own B w v ts) (hb : Below w.heap.size w w') : Own B w' v ts := ownsRow_below h hb (Nat.le_refl _)
theorem Own.set {B : Nat} {w : World} {v : Value} {ts : List T} (h : Own B w v ts) {b o : Nat} (hb : b < B) (u : Value) : Own B (w.setCell ⟨b, o, none⟩ u) v ts := ownsRow_setCell_below h hb u
theorem Own.nil (B : Nat) (w : World) : Own B w (.slice none 0 0) [] := World.ownsRow_nil _ _ _ _

theorem Own.mono {B B' : Nat} {w : World} {v : Value} {ts : List T} (h : Own B w v ts) (hb : B' ≤ B) : Own B' w v ts := ownsRow_mono h hb

/-- What is owned stays so where its blocks stay. -/
theorem Own.mid {B : Nat} {w w' : World} {v : Value} {ts : List T} (h : Own B w v ts) (hb : ∀ b, B ≤ b → b < w.heap.size → w'.heap[b]? = w.heap[b]?) : Own B w' v ts := by
  obtain ⟨h1, h2 | ⟨g, cap, cur, hv, hg, hh, r⟩⟩ := h
  · exact ⟨h1, .inl h2⟩
  · exact ⟨h1, .inr ⟨g, cap, cur, hv, hg, (hb g hg (lt_of_blk hh)).trans hh, r⟩⟩

/-- A row of the call's own, open. -/
theorem Own.open {B : Nat} {w : World} {v : Value} {ts : List T} (h : Own B w v ts) : ∃ a cap, v = .slice a ts.length cap ∧ ts.length ≤ cap ∧ Tabs w a ts ∧ (a = none → ts.length = 0 ∧ cap = 0) := by
  rcases row_of_owns h with ⟨rfl, rfl⟩ | ⟨g, cap, rfl, _, hR⟩
  · exact ⟨none, 0, rfl, Nat.le_refl _, Els.nil _ _ _ _, fun _ => ⟨rfl, rfl⟩⟩
  · exact ⟨_, cap, rfl, hR.le, hR.els tc_len, fun h => by cases h⟩

theorem Own.room {B : Nat} {w : World} {v : Value} {ts : List T} (h : Own B w v ts) : ∃ a cap, v = .slice a ts.length cap ∧ ts.length ≤ cap ∧ cap ≤ maxLen ∧ Tabs w a ts ∧ (a = none → ts.length = 0 ∧ cap = 0) := by
  rcases row_of_owns h with ⟨rfl, rfl⟩ | ⟨g, cap, rfl, _, hR⟩
  · exact ⟨none, 0, rfl, Nat.le_refl _, Nat.zero_le _, Els.nil _ _ _ _, fun _ => ⟨rfl, rfl⟩⟩
  · exact ⟨_, cap, rfl, hR.le, hR.max, hR.els tc_len, fun h => by cases h⟩

/-- What Clip makes of a slice. -/
def clipV : Value → Value
  | .slice a n _ => .slice a n n
  | v => v

/-- The shelf behind a plan. -/
def Behind (line : Int) (lv : Nat → Lv) (f t : Nat) (ins bs l : List T) (w : World) (e : Ending) (w' : World) : Prop :=
  ∃ m : Nat → Lv, e = .returned (.tuple #[.agg #[.int .u64 line, sv (m 0), sv (m 1), sv (m 2)], .int .i64 0]) ∧
    (∀ i, i < 3 → Tabs w' (m i).a (m i).ts ∧ ((m i).a = none → (m i).cap = 0) ∧ (m i).ts.length ≤ (m i).cap) ∧
    (∀ i, i < 3 → (some3 f t ins bs i ++ (m i).ts).Perm ((lv i).ts ++ if i = t then l else [])) ∧ Below w.heap.size w w'

/-- A level from which the plan's tables are taken. -/
def Done (B : Nat) (w : World) (v : Value) (sm l ys : List T) : Prop :=
  (∃ a cap, v = .slice a ys.length cap ∧ l.length ≤ cap) ∧ (sm ++ ys).Perm l ∧ Own B w v ys

theorem run_append_tabs (w : World) (B : Nat) (v : Value) (xs : List T) (ab : Option Addr) (cb : Nat) (bs : List T) (ho : Own B w v xs) (hT : Tabs w ab bs) (hx : xs.length < 1000000) (hb : bs.length < 1000000) (hn : ab = none → cb = 0) (hB : B ≤ w.heap.size) (ty : TypeId) :
    ∃ v' w', (Builtin.append_ #[23, 23] ty #[v, .slice ab bs.length cb]).run Try.prog w = .ok v' w' ∧ Own B w' v' (xs ++ bs) ∧ w.grownBy w' v.ownBlock := by
  obtain ⟨i0, hin, hz0, hz1, hz2⟩ := info_parts Try.info45
  cases ab with
  | none =>
    have h0 : bs = [] := by
      cases bs with
      | nil => rfl
      | cons x xs => obtain ⟨b, o, h, _⟩ := hT.get 0 (by simp); cases h
    subst h0
    rw [hn rfl]
    obtain ⟨av, cv, rfl, hle, -⟩ := els_of_owns tc_len ho
    have := run_append_owned_none (P := Try.prog) w B 23 ty 45 i0 4 Try.underlying23 hin _ _ _ ho
    exact ⟨_, w, this, by simpa using ho, grown_refl _ _⟩
  | some ad =>
    obtain ⟨v', w', hr, h2, h3, h4⟩ := run_append_own (P := Try.prog) w B 23 ty 45 i0 _ 4 48 Try.underlying23 hin hz0 hz1 hz2 rfl (by decide) v xs.length (xs.flatMap tc) ho ad bs.length cb (bs.flatMap tc) (flatMap_len tc_len _) (hT.flat tc_len (by decide)) (tc_flat_one _) (by unfold maxLen; omega) (by omega) hB
    refine ⟨v', w', hr, ?_, h3⟩
    unfold Own
    rw [List.length_append, List.flatMap_append]
    exact h2

/-- What is put in: no table, or one in a block of its own. -/
def OneOrNone (w : World) (al : Option Addr) (cl : Nat) (l : List T) : Prop :=
  (al = none ∧ cl = 0 ∧ l = []) ∨ ∃ x vb, l = [x] ∧ al = some ⟨vb, 0, none⟩ ∧ w.heap[vb]? = some (.cells (tc x).toArray 45 (0, 0))

theorem OneOrNone.below {w w' : World} {al : Option Addr} {cl : Nat} {l : List T} (h : OneOrNone w al cl l) (hb : Below w.heap.size w w') : OneOrNone w' al cl l := by
  rcases h with h | ⟨x, vb, h1, h2, h3⟩
  · exact .inl h
  · exact .inr ⟨x, vb, h1, h2, blk_below h3 hb (lt_of_blk h3)⟩

theorem run_append_one (w : World) (B : Nat) (v : Value) (xs : List T) (al : Option Addr) (cl : Nat) (l : List T) (ho : Own B w v xs) (hl : OneOrNone w al cl l) (hx : xs.length < 1000000) (hB : B ≤ w.heap.size) (ty : TypeId) :
    ∃ v' w', (Builtin.append_ #[23, 23] ty #[v, .slice al l.length cl]).run Try.prog w = .ok v' w' ∧ Own B w' v' (xs ++ l) ∧ w.grownBy w' v.ownBlock ∧ (v'.ownBlock = v.ownBlock ∨ v'.ownBlock = some w.heap.size) := by
  rcases hl with ⟨rfl, rfl, rfl⟩ | ⟨x, vb, rfl, rfl, hb⟩
  · obtain ⟨i0, hin, hz0, hz1, hz2⟩ := info_parts Try.info45
    exact ⟨v, w, run_append_owned_none (P := Try.prog) w B 23 ty 45 i0 4 Try.underlying23 hin _ _ _ ho, by simpa using ho, grown_refl _ _, .inl rfl⟩
  · obtain ⟨v', w', h1, h2, h3⟩ := run_append_tabs w B v xs (some ⟨vb, 0, none⟩) cl [x] ho (els_of_blk1 hb) hx (by simp) (fun h => by cases h) hB ty
    exact ⟨v', w', h1, h2, h3, append_block w B v xs ⟨vb, 0, none⟩ cl [x] ho (els_of_blk1 hb) hx (by simp) (by simp) ty v' w' h1⟩

/-- What Insert leaves of a row of the call's own. -/
def PutOwn (B : Nat) (v : Value) (xs l : List T) (w : World) (e : Ending) (w' : World) : Prop :=
  ∃ (a : Option Addr) (n cap : Nat) (ys : List T), e = .returned (.slice a n cap) ∧ ys.Perm (xs ++ l) ∧ Own B w' (.slice a n cap) ys ∧ w.grownBy w' v.ownBlock ∧ (Value.slice a n cap).ownBlock = v.ownBlock

theorem insert_any (B : Nat) (a : Option Addr) (cap : Nat) (xs : List T) (p : Int) (al : Option Addr) (cl : Nat) (l : List T) (w : World) (ho : Own B w (.slice a xs.length cap) xs) (hl : OneOrNone w al cl l) (hB : ∀ vb, al = some ⟨vb, 0, none⟩ → vb < B) (hr : xs.length + 1 ≤ cap) (hx : xs.length < 1000000) (h0 : 0 ≤ p) (h1 : p ≤ xs.length) :
    Calls Try.prog 24 #[.slice a xs.length cap, .int .i64 p, .slice al l.length cl] w (PutOwn B (.slice a xs.length cap) xs l w) := by
  rcases row_of_owns ho with ⟨h, hn⟩ | ⟨g, cap', h, hg, hR⟩
  · injection h with h2 h3 h4
    omega
  · injection h with h2 h3 h4
    subst h2
    subst h4
    rcases hl with ⟨rfl, rfl, rfl⟩ | ⟨x, vb, rfl, rfl, hb⟩
    · refine (insert0 _ _ _ p w (fun h => by cases h) hR.le hx h0 h1).mono ?_
      rintro e w' ⟨rfl, rfl⟩
      exact ⟨_, _, _, xs, rfl, by simp, ho, grown_refl _ _, rfl⟩
    · have hne : vb ≠ g := by have := hB vb rfl; omega
      obtain ⟨i, rfl⟩ : ∃ i : Nat, p = i := ⟨p.toNat, by omega⟩
      have hfin : ∀ e w', PutIn g cap xs x w e w' → PutOwn B (.slice (some ⟨g, 0, none⟩) xs.length cap) xs [x] w e w' := by
        rintro e w' ⟨rfl, ys, hp, hR', hg'⟩
        have hyl : ys.length = xs.length + 1 := by rw [hp.length_eq]; simp
        refine ⟨_, _, _, ys, rfl, hp.trans (by simpa using (List.perm_append_comm (l₁ := [x]) (l₂ := xs))), ?_, hg', rfl⟩
        rw [← hyl]
        exact hR'.owns tc_len hg
      by_cases hi : i < xs.length
      · exact (insert1_shift g cap xs i x vb cl w hR hx hr hb hne hi).mono hfin
      · have : i = xs.length := by omega
        subst this
        exact (insert1_end g cap xs x vb cl w hR hx hr (els_of_blk1 hb)).mono hfin

/-- append, as one step of a region that draws, its run known by an equation. -/
theorem step_append_runI {P : Program} {ops : Array Oper} {o : Oper} {a : Act} {w : World} {K : Act → World → Prop} {Q : Exit → Act → World → Prop} {E : Prop}
    (hg : o.guard = none) (d x : Operand) (dT sT : TypeId) (hop : o.op = Op.call { callee := Callee.builtin Builtin.append, args := #[d, x], argTypes := #[dT, sT] })
    (v u : Value) (hd : a.eval d = v) (hx : a.eval x = u) {v' : Value} {w' : World} (hr : (Builtin.append_ #[dT, sT] o.type #[v, u]).run P w = .ok v' w') (hK : K (a.put o.dst v') w') :
    if Region.wanted o (yielded ops a.tmps) = true then Oper.wp P o a w K Q else E := by
  have hw : Region.wanted o (yielded ops a.tmps) = true := by simp [Region.wanted, hg]
  rw [if_pos hw]
  unfold Oper.wp
  simp [execOp, hop, resolve, invoke, builtin, hd, hx, hr, Result.andThen]
  exact hK

set_option maxHeartbeats 4000000 in
set_option maxRecDepth 100000 in
theorem after_any (line : Int) (lv : Nat → Lv) (f t : Nat) (hf : f < 3) (ht : t < 3) (hft : f ≤ t) (hft1 : t ≤ f + 1) (ai : Option Addr) (ci : Nat) (ins : List T) (ab : Option Addr) (cb : Nat) (bs : List T) (al : Option Addr) (cl : Nat) (l : List T) (w : World)
    (hlv : ∀ i, i < 3 → LvOk w (lv i)) (hI : Tabs w ai ins) (hil : ins.length < 1000000) (hin0 : ai = none → ci = 0) (hBs : Tabs w ab bs) (hbl : bs.length < 1000000) (hbn0 : ab = none → cb = 0) (hins : ins ≠ []) (hl : OneOrNone w al cl l) (hrem : ∀ i, i < 3 → ∃ r, (some3 f t ins bs i ++ r).Perm (lv i).ts) :
    Calls Try.prog 11 #[.agg #[.int .u64 line, sv (lv 0), sv (lv 1), sv (lv 2)], .agg #[.int .i64 f, .int .i64 t, .slice ai ins.length ci, .slice ab bs.length cb], .slice al l.length cl] w (Behind line lv f t ins bs l w) := by
  have hw1 : IntKind.i64.wrap ((t : Int) - f) = (t : Int) - f := IntWalk.i64_in _ (by omega)
  have HL := Lib.hid hlv
  have HI := Lib.hid hI
  have HREM := Lib.hid hrem
  have HBS := Lib.hid hBs
  have HLL := Lib.hid hl
  clear hlv hI hBs hrem hl
  go_enter Try.func11, Try.ntmps11
  go_wp2_with fail
  clear hw1
  obtain ⟨W0, hW0⟩ : ∃ W0 : World, W0 = (((w.alloc (Obj.cells #[Value.int IntKind.u64 line, sv (lv 0), sv (lv 1), sv (lv 2)] 26)).alloc
          (Obj.cells #[Value.int IntKind.i64 ↑f, Value.int IntKind.i64 ↑t, Value.slice ai ins.length ci, Value.slice ab bs.length cb] 29)).alloc
      (Obj.cells #[Value.int IntKind.u64 line, Value.slice none 0 0, Value.slice none 0 0, Value.slice none 0 0] 26)) := ⟨_, rfl⟩
  have HB0 : Below w.heap.size w W0 := by rw [hW0]; go_grown
  have hp0 : W0.heap[w.heap.size + 1]? = some (.cells #[Value.int IntKind.i64 ↑f, Value.int IntKind.i64 ↑t, Value.slice ai ins.length ci, Value.slice ab bs.length cb] 29 (0, 0)) := by
    rw [hW0]
    exact blk_alloc (blk_new_at (by simp) _)
  have ho0 : W0.heap[w.heap.size + 1 + 1]? = some (.cells #[Value.int IntKind.u64 line, Value.slice none 0 0, Value.slice none 0 0, Value.slice none 0 0] 26 (0, 0)) := by
    rw [hW0]
    exact blk_new_at (by simp) _
  rw [← hW0]
  clear hW0
  obtain ⟨B, hB⟩ : ∃ B, B = w.heap.size := ⟨_, rfl⟩
  rw [← hB] at HB0 hp0 ho0 ⊢
  have HP0 := Lib.hid hp0
  have HO0 := Lib.hid ho0
  have HBE := Lib.hid hB
  clear hp0 ho0 hB
  go_loopg [58] 3 (fun gk iv wr => ∃ (k : Nat) (vs : Nat → Value), k + gk = 3 ∧ iv = .int .i64 k ∧ Below B w wr ∧ wr.heap[B + 1]? = some (.cells #[Value.int IntKind.i64 ↑f, Value.int IntKind.i64 ↑t, Value.slice ai ins.length ci, Value.slice ab bs.length cb] 29 (0, 0)) ∧
    wr.heap[B + 1 + 1]? = some (.cells #[Value.int IntKind.u64 line, vs 0, vs 1, vs 2] 26 (0, 0)) ∧ ∀ i, i < 3 → Own (B + 3) wr (vs i) (if i < k then (lv i).ts else []))
  case atStart => exact ⟨0, fun _ => .slice none 0 0, rfl, rfl, HB0, HP0.out, HO0.out, fun i _ => Own.nil _ _⟩
  case round =>
    obtain ⟨k, vs, hk, rfl, hB1, hp, ho, hv⟩ := hrel
    have HV := Lib.hid hv
    have HPL := Lib.hid hp
    have HO := Lib.hid ho
    have HBr := Lib.hid hB1
    have hsz := lt_of_blk ho
    clear hv hp ho hB1
    by_cases hlt : k < 3
    · have hix : ∀ W : World, (Instr.index 24 (.agg #[sv (lv 0), sv (lv 1), sv (lv 2)]) (.int .i64 k)).run Try.prog W = .ok (sv (lv k)) W := by
        have : k = 0 ∨ k = 1 ∨ k = 2 := by omega
        rcases this with rfl | rfl | rfl
        · exact fun _ => by kernel_rfl
        · exact fun _ => by kernel_rfl
        · exact fun _ => by kernel_rfl
      go_wp2_with fail
      have hok := (HL.out k hlt).ext (HBE.out ▸ HBr.out)
      refine (clone_any (lv k).a (lv k).cap (lv k).ts wr hok.tabs (by have := hok.len; omega) hok.nil0).mono ?_
      rintro e w1 ⟨v, rfl, hO1, hB1⟩
      obtain ⟨av, cv, rfl, -, -⟩ := els_of_owns tc_len hO1
      have ho1 := blk_below HO.out hB1 hsz
      have hp1 := blk_below HPL.out hB1 (by omega)
      have c0 := three_cell (f := vs) ho1 k hlt
      have f0 := frozen_of_blk ho1 (1 + k)
      have HV1 := Lib.hid (fun i hi => (HV.out i hi).below hB1 : ∀ i, i < 3 → Own (B + 3) w1 (vs i) (if i < k then (lv i).ts else []))
      have HO1 := Lib.hid ho1
      have HP1 := Lib.hid hp1
      have HB1 := Lib.hid (HBr.out.trans (hB1.mono (by omega)))
      have HN1 := Lib.hid (ownsRow_mono hO1 (by omega) : Own (B + 3) w1 (.slice av (lv k).ts.length cv) (lv k).ts)
      clear hO1 hB1 ho1 hp1 hix hok HV HO HPL HBr
      go_wp2_with fail
      go_roundg (gk - 1)
      case measure => omega
      case rel =>
        refine ⟨k + 1, upd vs k (.slice av (lv k).ts.length cv), by omega, by go_num, ?_, ?_, ?_, ?_⟩
        · have := HB1.out
          go_grown
        · exact blk_setCell_other HP1.out (by simp) _
        · exact three_set HO1.out k hlt _
        · intro i hi
          unfold upd
          by_cases hik : i = k
          · rw [if_pos hik, if_pos (by omega), hik]
            exact Own.set HN1.out (by omega) _
          · have := (HV1.out i hi).set (b := B + 1 + 1) (o := 1 + k) (by omega) (.slice av (lv k).ts.length cv)
            rw [if_neg hik]
            by_cases hl : i < k
            · rw [if_pos hl] at this
              rw [if_pos (by omega)]
              exact this
            · rw [if_neg hl] at this
              rw [if_neg (by omega)]
              exact this
    · have hk3 : k = 3 := by omega
      subst hk3
      have hv3 : ∀ i, i < 3 → Own (B + 3) wr (vs i) (lv i).ts := fun i hi => by have := HV.out i hi; rw [if_pos hi] at this; exact this
      have HV3 := Lib.hid hv3
      clear hv3 HV
      go_wp2_with fail
      obtain ⟨V, hV⟩ : ∃ V : World, V = wr.alloc (Obj.cells #[.slice none 0 0, .slice none 0 0, .slice none 0 0] 24) := ⟨_, rfl⟩
      have hBV : Below wr.heap.size wr V := by rw [hV]; go_grown
      obtain ⟨C, hC⟩ : ∃ C, C = wr.heap.size := ⟨_, rfl⟩
      have hs0 : V.heap[C]? = some (.cells #[.slice none 0 0, .slice none 0 0, .slice none 0 0] 24 (0, 0)) := by rw [hV, hC]; exact blk_new_at rfl _
      rw [← hV, ← hC]
      have hpV := blk_below HPL.out hBV (by omega)
      have hoV := blk_below HO.out hBV hsz
      have hCs := lt_of_blk hs0
      have HBV := Lib.hid (HBr.out.trans (hBV.mono (by omega)))
      have hBC : B + 1 + 1 < C := by omega
      have hn1 : ¬ C = B + 1 := by omega
      have hn2 : ¬ B + 1 = C := by omega
      have HCE := Lib.hid hC
      have HWV := Lib.hid (HCE.out ▸ hBV : Below C wr V)
      clear hBV hV hC HBr HO HPL
      obtain ⟨p0, p1, p2, p3, -⟩ := blk_cells4 hpV
      have HPV := Lib.hid hpV
      have HOV := Lib.hid hoV
      have HSV := Lib.hid hs0
      clear hpV hoV hs0
      have CIN := Lib.hid (clone_any ai ci ins V.drew (HI.out.ext (HBE.out ▸ HBV.out.drew)) hil hin0)
      go_region_held3 (fun w' => w'.cell? ⟨B + 1, 0, none⟩ = some (.int .i64 f) ∧ w'.cell? ⟨B + 1, 2, none⟩ = some (.slice ai ins.length ci)) (go_keep)
        (first | (go_at_call 19; refine (CIN.out).mono ?_; rintro e w1 ⟨vi, rfl, hO1, hB1'⟩; have hB1 : Below V.heap.size V w1 := (Below.refl _ _).drew.trans hB1'; clear hB1'; obtain ⟨av, cv, rfl, -, -⟩ := els_of_owns tc_len hO1; have HO1 := Lib.hid hO1; clear hO1; have q0 := (hB1.cell (p := ⟨B + 1, 0, none⟩) (by show B + 1 < _; omega)).trans p0; have q2 := (hB1.cell (p := ⟨B + 1, 2, none⟩) (by show B + 1 < _; omega)).trans p2; have d0 := trio_cell (f := fun _ => .slice none 0 0) (blk_below HSV.out hB1 hCs) f hf; have d1 := frozen_of_blk (blk_below HSV.out hB1 hCs) f))
      rename_i hheld
      clear hheld q0 q2 d0 d1 p0 p1 p2 p3 CIN
      obtain ⟨ss, hss⟩ : ∃ ss : Nat → Value, ss = upd (fun _ => .slice none 0 0) f (.slice av ins.length cv) := ⟨_, rfl⟩
      obtain ⟨V1, hV1⟩ : ∃ V1 : World, V1 = w1.setCell ⟨C, f, none⟩ (.slice av ins.length cv) := ⟨_, rfl⟩
      have hs1 : V1.heap[C]? = some (.cells #[ss 0, ss 1, ss 2] 24 (0, 0)) := by rw [hV1, hss]; exact trio_set (f := fun _ => .slice none 0 0) (blk_below HSV.out hB1 hCs) f hf _
      have hBw1 : Below C V w1 := hB1.mono (by omega)
      have hBV1 : Below C V V1 := by rw [hV1]; go_grown
      have hO1' : ∀ i, i < 3 → Own (C + 1) V1 (ss i) (if i = f then ins else []) := by
        intro i hi
        rw [hss]
        unfold upd
        by_cases h : i = f
        · rw [if_pos h, if_pos h, hV1]
          exact (Own.mono HO1.out (show C + 1 ≤ V.heap.size by omega)).set (by omega) _
        · rw [if_neg h, if_neg h]
          exact Own.nil _ _
      have hst : (t = f → ss t = .slice av ins.length cv) ∧ (t ≠ f → ss t = .slice none 0 0) := by
        rw [hss]
        unfold upd
        exact ⟨fun h => if_pos h, fun h => if_neg h⟩
      have hsi : ∀ i, i ≠ f → ss i = .slice none 0 0 := by
        intro i h
        rw [hss]
        exact if_neg h
      rw [← hV1]
      clear hV1 hss hBw1
      have hpV1 := blk_below HPV.out hBV1 (by omega)
      have hoV1 := blk_below HOV.out hBV1 (by omega)
      have hVs := hBV1.size
      have hls : (if t = f then ins else []).length < 1000000 := by
        have : (if t = f then ins else []).length ≤ ins.length := by split <;> simp
        omega
      obtain ⟨v2, V2, hrun, hO2, hg2⟩ := run_append_tabs V1.drew (C + 1) (ss t) (if t = f then ins else []) ab cb bs (hO1' t ht) (HBS.out.ext (HBE.out ▸ (HBV.out.trans (hBV1.mono (by omega))).drew)) hls hbl hbn0 (by show C + 1 ≤ V1.heap.size; omega) 23
      obtain ⟨a2, c2, rfl, -, -⟩ := els_of_owns tc_len hO2
      have hCV1 := lt_of_blk hs1
      have hrw : ∀ k, (ss t).ownBlock = some k → C + 1 ≤ k := fun k hk => (World.ownsRow.lt (hO1' t ht) k hk).1
      have hBV2 : Below C V V2 := hBV1.drew.grown hg2 (by show C ≤ V1.heap.size; omega) (fun k hk => by have := hrw k hk; omega)
      have hs2 : V2.heap[C]? = some (.cells #[ss 0, ss 1, ss 2] 24 (0, 0)) := (hg2.block C hCV1 (fun h => by have := hrw C h.symm; omega)).trans hs1
      have hO2' : ∀ i, i < 3 → i ≠ t → Own (C + 1) V2 (ss i) (if i = f then ins else []) := by
        intro i hi hne
        refine World.ownsRow.kept (w := V1.drew) (hO1' i hi) hg2 ?_
        by_cases h : i = f
        · have : t ≠ f := fun e => hne (h.trans e.symm)
          rw [hst.2 this]
          by_cases h2 : (ss i).ownBlock = none
          · exact .inl h2
          · exact .inr h2
        · rw [hsi i h]
          exact .inl rfl
      have hpV2 := blk_below HPV.out hBV2 (by omega)
      obtain ⟨p0, p1, p2, p3, -⟩ := blk_cells4 hpV1
      have d0 := trio_cell hs1 t ht
      obtain ⟨p0', p1', p2', p3', -⟩ := blk_cells4 hpV2
      have d0' := trio_cell hs2 t ht
      have f0' := frozen_of_blk hs2 t
      obtain ⟨n2, hn2'⟩ : ∃ n2, n2 = ((if t = f then ins else []) ++ bs).length := ⟨_, rfl⟩
      rw [← hn2'] at hrun hO2
      have HN2 := Lib.hid hn2'
      have HRUN := Lib.hid hrun
      have HO2 := Lib.hid hO2
      have HO2' := Lib.hid hO2'
      have HS2 := Lib.hid hs2
      have HBV2 := Lib.hid hBV2
      clear hn2' hrun hO2 hO2' hs2 hBV2 hrw hpV2 hpV1 hoV1 hs1 hO1' hst hsi hg2 hBV1 hB1 hls
      go_upto_region 11 with (fail)
      go_cut [] (fun wx => V2.setCell ⟨C, t, none⟩ (.slice a2 n2 c2) = wx)
      case first =>
        as_aux_lemma =>
          go_region_law (refine step_append_runI rfl _ _ 23 23 rfl _ _ (by simp [Act.eval]) (by simp [Act.eval]) HRUN.out ?_)
          all_goals
            go_wp2_with fail
            go_meet
            rfl
      case rest =>
      subst hcut
      clear p0 p1 p2 p3 d0 p0' p1' p2' p3' d0' f0'
      obtain ⟨s3, hs3⟩ : ∃ s3 : Nat → Value, s3 = upd ss t (.slice a2 n2 c2) := ⟨_, rfl⟩
      obtain ⟨V3, hV3⟩ : ∃ V3 : World, V3 = V2.setCell ⟨C, t, none⟩ (.slice a2 n2 c2) := ⟨_, rfl⟩
      have hsb3 : V3.heap[C]? = some (.cells #[s3 0, s3 1, s3 2] 24 (0, 0)) := by rw [hV3, hs3]; exact trio_set HS2.out t ht _
      have hBV2 := HBV2.out
      have hBV3 : Below C V V3 := by rw [hV3]; go_grown
      have hO3 : ∀ i, i < 3 → Own (C + 1) V3 (s3 i) (some3 f t ins bs i) := by
        intro i hi
        rw [hs3, hV3]
        unfold upd some3
        by_cases h : i = t
        · rw [if_pos h, if_pos h, h]
          exact HO2.out.set (by omega) _
        · rw [if_neg h, if_neg h, List.append_nil]
          exact (HO2'.out i hi h).set (by omega) _
      rw [← hV3]
      clear hV3 hs3 hBV2 HBV2 HS2 HO2 HO2' HRUN HN2
      have HP3 := Lib.hid (blk_below HPV.out hBV3 (by omega))
      have HQ3 := Lib.hid (blk_below HOV.out hBV3 (by omega))
      have HB3 := Lib.hid (HBV.out.trans (hBV3.mono (by omega)))
      have HW3 := Lib.hid (HWV.out.trans hBV3)
      have HS3 := Lib.hid hsb3
      have HO3 := Lib.hid hO3
      clear hBV3 hsb3 hO3 HPV HOV HBV HWV HSV HO1
      go_wp2_with fail
      obtain ⟨g0, hg0⟩ : ∃ g0 : Nat, g0 = gk := ⟨_, rfl⟩
      clear hk hlt hg0
      obtain ⟨wo, rfl⟩ : ∃ wo : World, wo = wr := ⟨_, rfl⟩
      go_loopg [11, 84] 3 (fun gk pv iv wr => ∃ (k : Nat) (vo : Nat → Value) (ys : Nat → List T) (p : Int), k + gk = 3 ∧ iv = .int .i64 k ∧ pv = .int .i64 p ∧ Below B w wr ∧ wr.heap[B + 1]? = some (.cells #[Value.int IntKind.i64 ↑f, Value.int IntKind.i64 ↑t, Value.slice ai ins.length ci, Value.slice ab bs.length cb] 29 (0, 0)) ∧
        wr.heap[B + 1 + 1]? = some (.cells #[Value.int IntKind.u64 line, vo 0, vo 1, vo 2] 26 (0, 0)) ∧ wr.heap[C]? = some (.cells #[s3 0, s3 1, s3 2] 24 (0, 0)) ∧ (∀ i, i < 3 → Own (C + 1) wr (s3 i) (some3 f t ins bs i)) ∧
        (∀ b, B + 3 ≤ b → b < C → wr.heap[b]? = wo.heap[b]?) ∧ (∀ i, k ≤ i → i < 3 → vo i = vs i) ∧ (∀ i, i < k → i < 3 → Done (C + 1) wr (vo i) (some3 f t ins bs i) (lv i).ts (ys i)) ∧
        (∀ i j, i < k → j < k → i ≠ j → (vo i).ownBlock = none ∨ (vo i).ownBlock ≠ (vo j).ownBlock) ∧ (f < k → 0 ≤ p ∧ p ≤ (ys f).length))
      case atStart =>
        exact ⟨0, vs, fun _ => [], -1, rfl, rfl, rfl, HB3.out, HP3.out, HQ3.out, HS3.out, HO3.out, fun b _ hb => HW3.out.block b hb, fun _ _ _ => rfl, fun _ h => absurd h (by omega), fun _ _ h => absurd h (by omega), fun h => absurd h (by omega)⟩
      case round =>
        obtain ⟨k, vo, ys, p, hk, rfl, rfl, hB1, hp, ho, hs, hos, hmid, hvo, hdone, hdis, hpl⟩ := hrel
        have hsz2 := lt_of_blk ho
        have hsz3 := lt_of_blk hs
        have HP4 := Lib.hid hp
        have HQ4 := Lib.hid ho
        have HS4 := Lib.hid hs
        have HOS := Lib.hid hos
        have HMID := Lib.hid hmid
        have HVO := Lib.hid hvo
        have HDN := Lib.hid hdone
        have HDS := Lib.hid hdis
        have HPL4 := Lib.hid hpl
        have HB4 := Lib.hid hB1
        clear hp ho hs hos hmid hvo hdone hdis hpl hB1
        by_cases hlt : k < 3
        · obtain ⟨ak, ck, hvk, hck, hTk, hnk⟩ := Own.open ((HV3.out k hlt).mid (w' := wr) (fun b h1 h2 => HMID.out b h1 (HCE.out ▸ h2)))
          obtain ⟨am, cm, hsk, hcm, hTm, hnm⟩ := Own.open (HOS.out k hlt)
          have c1 := three_cell (f := vo) HQ4.out k hlt
          rw [HVO.out k (Nat.le_refl _) hlt, hvk] at c1
          have c2 := trio_cell HS4.out k hlt
          rw [hsk] at c2
          obtain ⟨rr, hrr⟩ := HREM.out k hlt
          have CT := Lib.hid (taken_any ak ck (lv k).ts am cm (some3 f t ins bs k) rr wr.drew (hTk.ext (Below.refl _ _).drew) (fun h => (hnk h).2) (by have := (HL.out k hlt).len; omega) (hTm.ext (Below.refl _ _).drew) hrr)
          have HVK := Lib.hid hvk
          clear hvk hsk hck hTk hnk hcm hTm hnm hrr
          go_wp2_with fail
          go_region_held3 (fun w' => w'.cell? ⟨B + 1 + 1, 1 + k, none⟩ = some (.slice ak (lv k).ts.length ck) ∧ w'.cell? ⟨C, k, none⟩ = some (.slice am (some3 f t ins bs k).length cm)) (go_keep)
            (first | (go_at_call 20; refine (CT.out).mono ?_; rintro e w2 ⟨a3, c3, y3, p3, rfl, hc3, hp3, hO3, hq3, hB3⟩; have hB3' : Below wr.heap.size wr w2 := (Below.refl _ _).drew.trans hB3; have c1' := (hB3'.cell (p := ⟨B + 1 + 1, 1 + k, none⟩) hsz2).trans c1; have c2' := (hB3'.cell (p := ⟨C, k, none⟩) hsz3).trans c2))
          rename_i hheld
          clear hheld CT c1 c2 c1' c2'
          have ho2 := blk_below HQ4.out hB3' hsz2
          have hp2 := blk_below HP4.out hB3' (by omega)
          have hs2 := blk_below HS4.out hB3' hsz3
          have c0 := three_cell (f := vo) ho2 k hlt
          have f0 := frozen_of_blk ho2 (1 + k)
          have hpf := cell_of_blk hp2 0
          simp at hpf
          have HO5 := Lib.hid ho2
          have HP5 := Lib.hid hp2
          have HS5 := Lib.hid hs2
          have HB5 := Lib.hid hB3'
          have HC5 := Lib.hid hc3
          have HPM5 := Lib.hid hp3
          have HR5 := Lib.hid hO3
          have HQ5 := Lib.hid hq3
          clear hB3 hB3' hc3 hp3 hO3 hq3 ho2 hp2 hs2
          have hrel : ∀ p' : Int, (k = f → p' = p3) → (k ≠ f → p' = p) → ∃ (k' : Nat) (vo' : Nat → Value) (ys' : Nat → List T) (q : Int), k' + (gk - 1) = 3 ∧ Value.int IntKind.i64 ((k : Int) + 1) = .int .i64 k' ∧ Value.int .i64 p' = .int .i64 q ∧ Below B w (w2.setCell ⟨B + 1 + 1, 1 + k, none⟩ (.slice a3 y3.length c3)) ∧ (w2.setCell ⟨B + 1 + 1, 1 + k, none⟩ (.slice a3 y3.length c3)).heap[B + 1]? = some (.cells #[Value.int IntKind.i64 ↑f, Value.int IntKind.i64 ↑t, Value.slice ai ins.length ci, Value.slice ab bs.length cb] 29 (0, 0)) ∧
              (w2.setCell ⟨B + 1 + 1, 1 + k, none⟩ (.slice a3 y3.length c3)).heap[B + 1 + 1]? = some (.cells #[Value.int IntKind.u64 line, vo' 0, vo' 1, vo' 2] 26 (0, 0)) ∧ (w2.setCell ⟨B + 1 + 1, 1 + k, none⟩ (.slice a3 y3.length c3)).heap[C]? = some (.cells #[s3 0, s3 1, s3 2] 24 (0, 0)) ∧ (∀ i, i < 3 → Own (C + 1) (w2.setCell ⟨B + 1 + 1, 1 + k, none⟩ (.slice a3 y3.length c3)) (s3 i) (some3 f t ins bs i)) ∧
              (∀ b, B + 3 ≤ b → b < C → (w2.setCell ⟨B + 1 + 1, 1 + k, none⟩ (.slice a3 y3.length c3)).heap[b]? = wo.heap[b]?) ∧ (∀ i, k' ≤ i → i < 3 → vo' i = vs i) ∧ (∀ i, i < k' → i < 3 → Done (C + 1) (w2.setCell ⟨B + 1 + 1, 1 + k, none⟩ (.slice a3 y3.length c3)) (vo' i) (some3 f t ins bs i) (lv i).ts (ys' i)) ∧
              (∀ i j, i < k' → j < k' → i ≠ j → (vo' i).ownBlock = none ∨ (vo' i).ownBlock ≠ (vo' j).ownBlock) ∧ (f < k' → 0 ≤ q ∧ q ≤ (ys' f).length) := by
            intro p' hpe hpn
            have hsz5 := HB5.out.size
            have hB6 : Below B w w2 := HB4.out.trans (HB5.out.mono (by omega))
            have hlt' : ∀ b, b < wr.heap.size → w2.heap[b]? = wr.heap[b]? := fun b hb => HB5.out.block b hb
            have hOk : Own (C + 1) w2 (.slice a3 y3.length c3) y3 := Own.mono HR5.out (by show C + 1 ≤ wr.heap.size; omega)
            refine ⟨k + 1, upd vo k (.slice a3 y3.length c3), fun i => if i = k then y3 else ys i, p', by omega, by go_num, rfl, by go_grown, blk_setCell_other HP5.out (by simp) _, three_set HO5.out k hlt _, blk_setCell_other HS5.out (by show C ≠ B + 1 + 1; omega) _, fun i hi => ((HOS.out i hi).below HB5.out).set (by omega) _, ?_, ?_, ?_, ?_, ?_⟩
            · intro b h1 h2
              rw [Below.heap_setCell w2 ⟨B + 1 + 1, 1 + k, none⟩ _ b (by show b ≠ B + 1 + 1; omega), hlt' b (by omega)]
              exact HMID.out b h1 h2
            · intro i h1 h2
              unfold upd
              rw [if_neg (by omega)]
              exact HVO.out i (by omega) h2
            · intro i h1 h2
              unfold upd
              by_cases hik : i = k
              · subst hik
                simp only [if_true]
                exact ⟨⟨a3, c3, rfl, HC5.out⟩, HPM5.out, hOk.set (by omega) _⟩
              · obtain ⟨d1, d2, d3⟩ := HDN.out i (by omega) h2
                simp only [hik, if_false]
                exact ⟨d1, d2, (d3.below HB5.out).set (by omega) _⟩
            · have hnew : ∀ g, (Value.slice a3 y3.length c3).ownBlock = some g → wr.heap.size ≤ g := fun g hg => (World.ownsRow.lt HR5.out g hg).1
              have hold : ∀ i, i < k → ∀ g, (vo i).ownBlock = some g → g < wr.heap.size := fun i hi g hg => (World.ownsRow.lt (HDN.out i hi (by omega)).2.2 g hg).2
              intro i j h1 h2 hij
              unfold upd
              by_cases hik : i = k
              · rw [if_pos hik, if_neg (by omega)]
                cases hb : (Value.slice a3 y3.length c3).ownBlock with
                | none => exact .inl rfl
                | some g =>
                  refine .inr fun h => ?_
                  have e1 := hnew g hb
                  have e2 := hold j (by omega) g h.symm
                  omega
              · rw [if_neg hik]
                by_cases hjk : j = k
                · rw [if_pos hjk]
                  cases hb : (vo i).ownBlock with
                  | none => exact .inl rfl
                  | some g =>
                    refine .inr fun h => ?_
                    have e1 := hnew g h.symm
                    have e2 := hold i (by omega) g hb
                    omega
                · rw [if_neg hjk]
                  exact HDS.out i j (by omega) (by omega) hij
            · intro h1
              by_cases hkf : k = f
              · rw [hpe hkf]
                subst hkf
                simp only [if_true]
                rcases HQ5.out with ⟨h, _⟩ | h
                · exfalso
                  unfold some3 at h
                  rw [if_pos rfl] at h
                  exact hins (List.append_eq_nil_iff.1 h).1
                · exact h
              · rw [hpn hkf]
                have : ¬ f = k := fun h => hkf h.symm
                simp only [this, if_false]
                exact HPL4.out (by omega)
          have HREL := Lib.hid hrel
          clear hrel
          by_cases hkf : k = f
          · have hkb : ((k : Int) == (f : Int)) = true := by simp [hkf]
            have HKF := Lib.hid hkf
            clear hkf
            go_wp2_with fail
            go_roundg (gk - 1)
            case measure => omega
            case rel => exact HREL.out p3 (fun _ => rfl) (fun h => absurd HKF.out h)
          · go_wp2_with fail
            go_roundg (gk - 1)
            case measure => omega
            case rel => exact HREL.out p (fun h => absurd h hkf) (fun _ => rfl)
        · have hk3 : k = 3 := by omega
          subst hk3
          have hp0 := HPL4.out hf
          have HPL5 := Lib.hid hp0
          clear hp0 HPL4
          obtain ⟨p0, p1, p2, p3, -⟩ := blk_cells4 HP4.out
          have hsz4 := lt_of_blk HQ4.out
          go_upto_block 4 with fail
          go_cut [] (fun wx => ∃ (v4 : Value) (y4 : List T), y4.Perm (ys t ++ l) ∧ Below B w wx ∧ wx.heap[B + 1 + 1]? = some (.cells #[Value.int IntKind.u64 line, upd vo t v4 0, upd vo t v4 1, upd vo t v4 2] 26 (0, 0)) ∧ Own (C + 1) wx v4 y4 ∧ ∀ i, i < 3 → i ≠ t → Own (C + 1) wx (vo i) (ys i))
          case first =>
            as_aux_lemma =>
              obtain ⟨⟨at', ct', hvt, hct⟩, hpt, hOt⟩ := HDN.out t ht ht
              have c1 := three_cell (f := vo) HQ4.out t ht
              rw [hvt] at c1
              by_cases ht0 : t = 0
              · have hf0 : f = 0 := by omega
                subst ht0
                subst hf0
                have hyl : (ys 0).length < 1000000 := by
                  have h1 := hpt.length_eq
                  have h2 := (HL.out 0 ht).len
                  simp at h1
                  omega
                have hil0 : ¬ (ins.length : Int) = 0 := by
                  have := List.length_pos_iff.2 hins
                  omega
                have hin1 : ¬ ins = [] := hins
                have hpp := HPL5.out
                have HVT := Lib.hid hvt
                have HOT := Lib.hid hOt
                have HPT := Lib.hid hpt
                have HCT := Lib.hid hct
                clear hvt hOt hpt hct
                go_wp2_with fail
                have hrm : (ys 0).length + 1 ≤ ct' := by
                  have h1 := HPT.out.length_eq
                  have h2 := HCT.out
                  have h3 := List.length_pos_iff.2 hins
                  simp [some3] at h1
                  omega
                refine (insert_any (C + 1) at' ct' (ys 0) p al cl l wr (HVT.out ▸ HOT.out) (HLL.out.below (HBE.out ▸ HB4.out)) ?_ hrm hyl hpp.1 hpp.2).mono ?_
                · intro vb hvb
                  rcases HLL.out with ⟨h, _⟩ | ⟨x, vb', _, h, hb⟩
                  · rw [h] at hvb; cases hvb
                  · rw [h] at hvb
                    injection hvb with hvb
                    injection hvb with hvb
                    have := lt_of_blk hb
                    have := HBE.out
                    omega
                rintro e w5 ⟨a5, n5, c5, y5, rfl, hp5, hO5, hg5, hbk⟩
                rw [← HVT.out] at hg5
                have hrow : ∀ k, (vo 0).ownBlock = some k → C + 1 ≤ k ∧ k < wr.heap.size := fun k hk => World.ownsRow.lt HOT.out k hk
                have hB5 : Below B w w5 := HB4.out.grown hg5 (by omega) (fun k hk => by have := (hrow k hk).1; omega)
                have ho5 : w5.heap[B + 1 + 1]? = some (.cells #[Value.int IntKind.u64 line, vo 0, vo 1, vo 2] 26 (0, 0)) := (hg5.block (B + 1 + 1) hsz4 (fun h => by have := (hrow _ h.symm).1; omega)).trans HQ4.out
                have hoth : ∀ i, i < 3 → i ≠ 0 → Own (C + 1) w5 (vo i) (ys i) := fun i hi hne => World.ownsRow.kept (HDN.out i hi hi).2.2 hg5 (HDS.out i 0 hi ht hne)
                have d1 := three_cell (f := vo) ho5 0 ht
                have f1 := frozen_of_blk ho5 (1 + 0)
                have HO5 := Lib.hid hO5
                have HP5 := Lib.hid hp5
                have HB5 := Lib.hid hB5
                have HO5b := Lib.hid ho5
                have HOTH := Lib.hid hoth
                clear hO5 hp5 hg5 hbk hrow hB5 ho5 hoth
                go_wp2_with fail
                go_meet
                refine ⟨_, y5, HP5.out, ?_, three_set HO5b.out 0 ht _, HO5.out.set (by omega) _, fun i hi hne => (HOTH.out i hi hne).set (by omega) _⟩
                have := HB5.out
                go_grown
              · have htp : (0 : Int) < (t : Int) := by omega
                have hyl : (ys t).length < 1000000 := by
                  have h1 := hpt.length_eq
                  have h2 := (HL.out t ht).len
                  simp at h1
                  omega
                obtain ⟨v5, w5, hrun, hO5, hg5, hbk⟩ := run_append_one wr (C + 1) (vo t) (ys t) al cl l hOt (HLL.out.below (HBE.out ▸ HB4.out)) hyl (by omega) 23
                have hrow : ∀ k, (vo t).ownBlock = some k → C + 1 ≤ k ∧ k < wr.heap.size := fun k hk => World.ownsRow.lt hOt k hk
                have hB5 : Below B w w5 := HB4.out.grown hg5 (by omega) (fun k hk => by have := (hrow k hk).1; omega)
                have ho5 : w5.heap[B + 1 + 1]? = some (.cells #[Value.int IntKind.u64 line, vo 0, vo 1, vo 2] 26 (0, 0)) := (hg5.block (B + 1 + 1) hsz4 (fun h => by have := (hrow _ h.symm).1; omega)).trans HQ4.out
                have hoth : ∀ i, i < 3 → i ≠ t → Own (C + 1) w5 (vo i) (ys i) := fun i hi hne => World.ownsRow.kept (HDN.out i hi hi).2.2 hg5 (HDS.out i t hi ht hne)
                have d1 := three_cell (f := vo) ho5 t ht
                have f1 := frozen_of_blk ho5 (1 + t)
                rw [hvt] at hrun d1
                have HVT := Lib.hid hvt
                have HRUN := Lib.hid hrun
                have HB5 := Lib.hid hB5
                have HO5b := Lib.hid ho5
                have HOTH := Lib.hid hoth
                have HROW := Lib.hid hrow
                have HBK := Lib.hid hbk
                clear hrun hvt hB5 ho5 hoth hrow hbk hg5 hpt hOt hct
                rcases row_of_owns hO5 with ⟨rfl, hnil⟩ | ⟨g, cap, rfl, hg, hR⟩
                · have HNIL := Lib.hid hnil
                  clear hO5 hnil
                  go_wp2_with (at_builtin; refine Lib.wpList_append_run _ rfl _ _ _ _ rfl _ _ rfl rfl _ _ (HRUN.out) ?_)
                  refine (stable_nil _).mono ?_
                  rintro e w6 ⟨rfl, rfl⟩
                  go_wp2_with fail
                  go_meet
                  refine ⟨.slice none 0 0, [], by rw [HNIL.out], ?_, three_set HO5b.out t ht _, Own.nil _ _, fun i hi hne => (HOTH.out i hi hne).set (by omega) _⟩
                  have := HB5.out
                  go_grown
                · obtain ⟨N, hN⟩ : ∃ N, N = (ys t ++ l).length := ⟨_, rfl⟩
                  have hNl : N < 1000000 := by
                    have : l.length ≤ 1 := by
                      rcases HLL.out with ⟨_, _, rfl⟩ | ⟨x, vb, rfl, _⟩ <;> simp
                    have h2 := (HL.out t ht).len
                    have h3 := (HDN.out t ht ht).2.1.length_eq
                    simp at hN h3
                    omega
                  have hR6 : TRow (w5.setCell ⟨B + 1 + 1, 1 + t, none⟩ (.slice (some ⟨g, 0, none⟩) N cap)) g cap (ys t ++ l) := Row.same hR (Below.heap_setCell w5 ⟨B + 1 + 1, 1 + t, none⟩ _ g (by show g ≠ B + 1 + 1; omega))
                  have hHR := HRUN.out
                  rw [← hN] at hHR
                  have HRUN2 := Lib.hid hHR
                  have HR6 := Lib.hid hR6
                  have HNE := Lib.hid hN
                  clear hO5 hR hN hR6 hHR HRUN
                  go_wp2_with (at_builtin; refine Lib.wpList_append_run _ rfl _ _ _ _ rfl _ _ rfl rfl _ _ (HRUN2.out) ?_)
                  refine (sortStable_at g cap N (ys t ++ l) HNE.out.symm _ HR6.out hNl).mono ?_
                  rintro e w6 ⟨rfl, zs, hp6, hR7, hg7⟩
                  have HP6 := Lib.hid hp6
                  have HR7 := Lib.hid hR7
                  have HG7 := Lib.hid hg7
                  clear hp6 hR7 hg7
                  go_wp2_with fail
                  go_meet
                  have hsz6 : w5.heap.size ≤ w6.heap.size := by have := HG7.out.size; simpa [World.setCell] using this
                  have hgl : g < w5.heap.size := by have := HR6.out.lt; simpa [World.setCell] using this
                  have hzl : zs.length = N := by rw [HP6.out.length_eq, HNE.out]
                  refine ⟨.slice (some ⟨g, 0, none⟩) N cap, zs, HP6.out, ?_, (HG7.out.block (B + 1 + 1) (by simp [World.setCell]; omega) (fun h => by injection h with h; omega)).trans (three_set HO5b.out t ht _), ?_, ?_⟩
                  · have h5 := HB5.out
                    have h6 : Below B w (w5.setCell ⟨B + 1 + 1, 1 + t, none⟩ (.slice (some ⟨g, 0, none⟩) N cap)) := by go_grown
                    exact h6.grown HG7.out (by simp [World.setCell]; omega) (fun k hk => by injection hk with hk; omega)
                  · rw [← hzl]
                    exact HR7.out.owns tc_len hg
                  · intro i hi hne
                    refine World.ownsRow.kept ((HOTH.out i hi hne).set (by omega) _) HG7.out ?_
                    cases hb : (vo i).ownBlock with
                    | none => exact .inl rfl
                    | some q =>
                      refine .inr fun h => ?_
                      injection h with h
                      subst h
                      have hq := (World.ownsRow.lt (HDN.out i hi hi).2.2 q hb).2
                      rcases HBK.out with h1 | h1
                      · rcases HDS.out i t hi ht hne with h2 | h2
                        · rw [h2] at hb; cases hb
                        · exact h2 (hb.trans h1)
                      · have : q = wr.heap.size := by simpa [Value.ownBlock] using h1
                        omega
          case rest =>
          obtain ⟨v4, y4, hy4, hB5, ho5, hO5, hoth⟩ := hcut
          obtain ⟨vf, hvf⟩ : ∃ vf : Nat → Value, vf = upd vo t v4 := ⟨_, rfl⟩
          obtain ⟨yf, hyf⟩ : ∃ yf : Nat → List T, yf = fun i => if i = t then y4 else ys i := ⟨_, rfl⟩
          have hOw : ∀ i, i < 3 → Own (C + 1) wc (vf i) (yf i) := by
            intro i hi
            rw [hvf, hyf]
            unfold upd
            by_cases h : i = t
            · simp only [h, if_true]
              exact hO5
            · simp only [h, if_false]
              exact hoth i hi h
          have hPm : ∀ i, i < 3 → (some3 f t ins bs i ++ yf i).Perm ((lv i).ts ++ if i = t then l else []) := by
            intro i hi
            have hd := (HDN.out i hi hi).2.1
            rw [hyf]
            by_cases h : i = t
            · subst h
              simp only [if_true]
              exact (hy4.append_left _).trans (by rw [← List.append_assoc]; exact hd.append_right _)
            · simp only [h, if_false, List.append_nil]
              exact hd
          have hl1 : l.length ≤ 1 := by
            rcases HLL.out with ⟨_, _, rfl⟩ | ⟨x, vb, rfl, _⟩ <;> simp
          have hLn : ∀ i, i < 3 → (yf i).length < 1000000 := by
            intro i hi
            have h1 := (hPm i hi).length_eq
            have h2 := (HL.out i hi).len
            have h3 : (if i = t then l else []).length ≤ 1 := by split <;> simp [hl1]
            simp only [List.length_append] at h1
            omega
          rw [← hvf] at ho5
          have HOW := Lib.hid hOw
          have HPM := Lib.hid hPm
          have HLN := Lib.hid hLn
          have HB5 := Lib.hid hB5
          have HO5 := Lib.hid ho5
          clear hvf hyf hOw hPm hLn hl1 hy4 hB5 ho5 hO5 hoth p0 p1 p2 p3 HPL5 HDS HDN HVO HMID HOS HS4 HQ4 HP4 HO3 HS3 HP3 HQ3 HB3 HW3 HB4 HV3 HP0 HO0 hlt hk
          go_wp2_with fail
          obtain ⟨w9, rfl⟩ : ∃ w9 : World, w9 = wr := ⟨_, rfl⟩
          obtain ⟨g9, rfl⟩ : ∃ g9 : Nat, g9 = gk := ⟨_, rfl⟩
          go_loopg [151] 3 (fun gk iv wr => ∃ (k : Nat) (vc : Nat → Value), k + gk = 3 ∧ iv = .int .i64 k ∧ Below B w wr ∧ wr.heap[B + 1 + 1]? = some (.cells #[Value.int IntKind.u64 line, vc 0, vc 1, vc 2] 26 (0, 0)) ∧
            (∀ i, i < 3 → Own (C + 1) wr (vf i) (yf i)) ∧ ∀ i, i < 3 → vc i = if i < k then clipV (vf i) else vf i)
          case atStart => exact ⟨0, vf, rfl, rfl, HB5.out, HO5.out, HOW.out, fun i _ => by simp⟩
          case round =>
            obtain ⟨k, vc, hk, rfl, hB6, ho6, hOw6, hvc⟩ := hrel
            have hsz6 := lt_of_blk ho6
            have HB6 := Lib.hid hB6
            have HO6 := Lib.hid ho6
            have HOW6 := Lib.hid hOw6
            have HVC := Lib.hid hvc
            clear hB6 ho6 hOw6 hvc
            by_cases hlt : k < 3
            · obtain ⟨ak, ck, hvk, hck, hcm, hTk, hnk⟩ := Own.room (HOW6.out k hlt)
              have c1 := three_cell (f := vc) HO6.out k hlt
              have f1 := frozen_of_blk HO6.out (1 + k)
              rw [HVC.out k hlt, if_neg (Nat.lt_irrefl _), hvk] at c1
              have CT := clip_any ak ck (yf k).length wr hnk (HLN.out k hlt) hck hcm
              have HVK := Lib.hid hvk
              have HCT := Lib.hid CT
              clear hvk hck hcm hTk hnk CT
              go_wp2_with fail
              refine (HCT.out).mono ?_
              rintro e w6 ⟨rfl, rfl⟩
              go_wp2_with fail
              go_roundg (gk - 1)
              case measure => omega
              case rel =>
                refine ⟨k + 1, upd vc k (.slice ak (yf k).length (yf k).length), by omega, by go_num, ?_, three_set HO6.out k hlt _, fun i hi => (HOW6.out i hi).set (by omega) _, ?_⟩
                · have := HB6.out
                  go_grown
                · intro i hi
                  unfold upd
                  by_cases hik : i = k
                  · rw [if_pos hik, if_pos (by omega), hik, HVK.out]
                    rfl
                  · rw [if_neg hik, HVC.out i hi]
                    by_cases h : i < k
                    · rw [if_pos h, if_pos (by omega)]
                    · rw [if_neg h, if_neg (by omega)]
            · have hk3 : k = 3 := by omega
              subst hk3
              obtain ⟨a0, k0, hv0, -, -, -, -⟩ := Own.room (HOW6.out 0 (by omega))
              obtain ⟨a1, k1, hv1, -, -, -, -⟩ := Own.room (HOW6.out 1 (by omega))
              obtain ⟨a2, k2, hv2, -, -, -, -⟩ := Own.room (HOW6.out 2 (by omega))
              have hc0 : vc 0 = .slice a0 (yf 0).length (yf 0).length := by rw [HVC.out 0 (by omega), if_pos (by omega), hv0]; rfl
              have hc1 : vc 1 = .slice a1 (yf 1).length (yf 1).length := by rw [HVC.out 1 (by omega), if_pos (by omega), hv1]; rfl
              have hc2 : vc 2 = .slice a2 (yf 2).length (yf 2).length := by rw [HVC.out 2 (by omega), if_pos (by omega), hv2]; rfl
              obtain ⟨n0, hn0⟩ : ∃ n, n = (yf 0).length := ⟨_, rfl⟩
              obtain ⟨n1, hn1⟩ : ∃ n, n = (yf 1).length := ⟨_, rfl⟩
              obtain ⟨n2, hn2⟩ : ∃ n, n = (yf 2).length := ⟨_, rfl⟩
              have ho6 := HO6.out
              rw [hc0, hc1, hc2, ← hn0, ← hn1, ← hn2] at ho6
              have HO7 := Lib.hid ho6
              have HX := Lib.hid (And.intro (And.intro hv0 (And.intro hv1 hv2)) (And.intro hn0 (And.intro hn1 hn2)))
              clear ho6 hc0 hc1 hc2 hv0 hv1 hv2 hn0 hn1 hn2 HO6 HVC hlt hk
              go_upto_region 35 with (fail)
              go_cut [7] (fun ev wx => ev = .int .i64 0 ∧ Below B w wx ∧ wx.heap[B + 1 + 1]? = some (.cells #[Value.int IntKind.u64 line, .slice a0 n0 n0, .slice a1 n1 n1, .slice a2 n2 n2] 26 (0, 0)) ∧ ∀ i, i < 3 → Own (C + 1) wx (vf i) (yf i))
              case first =>
                as_aux_lemma =>
                  obtain ⟨c0, c1, c2, c3, -⟩ := blk_cells4 HO7.out
                  have f0 := frozen_of_blk HO7.out 0
                  have f1 := frozen_of_blk HO7.out 1
                  have f2 := frozen_of_blk HO7.out 2
                  have f3 := frozen_of_blk HO7.out 3
                  clear HPM HLN HX HL HI HREM HBS HLL HBE
                  go_wp2_with fail
                  go_meet
                  refine ⟨rfl, ?_, ?_, fun i hi => ownsRow_set4 (HOW6.out i hi) (by omega) _ _ _ _⟩
                  · have := HB6.out
                    go_grown
                  · rw [blk_setCell (blk_setCell (blk_setCell (blk_setCell HO7.out _) _) _) _]
                    rfl
              case rest =>
              obtain ⟨rfl, hB7, ho7, hOw7⟩ := hcut
              obtain ⟨⟨hv0, hv1, hv2⟩, rfl, rfl, rfl⟩ := HX.out
              obtain ⟨b0, j0, hw0, -, -, hT0, hn0⟩ := Own.room (hOw7 0 (by omega))
              obtain ⟨b1, j1, hw1, -, -, hT1, hn1⟩ := Own.room (hOw7 1 (by omega))
              obtain ⟨b2, j2, hw2, -, -, hT2, hn2⟩ := Own.room (hOw7 2 (by omega))
              obtain ⟨rfl, -, -⟩ := Value.slice.inj (hv0.symm.trans hw0)
              obtain ⟨rfl, -, -⟩ := Value.slice.inj (hv1.symm.trans hw1)
              obtain ⟨rfl, -, -⟩ := Value.slice.inj (hv2.symm.trans hw2)
              have HFIN : Behind line lv f t ins bs l w (.returned (.tuple #[.agg #[.int .u64 line, .slice a0 (yf 0).length (yf 0).length, .slice a1 (yf 1).length (yf 1).length, .slice a2 (yf 2).length (yf 2).length], .int .i64 0])) wc := by
                refine ⟨fun i => if i = 0 then ⟨a0, (yf 0).length, yf 0⟩ else if i = 1 then ⟨a1, (yf 1).length, yf 1⟩ else ⟨a2, (yf 2).length, yf 2⟩, rfl, ?_, ?_, HBE.out ▸ hB7⟩
                · intro i hi
                  have : i = 0 ∨ i = 1 ∨ i = 2 := by omega
                  rcases this with rfl | rfl | rfl
                  · exact ⟨hT0, fun h => (hn0 h).1, Nat.le_refl _⟩
                  · exact ⟨hT1, fun h => (hn1 h).1, Nat.le_refl _⟩
                  · exact ⟨hT2, fun h => (hn2 h).1, Nat.le_refl _⟩
                · intro i hi
                  have hp := HPM.out i hi
                  have : i = 0 ∨ i = 1 ∨ i = 2 := by omega
                  rcases this with rfl | rfl | rfl
                  · exact hp
                  · exact hp
                  · exact hp
              obtain ⟨c0, c1, c2, c3, -⟩ := blk_cells4 ho7
              have HFIN' := Lib.hid HFIN
              clear HFIN hT0 hT1 hT2 hn0 hn1 hn2 hv0 hv1 hv2 hw0 hw1 hw2 hB7 ho7 hOw7
              rename_i hKK
              refine hKK _ _ (wp_ret ?_)
              refine bodyPost_ret (v := .tuple #[.agg #[.int .u64 line, .slice a0 (yf 0).length (yf 0).length, .slice a1 (yf 1).length (yf 1).length, .slice a2 (yf 2).length (yf 2).length], .int .i64 0]) ?_ rfl HFIN'.out
              clear HFIN' HX HO7 HB6 HOW6 HPM HLN HL HI HREM HBS HLL HBE HB5 HO5 HOW
              simp [results, Try.results11, go_sem, c0, c1, c2, c3]
end Go.Proofs.Ythdjokcjajlnnaa
