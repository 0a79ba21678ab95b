/- Facts: slices of a list, appends, a store; the reference's step. Condition: fewer than 1000000 facts. -/
import Derived.Test.YtenocakpipppiaaGreatDoorR2
import Derived.Lib.AppendZeros
import Derived.Deep.RegionHeld3
import Derived.Outline
namespace Go.Proofs.YtenocakpipppiaaGreatDoor
open Go.RowKit Go.Shelf Go.Herb

theorem wp_append_facts {w : World} {o : Oper} {a : Act} {K : Act → World → Prop} {Q : Exit → Act → World → Prop} (s x : Operand) (ho : o.op = .call { callee := .builtin .append, args := #[s, x], argTypes := #[22, 22] })
    (B : Nat) (v : Value) (ss : List Fc) (ab : Option Addr) (cb : Nat) (bs : List Fc) (hs : a.eval s = v) (hx : a.eval x = .slice ab bs.length cb) (hown : OwnF B w v ss) (hT : Facts w ab bs) (hl : ss.length < 1000000) (hb : bs.length < 1000000) (hn : ab = none → cb = 0) (hB : B ≤ w.heap.size)
    (h : ∀ v' w', OwnF B w' v' (ss ++ bs) → w.grownBy w' v.ownBlock → K (a.put o.dst v') w') : o.wp Tryz.prog a w K Q := by
  obtain ⟨v', w', hr, h2, h3⟩ := run_append_facts w B v ss ab cb bs hown hT hl hb hn hB o.type
  unfold Oper.wp execOp
  simp only [ho, resolve, invoke, builtin, Sem.run_bind, Sem.run_pure, Result.andThen_ok, List.map_toArray, List.map_cons, List.map_nil, hs, hx, hr]
  exact h v' w' h2 h3

theorem els_drop {α : Type} {enc : α → List Value} {s : Nat} {w : World} {b o : Nat} {xs : List α} (h : Els enc s w (some ⟨b, o, none⟩) xs) (k : Nat) : Els enc s w (some ⟨b, o + k * s, none⟩) (xs.drop k) :=
  ⟨fun i hi => by
    simp only [List.length_drop] at hi
    obtain ⟨b', o', ha, hlt, hc⟩ := h.get (k + i) (by omega)
    injection ha with ha
    injection ha with h1 h2
    subst h1 h2
    refine ⟨b, o + k * s, rfl, hlt, fun j c hj => ?_⟩
    have := hc j c (by simpa using hj)
    rw [Nat.add_mul] at this
    rw [show o + k * s + i * s + j = o + (k * s + i * s) + j from by omega]
    exact this⟩

/-- 's[:k]'. -/
theorem sliceF_lo {w : World} {ka : Option Addr} {kc k : Nat} {ks : List Fc} (hE : Facts w ka ks) (hle : ks.length ≤ kc) (hk : k ≤ ks.length) (hn : ka = none → kc = 0) :
    ∃ a1, (∀ W, (Instr.slice (22) (.slice ka ks.length kc) none (some (.int .i64 k)) none).run Tryz.prog W = .ok (.slice a1 (ks.take k).length kc) W) ∧ Facts w a1 (ks.take k) ∧ (a1 = none → kc = 0) := by
  have hlen : (ks.take k).length = k := by simp; omega
  refine ⟨if kc = 0 then ka else ka.map (·.add (0 * 6)), fun W => ?_, ?_, ?_⟩
  · rw [run_slice_h W (22) ka ks.length kc (by kernel_rfl) .i64 k (by omega) (by omega), hlen]
    rw [show Tryz.prog.elem (22) = (50) from by kernel_rfl, Tryz.sizeOf50]
    simp [sliced, Result.andThen]
  · by_cases h0 : kc = 0
    · have : ks.take k = [] := List.length_eq_zero_iff.1 (by omega)
      rw [this]
      exact Els.nil _ _ _ _
    · rw [if_neg h0]
      cases ka with
      | none => exact absurd (hn rfl) h0
      | some ad =>
        have : ad.add (0 * 6) = ad := by unfold Addr.add; simp
        rw [Option.map_some, this]
        exact hE.take k
  · intro h
    by_cases h0 : kc = 0
    · exact h0
    · rw [if_neg h0] at h
      cases ka with
      | none => exact hn rfl
      | some ad => cases h

/-- 's[k:]'. -/
theorem sliceF_hi {w : World} {ka : Option Addr} {kc k : Nat} {ks : List Fc} (hE : Facts w ka ks) (hle : ks.length ≤ kc) (hk : k ≤ ks.length) (hn : ka = none → kc = 0) :
    ∃ a2, (∀ W, (Instr.slice (22) (.slice ka ks.length kc) (some (.int .i64 k)) none none).run Tryz.prog W = .ok (.slice a2 (ks.drop k).length (kc - k)) W) ∧ Facts w a2 (ks.drop k) ∧ (a2 = none → kc - k = 0) := by
  have hlen : (ks.drop k).length = ks.length - k := by simp
  refine ⟨if kc = k then ka else ka.map (·.add (k * 6)), fun W => ?_, ?_, ?_⟩
  · rw [run_slice_l W (22) ka ks.length kc (by kernel_rfl) .i64 k (by omega) (by omega), hlen]
    rw [show Tryz.prog.elem (22) = (50) from by kernel_rfl, Tryz.sizeOf50]
    simp [sliced, Result.andThen]
  · by_cases h0 : kc = k
    · have : ks.drop k = [] := List.length_eq_zero_iff.1 (by omega)
      rw [this]
      exact Els.nil _ _ _ _
    · rw [if_neg h0]
      cases ka with
      | none => exact absurd (hn rfl) (by intro h; have := hn rfl; omega)
      | some ad =>
        rw [Option.map_some]
        by_cases hz : ks.drop k = []
        · rw [hz]; exact Els.nil _ _ _ _
        · obtain ⟨b, o, ha, _⟩ := hE.get 0 (by
            rcases Nat.eq_zero_or_pos ks.length with h | h
            · exact absurd (List.length_eq_zero_iff.1 (by rw [hlen]; omega)) hz
            · exact h)
          injection ha with ha
          subst ha
          rw [addr_add]
          exact els_drop hE k
  · intro h
    by_cases h0 : kc = k
    · omega
    · rw [if_neg h0] at h
      cases ka with
      | none => have := hn rfl; omega
      | some ad => cases h

theorem OwnF.none0 {B : Nat} {w : World} {a : Option Addr} {n c : Nat} {ss : List Fc} (h : OwnF B w (.slice a n c) ss) : a = none → c = 0 := by
  intro ha
  rcases h with ⟨_, ⟨h1, _⟩ | ⟨g, cap, cur, hv, _⟩⟩
  · cases h1; rfl
  · cases hv; cases ha

/-- A list of cells, six of which are set. -/
theorem flat_set6 {α : Type} {enc : α → List Value} (hs : ∀ x, (enc x).length = 6) (xs : List α) (i : Nat) (x : α) (c0 c1 c2 c3 c4 c5 : Value) (hx : enc x = [c0, c1, c2, c3, c4, c5]) (l : List Value) (hl : l.take (xs.length * 6) = xs.flatMap enc) :
    ((((((l.set (i * 6) c0).set (i * 6 + 1) c1).set (i * 6 + 2) c2).set (i * 6 + 3) c3).set (i * 6 + 4) c4).set (i * 6 + 5) c5).take ((xs.set i x).length * 6) = (xs.set i x).flatMap enc := by
  have hlen : xs.length * 6 ≤ l.length := by
    have := congrArg List.length hl
    rw [flatMap_len hs, List.length_take] at this
    omega
  apply List.ext_getElem?
  intro j
  rw [List.length_set]
  rcases Nat.lt_or_ge j (xs.length * 6) with hj | hj
  · rw [List.getElem?_take_of_lt hj]
    have hij : j / 6 < xs.length := (Nat.div_lt_iff_lt_mul (by decide)).2 hj
    have he : j = j / 6 * 6 + j % 6 := by rw [Nat.mul_comm]; exact (Nat.div_add_mod j 6).symm
    have hr : j % 6 < 6 := Nat.mod_lt _ (by decide)
    have h1 := flatMap_get hs (xs.set i x) (j / 6) (j % 6) (by simpa using hij) hr
    rw [← he] at h1
    rw [h1]
    have h2 := flatMap_get hs xs (j / 6) (j % 6) hij hr
    rw [← he, ← hl, List.getElem?_take_of_lt hj] at h2
    by_cases hjk : j / 6 = i
    · have e1 : (xs.set i x)[j / 6]'(by simpa using hij) = x := by simp [hjk]
      rw [e1, hx]
      have : j % 6 = 0 ∨ j % 6 = 1 ∨ j % 6 = 2 ∨ j % 6 = 3 ∨ j % 6 = 4 ∨ j % 6 = 5 := by omega
      rcases this with h | h | h | h | h | h
      · have e : j = i * 6 := by omega
        rw [h, e]
        rw [List.getElem?_set_ne (by omega), List.getElem?_set_ne (by omega), List.getElem?_set_ne (by omega), List.getElem?_set_ne (by omega), List.getElem?_set_ne (by omega), List.getElem?_set_self (by omega)]; rfl
      · have e : j = i * 6 + 1 := by omega
        rw [h, e]
        rw [List.getElem?_set_ne (by omega), List.getElem?_set_ne (by omega), List.getElem?_set_ne (by omega), List.getElem?_set_ne (by omega), List.getElem?_set_self (by simp; omega)]; rfl
      · have e : j = i * 6 + 2 := by omega
        rw [h, e]
        rw [List.getElem?_set_ne (by omega), List.getElem?_set_ne (by omega), List.getElem?_set_ne (by omega), List.getElem?_set_self (by simp; omega)]; rfl
      · have e : j = i * 6 + 3 := by omega
        rw [h, e]
        rw [List.getElem?_set_ne (by omega), List.getElem?_set_ne (by omega), List.getElem?_set_self (by simp; omega)]; rfl
      · have e : j = i * 6 + 4 := by omega
        rw [h, e]
        rw [List.getElem?_set_ne (by omega), List.getElem?_set_self (by simp; omega)]; rfl
      · have e : j = i * 6 + 5 := by omega
        rw [h, e]
        rw [List.getElem?_set_self (by simp; omega)]; rfl
    · have e1 : (xs.set i x)[j / 6]'(by simpa using hij) = xs[j / 6] := by
        rw [List.getElem_set_ne (by omega)]
      rw [e1, ← h2]
      rw [List.getElem?_set_ne (by omega), List.getElem?_set_ne (by omega), List.getElem?_set_ne (by omega), List.getElem?_set_ne (by omega), List.getElem?_set_ne (by omega), List.getElem?_set_ne (by omega)]
  · rw [List.getElem?_eq_none (by rw [List.length_take]; omega), List.getElem?_eq_none (by rw [flatMap_len hs]; simpa using hj)]

/-- The world behind a store of a fact into block g at its i-th place. -/
def putF (w : World) (g i : Nat) (x : Fc) : World :=
  (((((w.setCell ⟨g, i * 6, none⟩ (.string x.key)).setCell ⟨g, i * 6 + 1, none⟩ (.int .u32 x.valid)).setCell ⟨g, i * 6 + 2, none⟩ (.int .u64 x.seq)).setCell ⟨g, i * 6 + 3, none⟩ (.int .u64 x.line)).setCell ⟨g, i * 6 + 4, none⟩ (.int .u8 x.kind)).setCell ⟨g, i * 6 + 5, none⟩ (.string x.val)

theorem rowF_put {e : Nat} {w : World} {g cap : Nat} {xs : List Fc} (h : Row fc 6 e w g cap xs) (i : Nat) (x : Fc) : Row fc 6 e (putF w g i x) g cap (xs.set i x) := by
  obtain ⟨cur, hc, hsz, htk⟩ := h.blk
  refine ⟨⟨_, blk_setCell (blk_setCell (blk_setCell (blk_setCell (blk_setCell (blk_setCell hc _) _) _) _) _) _, by simpa using hsz, ?_⟩, by simpa using h.le, h.max⟩
  have := flat_set6 fc_len xs i x _ _ _ _ _ _ rfl cur.toList htk
  simpa using this
theorem grown_putF {a b : World} {g : Nat} (h : a.grownBy b (some g)) (i : Nat) (x : Fc) : a.grownBy (putF b g i x) (some g) :=
  grown_set (grown_set (grown_set (grown_set (grown_set (grown_set h _ _) _ _) _ _) _ _) _ _) _ _

/- The reference's step, by the first place that is not ahead. -/
theorem refStep_at (out : List Fc) (x : Fc) : ∀ k, k ≤ out.length → (∀ y ∈ out.take k, AhF y x) → refStep out x = out.take k ++ refStep (out.drop k) x := by
  induction out with
  | nil => intro k hk _; simp
  | cons o out ih =>
    intro k hk hall
    cases k with
    | zero => simp
    | succ k =>
      have ho : AhF o x := hall o (by simp)
      rw [List.take_succ_cons, List.drop_succ_cons, List.cons_append, ← ih k (by simpa using hk) (fun y hy => hall y (by rw [List.take_succ_cons]; exact List.mem_cons_of_mem _ hy))]
      conv => lhs; unfold refStep
      rw [if_pos ho]
theorem refStep_ins (out : List Fc) (x : Fc) (k : Nat) (hk : k ≤ out.length) (h1 : ∀ y ∈ out.take k, AhF y x) (h2 : ∀ h : k < out.length, ¬ AhF out[k] x ∧ AhF x out[k]) : refStep out x = out.take k ++ [x] ++ out.drop k := by
  rw [refStep_at out x k hk h1]
  rcases Nat.lt_or_eq_of_le hk with h | h
  · obtain ⟨h3, h4⟩ := h2 h
    rw [List.drop_eq_getElem_cons h]
    unfold refStep
    rw [if_neg h3, if_pos h4, List.append_assoc]
    rfl
  · rw [h, List.drop_length]
    simp [refStep]
theorem refStep_same (out : List Fc) (x : Fc) (k : Nat) (hk : k < out.length) (h1 : ∀ y ∈ out.take k, AhF y x) (h2 : ¬ AhF out[k] x) (h3 : ¬ AhF x out[k]) : refStep out x = if out[k].seq < x.seq then out.set k x else out := by
  rw [refStep_at out x k (Nat.le_of_lt hk) h1, List.drop_eq_getElem_cons hk]
  conv => lhs; arg 2; unfold refStep
  rw [if_neg h2, if_neg h3]
  split
  · rw [List.set_eq_take_append_cons_drop, if_pos hk]
  · rw [← List.drop_eq_getElem_cons hk, List.take_append_drop]
theorem refOf_len (zs : List Fc) : (refOf zs).length ≤ zs.length := by
  have hp := (refOf_view zs).1.length_eq
  rw [hp]
  unfold lastL
  rw [List.length_map]
  exact lastM_len zs
end Go.Proofs.YtenocakpipppiaaGreatDoor
