/- Plain: two lists that rise and have the same members are one. No condition. · The document's keys, insertion: appends of strings. Condition: fewer than 1000000 strings. -/
import Derived.Test.YtenocakpipppiaaGreatDoorS5
import Derived.Lib.AppendZeros
import Derived.Deep.RegionHeld3
import Derived.Outline
namespace Go.Herb
open Go.RowKit Go.Shelf
theorem Els.drop {α : Type} {enc : α → List Value} {s : Nat} {w : World} {b o : Nat} {xs : List α} (h : Els enc s w (some ⟨b, o, none⟩) xs) (k : Nat) : Els enc s w (some ⟨b, o + k * s, none⟩) (xs.drop k) :=
  ⟨fun i hi => by
    simp only [List.length_drop] at hi
    obtain ⟨b', o', ha, hlt, hc⟩ := h.get (k + i) (by omega)
    injection ha with ha
    injection ha with h1 h2
    subst h1 h2
    refine ⟨b, o + k * s, rfl, hlt, fun j c hj => ?_⟩
    have := hc j c (by simpa using hj)
    rw [Nat.add_mul] at this
    rw [show o + k * s + i * s + j = o + (k * s + i * s) + j from by omega]
    exact this⟩
end Go.Herb
namespace Go.Proofs.YtenocakpipppiaaGreatDoor
open Go.RowKit Go.Shelf Go.Herb

theorem lt_list_eq : ∀ {l m : List Str}, l.Pairwise (fun a b => a < b) → m.Pairwise (fun a b => a < b) → (∀ x, x ∈ l ↔ x ∈ m) → l = m
  | [], [], _, _, _ => rfl
  | [], b :: m, _, _, h => by have := (h b).2 (by simp); simp at this
  | a :: l, [], _, _, h => by have := (h a).1 (by simp); simp at this
  | a :: l, b :: m, h1, h2, h => by
    obtain ⟨g1, g2⟩ := List.pairwise_cons.1 h1
    obtain ⟨k1, k2⟩ := List.pairwise_cons.1 h2
    have hab : a = b := by
      have ha := (h a).1 (by simp)
      have hb := (h b).2 (by simp)
      rcases List.mem_cons.1 ha with e | ha
      · exact e
      · rcases List.mem_cons.1 hb with e | hb
        · exact e.symm
        · exact absurd (List.lt_trans (g1 b hb) (k1 a ha)) (List.lt_irrefl _)
    subst hab
    rw [lt_list_eq g2 k2 (fun x => ?_)]
    constructor
    · intro hx
      have := (h x).1 (by simp [hx])
      rcases List.mem_cons.1 this with rfl | hx'
      · exact absurd (g1 x hx) (List.lt_irrefl _)
      · exact hx'
    · intro hx
      have := (h x).2 (by simp [hx])
      rcases List.mem_cons.1 this with rfl | hx'
      · exact absurd (k1 x hx) (List.lt_irrefl _)
      · exact hx'

end Go.Proofs.YtenocakpipppiaaGreatDoor

namespace Go.Proofs.YtenocakpipppiaaGreatDoor
open Go.RowKit Go.Shelf Go.Herb

theorem strs_flat_one (ss : List Str) : ∀ v ∈ ss.flatMap sc, v.oneCell' = true := by
  intro v hv
  obtain ⟨x, _, hx⟩ := List.mem_flatMap.1 hv
  rw [List.mem_singleton.1 hx]
  rfl

theorem run_append_strs (w : World) (B : Nat) (v : Value) (ss : List Str) (ab : Option Addr) (cb : Nat) (bs : List Str) (ho : OwnS B w v ss) (hT : Strs w ab bs) (hx : ss.length < 1000000) (hb : bs.length < 1000000) (hn : ab = none → cb = 0) (hB : B ≤ w.heap.size) (ty : TypeId) :
    ∃ v' w', (Builtin.append_ #[64, 64] ty #[v, .slice ab bs.length cb]).run Tryz.prog w = .ok v' w' ∧ OwnS B w' v' (ss ++ bs) ∧ w.grownBy w' v.ownBlock := by
  obtain ⟨i0, hin, hz0, hz1, hz2⟩ := info_parts Tryz.info9
  cases ab with
  | none =>
    have h0 : bs = [] := by
      cases bs with
      | nil => rfl
      | cons x xs => obtain ⟨b, o, h, _⟩ := hT.get 0 (by simp); cases h
    subst h0
    rw [hn rfl]
    obtain ⟨av, cv, rfl, hle, -⟩ := ho.els
    have := run_append_owned_none (P := Tryz.prog) w B 64 ty 9 i0 1 Tryz.underlying64 hin _ _ _ ho
    exact ⟨_, w, this, by simpa using ho, grown_refl _ _⟩
  | some ad =>
    obtain ⟨v', w', hr, h2, h3, h4⟩ := run_append_own (P := Tryz.prog) w B 64 ty 9 i0 _ 1 16 Tryz.underlying64 hin hz0 hz1 hz2 rfl (by decide) v ss.length (ss.map encStr) ho ad bs.length cb (bs.flatMap sc) (flatMap_len sc_len _) (hT.flat sc_len (by decide)) (strs_flat_one _) (by unfold maxLen; omega) (by omega) hB
    refine ⟨v', w', hr, ?_, h3⟩
    unfold OwnS
    rw [List.length_append, List.map_append, ← sc_flat bs]
    exact h2

theorem wp_append_strs {w : World} {o : Oper} {a : Act} {K : Act → World → Prop} {Q : Exit → Act → World → Prop} (s x : Operand) (ho : o.op = .call { callee := .builtin .append, args := #[s, x], argTypes := #[64, 64] })
    (B : Nat) (v : Value) (ss : List Str) (ab : Option Addr) (cb : Nat) (bs : List Str) (hs : a.eval s = v) (hx : a.eval x = .slice ab bs.length cb) (hown : OwnS B w v ss) (hT : Strs w ab bs) (hl : ss.length < 1000000) (hb : bs.length < 1000000) (hn : ab = none → cb = 0) (hB : B ≤ w.heap.size)
    (h : ∀ v' w', OwnS B w' v' (ss ++ bs) → w.grownBy w' v.ownBlock → K (a.put o.dst v') w') : o.wp Tryz.prog a w K Q := by
  obtain ⟨v', w', hr, h2, h3⟩ := run_append_strs w B v ss ab cb bs hown hT hl hb hn hB o.type
  unfold Oper.wp execOp
  simp only [ho, resolve, invoke, builtin, Sem.run_bind, Sem.run_pure, Result.andThen_ok, List.map_toArray, List.map_cons, List.map_nil, hs, hx, hr]
  exact h v' w' h2 h3

theorem named_has {K : List Str} {s : Str} (h : s ∈ namedL K) : namedL (K ++ [s]) = namedL K :=
  lt_list_eq (namedL_lt _) (namedL_lt _) (fun x => by
    rw [namedL_mem, namedL_mem, List.mem_append, List.mem_singleton]
    constructor
    · rintro (h1 | rfl)
      · exact h1
      · exact namedL_mem.1 h
    · exact Or.inl)
theorem named_ins {K : List Str} {s : Str} {k : Nat} (hk : k ≤ (namedL K).length) (h1 : ∀ x ∈ (namedL K).take k, x < s) (h2 : ∀ (h : k < (namedL K).length), s < (namedL K)[k]) : namedL (K ++ [s]) = (namedL K).take k ++ [s] ++ (namedL K).drop k := by
  have hp := namedL_lt K
  have hgt : ∀ y ∈ (namedL K).drop k, s < y := by
    intro y hy
    obtain ⟨i, hi, rfl⟩ := List.getElem_of_mem hy
    rw [List.getElem_drop]
    simp only [List.length_drop] at hi
    have hlt : k < (namedL K).length := by omega
    rcases Nat.eq_zero_or_pos i with h | h
    · subst h; exact h2 hlt
    · exact List.lt_trans (h2 hlt) (List.pairwise_iff_getElem.1 hp k (k + i) hlt (by omega) (by omega))
  refine lt_list_eq (namedL_lt _) ?_ (fun x => ?_)
  · rw [← List.take_append_drop k (namedL K), List.pairwise_append] at hp
    obtain ⟨p1, p2, p3⟩ := hp
    rw [List.append_assoc, List.pairwise_append]
    refine ⟨p1, ?_, ?_⟩
    · rw [List.singleton_append, List.pairwise_cons]
      exact ⟨hgt, p2⟩
    · intro a ha b hb
      rcases List.mem_append.1 hb with hb | hb
      · rw [List.mem_singleton.1 hb]; exact h1 a ha
      · exact p3 a ha b hb
  · rw [namedL_mem, List.mem_append, List.mem_singleton, ← namedL_mem (ss := K)]
    have : x ∈ namedL K ↔ x ∈ (namedL K).take k ∨ x ∈ (namedL K).drop k := by rw [← List.mem_append, List.take_append_drop]
    rw [this, List.mem_append, List.mem_append, List.mem_singleton]
    constructor
    · rintro ((h | h) | h)
      · exact .inl (.inl h)
      · exact .inr h
      · exact .inl (.inr h)
    · rintro ((h | h) | h)
      · exact .inl (.inl h)
      · exact .inr h
      · exact .inl (.inr h)


/-- 's[:k]'. -/
theorem slice_lo {w : World} {ka : Option Addr} {kc k : Nat} {ks : List Str} (hE : Strs w ka ks) (hle : ks.length ≤ kc) (hk : k ≤ ks.length) (hn : ka = none → kc = 0) :
    ∃ a1, (∀ W, (Instr.slice (64) (.slice ka ks.length kc) none (some (.int .i64 k)) none).run Tryz.prog W = .ok (.slice a1 (ks.take k).length kc) W) ∧ Strs w a1 (ks.take k) ∧ (a1 = none → kc = 0) := by
  have hlen : (ks.take k).length = k := by simp; omega
  refine ⟨if kc = 0 then ka else ka.map (·.add (0 * 1)), fun W => ?_, ?_, ?_⟩
  · rw [run_slice_h W (64) ka ks.length kc (by kernel_rfl) .i64 k (by omega) (by omega), hlen]
    rw [show Tryz.prog.elem (64) = (9) from by kernel_rfl, Tryz.sizeOf9]
    simp [sliced, Result.andThen]
  · by_cases h0 : kc = 0
    · have : ks.take k = [] := List.length_eq_zero_iff.1 (by omega)
      rw [this]
      exact Els.nil _ _ _ _
    · rw [if_neg h0]
      cases ka with
      | none => exact absurd (hn rfl) h0
      | some ad =>
        have : ad.add (0 * 1) = ad := by unfold Addr.add; simp
        rw [Option.map_some, this]
        exact hE.take k
  · intro h
    by_cases h0 : kc = 0
    · exact h0
    · rw [if_neg h0] at h
      cases ka with
      | none => exact hn rfl
      | some ad => cases h

/-- 's[k:]'. -/
theorem slice_hi {w : World} {ka : Option Addr} {kc k : Nat} {ks : List Str} (hE : Strs w ka ks) (hle : ks.length ≤ kc) (hk : k ≤ ks.length) (hn : ka = none → kc = 0) :
    ∃ a2, (∀ W, (Instr.slice (64) (.slice ka ks.length kc) (some (.int .i64 k)) none none).run Tryz.prog W = .ok (.slice a2 (ks.drop k).length (kc - k)) W) ∧ Strs w a2 (ks.drop k) ∧ (a2 = none → kc - k = 0) := by
  have hlen : (ks.drop k).length = ks.length - k := by simp
  refine ⟨if kc = k then ka else ka.map (·.add (k * 1)), fun W => ?_, ?_, ?_⟩
  · rw [run_slice_l W (64) ka ks.length kc (by kernel_rfl) .i64 k (by omega) (by omega), hlen]
    rw [show Tryz.prog.elem (64) = (9) from by kernel_rfl, Tryz.sizeOf9]
    simp [sliced, Result.andThen]
  · by_cases h0 : kc = k
    · have : ks.drop k = [] := List.length_eq_zero_iff.1 (by omega)
      rw [this]
      exact Els.nil _ _ _ _
    · rw [if_neg h0]
      cases ka with
      | none => exact absurd (hn rfl) (by intro h; have := hn rfl; omega)
      | some ad =>
        rw [Option.map_some]
        by_cases hz : ks.drop k = []
        · rw [hz]; exact Els.nil _ _ _ _
        · obtain ⟨b, o, ha, _⟩ := hE.get 0 (by
            rcases Nat.eq_zero_or_pos ks.length with h | h
            · exact absurd (List.length_eq_zero_iff.1 (by rw [hlen]; omega)) hz
            · exact h)
          injection ha with ha
          subst ha
          rw [addr_add]
          exact hE.drop k
  · intro h
    by_cases h0 : kc = k
    · omega
    · rw [if_neg h0] at h
      cases ka with
      | none => have := hn rfl; omega
      | some ad => cases h

theorem OwnS.none0 {B : Nat} {w : World} {a : Option Addr} {n c : Nat} {ss : List Str} (h : OwnS B w (.slice a n c) ss) : a = none → c = 0 := by
  intro ha
  rcases h with ⟨_, ⟨h1, _⟩ | ⟨g, cap, cur, hv, _⟩⟩
  · cases h1; rfl
  · cases hv; cases ha
theorem strs_of_one {w : World} {b : Nat} {k : ByteArray} (h : w.heap[b]? = some (.cells #[.string k] 9 (0, 0))) : Strs w (some ⟨b, 0, none⟩) [k.toList] := by
  refine ⟨fun i hi => ⟨b, 0, rfl, lt_of_blk h, fun j c hj => ?_⟩⟩
  have : i = 0 := by simpa using hi
  subst this
  rw [cell_of_blk h]
  simp only [List.getElem_cons_zero, sc, str_of_bytes] at hj
  simpa using hj
end Go.Proofs.YtenocakpipppiaaGreatDoor
