/- ref16: appends and slices of points. Condition: fewer than 1000000 points. -/
import Derived.Test.YtnnpheklgdbohaaYC
import Derived.Lib.AppendZeros
import Derived.Deep.RegionHeld3
namespace Go.Proofs.Ytnnpheklgdbohaa
open Go.RowKit Go.Shelf Go.Herb

theorem OwnP.none0 {B : Nat} {w : World} {a : Option Addr} {n c : Nat} {ps : Bh} (h : OwnP B w (.slice a n c) ps) : a = none → c = 0 := by
  intro ha
  rcases h with ⟨_, ⟨h1, _⟩ | ⟨g, cap, cur, hv, _⟩⟩
  · cases h1; rfl
  · cases hv; cases ha
theorem run_append_pts (w : World) (B : Nat) (v : Value) (ss : Bh) (ab : Option Addr) (cb k : Nat) (bs : Bh) (hk : bs.length = k) (ho : OwnP B w v ss) (hT : Pts w ab bs) (hx : ss.length < 1000000) (hb : k < 1000000) (hn : ab = none → cb = 0) (hB : B ≤ w.heap.size) (ty : TypeId) :
    ∃ v' w', (Builtin.append_ #[(30), (30)] ty #[v, .slice ab k cb]).run Try.prog w = .ok v' w' ∧ OwnP B w' v' (ss ++ bs) ∧ w.grownBy w' v.ownBlock := by
  subst hk
  obtain ⟨i0, hin, hz0, hz1, hz2⟩ := info_parts infoP
  cases ab with
  | none =>
    have h0 : bs = [] := by
      cases bs with
      | nil => rfl
      | cons x xs => obtain ⟨b, o, h, _⟩ := hT.get 0 (by simp); cases h
    subst h0
    rw [hn rfl]
    obtain ⟨av, cv, rfl, -⟩ := own_parts ho
    have := run_append_owned_none (P := Try.prog) w B (30) ty (34) i0 2 Try.underlying30 hin _ _ _ ho
    exact ⟨_, w, this, by simpa using ho, grown_refl _ _⟩
  | some ad =>
    obtain ⟨v', w', hr, h2, h3, h4⟩ := run_append_own (P := Try.prog) w B (30) ty (34) i0 _ 2 16 Try.underlying30 hin hz0 hz1 hz2 rfl (by decide) v ss.length (ss.flatMap pc) ho ad bs.length cb (bs.flatMap pc) (flatMap_len pc_len _) (hT.flat pc_len (by decide)) (fun u hu => by
      obtain ⟨q, _, hq⟩ := List.mem_flatMap.1 hu
      exact pc_one q u hq) (by unfold maxLen; omega) (by omega) hB
    refine ⟨v', w', hr, ?_, h3⟩
    unfold OwnP
    rw [List.length_append, List.flatMap_append]
    exact h2
theorem wp_append_pts {w : World} {o : Oper} {a : Act} {K : Act → World → Prop} {Q : Exit → Act → World → Prop} (s x : Operand) (ho : o.op = .call { callee := .builtin .append, args := #[s, x], argTypes := #[(30), (30)] })
    (B : Nat) (v : Value) (ss : Bh) (ab : Option Addr) (cb k : Nat) (bs : Bh) (hk : bs.length = k) (hs : a.eval s = v) (hx : a.eval x = .slice ab k cb) (hown : OwnP B w v ss) (hT : Pts w ab bs) (hl : ss.length < 1000000) (hb : k < 1000000) (hn : ab = none → cb = 0) (hB : B ≤ w.heap.size)
    (h : ∀ v' w', OwnP B w' v' (ss ++ bs) → w.grownBy w' v.ownBlock → K (a.put o.dst v') w') : o.wp Try.prog a w K Q := by
  obtain ⟨v', w', hr, h2, h3⟩ := run_append_pts w B v ss ab cb k bs hk hown hT hl hb hn hB o.type
  unfold Oper.wp execOp
  simp only [ho, resolve, invoke, builtin, Sem.run_bind, Sem.run_pure, Result.andThen_ok, List.map_toArray, List.map_cons, List.map_nil, hs, hx, hr]
  exact h v' w' h2 h3
theorem els_dropP {w : World} {b o : Nat} {ks : Bh} (h : Els pc 2 w (some ⟨b, o, none⟩) ks) (k : Nat) : Els pc 2 w (some ⟨b, o + k * 2, none⟩) (ks.drop k) :=
  ⟨fun i hi => by
    obtain ⟨b', o', ha, hlt, hc⟩ := h.get (k + i) (by simp at hi; omega)
    injection ha with ha
    cases ha
    refine ⟨b, o + k * 2, rfl, hlt, fun j c hj => ?_⟩
    rw [List.getElem_drop] at hj
    have := hc j c hj
    rwa [show o + k * 2 + i * 2 + j = o + (k + i) * 2 + j by omega]⟩
/-- 's[:k]' of points. -/
theorem slice_loP {w : World} {ka : Option Addr} {kc k n : Nat} {ks : Bh} (hE : Pts w ka ks) (_ : ks.length = n) (hle : n ≤ kc) (hk : k ≤ n) (h0 : ka = none → kc = 0) :
    ∃ a1, (∀ W, (Instr.slice (30) (.slice ka n kc) none (some (.int .i64 k)) none).run Try.prog W = .ok (.slice a1 k kc) W) ∧ Pts w a1 (ks.take k) ∧ (a1 = none → kc = 0) := by
  refine ⟨if kc = 0 then ka else ka.map (·.add (0 * 2)), fun W => ?_, ?_, ?_⟩
  · rw [run_slice_h (P := Try.prog) W (30) ka n kc (by kernel_rfl) .i64 k (by omega) (by omega)]
    rw [show Try.prog.elem (30) = (34) from by kernel_rfl, Try.sizeOf34]
    simp [sliced, Result.andThen]
  · by_cases hz : kc = 0
    · have : ks.take k = [] := List.length_eq_zero_iff.1 (by simp; omega)
      rw [this]
      exact Els.nil _ _ _ _
    · rw [if_neg hz]
      cases ka with
      | none => exact absurd (h0 rfl) hz
      | some ad =>
        have : ad.add (0 * 2) = ad := by unfold Addr.add; simp
        rw [Option.map_some, this]
        exact hE.take k
  · intro h
    by_cases hz : kc = 0
    · exact hz
    · rw [if_neg hz] at h
      cases ka with
      | none => exact h0 rfl
      | some ad => cases h
/-- 's[k:]' of points. -/
theorem slice_hiP {w : World} {ka : Option Addr} {kc k n : Nat} {ks : Bh} (hE : Pts w ka ks) (hn : ks.length = n) (hle : n ≤ kc) (hk : k ≤ n) (h0 : ka = none → kc = 0) :
    ∃ a2, (∀ W, (Instr.slice (30) (.slice ka n kc) (some (.int .i64 k)) none none).run Try.prog W = .ok (.slice a2 (n - k) (kc - k)) W) ∧ Pts w a2 (ks.drop k) ∧ (a2 = none → kc - k = 0) := by
  refine ⟨if kc = k then ka else ka.map (·.add (k * 2)), fun W => ?_, ?_, ?_⟩
  · rw [run_slice_l (P := Try.prog) W (30) ka n kc (by kernel_rfl) .i64 k (by omega) (by omega)]
    rw [show Try.prog.elem (30) = (34) from by kernel_rfl, Try.sizeOf34]
    simp [sliced, Result.andThen]
  · by_cases hz : kc = k
    · have : ks.drop k = [] := List.length_eq_zero_iff.1 (by simp; omega)
      rw [this]
      exact Els.nil _ _ _ _
    · rw [if_neg hz]
      cases ka with
      | none => exact absurd (h0 rfl) (by intro h; omega)
      | some ad =>
        rw [Option.map_some]
        by_cases hd : ks.drop k = []
        · rw [hd]; exact Els.nil _ _ _ _
        · obtain ⟨b, o, ha, _⟩ := hE.get 0 (by
            rcases Nat.eq_zero_or_pos ks.length with h | h
            · exact absurd (List.length_eq_zero_iff.1 (by simp; omega)) hd
            · exact h)
          injection ha with ha
          subst ha
          rw [addr_add]
          exact els_dropP hE k
  · intro h
    by_cases hz : kc = k
    · omega
    · rw [if_neg hz] at h
      cases ka with
      | none => have := h0 rfl; omega
      | some ad => cases h
theorem pts_of_one {w : World} {b : Nat} {x y : Int} (h : w.heap[b]? = some (.cells #[.int .u64 x, .int .u64 y] (34) (0, 0))) : Pts w (some ⟨b, 0, none⟩) [(x, y)] := by
  refine ⟨fun i hi => ⟨b, 0, rfl, lt_of_blk h, fun j c hj => ?_⟩⟩
  have : i = 0 := by simpa using hi
  subst this
  rw [cell_of_blk h]
  simp only [List.getElem_cons_zero, pc] at hj
  simpa using hj
end Go.Proofs.Ytnnpheklgdbohaa
