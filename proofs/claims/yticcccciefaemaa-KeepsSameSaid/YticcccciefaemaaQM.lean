/- herbariumlaw18.alike and sees. Condition: fewer than 1000000 facts. -/
import Derived.Test.YticcccciefaemaaQL
import Derived.Deep.RegionHeld3
namespace Go.Proofs.Yticcccciefaemaa
open Go.RowKit Go.Shelf Go.Herb

def AlikePost (xs : List Fc) (w : World) (e : Ending) (w' : World) : Prop := ∃ (b : Bool) (n : Nat), e = .returned (.bool b) ∧ (b = false → NoAlike xs) ∧ w' = w.drewN n

set_option maxHeartbeats 2000000 in
theorem alike_post (al : Option Addr) (cl : Nat) (xs : List Fc) (w : World) (hL : Facts w al xs) (hl : xs.length < 1000000) :
    Calls Try.prog (10) #[.slice al xs.length cl] w (AlikePost xs w) := by
  have HL := Lib.hid hL
  clear hL
  go_enter Try.func10, Try.ntmps10
  go_wp2_with fail
  go_loopg [3] xs.length (fun gk iv wr => ∃ i n : Nat, i + gk = xs.length ∧ iv = .int .i64 i ∧ (∀ (p q : Nat) (hq : q < p) (hp : p < xs.length), p < i → ¬ (xs[p].key.toList = (xs[q]'(by omega)).key.toList ∧ xs[p].valid = (xs[q]'(by omega)).valid ∧ xs[p].seq = (xs[q]'(by omega)).seq)) ∧ wr = w.drewN n)
  case atStart => exact ⟨0, 0, by omega, rfl, fun _ _ _ _ h => by omega, rfl⟩
  case round =>
    obtain ⟨i, n, hi, rfl, hno, rfl⟩ := hrel
    have HNO := Lib.hid hno
    clear hno
    by_cases hlt : i < xs.length
    · go_wp2_with fail
      obtain ⟨g1, rfl⟩ : ∃ g : Nat, g = gk := ⟨_, rfl⟩
      go_loopg [4] i (fun gk kv wr => ∃ k n : Nat, k + gk = i ∧ kv = .int .i64 k ∧ (∀ (q : Nat) (hq : q < k) (hqi : q < i), ¬ (xs[i].key.toList = (xs[q]'(by omega)).key.toList ∧ xs[i].valid = (xs[q]'(by omega)).valid ∧ xs[i].seq = (xs[q]'(by omega)).seq)) ∧ wr = w.drewN n)
      case atStart => exact ⟨0, n, by omega, rfl, fun _ h => by omega, rfl⟩
      case round =>
        obtain ⟨k, m, hk, rfl, hn2, rfl⟩ := hrel
        have HN2 := Lib.hid hn2
        clear hn2
        by_cases hkl : k < i
        · obtain ⟨b, o, rfl, hlb, hc⟩ := HL.out.get i hlt
          have hc2 : ∀ j c, (fc (xs[k]'(by omega)))[j]? = some c → w.cell? ⟨b, o + k * 6 + j, none⟩ = some c := by
            obtain ⟨b', o', ha, _, h⟩ := HL.out.get k (by omega)
            injection ha with ha
            injection ha with h1 h2
            subst h1 h2
            exact h
          have hstep : ¬ (xs[i].key.toList = (xs[k]'(by omega)).key.toList ∧ xs[i].valid = (xs[k]'(by omega)).valid ∧ xs[i].seq = (xs[k]'(by omega)).seq) → ∀ (q : Nat) (hq : q < k + 1) (hqi : q < i), ¬ (xs[i].key.toList = (xs[q]'(by omega)).key.toList ∧ xs[i].valid = (xs[q]'(by omega)).valid ∧ xs[i].seq = (xs[q]'(by omega)).seq) := by
            intro h q hq hqi
            rcases Nat.lt_or_eq_of_le (Nat.le_of_lt_succ hq) with h2 | h2
            · exact HN2.out q h2 hqi
            · subst h2; exact h
          have HST := Lib.hid hstep
          obtain ⟨x, hx⟩ : ∃ x, x = xs[i] := ⟨_, rfl⟩
          obtain ⟨y, hy⟩ : ∃ y, y = xs[k]'(by omega) := ⟨_, rfl⟩
          rw [← hx] at hc
          rw [← hy] at hc2
          have e0 := hc 0 _ rfl
          have e1 := hc 1 _ rfl
          have e2 := hc 2 _ rfl
          have f0 := hc2 0 _ rfl
          have f1 := hc2 1 _ rfl
          have f2 := hc2 2 _ rfl
          simp only [Nat.add_zero] at e0 e1 e2 f0 f1 f2
          have hi0 : (0 : Int) ≤ (i : Int) := by omega
          have hi1 : (i : Int) < (xs.length : Int) := by omega
          have hk0 : (0 : Int) ≤ (k : Int) := by omega
          have hk1 : (k : Int) < (xs.length : Int) := by omega
          have HX := Lib.hid hx
          have HY := Lib.hid hy
          obtain ⟨wq, hwq⟩ : ∃ wq, wq = w.drewN m := ⟨_, rfl⟩
          have hcq : ∀ p, wq.cell? p = w.cell? p := fun p => by rw [hwq]; rfl
          rw [← hcq] at e0 e1 e2 f0 f1 f2
          rw [← hwq]
          have HWQ := Lib.hid hwq
          clear hc hc2 hstep hx hy hcq hwq
          by_cases h1 : x.key.toList = y.key.toList
          · have d1 : (x.key.toList == y.key.toList) = true := beq_iff_eq.2 h1
            by_cases h2 : x.valid = y.valid
            · have d2 : (x.valid == y.valid) = true := beq_iff_eq.2 h2
              by_cases h3 : x.seq = y.seq
              · have d3 : (x.seq == y.seq) = true := beq_iff_eq.2 h3
                clear h1 h2 h3
                go_wp2_with fail
                go_quiet (fail)
                go_wp2
                go_ret
                exact ⟨true, m + nq, rfl, (fun h => by cases h), by rw [HWQ.out, World.drewN_drewN]⟩
              · have d3 : (x.seq == y.seq) = false := beq_eq_false_iff_ne.2 h3
                have HNE := Lib.hid (HST.out (fun h => h3 (by rw [HX.out, HY.out]; exact h.2.2)))
                clear h1 h2 h3
                go_wp2_with fail
                go_quiet (fail)
                go_wp2
                go_roundg (gk - 1)
                case measure => omega
                case rel => exact ⟨k + 1, m + nq, by omega, by go_num, HNE.out, by rw [HWQ.out, World.drewN_drewN]⟩
            · have d2 : (x.valid == y.valid) = false := beq_eq_false_iff_ne.2 h2
              have HNE := Lib.hid (HST.out (fun h => h2 (by rw [HX.out, HY.out]; exact h.2.1)))
              clear h1 h2
              go_wp2_with fail
              go_quiet (fail)
              go_wp2
              go_roundg (gk - 1)
              case measure => omega
              case rel => exact ⟨k + 1, m + nq, by omega, by go_num, HNE.out, by rw [HWQ.out, World.drewN_drewN]⟩
          · have d1 : (x.key.toList == y.key.toList) = false := beq_eq_false_iff_ne.2 h1
            have HNE := Lib.hid (HST.out (fun h => h1 (by rw [HX.out, HY.out]; exact h.1)))
            clear h1
            go_wp2_with fail
            go_quiet (fail)
            go_wp2
            go_roundg (gk - 1)
            case measure => omega
            case rel => exact ⟨k + 1, m + nq, by omega, by go_num, HNE.out, by rw [HWQ.out, World.drewN_drewN]⟩
        · have hke : k = i := by omega
          subst hke
          go_wp2
          go_roundg (g1 - 1)
          case measure => omega
          case rel =>
            refine ⟨k + 1, m, by omega, by go_num, fun p q hq hp hpi => ?_, rfl⟩
            rcases Nat.lt_or_eq_of_le (Nat.le_of_lt_succ hpi) with h | h
            · exact HNO.out p q hq hp h
            · subst h; exact HN2.out q hq hq
    · have hie : i = xs.length := by omega
      subst hie
      go_wp2
      go_ret
      exact ⟨false, n, rfl, fun _ p q hq hp => HNO.out p q hq hp hp, rfl⟩

abbrev uc (t : Int) : List Value := [.int .u64 t]
abbrev OwnU (B : Nat) (w : World) (v : Value) (ts : List Int) : Prop := w.ownsRow B (25) 1 v ts.length (ts.flatMap uc)
theorem info25 : (Try.prog.info? (25)).map (fun i => (i.zero, i.size, i.bytes)) = some (some (.int .u64 0), 1, 8) := by kernel_rfl
theorem uc_len (t : Int) : (uc t).length = 1 := rfl
theorem run_append_num (w : World) (B : Nat) (v : Value) (ts : List Int) (vb : Nat) (t : Int) (ho : OwnU B w v ts) (hb : w.heap[vb]? = some (.cells #[.int .u64 t] (25) (0, 0))) (hx : ts.length < 1000000) (hB : B ≤ w.heap.size) (ty : TypeId) :
    ∃ v' w', (Builtin.append_ #[(56), (56)] ty #[v, .slice (some ⟨vb, 0, none⟩) 1 1]).run Try.prog w = .ok v' w' ∧ OwnU B w' v' (ts ++ [t]) ∧ w.grownBy w' v.ownBlock := by
  obtain ⟨i0, hin, hz0, hz1, hz2⟩ := info_parts info25
  obtain ⟨v', w', hr, h2, h3, h4⟩ := run_append_own (P := Try.prog) w B (56) ty (25) i0 _ 1 8 Try.underlying56 hin hz0 hz1 hz2 rfl (by decide) v ts.length (ts.flatMap uc) ho ⟨vb, 0, none⟩ 1 1 (uc t) rfl (fun j u hj => by
      have : ((⟨vb, 0, none⟩ : Addr).add j) = ⟨vb, 0 + j, none⟩ := addr_add _ _ _
      rw [this, Nat.zero_add, cell_of_blk hb]
      simpa [uc] using hj) (by intro v hv; simp [uc] at hv; subst hv; rfl) (by unfold maxLen; omega) (by omega) hB
  refine ⟨v', w', hr, ?_, h3⟩
  show w'.ownsRow B (25) 1 v' (ts ++ [t]).length ((ts ++ [t]).flatMap uc)
  rw [List.length_append, List.flatMap_append]
  simpa using h2
end Go.Proofs.Yticcccciefaemaa
