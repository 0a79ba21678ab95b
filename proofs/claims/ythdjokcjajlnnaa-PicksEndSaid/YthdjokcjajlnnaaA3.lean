/- Contracts of slices.Clip at tables and of picks.taken. Condition: fewer than 1000000 tables, and those that are taken stand there. -/
import Derived.Test.YthdjokcjajlnnaaA2
namespace Go.Proofs.Ythdjokcjajlnnaa
open Go.RowKit Go.Herb

/-- What taken answers: what is left, and a place in it. -/
def Left (l sm : List T) (w : World) (e : Ending) (w' : World) : Prop :=
  ∃ (a : Option Addr) (cap : Nat) (ys : List T) (p : Int), e = .returned (.tuple #[.slice a ys.length cap, .int .i64 p, .bool true]) ∧ l.length ≤ cap ∧ (sm ++ ys).Perm l ∧ w'.ownsRow w.heap.size 45 4 (.slice a ys.length cap) ys.length (ys.flatMap tc) ∧ ((sm = [] ∧ p = -1) ∨ (0 ≤ p ∧ p ≤ ys.length)) ∧ Below w.heap.size w w'

theorem erase_perm {α : Type} (l : List α) (i : Nat) (x : α) (h : l[i]? = some x) : (x :: l.eraseIdx i).Perm l := by
  obtain ⟨hi, rfl⟩ := List.getElem?_eq_some_iff.1 h
  rw [List.eraseIdx_eq_take_drop_succ]
  have : l = l.take i ++ l[i] :: l.drop (i + 1) := by rw [← List.drop_eq_getElem_cons hi, List.take_append_drop]
  conv => rhs; rw [this]
  exact List.perm_middle.symm

theorem still_there {α : Type} {a b c d : List α} {x : α} (h1 : (a ++ x :: b).Perm c) (h2 : (a ++ d).Perm c) : x ∈ d :=
  ((List.perm_append_left_iff a).1 (h1.trans h2.symm)).subset (by simp)

set_option maxHeartbeats 1000000 in
theorem taken_any (a : Option Addr) (cap : Nat) (l : List T) (b : Option Addr) (capb : Nat) (sm r : List T) (w : World) (hx : Tabs w a l) (hn : a = none → cap = 0) (hl : l.length < 1000000) (hs : Tabs w b sm) (hp : (sm ++ r).Perm l) :
    Calls Try.prog 20 #[.slice a l.length cap, .slice b sm.length capb] w (Left l sm w) := by
  have hsl : sm.length < 1000000 := by have := hp.length_eq; simp at this; omega
  have HS := Lib.hid hs
  have HP := Lib.hid hp
  have HX := Lib.hid hx
  clear hs hp hx
  go_enter Try.func20, Try.ntmps20
  go_wp2_with fail
  refine (clone_any a cap l w HX.out hl hn).mono ?_
  rintro e w1 ⟨v, rfl, hO, hB⟩
  obtain ⟨a1, c1, rfl, hc1, -⟩ := els_of_owns tc_len hO
  have HC1 := Lib.hid hc1
  clear hc1
  have HO := Lib.hid hO
  have HB := Lib.hid hB
  clear hO hB
  go_wp2
  go_loopg [4, 5, 14] sm.length (fun gk va pv iv wr => ∃ (av : Option Addr) (cv : Nat) (k : Nat) (ys : List T) (p : Int), va = .slice av ys.length cv ∧ l.length ≤ cv ∧ k + gk = sm.length ∧ iv = .int .i64 k ∧ pv = .int .i64 p ∧ (sm.take k ++ ys).Perm l ∧ wr.ownsRow w.heap.size 45 4 (.slice av ys.length cv) ys.length (ys.flatMap tc) ∧ ((k = 0 ∧ p = -1) ∨ (0 ≤ p ∧ p ≤ ys.length)) ∧ Below w.heap.size w wr)
  case atStart => exact ⟨_, _, 0, l, -1, rfl, HC1.out, by omega, rfl, rfl, by simp, HO.out, .inl ⟨rfl, rfl⟩, HB.out⟩
  case round =>
    obtain ⟨av, cv, k, ys, p, rfl, hcv, hk, rfl, rfl, hpm, hO, hpl, hB⟩ := hrel
    have hyl : ys.length ≤ l.length := by have := hpm.length_eq; simp at this; omega
    have HPM := Lib.hid hpm
    by_cases hlt : k < sm.length
    · have hsk : sm = sm.take k ++ sm[k] :: sm.drop (k + 1) := by rw [← List.drop_eq_getElem_cons hlt, List.take_append_drop]
      have hmem : sm[k] ∈ ys := by
        have h1 := HP.out
        rw [hsk, List.append_assoc, List.cons_append] at h1
        exact still_there h1 hpm
      have htk : sm.take (k + 1) = sm.take k ++ [sm[k]] := by rw [List.take_succ_eq_append_getElem hlt]
      obtain ⟨bb, o, rfl, hb, hc⟩ := HS.out.get k hlt
      have e0 := (hB.cell (p := ⟨bb, _, none⟩) hb).trans (hc 0 _ rfl)
      have e1 := (hB.cell (p := ⟨bb, _, none⟩) hb).trans (hc 1 _ rfl)
      have e2 := (hB.cell (p := ⟨bb, _, none⟩) hb).trans (hc 2 _ rfl)
      have e3 := (hB.cell (p := ⟨bb, _, none⟩) hb).trans (hc 3 _ rfl)
      simp only [Nat.add_zero] at e0
      generalize sm[k] = x at *
      obtain ⟨g, cap', rfl, hcl, hg, hR⟩ : ∃ g cap', av = some ⟨g, 0, none⟩ ∧ cap' = cv ∧ w.heap.size ≤ g ∧ TRow wr g cap' ys := by
        rcases row_of_owns hO with ⟨_, rfl⟩ | ⟨g, cap', h1, h2, h3⟩
        · cases hmem
        · injection h1 with h1 _ h4
          exact ⟨g, cap', h1, h4.symm, h2, h3⟩
      subst hcl
      have HR := Lib.hid hR
      have HT := Lib.hid htk
      have HM := Lib.hid hmem
      have HBr := Lib.hid hB
      have HPL := Lib.hid hpl
      clear hO hc hpm hsk htk hR hmem hpl
      have hws := hB.size
      clear hB
      go_wp2_with fail
      obtain ⟨W0, hW0⟩ : ∃ W0 : World, W0 = wr.alloc (Obj.cells #[.int .u64 x.file, .int .u32 x.bytes, .string x.low, .string x.high] 45) := ⟨_, rfl⟩
      have HB0 : Below wr.heap.size wr W0 := by rw [hW0]; go_grown
      rw [← hW0]
      clear hW0 e0 e1 e2 e3
      refine (index_any (some ⟨g, 0, none⟩) cap' ys x W0 ((HR.out.els tc_len).ext HB0) (by omega)).mono ?_
      rintro e w2 ⟨n, rfl, hB2, ⟨rfl, hno⟩ | ⟨i, rfl, hgi, -⟩⟩
      · exact absurd HM.out hno
      · have hB3 : Below wr.heap.size wr w2 := HB0.trans (hB2.mono HB0.size)
        have hil : i < ys.length := (List.getElem?_eq_some_iff.1 hgi).1
        have HGI := Lib.hid hgi
        have hw1 : IntKind.i64.wrap ((i : Int) + 1) = (i : Int) + 1 := IntWalk.i64_in _ (by omega)
        have hR3 : TRow w2 g cap' ys := HR.out.below hB3
        have HB3 := Lib.hid hB3
        clear hB2 hgi HB0 hB3
        go_wp2_with fail
        refine (delete1 g cap' ys i w2 hR3 (by omega) hil).mono ?_
        rintro e w3 ⟨rfl, hR4, hG⟩
        have hel : (ys.eraseIdx i).length = ys.length - 1 := List.length_eraseIdx_of_lt hil
        have hrel : ∀ p' : Int, 0 ≤ p' → p' ≤ (ys.length : Int) - 1 → ∃ (av : Option Addr) (cv k' : Nat) (ys' : List T) (q : Int), Value.slice (some ⟨g, 0, none⟩) (ys.length - 1) cap' = .slice av ys'.length cv ∧ l.length ≤ cv ∧ k' + (gk - 1) = sm.length ∧ Value.int IntKind.i64 ((k : Int) + 1) = .int .i64 k' ∧ Value.int .i64 p' = .int .i64 q ∧ (sm.take k' ++ ys').Perm l ∧ w3.ownsRow w.heap.size 45 4 (.slice av ys'.length cv) ys'.length (ys'.flatMap tc) ∧ ((k' = 0 ∧ q = -1) ∨ (0 ≤ q ∧ q ≤ ys'.length)) ∧ Below w.heap.size w w3 := by
          intro p' h0 h1
          refine ⟨_, _, k + 1, ys.eraseIdx i, p', by rw [hel], hcv, by omega, by go_num, rfl, ?_, ?_, .inr ⟨h0, by rw [hel]; omega⟩, ?_⟩
          · rw [HT.out, List.append_assoc]
            exact (List.Perm.append_left _ (erase_perm ys i x HGI.out)).trans HPM.out
          · exact hR4.owns tc_len hg
          · exact (HBr.out.trans (HB3.out.mono hws)).grown hG (Nat.le_trans hws HB3.out.size) (fun q hq => by cases hq; exact hg)
        have HREL := Lib.hid hrel
        clear hrel hR4 hG hR3 hw1 hel
        have hpl := HPL.out
        by_cases hpn : p < 0
        · have : p = -1 := by omega
          subst this
          clear hpn hpl
          go_wp2
          go_roundg (gk - 1)
          case measure => omega
          case rel => 
            have := HREL.out i (by omega) (by omega)
            simpa using this
        · have hp0 : 0 ≤ p ∧ p ≤ ys.length := by omega
          by_cases hip : (i : Int) < p
          · have hw2 : IntKind.i64.wrap (p - 1) = p - 1 := IntWalk.i64_in _ (by omega)
            go_wp2
            go_roundg (gk - 1)
            case measure => omega
            case rel => exact HREL.out (p - 1) (by omega) (by omega)
          · go_wp2
            go_roundg (gk - 1)
            case measure => omega
            case rel => exact HREL.out p (by omega) (by omega)
    · have hke : sm.take k = sm := List.take_of_length_le (by omega)
      have HO2 := Lib.hid hO
      have HB2 := Lib.hid hB
      have HPL := Lib.hid hpl
      clear hO hB hpm hpl
      go_wp2
      refine bodyPost_ret (v := .tuple #[.slice av ys.length cv, .int .i64 p, .bool true]) (by simp [results, Try.results20, go_sem, *]) rfl ?_
      refine ⟨av, cv, ys, p, rfl, hcv, by rw [← hke]; exact HPM.out, HO2.out, ?_, HB2.out⟩
      rcases HPL.out with ⟨rfl, h⟩ | h
      · exact .inl ⟨by rw [← hke]; simp, h⟩
      · exact .inr h

theorem clip_any (a : Option Addr) (cap n : Nat) (w : World) (hn : a = none → n = 0 ∧ cap = 0) (hl : n < 1000000) (hle : n ≤ cap) (hm : cap ≤ maxLen) :
    Calls Try.prog 25 #[.slice a n cap] w fun e w' => e = .returned (.slice a n n) ∧ w = w' := by
  cases a with
  | none =>
    obtain ⟨rfl, rfl⟩ := hn rfl
    clear hn
    go_enter Try.func25, Try.ntmps25
    go_wp2
    go_ret
    exact ⟨rfl, rfl⟩
  | some ad =>
    clear hn
    unfold maxLen at hm
    go_enter Try.func25, Try.ntmps25
    go_wp2
    go_ret
    exact ⟨rfl, rfl⟩
end Go.Proofs.Ythdjokcjajlnnaa
