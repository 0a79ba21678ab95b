/- slices.Values at facts: its function value hands out the facts in their order. Condition: fewer than 1000000 facts. · The function value that views.seen makes, where a round may write what lies between the facts and the value itself. Condition: fewer than 1000000 facts. -/
import Derived.Test.YtenocakpipppiaaGreatDoorH1
namespace Go.Proofs.YtenocakpipppiaaGreatDoor
open Go.RowKit Go.Shelf Go.Herb
attribute [local go_sem] Oper.semAt_some

set_option maxRecDepth 100000 in
set_option maxHeartbeats 1000000 in
theorem values_any (a : Option Addr) (n cap : Nat) (w : World) :
    Calls Tryz.prog 32 #[.slice a n cap] w fun e w' => ∃ b, e = .returned (.func (.func 45) #[] #[.pointer (some ⟨b, 0, none⟩)]) ∧ Below w.heap.size w w' ∧ w'.heap[b]? = some (.cells #[.slice a n cap] 22 (0, 0)) := by
  go_enter Tryz.func32, Tryz.ntmps32
  go_wp2
  go_ret
  exact ⟨_, rfl, (Below.refl _ w).alloc (Nat.le_refl _) _, blk_new_at rfl _⟩

set_option maxRecDepth 100000 in
set_option maxHeartbeats 1000000 in
theorem values1_in (n : Nat) (hn : 1 ≤ n) (l bl n₀ : Nat) (a : Option Addr) (cap : Nat) (xs : List Fc) (hlen : xs.length < 1000000) (J Jx : List Fc → World → Prop)
    (hY : ∀ pre x W, J pre W → pre.length < xs.length → YieldAt Fence.wide (n - 1) Tryz.prog l #[fv x] W fun e W' =>
      (e = .returned (.bool true) ∧ J (pre ++ [x]) W' ∧ Below n₀ W W') ∨ (e = .returned (.bool false) ∧ Jx (pre ++ [x]) W'))
    (W : World) (hJ : AbidesFrom W.heap.size J) (hV : W.heap[bl]? = some (.cells #[.slice a xs.length cap] 22 (0, 0))) (hn₀ : n₀ ≤ W.heap.size) (hL : Facts W a xs) (hb : 0 < xs.length → ∀ ad, a = some ad → ad.block < n₀) (h0 : J [] W) :
    CallsIn Fence.wide n Tryz.prog 45 #[.func (.yield l) #[] #[], .pointer (some ⟨bl, 0, none⟩)] W fun e W' => (∃ v, e = .returned v) ∧
      ((∃ ys, ys = xs ∧ J ys W') ∨ (∃ pre, pre <+: xs ∧ Jx pre W')) := by
  refine callsIn_of_wp Tryz.func45 rfl trivial ?_ rfl
  simp only [Tryz.ntmps45, List.size_toArray, List.length_cons, List.length_nil, Nat.reduceAdd, Nat.reduceSub, Array.replicate_succ, Array.replicate_zero, List.push_toArray, List.append_toArray, List.nil_append, List.cons_append]
  have HL := Lib.hid hL
  have HB := Lib.hid hb
  have HY := Lib.hid hY
  have HJ := Lib.hid hJ
  have cl := cell_of_blk hV 0
  simp at cl
  clear hV hL hb hY hJ
  gi_wp2
  clear cl
  gi_loopw [7] (fun i wr => ∃ k : Nat, k ≤ xs.length ∧ i = .int .i64 k ∧ Below n₀ W wr ∧ J (xs.take k) wr) (fun i _ => xs.length - (intOf i).toNat)
  case atStart => exact ⟨0, Nat.zero_le _, rfl, Below.refl _ _, h0⟩
  case round =>
    obtain ⟨k, hk, rfl, hBw, hJs⟩ := hrel
    by_cases hlt : k < xs.length
    · obtain ⟨b, o, rfl, hlb, hcell⟩ := HL.out.get k hlt
      have hbn : b < n₀ := HB.out (by omega) _ rfl
      have e0 := (hBw.cell (p := ⟨b, _, none⟩) hbn).trans (hcell 0 _ rfl)
      have e1 := (hBw.cell (p := ⟨b, _, none⟩) hbn).trans (hcell 1 _ rfl)
      have e2 := (hBw.cell (p := ⟨b, _, none⟩) hbn).trans (hcell 2 _ rfl)
      have e3 := (hBw.cell (p := ⟨b, _, none⟩) hbn).trans (hcell 3 _ rfl)
      have e4 := (hBw.cell (p := ⟨b, _, none⟩) hbn).trans (hcell 4 _ rfl)
      have e5 := (hBw.cell (p := ⟨b, _, none⟩) hbn).trans (hcell 5 _ rfl)
      simp only [Nat.add_zero] at e0 e1 e2 e3 e4 e5
      have hwr := hBw.size
      have hbr : b < wr.heap.size := by omega
      have hsn := List.take_succ_eq_append_getElem hlt
      have HSN := Lib.hid hsn
      clear hsn hcell
      generalize hx : xs[k] = x at *
      have HJ2 := Lib.hid (HJ.out _ wr (wr.alloc (.cells #[.string x.key, .int .u32 x.valid, .int .u64 x.seq, .int .u64 x.line, .int .u8 x.kind, .string x.val] 50)) none hJs (World.grownBy_alloc wr _ none) (fun r e => by cases e))
      have hwr' : n₀ ≤ wr.heap.size := by omega
      have hpl : (xs.take k).length < xs.length := by simp; omega
      clear hx
      obtain ⟨fn, tmps, assign, body, hy, hR⟩ := HY.out _ x _ HJ2.out hpl
      dsimp only [fv] at hy
      clear hpl
      gi_wp2
      all_goals
        refine hR.mono ?_
        rintro e W3 (⟨rfl, hJ3, hk3⟩ | ⟨rfl, hJx3⟩)
        · gi_wp2
          go_roundw
          case rel => exact ⟨k + 1, by omega, by go_num, (hBw.alloc hwr' _).trans hk3, by rw [HSN.out]; exact hJ3⟩
          case measure => simp [intOf]; omega
        · gi_wp2
          refine bodyPost_ret (results_none rfl _ _ _) rfl ?_
          refine ⟨⟨_, rfl⟩, .inr ⟨_, ?_, hJx3⟩⟩
          have h1 := List.take_prefix (k + 1) xs
          rw [HSN.out] at h1
          exact h1
    · have hke : k = xs.length := by omega
      subst hke
      gi_wp2
      go_end0
      rw [List.take_length] at hJs
      exact ⟨⟨_, rfl⟩, .inl ⟨_, rfl, hJs⟩⟩

theorem values1_stops (n : Nat) (hn : 1 ≤ n) (bl : Nat) (a : Option Addr) (cap : Nat) (xs : List Fc) (hlen : xs.length < 1000000) (w : World)
    (hV : w.heap[bl]? = some (.cells #[.slice a xs.length cap] 22 (0, 0))) (hL : Facts w a xs) :
    SeqStopsK Fence.wide n Tryz.prog 45 #[.pointer (some ⟨bl, 0, none⟩)] (fun x : Fc => #[fv x]) (Below w.heap.size) (fun ys => ys = xs) (fun pre => pre <+: xs) xs.length w := fun l J Jx W hW hJ _ hY h0 =>
  values1_in n hn l bl w.heap.size a cap xs hlen J Jx hY W hJ ((hW.block _ (lt_of_blk hV)).trans hV) hW.size (hL.ext hW) (fun h ad had => by
    obtain ⟨b, o, ha, hlt, _⟩ := hL.get 0 h
    rw [had] at ha
    injection ha with ha
    rw [ha]
    exact hlt) h0
end Go.Proofs.YtenocakpipppiaaGreatDoor

namespace Go.Proofs.YtenocakpipppiaaGreatDoor
open Go.RowKit Go.Shelf Go.Herb
attribute [local go_sem] Oper.semAt_some

/-- Below n₀ what lies ahead of lo, or from hi on. -/
def Inq (lo hi n₀ b : Nat) : Prop := b < n₀ ∧ (b < lo ∨ hi ≤ b)
/-- That is as it was. -/
def Kq (lo hi n₀ : Nat) (W W' : World) : Prop := W.heap.size ≤ W'.heap.size ∧ ∀ b, Inq lo hi n₀ b → W'.heap[b]? = W.heap[b]?
theorem Kq.refl (lo hi n₀ : Nat) (W : World) : Kq lo hi n₀ W W := ⟨Nat.le_refl _, fun _ _ => rfl⟩
theorem Kq.trans {lo hi n₀ : Nat} {A B C : World} (h : Kq lo hi n₀ A B) (k : Kq lo hi n₀ B C) : Kq lo hi n₀ A C := ⟨Nat.le_trans h.1 k.1, fun b i => (k.2 b i).trans (h.2 b i)⟩
theorem Kq.block {lo hi n₀ : Nat} {A B : World} (h : Kq lo hi n₀ A B) (b : Nat) (i : Inq lo hi n₀ b) : B.heap[b]? = A.heap[b]? := h.2 b i
theorem Kq.cell {lo hi n₀ : Nat} {A B : World} (h : Kq lo hi n₀ A B) {b o : Nat} (i : Inq lo hi n₀ b) : B.cell? ⟨b, o, none⟩ = A.cell? ⟨b, o, none⟩ := World.cell?_of_block (h.2 b i)
theorem Kq.alloc {lo hi n₀ : Nat} {A B : World} (h : Kq lo hi n₀ A B) (hn : n₀ ≤ B.heap.size) (o : Obj) : Kq lo hi n₀ A (B.alloc o) := h.trans ⟨by simp, fun b i => Below.heap_alloc _ _ _ (by have := i.1; omega)⟩
theorem Kq.grown {lo hi n₀ : Nat} {A B C : World} {row : Option Nat} (h : Kq lo hi n₀ A B) (hg : B.grownBy C row) (hn : n₀ ≤ B.heap.size) (hr : ∀ k, row = some k → ¬ Inq lo hi n₀ k) : Kq lo hi n₀ A C :=
  h.trans ⟨hg.size, fun b i => hg.block b (by have := i.1; omega) (fun e => hr b e.symm i)⟩
theorem Kq.below {lo hi n₀ : Nat} {A B : World} (h : Below n₀ A B) : Kq lo hi n₀ A B := ⟨h.size, fun b i => h.block b i.1⟩
theorem kq_b {lo hi n₀ : Nat} {w : World} (hn : n₀ ≤ w.heap.size) (W : World) (l : Nat) (o o' : Obj) (hl : w.heap.size ≤ l) (_ : W.heap[l]? = some o) (_ : o.isCells = false) (_ : o.isWalk = false) : Kq lo hi n₀ W (W.putObj l o') :=
  ⟨by simp, fun b i => World.putObj_heap_other (fun e => by have := i.1; omega)⟩

set_option maxRecDepth 100000 in
set_option maxHeartbeats 1000000 in
theorem seen1q_in (n : Nat) (hn : 1 ≤ n) (l bl bu ba bm lo hi n₀ : Nat) (a : Option Addr) (cap : Nat) (xs : List Fc) (hlen : xs.length < 1000000) (m : List (Int × Int)) (at_ : Int) (J Jx : List Fc → World → Prop)
    (hY : ∀ pre x W, J pre W → pre.length < xs.length → YieldAt Fence.wide (n - 1) Tryz.prog l #[fv x] W fun e W' =>
      (e = .returned (.bool true) ∧ J (pre ++ [x]) W' ∧ Kq lo hi n₀ W W') ∨ (e = .returned (.bool false) ∧ Jx (pre ++ [x]) W'))
    (W : World) (hJ : AbidesFrom W.heap.size J) (hV : SeenV W bl bu ba bm (.slice a xs.length cap) m at_) (hbl : Inq lo hi n₀ bl) (hbu : Inq lo hi n₀ bu) (hba : Inq lo hi n₀ ba) (hbm : Inq lo hi n₀ bm) (hn₀ : n₀ ≤ W.heap.size) (hL : Facts W a xs) (hb : 0 < xs.length → ∀ ad, a = some ad → Inq lo hi n₀ ad.block) (h0 : J [] W) :
    CallsIn Fence.wide n Tryz.prog 41 #[.func (.yield l) #[] #[], .pointer (some ⟨bl, 0, none⟩), .pointer (some ⟨bu, 0, none⟩), .pointer (some ⟨ba, 0, none⟩)] W fun e W' => (∃ v, e = .returned v) ∧
      ((∃ ys, ys = xs.filter (seenB m at_) ∧ J ys W') ∨ (∃ pre, pre <+: xs.filter (seenB m at_) ∧ Jx pre W')) := by
  refine callsIn_of_wp Tryz.func41 rfl trivial ?_ rfl
  simp only [Tryz.ntmps41, List.size_toArray, List.length_cons, List.length_nil, Nat.reduceAdd, Nat.reduceSub, Array.replicate_succ, Array.replicate_zero, List.push_toArray, List.append_toArray, List.nil_append, List.cons_append]
  have HV := Lib.hid hV
  have HL := Lib.hid hL
  have HB := Lib.hid hb
  have HY := Lib.hid hY
  have HJ := Lib.hid hJ
  have cl := cell_of_blk hV.l 0
  simp at cl
  clear hV hL hb hY hJ
  gi_wp2
  clear cl
  gi_loopw [11] (fun i wr => ∃ k : Nat, k ≤ xs.length ∧ i = .int .i64 k ∧ Kq lo hi n₀ W wr ∧ J ((xs.take k).filter (seenB m at_)) wr) (fun i _ => xs.length - (intOf i).toNat)
  case atStart => exact ⟨0, Nat.zero_le _, rfl, Kq.refl _ _ _ _, h0⟩
  case round =>
    obtain ⟨k, hk, rfl, hBw, hJs⟩ := hrel
    by_cases hlt : k < xs.length
    · obtain ⟨b, o, rfl, hlb, hcell⟩ := HL.out.get k hlt
      have hbn : Inq lo hi n₀ b := HB.out (by omega) _ rfl
      have e0 := (hBw.cell hbn).trans (hcell 0 _ rfl)
      have e1 := (hBw.cell hbn).trans (hcell 1 _ rfl)
      have e2 := (hBw.cell hbn).trans (hcell 2 _ rfl)
      have e3 := (hBw.cell hbn).trans (hcell 3 _ rfl)
      have e4 := (hBw.cell hbn).trans (hcell 4 _ rfl)
      have e5 := (hBw.cell hbn).trans (hcell 5 _ rfl)
      simp only [Nat.add_zero] at e0 e1 e2 e3 e4 e5
      have hwr := hBw.1
      have hbr : b < wr.heap.size := by have := hbn.1; omega
      have hVr : SeenV wr bl bu ba bm (.slice (some ⟨b, o, none⟩) xs.length cap) m at_ := HV.out.same (hBw.block _ hbl) (hBw.block _ hbu) (hBw.block _ hba) (hBw.block _ hbm)
      have hur : bu < wr.heap.size := lt_of_blk hVr.u
      have har : ba < wr.heap.size := lt_of_blk hVr.a
      have cu := cell_of_blk hVr.u 0
      have ca := cell_of_blk hVr.a 0
      simp at cu ca
      have hsn := filter_succ (seenB m at_) xs k hlt
      have HSN := Lib.hid hsn
      clear hsn hcell
      generalize hx : xs[k] = x at *
      have hM : MapU (wr.alloc (.cells #[.string x.key, .int .u32 x.valid, .int .u64 x.seq, .int .u64 x.line, .int .u8 x.kind, .string x.val] 50)) bm m := hVr.m.same (Below.heap_alloc _ _ _ hVr.m.lt)
      have hlook := (hM.look law25 eU_inj Tryz.underlying89 (zero25 _) (Maps.keyOf_int_mk Tryz.underlying24 x.wl)).2
      have HJ2 := Lib.hid (HJ.out _ wr (wr.alloc (.cells #[.string x.key, .int .u32 x.valid, .int .u64 x.seq, .int .u64 x.line, .int .u8 x.kind, .string x.val] 50)) none hJs (World.grownBy_alloc wr _ none) (fun r e => by cases e))
      have hwr' : n₀ ≤ wr.heap.size := by omega
      clear hx hM hVr
      cases hg : getL m x.line with
      | none =>
        rw [hg] at hlook
        simp only at hlook
        have hsb : seenB m at_ x = false := by simp [seenB, hg]
        have HSB := Lib.hid hsb
        clear hsb hg
        gi_wp2
        refine ⟨fun _ h => (by cases h), ?_⟩
        gi_wp2
        go_roundw
        case rel => exact ⟨k + 1, by omega, by go_num, hBw.alloc hwr' _, by rw [HSN.out, HSB.out]; simpa using HJ2.out⟩
        case measure => simp [intOf]; omega
      | some u =>
        rw [hg] at hlook
        simp only at hlook
        by_cases hs : x.seq ≤ u ∧ x.seq ≤ at_
        · have hsb : seenB m at_ x = true := by simp [seenB, hg, hs]
          have HSB := Lib.hid hsb
          have hmin : x.seq ≤ min u at_ := by omega
          have hpl : ((xs.take k).filter (seenB m at_)).length < xs.length := by
            have h1 := List.length_filter_le (seenB m at_) (xs.take k)
            have h2 := List.length_take_le k xs
            omega
          obtain ⟨fn, tmps, assign, body, hy, hR⟩ := HY.out _ x _ HJ2.out hpl
          dsimp only [fv] at hy
          clear hsb hg hpl
          gi_wp2
          all_goals
            refine hR.mono ?_
            rintro e W3 (⟨rfl, hJ3, hk3⟩ | ⟨rfl, hJx3⟩)
            · gi_wp2
              go_roundw
              case rel => exact ⟨k + 1, by omega, by go_num, (hBw.alloc hwr' _).trans hk3, by rw [HSN.out, HSB.out]; simpa using hJ3⟩
              case measure => simp [intOf]; omega
            · gi_wp2
              refine bodyPost_ret (results_none rfl _ _ _) rfl ?_
              refine ⟨⟨_, rfl⟩, .inr ⟨_, ?_, hJx3⟩⟩
              have h1 := filter_take_prefix (seenB m at_) xs (k + 1)
              rw [HSN.out, HSB.out] at h1
              simpa using h1
        · have hsb : seenB m at_ x = false := by simp [seenB, hg]; omega
          have HSB := Lib.hid hsb
          have hmin : ¬ x.seq ≤ min u at_ := by omega
          clear hsb hg
          gi_wp2
          all_goals
            refine ⟨fun _ h => (by cases h), ?_⟩
            gi_wp2
            go_roundw
            case rel => exact ⟨k + 1, by omega, by go_num, hBw.alloc hwr' _, by rw [HSN.out, HSB.out]; simpa using HJ2.out⟩
            case measure => simp [intOf]; omega
    · have hke : k = xs.length := by omega
      subst hke
      gi_wp2
      go_end0
      rw [List.take_length] at hJs
      exact ⟨⟨_, rfl⟩, .inl ⟨_, rfl, hJs⟩⟩

theorem seen1q_stops (n : Nat) (hn : 1 ≤ n) (bl bu ba bm lo hi : Nat) (a : Option Addr) (cap : Nat) (xs : List Fc) (hlen : xs.length < 1000000) (m : List (Int × Int)) (at_ : Int) (w : World)
    (hV : SeenV w bl bu ba bm (.slice a xs.length cap) m at_) (hbl : hi ≤ bl) (hbu : hi ≤ bu) (hba : hi ≤ ba) (hbm : hi ≤ bm) (hL : Facts w a xs) (hlo : 0 < xs.length → ∀ ad, a = some ad → ad.block < lo) :
    SeqStopsK Fence.wide n Tryz.prog 41 #[.pointer (some ⟨bl, 0, none⟩), .pointer (some ⟨bu, 0, none⟩), .pointer (some ⟨ba, 0, none⟩)] (fun x : Fc => #[fv x]) (Kq lo hi w.heap.size) (fun ys => ys = xs.filter (seenB m at_)) (fun pre => pre <+: xs.filter (seenB m at_)) xs.length w := fun l J Jx W hW hJ _ hY h0 =>
  seen1q_in n hn l bl bu ba bm lo hi w.heap.size a cap xs hlen m at_ J Jx hY W hJ (hV.below hW) ⟨lt_of_blk hV.l, .inr hbl⟩ ⟨lt_of_blk hV.u, .inr hbu⟩ ⟨lt_of_blk hV.a, .inr hba⟩ ⟨hV.m.lt, .inr hbm⟩ hW.size (hL.ext hW) (fun h ad had => by
    obtain ⟨b, o, ha, hlt, _⟩ := hL.get 0 h
    rw [had] at ha
    injection ha with ha
    refine ⟨?_, .inl (hlo h ad had)⟩
    rw [ha]
    exact hlt) h0
end Go.Proofs.YtenocakpipppiaaGreatDoor
