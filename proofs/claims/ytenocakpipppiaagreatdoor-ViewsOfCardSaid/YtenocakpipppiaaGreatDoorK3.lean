/- The function value that views.seen makes: it hands out the facts that are seen. Condition: fewer than 1000000 facts. -/
import Derived.Test.YtenocakpipppiaaGreatDoorK2
namespace Go.Proofs.YtenocakpipppiaaGreatDoor
open Go.RowKit Go.Shelf Go.Herb
attribute [local go_sem] Oper.semAt_some

/-- A fact. -/
structure Fc where
  key : ByteArray
  valid : Int
  seq : Int
  line : Int
  kind : Int
  val : ByteArray
  wk : key.size ≤ maxLen
  wv : (Lit.int .u32 valid).wf = true
  ws : (Lit.int .u64 seq).wf = true
  wl : (Lit.int .u64 line).wf = true
  wd : (Lit.int .u8 kind).wf = true
deriving DecidableEq

def fc (x : Fc) : List Value := [.string x.key, .int .u32 x.valid, .int .u64 x.seq, .int .u64 x.line, .int .u8 x.kind, .string x.val]
abbrev fv (x : Fc) : Value := .agg #[.string x.key, .int .u32 x.valid, .int .u64 x.seq, .int .u64 x.line, .int .u8 x.kind, .string x.val]
abbrev Facts (w : World) (a : Option Addr) (xs : List Fc) : Prop := Els fc 6 w a xs
theorem fc_len (x : Fc) : (fc x).length = 6 := rfl

/-- Is a fact seen? -/
def seenB (m : List (Int × Int)) (at_ : Int) (x : Fc) : Bool :=
  match getL m x.line with
  | some u => decide (x.seq ≤ u) && decide (x.seq ≤ at_)
  | none => false

theorem filter_succ (p : Fc → Bool) (xs : List Fc) (k : Nat) (h : k < xs.length) : (xs.take (k + 1)).filter p = (xs.take k).filter p ++ if p xs[k] then [xs[k]] else [] := by
  rw [List.take_succ_eq_append_getElem h, List.filter_append]
  congr 1
  cases hp : p xs[k] <;> simp [hp]

theorem filter_take_prefix (p : Fc → Bool) (xs : List Fc) (k : Nat) : (xs.take k).filter p <+: xs.filter p := (List.take_prefix k xs).filter p

theorem zero25 (w : World) : (zeroValue 24).run Tryz.prog w = .ok (.int .u64 0) w := by kernel_rfl

set_option maxRecDepth 100000 in
set_option maxHeartbeats 1000000 in
theorem seen1_in (n : Nat) (hn : 1 ≤ n) (l bl bu ba bm n₀ : Nat) (a : Option Addr) (cap : Nat) (xs : List Fc) (hlen : xs.length < 1000000) (m : List (Int × Int)) (at_ : Int) (J Jx : List Fc → World → Prop)
    (hY : ∀ pre x W, J pre W → pre.length < xs.length → YieldAt Fence.wide (n - 1) Tryz.prog l #[fv x] W fun e W' =>
      (e = .returned (.bool true) ∧ J (pre ++ [x]) W' ∧ Below n₀ W W') ∨ (e = .returned (.bool false) ∧ Jx (pre ++ [x]) W'))
    (W : World) (hJ : AbidesFrom W.heap.size J) (hV : SeenV W bl bu ba bm (.slice a xs.length cap) m at_) (hbl : bl < n₀) (hbu : bu < n₀) (hba : ba < n₀) (hbm : bm < n₀) (hn₀ : n₀ ≤ W.heap.size) (hL : Facts W a xs) (hb : 0 < xs.length → ∀ ad, a = some ad → ad.block < n₀) (h0 : J [] W) :
    CallsIn Fence.wide n Tryz.prog 41 #[.func (.yield l) #[] #[], .pointer (some ⟨bl, 0, none⟩), .pointer (some ⟨bu, 0, none⟩), .pointer (some ⟨ba, 0, none⟩)] W fun e W' => (∃ v, e = .returned v) ∧
      ((∃ ys, ys = xs.filter (seenB m at_) ∧ J ys W') ∨ (∃ pre, pre <+: xs.filter (seenB m at_) ∧ Jx pre W')) := by
  refine callsIn_of_wp Tryz.func41 rfl trivial ?_ rfl
  simp only [Tryz.ntmps41, List.size_toArray, List.length_cons, List.length_nil, Nat.reduceAdd, Nat.reduceSub, Array.replicate_succ, Array.replicate_zero, List.push_toArray, List.append_toArray, List.nil_append, List.cons_append]
  have HV := Lib.hid hV
  have HL := Lib.hid hL
  have HB := Lib.hid hb
  have HY := Lib.hid hY
  have HJ := Lib.hid hJ
  have cl := cell_of_blk hV.l 0
  simp at cl
  clear hV hL hb hY hJ
  gi_wp2
  clear cl
  gi_loopw [11] (fun i wr => ∃ k : Nat, k ≤ xs.length ∧ i = .int .i64 k ∧ Below n₀ W wr ∧ J ((xs.take k).filter (seenB m at_)) wr) (fun i _ => xs.length - (intOf i).toNat)
  case atStart => exact ⟨0, Nat.zero_le _, rfl, Below.refl _ _, h0⟩
  case round =>
    obtain ⟨k, hk, rfl, hBw, hJs⟩ := hrel
    by_cases hlt : k < xs.length
    · obtain ⟨b, o, rfl, hlb, hcell⟩ := HL.out.get k hlt
      have hbn : b < n₀ := HB.out (by omega) _ rfl
      have e0 := (hBw.cell (p := ⟨b, _, none⟩) hbn).trans (hcell 0 _ rfl)
      have e1 := (hBw.cell (p := ⟨b, _, none⟩) hbn).trans (hcell 1 _ rfl)
      have e2 := (hBw.cell (p := ⟨b, _, none⟩) hbn).trans (hcell 2 _ rfl)
      have e3 := (hBw.cell (p := ⟨b, _, none⟩) hbn).trans (hcell 3 _ rfl)
      have e4 := (hBw.cell (p := ⟨b, _, none⟩) hbn).trans (hcell 4 _ rfl)
      have e5 := (hBw.cell (p := ⟨b, _, none⟩) hbn).trans (hcell 5 _ rfl)
      simp only [Nat.add_zero] at e0 e1 e2 e3 e4 e5
      have hwr := hBw.size
      have hbr : b < wr.heap.size := by omega
      have hVr : SeenV wr bl bu ba bm (.slice (some ⟨b, o, none⟩) xs.length cap) m at_ := HV.out.same (hBw.block _ hbl) (hBw.block _ hbu) (hBw.block _ hba) (hBw.block _ hbm)
      have hur : bu < wr.heap.size := lt_of_blk hVr.u
      have har : ba < wr.heap.size := lt_of_blk hVr.a
      have cu := cell_of_blk hVr.u 0
      have ca := cell_of_blk hVr.a 0
      simp at cu ca
      have hsn := filter_succ (seenB m at_) xs k hlt
      have HSN := Lib.hid hsn
      clear hsn hcell
      generalize hx : xs[k] = x at *
      have hM : MapU (wr.alloc (.cells #[.string x.key, .int .u32 x.valid, .int .u64 x.seq, .int .u64 x.line, .int .u8 x.kind, .string x.val] 50)) bm m := hVr.m.same (Below.heap_alloc _ _ _ hVr.m.lt)
      have hlook := (hM.look law25 eU_inj Tryz.underlying89 (zero25 _) (Maps.keyOf_int_mk Tryz.underlying24 x.wl)).2
      have HJ2 := Lib.hid (HJ.out _ wr (wr.alloc (.cells #[.string x.key, .int .u32 x.valid, .int .u64 x.seq, .int .u64 x.line, .int .u8 x.kind, .string x.val] 50)) none hJs (World.grownBy_alloc wr _ none) (fun r e => by cases e))
      have hwr' : n₀ ≤ wr.heap.size := by omega
      clear hx hM hVr
      cases hg : getL m x.line with
      | none =>
        rw [hg] at hlook
        simp only at hlook
        have hsb : seenB m at_ x = false := by simp [seenB, hg]
        have HSB := Lib.hid hsb
        clear hsb hg
        gi_wp2
        refine ⟨fun _ h => (by cases h), ?_⟩
        gi_wp2
        go_roundw
        case rel => exact ⟨k + 1, by omega, by go_num, hBw.alloc hwr' _, by rw [HSN.out, HSB.out]; simpa using HJ2.out⟩
        case measure => simp [intOf]; omega
      | some u =>
        rw [hg] at hlook
        simp only at hlook
        by_cases hs : x.seq ≤ u ∧ x.seq ≤ at_
        · have hsb : seenB m at_ x = true := by simp [seenB, hg, hs]
          have HSB := Lib.hid hsb
          have hmin : x.seq ≤ min u at_ := by omega
          have hpl : ((xs.take k).filter (seenB m at_)).length < xs.length := by
            have h1 := List.length_filter_le (seenB m at_) (xs.take k)
            have h2 := List.length_take_le k xs
            omega
          obtain ⟨fn, tmps, assign, body, hy, hR⟩ := HY.out _ x _ HJ2.out hpl
          dsimp only [fv] at hy
          clear hsb hg hpl
          gi_wp2
          all_goals
            refine hR.mono ?_
            rintro e W3 (⟨rfl, hJ3, hk3⟩ | ⟨rfl, hJx3⟩)
            · gi_wp2
              go_roundw
              case rel => exact ⟨k + 1, by omega, by go_num, (hBw.alloc hwr' _).trans hk3, by rw [HSN.out, HSB.out]; simpa using hJ3⟩
              case measure => simp [intOf]; omega
            · gi_wp2
              refine bodyPost_ret (results_none rfl _ _ _) rfl ?_
              refine ⟨⟨_, rfl⟩, .inr ⟨_, ?_, hJx3⟩⟩
              have h1 := filter_take_prefix (seenB m at_) xs (k + 1)
              rw [HSN.out, HSB.out] at h1
              simpa using h1
        · have hsb : seenB m at_ x = false := by simp [seenB, hg]; omega
          have HSB := Lib.hid hsb
          have hmin : ¬ x.seq ≤ min u at_ := by omega
          clear hsb hg
          gi_wp2
          all_goals
            refine ⟨fun _ h => (by cases h), ?_⟩
            gi_wp2
            go_roundw
            case rel => exact ⟨k + 1, by omega, by go_num, hBw.alloc hwr' _, by rw [HSN.out, HSB.out]; simpa using HJ2.out⟩
            case measure => simp [intOf]; omega
    · have hke : k = xs.length := by omega
      subst hke
      gi_wp2
      go_end0
      rw [List.take_length] at hJs
      exact ⟨⟨_, rfl⟩, .inl ⟨_, rfl, hJs⟩⟩

theorem seen1_stops (n : Nat) (hn : 1 ≤ n) (bl bu ba bm : Nat) (a : Option Addr) (cap : Nat) (xs : List Fc) (hlen : xs.length < 1000000) (m : List (Int × Int)) (at_ : Int) (w : World)
    (hV : SeenV w bl bu ba bm (.slice a xs.length cap) m at_) (hL : Facts w a xs) :
    SeqStopsK Fence.wide n Tryz.prog 41 #[.pointer (some ⟨bl, 0, none⟩), .pointer (some ⟨bu, 0, none⟩), .pointer (some ⟨ba, 0, none⟩)] (fun x : Fc => #[fv x]) (Below w.heap.size) (fun ys => ys = xs.filter (seenB m at_)) (fun pre => pre <+: xs.filter (seenB m at_)) xs.length w := fun l J Jx W hW hJ _ hY h0 =>
  seen1_in n hn l bl bu ba bm w.heap.size a cap xs hlen m at_ J Jx hY W hJ (hV.below hW) (lt_of_blk hV.l) (lt_of_blk hV.u) (lt_of_blk hV.a) hV.m.lt hW.size (hL.ext hW) (fun h ad had => by
    obtain ⟨b, o, ha, hlt, _⟩ := hL.get 0 h
    rw [had] at ha
    injection ha with ha
    rw [ha]
    exact hlt) h0
end Go.Proofs.YtenocakpipppiaaGreatDoor
