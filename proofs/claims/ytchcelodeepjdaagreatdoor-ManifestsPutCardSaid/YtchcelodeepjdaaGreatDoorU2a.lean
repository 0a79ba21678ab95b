/- A range over a function whose iterator turns one block of its own, where the rounds keep what the caller says; up's contract so. Condition: the lines are formed. · What may be a name, byte by byte. No condition. · The reference's has and Name of lines. Condition: fewer than 1000000 lines. · Manifests: roots as plain lists; what a root may be; what is a root no more. No condition. · Tables and shelves in a world. No condition. · Steps of a walk through a region whose order is drawn, short. No condition. · The reference's Of of lines: its branches' test. No condition. -/
import Derived.Test.YtchcelodeepjdaaGreatDoorLP9
import Derived.Test.YtchcelodeepjdaaGreatDoorLN7
import Derived.Test.YtchcelodeepjdaaGreatDoorOR
import Derived.Test.YtchcelodeepjdaaGreatDoorLR
import Derived.Deep.RegionHeld3
import Derived.Test.YtchcelodeepjdaaGreatDoorLN9b
import Derived.Sort.Walk0
namespace Go.Herb
open Go.RowKit
/-- What a round keeps for the iterator. -/
structure KeepP (kp : Nat → Prop) (A B : World) : Prop where
  size : A.heap.size ≤ B.heap.size
  kept : ∀ (k : Nat), kp k → B.heap[k]? = A.heap[k]?
variable {P : Program}
/-- An iterator's contract: all of xs come, one behind the other, the rounds never saying 'no more'. -/
def SeqKp {α : Type} (n : Nat) (P : Program) (g : Nat) (lb : Array Value) (b : Nat) (kp : Nat → Prop) (encs : α → Array Value) (xs : List α) (w : World) : Prop :=
  ∀ (l : Nat) (J : List α → World → Prop) (W : World), Below w.heap.size w W → (∀ pre A B, J pre A → TurnI b A B → J pre B) →
    (∀ pre x W1, J pre W1 → (pre ++ [x]) <+: xs → YieldAt Fence.wide (n - 1) P l (encs x) W1 fun e W' => e = .returned (.bool true) ∧ J (pre ++ [x]) W' ∧ KeepP kp W1 W') →
    J [] W → CallsIn Fence.wide n P g (#[.func (.yield l) #[] #[]] ++ lb) W fun e W' => (∃ v, e = .returned v) ∧ J xs W'
def kpPost {α : Type} (N : Nat) (kp : Nat → Prop) (I : List α → World → Prop) (xs : List α) (W : World) : Exit → Act → World → Prop
  | .normal, _, W' => KeepP kp W W' ∧ (∀ (k : Nat) (o : Obj), N ≤ k → W.heap[k]? = some o → o.isCells = false → W'.heap[k]? = some o) ∧ I xs W'
  | _, _, _ => False

theorem wpIn_range_kp {α : Type} {n : Nat} {g : Operand} {ps : Array Tmp} {assign body : Code} {Q : Exit → Act → World → Prop} {a : Act} {w : World}
    {gf : Nat} {lb : Array Value} (hg : a.eval g = .func (.func gf) #[] lb) (eg : ∀ args w, (callFunc gf args).run P w = .ok (.enter gf args) w)
    {encs : α → Array Value} (hps : ∀ x, (encs x).size = ps.size) (xs : List α) {b : Nat} {kp : Nat → Prop} (hkp : ∀ k, kp k → k < w.heap.size) (hb : b < w.heap.size) (hseq : SeqKp (n - 1) P gf lb b kp encs xs w)
    (I : List α → World → Prop) (hI : ∀ pre A B, I pre A → Turn b w.heap.size A B → I pre B) (h0 : I [] w) (a₁ : α → Act)
    (hassign : ∀ (l : Nat) (x : α) (W : World) (K : Act → World → Prop), K (a₁ x) W →
      assign.wpIn (Fence.wide.inRound l) (n - 1 - 1) P (Exit.then K (fun _ _ _ => False)) { tmps := (ps.zip (encs x)).foldl (fun t (p, v) => t.setIfInBounds p v) a.tmps, defers := [] } W)
    (hbody : ∀ (l : Nat) (pre : List α) (x : α) (W : World), I pre W → (pre ++ [x]) <+: xs → body.wpIn (Fence.wide.inRound l) (n - 1 - 1) P (kpPost w.heap.size kp I (pre ++ [x]) W) (a₁ x) W)
    (hdone : ∀ (W : World), I xs W → W.heap[w.heap.size]? = some (.deferred (some [])) → Q .normal { a with defers := { target := .collected w.heap.size, args := #[] } :: a.defers } W) :
    (Code.rangeFunc g ps assign body).wpIn Fence.wide n P Q a w := by
  refine wpIn_rangeFunc fun fn hfn => ?_
  obtain ⟨rec, hrec⟩ : ∃ rec : LoopState → Loop, rec = fun st => { state := st, pending := none, fn, tmps := a.tmps, params := ps, assign, body, defers := w.heap.size } := ⟨_, rfl⟩
  obtain ⟨W1, hW1⟩ : ∃ W1, W1 = (w.alloc (.deferred (some []))).alloc (.loop (rec .ready)) := ⟨_, rfl⟩
  have hB1 : Below w.heap.size w W1 := by rw [hW1]; exact balc (balc (Below.refl _ _))
  have hL1 : W1.heap[w.heap.size + 1]? = some (.loop (rec .ready)) := by rw [hW1]; exact blk_new_at (by simp) _
  have hK1 : W1.heap[w.heap.size]? = some (.deferred (some [])) := by rw [hW1]; exact blk_alloc (blk_new_at rfl _)
  refine ⟨w.heap.size + 1, [{ target := .collected w.heap.size, args := #[] }], W1, { target := .fn (.func gf) lb, args := #[.func (.yield (w.heap.size + 1)) #[] #[]] }, W1, gf,
    #[.func (.yield (w.heap.size + 1)) #[] #[]] ++ lb, W1, ?_, ?_, ?_, ?_, ?_, ?_⟩
  · rw [hW1, hrec]; exact run_enterLoop_outer _ _ _ _ _
  · simp only [resolve, hg]
    simp [go_sem]
  · intro f' _; trivial
  · simp [invoke, go_sem, eg]
  · intro h; cases h
  · refine (hseq (w.heap.size + 1) (fun pre W => I pre W ∧ W.heap[w.heap.size + 1]? = some (.loop (rec .ready)) ∧ W.heap[w.heap.size]? = some (.deferred (some []))) W1 hB1
      (fun pre A B hs ht => ⟨hI _ _ _ hs.1 ht.turn, ht.kept _ _ hs.2.1 (by omega), ht.kept _ _ hs.2.2 (by omega)⟩) ?_ ⟨hI _ _ _ h0 (TurnI.of_below hB1).turn, hL1, hK1⟩).mono ?_
    · rintro pre x W ⟨hi, hl, hk⟩ hpre
      have hlt := lt_of_blk hl
      have hy := run_yield (P := P) (args := encs x) hl (by rw [hrec]; exact hps x)
      rw [hrec] at hy
      refine ⟨fn, _, assign, body, hy, roundIn_of_wpIn hfn (hassign _ x W _ ⟨_, run_beginRound hl (by rw [hrec]), ?_⟩)⟩
      have hl2 : (W.putObj (w.heap.size + 1) (.loop { rec .ready with state := .busy })).heap[w.heap.size + 1]? = some (.loop { rec .ready with state := .busy }) := World.putObj_heap_same hlt
      have hk2 : (W.putObj (w.heap.size + 1) (.loop { rec .ready with state := .busy })).heap[w.heap.size]? = some (.deferred (some [])) := (World.putObj_heap_other (by omega)).trans hk
      refine wpIn_mono (hbody _ pre x _ (hI _ _ _ hi (Turn.putObj _ hl rfl (by omega))) hpre) ?_
      rintro e a3 W3 hp
      cases e with
      | normal =>
        obtain ⟨hk3, hn3, hi3⟩ := hp
        have hl3 := hn3 _ _ (by omega) hl2 rfl
        have hd3 := hn3 _ _ (Nat.le_refl _) hk2 rfl
        have hlt3 := lt_of_blk hl3
        have hr := run_endRound (P := P) none hl3
        rw [hrec] at hr
        refine ⟨_, _, hr, rfl, ⟨hI _ _ _ hi3 (Turn.putObj _ hl3 rfl (by omega)), ?_, ?_⟩, ?_⟩
        · rw [hrec]; exact World.putObj_heap_same hlt3
        · exact (World.putObj_heap_other (by omega)).trans hd3
        · refine ⟨?_, fun k hk => ?_⟩
          · have := hk3.size
            simp only [World.putObj, Array.size_setIfInBounds] at this ⊢
            exact this
          · have hkl := hkp k hk
            rw [World.putObj_heap_other (by omega), hk3.kept k hk, World.putObj_heap_other (by omega)]
      | ret => exact hp.elim
      | exit id => exact hp.elim
      | goto t => exact hp.elim
      | panic ch => exact hp.elim
      | outgrown => exact hp.elim
    · rintro e W2 ⟨⟨v, rfl⟩, hi, hl, hk⟩
      exact ⟨none, _, by have := run_endLoop (P := P) hl (by rw [hrec]; simp); rw [hrec] at this; exact this, hdone _ (hI _ _ _ hi (Turn.putObj _ hl rfl (by omega))) ((World.putObj_heap_other (by omega)).trans hk)⟩
end Go.Herb
namespace Go.Proofs.YtchcelodeepjdaaGreatDoor.Ln
open Go.RowKit Go.Shelf Go.Herb
end Go.Proofs.YtchcelodeepjdaaGreatDoor.Ln

namespace Go.Herb
open Go.RowKit
theorem dw_nil {α : Type} (p : α → Bool) : ∀ l : List α, l.dropWhile p = [] ↔ ∀ x ∈ l, p x = true
  | [] => by simp
  | x :: l => by
    rw [List.dropWhile_cons]
    cases h : p x with
    | true => simp [h, dw_nil p l]
    | false => simp [h]
theorem dw_head {α : Type} (p : α → Bool) : ∀ (l : List α) (x : α) (m : List α), l.dropWhile p = x :: m → p x = false
  | [], x, m, h => by simp at h
  | y :: l, x, m, h => by
    rw [List.dropWhile_cons] at h
    cases hy : p y with
    | true => rw [hy] at h; exact dw_head p l x m (by simpa using h)
    | false =>
      rw [hy] at h
      simp at h
      rw [← h.1]; exact hy
theorem trimS_nil (l cs : List UInt8) : Lib.trimS l cs = [] ↔ ∀ x ∈ l, cs.contains x = true := by
  unfold Lib.trimS Lib.trimLeftS Lib.trimRightS
  rw [dw_nil]
  constructor
  · intro h
    cases hm : l.reverse.dropWhile (cs.contains ·) with
    | nil =>
      intro x hx
      exact (dw_nil _ _).1 hm x (List.mem_reverse.2 hx)
    | cons y m =>
      have h1 := dw_head _ _ _ _ hm
      have h2 := h y (by rw [hm]; simp)
      rw [h1] at h2
      cases h2
  · intro h x hx
    have h1 : l.reverse.dropWhile (cs.contains ·) = [] := (dw_nil _ _).2 (fun x hx => h x (List.mem_reverse.1 hx))
    rw [h1] at hx
    cases hx
/-- May a byte stand in a name? -/
def letB (c : Nat) : Prop := (97 ≤ c ∧ c ≤ 122) ∨ (48 ≤ c ∧ c ≤ 57)
end Go.Herb
namespace Go.Proofs.YtchcelodeepjdaaGreatDoor.Ln
open Go.RowKit Go.Shelf Go.Herb
theorem letters_let : ∀ x : UInt8, lettersL.contains x = true ↔ letB x.toNat := by
  intro x
  have : ∀ n : Fin 256, lettersL.contains (UInt8.ofNat n.val) = true ↔ ((97 ≤ n.val ∧ n.val ≤ 122) ∨ (48 ≤ n.val ∧ n.val ≤ 57)) := by decide +kernel
  have h := this ⟨x.toNat, x.toNat_lt⟩
  simp only [UInt8.ofNat_toNat] at h
  exact h
theorem nameB_iff (s : ByteArray) : nameB s = true ↔ 0 < s.size ∧ s.size ≤ 12 ∧ ∀ x ∈ s.data.toList, letB x.toNat := by
  unfold nameB
  rw [Bool.and_eq_true, Bool.and_eq_true, List.isEmpty_iff, trimS_nil, decide_eq_true_eq]
  have h1 : (!s.toList.isEmpty) = true ↔ 0 < s.size := by
    rw [ByteArray.toList_eq]
    have : s.size = s.data.toList.length := by rw [Array.length_toList]; rfl
    rw [this]
    cases s.data.toList with
    | nil => simp
    | cons x l => simp
  rw [h1]
  constructor
  · rintro ⟨⟨a, b⟩, c⟩
    exact ⟨a, b, fun x hx => (letters_let x).1 (c x hx)⟩
  · rintro ⟨a, b, c⟩
    exact ⟨⟨a, b⟩, fun x hx => (letters_let x).2 (c x hx)⟩
end Go.Proofs.YtchcelodeepjdaaGreatDoor.Ln

namespace Go.Herb
def hasL (ls : List Ln) (k : Int) : Bool := ls.any (fun x => decide (x.1 = k))
theorem hasL_iff {ls : List Ln} {k : Int} : hasL ls k = true ↔ ∃ x ∈ ls, x.1 = k := by unfold hasL; rw [List.any_eq_true]; simp
end Go.Herb
namespace Go.Proofs.YtchcelodeepjdaaGreatDoor.Ln
open Go.RowKit Go.Shelf Go.Herb
theorem hasR_any (a : Option Addr) (c n : Nat) (ls : List Ln) (k : Int) (w : World) (hE : Lns w a ls) (hn : ls.length = n) (hn1 : n < 1000000) :
    Calls Tryz.prog 85 #[.slice a n c, .int .u64 k] w fun e w' => e = .returned (.bool (hasL ls k)) ∧ w = w' := by
  have HE := Lib.hid hE
  have HN := Lib.hid hn
  clear hE hn
  go_enter Tryz.func85, Tryz.ntmps85
  go_wp2_with fail
  go_loopg [5] n (fun gk iv wr => ∃ i : Nat, i + gk = n ∧ iv = .int .i64 i ∧ Hid (∀ x ∈ ls.take i, x.1 ≠ k) ∧ Hid (w = wr))
  case atStart => exact ⟨0, by omega, rfl, Lib.hid (by simp), Lib.hid rfl⟩
  case round =>
    obtain ⟨i, hi, rfl, HX, HW⟩ := hrel
    by_cases hlt : i < n
    · have hil : i < ls.length := by have := HN.out; omega
      obtain ⟨b, o, rfl, hlb, hcx⟩ := HE.out.get i hil
      have HTK := Lib.hid (List.take_succ_eq_append_getElem hil)
      have HMM := Lib.hid (List.getElem_mem hil)
      generalize ls[i] = y at hcx HTK HMM
      have g0 := hcx 0 _ rfl
      rw [HW.out] at g0
      simp only [Nat.add_zero] at g0
      have i0 : (0 : Int) ≤ (i : Int) := by omega
      have i1 : (i : Int) < (n : Int) := by omega
      have iw : IntKind.i64.wrap ((i : Int) + 1) = (i : Int) + 1 := IntWalk.i64_in _ (by omega)
      clear hcx
      by_cases hxy : y.1 = k
      · have hd : (y.1 == k) = true := by rw [hxy]; exact beq_self_eq_true _
        have HQ := Lib.hid (show hasL ls k = true from hasL_iff.2 ⟨y, HMM.out, hxy⟩)
        clear hxy
        go_wp2_with fail
        go_ret
        exact ⟨by rw [HQ.out]; rfl, HW.out⟩
      · have hd : (y.1 == k) = false := beq_eq_false_iff_ne.2 hxy
        have HX2 := Lib.hid (show ∀ x ∈ ls.take (i + 1), x.1 ≠ k from by
          rw [HTK.out]
          intro x hx
          rcases List.mem_append.1 hx with h1 | h1
          · exact HX.out x h1
          · rw [List.mem_singleton.1 h1]; exact hxy)
        clear hxy
        go_wp2_with fail
        go_roundg (gk - 1)
        case measure => omega
        case rel => exact ⟨i + 1, by omega, by go_num, HX2, HW⟩
    · have h1 : ¬ (i : Int) < (n : Int) := by omega
      have HQ := Lib.hid (show hasL ls k = false from by
        rw [Bool.eq_false_iff]
        intro h
        obtain ⟨x, hx, e⟩ := hasL_iff.1 h
        exact HX.out x (by rw [List.take_of_length_le (by have := HN.out; omega)]; exact hx) e)
      go_wp2_with fail
      go_ret
      exact ⟨by rw [HQ.out]; rfl, HW.out⟩
theorem nameR_any (s : ByteArray) (w : World) (hs : s.size ≤ 9223372036854775807) :
    Calls Tryz.prog 86 #[.string s] w fun e w' => e = .returned (.bool (nameB s)) ∧ w = w' := by
  by_cases h1 : s.size < 1
  · have hf : nameB s = false := by rw [Bool.eq_false_iff]; intro h; have := (nameB_iff s).1 h; omega
    have h2 : (s.size : Int) < 1 := by omega
    rw [hf]
    clear hf h1 hs
    go_enter Tryz.func86, Tryz.ntmps86
    go_wp2_with fail
    go_ret
    exact ⟨rfl, rfl⟩
  by_cases h2 : 12 < s.size
  · have hf : nameB s = false := by rw [Bool.eq_false_iff]; intro h; have := (nameB_iff s).1 h; omega
    have h3 : (s.size : Int) > 12 := by omega
    have h4 : ¬ (s.size : Int) < 1 := by omega
    rw [hf]
    clear hf h1 h2 hs
    go_enter Tryz.func86, Tryz.ntmps86
    go_wp2_with fail
    go_ret
    exact ⟨rfl, rfl⟩
  have h3 : ¬ (s.size : Int) > 12 := by omega
  have h4 : ¬ (s.size : Int) < 1 := by omega
  have HS := Lib.hid (show 0 < s.size ∧ s.size ≤ 12 from ⟨by omega, by omega⟩)
  have hsz : s.data.toList.length = s.size := by rw [Array.length_toList]; rfl
  obtain ⟨n, hn⟩ : ∃ n, n = s.size := ⟨_, rfl⟩
  have HN := Lib.hid hn
  have HZ := Lib.hid hsz
  clear h1 h2 hs hsz hn
  go_enter Tryz.func86, Tryz.ntmps86
  go_wp2_with fail
  go_loopg [3] n (fun gk iv wr => ∃ i : Nat, i + gk = n ∧ iv = .int .i64 i ∧ Hid (∀ x ∈ s.data.toList.take i, letB x.toNat) ∧ Hid (w = wr))
  case atStart => exact ⟨0, by omega, rfl, Lib.hid (by simp), Lib.hid rfl⟩
  case round =>
    obtain ⟨i, hi, rfl, HX, HW⟩ := hrel
    by_cases hlt : i < s.size
    · have h5 : (i : Int) < (s.size : Int) := by omega
      have h6 : (0 : Int) ≤ (i : Int) := by omega
      have hil : i < s.data.toList.length := by rw [HZ.out]; exact hlt
      have HTK := Lib.hid (List.take_succ_eq_append_getElem hil)
      have hel : s[i]'hlt = s.data.toList[i] := by rw [Array.getElem_toList]; rfl
      have HMM := Lib.hid (List.getElem_mem hil)
      have hidx : ∀ W, (Instr.index (9) (.string s) (.int .i64 (i : Int))).run Tryz.prog W = .ok (.int .u8 ((s.data.toList[i]).toNat : Int)) W := fun W => by
        rw [run_index_string (h := Tryz.underlying9), dif_pos ⟨h6, h5⟩]
        simp only [Int.toNat_natCast]
        rw [hel]
      generalize s.data.toList[i] = c at hidx HTK HMM hel
      have hc := c.toNat_lt
      have iw : IntKind.i64.wrap ((i : Int) + 1) = (i : Int) + 1 := IntWalk.i64_in _ (by have := HS.out; omega)
      have hix : ((i : Int)).toNat = i := Int.toNat_natCast i
      clear hel hil
      by_cases a1 : (c.toNat : Int) < 97
      · by_cases a2 : (c.toNat : Int) < 48
        · have HE := Lib.hid (show nameB s = false from by
            rw [Bool.eq_false_iff]
            intro h
            have h1 := ((nameB_iff s).1 h).2.2 c HMM.out
            unfold letB at h1
            omega)
          go_wp2_with fail
          go_ret
          exact ⟨by rw [HE.out]; rfl, HW.out⟩
        by_cases a3 : (c.toNat : Int) > 57
        · have HE := Lib.hid (show nameB s = false from by
            rw [Bool.eq_false_iff]
            intro h
            have h1 := ((nameB_iff s).1 h).2.2 c HMM.out
            unfold letB at h1
            omega)
          go_wp2_with fail
          go_ret
          exact ⟨by rw [HE.out]; rfl, HW.out⟩
        have HX2 := Lib.hid (show ∀ x ∈ s.data.toList.take (i + 1), letB x.toNat from by
          rw [HTK.out]
          intro x hx
          rcases List.mem_append.1 hx with h1 | h1
          · exact HX.out x h1
          · rw [List.mem_singleton.1 h1]; unfold letB; omega)
        clear hix hc
        go_wp2_with fail
        go_roundg (gk - 1)
        case measure => have := HN.out; omega
        case rel => exact ⟨i + 1, by have := HN.out; omega, by go_num, HX2, HW⟩
      by_cases a4 : (c.toNat : Int) > 122
      · have a2 : ¬ (c.toNat : Int) < 48 := by omega
        have a3 : (c.toNat : Int) > 57 := by omega
        have HE := Lib.hid (show nameB s = false from by
          rw [Bool.eq_false_iff]
          intro h
          have h1 := ((nameB_iff s).1 h).2.2 c HMM.out
          unfold letB at h1
          omega)
        go_wp2_with fail
        go_ret
        exact ⟨by rw [HE.out]; rfl, HW.out⟩
      have HX2 := Lib.hid (show ∀ x ∈ s.data.toList.take (i + 1), letB x.toNat from by
        rw [HTK.out]
        intro x hx
        rcases List.mem_append.1 hx with h1 | h1
        · exact HX.out x h1
        · rw [List.mem_singleton.1 h1]; unfold letB; omega)
      clear hix hc
      go_wp2_with fail
      go_roundg (gk - 1)
      case measure => have := HN.out; omega
      case rel => exact ⟨i + 1, by have := HN.out; omega, by go_num, HX2, HW⟩
    · have h5 : ¬ (i : Int) < (s.size : Int) := by omega
      have HQ := Lib.hid (show nameB s = true from (nameB_iff s).2 ⟨HS.out.1, HS.out.2, fun x hx => HX.out x (by rw [List.take_of_length_le (by have := HZ.out; omega)]; exact hx)⟩)
      go_wp2_with fail
      go_ret
      exact ⟨by rw [HQ.out]; rfl, HW.out⟩
end Go.Proofs.YtchcelodeepjdaaGreatDoor.Ln

namespace Go.Herb
open Go

structure Tb where
  file : Int
  bytes : Int
  low : ByteArray
  high : ByteArray
structure Sd where
  line : Int
  lv : List (List Tb)
def keyB (b : ByteArray) : Bool := decide (1 ≤ b.size) && decide (b.size ≤ 32)
/-- May a table stand at place k of level i? -/
structure TabOk (i k : Nat) (l : List Tb) (t : Tb) : Prop where
  low : keyB t.low = true
  high : keyB t.high = true
  span : Op.bytesLess t.high.toList t.low.toList = false
  next : 0 < i → 0 < k → ∀ u, l[k - 1]? = some u → Op.bytesLess u.high.toList t.low.toList = true
def LevOk (i : Nat) (l : List Tb) : Prop := ∀ k t, l[k]? = some t → TabOk i k l t
structure MayS (s : Sd) : Prop where
  tabs : ∀ (i : Nat) l, s.lv[i]? = some l → LevOk i l
  many : ∃ l ∈ s.lv, l ≠ []
def filesS (s : Sd) : List Int := s.lv.flatten.map (·.file)
def filesL (sh : List Sd) : List Int := sh.flatMap filesS
structure ShelvedL (next : Int) (sh : List Sd) : Prop where
  may : ∀ s ∈ sh, MayS s
  rise : sh.Pairwise (fun a b => a.line < b.line)
  apart : (filesL sh).Nodup
  below : ∀ f ∈ filesL sh, f < next
structure Rt where
  seq : Int
  log : Int
  next : Int
  bs : List Br
  ls : List Ln
  vs : Vs
  sh : List Sd
def earlyL (r : Rt) : List Int := r.ls.map (·.1) ++ r.bs.map (·.2.2) ++ r.vs.flatMap (fun v => v.2.map (·.2))
def pairL (bs : List Br) (vs : Vs) : Prop := (bs.map (·.2.1)).Perm (vs.map (·.1))
structure GoodS (r : Rt) : Prop where
  vecs : okV r.vs
  pair : pairL r.bs r.vs
  early : ∀ n ∈ earlyL r, n ≤ r.seq
  log : r.log < r.next
  shelved : ShelvedL r.next r.sh
theorem GoodS.less {r : Rt} (h : GoodS r) (vs : Vs) (hl : vs.length + 1 = r.vs.length) : ¬ GoodS { r with vs := vs } := fun g => by
  have e1 := h.pair.length_eq
  have e2 := g.pair.length_eq
  simp only [List.length_map] at e1 e2
  omega
theorem filesL_snoc (sh : List Sd) (s : Sd) : filesL (sh ++ [s]) = filesL sh ++ filesS s := by simp [filesL]
end Go.Herb

namespace Go.Proofs.YtchcelodeepjdaaGreatDoor.Ln
open Go.RowKit Go.Herb

def tbc (t : Tb) : List Value := [.int .u64 t.file, .int .u32 t.bytes, .string t.low, .string t.high]
/-- A level of a shelf: its address, its room, its tables. -/
structure Lv where
  a : Option Addr
  cap : Nat
  ts : List Tb
abbrev lvV (l : Lv) : Value := .slice l.a l.ts.length l.cap
def TbW (t : Tb) : Prop := U64 t.file ∧ (0 ≤ t.bytes ∧ t.bytes < 4294967296) ∧ t.low.size ≤ maxLen ∧ t.high.size ≤ maxLen
structure LvOk (w : World) (l : Lv) : Prop where
  tabs : Els tbc 4 w l.a l.ts
  nil0 : l.a = none → l.cap = 0
  le : l.ts.length ≤ l.cap
  max : l.cap ≤ maxLen
  wf : ∀ t ∈ l.ts, TbW t
theorem LvOk.ext {w w' : World} {l : Lv} (h : LvOk w l) (hb : Below w.heap.size w w') : LvOk w' l := ⟨h.tabs.ext hb, h.nil0, h.le, h.max, h.wf⟩
structure Sv where
  line : Int
  l0 : Lv
  l1 : Lv
  l2 : Lv
def shc (s : Sv) : List Value := [.int .u64 s.line, lvV s.l0, lvV s.l1, lvV s.l2]
abbrev shV (s : Sv) : Value := .agg #[.int .u64 s.line, lvV s.l0, lvV s.l1, lvV s.l2]
theorem shc_len (t : Sv) : (shc t).length = 4 := rfl
theorem shc_one (t : Sv) : ∀ u ∈ shc t, u.oneCell' = true := by
  intro u hu; simp [shc] at hu; rcases hu with rfl | rfl | rfl | rfl <;> rfl
def Sv.says (s : Sv) : Sd := ⟨s.line, [s.l0.ts, s.l1.ts, s.l2.ts]⟩
structure SvOk (w : World) (s : Sv) : Prop where
  l0 : LvOk w s.l0
  l1 : LvOk w s.l1
  l2 : LvOk w s.l2
  wf : U64 s.line
theorem SvOk.ext {w w' : World} {s : Sv} (h : SvOk w s) (hb : Below w.heap.size w w') : SvOk w' s := ⟨h.l0.ext hb, h.l1.ext hb, h.l2.ext hb, h.wf⟩
/-- Shelves, as they may come in. -/
structure ShIn (w : World) (a : Option Addr) (xs : List Sv) : Prop where
  els : Els shc 4 w a xs
  ok : ∀ s ∈ xs, SvOk w s
theorem ShIn.ext {w w' : World} {a : Option Addr} {xs : List Sv} (h : ShIn w a xs) (hb : Below w.heap.size w w') : ShIn w' a xs := ⟨h.els.ext hb, fun s hs => (h.ok s hs).ext hb⟩
end Go.Proofs.YtchcelodeepjdaaGreatDoor.Ln

namespace Go.Herb
open Go
section
variable {P : Program} {ops : Array Oper} {Q : Exit → Act → World → Prop} {md : Region.Mode} {S : World → Prop} {oi : Oper} {v : Value} {fuel : Nat} {listed : Array Bool} {a : Act} {w : World}
theorem tkI (hP : ∀ ch a a' w', a'.defers = a.defers → Q (.panic ch) a w' → Q (.panic ch) a' w') (i : Nat)
    (hi : ops[i]? = some oi := by (simp only [List.getElem?_toArray, List.getElem?_cons_succ, List.getElem?_cons_zero]; rfl))
    (hs : Region.noSelect ops = true := by kernel_rfl) (hf : Region.free md ops listed i = true := by kernel_rfl) (hr : (Region.ready md ops listed).contains i = true := by kernel_rfl)
    (hw : Region.wanted oi (yielded ops a.tmps) = true := by rfl) (hv : ∀ w', S w' → (execOp a.eval oi).run P w' = .ok (.value v) w' := by (intro w' hSw; (try dsimp only at hSw); go_simp; first | done | with_reducible rfl)) (hS : S w := by assumption)
    (h : wpAnyH P md ops Q S fuel (listed.setIfInBounds i true) (a.put oi.dst v) w) : wpAnyH P md ops Q S (fuel + 1) listed a w :=
  wpAnyH_take hi hs hf hr (fun c b u k => hP c (b.put oi.dst v) b u (by unfold Act.put; cases oi.dst <;> rfl) k) (Or.inl ⟨hw, hv⟩) hS h
theorem tkO (hP : ∀ ch a a' w', a'.defers = a.defers → Q (.panic ch) a w' → Q (.panic ch) a' w') (i : Nat)
    (hi : ops[i]? = some oi := by (simp only [List.getElem?_toArray, List.getElem?_cons_succ, List.getElem?_cons_zero]; rfl))
    (hs : Region.noSelect ops = true := by kernel_rfl) (hf : Region.free md ops listed i = true := by kernel_rfl) (hr : (Region.ready md ops listed).contains i = true := by kernel_rfl)
    (hw : Region.wanted oi (yielded ops a.tmps) = false := by rfl) (hS : S w := by assumption)
    (h : wpAnyH P md ops Q S fuel (listed.setIfInBounds i true) (a.put oi.dst undef) w) : wpAnyH P md ops Q S (fuel + 1) listed a w :=
  wpAnyH_take hi hs hf hr (fun c b u k => hP c (b.put oi.dst undef) b u (by unfold Act.put; cases oi.dst <;> rfl) k) (Or.inr ⟨hw, rfl⟩) hS h
theorem tkC (i : Nat) (hr : Region.ready md ops listed = [i] := by kernel_rfl) (hi : ops[i]? = some oi := by (simp only [List.getElem?_toArray, List.getElem?_cons_succ, List.getElem?_cons_zero]; rfl))
    (hw : Region.wanted oi (yielded ops a.tmps) = true := by rfl)
    (h : ∀ K' : Act → World → Prop, Shut (∀ a w, S w → (S w → wpAnyH P md ops Q S fuel (listed.setIfInBounds i true) a w) → K' a w) → Oper.wp P oi a w K' Q) : wpAnyH P md ops Q S (fuel + 1) listed a w :=
  wpAnyH_ready (rs := [i]) hr (by simp) (AllReadyH.cons hi (fun K hK => by rw [if_pos hw]; exact h K hK) AllReadyH.nil)
end
end Go.Herb

namespace Go.Proofs.YtchcelodeepjdaaGreatDoor.Ln
open Go.RowKit Go.Shelf Go.Herb
noncomputable def R11 : Code := ((Tryz.f54.body.bind (regionAt 11)).getD .skip)
set_option maxRecDepth 100000 in
set_option maxHeartbeats 2000000 in
theorem o11_A {b o n bc m lc i k : Nat} {la : Option Addr} {xn yn : ByteArray} {xl : Int} {X : World} {u2 u3 u4 u5 u6 u8 u9 u10 u11 u12 u13 u14 u15 u16 u17 u18 u19 u20 u21 u22 u23 u24 u25 u26 u27 u28 u29 u30 u31 u32 u33 u34 u35 u36 u37 u38 u39 u40 u41 u42 u43 u44 u45 u46 u47 u48 u49 u50 u51 u52 u53 u54 u55 u56 u57 u58 u59 u60 u61 u62 u63 u64 u65 u66 u67 u68 u69 u70 u71 u72 u73 u74 u75 u76 u77 u78 u79 u80 u81 u82 u83 u84 u85 u86 u87 u88 u89 u90 u91 u92 u93 u94 u95 u96 u97 u98 u99 u100 u101 u102 u103 u104 u105 u106 u107 u108 u109 u110 u111 u112 u113 u114 u115 u116 u117 u118 u119 u120 u121 u122 u123 u124 u125 u126 : Value} {Q : Exit → Act → World → Prop}
    (hi0 : (0 : Int) ≤ (i : Int)) (hi1 : (i : Int) < (n : Int))
    (HKP : Hid (∀ u, Below X.heap.size X u → u.cell? ⟨b, o + i * 3, none⟩ = some (.string xn) ∧ u.cell? ⟨b, o + i * 3 + 1, none⟩ = some (.int .u64 xl) ∧ u.cell? ⟨b, o + k * 3, none⟩ = some (.string yn)))
    (HIN : Hid (∀ u, Below X.heap.size X u → Calls Tryz.prog (86) #[.string xn] u (fun e w' => e = .returned (.bool false) ∧ Below u.heap.size u w')))
    (hP : ∀ ch a a' w', a'.defers = a.defers → Q (.panic ch) a w' → Q (.panic ch) a' w')
    (hQ : ∀ (v70 v71 v72 v73 v74 v75 v76 v77 v78 v79 v80 v81 v82 v83 v84 v85 v86 v87 v88 v89 v90 v91 v92 v93 v94 v95 v96 v97 v98 v99 v100 v101 v102 v103 : Value) (w' : World), Below X.heap.size X w' → Q .normal ⟨#[.slice (some ⟨b, o, none⟩) n bc, .slice la m lc, u2, u3, u4, u5, u6, .int .i64 (i : Int), u8, u9, u10, u11, u12, u13, u14, u15, u16, u17, u18, u19, u20, u21, u22, u23, u24, u25, u26, u27, u28, u29, u30, u31, u32, u33, u34, u35, u36, u37, u38, u39, u40, u41, u42, u43, u44, u45, u46, u47, u48, u49, u50, u51, u52, u53, u54, u55, u56, u57, u58, u59, u60, u61, u62, u63, u64, u65, u66, u67, u68, u69, v70, v71, v72, v73, v74, v75, v76, v77, v78, v79, v80, v81, v82, v83, v84, v85, v86, v87, v88, v89, v90, v91, v92, v93, v94, v95, v96, v97, v98, v99, v100, v101, v102, v103, .bool (true), u105, u106, u107, u108, u109, u110, u111, u112, u113, u114, u115, u116, u117, u118, u119, u120, u121, u122, u123, u124, u125, u126], []⟩ w') :
    Code.wp Tryz.prog R11 Q ⟨#[.slice (some ⟨b, o, none⟩) n bc, .slice la m lc, u2, u3, u4, u5, u6, .int .i64 (i : Int), u8, u9, u10, u11, u12, u13, u14, u15, u16, u17, u18, u19, u20, u21, u22, u23, u24, u25, u26, u27, u28, u29, u30, u31, u32, u33, u34, u35, u36, u37, u38, u39, u40, u41, u42, u43, u44, u45, u46, u47, u48, u49, u50, u51, u52, u53, u54, u55, u56, u57, u58, u59, u60, u61, u62, u63, u64, u65, u66, u67, u68, u69, u70, u71, u72, u73, u74, u75, u76, u77, u78, u79, u80, u81, u82, u83, u84, u85, u86, u87, u88, u89, u90, u91, u92, u93, u94, u95, u96, u97, u98, u99, u100, u101, u102, u103, u104, u105, u106, u107, u108, u109, u110, u111, u112, u113, u114, u115, u116, u117, u118, u119, u120, u121, u122, u123, u124, u125, u126], []⟩ X := by
  conv => arg 2; whnf
  have HP := Lib.hid hP
  have HQ := Lib.hid hQ
  clear hP hQ
  have HDA := Lib.hid (show Below X.heap.size X X.drew from (Below.refl X.heap.size X).drew)
  refine wp_region_held_drew (S := fun u => u.cell? ⟨b, o + i * 3, none⟩ = some (.string xn) ∧ u.cell? ⟨b, o + i * 3 + 1, none⟩ = some (.int .u64 xl) ∧ u.cell? ⟨b, o + k * 3, none⟩ = some (.string yn)) (by kernel_rfl) (by first | exact HKP.out _ hbu | exact HKP.out _ HDA.out) (fun hHeld => ?_)
  refine tkI HP.out 0 (h := ?_)
  refine tkI HP.out 1 (h := ?_)
  refine tkI HP.out 2 (h := ?_)
  try simp only [Act.put, List.setIfInBounds_toArray, List.set_cons_zero, List.set_cons_succ]
  refine tkI HP.out 3 (h := ?_)
  refine tkI HP.out 4 (h := ?_)
  try simp only [Act.put, List.setIfInBounds_toArray, List.set_cons_zero, List.set_cons_succ]
  refine tkC 5 (h := fun K hK => ?_)
  go_wp2_with (go_at_call 86; (with_reducible refine (HIN.out _ HDA.out).mono ?_); rintro e w5 ⟨rfl, hb5⟩; have hbu := HDA.out.trans (hb5.mono HDA.out.size))
  refine hK.out _ _ (by first | exact HKP.out _ hbu | exact HKP.out _ HDA.out) (fun hHeld => ?_)
  clear hK K
  try simp only [Act.put, List.setIfInBounds_toArray, List.set_cons_zero, List.set_cons_succ]
  refine tkI HP.out 6 (h := ?_)
  refine tkI HP.out 7 (h := ?_)
  refine tkO HP.out 8 (h := ?_)
  try simp only [Act.put, List.setIfInBounds_toArray, List.set_cons_zero, List.set_cons_succ]
  refine tkO HP.out 9 (h := ?_)
  refine tkO HP.out 10 (h := ?_)
  refine tkO HP.out 11 (h := ?_)
  try simp only [Act.put, List.setIfInBounds_toArray, List.set_cons_zero, List.set_cons_succ]
  refine tkO HP.out 12 (h := ?_)
  refine tkO HP.out 13 (h := ?_)
  refine tkO HP.out 14 (h := ?_)
  try simp only [Act.put, List.setIfInBounds_toArray, List.set_cons_zero, List.set_cons_succ]
  refine tkO HP.out 15 (h := ?_)
  refine tkO HP.out 16 (h := ?_)
  refine tkO HP.out 17 (h := ?_)
  try simp only [Act.put, List.setIfInBounds_toArray, List.set_cons_zero, List.set_cons_succ]
  refine tkO HP.out 18 (h := ?_)
  refine tkO HP.out 19 (h := ?_)
  refine tkO HP.out 20 (h := ?_)
  try simp only [Act.put, List.setIfInBounds_toArray, List.set_cons_zero, List.set_cons_succ]
  refine tkO HP.out 21 (h := ?_)
  refine tkO HP.out 22 (h := ?_)
  refine tkO HP.out 23 (h := ?_)
  try simp only [Act.put, List.setIfInBounds_toArray, List.set_cons_zero, List.set_cons_succ]
  refine tkI HP.out 24 (h := ?_)
  refine tkI HP.out 25 (h := ?_)
  refine tkO HP.out 26 (h := ?_)
  try simp only [Act.put, List.setIfInBounds_toArray, List.set_cons_zero, List.set_cons_succ]
  refine tkO HP.out 27 (h := ?_)
  refine tkO HP.out 28 (h := ?_)
  refine tkO HP.out 29 (h := ?_)
  try simp only [Act.put, List.setIfInBounds_toArray, List.set_cons_zero, List.set_cons_succ]
  refine tkO HP.out 30 (h := ?_)
  refine tkO HP.out 31 (h := ?_)
  refine tkO HP.out 32 (h := ?_)
  try simp only [Act.put, List.setIfInBounds_toArray, List.set_cons_zero, List.set_cons_succ]
  refine tkO HP.out 33 (h := ?_)
  refine tkI HP.out 34 (h := ?_)
  try simp only [Act.put, List.setIfInBounds_toArray, List.set_cons_zero, List.set_cons_succ]
  refine wpAnyH_done (by kernel_rfl) ?_ _
  exact HQ.out _ _ _ _ _ _ _ _ _ _ _ _ _ _ _ _ _ _ _ _ _ _ _ _ _ _ _ _ _ _ _ _ _ _ _ hbu
set_option maxRecDepth 100000 in
set_option maxHeartbeats 2000000 in
theorem o11_B {b o n bc m lc i k : Nat} {la : Option Addr} {xn yn : ByteArray} {xl : Int} {hv : Bool} {X : World} {u2 u3 u4 u5 u6 u8 u9 u10 u11 u12 u13 u14 u15 u16 u17 u18 u19 u20 u21 u22 u23 u24 u25 u26 u27 u28 u29 u30 u31 u32 u33 u34 u35 u36 u37 u38 u39 u40 u41 u42 u43 u44 u45 u46 u47 u48 u49 u50 u51 u52 u53 u54 u55 u56 u57 u58 u59 u60 u61 u62 u63 u64 u65 u66 u67 u68 u69 u70 u71 u72 u73 u74 u75 u76 u77 u78 u79 u80 u81 u82 u83 u84 u85 u86 u87 u88 u89 u90 u91 u92 u93 u94 u95 u96 u97 u98 u99 u100 u101 u102 u103 u104 u105 u106 u107 u108 u109 u110 u111 u112 u113 u114 u115 u116 u117 u118 u119 u120 u121 u122 u123 u124 u125 u126 : Value} {Q : Exit → Act → World → Prop}
    (hi0 : (0 : Int) ≤ (i : Int)) (hi1 : (i : Int) < (n : Int))
    (HKP : Hid (∀ u, Below X.heap.size X u → u.cell? ⟨b, o + i * 3, none⟩ = some (.string xn) ∧ u.cell? ⟨b, o + i * 3 + 1, none⟩ = some (.int .u64 xl) ∧ u.cell? ⟨b, o + k * 3, none⟩ = some (.string yn)))
    (HIN : Hid (∀ u, Below X.heap.size X u → Calls Tryz.prog (86) #[.string xn] u (fun e w' => e = .returned (.bool true) ∧ Below u.heap.size u w')))
    (HHS : Hid (∀ u, Below X.heap.size X u → Calls Tryz.prog (85) #[.slice la m lc, .int .u64 xl] u (fun e w' => e = .returned (.bool hv) ∧ Below u.heap.size u w')))
    (h0i : ¬ 0 < i) (d0 : decide ((0 : Int) < (i : Int)) = false)
    (hP : ∀ ch a a' w', a'.defers = a.defers → Q (.panic ch) a w' → Q (.panic ch) a' w')
    (hQ : ∀ (v70 v71 v72 v73 v74 v75 v76 v77 v78 v79 v80 v81 v82 v83 v84 v85 v86 v87 v88 v89 v90 v91 v92 v93 v94 v95 v96 v97 v98 v99 v100 v101 v102 v103 : Value) (w' : World), Below X.heap.size X w' → Q .normal ⟨#[.slice (some ⟨b, o, none⟩) n bc, .slice la m lc, u2, u3, u4, u5, u6, .int .i64 (i : Int), u8, u9, u10, u11, u12, u13, u14, u15, u16, u17, u18, u19, u20, u21, u22, u23, u24, u25, u26, u27, u28, u29, u30, u31, u32, u33, u34, u35, u36, u37, u38, u39, u40, u41, u42, u43, u44, u45, u46, u47, u48, u49, u50, u51, u52, u53, u54, u55, u56, u57, u58, u59, u60, u61, u62, u63, u64, u65, u66, u67, u68, u69, v70, v71, v72, v73, v74, v75, v76, v77, v78, v79, v80, v81, v82, v83, v84, v85, v86, v87, v88, v89, v90, v91, v92, v93, v94, v95, v96, v97, v98, v99, v100, v101, v102, v103, .bool (!hv), u105, u106, u107, u108, u109, u110, u111, u112, u113, u114, u115, u116, u117, u118, u119, u120, u121, u122, u123, u124, u125, u126], []⟩ w') :
    Code.wp Tryz.prog R11 Q ⟨#[.slice (some ⟨b, o, none⟩) n bc, .slice la m lc, u2, u3, u4, u5, u6, .int .i64 (i : Int), u8, u9, u10, u11, u12, u13, u14, u15, u16, u17, u18, u19, u20, u21, u22, u23, u24, u25, u26, u27, u28, u29, u30, u31, u32, u33, u34, u35, u36, u37, u38, u39, u40, u41, u42, u43, u44, u45, u46, u47, u48, u49, u50, u51, u52, u53, u54, u55, u56, u57, u58, u59, u60, u61, u62, u63, u64, u65, u66, u67, u68, u69, u70, u71, u72, u73, u74, u75, u76, u77, u78, u79, u80, u81, u82, u83, u84, u85, u86, u87, u88, u89, u90, u91, u92, u93, u94, u95, u96, u97, u98, u99, u100, u101, u102, u103, u104, u105, u106, u107, u108, u109, u110, u111, u112, u113, u114, u115, u116, u117, u118, u119, u120, u121, u122, u123, u124, u125, u126], []⟩ X := by
  conv => arg 2; whnf
  have HP := Lib.hid hP
  have HQ := Lib.hid hQ
  clear hP hQ
  have HDA := Lib.hid (show Below X.heap.size X X.drew from (Below.refl X.heap.size X).drew)
  refine wp_region_held_drew (S := fun u => u.cell? ⟨b, o + i * 3, none⟩ = some (.string xn) ∧ u.cell? ⟨b, o + i * 3 + 1, none⟩ = some (.int .u64 xl) ∧ u.cell? ⟨b, o + k * 3, none⟩ = some (.string yn)) (by kernel_rfl) (by first | exact HKP.out _ hbu | exact HKP.out _ HDA.out) (fun hHeld => ?_)
  refine tkI HP.out 0 (h := ?_)
  refine tkI HP.out 1 (h := ?_)
  refine tkI HP.out 2 (h := ?_)
  try simp only [Act.put, List.setIfInBounds_toArray, List.set_cons_zero, List.set_cons_succ]
  refine tkI HP.out 3 (h := ?_)
  refine tkI HP.out 4 (h := ?_)
  try simp only [Act.put, List.setIfInBounds_toArray, List.set_cons_zero, List.set_cons_succ]
  refine tkC 5 (h := fun K hK => ?_)
  go_wp2_with (go_at_call 86; (with_reducible refine (HIN.out _ HDA.out).mono ?_); rintro e w5 ⟨rfl, hb5⟩; have hbu := HDA.out.trans (hb5.mono HDA.out.size))
  refine hK.out _ _ (by first | exact HKP.out _ hbu | exact HKP.out _ HDA.out) (fun hHeld => ?_)
  clear hK K
  try simp only [Act.put, List.setIfInBounds_toArray, List.set_cons_zero, List.set_cons_succ]
  refine tkI HP.out 6 (h := ?_)
  refine tkI HP.out 7 (h := ?_)
  refine tkI HP.out 8 (h := ?_)
  try simp only [Act.put, List.setIfInBounds_toArray, List.set_cons_zero, List.set_cons_succ]
  refine tkI HP.out 9 (h := ?_)
  refine tkI HP.out 10 (h := ?_)
  refine tkO HP.out 11 (h := ?_)
  try simp only [Act.put, List.setIfInBounds_toArray, List.set_cons_zero, List.set_cons_succ]
  refine tkO HP.out 12 (h := ?_)
  refine tkO HP.out 13 (h := ?_)
  refine tkO HP.out 14 (h := ?_)
  try simp only [Act.put, List.setIfInBounds_toArray, List.set_cons_zero, List.set_cons_succ]
  refine tkO HP.out 15 (h := ?_)
  refine tkO HP.out 16 (h := ?_)
  refine tkO HP.out 17 (h := ?_)
  try simp only [Act.put, List.setIfInBounds_toArray, List.set_cons_zero, List.set_cons_succ]
  refine tkO HP.out 18 (h := ?_)
  refine tkO HP.out 19 (h := ?_)
  refine tkO HP.out 20 (h := ?_)
  try simp only [Act.put, List.setIfInBounds_toArray, List.set_cons_zero, List.set_cons_succ]
  refine tkO HP.out 21 (h := ?_)
  refine tkO HP.out 22 (h := ?_)
  refine tkI HP.out 23 (h := ?_)
  try simp only [Act.put, List.setIfInBounds_toArray, List.set_cons_zero, List.set_cons_succ]
  refine tkI HP.out 24 (h := ?_)
  refine tkI HP.out 25 (h := ?_)
  refine tkI HP.out 26 (h := ?_)
  try simp only [Act.put, List.setIfInBounds_toArray, List.set_cons_zero, List.set_cons_succ]
  refine tkI HP.out 27 (h := ?_)
  refine tkI HP.out 28 (h := ?_)
  refine tkI HP.out 29 (h := ?_)
  try simp only [Act.put, List.setIfInBounds_toArray, List.set_cons_zero, List.set_cons_succ]
  refine tkI HP.out 30 (h := ?_)
  refine tkI HP.out 31 (h := ?_)
  try simp only [Act.put, List.setIfInBounds_toArray, List.set_cons_zero, List.set_cons_succ]
  refine tkC 32 (h := fun K hK => ?_)
  go_wp2_with (go_at_call 85; (with_reducible refine (HHS.out _ hbu).mono ?_); rintro e w6 ⟨rfl, hb6⟩; have hbu := hbu.trans (hb6.mono hbu.size))
  refine hK.out _ _ (by first | exact HKP.out _ hbu | exact HKP.out _ HDA.out) (fun hHeld => ?_)
  clear hK K
  try simp only [Act.put, List.setIfInBounds_toArray, List.set_cons_zero, List.set_cons_succ]
  refine tkI HP.out 33 (h := ?_)
  refine tkI HP.out 34 (h := ?_)
  try simp only [Act.put, List.setIfInBounds_toArray, List.set_cons_zero, List.set_cons_succ]
  refine wpAnyH_done (by kernel_rfl) ?_ _
  exact HQ.out _ _ _ _ _ _ _ _ _ _ _ _ _ _ _ _ _ _ _ _ _ _ _ _ _ _ _ _ _ _ _ _ _ _ _ hbu
end Go.Proofs.YtchcelodeepjdaaGreatDoor.Ln
