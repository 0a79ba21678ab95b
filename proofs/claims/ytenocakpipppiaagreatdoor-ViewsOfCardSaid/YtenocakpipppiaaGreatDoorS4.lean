/- views.Scan. Condition: fewer than 1000000 facts. -/
import Derived.Test.YtenocakpipppiaaGreatDoorS3
namespace Go.Proofs.YtenocakpipppiaaGreatDoor
open Go.RowKit Go.Shelf Go.Herb Go.Sort Go.Lib

theorem cmpB_lt : ∀ (a b : List UInt8), compareBytes a b < 0 ↔ a < b
  | [], [] => by simp [compareBytes]
  | [], _ :: _ => by simp [compareBytes]
  | _ :: _, [] => by simp [compareBytes]
  | a :: l, b :: bs => by
    unfold compareBytes
    rw [List.cons_lt_cons_iff]
    by_cases h1 : a < b
    · simp [h1]
    · rw [if_neg h1]
      by_cases h2 : b < a
      · rw [if_pos h2]
        have h3 : a ≠ b := fun e => by rw [e] at h2; exact UInt8.lt_irrefl _ h2
        simp [h1, h3]
      · rw [if_neg h2, cmpB_lt l bs]
        have h3 : a = b := UInt8.le_antisymm (UInt8.not_lt.1 h2) (UInt8.not_lt.1 h1)
        simp [h3]

theorem scmp_any (x y : ByteArray) (w : World) :
    Calls Tryz.prog 29 #[.string x, .string y] w fun e w' => e = .returned (.int .i64 (Lib.compareBytes x.data.toList y.data.toList)) ∧ w = w' :=
  (Tryz.strings_Compare x y w).mono fun _ _ ⟨h1, h2⟩ => ⟨h1, h2.symm⟩

/-- A pair of a scan. -/
abbrev Pr := ByteArray × ByteArray
abbrev pc (p : Pr) : List Value := [.string p.1, .string p.2]
theorem pc_len (p : Pr) : (pc p).length = 2 := rfl
def OwnP (B : Nat) (w : World) (v : Value) (ps : List Pr) : Prop := w.ownsRow B 63 2 v ps.length (ps.flatMap pc)
theorem OwnP.below {B : Nat} {w w' : World} {v : Value} {ts : List Pr} (h : OwnP B w v ts) (hb : Below w.heap.size w w') : OwnP B w' v ts := ownsRow_below h hb (Nat.le_refl _)
theorem OwnP.els {B : Nat} {w : World} {v : Value} {ss : List Pr} (h : OwnP B w v ss) : ∃ a cap, v = .slice a ss.length cap ∧ ss.length ≤ cap ∧ Els pc 2 w a ss := els_of_owns pc_len h
theorem Tryz.info63 : (Tryz.prog.info? 63).map (fun i => (i.zero, i.size, i.bytes)) = some (some (.agg #[.string .empty, .string .empty]), 2, 32) := by kernel_rfl

theorem run_append_pair (w : World) (B : Nat) (v : Value) (ss : List Pr) (vb : Nat) (p : Pr) (ho : OwnP B w v ss) (hb : w.heap[vb]? = some (.cells #[.string p.1, .string p.2] 63 (0, 0))) (hx : ss.length < 1000000) (hB : B ≤ w.heap.size) (ty : TypeId) :
    ∃ v' w', (Builtin.append_ #[38, 38] ty #[v, .slice (some ⟨vb, 0, none⟩) 1 1]).run Tryz.prog w = .ok v' w' ∧ OwnP B w' v' (ss ++ [p]) ∧ w.grownBy w' v.ownBlock := by
  obtain ⟨i0, hin, hz0, hz1, hz2⟩ := info_parts Tryz.info63
  obtain ⟨v', w', hr, h2, h3, h4⟩ := run_append_own (P := Tryz.prog) w B 38 ty 63 i0 _ 2 32 Tryz.underlying38 hin hz0 hz1 hz2 rfl (by decide) v ss.length (ss.flatMap pc) ho ⟨vb, 0, none⟩ 1 1 [.string p.1, .string p.2] rfl (fun j u hj => by
      have : ((⟨vb, 0, none⟩ : Addr).add j) = ⟨vb, 0 + j, none⟩ := addr_add _ _ _
      rw [this, Nat.zero_add, cell_of_blk hb]
      simpa using hj) (by intro v hv; simp at hv; rcases hv with rfl | rfl <;> rfl) (by unfold maxLen; omega) (by omega) hB
  refine ⟨v', w', hr, ?_, h3⟩
  unfold OwnP
  rw [List.length_append, List.flatMap_append]
  exact h2

theorem clipP_any (a : Option Addr) (cap n : Nat) (w : World) (hn : a = none → n = 0 ∧ cap = 0) (hl : n < 1000000) (hle : n ≤ cap) (hm : cap ≤ maxLen) :
    Calls Tryz.prog 30 #[.slice a n cap] w fun e w' => e = .returned (.slice a n n) ∧ w = w' := by
  cases a with
  | none =>
    obtain ⟨rfl, rfl⟩ := hn rfl
    clear hn
    go_enter Tryz.func30, Tryz.ntmps30
    go_wp2
    go_ret
    exact ⟨rfl, rfl⟩
  | some ad =>
    clear hn
    unfold maxLen at hm
    go_enter Tryz.func30, Tryz.ntmps30
    go_wp2
    go_ret
    exact ⟨rfl, rfl⟩

/-- Does a key lie between? -/
def betw (low high : ByteArray) (k : Str) : Bool := decide (¬ k < low.toList) && decide (high.toList = [] ∨ k < high.toList)
def pairAt (view : List Fc) (low high : ByteArray) (valid : Int) (k : Str) : Option Pr :=
  if betw low high k = true ∧ (valueL ⟨k.toArray⟩ valid view).2 = true then some (⟨k.toArray⟩, (valueL ⟨k.toArray⟩ valid view).1) else none
def scanL (view : List Fc) (low high : ByteArray) (valid : Int) (ks : List Str) : List Pr := ks.filterMap (pairAt view low high valid)
theorem scanL_succ (view : List Fc) (low high : ByteArray) (valid : Int) (ks : List Str) (k : Nat) (h : k < ks.length) : scanL view low high valid (ks.take (k + 1)) = scanL view low high valid (ks.take k) ++ (pairAt view low high valid ks[k]).toList := by
  unfold scanL
  rw [List.take_succ_eq_append_getElem h, List.filterMap_append]
  cases h : pairAt view low high valid ks[k] <;> simp [h]
theorem scanL_len (view : List Fc) (low high : ByteArray) (valid : Int) (ks : List Str) : (scanL view low high valid ks).length ≤ ks.length := List.length_filterMap_le _ _

def ScanPost (ps : List Pr) (w : World) (e : Ending) (w' : World) : Prop := ∃ a, e = .returned (.slice a ps.length ps.length) ∧ Els pc 2 w' a ps ∧ (a = none → ps = []) ∧ Below w.heap.size w w'
end Go.Proofs.YtenocakpipppiaaGreatDoor
