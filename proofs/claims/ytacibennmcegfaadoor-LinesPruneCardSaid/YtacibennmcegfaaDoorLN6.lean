/- lines.byName; slices.BinarySearchFunc at branches. Condition: fewer than 1000000 branches, sorted. -/
import Derived.Test.YtacibennmcegfaaDoorLN5
import Derived.Test.YtacibennmcegfaaDoorLNs
namespace Go.Herb
/-- A branch: its name, its line, its mark. -/
abbrev Br := ByteArray × Int × Int
def SrtB (l : List Br) : Prop := l.Pairwise (fun p q => p.1.toList < q.1.toList)
end Go.Herb
namespace Go.Proofs.YtacibennmcegfaaDoor
open Go.RowKit Go.Herb Go.Lib

def brc (x : Br) : List Value := [.string x.1, .int .u64 x.2.1, .int .u64 x.2.2]
theorem brc_len (x : Br) : (brc x).length = 3 := rfl
abbrev Brs (w : World) (a : Option Addr) (xs : List Br) : Prop := Els brc 3 w a xs
theorem cmpB_lt : ∀ (a b : List UInt8), compareBytes a b < 0 ↔ a < b
  | [], [] => by simp [compareBytes]
  | [], _ :: _ => by simp [compareBytes]
  | _ :: _, [] => by simp [compareBytes]
  | a :: l, b :: bs => by
    unfold compareBytes
    rw [List.cons_lt_cons_iff]
    by_cases h1 : a < b
    · simp [h1]
    · rw [if_neg h1]
      by_cases h2 : b < a
      · rw [if_pos h2]
        have h3 : a ≠ b := fun e => by rw [e] at h2; exact UInt8.lt_irrefl _ h2
        simp [h1, h3]
      · rw [if_neg h2, cmpB_lt l bs]
        have h3 : a = b := UInt8.le_antisymm (UInt8.not_lt.1 h2) (UInt8.not_lt.1 h1)
        simp [h3]

theorem scmp_any (x y : ByteArray) (w : World) :
    Calls Tryd.prog 46 #[.string x, .string y] w fun e w' => e = .returned (.int .i64 (Lib.compareBytes x.data.toList y.data.toList)) ∧ w = w' :=
  (Tryd.strings_Compare x y w).mono fun _ _ ⟨h1, h2⟩ => ⟨h1, h2.symm⟩

theorem cmpB_eq : ∀ (a b : List UInt8), compareBytes a b = 0 ↔ a = b
  | [], [] => by simp [compareBytes]
  | [], _ :: _ => by simp [compareBytes]
  | _ :: _, [] => by simp [compareBytes]
  | a :: l, b :: bs => by
    unfold compareBytes
    by_cases h1 : a < b
    · have h3 : a ≠ b := fun e => by rw [e] at h1; exact UInt8.lt_irrefl _ h1
      simp [h1, h3]
    · rw [if_neg h1]
      by_cases h2 : b < a
      · have h3 : a ≠ b := fun e => by rw [e] at h2; exact UInt8.lt_irrefl _ h2
        simp [h2, h3]
      · rw [if_neg h2, cmpB_eq l bs]
        have h3 : a = b := UInt8.le_antisymm (UInt8.not_lt.1 h2) (UInt8.not_lt.1 h1)
        simp [h3]
def cmpN (a b : ByteArray) : Int := compareBytes a.data.toList b.data.toList
theorem cmpN_lt (a b : ByteArray) : cmpN a b < 0 ↔ a.toList < b.toList := by unfold cmpN; rw [cmpB_lt, ByteArray.toList_eq, ByteArray.toList_eq]
theorem cmpN_eq (a b : ByteArray) : cmpN a b = 0 ↔ a.toList = b.toList := by unfold cmpN; rw [cmpB_eq, ByteArray.toList_eq, ByteArray.toList_eq]
theorem byName_any (x : Br) (s : ByteArray) (w : World) : Calls Tryd.prog (35) #[.agg #[.string x.1, .int .u64 x.2.1, .int .u64 x.2.2], .string s] w fun e w' => e = .returned (.int .i64 (cmpN x.1 s)) ∧ Below w.heap.size w w' := by
  have HB := Lib.hid (show Below w.heap.size w (w.alloc (.cells #[.string x.1, .int .u64 x.2.1, .int .u64 x.2.2] (45))) from (Below.refl _ _).alloc (Nat.le_refl _) _)
  go_enter Tryd.func35, Tryd.ntmps35
  go_wp2_with (go_at_call 46; refine (scmp_any _ _ _).mono ?_; rintro e w' ⟨rfl, rfl⟩)
  go_ret
  exact ⟨rfl, HB.out⟩
theorem brc_srt {xs : List Br} (h : SrtB xs) {i j : Nat} (hi : i ≤ j) {y x : Br} (hy : xs[i]? = some y) (hx : xs[j]? = some x) : y.1.toList < x.1.toList ∨ y.1.toList = x.1.toList := by
  obtain ⟨h1, e1⟩ := List.getElem?_eq_some_iff.1 hy
  obtain ⟨h2, e2⟩ := List.getElem?_eq_some_iff.1 hx
  rcases Nat.lt_or_eq_of_le hi with hl | rfl
  · have := List.pairwise_iff_getElem.1 h i j h1 h2 hl
    rw [e1, e2] at this
    exact .inl this
  · rw [e1] at e2; rw [e2]; exact .inr rfl

def BbPost (xs : List Br) (k : ByteArray) (n : Nat) (w : World) (e : Ending) (w' : World) : Prop :=
  ∃ (i : Nat) (b : Bool), e = .returned (.tuple #[.int .i64 i, .bool b]) ∧ i ≤ n ∧ (∀ (j : Nat) (x : Br), j < i → xs[j]? = some x → x.1.toList < k.toList) ∧ (∀ (j : Nat) (x : Br), i ≤ j → xs[j]? = some x → ¬ x.1.toList < k.toList) ∧ (b = true ↔ ∃ p, xs[i]? = some p ∧ p.1.toList = k.toList) ∧ Below w.heap.size w w'

set_option maxRecDepth 100000 in
set_option maxHeartbeats 1000000 in
theorem bsB_any (a : Option Addr) (cap n : Nat) (xs : List Br) (k : ByteArray) (w : World) (hE : Brs w a xs) (hn : xs.length = n) (hm : n < 1000000) (hs : SrtB xs) :
    Calls Tryd.prog (34) #[.slice a n cap, .string k, .func (.func (35)) #[] #[]] w (BbPost xs k n w) := by
  have HE := Lib.hid hE
  have HN := Lib.hid hn
  have HS := Lib.hid hs
  clear hE hn hs
  go_enter Tryd.func34, Tryd.ntmps34
  go_wp2_with fail
  go_loopg [9, 10] n (fun gk iv jv wr => ∃ i j : Nat, i + gk = j ∧ j ≤ n ∧ iv = .int .i64 i ∧ jv = .int .i64 j ∧ Hid (∀ (m : Nat) (x : Br), m < i → xs[m]? = some x → x.1.toList < k.toList) ∧ Hid (∀ (m : Nat) (x : Br), j ≤ m → xs[m]? = some x → ¬ x.1.toList < k.toList) ∧ Hid (Below w.heap.size w wr))
  case atStart => exact ⟨0, n, by omega, Nat.le_refl _, rfl, rfl, Lib.hid (fun m x h => by omega), Lib.hid (fun m x h hx => by obtain ⟨h1, _⟩ := List.getElem?_eq_some_iff.1 hx; have := HN.out; omega), Lib.hid (Below.refl _ _)⟩
  case round =>
    obtain ⟨i, j, hij, hjn, rfl, rfl, HLO, HHI, HB⟩ := hrel
    by_cases hlt : i < j
    · have h1 : (i : Int) < (j : Int) := by omega
      have hw1 : IntKind.i64.wrap ((i : Int) + (j : Int)) = (i : Int) + (j : Int) := IntWalk.i64_in _ (by omega)
      obtain ⟨h, hh⟩ : ∃ h : Nat, h = (i + j) / 2 := ⟨_, rfl⟩
      have hdiv : ((i : Int) + (j : Int)) / 2 = (h : Int) := by omega
      have hih : i ≤ h := by omega
      have hhj : h < j := by omega
      have hh0 : (0 : Int) ≤ (h : Int) := by omega
      have hh1 : (h : Int) < (n : Int) := by omega
      have hw2 : IntKind.i64.wrap ((h : Int) + 1) = (h : Int) + 1 := IntWalk.i64_in _ (by omega)
      have hhl : h < xs.length := by have := HN.out; omega
      obtain ⟨b, o, rfl, hlb, hcell⟩ := HE.out.get h hhl
      have x0 := (HB.out.cell (p := ⟨b, _, none⟩) hlb).trans (hcell 0 _ rfl)
      have x1 := (HB.out.cell (p := ⟨b, _, none⟩) hlb).trans (hcell 1 _ rfl)
      have x2 := (HB.out.cell (p := ⟨b, _, none⟩) hlb).trans (hcell 2 _ rfl)
      simp only [Nat.add_zero] at x0 x1
      have HX := Lib.hid (List.getElem?_eq_getElem hhl)
      generalize xs[h] = x at x0 x1 x2 HX
      clear hcell hh
      by_cases hc : x.1.toList < k.toList
      · have hcmp : cmpN x.1 k < 0 := (cmpN_lt _ _).2 hc
        have HLO2 := Lib.hid (show ∀ (m : Nat) (y : Br), m < h + 1 → xs[m]? = some y → y.1.toList < k.toList from fun m y hm hy => by
          rcases brc_srt HS.out (show m ≤ h by omega) hy HX.out with g | g
          · exact List.lt_trans g hc
          · rw [g]; exact hc)
        have HBY := Lib.hid (fun u => byName_any x k u)
        obtain ⟨cv, hcv⟩ : ∃ cv, cv = cmpN x.1 k := ⟨_, rfl⟩
        rw [← hcv] at HBY hcmp
        clear hc hcv
        go_wp2_with fail
        refine (HBY.out wr).mono ?_
        rintro e w1 ⟨rfl, hb1⟩
        have HB1 := Lib.hid (HB.out.trans (hb1.mono HB.out.size))
        clear hb1 x0 x1 x2
        go_wp2_with fail
        go_roundg (j - (h + 1))
        case measure => omega
        case rel => exact ⟨h + 1, j, by omega, hjn, by go_num, rfl, HLO2, HHI, HB1⟩
      · have hcmp : ¬ cmpN x.1 k < 0 := fun g => hc ((cmpN_lt _ _).1 g)
        have HHI2 := Lib.hid (show ∀ (m : Nat) (y : Br), h ≤ m → xs[m]? = some y → ¬ y.1.toList < k.toList from fun m y hm hy => by
          intro g
          rcases brc_srt HS.out hm HX.out hy with g2 | g2
          · exact hc (List.lt_trans g2 g)
          · exact hc (by rw [g2]; exact g))
        have HBY := Lib.hid (fun u => byName_any x k u)
        obtain ⟨cv, hcv⟩ : ∃ cv, cv = cmpN x.1 k := ⟨_, rfl⟩
        rw [← hcv] at HBY hcmp
        clear hc hcv
        go_wp2_with fail
        refine (HBY.out wr).mono ?_
        rintro e w1 ⟨rfl, hb1⟩
        have HB1 := Lib.hid (HB.out.trans (hb1.mono HB.out.size))
        clear hb1 x0 x1 x2
        go_wp2_with fail
        go_roundg (h - i)
        case measure => omega
        case rel => exact ⟨i, h, by omega, by omega, rfl, by go_num, HLO, HHI2, HB1⟩
    · have hij2 : i = j := by omega
      subst hij2
      by_cases hin : i < n
      · have h0 : (0 : Int) ≤ (i : Int) := by omega
        have h1 : (i : Int) < (n : Int) := by omega
        have hhl : i < xs.length := by have := HN.out; omega
        obtain ⟨b, o, rfl, hlb, hcell⟩ := HE.out.get i hhl
        have x0 := (HB.out.cell (p := ⟨b, _, none⟩) hlb).trans (hcell 0 _ rfl)
        have x1 := (HB.out.cell (p := ⟨b, _, none⟩) hlb).trans (hcell 1 _ rfl)
        have x2 := (HB.out.cell (p := ⟨b, _, none⟩) hlb).trans (hcell 2 _ rfl)
        simp only [Nat.add_zero] at x0 x1
        have HX := Lib.hid (List.getElem?_eq_getElem hhl)
        generalize xs[i] = x at x0 x1 x2 HX
        clear hcell
        have HBY := Lib.hid (fun u => byName_any x k u)
        obtain ⟨cv, hcv⟩ : ∃ cv, cv = cmpN x.1 k := ⟨_, rfl⟩
        rw [← hcv] at HBY
        have HBB := Lib.hid (show (decide (cv = 0) = true ↔ ∃ p, xs[i]? = some p ∧ p.1.toList = k.toList) ∧ ((cv == 0) = decide (cv = 0)) from by
          refine ⟨?_, by by_cases h : cv = 0 <;> simp [h]⟩
          rw [decide_eq_true_eq, hcv, HX.out, cmpN_eq]
          exact ⟨fun h => ⟨x, rfl, h⟩, fun ⟨p, h, e⟩ => by injection h with h; rw [h]; exact e⟩)
        have hbq := HBB.out.2
        clear hcv
        go_wp2_with fail
        refine (HBY.out wr).mono ?_
        rintro e w1 ⟨rfl, hb1⟩
        have HB1 := Lib.hid (HB.out.trans (hb1.mono HB.out.size))
        clear hb1 x0 x1 x2
        go_wp2_with fail
        go_ret2
        unfold BbPost
        exact ⟨i, decide (cv = 0), by first | rfl | (rw [← hbq]; done) | (rw [← hbq]; rfl) | (simp [hbq]; done), hjn, HLO.out, HHI.out, HBB.out.1, HB1.out⟩
      · have hin2 : ¬ (i : Int) < (n : Int) := by omega
        go_wp2_with fail
        go_ret2
        unfold BbPost
        exact ⟨i, false, rfl, hjn, HLO.out, HHI.out, ⟨(fun h => by cases h), fun ⟨p, h, _⟩ => by
          obtain ⟨h1, _⟩ := List.getElem?_eq_some_iff.1 h
          have := HN.out
          omega⟩, HB.out⟩
end Go.Proofs.YtacibennmcegfaaDoor
