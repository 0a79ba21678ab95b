import Derived.WalkKit
import Derived.WalkLawsBesides
namespace Go.Fl
open Ieee Ieee.Datum

/-- A datum that is a whole number n, with its sign. -/
def Rep (d : Datum) (s : Bool) (n : Nat) : Prop := ∃ k : Nat, d = .number s (n <<< k) (-(k : Int))

/-- The word of a whole number. -/
def fl (s : Bool) (n : Nat) : Nat := double.nearest s n 0

theorem log2_shl (n k : Nat) (h : n ≠ 0) : (n <<< k).log2 = n.log2 + k := by
  have hk := Nat.two_pow_pos k
  have h1 := Nat.log2_self_le h
  have h2 := @Nat.lt_log2_self n
  rw [Nat.shiftLeft_eq, Nat.log2_eq_iff (Nat.mul_ne_zero h (by omega))]
  refine ⟨by rw [Nat.pow_add]; exact Nat.mul_le_mul_right _ h1, ?_⟩
  rw [show n.log2 + k + 1 = (n.log2 + 1) + k from by omega, Nat.pow_add]
  exact Nat.mul_lt_mul_of_pos_right h2 hk

theorem cut_exact (s : Bool) (m k j : Nat) (hm : m ≠ 0) (h : j ≤ k) : Toward.even.cut s (m <<< k) j = m <<< (k - j) := by
  have hlog := log2_shl m k hm
  have hmin : min j ((m <<< k).log2 + 2) = j := by omega
  have hdiv : m <<< k = (m <<< (k - j)) * 2 ^ j := by
    rw [Nat.shiftLeft_eq, Nat.shiftLeft_eq, Nat.mul_assoc, ← Nat.pow_add, Nat.sub_add_cancel h]
  unfold Toward.cut
  simp only [hmin, Nat.one_shiftLeft]
  rw [hdiv, Nat.mul_div_cancel _ (Nat.two_pow_pos j), Nat.mul_mod_left]
  have : 0 < 2 ^ j := Nat.two_pow_pos j
  simp

theorem nearest_eq (s : Bool) (n k : Nat) (hn : n < 2 ^ 53) : double.nearest s (n <<< k) (-(k : Int)) = fl s n := by
  unfold fl Format.nearest
  by_cases h0 : n = 0
  · simp [h0]
  · have hs : n <<< k ≠ 0 := by rw [Nat.shiftLeft_eq]; exact Nat.mul_ne_zero h0 (by have := Nat.two_pow_pos k; omega)
    have hl : n.log2 ≤ 52 := by have := (Nat.log2_lt h0).2 hn; omega
    simp only [hs, h0, if_false]
    rw [log2_shl n k h0]
    have e1 : (-(k : Int) + ((n.log2 + k : Nat) : Int) - (double.fractionBits : Nat)) = (0 + (n.log2 : Int) - (double.fractionBits : Nat)) := by omega
    rw [e1]
    have hlast : max (0 + (n.log2 : Int) - (double.fractionBits : Nat)) double.leastPlace = (n.log2 : Int) - 52 := by
      have : double.leastPlace = -1074 := by decide
      rw [this]; show max (0 + (n.log2 : Int) - ((52 : Nat) : Int)) (-1074) = _; omega
    rw [hlast]
    have e2 : Toward.even.cut s ((n <<< k) <<< (-(k : Int) - ((n.log2 : Int) - 52)).toNat) (((n.log2 : Int) - 52) - (-(k : Int))).toNat = n <<< (52 - n.log2) := by
      by_cases hk : k ≤ 52 - n.log2
      · have a1 : (-(k : Int) - ((n.log2 : Int) - 52)).toNat = 52 - n.log2 - k := by omega
        have a2 : (((n.log2 : Int) - 52) - (-(k : Int))).toNat = 0 := by omega
        rw [a1, a2, ← Nat.shiftLeft_add, show k + (52 - n.log2 - k) = 52 - n.log2 from by omega]
        rw [cut_exact s n _ 0 h0 (Nat.zero_le _)]; rfl
      · have a1 : (-(k : Int) - ((n.log2 : Int) - 52)).toNat = 0 := by omega
        have a2 : (((n.log2 : Int) - 52) - (-(k : Int))).toNat = k - (52 - n.log2) := by omega
        rw [a1, a2, Nat.shiftLeft_zero, cut_exact s n k _ h0 (by omega)]
        congr 1; omega
    have e3 : Toward.even.cut s (n <<< (0 - ((n.log2 : Int) - 52)).toNat) (((n.log2 : Int) - 52) - 0).toNat = n <<< (52 - n.log2) := by
      have a1 : (0 - ((n.log2 : Int) - 52)).toNat = 52 - n.log2 := by omega
      have a2 : (((n.log2 : Int) - 52) - 0).toNat = 0 := by omega
      rw [a1, a2, cut_exact s n _ 0 h0 (Nat.zero_le _)]; rfl
    rw [e2, e3]

theorem write_rep {d : Datum} {s : Bool} {n : Nat} (h : Rep d s n) (hn : n < 2 ^ 53) : double.write d = fl s n := by
  obtain ⟨k, rfl⟩ := h
  exact nearest_eq s n k hn


theorem lp_eq : double.leastPlace = -1074 := by decide

theorem shl_log (n : Nat) (h0 : n ≠ 0) (hl : n.log2 ≤ 52) : 2 ^ 52 ≤ n <<< (52 - n.log2) ∧ n <<< (52 - n.log2) < 2 ^ 53 := by
  have h1 := Nat.log2_self_le h0
  have h2 := @Nat.lt_log2_self n
  rw [Nat.shiftLeft_eq]
  have e : 2 ^ 52 = 2 ^ n.log2 * 2 ^ (52 - n.log2) := by rw [← Nat.pow_add]; congr 1; omega
  have e' : 2 ^ 53 = 2 ^ (n.log2 + 1) * 2 ^ (52 - n.log2) := by rw [← Nat.pow_add]; congr 1; omega
  rw [e, e']
  exact ⟨Nat.mul_le_mul_right _ h1, Nat.mul_lt_mul_of_pos_right h2 (Nat.two_pow_pos _)⟩

/-- The bounds on a word's rung, over a number B in the place of 2 ^ 52. -/
theorem rung_bounds (B L M : Nat) (hL : L ≤ 1074) (h1 : B ≤ M) (h2 : M < 2 * B) : L * B + M < 2047 * B ∧ B ≤ L * B + M ∧ (L * B + M) % B = M - B ∧ (L * B + M) / B = L + 1 := by
  have hB : 0 < B := by omega
  have h3 : L * B ≤ 1074 * B := Nat.mul_le_mul_right _ hL
  have hm : M = (M - B) + B := by omega
  refine ⟨by omega, by omega, ?_, ?_⟩
  · rw [Nat.mul_comm, Nat.mul_add_mod, hm, Nat.add_mod_right, Nat.mod_eq_of_lt (by omega)]; omega
  · rw [Nat.mul_comm, Nat.mul_add_div hB]
    have : M / B = 1 := by rw [Nat.div_eq_iff hB]; omega
    rw [this]

theorem word_parts (B : Nat) (s : Bool) (R : Nat) (h : R < 2047 * B) : (if s then 2048 * B + R else R) / (2048 * B) % 2 = s.toNat ∧ (if s then 2048 * B + R else R) % (2048 * B) = R := by
  have hB : 0 < B := by omega
  have h0 : R / (2048 * B) = 0 := Nat.div_eq_of_lt (by omega)
  have hm : R % (2048 * B) = R := Nat.mod_eq_of_lt (by omega)
  cases s
  · simp [h0, hm]
  · simp only [if_true]
    rw [Nat.add_div_left _ (by omega), h0, Nat.add_mod_left, hm]
    exact ⟨rfl, rfl⟩

theorem fl_eq (s : Bool) (n : Nat) (h0 : n ≠ 0) (hn : n < 2 ^ 53) : fl s n = double.word s ((n.log2 + 1022) * double.binade + n <<< (52 - n.log2)) := by
  have hl : n.log2 ≤ 52 := by have := (Nat.log2_lt h0).2 hn; omega
  unfold fl Format.nearest
  simp only [h0, if_false]
  have hlast : max (0 + (n.log2 : Int) - (double.fractionBits : Nat)) double.leastPlace = (n.log2 : Int) - 52 := by
    rw [lp_eq]; show max (0 + (n.log2 : Int) - ((52 : Nat) : Int)) (-1074) = _; omega
  rw [hlast]
  have e3 : Toward.even.cut s (n <<< (0 - ((n.log2 : Int) - 52)).toNat) (((n.log2 : Int) - 52) - 0).toNat = n <<< (52 - n.log2) := by
    have a1 : (0 - ((n.log2 : Int) - 52)).toNat = 52 - n.log2 := by omega
    have a2 : (((n.log2 : Int) - 52) - 0).toNat = 0 := by omega
    rw [a1, a2, cut_exact s n _ 0 h0 (Nat.zero_le _)]; rfl
  rw [e3]
  have a4 : (((n.log2 : Int) - 52) - double.leastPlace).toNat = n.log2 + 1022 := by
    rw [lp_eq]; omega
  rw [a4]
  have hb := shl_log n h0 hl
  have hi : double.infRung = 2047 * double.binade := rfl
  have hr := rung_bounds double.binade (n.log2 + 1022) (n <<< (52 - n.log2)) (by omega) hb.1 (by have := hb.2; exact this)
  rw [hi, Nat.min_eq_left (Nat.le_of_lt hr.1)]

theorem read_word (s : Bool) (L M : Nat) (hL : L ≤ 1074) (h1 : double.binade ≤ M) (h2 : M < 2 * double.binade) : double.read (double.word s (L * double.binade + M)) = .number s M (-1074 + (L : Int)) := by
  have hr := rung_bounds double.binade L M hL h1 h2
  have hw := word_parts double.binade s (L * double.binade + M) hr.1
  have hsw : double.signWeight = 2048 * double.binade := rfl
  have hi : double.infRung = 2047 * double.binade := rfl
  unfold Format.read Format.word
  rw [hsw, hi, lp_eq]
  simp only [hw.1, hw.2]
  rw [if_neg (Nat.not_lt.2 hr.2.1), if_pos hr.1, hr.2.2.1, hr.2.2.2]
  have e1 : double.binade + (M - double.binade) = M := by omega
  have e2 : (s.toNat == 1) = s := by cases s <;> rfl
  rw [e1, e2]
  rfl

theorem read_fl (s : Bool) (n : Nat) (hn : n < 2 ^ 53) : Rep (double.read (fl s n)) s n := by
  by_cases h0 : n = 0
  · subst h0
    refine ⟨1074, ?_⟩
    cases s <;> decide +kernel
  · have hl : n.log2 ≤ 52 := by have := (Nat.log2_lt h0).2 hn; omega
    refine ⟨52 - n.log2, ?_⟩
    have hb := shl_log n h0 hl
    rw [fl_eq s n h0 hn, read_word s _ _ (by omega) hb.1 hb.2]
    have e3 : (-1074 : Int) + ((n.log2 + 1022 : Nat) : Int) = -((52 - n.log2 : Nat) : Int) := by omega
    rw [e3]

theorem sum_rep {d e : Datum} {n m : Nat} (h : Rep d false n) (k : Rep e false m) : ∃ x, d.sum e = some x ∧ Rep x false (n + m) := by
  obtain ⟨i, rfl⟩ := h
  obtain ⟨j, rfl⟩ := k
  refine ⟨_, rfl, max i j, ?_⟩
  have hb : min (-(i : Int)) (-(j : Int)) = -((max i j : Nat) : Int) := by omega
  have e1 : (-(i : Int) - -((max i j : Nat) : Int)).toNat = max i j - i := by omega
  have e2 : (-(j : Int) - -((max i j : Nat) : Int)).toNat = max i j - j := by omega
  rw [hb, e1, e2]
  simp only [signed, Bool.false_eq_true, if_false]
  rw [← Nat.shiftLeft_add, ← Nat.shiftLeft_add, show i + (max i j - i) = max i j from by omega, show j + (max i j - j) = max i j from by omega]
  have hs : ((n <<< (max i j) : Nat) : Int) + ((m <<< (max i j) : Nat) : Int) = (((n + m) <<< (max i j) : Nat) : Int) := by
    rw [Nat.shiftLeft_eq, Nat.shiftLeft_eq, Nat.shiftLeft_eq, Nat.add_mul]; omega
  rw [hs]
  generalize (n + m) <<< (max i j) = z
  simp

theorem add_fl (n m : Nat) (h : n + m < 2 ^ 53) : double.add (fl false n) (fl false m) = some (fl false (n + m)) := by
  obtain ⟨x, hx, hr⟩ := sum_rep (read_fl false n (by omega)) (read_fl false m (by omega))
  simp [Format.add, hx, write_rep hr h]


theorem shl_sub (n m k : Nat) (h : m ≤ n) : ((n <<< k : Nat) : Int) - ((m <<< k : Nat) : Int) = (((n - m) <<< k : Nat) : Int) := by
  rw [Nat.shiftLeft_eq, Nat.shiftLeft_eq, Nat.shiftLeft_eq, Nat.sub_mul]
  have : m * 2 ^ k ≤ n * 2 ^ k := Nat.mul_le_mul_right _ h
  omega

theorem shl_pos (n k : Nat) (h : 0 < n) : 0 < n <<< k := by
  rw [Nat.shiftLeft_eq]; exact Nat.mul_pos h (Nat.two_pow_pos k)

theorem diff_rep {d e : Datum} {n m : Nat} (h : Rep d false n) (k : Rep e false m) :
    ∃ x, d.sum e.opposite = some x ∧ (m ≤ n → Rep x false (n - m)) ∧ (n < m → Rep x true (m - n)) := by
  obtain ⟨i, rfl⟩ := h
  obtain ⟨j, rfl⟩ := k
  have hb : min (-(i : Int)) (-(j : Int)) = -((max i j : Nat) : Int) := by omega
  have e1 : (-(i : Int) - -((max i j : Nat) : Int)).toNat = max i j - i := by omega
  have e2 : (-(j : Int) - -((max i j : Nat) : Int)).toNat = max i j - j := by omega
  refine ⟨_, rfl, fun hle => ⟨max i j, ?_⟩, fun hlt => ⟨max i j, ?_⟩⟩
  all_goals
    rw [hb, e1, e2]
    simp only [signed, Bool.false_eq_true, if_false, Bool.not_false, if_true]
    rw [← Nat.shiftLeft_add, ← Nat.shiftLeft_add, show i + (max i j - i) = max i j from by omega, show j + (max i j - j) = max i j from by omega]
  · have hs := shl_sub n m (max i j) hle
    rw [show ((n <<< (max i j) : Nat) : Int) + -((m <<< (max i j) : Nat) : Int) = (((n - m) <<< (max i j) : Nat) : Int) from by omega]
    generalize (n - m) <<< (max i j) = z
    simp
  · have hs := shl_sub m n (max i j) (by omega)
    have hp := shl_pos (m - n) (max i j) (by omega)
    rw [show ((n <<< (max i j) : Nat) : Int) + -((m <<< (max i j) : Nat) : Int) = -(((m - n) <<< (max i j) : Nat) : Int) from by omega]
    generalize (m - n) <<< (max i j) = z at *
    rw [if_neg (by omega)]
    simp
    omega

theorem order_rep {d e : Datum} {s t : Bool} {n m : Nat} (h : Rep d s n) (k : Rep e t m) :
    d.order e = some (compare (if s then -(n : Int) else n) (if t then -(m : Int) else m)) := by
  obtain ⟨i, rfl⟩ := h
  obtain ⟨j, rfl⟩ := k
  have hb : min (-(i : Int)) (-(j : Int)) = -((max i j : Nat) : Int) := by omega
  have e1 : (-(i : Int) - -((max i j : Nat) : Int)).toNat = max i j - i := by omega
  have e2 : (-(j : Int) - -((max i j : Nat) : Int)).toNat = max i j - j := by omega
  simp only [Datum.order, hb, e1, e2]
  have hsg : ∀ (b : Bool) (x : Nat) (y : Nat), signed b (x <<< y) (max i j - y) = if b then -((x <<< (y + (max i j - y)) : Nat) : Int) else ((x <<< (y + (max i j - y)) : Nat) : Int) := by
    intro b x y
    simp only [signed, ← Nat.shiftLeft_add]
  rw [hsg, hsg, show i + (max i j - i) = max i j from by omega, show j + (max i j - j) = max i j from by omega]
  generalize max i j = K
  have key : ∀ (x : Nat), ((x <<< K : Nat) : Int) = (x : Int) * ((2 ^ K : Nat) : Int) := by intro x; rw [Nat.shiftLeft_eq]; simp
  have hp : (0 : Int) < ((2 ^ K : Nat) : Int) := by have := Nat.two_pow_pos K; omega
  generalize ((2 ^ K : Nat) : Int) = B at *
  have hcmp : ∀ x y : Int, compare (x * B) (y * B) = compare x y := by
    intro x y
    simp only [compare, compareOfLessAndEq]
    have h1 : x * B < y * B ↔ x < y := ⟨fun h => Int.lt_of_mul_lt_mul_right h (Int.le_of_lt hp), fun h => Int.mul_lt_mul_of_pos_right h hp⟩
    have h2 : x * B = y * B ↔ x = y := ⟨fun h => Int.eq_of_mul_eq_mul_right (by omega) h, fun h => by rw [h]⟩
    simp only [h1, h2]
  rw [key, key, ← hcmp (if s then -(n : Int) else n) (if t then -(m : Int) else m)]
  cases s <;> cases t <;> simp [Int.neg_mul]

theorem order_fl (s t : Bool) (n m : Nat) (hn : n < 2 ^ 53) (hm : m < 2 ^ 53) :
    double.order (fl s n) (fl t m) = some (compare (if s then -(n : Int) else n) (if t then -(m : Int) else m)) :=
  order_rep (read_fl s n hn) (read_fl t m hm)

theorem sub_fl (n m : Nat) (hn : n < 2 ^ 53) (hm : m < 2 ^ 53) : double.sub (fl false n) (fl false m) = some (if m ≤ n then fl false (n - m) else fl true (m - n)) := by
  obtain ⟨x, hx, h1, h2⟩ := diff_rep (read_fl false n hn) (read_fl false m hm)
  simp only [Format.sub, hx, Option.map_some]
  split
  · rename_i h; rw [write_rep (h1 h) (by omega)]
  · rename_i h; rw [write_rep (h2 (by omega)) (by omega)]

theorem cut_zero (s : Bool) (n k : Nat) : Toward.zero.cut s (n <<< k) k = n := by
  unfold Toward.cut
  by_cases h0 : n = 0
  · simp [h0]
  · have hmin : min k ((n <<< k).log2 + 2) = k := by rw [log2_shl n k h0]; omega
    simp only [hmin, Nat.one_shiftLeft]
    rw [Nat.shiftLeft_eq, Nat.mul_div_cancel _ (Nat.two_pow_pos k)]
    simp

theorem toInt_rep {d : Datum} {n : Nat} (h : Rep d false n) : d.toInt .zero = some (n : Int) := by
  obtain ⟨k, rfl⟩ := h
  simp only [Datum.toInt, Datum.integral]
  have e1 : (-(k : Int)).toNat = 0 := by omega
  have e2 : (- -(k : Int)).toNat = k := by omega
  rw [e1, e2, Nat.shiftLeft_zero, cut_zero]
  simp [signed]

theorem nearest_fl (n : Nat) : FloatKind.f64.nearest (n : Int) = fl false n := by
  simp only [FloatKind.nearest, FloatKind.encode, FloatKind.format, Format.write, fl]
  have : decide ((n : Int) < 0) = false := by simp
  rw [this]; simp

theorem fl_zero : fl false 0 = 0 := by decide +kernel

/-- max(0, all - may) in floats. -/
theorem run_max_fl {P : Program} (w : World) (ts : Array TypeId) (t : TypeId) (n m : Nat) (hn : n < 2 ^ 53) (hm : m < 2 ^ 53) :
    (Builtin.max_ ts t #[.float .f64 0, .float .f64 (if m ≤ n then fl false (n - m) else fl true (m - n))]).run P w = .ok (.float .f64 (fl false (n - m))) w := by
  have hd : ((FloatKind.f64.decode 0).neg) = false := by decide +kernel
  by_cases h : m ≤ n
  · by_cases h0 : n - m = 0
    · have ho : double.order 0 0 = some .eq := by decide +kernel
      simp [h, Builtin.max_, Builtin.max2, FloatKind.format, ho, hd, h0, fl_zero]
    · have ho : double.order 0 (fl false (n - m)) = some .lt := by
        have := order_fl false false 0 (n - m) (by decide) (by omega)
        rw [fl_zero] at this
        rw [this]; congr 1; rw [Int.compare_eq_lt]; simp; omega
      simp [h, Builtin.max_, Builtin.max2, FloatKind.format, ho]
  · have ho : double.order 0 (fl true (m - n)) = some .gt := by
      have := order_fl false true 0 (m - n) (by decide) (by omega)
      rw [fl_zero] at this
      rw [this]; congr 1; rw [Int.compare_eq_gt]; simp; omega
    have h0 : n - m = 0 := by omega
    simp [h, Builtin.max_, Builtin.max2, FloatKind.format, ho, h0, fl_zero]


theorem floatOfInt_fl (n : Nat) : floatOfInt .f64 (n : Int) = fl false n := nearest_fl n

theorem run_add_fl {P : Program} (t n m : Nat) (h : n + m < 2 ^ 53) (w : World) :
    (binOp .add t (.float .f64 (fl false n)) (.float .f64 (fl false m))).run P w = .ok (.float .f64 (fl false (n + m))) w := by
  simp [binOp, Op.floatArith, FloatKind.format, add_fl n m h]

theorem run_sub_fl {P : Program} (t n m : Nat) (hn : n < 2 ^ 53) (hm : m < 2 ^ 53) (w : World) :
    (binOp .sub t (.float .f64 (fl false n)) (.float .f64 (fl false m))).run P w = .ok (.float .f64 (if m ≤ n then fl false (n - m) else fl true (m - n))) w := by
  simp [binOp, Op.floatArith, FloatKind.format, sub_fl n m hn hm]

theorem order0 (n : Nat) (hn : n < 2 ^ 53) : double.order (fl false n) 0 = some (if n = 0 then .eq else .gt) := by
  have := order_fl false false n 0 hn (by decide)
  rw [fl_zero] at this
  rw [this]
  congr 1
  by_cases h : n = 0
  · subst h; rfl
  · rw [if_neg h, Int.compare_eq_gt]; simp; omega

theorem run_eql0_fl {P : Program} (t n : Nat) (hn : n < 2 ^ 53) (w : World) :
    (binOp .eql t (.float .f64 (fl false n)) (.float .f64 0)).run P w = .ok (.bool (n == 0)) w := by
  simp [binOp, Op.floatCmp, FloatKind.format, order0 n hn]
  by_cases h : n = 0 <;> simp [h]

theorem run_gtr0_fl {P : Program} (t n : Nat) (hn : n < 2 ^ 53) (w : World) :
    (binOp .gtr t (.float .f64 (fl false n)) (.float .f64 0)).run P w = .ok (.bool (decide (0 < n))) w := by
  simp [binOp, Op.floatCmp, FloatKind.format, order0 n hn]
  by_cases h : n = 0 <;> simp [h]
  omega


theorem run_cadd {P : Program} (t x y a b r i : Nat) (h1 : FloatKind.f64.format.add x a = some r) (h2 : FloatKind.f64.format.add y b = some i) (w : World) :
    (binOp .add t (.complex .f64 x y) (.complex .f64 a b)).run P w = .ok (.complex .f64 r i) w := by
  simp [binOp, Op.complexOp, Op.Complex.arith, Op.floatArith, h1, h2]

end Go.Fl
