/- ViewsScan's walk. Condition: the low key takes at most 2^47 bytes. -/
import Derived.Test.YtenocakpipppiaaS6
import Derived.Deep.DrawnRows
import Derived.IntWalk
namespace Go.Proofs.Ytenocakpipppiaa
open Go.RowKit Go.Shelf Go.Herb Go.Sort Go.Lib
attribute [local go_sem ↓] Go.wp_at_zero Go.wp_at_succ

abbrev av (ac : Option Addr) (nc cc : Nat) (at_ : Int) (on : Bool) (low high : ByteArray) (valid : Int) : Value := .agg #[.slice ac nc cc, .int .u64 at_, .bool on, .string low, .string high, .int .u32 valid]

set_option maxRecDepth 100000 in
theorem viewsScan_great (a : Option Addr) (cap : Nat) (xs : List Fc) (ac : Option Addr) (nc cc : Nat) (at_ : Int) (on : Bool) (low high : ByteArray) (valid : Int) (w : World) (hL : SlIn fc 6 w a cap xs) (hg : 120 < xs.length) :
    Calls Try.prog 7 #[.slice a xs.length cap, av ac nc cc at_ on low high valid] w fun e w' => e = .returned (.bool true) ∧ Below w.heap.size w w' := by
  have hd : (decide (120 < xs.length) || decide (40 < 0)) = true := by simp [hg]
  have HM := Lib.hid hL.lenle
  clear hL hg
  go_enter Try.func7, Try.ntmps7
  go_wp2_with fail
  refine (great17_any _ _ _ _ _ _ _ HM.out (by unfold maxLen; decide)).mono ?_
  rintro e w' ⟨rfl, rfl⟩
  rw [hd]
  go_wp2_with fail
  refine (livesV_any _).mono ?_
  rintro e w' ⟨rfl, hB⟩
  have HB := Lib.hid hB
  clear hB
  go_wp2
  go_ret
  exact ⟨rfl, ((Below.refl _ _).alloc (Nat.le_refl _) _).trans (HB.out.mono (by simp))⟩

abbrev encB (k : ByteArray) : Value := .string k
abbrev encN (n : Int) : Value := .int .i64 n
theorem encB_inj : ∀ a a', encB a = encB a' → a = a' := fun a a' h => by injection h

theorem len_mapN (W : World) (b : Nat) (es : Array MapEntry) (clock n : Nat) (hb : W.heap[b]? = some (.map es clock)) (hn : es.size = n) : (Builtin.len_ #[51] (3) #[.map (some b)]).run Try.prog W = .ok (.int .i64 n) W := by
  rw [run_len_map W (51) (3) b es clock (by kernel_rfl) hb, hn]
  rfl
theorem law9 : Maps.Keyed Try.prog 9 := Maps.string_keyed Try.underlying9
theorem key9 (s : ByteArray) (h : s.size ≤ maxLen) : ∃ kl, keyOf Try.prog 9 (.string s) = some kl :=
  ⟨.string s.data.toList, by rw [keyOf_string Try.underlying9]; simp [mapKey, Try.underlying9, h]⟩
theorem zero3 (w : World) : (zeroValue 3).run Try.prog w = .ok (.int .i64 0) w := by kernel_rfl

abbrev MapN (w : World) (b : Nat) (m : List (ByteArray × Int)) : Prop := MapIs Try.prog (9) encB encN w b m
/-- What is counted of the first i facts. -/
structure Counted (xs : List Fc) (low high : ByteArray) (valid : Int) (i : Nat) (m : List (ByteArray × Int)) : Prop where
  mem : ∀ k, k ∈ m.map (·.1) ↔ (∃ x ∈ xs.take i, x.key = k) ∧ many xs low high valid k = true
  bd : ∀ p ∈ m, 0 ≤ p.2 ∧ p.2 ≤ i
  len : m.length ≤ i

theorem Counted.zero (xs : List Fc) (low high : ByteArray) (valid : Int) : Counted xs low high valid 0 [] := ⟨fun k => by simp, by simp, by simp⟩
theorem Counted.skip {xs : List Fc} {low high : ByteArray} {valid : Int} {i : Nat} {m : List (ByteArray × Int)} (h : Counted xs low high valid i m) (hi : i < xs.length) (hx : many xs low high valid xs[i].key = false) : Counted xs low high valid (i + 1) m := by
  refine ⟨fun k => ?_, fun p hp => by have := h.bd p hp; omega, by have := h.len; omega⟩
  rw [h.mem, List.take_succ_eq_append_getElem hi]
  constructor
  · rintro ⟨⟨x, hx, e⟩, h2⟩; exact ⟨⟨x, List.mem_append.2 (.inl hx), e⟩, h2⟩
  · rintro ⟨⟨x, hx', e⟩, h2⟩
    refine ⟨?_, h2⟩
    rcases List.mem_append.1 hx' with h3 | h3
    · exact ⟨x, h3, e⟩
    · rw [List.mem_singleton.1 h3] at e
      rw [e, h2] at hx
      cases hx
theorem Counted.put {xs : List Fc} {low high : ByteArray} {valid : Int} {i : Nat} {m : List (ByteArray × Int)} (h : Counted xs low high valid i m) (hi : i < xs.length) (hx : many xs low high valid xs[i].key = true) (n : Int) (hn : 0 ≤ n ∧ n ≤ i + 1) : Counted xs low high valid (i + 1) (putL m xs[i].key n) := by
  refine ⟨fun k => ?_, fun p hp => ?_, by have := h.len; have := putL_length m xs[i].key n; omega⟩
  · rw [List.take_succ_eq_append_getElem hi]
    have key : k ∈ (putL m xs[i].key n).map (·.1) ↔ k ∈ m.map (·.1) ∨ k = xs[i].key := by
      rw [putL_keys]
      split
      · rename_i hin
        constructor
        · exact Or.inl
        · rintro (h1 | rfl)
          · exact h1
          · exact hin
      · rw [List.mem_append, List.mem_singleton]
    rw [key, h.mem]
    constructor
    · rintro (⟨⟨x, hx, e⟩, h2⟩ | rfl)
      · exact ⟨⟨x, List.mem_append.2 (.inl hx), e⟩, h2⟩
      · exact ⟨⟨xs[i], List.mem_append.2 (.inr (by simp)), rfl⟩, hx⟩
    · rintro ⟨⟨x, hx', e⟩, h2⟩
      rcases List.mem_append.1 hx' with h3 | h3
      · exact .inl ⟨⟨x, h3, e⟩, h2⟩
      · rw [List.mem_singleton.1 h3] at e; exact .inr e.symm
  · unfold putL at hp
    split at hp
    · obtain ⟨q, hq, e⟩ := List.mem_map.1 hp
      have := h.bd q hq
      split at e
      · rw [← e]; simp only; omega
      · rw [← e]; omega
    · rcases List.mem_append.1 hp with hp | hp
      · have := h.bd p hp; omega
      · rw [List.mem_singleton.1 hp]; simp only; omega

theorem run_neqP (x y : Pr) (w : World) : (binOp .neq 50 (.agg #[.string x.1, .string x.2]) (.agg #[.string y.1, .string y.2])).run Try.prog w = .ok (.bool (!(x.1.toList == y.1.toList && x.2.toList == y.2.toList))) w := by
  have hS : Try.prog.underlying 50 = some (.struct (Try.prog.fieldsOf 50)) := by kernel_rfl
  have hp : Try.prog.stoodInHeld 50 = false := by kernel_rfl
  rw [run_neq_struct, show (10000 : Nat) = 9999 + 1 from rfl, run_equalIn_agg w 9999 (50) _ _ hS hp]
  simp only [Program.fieldsOf, Try.underlying50]
  have u9 := Try.underlying9
  go_simp
  by_cases h1 : x.1.toList = y.1.toList <;> by_cases h2 : x.2.toList = y.2.toList <;> simp [h1, h2]
theorem guardP : Try.prog.eqGuardType Try.prog.depth 50 = false := by kernel_rfl

set_option maxRecDepth 100000 in
set_option maxHeartbeats 4000000 in
theorem viewsScan_small (a : Option Addr) (cap : Nat) (xs : List Fc) (ac : Option Addr) (nc cc : Nat) (at_ : Int) (on : Bool) (low high : ByteArray) (valid : Int) (w : World) (hL : SlIn fc 6 w a cap xs) (hg : ¬ 120 < xs.length) (hlo : low.size ≤ 140737488355328) :
    Calls Try.prog 7 #[.slice a xs.length cap, av ac nc cc at_ on low high valid] w fun e w' => e = .returned (.bool true) ∧ Below w.heap.size w w' := by
  have hd : (decide (120 < xs.length) || decide (40 < 0)) = false := by simp; omega
  have HX := Lib.hid (show xs.length < 1000 by omega)
  have HM := Lib.hid hL.lenle
  have HL := Lib.hid hL.els
  clear hL hg
  have hmm := @run_makeMap Try.prog
  go_enter Try.func7, Try.ntmps7
  go_wp2_with fail
  refine (great17_any _ _ _ _ _ _ _ HM.out (by unfold maxLen; decide)).mono ?_
  rintro e w' ⟨rfl, rfl⟩
  rw [hd]
  clear hd
  go_wp2_with fail
  obtain ⟨W, hW⟩ : ∃ W : World, W = w.alloc (.cells #[.slice ac nc cc, .int .u64 at_, .bool on, .string low, .string high, .int .u32 valid] 46) := ⟨_, rfl⟩
  have hBW : Below w.heap.size w W := by rw [hW]; exact (Below.refl _ _).alloc (Nat.le_refl _) _
  have hb0 : W.heap[w.heap.size]? = some (.cells #[.slice ac nc cc, .int .u64 at_, .bool on, .string low, .string high, .int .u32 valid] 46 (0, 0)) := by rw [hW]; exact blk_new_at rfl _
  rw [← hW]
  have hlW := lt_of_blk hb0
  have HBW := Lib.hid hBW
  have HB0 := Lib.hid hb0
  have hsc := scan_any a cap xs low high valid W (HL.out.ext hBW) (by have := HX.out; omega)
  have hmem : ∀ p ∈ scanV xs low high valid, betw low high p.1.toList = true ∧ valueL p.1 valid xs = (p.2, true) := fun p hp => scanV_mem hp
  have hlt := scanV_lt xs low high valid
  have hmany := fun m h1 h2 => many_len (view := xs) (low := low) (high := high) (valid := valid) (m := m) h1 h2
  have hpl : (scanV xs low high valid).length < 1000 := by
    have h1 := scanL_len xs low high valid (namedL (keysOf xs))
    have h2 := namedL_len (keysOf xs)
    have h3 : (keysOf xs).length = xs.length := by simp [keysOf]
    have := HX.out
    unfold scanV
    omega
  change Calls Try.prog 17 _ W (ScanPost (scanV xs low high valid) W) at hsc
  generalize scanV xs low high valid = ps at *
  have HMEM := Lib.hid hmem
  have HLT := Lib.hid hlt
  have HMANY := Lib.hid hmany
  have HPL := Lib.hid hpl
  clear hW hBW hb0 hmem hlt hmany hpl
  refine hsc.mono ?_
  rintro e w1 ⟨pa, rfl, hP, hpn, hB1⟩
  have hs1 := hB1.size
  have HP := Lib.hid hP
  have HB1 := Lib.hid (HBW.out.trans (hB1.mono HBW.out.size))
  have hb1 := blk_below HB0.out hB1 hlW
  have HT0 := Lib.hid hb1
  have HL1 := Lib.hid ((HL.out.ext HBW.out).ext hB1)
  have hl1 : w.heap.size < w1.heap.size := by omega
  clear hsc hP hpn hB1 hb1 HBW HB0 HL
  go_wp2_with fail
  go_loopg [6] ps.length (fun gk iv wr => ∃ i : Nat, i + gk = ps.length ∧ iv = .int .i64 i ∧ Below w1.heap.size w1 wr)
  case atStart => exact ⟨0, by omega, rfl, Below.refl _ _⟩
  case round =>
    obtain ⟨i, hi, rfl, hBi⟩ := hrel
    have HBI := Lib.hid hBi
    have hsi := hBi.size
    have hpl := HPL.out
    have hT := blk_below HT0.out hBi hl1
    have t3 := cell_of_blk hT 3
    have t4 := cell_of_blk hT 4
    have t5 := cell_of_blk hT 5
    simp at t3 t4 t5
    clear hBi hT
    have hlw : w.heap.size < wr.heap.size := by omega
    by_cases hilt : i < ps.length
    · obtain ⟨b, o, rfl, hlb, hcell⟩ := HP.out.get i hilt
      obtain ⟨hbt, hvl⟩ := HMEM.out ps[i] (List.getElem_mem hilt)
      have hi0 : (0 : Int) ≤ (i : Int) := by omega
      have hi1 : (i : Int) < (ps.length : Int) := by omega
      have hprev : 0 < i → ∃ q : Pr, w1.cell? ⟨b, o + (i - 1) * 2, none⟩ = some (.string q.1) ∧ q.1.toList < ps[i].1.toList := by
        intro h
        refine ⟨ps[i - 1], ?_, List.pairwise_iff_getElem.1 HLT.out (i - 1) i (by omega) hilt (by omega)⟩
        have := HP.out.at_ (i - 1) (by omega) 0 _ rfl
        simpa using this
      generalize ps[i] = p at *
      have c0 := (HBI.out.cell (p := ⟨b, _, none⟩) hlb).trans (hcell 0 _ rfl)
      have c1 := (HBI.out.cell (p := ⟨b, _, none⟩) hlb).trans (hcell 1 _ rfl)
      simp only [Nat.add_zero] at c0 c1
      have hlr : b < wr.heap.size := by omega
      have hval := value_any a cap xs p.1 valid wr.drew (HL1.out.ext HBI.out.drew) (by have := HX.out; omega)
      rw [hvl] at hval
      have HVAL := Lib.hid hval
      have hbt2 := hbt
      unfold betw at hbt2
      rw [Bool.and_eq_true, decide_eq_true_eq, decide_eq_true_eq] at hbt2
      have d1 : Op.bytesLess p.1.toList low.toList = false := by rw [bytesLess_eq]; exact decide_eq_false hbt2.1
      have hall : high.toList.isEmpty = true ∨ (high.toList.isEmpty = false ∧ Op.bytesLess p.1.toList high.toList = true) := by
        cases he : high.toList.isEmpty with
        | true => exact .inl rfl
        | false =>
          right
          refine ⟨rfl, ?_⟩
          rcases hbt2.2 with h | h
          · rw [h] at he; simp at he
          · rw [bytesLess_eq]; exact decide_eq_true h
      have HALL := Lib.hid hall
      have HPREV := Lib.hid hprev
      clear hcell hvl hval hbt hbt2 hall hprev
      go_wp2_with fail
      go_region_held3 (fun w' => w'.cell? ⟨b, o + i * 2, none⟩ = some (.string p.1) ∧ w'.cell? ⟨w.heap.size, 5, none⟩ = some (.int .u32 valid)) (go_keep)
        (first | (go_at_call 15; refine (HVAL.out).mono ?_; rintro e u ⟨rfl, hbu0⟩; have hbu : Below wr.heap.size wr u := (Below.refl _ _).drew.trans hbu0; clear hbu0; have q0 := (hbu.cell (p := ⟨b, o + i * 2, none⟩) hlr).trans c0; have q1 := (hbu.cell (p := ⟨w.heap.size, 5, none⟩) hlw).trans t5))
      rename_i hheld
      have HBU := Lib.hid (HBI.out.trans (hbu.mono hsi))
      have e0 := (hbu.cell (p := ⟨b, o + i * 2, none⟩) hlr).trans c0
      have e1 := (hbu.cell (p := ⟨b, o + i * 2 + 1, none⟩) hlr).trans c1
      have s3 := (hbu.cell (p := ⟨w.heap.size, 3, none⟩) hlw).trans t3
      have s4 := (hbu.cell (p := ⟨w.heap.size, 4, none⟩) hlw).trans t4
      clear hheld HVAL hbu q0 q1 c0 c1 t3 t4 t5
      by_cases hz : i = 0
      · have d5 : decide ((0 : Int) < (i : Int)) = false := decide_eq_false (by omega)
        have d5n : decide (0 < i) = false := decide_eq_false (by omega)
        clear hz
        rcases HALL.out with d2 | ⟨d2, d3⟩
        · go_wp2_with fail
          go_quiet (fail)
          go_wp2
          go_roundg (gk - 1)
          case measure => omega
          case rel => exact ⟨i + 1, by omega, by go_num, below_drewN HBU.out _⟩
        · go_wp2_with fail
          go_quiet (fail)
          go_wp2
          go_roundg (gk - 1)
          case measure => omega
          case rel => exact ⟨i + 1, by omega, by go_num, below_drewN HBU.out _⟩
      · obtain ⟨q, hq0, hq1⟩ := HPREV.out (by omega)
        have g0 := (HBU.out.cell (p := ⟨b, _, none⟩) hlb).trans hq0
        have d4 : Op.bytesLess q.1.toList p.1.toList = true := by rw [bytesLess_eq]; exact decide_eq_true hq1
        have d5 : decide ((0 : Int) < (i : Int)) = true := decide_eq_true (by omega)
        have d5n : decide (0 < i) = true := decide_eq_true (by omega)
        have hi2 : (0 : Int) ≤ (i : Int) - 1 := by omega
        have hi3 : (i : Int) - 1 < (ps.length : Int) := by omega
        have hw1 : IntKind.i64.wrap ((i : Int) - 1) = (i : Int) - 1 := IntWalk.i64_in _ (by omega)
        have hw2 : ((i : Int) - 1).toNat = i - 1 := by omega
        clear hq0 hq1 hz
        rcases HALL.out with d2 | ⟨d2, d3⟩
        · go_wp2_with fail
          go_quiet (fail)
          go_wp2
          go_roundg (gk - 1)
          case measure => omega
          case rel => exact ⟨i + 1, by omega, by go_num, below_drewN HBU.out _⟩
        · go_wp2_with fail
          go_quiet (fail)
          go_wp2
          go_roundg (gk - 1)
          case measure => omega
          case rel => exact ⟨i + 1, by omega, by go_num, below_drewN HBU.out _⟩
    · have HG := Lib.hid hilt
      go_wp2_with fail
      clear hilt hi t3 t4 t5 hlw
      obtain ⟨wo, hwo⟩ : ∃ wo : World, wo = wr := ⟨_, rfl⟩
      rw [← hwo]
      rw [← hwo] at HBI hsi
      clear hwo
      have hM0 := MapIs.made (P := Try.prog) (k := 9) (encK := encB) (encV := encN) wo
      have HM0 := Lib.hid hM0
      have hBm : Below w1.heap.size w1 (wo.alloc (.map #[] 0)) := HBI.out.alloc hsi _
      have HBM := Lib.hid hBm
      clear hM0 hBm
      go_loopg [10] xs.length (fun gk iv wr => ∃ (i : Nat) (m : List (ByteArray × Int)), i + gk = xs.length ∧ iv = .int .i64 i ∧ MapN wr wo.heap.size m ∧ Counted xs low high valid i m ∧ Below w1.heap.size w1 wr)
      case atStart => exact ⟨0, [], by omega, rfl, HM0.out, Counted.zero _ _ _ _, HBM.out⟩
      case round =>
        obtain ⟨i, m, hi, rfl, hM, hC, hBi⟩ := hrel
        have HBI := Lib.hid hBi
        have hsi' := hBi.size
        have hxb := HX.out
        have hT := blk_below HT0.out hBi hl1
        have t3 := cell_of_blk hT 3
        have t4 := cell_of_blk hT 4
        have t5 := cell_of_blk hT 5
        simp at t3 t4 t5
        clear hBi hT
        have hlw : w.heap.size < wr.heap.size := by omega
        by_cases hilt : i < xs.length
        · obtain ⟨b, o, rfl, hlb, hcell⟩ := HL1.out.get i hilt
          have hi0 : (0 : Int) ≤ (i : Int) := by omega
          have hi1 : (i : Int) < (xs.length : Int) := by omega
          have hskip := hC.skip hilt
          have hput := hC.put hilt
          obtain ⟨kl, hkl⟩ := key9 xs[i].key xs[i].wk
          have hml := hC.len
          have HBD := Lib.hid hC.bd
          generalize xs[i] = x at *
          have c0 := (HBI.out.cell (p := ⟨b, _, none⟩) hlb).trans (hcell 0 _ rfl)
          simp only [Nat.add_zero] at c0
          have hlr : b < wr.heap.size := by omega
          have hval := value_any (some ⟨b, o, none⟩) cap xs x.key valid wr (HL1.out.ext HBI.out) (by omega)
          have HVAL := Lib.hid hval
          have HM := Lib.hid hM
          have HSKIP := Lib.hid hskip
          have HPUT0 := Lib.hid hput
          clear hcell hval hM hC hskip hput
          go_wp2_with fail
          refine (HVAL.out).mono ?_
          rintro e u ⟨rfl, hbu⟩
          have HBU := Lib.hid (HBI.out.trans (hbu.mono hsi'))
          have hsu : w1.heap.size ≤ u.heap.size := HBU.out.size
          have s3 := (hbu.cell (p := ⟨w.heap.size, 3, none⟩) hlw).trans t3
          have s4 := (hbu.cell (p := ⟨w.heap.size, 4, none⟩) hlw).trans t4
          have hMu : MapN u wo.heap.size m := HM.out.same (hbu.block _ HM.out.lt)
          have hmb : w1.heap.size ≤ wo.heap.size := hsi
          have hlook := (hMu.look law9 encB_inj Try.underlying51 (zero3 _) hkl).1
          have HMU := Lib.hid hMu
          clear hbu t3 t4 t5 c0 HVAL HM hMu
          cases hmy : many xs low high valid x.key with
          | true =>
            have HPUT := Lib.hid (HPUT0.out hmy)
            clear HPUT0 HSKIP
            have hmy' := hmy
            unfold many betw at hmy'
            rw [Bool.and_eq_true, Bool.and_eq_true, decide_eq_true_eq, decide_eq_true_eq] at hmy'
            obtain ⟨g1, g2, g3⟩ := hmy'
            have d1 : Op.bytesLess x.key.toList low.toList = false := by rw [bytesLess_eq]; exact decide_eq_false g2
            have hall : high.toList.isEmpty = true ∨ (high.toList.isEmpty = false ∧ Op.bytesLess x.key.toList high.toList = true) := by
              cases he : high.toList.isEmpty with
              | true => exact .inl rfl
              | false =>
                right
                refine ⟨rfl, ?_⟩
                rcases g3 with h | h
                · rw [h] at he; simp at he
                · rw [bytesLess_eq]; exact decide_eq_true h
            generalize valueL x.key valid xs = r at *
            obtain ⟨rv, rb⟩ := r
            simp only at g1
            subst g1
            clear hmy g2 g3
            rcases hall with d2 | ⟨d2, d3⟩
            · cases hg : getL m x.key with
              | none =>
                rw [hg] at hlook
                obtain ⟨w3, hrun, hM3, hg3, hs3⟩ := HMU.out.store law9 encB_inj Try.underlying51 (by have := hml; unfold maxLen; omega) (1 : Int) hkl
                have HM3 := Lib.hid hM3
                have HB3 := Lib.hid (HBU.out.grown hg3 hsu (fun k e => by cases e; exact hmb))
                have HC3 := Lib.hid (HPUT.out 1 (by omega))
                clear hg hM3 hg3 hs3
                go_wp2
                go_roundg (gk - 1)
                case measure => omega
                case rel => exact ⟨i + 1, _, by omega, by go_num, HM3.out, HC3.out, HB3.out⟩
              | some n =>
                rw [hg] at hlook
                have hnb := HBD.out _ ((getL_some HMU.out.nodup).1 hg)
                obtain ⟨w3, hrun, hM3, hg3, hs3⟩ := HMU.out.store law9 encB_inj Try.underlying51 (by have := hml; unfold maxLen; omega) (n + 1) hkl
                have hn0 : 0 ≤ n := hnb.1
                have hn1 : n ≤ i := hnb.2
                have HM3 := Lib.hid hM3
                have HB3 := Lib.hid (HBU.out.grown hg3 hsu (fun k e => by cases e; exact hmb))
                have HC3 := Lib.hid (HPUT.out (n + 1) (by omega))
                clear hg hnb hM3 hg3 hs3
                go_wp2
                go_roundg (gk - 1)
                case measure => omega
                case rel => exact ⟨i + 1, _, by omega, by go_num, HM3.out, HC3.out, HB3.out⟩
            · cases hg : getL m x.key with
              | none =>
                rw [hg] at hlook
                obtain ⟨w3, hrun, hM3, hg3, hs3⟩ := HMU.out.store law9 encB_inj Try.underlying51 (by have := hml; unfold maxLen; omega) (1 : Int) hkl
                have HM3 := Lib.hid hM3
                have HB3 := Lib.hid (HBU.out.grown hg3 hsu (fun k e => by cases e; exact hmb))
                have HC3 := Lib.hid (HPUT.out 1 (by omega))
                clear hg hM3 hg3 hs3
                go_wp2
                go_roundg (gk - 1)
                case measure => omega
                case rel => exact ⟨i + 1, _, by omega, by go_num, HM3.out, HC3.out, HB3.out⟩
              | some n =>
                rw [hg] at hlook
                have hnb := HBD.out _ ((getL_some HMU.out.nodup).1 hg)
                obtain ⟨w3, hrun, hM3, hg3, hs3⟩ := HMU.out.store law9 encB_inj Try.underlying51 (by have := hml; unfold maxLen; omega) (n + 1) hkl
                have hn0 : 0 ≤ n := hnb.1
                have hn1 : n ≤ i := hnb.2
                have HM3 := Lib.hid hM3
                have HB3 := Lib.hid (HBU.out.grown hg3 hsu (fun k e => by cases e; exact hmb))
                have HC3 := Lib.hid (HPUT.out (n + 1) (by omega))
                clear hg hnb hM3 hg3 hs3
                go_wp2
                go_roundg (gk - 1)
                case measure => omega
                case rel => exact ⟨i + 1, _, by omega, by go_num, HM3.out, HC3.out, HB3.out⟩
          | false =>
            have HSK := Lib.hid (HSKIP.out hmy)
            clear HPUT0 HSKIP
            have hmy' := hmy
            unfold many betw at hmy'
            have hall : (valueL x.key valid xs).2 = false ∨ ((valueL x.key valid xs).2 = true ∧ Op.bytesLess x.key.toList low.toList = true) ∨ ((valueL x.key valid xs).2 = true ∧ Op.bytesLess x.key.toList low.toList = false ∧ high.toList.isEmpty = false ∧ Op.bytesLess x.key.toList high.toList = false) := by
              cases hv : (valueL x.key valid xs).2 with
              | false => exact .inl rfl
              | true =>
                right
                rw [hv, Bool.true_and] at hmy'
                by_cases h1 : x.key.toList < low.toList
                · exact .inl ⟨rfl, by rw [bytesLess_eq]; exact decide_eq_true h1⟩
                · right
                  have h2 : ¬ (high.toList = [] ∨ x.key.toList < high.toList) := by
                    intro h2
                    rw [decide_eq_true h1, decide_eq_true h2] at hmy'
                    cases hmy'
                  refine ⟨rfl, by rw [bytesLess_eq]; exact decide_eq_false h1, ?_, by rw [bytesLess_eq]; exact decide_eq_false (fun h => h2 (.inr h))⟩
                  cases he : high.toList with
                  | nil => exact absurd (.inl he) h2
                  | cons y l => rfl
            generalize valueL x.key valid xs = r at *
            obtain ⟨rv, rb⟩ := r
            simp only at hall
            clear hmy hmy' hlook
            rcases hall with rfl | ⟨rfl, d1⟩ | ⟨rfl, d1, d2, d3⟩
            · go_wp2
              go_roundg (gk - 1)
              case measure => omega
              case rel => exact ⟨i + 1, m, by omega, by go_num, HMU.out, HSK.out, HBU.out⟩
            · go_wp2
              go_roundg (gk - 1)
              case measure => omega
              case rel => exact ⟨i + 1, m, by omega, by go_num, HMU.out, HSK.out, HBU.out⟩
            · go_wp2
              go_roundg (gk - 1)
              case measure => omega
              case rel => exact ⟨i + 1, m, by omega, by go_num, HMU.out, HSK.out, HBU.out⟩
        · have hie : i = xs.length := by omega
          subst hie
          have hmlen : m.length = ps.length := by
            refine HMANY.out m hM.nodup (fun k => ?_)
            have := hC.mem k
            rw [List.take_length] at this
            exact this
          obtain ⟨es, clock, hheap, -, hes⟩ := hM.blk
          have hesl : es.size = ps.length := by
            have := congrArg List.length hes
            simp at this
            omega
          have HES := Lib.hid hesl
          have HHEAP := Lib.hid hheap
          have hmlt := hM.lt
          have H1 := Lib.hid (HL1.out.ext HBI.out)
          clear hM hC hmlen hes hesl hheap
          have hsc2 := scan_any a cap xs low (lowZ low) valid wr H1.out (by omega)
          change Calls Try.prog 17 _ wr (ScanPost (scanV xs low (lowZ low) valid) wr) at hsc2
          rw [scan_one] at hsc2
          have hval := fun W h => value_any a cap xs low valid W h (by have := HX.out; omega)
          generalize valueL low valid xs = r at *
          obtain ⟨rv, rb⟩ := r
          cases rb with
          | true =>
            simp only [if_true] at hsc2
            have HSC := Lib.hid hsc2
            have HVAL := Lib.hid hval
            clear hsc2 hval
            go_wp2_with fail
            refine (HSC.out).mono ?_
            rintro e w2 ⟨oa, rfl, hO, -, hB2⟩
            obtain ⟨b, o, rfl, hlb, hcell⟩ := hO.get 0 (by simp)
            have hs2 := hB2.size
            have HBD2 := Lib.hid (HBI.out.trans (hB2.mono hsi'))
            have s3 := (hB2.cell (p := ⟨w.heap.size, 3, none⟩) hlw).trans t3
            have s5 := (hB2.cell (p := ⟨w.heap.size, 5, none⟩) hlw).trans t5
            have HH2 := Lib.hid (blk_below HHEAP.out hB2 hmlt)
            have HV := Lib.hid (HVAL.out w2 (H1.out.ext hB2))
            have hlw2 : w.heap.size < w2.heap.size := by omega
            have hml2 : wo.heap.size < w2.heap.size := by omega
            have k0 := hcell 0 _ rfl
            have k1 := hcell 1 _ rfl
            simp only [Nat.zero_mul, Nat.add_zero] at k0 k1
            have K0 := Lib.hid k0
            have K1 := Lib.hid k1
            clear hO hB2 t3 t4 t5 HSC HVAL hcell k0 k1
            go_wp2_with fail
            refine (HV.out).mono ?_
            rintro e w3 ⟨rfl, hB3⟩
            have k0 := (hB3.cell (p := ⟨b, o, none⟩) hlb).trans K0.out
            have k1 := (hB3.cell (p := ⟨b, o + 1, none⟩) hlb).trans K1.out
            have r3 := (hB3.cell (p := ⟨w.heap.size, 3, none⟩) hlw2).trans s3
            have HBD3' := Lib.hid (HBD2.out.trans (hB3.mono HBD2.out.size))
            have HH3 := Lib.hid (blk_below HH2.out hB3 hml2)
            have hneq := run_neqP (low, rv) (low, rv)
            simp only [beq_self_eq_true, Bool.and_self, Bool.not_true] at hneq
            have hgt := guardP
            clear hB3 s3 s5 HV
            go_wp2_with fail
            go_quiet (fail)
            have HBD3 := Lib.hid (below_drewN HBD3'.out nq)
            have HHEAPW : Hid ((w3.drewN nq).heap[wo.heap.size]? = some (.map es clock)) := Lib.hid HH3.out
            clear k0 k1 r3 hneq hgt
            have hlenW := len_mapN _ _ es clock ps.length HHEAPW.out HES.out
            go_wp2_with fail
            refine (livesV_any _).mono ?_
            rintro e w5 ⟨rfl, hB5⟩
            have HB5 := Lib.hid (HBD3.out.trans (hB5.mono HBD3.out.size))
            clear hB5 hlenW
            go_wp2
            go_ret
            exact ⟨rfl, HB1.out.trans (HB5.out.mono HB1.out.size)⟩
          | false =>
            simp only [Bool.false_eq_true, if_false] at hsc2
            have HSC := Lib.hid hsc2
            have HVAL := Lib.hid hval
            clear hsc2 hval
            go_wp2_with fail
            refine (HSC.out).mono ?_
            rintro e w2 ⟨oa, rfl, hO, -, hB2⟩
            have hs2 := hB2.size
            have HBD2 := Lib.hid (HBI.out.trans (hB2.mono hsi'))
            have s3 := (hB2.cell (p := ⟨w.heap.size, 3, none⟩) hlw).trans t3
            have s5 := (hB2.cell (p := ⟨w.heap.size, 5, none⟩) hlw).trans t5
            have HH2 := Lib.hid (blk_below HHEAP.out hB2 hmlt)
            have HV := Lib.hid (HVAL.out w2 (H1.out.ext hB2))
            have hml2 : wo.heap.size < w2.heap.size := by omega
            clear hO hB2 t3 t4 t5 HSC HVAL
            go_wp2_with fail
            refine (HV.out).mono ?_
            rintro e w3 ⟨rfl, hB3⟩
            have HBD3' := Lib.hid (HBD2.out.trans (hB3.mono HBD2.out.size))
            have HH3 := Lib.hid (blk_below HH2.out hB3 hml2)
            clear hB3 s3 s5 HV
            go_wp2_with fail
            go_quiet (fail)
            have HBD3 := Lib.hid (below_drewN HBD3'.out nq)
            have HHEAPW : Hid ((w3.drewN nq).heap[wo.heap.size]? = some (.map es clock)) := Lib.hid HH3.out
            have hlenW := len_mapN _ _ es clock ps.length HHEAPW.out HES.out
            go_wp2_with fail
            refine (livesV_any _).mono ?_
            rintro e w5 ⟨rfl, hB5⟩
            have HB5 := Lib.hid (HBD3.out.trans (hB5.mono HBD3.out.size))
            clear hB5 hlenW
            go_wp2
            go_ret
            exact ⟨rfl, HB1.out.trans (HB5.out.mono HB1.out.size)⟩

theorem viewsScan_any (a : Option Addr) (cap : Nat) (xs : List Fc) (ac : Option Addr) (nc cc : Nat) (at_ : Int) (on : Bool) (low high : ByteArray) (valid : Int) (w : World) (hL : SlIn fc 6 w a cap xs) (hlo : low.size ≤ 140737488355328) :
    Calls Try.prog 7 #[.slice a xs.length cap, av ac nc cc at_ on low high valid] w fun e w' => e = .returned (.bool true) ∧ Below w.heap.size w w' := by
  by_cases hg : 120 < xs.length
  · exact viewsScan_great a cap xs ac nc cc at_ on low high valid w hL hg
  · exact viewsScan_small a cap xs ac nc cc at_ on low high valid w hL hg hlo
end Go.Proofs.Ytenocakpipppiaa
