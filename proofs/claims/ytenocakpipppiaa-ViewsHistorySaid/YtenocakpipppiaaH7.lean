/- ViewsHistory's walk. No condition. -/
import Derived.Test.YtenocakpipppiaaH6
import Derived.Test.YtenocakpipppiaaV9
namespace Go.Proofs.Ytenocakpipppiaa
open Go.RowKit Go.Shelf Go.Herb
attribute [local go_sem ↓] Go.wp_at_zero Go.wp_at_succ

def sameE (x y : Fc) : Bool := x.valid == y.valid && x.seq == y.seq && x.kind == y.kind && x.val.toList == y.val.toList
theorem sameE_refl (x : Fc) : sameE x x = true := by simp [sameE]

theorem run_eqlE (x y : Fc) (w : World) : (binOp .eql 43 (.agg #[.int .u32 x.valid, .int .u64 x.seq, .int .u8 x.kind, .string x.val]) (.agg #[.int .u32 y.valid, .int .u64 y.seq, .int .u8 y.kind, .string y.val])).run Try.prog w = .ok (.bool (sameE x y)) w := by
  have hS : Try.prog.underlying 43 = some (.struct (Try.prog.fieldsOf 43)) := by kernel_rfl
  have hp : Try.prog.stoodInHeld 43 = false := by kernel_rfl
  rw [run_eql_struct, show (10000 : Nat) = 9999 + 1 from rfl, run_equalIn_agg w 9999 43 _ _ hS hp]
  simp only [Program.fieldsOf, Try.underlying43]
  have u0 := Try.underlying31
  have u1 := Try.underlying24
  have u2 := Try.underlying32
  have u3 := Try.underlying9
  unfold sameE
  go_simp
  by_cases h0 : x.valid = y.valid <;> by_cases h1 : x.seq = y.seq <;> by_cases h2 : x.kind = y.kind <;> by_cases h3 : x.val.toList = y.val.toList <;> simp [h0, h1, h2, h3]
theorem guardE : Try.prog.eqGuardType Try.prog.depth 43 = false := by kernel_rfl

theorem any_succE (hs : List Fc) (y : Fc) (i : Nat) (h : i < hs.length) : (hs.take (i + 1)).any (fun x => sameE x y) = ((hs.take i).any (fun x => sameE x y) || sameE hs[i] y) := by
  rw [List.take_succ_eq_append_getElem h, List.any_append]
  simp

theorem keyCount_step (vs : List Fc) (key : ByteArray) (j : Nat) (h : j < vs.length) : (vs.drop j).countP (fun x => decide (x.key.toList = key.toList)) = (vs.drop (j + 1)).countP (fun x => decide (x.key.toList = key.toList)) + if vs[j].key.toList = key.toList then 1 else 0 := by
  rw [List.drop_eq_getElem_cons h, List.countP_cons]
  by_cases hk : vs[j].key.toList = key.toList <;> simp [hk]

theorem keyCount_le (vs : List Fc) (key : ByteArray) (j : Nat) : (vs.drop j).countP (fun x => decide (x.key.toList = key.toList)) ≤ vs.length :=
  Nat.le_trans List.countP_le_length (by simp)

set_option maxRecDepth 100000 in
theorem viewsHistory_great (a : Option Addr) (cap : Nat) (xs : List Fc) (ac : Option Addr) (cc : Nat) (cs : List Lk) (at_ : Int) (on : Bool) (key : ByteArray) (w : World) (hL : SlIn fc 6 w a cap xs) (hC : SlIn lc 2 w ac cc cs) (hg : 120 < xs.length ∨ 40 < cs.length) :
    Calls Try.prog 6 #[.slice a xs.length cap, .agg #[.slice ac cs.length cc, .int .u64 at_, .bool on], .string key] w fun e w' => e = .returned (.bool true) ∧ Below w.heap.size w w' := by
  have HM := Lib.hid hL.lenle
  have HN := Lib.hid hC.lenle
  have HD := Lib.hid (great_wide hg)
  clear hL hC hg
  go_enter Try.func6, Try.ntmps6
  go_wp2_with fail
  refine (great17_any _ _ _ _ _ _ _ HM.out HN.out).mono ?_
  rintro e w' ⟨rfl, rfl⟩
  rw [HD.out]
  go_wp2_with fail
  refine (livesV_any _).mono ?_
  rintro e w' ⟨rfl, hB⟩
  have HB := Lib.hid hB
  clear hB
  go_wp2
  go_ret
  exact ⟨rfl, ((Below.refl _ _).alloc (Nat.le_refl _) _).trans (HB.out.mono (by simp))⟩

set_option maxRecDepth 100000 in
set_option maxHeartbeats 4000000 in
theorem viewsHistory_small (a : Option Addr) (cap : Nat) (xs : List Fc) (ac : Option Addr) (cc : Nat) (cs : List Lk) (at_ : Int) (on : Bool) (key : ByteArray) (w : World) (hL : SlIn fc 6 w a cap xs) (hC : SlIn lc 2 w ac cc cs) (hg : ¬ (120 < xs.length ∨ 40 < cs.length)) (hk : key.size ≤ maxLen) :
    Calls Try.prog 6 #[.slice a xs.length cap, .agg #[.slice ac cs.length cc, .int .u64 at_, .bool on], .string key] w fun e w' => e = .returned (.bool true) ∧ Below w.heap.size w w' := by
  have HX := Lib.hid (show xs.length < 1000 by omega)
  have HY := Lib.hid (show cs.length < 1000 by omega)
  have HM := Lib.hid hL.lenle
  have HN := Lib.hid hC.lenle
  have HD := Lib.hid (great_not hg)
  have HL := Lib.hid hL.els
  have HC := Lib.hid hC.els
  clear hL hC hg
  go_enter Try.func6, Try.ntmps6
  go_wp2_with fail
  refine (great17_any _ _ _ _ _ _ _ HM.out HN.out).mono ?_
  rintro e w' ⟨rfl, rfl⟩
  rw [HD.out]
  clear HD
  obtain ⟨W, hW⟩ : ∃ W : World, W = w.alloc (.cells #[.slice ac cs.length cc, .int .u64 at_, .bool on] 26) := ⟨_, rfl⟩
  have hBW : Below w.heap.size w W := by rw [hW]; exact (Below.refl _ _).alloc (Nat.le_refl _) _
  have hb0 : W.heap[w.heap.size]? = some (.cells #[.slice ac cs.length cc, .int .u64 at_, .bool on] 26 (0, 0)) := by rw [hW]; exact blk_new_at rfl _
  rw [← hW]
  have hlW := lt_of_blk hb0
  have t0 := cell_of_blk hb0 0
  have t1 := cell_of_blk hb0 1
  have t2 := cell_of_blk hb0 2
  simp at t0 t1 t2
  have HBW := Lib.hid hBW
  have HB0 := Lib.hid hb0
  clear hW hBW hb0
  go_wp2_with fail
  clear t0 t1 t2
  refine (history_any a cap xs ac cc cs at_ on key W (HL.out.ext HBW.out) (HC.out.ext HBW.out) (by have := HX.out; omega) (by have := HY.out; omega) hk).mono ?_
  rintro e w1 ⟨ah, hs, rfl, hP, hS, hE, hn, hB1⟩
  have hb1 := blk_below HB0.out hB1 hlW
  have t0 := cell_of_blk hb1 0
  have t1 := cell_of_blk hb1 1
  simp at t0 t1
  have hl1 := lt_of_blk hb1
  have HP := Lib.hid hP
  have HS := Lib.hid hS
  have HE := Lib.hid hE
  have HT1 := Lib.hid hb1
  have HB1 := Lib.hid (HBW.out.trans (hB1.mono HBW.out.size))
  have HL1 := Lib.hid ((HL.out.ext HBW.out).ext hB1)
  have HC1 := Lib.hid ((HC.out.ext HBW.out).ext hB1)
  clear hP hS hE hb1 hB1 HL HC HB0
  go_wp2_with fail
  clear t0 t1
  refine (viewsOf_any a cap xs ac cc cs at_ w1 HL1.out HC1.out (by have := HX.out; omega) (by have := HY.out; omega)).mono ?_
  rintro e w2 ⟨av, vs, rfl, hV, hVs, hF, hvn, hB2⟩
  have hb2 := blk_below HT1.out hB2 hl1
  have hl2 := lt_of_blk hb2
  have HV := Lib.hid hV
  have HF := Lib.hid hF
  have HT2 := Lib.hid hb2
  have HB2 := Lib.hid (HB1.out.trans (hB2.mono HB1.out.size))
  have HE2 := Lib.hid (HE.out.ext hB2)
  have hvl : vs.length < 1000 := by
    have h1 := hV.length_eq
    have h2 : (seenL xs cs at_).length ≤ xs.length := List.length_filter_le _ _
    have h3 := lastM_len (seenL xs cs at_)
    have h4 := HX.out
    have h5 : (lastL (seenL xs cs at_)).length = (lastM (seenL xs cs at_)).length := List.length_map _
    omega
  have HVL := Lib.hid hvl
  clear hV hVs hF hvn hb2 hB2 HE HT1 HL1 HC1 hvl
  go_wp2_with fail
  have hfall := hist_falls (key := key) (at_ := at_) (xs := xs) (cs := cs) HP.out HS.out
  have HFALL := Lib.hid hfall
  have hhl : hs.length < 3000 := by
    have h1 := HP.out.length_eq
    have h2 := hist_len key at_ (seenL xs cs 18446744073709551615)
    have h3 : (seenL xs cs 18446744073709551615).length ≤ xs.length := List.length_filter_le _ _
    have h4 := lastM_len (oldF key at_ (seenL xs cs 18446744073709551615))
    have h5 := HX.out
    rw [List.length_append, List.length_map] at h1
    omega
  have HHL := Lib.hid hhl
  clear hfall hhl
  go_loopg [9, 10] hs.length (fun gk ov iv wr => ∃ k : Nat, k + gk = hs.length ∧ iv = .int .i64 k ∧ ov = .int .i64 ((hs.take k).countP (fun x => decide (x.seq ≤ at_)) : Nat) ∧ Below w2.heap.size w2 wr)
  case atStart => exact ⟨0, by omega, rfl, rfl, Below.refl _ _⟩
  case round =>
    obtain ⟨k, hk, rfl, rfl, hBw⟩ := hrel
    have hT := blk_below HT2.out hBw hl2
    have t1 := cell_of_blk hT 1
    simp at t1
    have HBR := Lib.hid hBw
    have hsr := hBw.size
    have hhb := HHL.out
    clear hBw hT
    by_cases hlt : k < hs.length
    · obtain ⟨b, o, rfl, hlb, hcell⟩ := HE2.out.get k hlt
      have hsn : (hs.take (k + 1)).countP (fun x => decide (x.seq ≤ at_)) = (hs.take k).countP (fun x => decide (x.seq ≤ at_)) + if hs[k].seq ≤ at_ then 1 else 0 := by
        rw [List.take_succ_eq_append_getElem hlt, List.countP_append]
        by_cases h : hs[k].seq ≤ at_ <;> simp [h]
      have hcl : (hs.take k).countP (fun x => decide (x.seq ≤ at_)) ≤ k := Nat.le_trans List.countP_le_length (by simp; omega)
      have e0 := (HBR.out.cell (p := ⟨b, _, none⟩) hlb).trans (hcell 0 _ rfl)
      have e1 := (HBR.out.cell (p := ⟨b, _, none⟩) hlb).trans (hcell 1 _ rfl)
      simp only [Nat.add_zero] at e0 e1
      have hprev : ∀ j, j + 1 = k → ∃ y : Fc, wr.cell? ⟨b, o + j * 4, none⟩ = some (.int .u32 y.valid) ∧ wr.cell? ⟨b, o + j * 4 + 1, none⟩ = some (.int .u64 y.seq) ∧ ¬ (y.valid < hs[k].valid) ∧ ¬ (y.valid = hs[k].valid ∧ y.seq ≤ hs[k].seq) := by
        intro j hj
        have hcj : ∀ i c, (ec (hs[j]'(by omega)))[i]? = some c → w2.cell? ⟨b, o + j * 4 + i, none⟩ = some c := fun i c hi => HE2.out.at_ j (by omega) i c hi
        have h0 := (HBR.out.cell (p := ⟨b, _, none⟩) hlb).trans (hcj 0 _ rfl)
        have h1 := (HBR.out.cell (p := ⟨b, _, none⟩) hlb).trans (hcj 1 _ rfl)
        have h2 := List.pairwise_iff_getElem.1 HFALL.out j k (by omega) hlt (by omega)
        exact ⟨_, h0, h1, h2.1, h2.2⟩
      have HSN := Lib.hid hsn
      have HPV := Lib.hid hprev
      generalize (hs.take k).countP (fun x => decide (x.seq ≤ at_)) = cnt at *
      generalize hs[k] = x at *
      have hk0 : (0 : Int) ≤ (k : Int) := by omega
      have hk1 : (k : Int) < (hs.length : Int) := by omega
      have hw2 : IntKind.i64.wrap ((cnt : Int) + 1) = (cnt : Int) + 1 := IntWalk.i64_in _ (by omega)
      clear hsn hprev hcell
      have d0k : IntKind.i64.wrap ((k : Int) + 1) = (k : Int) + 1 := IntWalk.i64_in _ (by omega)
      by_cases hz : k = 0
      · have dz : decide ((0 : Int) < (k : Int)) = false := decide_eq_false (by omega)
        have dn : decide (0 < k) = false := decide_eq_false (by omega)
        have dp : ¬ (0 < k) := by omega
        clear hz
        by_cases hq : x.seq ≤ at_
        · have hq2 : decide (x.seq ≤ at_) = true := decide_eq_true hq
          have hs2 := HSN.out
          rw [if_pos hq] at hs2
          have HS2 := Lib.hid hs2
          clear hs2
          go_wp2_with fail
          go_quiet (fail)
          have e1q : (wr.drewN nq).cell? ⟨b, o + k * 4 + 1, none⟩ = some (.int .u64 x.seq) := (below_drewN (Below.refl _ wr) nq).cell (p := ⟨b, o + k * 4 + 1, none⟩) (by show b < wr.heap.size; omega) |>.trans e1
          have t1q : (wr.drewN nq).cell? ⟨w.heap.size, 1, none⟩ = some (.int .u64 at_) := (below_drewN (Below.refl _ wr) nq).cell (p := ⟨w.heap.size, 1, none⟩) (by show w.heap.size < wr.heap.size; omega) |>.trans t1
          have HBQ := Lib.hid (below_drewN HBR.out nq)
          generalize wr.drewN nq = wq at *
          clear e0 e1 t1
          go_wp2_with fail
          go_quiet (fail)
          go_wp2_with fail
          go_roundg (gk - 1)
          case measure => omega
          case rel => exact ⟨k + 1, by omega, by go_num, by rw [HS2.out]; go_num, below_drewN HBQ.out _⟩
        · have hq2 : decide (x.seq ≤ at_) = false := decide_eq_false hq
          have hs2 := HSN.out
          rw [if_neg hq] at hs2
          have HS2 := Lib.hid hs2
          clear hs2
          go_wp2_with fail
          go_quiet (fail)
          have e1q : (wr.drewN nq).cell? ⟨b, o + k * 4 + 1, none⟩ = some (.int .u64 x.seq) := (below_drewN (Below.refl _ wr) nq).cell (p := ⟨b, o + k * 4 + 1, none⟩) (by show b < wr.heap.size; omega) |>.trans e1
          have t1q : (wr.drewN nq).cell? ⟨w.heap.size, 1, none⟩ = some (.int .u64 at_) := (below_drewN (Below.refl _ wr) nq).cell (p := ⟨w.heap.size, 1, none⟩) (by show w.heap.size < wr.heap.size; omega) |>.trans t1
          have HBQ := Lib.hid (below_drewN HBR.out nq)
          generalize wr.drewN nq = wq at *
          clear e0 e1 t1
          go_wp2_with fail
          go_quiet (fail)
          go_wp2_with fail
          go_roundg (gk - 1)
          case measure => omega
          case rel => exact ⟨k + 1, by omega, by go_num, by rw [HS2.out]; rfl, below_drewN HBQ.out _⟩
      · obtain ⟨j, hj⟩ : ∃ j, j + 1 = k := ⟨k - 1, by omega⟩
        obtain ⟨y, p0, p1, hy1, hy2⟩ := HPV.out j hj
        have dz : decide ((0 : Int) < (k : Int)) = true := decide_eq_true (by omega)
        have dn : decide (0 < k) = true := decide_eq_true (by omega)
        have dp : 0 < k := by omega
        have hkj : IntKind.i64.wrap ((k : Int) - 1) = (j : Int) := by rw [show (k : Int) - 1 = (j : Int) from by omega]; exact IntWalk.i64_in _ (by omega)
        have hj0 : (0 : Int) ≤ (j : Int) := by omega
        have hj1 : (j : Int) < (hs.length : Int) := by omega
        have d1 : decide (y.valid < x.valid) = false := decide_eq_false hy1
        clear HPV hj hz
        by_cases hv : y.valid = x.valid
        · have d2 : decide (y.valid = x.valid) = true := decide_eq_true hv
          have d2b : (y.valid == x.valid) = true := beq_iff_eq.2 hv
          have d3 : decide (y.seq ≤ x.seq) = false := decide_eq_false (fun h => hy2 ⟨hv, h⟩)
          clear hy1 hy2 hv
          by_cases hq : x.seq ≤ at_
          · have hq2 : decide (x.seq ≤ at_) = true := decide_eq_true hq
            have hs2 := HSN.out
            rw [if_pos hq] at hs2
            have HS2 := Lib.hid hs2
            clear hs2
            go_wp2_with fail
            go_quiet (fail)
            have e1q : (wr.drewN nq).cell? ⟨b, o + k * 4 + 1, none⟩ = some (.int .u64 x.seq) := (below_drewN (Below.refl _ wr) nq).cell (p := ⟨b, o + k * 4 + 1, none⟩) (by show b < wr.heap.size; omega) |>.trans e1
            have t1q : (wr.drewN nq).cell? ⟨w.heap.size, 1, none⟩ = some (.int .u64 at_) := (below_drewN (Below.refl _ wr) nq).cell (p := ⟨w.heap.size, 1, none⟩) (by show w.heap.size < wr.heap.size; omega) |>.trans t1
            have HBQ := Lib.hid (below_drewN HBR.out nq)
            generalize wr.drewN nq = wq at *
            clear e0 e1 t1 p0 p1
            go_wp2_with fail
            go_quiet (fail)
            go_wp2_with fail
            go_roundg (gk - 1)
            case measure => omega
            case rel => exact ⟨k + 1, by omega, by go_num, by rw [HS2.out]; go_num, below_drewN HBQ.out _⟩
          · have hq2 : decide (x.seq ≤ at_) = false := decide_eq_false hq
            have hs2 := HSN.out
            rw [if_neg hq] at hs2
            have HS2 := Lib.hid hs2
            clear hs2
            go_wp2_with fail
            go_quiet (fail)
            have e1q : (wr.drewN nq).cell? ⟨b, o + k * 4 + 1, none⟩ = some (.int .u64 x.seq) := (below_drewN (Below.refl _ wr) nq).cell (p := ⟨b, o + k * 4 + 1, none⟩) (by show b < wr.heap.size; omega) |>.trans e1
            have t1q : (wr.drewN nq).cell? ⟨w.heap.size, 1, none⟩ = some (.int .u64 at_) := (below_drewN (Below.refl _ wr) nq).cell (p := ⟨w.heap.size, 1, none⟩) (by show w.heap.size < wr.heap.size; omega) |>.trans t1
            have HBQ := Lib.hid (below_drewN HBR.out nq)
            generalize wr.drewN nq = wq at *
            clear e0 e1 t1 p0 p1
            go_wp2_with fail
            go_quiet (fail)
            go_wp2_with fail
            go_roundg (gk - 1)
            case measure => omega
            case rel => exact ⟨k + 1, by omega, by go_num, by rw [HS2.out]; rfl, below_drewN HBQ.out _⟩
        · have d2 : decide (y.valid = x.valid) = false := decide_eq_false hv
          have d2b : (y.valid == x.valid) = false := beq_eq_false_iff_ne.2 hv
          clear hy1 hy2 hv
          by_cases hq : x.seq ≤ at_
          · have hq2 : decide (x.seq ≤ at_) = true := decide_eq_true hq
            have hs2 := HSN.out
            rw [if_pos hq] at hs2
            have HS2 := Lib.hid hs2
            clear hs2
            go_wp2_with fail
            go_quiet (fail)
            have e1q : (wr.drewN nq).cell? ⟨b, o + k * 4 + 1, none⟩ = some (.int .u64 x.seq) := (below_drewN (Below.refl _ wr) nq).cell (p := ⟨b, o + k * 4 + 1, none⟩) (by show b < wr.heap.size; omega) |>.trans e1
            have t1q : (wr.drewN nq).cell? ⟨w.heap.size, 1, none⟩ = some (.int .u64 at_) := (below_drewN (Below.refl _ wr) nq).cell (p := ⟨w.heap.size, 1, none⟩) (by show w.heap.size < wr.heap.size; omega) |>.trans t1
            have HBQ := Lib.hid (below_drewN HBR.out nq)
            generalize wr.drewN nq = wq at *
            clear e0 e1 t1 p0 p1
            go_wp2_with fail
            go_quiet (fail)
            go_wp2_with fail
            go_roundg (gk - 1)
            case measure => omega
            case rel => exact ⟨k + 1, by omega, by go_num, by rw [HS2.out]; go_num, below_drewN HBQ.out _⟩
          · have hq2 : decide (x.seq ≤ at_) = false := decide_eq_false hq
            have hs2 := HSN.out
            rw [if_neg hq] at hs2
            have HS2 := Lib.hid hs2
            clear hs2
            go_wp2_with fail
            go_quiet (fail)
            have e1q : (wr.drewN nq).cell? ⟨b, o + k * 4 + 1, none⟩ = some (.int .u64 x.seq) := (below_drewN (Below.refl _ wr) nq).cell (p := ⟨b, o + k * 4 + 1, none⟩) (by show b < wr.heap.size; omega) |>.trans e1
            have t1q : (wr.drewN nq).cell? ⟨w.heap.size, 1, none⟩ = some (.int .u64 at_) := (below_drewN (Below.refl _ wr) nq).cell (p := ⟨w.heap.size, 1, none⟩) (by show w.heap.size < wr.heap.size; omega) |>.trans t1
            have HBQ := Lib.hid (below_drewN HBR.out nq)
            generalize wr.drewN nq = wq at *
            clear e0 e1 t1 p0 p1
            go_wp2_with fail
            go_quiet (fail)
            go_wp2_with fail
            go_roundg (gk - 1)
            case measure => omega
            case rel => exact ⟨k + 1, by omega, by go_num, by rw [HS2.out]; rfl, below_drewN HBQ.out _⟩
    · have hke : k = hs.length := by omega
      subst hke
      have hcnt := hist_count (key := key) (at_ := at_) (xs := xs) (cs := cs) HP.out HV.out
      have HHAS := Lib.hid (hist_has (key := key) (at_ := at_) (xs := xs) (cs := cs) HP.out HV.out)
      rw [List.take_length, hcnt]
      clear hcnt hlt
      go_wp2_with fail
      obtain ⟨wo, rfl⟩ : ∃ wo : World, wo = wr := ⟨_, rfl⟩
      obtain ⟨gko, rfl⟩ : ∃ g : Nat, g = gk := ⟨_, rfl⟩
      go_loopg [9, 11] vs.length (fun gk ov iv wr => ∃ j : Nat, j + gk = vs.length ∧ iv = .int .i64 j ∧ ov = .int .i64 ((vs.drop j).countP (fun x => decide (x.key.toList = key.toList)) : Nat) ∧ Below w2.heap.size w2 wr)
      case atStart => exact ⟨0, by omega, rfl, rfl, HBR.out⟩
      case round =>
        clear HBR hsr t1
        obtain ⟨j, hj, rfl, rfl, hBj⟩ := hrel
        have HBJ := Lib.hid hBj
        have hvb := HVL.out
        clear hBj
        by_cases hjlt : j < vs.length
        · obtain ⟨b2, o2, rfl, hlb2, hcell2⟩ := HF.out.get j hjlt
          have hmem := List.getElem_mem hjlt
          have hsn := keyCount_step vs key j hjlt
          have hcl := keyCount_le vs key (j + 1)
          have hj0 : (0 : Int) ≤ (j : Int) := by omega
          have hj1 : (j : Int) < (vs.length : Int) := by omega
          obtain ⟨cnt, hcn⟩ : ∃ cnt, cnt = (vs.drop (j + 1)).countP (fun x => decide (x.key.toList = key.toList)) := ⟨_, rfl⟩
          rw [← hcn] at hsn hcl
          have HCN := Lib.hid hcn
          clear hcn
          generalize vs[j] = y at *
          have f0 := (HBJ.out.cell (p := ⟨b2, _, none⟩) hlb2).trans (hcell2 0 _ rfl)
          simp only [Nat.add_zero] at f0
          by_cases hk1 : y.key.toList = key.toList
          · have d1 : (y.key.toList == key.toList) = true := beq_iff_eq.2 hk1
            have d2 : (y.key.toList != key.toList) = false := by simp [hk1]
            have hany : hs.any (fun x => sameE x y) = true := List.any_eq_true.2 ⟨y, HHAS.out y hmem hk1, sameE_refl y⟩
            rw [if_pos hk1] at hsn
            rw [hsn]
            have HANY := Lib.hid hany
            have HCELL2 := Lib.hid hcell2
            have hcb : cnt < 1000 := by omega
            have hw2 : IntKind.i64.wrap ((cnt : Int) + 1 - 1) = (cnt : Int) := by rw [show (cnt : Int) + 1 - 1 = cnt from by omega]; exact IntWalk.i64_in _ (by omega)
            have hw3 : IntKind.i64.wrap ((cnt : Int)) = (cnt : Int) := IntWalk.i64_in _ (by omega)
            clear hcell2 hmem hany hsn hcl hk1
            go_wp2_with fail
            clear f0
            obtain ⟨wo3, rfl⟩ : ∃ wo : World, wo = wr := ⟨_, rfl⟩
            obtain ⟨g3, rfl⟩ : ∃ g : Nat, g = gk := ⟨_, rfl⟩
            go_loopg [12, 13] hs.length (fun gk sv iv wr => ∃ i : Nat, i + gk = hs.length ∧ iv = .int .i64 i ∧ sv = .bool ((hs.take i).any (fun x => sameE x y)) ∧ Below w2.heap.size w2 wr)
            case atStart => exact ⟨0, by omega, rfl, rfl, HBJ.out⟩
            case round =>
              obtain ⟨i, hi, rfl, rfl, hBi⟩ := hrel
              have HBI := Lib.hid hBi
              have hhb := HHL.out
              clear hBi
              by_cases hilt : i < hs.length
              · obtain ⟨b, o, rfl, hlb, hcell⟩ := HE2.out.get i hilt
                have hi0 : (0 : Int) ≤ (i : Int) := by omega
                have hi1 : (i : Int) < (hs.length : Int) := by omega
                have hany2 := any_succE hs y i hilt
                generalize hs[i] = x at *
                have e0 := (HBI.out.cell (p := ⟨b, _, none⟩) hlb).trans (hcell 0 _ rfl)
                have e1 := (HBI.out.cell (p := ⟨b, _, none⟩) hlb).trans (hcell 1 _ rfl)
                have e2 := (HBI.out.cell (p := ⟨b, _, none⟩) hlb).trans (hcell 2 _ rfl)
                have e3 := (HBI.out.cell (p := ⟨b, _, none⟩) hlb).trans (hcell 3 _ rfl)
                have f1 := (HBI.out.cell (p := ⟨b2, _, none⟩) hlb2).trans (HCELL2.out 1 _ rfl)
                have f2 := (HBI.out.cell (p := ⟨b2, _, none⟩) hlb2).trans (HCELL2.out 2 _ rfl)
                have f4 := (HBI.out.cell (p := ⟨b2, _, none⟩) hlb2).trans (HCELL2.out 4 _ rfl)
                have f5 := (HBI.out.cell (p := ⟨b2, _, none⟩) hlb2).trans (HCELL2.out 5 _ rfl)
                simp only [Nat.add_zero] at e0 e1 e2 e3 f1 f2 f4 f5
                have HA2 := Lib.hid hany2
                clear hcell hany2
                cases hb : (hs.take i).any (fun x => sameE x y) with
                | true =>
                  have HB := Lib.hid hb
                  clear hb
                  go_wp2_with fail
                  go_quiet (fail)
                  go_wp2
                  go_roundg (gk - 1)
                  case measure => omega
                  case rel => exact ⟨i + 1, by omega, by go_num, by rw [HA2.out, HB.out]; rfl, below_drewN HBI.out _⟩
                | false =>
                  have HB := Lib.hid hb
                  have heq := run_eqlE x y
                  have hgt := guardE
                  clear hb
                  go_wp2_with fail
                  go_quiet (fail)
                  go_wp2
                  go_roundg (gk - 1)
                  case measure => omega
                  case rel => exact ⟨i + 1, by omega, by go_num, by rw [HA2.out, HB.out]; simp, below_drewN HBI.out _⟩
              · have hie : i = hs.length := by omega
                subst hie
                rw [List.take_length, HANY.out]
                go_wp2
                go_roundg (g3 - 1)
                case measure => omega
                case rel => exact ⟨j + 1, by omega, by go_num, by rw [HCN.out], HBI.out⟩
          · have d1 : (y.key.toList == key.toList) = false := beq_eq_false_iff_ne.2 hk1
            have d2 : (y.key.toList != key.toList) = true := by simp [hk1]
            rw [if_neg hk1] at hsn
            rw [hsn]
            clear hcell2 hmem hsn hcl hk1
            go_wp2_with fail
            go_roundg (gk - 1)
            case measure => omega
            case rel => exact ⟨j + 1, by omega, by go_num, by rw [HCN.out]; rfl, HBJ.out⟩
        · have hje : j = vs.length := by omega
          subst hje
          rw [List.drop_length]
          simp only [List.countP_nil]
          clear hjlt
          go_wp2_with fail
          refine (livesV_any _).mono ?_
          rintro e w5 ⟨rfl, hB5⟩
          have HB5 := Lib.hid (HBJ.out.trans (hB5.mono HBJ.out.size))
          clear hB5
          go_wp2
          go_ret
          exact ⟨rfl, HB2.out.trans (HB5.out.mono HB2.out.size)⟩

theorem viewsHistory_any (a : Option Addr) (cap : Nat) (xs : List Fc) (ac : Option Addr) (cc : Nat) (cs : List Lk) (at_ : Int) (on : Bool) (key : ByteArray) (w : World) (hL : SlIn fc 6 w a cap xs) (hC : SlIn lc 2 w ac cc cs) (_ : (Lit.int .u64 at_).wf = true) (hk : key.size ≤ maxLen) :
    Calls Try.prog 6 #[.slice a xs.length cap, .agg #[.slice ac cs.length cc, .int .u64 at_, .bool on], .string key] w fun e w' => e = .returned (.bool true) ∧ Below w.heap.size w w' := by
  by_cases hg : 120 < xs.length ∨ 40 < cs.length
  · exact viewsHistory_great a cap xs ac cc cs at_ on key w hL hC hg
  · exact viewsHistory_small a cap xs ac cc cs at_ on key w hL hC hg hk
end Go.Proofs.Ytenocakpipppiaa
