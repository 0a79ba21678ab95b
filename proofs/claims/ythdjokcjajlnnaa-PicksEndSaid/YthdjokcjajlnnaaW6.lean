import Derived.Test.YthdjokcjajlnnaaW4
import Derived.Test.YthdjokcjajlnnaaW5
import Derived.Test.YthdjokcjajlnnaaFl
namespace Go.Proofs.Ythdjokcjajlnnaa
open Go.RowKit Go.Herb Go.Fl

def bytesL (ts : List T) : Nat := (ts.map (fun t => t.bytes.toNat)).sum

/-- The place of the first dirty table, counted from 1; 0: none is dirty. -/
def dirtyAt (dirty : List Int) : List T → Nat
  | [] => 0
  | t :: ts => if t.file ∈ dirty then 1 else if dirtyAt dirty ts = 0 then 0 else dirtyAt dirty ts + 1

theorem dirtyAt_snoc (ds : List Int) (ts : List T) (t : T) : dirtyAt ds (ts ++ [t]) = if dirtyAt ds ts = 0 then (if t.file ∈ ds then ts.length + 1 else 0) else dirtyAt ds ts := by
  induction ts with
  | nil => simp [dirtyAt]
  | cons x ts ih =>
    simp only [List.cons_append, dirtyAt, ih]
    by_cases h1 : x.file ∈ ds
    · simp [h1]
    · by_cases h2 : dirtyAt ds ts = 0 <;> by_cases h3 : t.file ∈ ds <;> simp [h1, h2, h3]

theorem dirtyAt_le (ds : List Int) (ts : List T) : dirtyAt ds ts ≤ ts.length := by
  induction ts with
  | nil => simp [dirtyAt]
  | cons x ts ih => simp only [dirtyAt, List.length_cons]; split <;> (try split) <;> omega

theorem bytesL_snoc (ts : List T) (t : T) : bytesL (ts ++ [t]) = bytesL ts + t.bytes.toNat := by simp [bytesL]

theorem bytesL_le (ts : List T) (h : ∀ t ∈ ts, 0 ≤ t.bytes ∧ t.bytes < 4294967296) : bytesL ts ≤ ts.length * 4294967296 := by
  induction ts with
  | nil => simp [bytesL]
  | cons x ts ih =>
    have h1 := ih (fun t ht => h t (by simp [ht]))
    have h2 := h x (by simp)
    simp only [bytesL, List.map_cons, List.sum_cons, List.length_cons] at *
    omega

theorem mul1 (W : World) : (binOp .mul 54 (.float .f64 4656722014701092864) (.float .f64 4616189618054758400)).run Try.prog W = .ok (.float .f64 4665729213955833856) W := by
  have h : Ieee.double.mul 4656722014701092864 4616189618054758400 = some 4665729213955833856 := by decide +kernel
  simp only [binOp, Op.floatArith, FloatKind.format, h]
  rfl
theorem mul2 (W : World) : (binOp .mul 54 (.float .f64 4665729213955833856) (.float .f64 4616189618054758400)).run Try.prog W = .ok (.float .f64 4674736413210574848) W := by
  have h : Ieee.double.mul 4665729213955833856 4616189618054758400 = some 4674736413210574848 := by decide +kernel
  simp only [binOp, Op.floatArith, FloatKind.format, h]
  rfl

set_option maxRecDepth 100000 in
set_option maxHeartbeats 800000 in
theorem full0_any (line : Int) (l0 l1 l2 : Lv) (ad : Option Addr) (cd : Nat) (ds : List Int) (w : World) (h0 : LvOk w l0) (hd : U64s w ad ds) (hdl : ds.length < 1000000) :
    Calls Try.prog 16 #[.agg #[.int .u64 line, sv l0, sv l1, sv l2], .int .i64 0, .slice ad ds.length cd] w fun e w' =>
      e = .returned (.complex .f64 (fl false (bytesL l0.ts - 2048)) (fl false (dirtyAt ds l0.ts))) ∧ Below w.heap.size w w' := by
  obtain ⟨a0, c0, ts0⟩ := l0
  have hlen := h0.len
  simp only [sv] at *
  have H0 := Lib.hid h0
  have HD := Lib.hid hd
  clear h0 hd
  go_enter Try.func16, Try.ntmps16
  go_wp2_with fail
  go_rounds 1
  obtain ⟨F, hF⟩ : ∃ F : Nat, F = 4656722014701092864 := ⟨_, rfl⟩
  rw [← hF]
  have HFF := Lib.hid hF
  clear hF
  obtain ⟨W0, hW0⟩ : ∃ W0 : World, W0 = w.alloc (Obj.cells #[.int .u64 line, Value.slice a0 ts0.length c0, sv l1, sv l2] 26) := ⟨_, rfl⟩
  have HB0 : Below w.heap.size w W0 := hW0 ▸ (Below.refl _ _).alloc (Nat.le_refl _) _
  go_loopg [6, 8, 22] ts0.length (fun gk c all i wr => ∃ k : Nat, k + gk = ts0.length ∧ i = .int .i64 k ∧ c = .complex .f64 0 (fl false (dirtyAt ds (ts0.take k))) ∧ all = .float .f64 (fl false (bytesL (ts0.take k))) ∧ Below w.heap.size w wr)
  case atStart => exact ⟨0, by omega, rfl, by simp [dirtyAt, fl_zero], by simp [bytesL, fl_zero], hW0 ▸ HB0⟩
  case round =>
    obtain ⟨k, hk, rfl, rfl, rfl, hB⟩ := hrel
    clear hW0 HB0
    by_cases hlt : k < ts0.length
    · obtain ⟨b, o, rfl, hb, hc⟩ := H0.out.tabs.get k hlt
      have e0 := (hB.cell (p := ⟨b, _, none⟩) hb).trans (hc 0 _ rfl)
      have e1 := (hB.cell (p := ⟨b, _, none⟩) hb).trans (hc 1 _ rfl)
      have e2 := (hB.cell (p := ⟨b, _, none⟩) hb).trans (hc 2 _ rfl)
      have e3 := (hB.cell (p := ⟨b, _, none⟩) hb).trans (hc 3 _ rfl)
      simp only [Nat.add_zero] at e0
      have hsn : ts0.take (k + 1) = ts0.take k ++ [ts0[k]] := by rw [List.take_succ_eq_append_getElem hlt]
      have hwf := H0.out.wf _ (List.getElem_mem hlt)
      have hbl := bytesL_le (ts0.take k) (fun t ht => H0.out.wf t (List.mem_of_mem_take ht))
      have hbl2 : bytesL (ts0.take k) ≤ 1000 * 4294967296 := Nat.le_trans hbl (Nat.mul_le_mul_right _ (by simp; omega))
      have hdl2 : dirtyAt ds (ts0.take k) ≤ k := Nat.le_trans (dirtyAt_le ds _) (by simp; omega)
      have HS := Lib.hid hsn
      clear hsn hc hbl
      generalize ts0[k] = x at *
      obtain ⟨y, hy⟩ := Int.eq_ofNat_of_zero_le hwf.1
      obtain ⟨xf, xb, xl, xh⟩ := x
      simp only at hy
      subst hy
      simp only at *
      have hsn2 := bytesL_snoc (ts0.take k) ⟨xf, (y : Int), xl, xh⟩
      have hdn2 := dirtyAt_snoc ds (ts0.take k) ⟨xf, (y : Int), xl, xh⟩
      rw [← HS.out] at hsn2 hdn2
      have HS2 := Lib.hid hsn2
      have HD2 := Lib.hid hdn2
      clear hsn2 hdn2 HS
      generalize bytesL (ts0.take k) = n at *
      generalize hdk : dirtyAt ds (ts0.take k) = dk at *
      clear hdk
      have hyl : y < 4294967296 := by omega
      clear hwf
      have HB := hB
      have hle := hB.size
      have hcv := floatOfInt_fl y
      have hcv1 : floatOfInt .f64 ((k : Int) + 1) = fl false (k + 1) := floatOfInt_fl (k + 1)
      have hadd := run_add_fl (P := Try.prog) 54 n y (by omega)
      have ho : FloatKind.f64.format.order (fl false dk) 0 = some (if dk = 0 then .eq else .gt) := order0 dk (by omega)
      have hEl := HD.out.ext (HB.alloc (o := Obj.cells #[.int .u64 xf, .int .u32 (y : Int), .string xl, .string xh] 45) HB.size)
      have HEL := Lib.hid hEl
      clear hEl
      by_cases hdk0 : dk = 0
      · rw [if_pos hdk0] at ho
        have HZ := Lib.hid hdk0
        clear hdk0
        go_wp2_with fail
        refine (contains64_any ad cd ds xf _ HEL.out hdl).mono ?_
        rintro e w1 ⟨rfl, rfl⟩
        by_cases hin : xf ∈ ds
        · rw [decide_eq_true hin]
          have HIN := Lib.hid hin
          clear hin
          go_wp2
          go_roundg (gk - 1)
          case measure => omega
          case rel =>
            refine ⟨k + 1, by omega, by go_num, ?_, ?_, by go_grown⟩
            · rw [HD2.out, if_pos HZ.out, if_pos HIN.out, List.length_take, Nat.min_eq_left (by omega)]
            · rw [HS2.out]; simp
        · rw [decide_eq_false hin]
          have HIN := Lib.hid hin
          clear hin
          go_wp2
          go_roundg (gk - 1)
          case measure => omega
          case rel =>
            refine ⟨k + 1, by omega, by go_num, ?_, ?_, by go_grown⟩
            · rw [HD2.out, if_pos HZ.out, if_neg HIN.out]; rw [HZ.out]
            · rw [HS2.out]; simp
      · rw [if_neg hdk0] at ho
        have HZ := Lib.hid hdk0
        clear hdk0
        go_wp2_with fail
        go_roundg (gk - 1)
        case measure => omega
        case rel =>
          refine ⟨k + 1, by omega, by go_num, ?_, ?_, by go_grown⟩
          · rw [HD2.out, if_neg HZ.out]
          · rw [HS2.out]; simp
    · have hke : k = ts0.length := by omega
      subst hke
      simp only [List.take_length] at *
      have hbl := bytesL_le ts0 H0.out.wf
      have hbl2 : bytesL ts0 ≤ 1000 * 4294967296 := Nat.le_trans hbl (Nat.mul_le_mul_right _ (by omega))
      have hdl2 := dirtyAt_le ds ts0
      clear hbl
      obtain ⟨n, hn⟩ : ∃ n, n = bytesL ts0 := ⟨_, rfl⟩
      obtain ⟨dk, hdk⟩ : ∃ dk, dk = dirtyAt ds ts0 := ⟨_, rfl⟩
      rw [← hn] at hbl2 ⊢
      rw [← hdk] at hdl2 ⊢
      have HN := Lib.hid hn
      have HDK := Lib.hid hdk
      clear hn hdk
      obtain ⟨S, X, D, N, hN, hsub, hmax, ha1, ha2, hX, hD⟩ : ∃ S X D N : Nat, N = fl false n ∧ (∀ W, (binOp .sub 54 (.float .f64 N) (.float .f64 F)).run Try.prog W = .ok (.float .f64 S) W) ∧
          (∀ W, (Builtin.max_ #[54, 54] 54 #[.float .f64 0, .float .f64 S]).run Try.prog W = .ok (.float .f64 X) W) ∧ FloatKind.f64.format.add 0 X = some X ∧ FloatKind.f64.format.add D 0 = some D ∧ X = fl false (n - 2048) ∧ D = fl false dk := by
        have hsub := run_sub_fl (P := Try.prog) 54 n 2048 (by omega) (by decide)
        have h2048 : fl false 2048 = F := by rw [HFF.out]; decide +kernel
        rw [h2048] at hsub
        have ha1 := add_fl 0 (n - 2048) (by omega)
        have ha2 := add_fl dk 0 (by omega)
        rw [fl_zero] at ha1 ha2
        simp only [Nat.zero_add, Nat.add_zero] at ha1 ha2
        exact ⟨_, _, _, _, rfl, hsub, fun W => run_max_fl (P := Try.prog) W #[54, 54] 54 n 2048 (by omega) (by decide), ha1, ha2, rfl, rfl⟩
      rw [← hN, ← hD]
      have HX := Lib.hid hX
      have HDD := Lib.hid hD
      have hcadd := run_cadd (P := Try.prog) 51 0 D X 0 X D ha1 ha2
      clear hX hD hN hbl2 hdl2 ha1 ha2
      go_wp2_with fail
      go_ret
      exact ⟨by rw [HX.out, HDD.out, HN.out, HDK.out]; rfl, hB⟩

set_option maxRecDepth 100000 in
set_option maxHeartbeats 800000 in
theorem full1_any (line : Int) (l0 l1 l2 : Lv) (ad : Option Addr) (cd : Nat) (ds : List Int) (w : World) (h0 : LvOk w l1) (hd : U64s w ad ds) (hdl : ds.length < 1000000) :
    Calls Try.prog 16 #[.agg #[.int .u64 line, sv l0, sv l1, sv l2], .int .i64 1, .slice ad ds.length cd] w fun e w' =>
      e = .returned (.complex .f64 (fl false (bytesL l1.ts - 8192)) (fl false (dirtyAt ds l1.ts))) ∧ Below w.heap.size w w' := by
  obtain ⟨a0, c0, ts0⟩ := l1
  have hlen := h0.len
  simp only [sv] at *
  have H0 := Lib.hid h0
  have HD := Lib.hid hd
  clear h0 hd
  go_enter Try.func16, Try.ntmps16
  go_wp2_with fail
  have hm1 := fun W => mul1 W
  have hm2 := fun W => mul2 W
  go_rounds 2
  obtain ⟨F, hF⟩ : ∃ F : Nat, F = 4665729213955833856 := ⟨_, rfl⟩
  rw [← hF]
  have HFF := Lib.hid hF
  clear hF
  obtain ⟨W0, hW0⟩ : ∃ W0 : World, W0 = w.alloc (Obj.cells #[.int .u64 line, sv l0, Value.slice a0 ts0.length c0, sv l2] 26) := ⟨_, rfl⟩
  have HB0 : Below w.heap.size w W0 := hW0 ▸ (Below.refl _ _).alloc (Nat.le_refl _) _
  go_loopg [6, 8, 22] ts0.length (fun gk c all i wr => ∃ k : Nat, k + gk = ts0.length ∧ i = .int .i64 k ∧ c = .complex .f64 0 (fl false (dirtyAt ds (ts0.take k))) ∧ all = .float .f64 (fl false (bytesL (ts0.take k))) ∧ Below w.heap.size w wr)
  case atStart => exact ⟨0, by omega, rfl, by simp [dirtyAt, fl_zero], by simp [bytesL, fl_zero], hW0 ▸ HB0⟩
  case round =>
    obtain ⟨k, hk, rfl, rfl, rfl, hB⟩ := hrel
    clear hW0 HB0
    by_cases hlt : k < ts0.length
    · obtain ⟨b, o, rfl, hb, hc⟩ := H0.out.tabs.get k hlt
      have e0 := (hB.cell (p := ⟨b, _, none⟩) hb).trans (hc 0 _ rfl)
      have e1 := (hB.cell (p := ⟨b, _, none⟩) hb).trans (hc 1 _ rfl)
      have e2 := (hB.cell (p := ⟨b, _, none⟩) hb).trans (hc 2 _ rfl)
      have e3 := (hB.cell (p := ⟨b, _, none⟩) hb).trans (hc 3 _ rfl)
      simp only [Nat.add_zero] at e0
      have hsn : ts0.take (k + 1) = ts0.take k ++ [ts0[k]] := by rw [List.take_succ_eq_append_getElem hlt]
      have hwf := H0.out.wf _ (List.getElem_mem hlt)
      have hbl := bytesL_le (ts0.take k) (fun t ht => H0.out.wf t (List.mem_of_mem_take ht))
      have hbl2 : bytesL (ts0.take k) ≤ 1000 * 4294967296 := Nat.le_trans hbl (Nat.mul_le_mul_right _ (by simp; omega))
      have hdl2 : dirtyAt ds (ts0.take k) ≤ k := Nat.le_trans (dirtyAt_le ds _) (by simp; omega)
      have HS := Lib.hid hsn
      clear hsn hc hbl
      generalize ts0[k] = x at *
      obtain ⟨y, hy⟩ := Int.eq_ofNat_of_zero_le hwf.1
      obtain ⟨xf, xb, xl, xh⟩ := x
      simp only at hy
      subst hy
      simp only at *
      have hsn2 := bytesL_snoc (ts0.take k) ⟨xf, (y : Int), xl, xh⟩
      have hdn2 := dirtyAt_snoc ds (ts0.take k) ⟨xf, (y : Int), xl, xh⟩
      rw [← HS.out] at hsn2 hdn2
      have HS2 := Lib.hid hsn2
      have HD2 := Lib.hid hdn2
      clear hsn2 hdn2 HS
      generalize bytesL (ts0.take k) = n at *
      generalize hdk : dirtyAt ds (ts0.take k) = dk at *
      clear hdk
      have hyl : y < 4294967296 := by omega
      clear hwf
      have HB := hB
      have hle := hB.size
      have hcv := floatOfInt_fl y
      have hcv1 : floatOfInt .f64 ((k : Int) + 1) = fl false (k + 1) := floatOfInt_fl (k + 1)
      have hadd := run_add_fl (P := Try.prog) 54 n y (by omega)
      have ho : FloatKind.f64.format.order (fl false dk) 0 = some (if dk = 0 then .eq else .gt) := order0 dk (by omega)
      have hEl := HD.out.ext (HB.alloc (o := Obj.cells #[.int .u64 xf, .int .u32 (y : Int), .string xl, .string xh] 45) HB.size)
      have HEL := Lib.hid hEl
      clear hEl
      by_cases hdk0 : dk = 0
      · rw [if_pos hdk0] at ho
        have HZ := Lib.hid hdk0
        clear hdk0
        go_wp2_with fail
        refine (contains64_any ad cd ds xf _ HEL.out hdl).mono ?_
        rintro e w1 ⟨rfl, rfl⟩
        by_cases hin : xf ∈ ds
        · rw [decide_eq_true hin]
          have HIN := Lib.hid hin
          clear hin
          go_wp2
          go_roundg (gk - 1)
          case measure => omega
          case rel =>
            refine ⟨k + 1, by omega, by go_num, ?_, ?_, by go_grown⟩
            · rw [HD2.out, if_pos HZ.out, if_pos HIN.out, List.length_take, Nat.min_eq_left (by omega)]
            · rw [HS2.out]; simp
        · rw [decide_eq_false hin]
          have HIN := Lib.hid hin
          clear hin
          go_wp2
          go_roundg (gk - 1)
          case measure => omega
          case rel =>
            refine ⟨k + 1, by omega, by go_num, ?_, ?_, by go_grown⟩
            · rw [HD2.out, if_pos HZ.out, if_neg HIN.out]; rw [HZ.out]
            · rw [HS2.out]; simp
      · rw [if_neg hdk0] at ho
        have HZ := Lib.hid hdk0
        clear hdk0
        go_wp2_with fail
        go_roundg (gk - 1)
        case measure => omega
        case rel =>
          refine ⟨k + 1, by omega, by go_num, ?_, ?_, by go_grown⟩
          · rw [HD2.out, if_neg HZ.out]
          · rw [HS2.out]; simp
    · have hke : k = ts0.length := by omega
      subst hke
      simp only [List.take_length] at *
      have hbl := bytesL_le ts0 H0.out.wf
      have hbl2 : bytesL ts0 ≤ 1000 * 4294967296 := Nat.le_trans hbl (Nat.mul_le_mul_right _ (by omega))
      have hdl2 := dirtyAt_le ds ts0
      clear hbl
      obtain ⟨n, hn⟩ : ∃ n, n = bytesL ts0 := ⟨_, rfl⟩
      obtain ⟨dk, hdk⟩ : ∃ dk, dk = dirtyAt ds ts0 := ⟨_, rfl⟩
      rw [← hn] at hbl2 ⊢
      rw [← hdk] at hdl2 ⊢
      have HN := Lib.hid hn
      have HDK := Lib.hid hdk
      clear hn hdk
      obtain ⟨S, X, D, N, hN, hsub, hmax, ha1, ha2, hX, hD⟩ : ∃ S X D N : Nat, N = fl false n ∧ (∀ W, (binOp .sub 54 (.float .f64 N) (.float .f64 F)).run Try.prog W = .ok (.float .f64 S) W) ∧
          (∀ W, (Builtin.max_ #[54, 54] 54 #[.float .f64 0, .float .f64 S]).run Try.prog W = .ok (.float .f64 X) W) ∧ FloatKind.f64.format.add 0 X = some X ∧ FloatKind.f64.format.add D 0 = some D ∧ X = fl false (n - 8192) ∧ D = fl false dk := by
        have hsub := run_sub_fl (P := Try.prog) 54 n 8192 (by omega) (by decide)
        have h8192 : fl false 8192 = F := by rw [HFF.out]; decide +kernel
        rw [h8192] at hsub
        have ha1 := add_fl 0 (n - 8192) (by omega)
        have ha2 := add_fl dk 0 (by omega)
        rw [fl_zero] at ha1 ha2
        simp only [Nat.zero_add, Nat.add_zero] at ha1 ha2
        exact ⟨_, _, _, _, rfl, hsub, fun W => run_max_fl (P := Try.prog) W #[54, 54] 54 n 8192 (by omega) (by decide), ha1, ha2, rfl, rfl⟩
      rw [← hN, ← hD]
      have HX := Lib.hid hX
      have HDD := Lib.hid hD
      have hcadd := run_cadd (P := Try.prog) 51 0 D X 0 X D ha1 ha2
      clear hX hD hN hbl2 hdl2 ha1 ha2
      go_wp2_with fail
      go_ret
      exact ⟨by rw [HX.out, HDD.out, HN.out, HDK.out]; rfl, hB⟩

set_option maxRecDepth 100000 in
set_option maxHeartbeats 800000 in
theorem full2_any (line : Int) (l0 l1 l2 : Lv) (ad : Option Addr) (cd : Nat) (ds : List Int) (w : World) (h0 : LvOk w l2) (hd : U64s w ad ds) (hdl : ds.length < 1000000) :
    Calls Try.prog 16 #[.agg #[.int .u64 line, sv l0, sv l1, sv l2], .int .i64 2, .slice ad ds.length cd] w fun e w' =>
      e = .returned (.complex .f64 (fl false (bytesL l2.ts - 32768)) (fl false (dirtyAt ds l2.ts))) ∧ Below w.heap.size w w' := by
  obtain ⟨a0, c0, ts0⟩ := l2
  have hlen := h0.len
  simp only [sv] at *
  have H0 := Lib.hid h0
  have HD := Lib.hid hd
  clear h0 hd
  go_enter Try.func16, Try.ntmps16
  go_wp2_with fail
  have hm1 := fun W => mul1 W
  have hm2 := fun W => mul2 W
  go_rounds 3
  obtain ⟨F, hF⟩ : ∃ F : Nat, F = 4674736413210574848 := ⟨_, rfl⟩
  rw [← hF]
  have HFF := Lib.hid hF
  clear hF
  obtain ⟨W0, hW0⟩ : ∃ W0 : World, W0 = w.alloc (Obj.cells #[.int .u64 line, sv l0, sv l1, Value.slice a0 ts0.length c0] 26) := ⟨_, rfl⟩
  have HB0 : Below w.heap.size w W0 := hW0 ▸ (Below.refl _ _).alloc (Nat.le_refl _) _
  go_loopg [6, 8, 22] ts0.length (fun gk c all i wr => ∃ k : Nat, k + gk = ts0.length ∧ i = .int .i64 k ∧ c = .complex .f64 0 (fl false (dirtyAt ds (ts0.take k))) ∧ all = .float .f64 (fl false (bytesL (ts0.take k))) ∧ Below w.heap.size w wr)
  case atStart => exact ⟨0, by omega, rfl, by simp [dirtyAt, fl_zero], by simp [bytesL, fl_zero], hW0 ▸ HB0⟩
  case round =>
    obtain ⟨k, hk, rfl, rfl, rfl, hB⟩ := hrel
    clear hW0 HB0
    by_cases hlt : k < ts0.length
    · obtain ⟨b, o, rfl, hb, hc⟩ := H0.out.tabs.get k hlt
      have e0 := (hB.cell (p := ⟨b, _, none⟩) hb).trans (hc 0 _ rfl)
      have e1 := (hB.cell (p := ⟨b, _, none⟩) hb).trans (hc 1 _ rfl)
      have e2 := (hB.cell (p := ⟨b, _, none⟩) hb).trans (hc 2 _ rfl)
      have e3 := (hB.cell (p := ⟨b, _, none⟩) hb).trans (hc 3 _ rfl)
      simp only [Nat.add_zero] at e0
      have hsn : ts0.take (k + 1) = ts0.take k ++ [ts0[k]] := by rw [List.take_succ_eq_append_getElem hlt]
      have hwf := H0.out.wf _ (List.getElem_mem hlt)
      have hbl := bytesL_le (ts0.take k) (fun t ht => H0.out.wf t (List.mem_of_mem_take ht))
      have hbl2 : bytesL (ts0.take k) ≤ 1000 * 4294967296 := Nat.le_trans hbl (Nat.mul_le_mul_right _ (by simp; omega))
      have hdl2 : dirtyAt ds (ts0.take k) ≤ k := Nat.le_trans (dirtyAt_le ds _) (by simp; omega)
      have HS := Lib.hid hsn
      clear hsn hc hbl
      generalize ts0[k] = x at *
      obtain ⟨y, hy⟩ := Int.eq_ofNat_of_zero_le hwf.1
      obtain ⟨xf, xb, xl, xh⟩ := x
      simp only at hy
      subst hy
      simp only at *
      have hsn2 := bytesL_snoc (ts0.take k) ⟨xf, (y : Int), xl, xh⟩
      have hdn2 := dirtyAt_snoc ds (ts0.take k) ⟨xf, (y : Int), xl, xh⟩
      rw [← HS.out] at hsn2 hdn2
      have HS2 := Lib.hid hsn2
      have HD2 := Lib.hid hdn2
      clear hsn2 hdn2 HS
      generalize bytesL (ts0.take k) = n at *
      generalize hdk : dirtyAt ds (ts0.take k) = dk at *
      clear hdk
      have hyl : y < 4294967296 := by omega
      clear hwf
      have HB := hB
      have hle := hB.size
      have hcv := floatOfInt_fl y
      have hcv1 : floatOfInt .f64 ((k : Int) + 1) = fl false (k + 1) := floatOfInt_fl (k + 1)
      have hadd := run_add_fl (P := Try.prog) 54 n y (by omega)
      have ho : FloatKind.f64.format.order (fl false dk) 0 = some (if dk = 0 then .eq else .gt) := order0 dk (by omega)
      have hEl := HD.out.ext (HB.alloc (o := Obj.cells #[.int .u64 xf, .int .u32 (y : Int), .string xl, .string xh] 45) HB.size)
      have HEL := Lib.hid hEl
      clear hEl
      by_cases hdk0 : dk = 0
      · rw [if_pos hdk0] at ho
        have HZ := Lib.hid hdk0
        clear hdk0
        go_wp2_with fail
        refine (contains64_any ad cd ds xf _ HEL.out hdl).mono ?_
        rintro e w1 ⟨rfl, rfl⟩
        by_cases hin : xf ∈ ds
        · rw [decide_eq_true hin]
          have HIN := Lib.hid hin
          clear hin
          go_wp2
          go_roundg (gk - 1)
          case measure => omega
          case rel =>
            refine ⟨k + 1, by omega, by go_num, ?_, ?_, by go_grown⟩
            · rw [HD2.out, if_pos HZ.out, if_pos HIN.out, List.length_take, Nat.min_eq_left (by omega)]
            · rw [HS2.out]; simp
        · rw [decide_eq_false hin]
          have HIN := Lib.hid hin
          clear hin
          go_wp2
          go_roundg (gk - 1)
          case measure => omega
          case rel =>
            refine ⟨k + 1, by omega, by go_num, ?_, ?_, by go_grown⟩
            · rw [HD2.out, if_pos HZ.out, if_neg HIN.out]; rw [HZ.out]
            · rw [HS2.out]; simp
      · rw [if_neg hdk0] at ho
        have HZ := Lib.hid hdk0
        clear hdk0
        go_wp2_with fail
        go_roundg (gk - 1)
        case measure => omega
        case rel =>
          refine ⟨k + 1, by omega, by go_num, ?_, ?_, by go_grown⟩
          · rw [HD2.out, if_neg HZ.out]
          · rw [HS2.out]; simp
    · have hke : k = ts0.length := by omega
      subst hke
      simp only [List.take_length] at *
      have hbl := bytesL_le ts0 H0.out.wf
      have hbl2 : bytesL ts0 ≤ 1000 * 4294967296 := Nat.le_trans hbl (Nat.mul_le_mul_right _ (by omega))
      have hdl2 := dirtyAt_le ds ts0
      clear hbl
      obtain ⟨n, hn⟩ : ∃ n, n = bytesL ts0 := ⟨_, rfl⟩
      obtain ⟨dk, hdk⟩ : ∃ dk, dk = dirtyAt ds ts0 := ⟨_, rfl⟩
      rw [← hn] at hbl2 ⊢
      rw [← hdk] at hdl2 ⊢
      have HN := Lib.hid hn
      have HDK := Lib.hid hdk
      clear hn hdk
      obtain ⟨S, X, D, N, hN, hsub, hmax, ha1, ha2, hX, hD⟩ : ∃ S X D N : Nat, N = fl false n ∧ (∀ W, (binOp .sub 54 (.float .f64 N) (.float .f64 F)).run Try.prog W = .ok (.float .f64 S) W) ∧
          (∀ W, (Builtin.max_ #[54, 54] 54 #[.float .f64 0, .float .f64 S]).run Try.prog W = .ok (.float .f64 X) W) ∧ FloatKind.f64.format.add 0 X = some X ∧ FloatKind.f64.format.add D 0 = some D ∧ X = fl false (n - 32768) ∧ D = fl false dk := by
        have hsub := run_sub_fl (P := Try.prog) 54 n 32768 (by omega) (by decide)
        have h32768 : fl false 32768 = F := by rw [HFF.out]; decide +kernel
        rw [h32768] at hsub
        have ha1 := add_fl 0 (n - 32768) (by omega)
        have ha2 := add_fl dk 0 (by omega)
        rw [fl_zero] at ha1 ha2
        simp only [Nat.zero_add, Nat.add_zero] at ha1 ha2
        exact ⟨_, _, _, _, rfl, hsub, fun W => run_max_fl (P := Try.prog) W #[54, 54] 54 n 32768 (by omega) (by decide), ha1, ha2, rfl, rfl⟩
      rw [← hN, ← hD]
      have HX := Lib.hid hX
      have HDD := Lib.hid hD
      have hcadd := run_cadd (P := Try.prog) 51 0 D X 0 X D ha1 ha2
      clear hX hD hN hbl2 hdl2 ha1 ha2
      go_wp2_with fail
      go_ret
      exact ⟨by rw [HX.out, HDD.out, HN.out, HDK.out]; rfl, hB⟩
end Go.Proofs.Ythdjokcjajlnnaa
