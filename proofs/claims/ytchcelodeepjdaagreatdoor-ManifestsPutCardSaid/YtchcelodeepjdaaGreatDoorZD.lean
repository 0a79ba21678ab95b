/- manifests.isKey, may. Condition: the tables lie. -/
import Derived.Test.YtchcelodeepjdaaGreatDoorZDa
import Derived.BigQuiet
import Derived.Sort.Walk0
import Derived.Deep.Cut
import Derived.Deep.CutBlock
import Derived.Deep.RegionHeld3
namespace Go.Proofs.YtchcelodeepjdaaGreatDoor.Ln
open Go.RowKit Go.Herb

theorem size_list (s : ByteArray) : s.toList.length = s.size := by rw [ByteArray.toList_eq, Array.length_toList]; rfl
theorem isKey_any (s : ByteArray) (b : Bool) (hb : keyB s = b) (w : World) :
    Calls Tryz.prog (102) #[.string s] w fun e w' => e = .returned (.bool b) ∧ w' = w := by
  obtain ⟨em, hem⟩ : ∃ em, em = s.toList.isEmpty := ⟨_, rfl⟩
  have hk : b = (!em && decide (s.size ≤ 32)) := by
    have h1 := size_list s
    rw [hem, ← hb]
    unfold keyB
    cases h : s.toList with
    | nil => rw [h] at h1; simp at h1; simp [← h1]
    | cons a l => rw [h] at h1; simp at h1; simp; omega
  rw [hk]
  clear hb
  by_cases h1 : s.size ≤ 32
  · have h2 : (s.size : Int) ≤ 32 := by omega
    cases em
    all_goals
      have he := hem.symm
      clear hem hk
      go_enter Tryz.func102, Tryz.ntmps102
      go_wp2_with fail
      go_ret
      exact ⟨by simp [h1], rfl⟩
  · have h2 : ¬ (s.size : Int) ≤ 32 := by omega
    cases em
    all_goals
      have he := hem.symm
      clear hem hk
      go_enter Tryz.func102, Tryz.ntmps102
      go_wp2_with fail
      go_ret
      exact ⟨by simp, rfl⟩

theorem less_tri (a b : List UInt8) : Op.bytesLess b a = (!Op.bytesLess a b && !(a == b)) := by
  rw [bytesLess_eq, bytesLess_eq]
  by_cases h : b < a
  · have h1 : ¬ a < b := fun h2 => List.lt_irrefl _ (List.lt_trans h h2)
    have h2 : ¬ a = b := fun h2 => by rw [h2] at h; exact List.lt_irrefl _ h
    simp [h, h1, h2]
  · rcases List.le_iff_lt_or_eq.1 (List.not_lt.1 h) with h1 | h1
    · simp [h, h1]
    · simp [h, h1]
theorem below_drewN {B : Nat} {a w : World} (h : Below B a w) (n : Nat) : Below B a (w.drewN n) := h.trans ⟨rfl, rfl, rfl, Nat.le_refl _, fun _ _ => rfl⟩
/-- A shelf's levels. -/
def Sv.lv (s : Sv) : List Lv := [s.l0, s.l1, s.l2]
theorem Sv.lv_says (s : Sv) : s.says.lv = s.lv.map (·.ts) := rfl
set_option maxRecDepth 100000 in
theorem run_ix0 (v0 v1 v2 : Value) (u : World) : (Instr.index (55) (.agg #[v0, v1, v2]) (.int .i64 0)).run Tryz.prog u = .ok v0 u := by kernel_rfl
set_option maxRecDepth 100000 in
theorem run_ix1 (v0 v1 v2 : Value) (u : World) : (Instr.index (55) (.agg #[v0, v1, v2]) (.int .i64 1)).run Tryz.prog u = .ok v1 u := by kernel_rfl
set_option maxRecDepth 100000 in
theorem run_ix2 (v0 v1 v2 : Value) (u : World) : (Instr.index (55) (.agg #[v0, v1, v2]) (.int .i64 2)).run Tryz.prog u = .ok v2 u := by kernel_rfl
theorem run_index3 (v0 v1 v2 v : Value) (k : Nat) (h : #[v0, v1, v2][k]? = some v) (u : World) : (Instr.index (55) (.agg #[v0, v1, v2]) (.int .i64 (k : Int))).run Tryz.prog u = .ok v u := by
  match k, h with
  | 0, h => exact (Option.some.inj h) ▸ run_ix0 v0 v1 v2 u
  | 1, h => exact (Option.some.inj h) ▸ run_ix1 v0 v1 v2 u
  | 2, h => exact (Option.some.inj h) ▸ run_ix2 v0 v1 v2 u
  | k + 3, h => simp at h
theorem Sv.lv_get (s : Sv) (k : Nat) (h : k < 3) : ∃ l, s.lv[k]? = some l ∧ #[lvV s.l0, lvV s.l1, lvV s.l2][k]? = some (lvV l) := by
  match k, h with
  | 0, _ => exact ⟨_, rfl, rfl⟩
  | 1, _ => exact ⟨_, rfl, rfl⟩
  | 2, _ => exact ⟨_, rfl, rfl⟩
def LevTo (j : Nat) (l : List Tb) (i : Nat) : Prop := ∀ k t, k < i → l[k]? = some t → TabOk j k l t
theorem LevTo.all {j : Nat} {l : List Tb} {i : Nat} (h : LevTo j l i) (hi : l.length ≤ i) : LevOk j l := fun k t ht => h k t (by obtain ⟨h1, _⟩ := List.getElem?_eq_some_iff.1 ht; omega) ht
theorem LevTo.snoc {j : Nat} {l : List Tb} {i : Nat} {t : Tb} (h : LevTo j l i) (ht : l[i]? = some t) (hk : TabOk j i l t) : LevTo j l (i + 1) := fun k u hku hu => by
  rcases Nat.lt_or_eq_of_le (Nat.le_of_lt_succ hku) with h1 | h1
  · exact h k u h1 hu
  · subst h1
    rw [ht] at hu
    cases hu
    exact hk
def sumLen : List Lv → Nat
  | [] => 0
  | l :: ls => l.ts.length + sumLen ls
theorem sumLen_snoc (ls : List Lv) (l : Lv) : sumLen (ls ++ [l]) = sumLen ls + l.ts.length := by
  induction ls with
  | nil => simp [sumLen]
  | cons a ls ih => simp only [List.cons_append, sumLen, ih]; omega
theorem sumLen_le {N : Nat} {ls : List Lv} (h : ∀ l ∈ ls, l.ts.length ≤ N) : sumLen ls ≤ ls.length * N := by
  induction ls with
  | nil => simp [sumLen]
  | cons a ls ih =>
    have h1 := ih (fun x hx => h x (List.mem_cons_of_mem _ hx))
    have h2 := h a List.mem_cons_self
    rw [sumLen, List.length_cons, Nat.succ_mul]
    omega
theorem sumLen_pos (ls : List Lv) : 0 < sumLen ls ↔ ∃ l ∈ ls, l.ts ≠ [] := by
  induction ls with
  | nil => simp [sumLen]
  | cons a ls ih =>
    rw [sumLen]
    constructor
    · intro h
      by_cases h0 : 0 < sumLen ls
      · obtain ⟨x, hx, hy⟩ := ih.1 h0
        exact ⟨x, List.mem_cons_of_mem _ hx, hy⟩
      · refine ⟨a, List.mem_cons_self, fun h1 => ?_⟩
        rw [h1, List.length_nil] at h
        omega
    · rintro ⟨x, hx, hy⟩
      rcases List.mem_cons.1 hx with rfl | hx
      · have := List.length_pos_iff.2 hy
        omega
      · have := ih.2 ⟨x, hx, hy⟩; omega
def MayPost (s : Sv) (w : World) (e : Ending) (w' : World) : Prop := ∃ r : Bool, e = .returned (.bool r) ∧ (r = true ↔ MayS s.says) ∧ Below w.heap.size w w'
set_option maxRecDepth 100000 in
set_option maxHeartbeats 8000000 in
theorem may_any (s : Sv) (w : World) (hs : SvOk w s) (hN : ∀ l ∈ s.lv, l.ts.length ≤ 1000000) :
    Calls Tryz.prog (77) #[shV s] w (MayPost s w) := by
  obtain ⟨W, hW⟩ : ∃ W : World, W = w.alloc (.cells #[.int .u64 s.line, lvV s.l0, lvV s.l1, lvV s.l2] (57)) := ⟨_, rfl⟩
  have hB : Below w.heap.size w W := by rw [hW]; exact (Below.refl _ _).alloc (Nat.le_refl _) _
  have HB := Lib.hid hB
  have HOK := Lib.hid (show ∀ l ∈ s.lv, LvOk w l from fun l hl => by
    simp only [Sv.lv, List.mem_cons, List.not_mem_nil, or_false] at hl
    rcases hl with rfl | rfl | rfl
    · exact hs.l0
    · exact hs.l1
    · exact hs.l2)
  have HOUT := Lib.hid (show ∀ (j : Nat) (l : Lv), s.lv[j]? = some l → ¬ LevOk j l.ts → Hid (∀ u, Below w.heap.size w u → MayPost s w (.returned (.bool false)) u) from fun j l hl hn => Lib.hid (fun u hu => ⟨false, rfl, ⟨(fun h => by cases h), fun h => absurd (h.tabs j l.ts (by rw [Sv.lv_says, List.getElem?_map, hl]; rfl)) hn⟩, hu⟩))
  have HNN := Lib.hid hN
  have HGET := Lib.hid s.lv_get
  have HSAY := Lib.hid s.lv_says
  have hL3 : s.lv.length = 3 := rfl
  have HL3 := Lib.hid hL3
  obtain ⟨v0, hv0⟩ : ∃ v, v = lvV s.l0 := ⟨_, rfl⟩
  obtain ⟨v1, hv1⟩ : ∃ v, v = lvV s.l1 := ⟨_, rfl⟩
  obtain ⟨v2, hv2⟩ : ∃ v, v = lvV s.l2 := ⟨_, rfl⟩
  have hsh : shV s = .agg #[.int .u64 s.line, v0, v1, v2] := by rw [hv0, hv1, hv2]
  rw [← hv0, ← hv1, ← hv2] at HGET
  rw [← hv0, ← hv1, ← hv2] at hW
  have o0 : v0.oneCell' = true := by rw [hv0]; rfl
  have o1 : v1.oneCell' = true := by rw [hv1]; rfl
  have o2 : v2.oneCell' = true := by rw [hv2]; rfl
  rw [hsh]
  have HW := Lib.hid hW
  clear hB hs hL3 hN hv0 hv1 hv2 hsh hW
  generalize s.line = line at *
  have HIX := Lib.hid (run_index3 v0 v1 v2)
  go_enter Tryz.func77, Tryz.ntmps77
  go_wp2_with fail
  rw [← HW.out]
  clear HW o0 o1 o2
  go_loopg [3, 10] 3 (fun gk mv iv wr => ∃ (j m : Nat), j + gk = 3 ∧ iv = .int .i64 j ∧ mv = .int .i64 m ∧ Hid (m = sumLen (s.lv.take j)) ∧ Hid (∀ i l, i < j → s.lv[i]? = some l → LevOk i l.ts) ∧ Hid (Below w.heap.size w wr))
  case atStart => exact ⟨0, 0, rfl, rfl, rfl, Lib.hid rfl, Lib.hid (fun i l h => by omega), HB⟩
  case round =>
    obtain ⟨j, m, hj, rfl, rfl, HSM, HPRE, HBw⟩ := hrel
    obtain ⟨g0, hg0⟩ : ∃ g0, g0 = gk := ⟨_, rfl⟩
    rw [← hg0] at hj
    have HG0 := Lib.hid hg0
    clear hg0
    by_cases hlt : j < 3
    · have hlt' : (j : Int) < 3 := by omega
      obtain ⟨l, hl, hv⟩ := HGET.out j hlt
      have hix := HIX.out _ j hv
      have HL := Lib.hid hl
      have HLO := Lib.hid (HOK.out l (List.mem_of_getElem? hl))
      clear hl hv
      have HN := Lib.hid (show l.ts.length ≤ 1000000 from HNN.out l (List.mem_of_getElem? HL.out))
      obtain ⟨n, hn⟩ : ∃ n, n = l.ts.length := ⟨_, rfl⟩
      have hlv : lvV l = .slice l.a n l.cap := by rw [hn]
      rw [hlv] at hix
      have HNL := Lib.hid hn
      have hsum : m + n ≤ 4000000 := by
        have h1 := sumLen_le (ls := s.lv.take j) (fun x hx => HNN.out x (List.mem_of_mem_take hx))
        have h2 : (s.lv.take j).length ≤ 3 := by rw [List.length_take, HL3.out]; omega
        have h3 := HSM.out
        have h4 := HN.out
        have h5 : (s.lv.take j).length * 1000000 ≤ 3 * 1000000 := Nat.mul_le_mul_right _ h2
        rw [hn]
        omega
      have hw1 : IntKind.i64.wrap ((m : Int) + (n : Int)) = ((m + n : Nat) : Int) := by
        rw [IntWalk.i64_in _ (by omega)]
        omega
      have hnb : n ≤ 1000000 := by rw [hn]; exact HN.out
      clear hlv hn hsum
      go_upto_region 7 with fail
      clear hix hw1
      go_loopg [20] n (fun gi iv wq => ∃ i : Nat, i + gi = n ∧ iv = .int .i64 i ∧ Hid (LevTo j l.ts i) ∧ Hid (Below w.heap.size w wq))
      case atStart => exact ⟨0, by omega, rfl, Lib.hid (fun k t h => by omega), HBw⟩
      case round =>
        obtain ⟨i, hi, rfl, HLT, HBq⟩ := hrel
        by_cases hlti : i < n
        · have hil : i < l.ts.length := by have := HNL.out; omega
          have HLE := Lib.hid (List.getElem?_eq_getElem hil)
          have HKEY : Hid (∀ x : Bool, keyB l.ts[i].low = x → ∀ u, Calls Tryz.prog (102) #[.string l.ts[i].low] u fun e w' => e = .returned (.bool x) ∧ w' = u) := Lib.hid (fun x hx u => isKey_any _ x hx u)
          have HKEYH : Hid (∀ x : Bool, keyB l.ts[i].high = x → ∀ u, Calls Tryz.prog (102) #[.string l.ts[i].high] u fun e w' => e = .returned (.bool x) ∧ w' = u) := Lib.hid (fun x hx u => isKey_any _ x hx u)
          obtain ⟨b, o, ha, hlb, hcx⟩ := HLO.out.tabs.get i hil
          obtain ⟨k, hk⟩ : ∃ k : Nat, k = i - 1 := ⟨_, rfl⟩
          obtain ⟨ph, HPH, HPC⟩ : ∃ ph : ByteArray, Hid (∀ u, 0 < i → l.ts[i - 1]? = some u → u.high = ph) ∧ Hid (∀ u, Below w.heap.size w u → u.cell? ⟨b, o + k * 4 + 3, none⟩ = some (.string ph)) := by
            have hil1 : i - 1 < l.ts.length := by omega
            obtain ⟨b', o', he', _, hcy⟩ := HLO.out.tabs.get (i - 1) hil1
            rw [ha] at he'
            injection he' with he'
            cases he'
            exact ⟨l.ts[i - 1].high, Lib.hid (fun y _ hy => by rw [List.getElem?_eq_getElem hil1] at hy; injection hy with hy; rw [← hy]), Lib.hid (fun u hu => by rw [hk]; exact (hu.cell (p := ⟨b, _, none⟩) hlb).trans (hcy 3 _ rfl))⟩
          generalize l.ts[i] = t at HLE HKEY HKEYH hcx
          have g0 := (HBq.out.cell (p := ⟨b, _, none⟩) hlb).trans (hcx 0 _ rfl)
          have g1 := (HBq.out.cell (p := ⟨b, _, none⟩) hlb).trans (hcx 1 _ rfl)
          have g2 := (HBq.out.cell (p := ⟨b, _, none⟩) hlb).trans (hcx 2 _ rfl)
          have g3 := (HBq.out.cell (p := ⟨b, _, none⟩) hlb).trans (hcx 3 _ rfl)
          simp only [Nat.add_zero] at g0
          obtain ⟨X, hX⟩ : ∃ X : World, X = wr.alloc (.cells #[.int .u64 t.file, .int .u32 t.bytes, .string t.low, .string t.high] (51)) := ⟨_, rfl⟩
          have hBX : Below wr.heap.size wr X := by rw [hX]; exact (Below.refl _ _).alloc (Nat.le_refl _) _
          have hx1 : X.heap[wr.heap.size]? = some (.cells #[.int .u64 t.file, .int .u32 t.bytes, .string t.low, .string t.high] (51) (0, 0)) := by rw [hX]; exact blk_new_at rfl _
          have HBX := Lib.hid (HBq.out.trans (hBX.mono HBq.out.size))
          have hi0 : (0 : Int) ≤ (i : Int) := by omega
          have hi1 : (i : Int) < (n : Int) := by omega
          have hwi : IntKind.i64.wrap ((i : Int) + 1) = (i : Int) + 1 := IntWalk.i64_in _ (by omega)
          have hwk : 0 < i → IntKind.i64.wrap ((i : Int) - 1) = (k : Int) := fun h => by rw [IntWalk.i64_in _ (by omega)]; omega
          have hk0 : (0 : Int) ≤ (k : Int) := by omega
          have hk1 : (k : Int) < (n : Int) := by omega
          have HX := Lib.hid hX
          clear hcx hBX hk hil
          rw [ha]
          have HBAD := Lib.hid (show ¬ TabOk j i l.ts t → ∀ u, Below w.heap.size w u → MayPost s w (.returned (.bool false)) u from fun h u hu => (HOUT.out j l HL.out (fun g => h (g i t HLE.out))).out u hu)
          have HNXT := Lib.hid (show TabOk j i l.ts t → LevTo j l.ts (i + 1) from fun h => HLT.out.snoc HLE.out h)
          have HTRI := Lib.hid (less_tri t.low.toList t.high.toList)
          go_upto_region 9 with fail
          rw [← HX.out]
          have HKP : Hid (∀ u, Below X.heap.size X u → u.cell? ⟨wr.heap.size, 2, none⟩ = some (.string t.low) ∧ u.cell? ⟨wr.heap.size, 3, none⟩ = some (.string t.high) ∧ u.cell? ⟨b, o + k * 4 + 3, none⟩ = some (.string ph)) := Lib.hid (fun u hu => by
            have e0 := cell_of_blk (blk_below hx1 hu (lt_of_blk hx1)) 2
            have e1 := cell_of_blk (blk_below hx1 hu (lt_of_blk hx1)) 3
            simp at e0 e1
            exact ⟨e0, e1, HPC.out u (HBX.out.trans (hu.mono HBX.out.size))⟩)
          clear g0 g1 g2 g3 hX hx1 HPC
          cases hk1b : keyB t.low with
          | false =>
            have HK1 := Lib.hid (HKEY.out false hk1b)
            have HWHY := Lib.hid (show ¬ TabOk j i l.ts t from fun h => by have := h.low; rw [hk1b] at this; cases this)
            clear hk1b
            refine Mf.may9_A HKP HK1 (by rintro ch ⟨t, d⟩ ⟨t', d'⟩ w' rfl h; exact h) ?_
            intro v25 v26 v27 v28 v29 v30 v31 v32 v33 v34 v35 v36 v37 v38 v39 v40 v41 v42 v43 v44 v45 v46 v47 v48 v49 v50 v51 v52 v53 v54 v55 v56 v57 v58 v59 wq hbu
            have HBu := Lib.hid (HBX.out.trans (hbu.mono HBX.out.size))
            clear hbu
            go_wp2
            go_ret
            exact HBAD.out (HWHY.out) _ HBu.out
          | true =>
            have HK1 := Lib.hid (HKEY.out true hk1b)
            have HW1 := Lib.hid hk1b
            clear hk1b
            cases hk2b : keyB t.high with
            | false =>
              have HK2 := Lib.hid (HKEYH.out false hk2b)
              have HWHY := Lib.hid (show ¬ TabOk j i l.ts t from fun h => by have := h.high; rw [hk2b] at this; cases this)
              clear hk2b
              refine Mf.may9_B HKP HK1 HK2 (by rintro ch ⟨t, d⟩ ⟨t', d'⟩ w' rfl h; exact h) ?_
              intro v25 v26 v27 v28 v29 v30 v31 v32 v33 v34 v35 v36 v37 v38 v39 v40 v41 v42 v43 v44 v45 v46 v47 v48 v49 v50 v51 v52 v53 v54 v55 v56 v57 v58 v59 wq hbu
              have HBu := Lib.hid (HBX.out.trans (hbu.mono HBX.out.size))
              clear hbu
              go_wp2
              go_ret
              exact HBAD.out (HWHY.out) _ HBu.out
            | true =>
              have HK2 := Lib.hid (HKEYH.out true hk2b)
              have HW2 := Lib.hid hk2b
              clear hk2b
              cases he1 : Op.bytesLess t.low.toList t.high.toList with
              | true =>
                have HSPAN := Lib.hid (show Op.bytesLess t.high.toList t.low.toList = false from by rw [HTRI.out, he1]; rfl)
                by_cases h0j : 0 < j
                · have dj : decide ((0 : Int) < (j : Int)) = true := decide_eq_true (by omega)
                  by_cases h0i : 0 < i
                  · have di : decide ((0 : Int) < (i : Int)) = true := decide_eq_true (by omega)
                    have hwk := hwk h0i
                    cases hpl : Op.bytesLess ph.toList t.low.toList with
                    | true =>
                      have HWHY := Lib.hid (show TabOk j i l.ts t from ⟨HW1.out, HW2.out, HSPAN.out, fun _ h0 u hu => by rw [HPH.out u h0 hu]; exact hpl⟩)
                      refine Mf.may9_F HKP HK1 HK2 true _ he1 rfl rfl h0j dj h0i di hwk hk0 hk1 true hpl (by rintro ch ⟨t, d⟩ ⟨t', d'⟩ w' rfl h; exact h) ?_
                      intro v25 v26 v27 v28 v29 v30 v31 v32 v33 v34 v35 v36 v37 v38 v39 v40 v41 v42 v43 v44 v45 v46 v47 v48 v49 v50 v51 v52 v53 v54 v55 v56 v57 v58 v59 wq hbu
                      have HBu := Lib.hid (HBX.out.trans (hbu.mono HBX.out.size))
                      clear hbu
                      have HOKT := Lib.hid (HNXT.out (HWHY.out))
                      go_wp2
                      rw [← ha]
                      go_roundg (gk - 1)
                      case measure => omega
                      case rel => exact ⟨i + 1, by omega, by go_num, HOKT, HBu⟩
                    | false =>
                      have HWHY := Lib.hid (show ¬ TabOk j i l.ts t from fun h => by
                        have hil1 : i - 1 < l.ts.length := by have := HNL.out; omega
                        have h1 := h.next h0j h0i _ (List.getElem?_eq_getElem hil1)
                        rw [HPH.out _ h0i (List.getElem?_eq_getElem hil1), hpl] at h1
                        cases h1)
                      refine Mf.may9_F HKP HK1 HK2 true _ he1 rfl rfl h0j dj h0i di hwk hk0 hk1 false hpl (by rintro ch ⟨t, d⟩ ⟨t', d'⟩ w' rfl h; exact h) ?_
                      intro v25 v26 v27 v28 v29 v30 v31 v32 v33 v34 v35 v36 v37 v38 v39 v40 v41 v42 v43 v44 v45 v46 v47 v48 v49 v50 v51 v52 v53 v54 v55 v56 v57 v58 v59 wq hbu
                      have HBu := Lib.hid (HBX.out.trans (hbu.mono HBX.out.size))
                      clear hbu
                      go_wp2
                      go_ret
                      exact HBAD.out (HWHY.out) _ HBu.out
                  · have di : decide ((0 : Int) < (i : Int)) = false := decide_eq_false (by omega)
                    have HWHY := Lib.hid (show TabOk j i l.ts t from ⟨HW1.out, HW2.out, HSPAN.out, fun _ h0 => absurd h0 h0i⟩)
                    refine Mf.may9_E HKP HK1 HK2 true _ he1 rfl rfl h0j dj h0i di (by rintro ch ⟨t, d⟩ ⟨t', d'⟩ w' rfl h; exact h) ?_
                    intro v25 v26 v27 v28 v29 v30 v31 v32 v33 v34 v35 v36 v37 v38 v39 v40 v41 v42 v43 v44 v45 v46 v47 v48 v49 v50 v51 v52 v53 v54 v55 v56 v57 v58 v59 wq hbu
                    have HBu := Lib.hid (HBX.out.trans (hbu.mono HBX.out.size))
                    clear hbu
                    have HOKT := Lib.hid (HNXT.out (HWHY.out))
                    go_wp2
                    rw [← ha]
                    go_roundg (gk - 1)
                    case measure => omega
                    case rel => exact ⟨i + 1, by omega, by go_num, HOKT, HBu⟩
                · have dj : decide ((0 : Int) < (j : Int)) = false := decide_eq_false (by omega)
                  have HWHY := Lib.hid (show TabOk j i l.ts t from ⟨HW1.out, HW2.out, HSPAN.out, fun h0 => absurd h0 h0j⟩)
                  refine Mf.may9_D HKP HK1 HK2 true _ he1 rfl rfl h0j dj (by rintro ch ⟨t, d⟩ ⟨t', d'⟩ w' rfl h; exact h) ?_
                  intro v25 v26 v27 v28 v29 v30 v31 v32 v33 v34 v35 v36 v37 v38 v39 v40 v41 v42 v43 v44 v45 v46 v47 v48 v49 v50 v51 v52 v53 v54 v55 v56 v57 v58 v59 wq hbu
                  have HBu := Lib.hid (HBX.out.trans (hbu.mono HBX.out.size))
                  clear hbu
                  have HOKT := Lib.hid (HNXT.out (HWHY.out))
                  go_wp2
                  rw [← ha]
                  go_roundg (gk - 1)
                  case measure => omega
                  case rel => exact ⟨i + 1, by omega, by go_num, HOKT, HBu⟩
              | false =>
                cases he2 : t.low.toList == t.high.toList with
                | true =>
                  have HSPAN := Lib.hid (show Op.bytesLess t.high.toList t.low.toList = false from by rw [HTRI.out, he1, he2]; rfl)
                  by_cases h0j : 0 < j
                  · have dj : decide ((0 : Int) < (j : Int)) = true := decide_eq_true (by omega)
                    by_cases h0i : 0 < i
                    · have di : decide ((0 : Int) < (i : Int)) = true := decide_eq_true (by omega)
                      have hwk := hwk h0i
                      cases hpl : Op.bytesLess ph.toList t.low.toList with
                      | true =>
                        have HWHY := Lib.hid (show TabOk j i l.ts t from ⟨HW1.out, HW2.out, HSPAN.out, fun _ h0 u hu => by rw [HPH.out u h0 hu]; exact hpl⟩)
                        refine Mf.may9_F HKP HK1 HK2 false true he1 he2 rfl h0j dj h0i di hwk hk0 hk1 true hpl (by rintro ch ⟨t, d⟩ ⟨t', d'⟩ w' rfl h; exact h) ?_
                        intro v25 v26 v27 v28 v29 v30 v31 v32 v33 v34 v35 v36 v37 v38 v39 v40 v41 v42 v43 v44 v45 v46 v47 v48 v49 v50 v51 v52 v53 v54 v55 v56 v57 v58 v59 wq hbu
                        have HBu := Lib.hid (HBX.out.trans (hbu.mono HBX.out.size))
                        clear hbu
                        have HOKT := Lib.hid (HNXT.out (HWHY.out))
                        go_wp2
                        rw [← ha]
                        go_roundg (gk - 1)
                        case measure => omega
                        case rel => exact ⟨i + 1, by omega, by go_num, HOKT, HBu⟩
                      | false =>
                        have HWHY := Lib.hid (show ¬ TabOk j i l.ts t from fun h => by
                          have hil1 : i - 1 < l.ts.length := by have := HNL.out; omega
                          have h1 := h.next h0j h0i _ (List.getElem?_eq_getElem hil1)
                          rw [HPH.out _ h0i (List.getElem?_eq_getElem hil1), hpl] at h1
                          cases h1)
                        refine Mf.may9_F HKP HK1 HK2 false true he1 he2 rfl h0j dj h0i di hwk hk0 hk1 false hpl (by rintro ch ⟨t, d⟩ ⟨t', d'⟩ w' rfl h; exact h) ?_
                        intro v25 v26 v27 v28 v29 v30 v31 v32 v33 v34 v35 v36 v37 v38 v39 v40 v41 v42 v43 v44 v45 v46 v47 v48 v49 v50 v51 v52 v53 v54 v55 v56 v57 v58 v59 wq hbu
                        have HBu := Lib.hid (HBX.out.trans (hbu.mono HBX.out.size))
                        clear hbu
                        go_wp2
                        go_ret
                        exact HBAD.out (HWHY.out) _ HBu.out
                    · have di : decide ((0 : Int) < (i : Int)) = false := decide_eq_false (by omega)
                      have HWHY := Lib.hid (show TabOk j i l.ts t from ⟨HW1.out, HW2.out, HSPAN.out, fun _ h0 => absurd h0 h0i⟩)
                      refine Mf.may9_E HKP HK1 HK2 false true he1 he2 rfl h0j dj h0i di (by rintro ch ⟨t, d⟩ ⟨t', d'⟩ w' rfl h; exact h) ?_
                      intro v25 v26 v27 v28 v29 v30 v31 v32 v33 v34 v35 v36 v37 v38 v39 v40 v41 v42 v43 v44 v45 v46 v47 v48 v49 v50 v51 v52 v53 v54 v55 v56 v57 v58 v59 wq hbu
                      have HBu := Lib.hid (HBX.out.trans (hbu.mono HBX.out.size))
                      clear hbu
                      have HOKT := Lib.hid (HNXT.out (HWHY.out))
                      go_wp2
                      rw [← ha]
                      go_roundg (gk - 1)
                      case measure => omega
                      case rel => exact ⟨i + 1, by omega, by go_num, HOKT, HBu⟩
                  · have dj : decide ((0 : Int) < (j : Int)) = false := decide_eq_false (by omega)
                    have HWHY := Lib.hid (show TabOk j i l.ts t from ⟨HW1.out, HW2.out, HSPAN.out, fun h0 => absurd h0 h0j⟩)
                    refine Mf.may9_D HKP HK1 HK2 false true he1 he2 rfl h0j dj (by rintro ch ⟨t, d⟩ ⟨t', d'⟩ w' rfl h; exact h) ?_
                    intro v25 v26 v27 v28 v29 v30 v31 v32 v33 v34 v35 v36 v37 v38 v39 v40 v41 v42 v43 v44 v45 v46 v47 v48 v49 v50 v51 v52 v53 v54 v55 v56 v57 v58 v59 wq hbu
                    have HBu := Lib.hid (HBX.out.trans (hbu.mono HBX.out.size))
                    clear hbu
                    have HOKT := Lib.hid (HNXT.out (HWHY.out))
                    go_wp2
                    rw [← ha]
                    go_roundg (gk - 1)
                    case measure => omega
                    case rel => exact ⟨i + 1, by omega, by go_num, HOKT, HBu⟩
                | false =>
                  have HWHY := Lib.hid (show ¬ TabOk j i l.ts t from fun h => by have h1 := h.span; rw [HTRI.out, he1, he2] at h1; cases h1)
                  refine Mf.may9_C HKP HK1 HK2 false false he1 he2 rfl (by rintro ch ⟨t, d⟩ ⟨t', d'⟩ w' rfl h; exact h) ?_
                  intro v25 v26 v27 v28 v29 v30 v31 v32 v33 v34 v35 v36 v37 v38 v39 v40 v41 v42 v43 v44 v45 v46 v47 v48 v49 v50 v51 v52 v53 v54 v55 v56 v57 v58 v59 wq hbu
                  have HBu := Lib.hid (HBX.out.trans (hbu.mono HBX.out.size))
                  clear hbu
                  go_wp2
                  go_ret
                  exact HBAD.out (HWHY.out) _ HBu.out
        · have hie : l.ts.length ≤ i := by have := HNL.out; omega
          have HALL := Lib.hid (show ∀ q x, q < j + 1 → s.lv[q]? = some x → LevOk q x.ts from fun q x hq hx => by
            rcases Nat.lt_or_eq_of_le (Nat.le_of_lt_succ hq) with h1 | h1
            · exact HPRE.out q x h1 hx
            · subst h1
              rw [HL.out] at hx
              cases hx
              exact HLT.out.all hie)
          have HSM2 := Lib.hid (show m + n = sumLen (s.lv.take (j + 1)) from by
            have hjl : j < s.lv.length := by rw [HL3.out]; exact hlt
            have hg : s.lv[j] = l := by have := HL.out; rw [List.getElem?_eq_getElem hjl] at this; exact Option.some.inj this
            rw [List.take_succ_eq_append_getElem hjl, sumLen_snoc, hg, ← HSM.out, HNL.out])
          have hwj : IntKind.i64.wrap ((j : Int) + 1) = (j : Int) + 1 := IntWalk.i64_in _ (by omega)
          go_wp2_with fail
          go_roundg (g0 - 1)
          case measure => have := HG0.out; omega
          case rel => exact ⟨j + 1, m + n, by omega, by go_num, rfl, HSM2, HALL, HBq⟩
    · have hj3 : j = 3 := by omega
      subst hj3
      have HLEV := Lib.hid (show ∀ (i : Nat) l, s.says.lv[i]? = some l → LevOk i l from fun i l hl => by
        rw [HSAY.out, List.getElem?_map] at hl
        obtain ⟨x, hx, rfl⟩ := Option.map_eq_some_iff.1 hl
        obtain ⟨h3, _⟩ := List.getElem?_eq_some_iff.1 hx
        rw [HL3.out] at h3
        exact HPRE.out i x h3 hx)
      have HMANY := Lib.hid (show 0 < m ↔ ∃ l ∈ s.says.lv, l ≠ [] from by
        have h := HSM.out
        rw [List.take_of_length_le (by rw [HL3.out]; exact Nat.le_refl _)] at h
        rw [h, sumLen_pos, HSAY.out]
        simp only [List.mem_map]
        constructor
        · rintro ⟨x, hx, h1⟩; exact ⟨_, ⟨x, hx, rfl⟩, h1⟩
        · rintro ⟨_, ⟨x, hx, rfl⟩, h1⟩; exact ⟨x, hx, h1⟩)
      have HR := Lib.hid (show MayPost s w (.returned (.bool (decide (0 < m)))) wr from ⟨_, rfl, ⟨fun h => ⟨HLEV.out, HMANY.out.1 (of_decide_eq_true h)⟩, fun h => decide_eq_true (HMANY.out.2 h.many)⟩, HBw.out⟩)
      go_wp2_with fail
      go_ret
      exact HR.out
end Go.Proofs.YtchcelodeepjdaaGreatDoor.Ln
