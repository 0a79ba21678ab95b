/- herbariumref20.shelf. Condition: fewer than 1000000 tables a level. · manifests: laying's shelves. Condition: their bytes are fewer than 700000000, their keys not empty. · Records back from bytes, as plain lists. No condition. · varints.Get, GetText; manifests' must, and reading's num, many, text. Condition: fewer than 1000000000 bytes. · Roots back from bytes, as plain lists; what a loop of readings has read. No condition. -/
import Derived.Test.YtchcelodeepjdaaGreatDoorZZM
import Derived.Test.YtchcelodeepjdaaGreatDoorZN
import Derived.Test.YtchcelodeepjdaaGreatDoorZE
import Derived.Test.YtchcelodeepjdaaGreatDoorZR
import Derived.WalkLawsBesides
import Derived.Laws.BytesArg
namespace Go.Proofs.YtchcelodeepjdaaGreatDoor.Ln
open Go.RowKit Go.Shelf Go.Herb

theorem badT_iff {j i : Nat} {l : List Tb} {t : Tb} {ph : ByteArray} (ht : l[i]? = some t) (hp : ∀ u, 0 < i → l[i - 1]? = some u → u.high = ph) : Rf.badT j i t.low t.high ph = false ↔ TabOk j i l t := by
  have HTRI := less_tri t.low.toList t.high.toList
  unfold Rf.badT
  constructor
  · intro h
    simp only [Bool.or_eq_false_iff, Bool.not_eq_false'] at h
    obtain ⟨h1, h2, h3, h4⟩ := h
    refine ⟨h1, h2, by rw [HTRI]; exact h3, fun hj hi u hu => ?_⟩
    rw [decide_eq_true hj, decide_eq_true hi, Bool.true_and, Bool.true_and, Bool.not_eq_false'] at h4
    rw [hp u hi hu]
    exact h4
  · intro h
    simp only [Bool.or_eq_false_iff, Bool.not_eq_false']
    refine ⟨h.low, h.high, by rw [← HTRI]; exact h.span, ?_⟩
    by_cases hj : 0 < j
    · by_cases hi : 0 < i
      · obtain ⟨hlt, -⟩ := List.getElem?_eq_some_iff.1 ht
        have h1 := h.next hj hi _ (List.getElem?_eq_getElem (by omega : i - 1 < l.length))
        rw [hp _ hi (List.getElem?_eq_getElem (by omega : i - 1 < l.length))] at h1
        rw [h1]; simp
      · rw [decide_eq_false hi]; simp
    · rw [decide_eq_false hj]; simp
set_option maxRecDepth 100000 in
set_option maxHeartbeats 4000000 in
theorem refShelf_any (s : Sv) (w : World) (hs : SvOk w s) (hN : ∀ l ∈ s.lv, l.ts.length ≤ 1000000) :
    Calls Tryz.prog (58) #[shV s] w (BoolPost (MayS s.says) w) := by
  obtain ⟨v0, hv0⟩ : ∃ v, v = lvV s.l0 := ⟨_, rfl⟩
  obtain ⟨v1, hv1⟩ : ∃ v, v = lvV s.l1 := ⟨_, rfl⟩
  obtain ⟨v2, hv2⟩ : ∃ v, v = lvV s.l2 := ⟨_, rfl⟩
  have hsh : shV s = .agg #[.int .u64 s.line, v0, v1, v2] := by rw [hv0, hv1, hv2]
  obtain ⟨W, hW⟩ : ∃ W : World, W = w.alloc (.cells #[.int .u64 s.line, v0, v1, v2] (57)) := ⟨_, rfl⟩
  have hB : Below w.heap.size w W := by rw [hW]; exact (Below.refl _ _).alloc (Nat.le_refl _) _
  have hx0 : W.heap[w.heap.size]? = some (.cells #[.int .u64 s.line, v0, v1, v2] (57) (0, 0)) := by rw [hW]; exact blk_new_at rfl _
  have HB := Lib.hid hB
  have HOK := Lib.hid (show ∀ l ∈ s.lv, LvOk w l from fun l hl => by
    simp only [Sv.lv, List.mem_cons, List.not_mem_nil, or_false] at hl
    rcases hl with rfl | rfl | rfl
    · exact hs.l0
    · exact hs.l1
    · exact hs.l2)
  have HEND := Lib.hid (show ∀ (q : Bool) u, Below W.heap.size W u → (q = true ↔ MayS s.says) → BoolPost (MayS s.says) w (.returned (.bool q)) u from fun q u hu hq => ⟨q, rfl, hq, hB.trans (hu.mono hB.size)⟩)
  have HOUT := Lib.hid (show ∀ (j : Nat) (l : Lv), s.lv[j]? = some l → ¬ LevOk j l.ts → ¬ MayS s.says from fun j l hl hn h => hn (h.tabs j l.ts (by rw [Sv.lv_says, List.getElem?_map, hl]; rfl)))
  have HNN := Lib.hid hN
  have HSAY := Lib.hid s.lv_says
  have hL3 : s.lv.length = 3 := rfl
  have HL3 := Lib.hid hL3
  have HC : Hid (∀ (j : Nat) l, s.lv[j]? = some l → ∀ u, Below W.heap.size W u → u.cell? ⟨w.heap.size, 1 + j, none⟩ = some (lvV l)) := Lib.hid (fun j l hl u hu => by
    have hq := cell_of_blk (blk_below hx0 hu (lt_of_blk hx0))
    have hj : j < 3 := by
      obtain ⟨h, _⟩ := List.getElem?_eq_some_iff.1 hl
      exact h
    match j, hj with
    | 0, _ => have h1 := hq 1; rw [h1]; have : s.l0 = l := by simpa [Sv.lv] using hl
              rw [← this, ← hv0]; rfl
    | 1, _ => have h1 := hq 2; rw [h1]; have : s.l1 = l := by simpa [Sv.lv] using hl
              rw [← this, ← hv1]; rfl
    | 2, _ => have h1 := hq 3; rw [h1]; have : s.l2 = l := by simpa [Sv.lv] using hl
              rw [← this, ← hv2]; rfl)
  rw [hsh]
  have HW := Lib.hid hW
  clear hB hs hL3 hN hv0 hv1 hv2 hsh hW hx0
  generalize s.line = line at *
  go_enter Tryz.func58, Tryz.ntmps58
  go_upto_region 3 with fail
  rw [← HW.out]
  clear HW
  go_loopg [4, 3] 3 (fun gk iv mv wr => ∃ (j m : Nat), j + gk = 3 ∧ iv = .int .i64 j ∧ mv = .int .i64 m ∧ Hid (m = sumLen (s.lv.take j)) ∧ Hid (∀ i l, i < j → s.lv[i]? = some l → LevOk i l.ts) ∧ Hid (Below W.heap.size W wr))
  case atStart => exact ⟨0, 0, rfl, rfl, rfl, Lib.hid rfl, Lib.hid (fun i l h => by omega), Lib.hid (Below.refl _ _)⟩
  case round =>
    obtain ⟨j, m, hj, rfl, rfl, HSM, HPRE, HBw⟩ := hrel
    by_cases hlt : j < 3
    case neg =>
      have hj3 : j = 3 := by omega
      subst hj3
      have HLEV := Lib.hid (show ∀ (i : Nat) l, s.says.lv[i]? = some l → LevOk i l from fun i l hl => by
        rw [HSAY.out, List.getElem?_map] at hl
        obtain ⟨x, hx, rfl⟩ := Option.map_eq_some_iff.1 hl
        obtain ⟨h3, _⟩ := List.getElem?_eq_some_iff.1 hx
        rw [HL3.out] at h3
        exact HPRE.out i x h3 hx)
      have HMANY := Lib.hid (show 0 < m ↔ ∃ l ∈ s.says.lv, l ≠ [] from by
        have h := HSM.out
        rw [List.take_of_length_le (by rw [HL3.out]; exact Nat.le_refl _)] at h
        rw [h, sumLen_pos, HSAY.out]
        simp only [List.mem_map]
        constructor
        · rintro ⟨x, hx, h1⟩; exact ⟨_, ⟨x, hx, rfl⟩, h1⟩
        · rintro ⟨_, ⟨x, hx, rfl⟩, h1⟩; exact ⟨x, hx, h1⟩)
      have HR := Lib.hid (HEND.out (decide (0 < m)) wr HBw.out ⟨fun h => ⟨HLEV.out, HMANY.out.1 (of_decide_eq_true h)⟩, fun h => decide_eq_true (HMANY.out.2 h.many)⟩)
      go_wp2_with fail
      go_ret
      exact HR.out
    have hlt' : (j : Int) < 3 := by omega
    have hj0 : (0 : Int) ≤ (j : Int) := by omega
    obtain ⟨l, hl⟩ : ∃ l, s.lv[j]? = some l := ⟨_, List.getElem?_eq_getElem (by rw [HL3.out]; exact hlt)⟩
    have HL := Lib.hid hl
    have HLO := Lib.hid (HOK.out l (List.mem_of_getElem? hl))
    have HN := Lib.hid (show l.ts.length ≤ 1000000 from HNN.out l (List.mem_of_getElem? HL.out))
    obtain ⟨n, hn⟩ : ∃ n, n = l.ts.length := ⟨_, rfl⟩
    obtain ⟨la, hla⟩ : ∃ x, x = l.a := ⟨_, rfl⟩
    have hlv : lvV l = .slice la n l.cap := by rw [hn, hla]
    have HCJ := Lib.hid (show ∀ u, Below W.heap.size W u → u.cell? ⟨w.heap.size, 1 + j, none⟩ = some (.slice la n l.cap) from fun u hu => by rw [← hlv]; exact HC.out j l HL.out u hu)
    have HNL := Lib.hid hn
    have HLA := Lib.hid hla
    have hsum : m + n ≤ 4000000 := by
      have h1 := sumLen_le (ls := s.lv.take j) (fun x hx => HNN.out x (List.mem_of_mem_take hx))
      have h2 : (s.lv.take j).length ≤ 3 := by rw [List.length_take, HL3.out]; omega
      have h3 := HSM.out
      have h4 := HN.out
      have h5 : (s.lv.take j).length * 1000000 ≤ 3 * 1000000 := Nat.mul_le_mul_right _ h2
      rw [hn]
      omega
    have HSUM := Lib.hid hsum
    have hnb : n ≤ 1000000 := by rw [hn]; exact HN.out
    clear hl hlv hn hla hsum
    go_upto_region 6 with fail
    obtain ⟨g1, hg1⟩ : ∃ x, x = gk := ⟨_, rfl⟩
    subst hg1
    obtain ⟨wo, hwo⟩ : ∃ x, x = wr := ⟨_, rfl⟩
    subst hwo
    go_loopg [5, 3] n (fun gk iv mv wr => ∃ i : Nat, i + gk = n ∧ iv = .int .i64 i ∧ mv = .int .i64 ((m + i : Nat) : Int) ∧ Hid (LevTo j l.ts i) ∧ Hid (Below W.heap.size W wr))
    case atStart => exact ⟨0, by omega, rfl, rfl, Lib.hid (fun k t h => by omega), HBw⟩
    case round =>
      obtain ⟨i, hi, rfl, rfl, HLT, HBq⟩ := hrel
      have c1 := HCJ.out wr HBq.out
      by_cases hlti : i < n
      case neg =>
        have hie : l.ts.length ≤ i := by have := HNL.out; omega
        have HALL := Lib.hid (show ∀ q x, q < j + 1 → s.lv[q]? = some x → LevOk q x.ts from fun q x hq hx => by
          rcases Nat.lt_or_eq_of_le (Nat.le_of_lt_succ hq) with h1 | h1
          · exact HPRE.out q x h1 hx
          · subst h1
            rw [HL.out] at hx
            cases hx
            exact HLT.out.all hie)
        have HSM2 := Lib.hid (show m + i = sumLen (s.lv.take (j + 1)) from by
          have hjl : j < s.lv.length := by rw [HL3.out]; exact hlt
          have hg : s.lv[j] = l := by have := HL.out; rw [List.getElem?_eq_getElem hjl] at this; exact Option.some.inj this
          have := HNL.out
          rw [List.take_succ_eq_append_getElem hjl, sumLen_snoc, hg, ← HSM.out]
          omega)
        have hwj : IntKind.i64.wrap ((j : Int) + 1) = (j : Int) + 1 := IntWalk.i64_in _ (by omega)
        have hni : ¬ (i : Int) < (n : Int) := by omega
        go_wp2_with fail
        go_roundg (g1 - 1)
        case measure => omega
        case rel => exact ⟨j + 1, m + i, by omega, by go_num, rfl, HSM2, HALL, HBq⟩
      have hil : i < l.ts.length := by have := HNL.out; omega
      have HLE := Lib.hid (List.getElem?_eq_getElem hil)
      obtain ⟨b, o, ha, hlb, hcx⟩ := HLO.out.tabs.get i hil
      obtain ⟨k, hk⟩ : ∃ k : Nat, k = i - 1 := ⟨_, rfl⟩
      have HBqw := Lib.hid (show ∀ u, Below W.heap.size W u → Below w.heap.size w u from fun u hu => HB.out.trans (hu.mono HB.out.size))
      obtain ⟨ph, HPH, HPC⟩ : ∃ ph : ByteArray, Hid (∀ u : Tb, 0 < i → l.ts[i - 1]? = some u → u.high = ph) ∧ Hid (∀ u, Below w.heap.size w u → u.cell? ⟨b, o + k * 4 + 3, none⟩ = some (.string ph)) := by
        have hil1 : i - 1 < l.ts.length := by omega
        obtain ⟨b', o', he', _, hcy⟩ := HLO.out.tabs.get (i - 1) hil1
        rw [ha] at he'
        injection he' with he'
        cases he'
        exact ⟨l.ts[i - 1].high, Lib.hid (fun y _ hy => by rw [List.getElem?_eq_getElem hil1] at hy; injection hy with hy; rw [← hy]), Lib.hid (fun u hu => by rw [hk]; exact (hu.cell (p := ⟨b, _, none⟩) hlb).trans (hcy 3 _ rfl))⟩
      generalize l.ts[i] = t at HLE hcx
      have hbw := HBqw.out wr HBq.out
      have g0 := (hbw.cell (p := ⟨b, _, none⟩) hlb).trans (hcx 0 _ rfl)
      have g1 := (hbw.cell (p := ⟨b, _, none⟩) hlb).trans (hcx 1 _ rfl)
      have g2 := (hbw.cell (p := ⟨b, _, none⟩) hlb).trans (hcx 2 _ rfl)
      have g3 := (hbw.cell (p := ⟨b, _, none⟩) hlb).trans (hcx 3 _ rfl)
      simp only [Nat.add_zero] at g0
      obtain ⟨X, hX⟩ : ∃ X : World, X = wr.alloc (.cells #[.int .u64 t.file, .int .u32 t.bytes, .string t.low, .string t.high] (51)) := ⟨_, rfl⟩
      have hBX : Below wr.heap.size wr X := by rw [hX]; exact (Below.refl _ _).alloc (Nat.le_refl _) _
      have hx1 : X.heap[wr.heap.size]? = some (.cells #[.int .u64 t.file, .int .u32 t.bytes, .string t.low, .string t.high] (51) (0, 0)) := by rw [hX]; exact blk_new_at rfl _
      have HBX := Lib.hid (HBq.out.trans (hBX.mono HBq.out.size))
      have hi0 : (0 : Int) ≤ (i : Int) := by omega
      have hi1 : (i : Int) < (n : Int) := by omega
      have hwi : IntKind.i64.wrap ((i : Int) + 1) = (i : Int) + 1 := IntWalk.i64_in _ (by omega)
      have hwm : IntKind.i64.wrap (((m + i : Nat) : Int) + 1) = ((m + (i + 1) : Nat) : Int) := by rw [IntWalk.i64_in _ (by have := HSUM.out; omega)]; omega
      have hwm2 : IntKind.i64.wrap ((m : Int) + (i : Int) + 1) = ((m + (i + 1) : Nat) : Int) := by rw [IntWalk.i64_in _ (by have := HSUM.out; omega)]; omega
      have HWK := Lib.hid (show 0 < i → IntKind.i64.wrap ((i : Int) - 1) = (k : Int) from fun h => by rw [IntWalk.i64_in _ (by omega)]; omega)
      have hk0 : (0 : Int) ≤ (k : Int) := by omega
      have hk1 : (k : Int) < (n : Int) := by omega
      have HX := Lib.hid hX
      have ha := HLA.out.trans ha
      clear hcx hBX hk hil hbw
      subst ha
      have HBAD := Lib.hid (badT_iff (j := j) HLE.out HPH.out)
      have HKP : Hid (∀ u, Below X.heap.size X u → u.cell? ⟨wr.heap.size, 2, none⟩ = some (.string t.low) ∧ u.cell? ⟨wr.heap.size, 3, none⟩ = some (.string t.high) ∧ u.cell? ⟨w.heap.size, 1 + j, none⟩ = some (.slice (some ⟨b, o, none⟩) n l.cap) ∧ u.cell? ⟨b, o + k * 4 + 3, none⟩ = some (.string ph)) := Lib.hid (fun u hu => by
        have e0 := cell_of_blk (blk_below hx1 hu (lt_of_blk hx1)) 2
        have e1 := cell_of_blk (blk_below hx1 hu (lt_of_blk hx1)) 3
        simp at e0 e1
        have hBu := HBX.out.trans (hu.mono HBX.out.size)
        exact ⟨e0, e1, HCJ.out u hBu, HPC.out u (HBqw.out u hBu)⟩)
      clear hX hx1
      go_upto_region 10 with fail
      rw [← HX.out]
      clear g0 g1 g2 g3 c1
      refine Rf.sh10_all HKP HWK.out hk0 hk1 hj0 hlt' (by rintro ch ⟨t, d⟩ ⟨t', d'⟩ w' rfl h; exact h) ?_
      intro v29 v30 v31 v32 v33 v34 v35 v36 v37 v38 v39 v40 v41 v42 v43 v44 v45 v46 v47 v48 v49 v50 v51 v52 v53 v54 v55 v56 v57 v58 v59 v60 v61 v62 v63 v64 v65 v66 wq hbu
      have HBu := Lib.hid (HBX.out.trans (hbu.mono HBX.out.size))
      clear hbu
      cases hbad : Rf.badT j i t.low t.high ph with
      | true =>
        have HF := Lib.hid (show ¬ MayS s.says from HOUT.out j l HL.out (fun g => by
          have := HBAD.out.2 (g i t HLE.out)
          rw [hbad] at this
          cases this))
        clear hbad
        go_wp2
        go_ret
        exact HEND.out _ _ HBu.out ⟨(fun h => by cases h), fun h => absurd h HF.out⟩
      | false =>
        have HOKT := Lib.hid (HLT.out.snoc HLE.out (HBAD.out.1 hbad))
        clear hbad
        go_wp2
        go_roundg (gk - 1)
        case measure => omega
        case rel => exact ⟨i + 1, by omega, by go_num, by go_num, HOKT, HBu⟩
end Go.Proofs.YtchcelodeepjdaaGreatDoor.Ln

namespace Go.Herb
open Go

theorem take_flat {α : Type} {f : α → List Int} (l : List α) (k : Nat) : ((l.take k).flatMap f).length ≤ (l.flatMap f).length := by
  have e : l.flatMap f = (l.take k).flatMap f ++ (l.drop k).flatMap f := by rw [← List.flatMap_append, List.take_append_drop]
  rw [e, List.length_append]
  omega
theorem take_flat1 {α : Type} {f : α → List Int} {l : List α} {k : Nat} {x : α} (h : l[k]? = some x) : ((l.take k).flatMap f).length + (f x).length ≤ (l.flatMap f).length := by
  obtain ⟨hk, rfl⟩ := List.getElem?_eq_some_iff.1 h
  have e := take_flat (f := f) l (k + 1)
  rw [List.take_succ_eq_append_getElem hk, List.flatMap_append, List.length_append] at e
  simpa using e
theorem flat_snoc {α : Type} {f : α → List Int} {l : List α} {k : Nat} {x : α} (h : l[k]? = some x) : (l.take (k + 1)).flatMap f = (l.take k).flatMap f ++ f x := by
  obtain ⟨hk, rfl⟩ := List.getElem?_eq_some_iff.1 h
  rw [List.take_succ_eq_append_getElem hk, List.flatMap_append]
  simp
end Go.Herb
namespace Go.Proofs.YtchcelodeepjdaaGreatDoor.Ln
open Go.RowKit Go.Shelf Go.Herb

def lvE (l : Lv) : List Int := levL l.ts
def sdE (s : Sv) : List Int := sdL s.says
theorem sdE_eq (s : Sv) : sdE s = numsL [s.line] ++ s.lv.flatMap lvE := by
  unfold sdE sdL
  have e : s.says.lv = s.lv.map (·.ts) := rfl
  rw [e, List.flatMap_map]
  rfl
theorem shL_eq (xs : List Sv) : shL (xs.map Sv.says) = numsL [(xs.length : Int)] ++ xs.flatMap sdE := by
  unfold shL
  rw [List.length_map, List.flatMap_map]
  rfl
/-- Tables' keys, as long as a shelf's may be. -/
def KeysOk (xs : List Sv) : Prop := ∀ s ∈ xs, ∀ l ∈ s.lv, l.ts.length < 1000000 ∧ ∀ t ∈ l.ts, (0 < t.low.size ∧ t.low.size ≤ 32) ∧ (0 < t.high.size ∧ t.high.size ≤ 32)
theorem numsL_one (x : Int) : numsL [x] = putN x.toNat := by simp [numsL]
set_option maxRecDepth 100000 in
set_option maxHeartbeats 4000000 in
theorem shelvesT_any (p : Nat) (bs : List Int) (sa : Option Addr) (sc n : Nat) (xs : List Sv) (w : World) (hL : LayAt w p bs) (hS : ∀ u, TurnI p w u → ShIn u sa xs) (hn : xs.length = n) (hk : KeysOk xs) (hn2 : n < 1000000)
    (hl : bs.length + 10 + (xs.flatMap sdE).length < 700000000) :
    Calls Tryz.prog (38) #[.pointer (some ⟨p, 0, none⟩), .slice sa n sc] w (LayPost p (bs ++ shL (xs.map Sv.says)) w) := by
  have HN0 := Lib.hid (nums1 p w.heap.size bs (n : Int) w rfl hL (u64_len (n := n) (by omega)) (by omega))
  have HS := Lib.hid hS
  have HN := Lib.hid hn
  have HK := Lib.hid hk
  have wn := wrap_len (n := n) (by omega)
  obtain ⟨D1, hD1⟩ : ∃ D, D = bs ++ numsL [(n : Int)] := ⟨_, rfl⟩
  have HD1 := Lib.hid (show bs ++ shL (xs.map Sv.says) = D1 ++ xs.flatMap sdE from by rw [shL_eq, hn, hD1, List.append_assoc])
  have HLD := Lib.hid (show D1.length + (xs.flatMap sdE).length < 700000000 from by
    rw [hD1, List.length_append]
    have h1 := numsL_len [(n : Int)] (by intro x hx; rw [List.mem_singleton.1 hx]; exact u64_len (n := n) (by omega))
    have h2 : [(n : Int)].length = 1 := rfl
    omega)
  rw [← hD1] at HN0
  rw [HD1.out]
  clear hL hS hn hk hl hD1
  go_enter Tryz.func38, Tryz.ntmps38
  go_upto_region 2 with (go_at_call 41; refine HN0.out.mono ?_; rintro e w1 ⟨rfl, hL1, hT1⟩; have HL1 := Lib.hid hL1; have HT1 := Lib.hid hT1; clear hL1 hT1)
  clear HN0
  go_loopg [18] n (fun gk iv wr => ∃ k : Nat, k + gk = n ∧ iv = .int .i64 k ∧ Hid (LayAt wr p (D1 ++ (xs.take k).flatMap sdE)) ∧ Hid (TurnI p w wr))
  case atStart => exact ⟨0, by omega, rfl, Lib.hid (by simpa using HL1.out), HT1⟩
  case round =>
    obtain ⟨k, hk, rfl, HLk, HTk⟩ := hrel
    by_cases hlt : k < n
    · have hkl : k < xs.length := by have := HN.out; omega
      obtain ⟨b, o, hsa, hlb, hcx⟩ := (HS.out wr HTk.out).els.get k hkl
      have hgk : xs[k]? = some xs[k] := List.getElem?_eq_getElem hkl
      have HOK := Lib.hid (fun (u : World) (hu : TurnI p w u) => (HS.out u hu).ok _ (List.getElem_mem hkl))
      have HKS := Lib.hid (HK.out _ (List.getElem_mem hkl))
      generalize xs[k] = s at hcx hgk HOK HKS
      have g0 := hcx 0 _ rfl
      have g1 := hcx 1 _ rfl
      have g2 := hcx 2 _ rfl
      have g3 := hcx 3 _ rfl
      simp only [Nat.add_zero] at g0
      obtain ⟨A, hA⟩ : ∃ A : World, A = wr.alloc (.cells #[.int .u64 s.line, lvV s.l0, lvV s.l1, lvV s.l2] (57)) := ⟨_, rfl⟩
      have hBA : Below wr.heap.size wr A := by rw [hA]; exact (Below.refl _ _).alloc (Nat.le_refl _) _
      have HXA := Lib.hid (show A.heap[wr.heap.size]? = some (.cells #[.int .u64 s.line, lvV s.l0, lvV s.l1, lvV s.l2] (57) (0, 0)) from by rw [hA]; exact blk_new_at rfl _)
      have hpr := HLk.out.lt
      obtain ⟨E, hE⟩ : ∃ E, E = D1 ++ (xs.take k).flatMap sdE := ⟨_, rfl⟩
      have HEL := Lib.hid (show E.length + (sdE s).length < 700000000 from by
        rw [hE, List.length_append]
        have h1 := take_flat1 (f := sdE) hgk
        have h2 := HLD.out
        omega)
      have HEN := Lib.hid (show D1 ++ (xs.take (k + 1)).flatMap sdE = E ++ sdE s from by rw [flat_snoc hgk, ← List.append_assoc, ← hE])
      rw [← hE] at HLk
      have HTA := Lib.hid (HTk.out.trans (TurnI.of_below hBA))
      have hAs : A.heap.size = wr.heap.size + 1 := by rw [hA]; simp
      have HNS := Lib.hid (nums1 p A.heap.size E s.line A rfl (HLk.out.ext hBA) (HOK.out w (TurnI.refl w)).wf (by have := HEL.out; omega))
      obtain ⟨E1, hE1⟩ : ∃ D, D = E ++ numsL [s.line] := ⟨_, rfl⟩
      have HE1L := Lib.hid (show E1.length + (s.lv.flatMap lvE).length < 700000000 from by
        have h1 := HEL.out
        rw [sdE_eq, List.length_append] at h1
        rw [hE1, List.length_append]
        omega)
      have HE1N := Lib.hid (show E ++ sdE s = E1 ++ s.lv.flatMap lvE from by rw [sdE_eq, hE1, List.append_assoc])
      rw [← hE1, hAs] at HNS
      have HA := Lib.hid hA
      have i0 : (0 : Int) ≤ (k : Int) := by omega
      have i1 : (k : Int) < (n : Int) := by omega
      have hw1 : IntKind.i64.wrap ((k : Int) + 1) = (k : Int) + 1 := IntWalk.i64_in _ (by omega)
      rw [hA] at HNS
      clear hcx hBA hE hE1 hAs hA hgk HLk
      rw [hsa]
      go_upto_region 5 with (go_at_call 41; refine HNS.out.mono ?_; rw [← HA.out]; rintro e w2 ⟨rfl, hL2, hT2⟩; have HL2 := Lib.hid hL2; have hx2 := blk_turn HXA.out hT2 (by omega); have HT2 := Lib.hid (HTA.out.trans hT2); clear hL2 hT2)
      have d1 := cell_of_blk hx2 1
      have d2 := cell_of_blk hx2 2
      have d3 := cell_of_blk hx2 3
      simp at d1 d2 d3
      clear hx2 g0 g1 g2 g3 HNS
      have HIX := Lib.hid (run_index3 (lvV s.l0) (lvV s.l1) (lvV s.l2))
      have HGET := Lib.hid s.lv_get
      have HS3 := Lib.hid (show s.lv.length = 3 from rfl)
      obtain ⟨g9, hg9⟩ : ∃ g9, g9 = gk := ⟨_, rfl⟩
      rw [← hg9] at hk
      have HG9 := Lib.hid hg9
      clear hg9
      go_upto_region 6 with fail
      clear d1 d2 d3
      go_loopg [29] 3 (fun gq iv w3 => ∃ q : Nat, q + gq = 3 ∧ iv = .int .i64 q ∧ Hid (LayAt w3 p (E1 ++ (s.lv.take q).flatMap lvE)) ∧ Hid (TurnI p w w3))
      case atStart => exact ⟨0, rfl, rfl, Lib.hid (by simpa using HL2.out), HT2⟩
      case round =>
        obtain ⟨q, hq, rfl, HLq, HTq⟩ := hrel
        by_cases hltq : q < 3
        · have j1 : (q : Int) < 3 := by omega
          obtain ⟨l, hlq, hv⟩ := HGET.out q hltq
          have hix := HIX.out _ q hv
          have HLO := Lib.hid (show ∀ u, TurnI p w u → LvOk u l from fun u hu => by
            have hm := List.mem_of_getElem? hlq
            simp only [Sv.lv, List.mem_cons, List.not_mem_nil, or_false] at hm
            rcases hm with rfl | rfl | rfl
            · exact (HOK.out u hu).l0
            · exact (HOK.out u hu).l1
            · exact (HOK.out u hu).l2)
          have HKL := Lib.hid (HKS.out l (List.mem_of_getElem? hlq))
          obtain ⟨m, hm⟩ : ∃ m, m = l.ts.length := ⟨_, rfl⟩
          have hlv : lvV l = .slice l.a m l.cap := by rw [hm]
          rw [hlv] at hix
          have hmb : m < 1000000 := by rw [hm]; exact HKL.out.1
          have HM := Lib.hid hm
          obtain ⟨F, hF⟩ : ∃ F, F = E1 ++ (s.lv.take q).flatMap lvE := ⟨_, rfl⟩
          have HFL := Lib.hid (show F.length + (lvE l).length < 700000000 from by
            rw [hF, List.length_append]
            have h1 := take_flat1 (f := lvE) hlq
            have h2 := HE1L.out
            omega)
          have HFN := Lib.hid (show E1 ++ (s.lv.take (q + 1)).flatMap lvE = F ++ lvE l from by rw [flat_snoc hlq, ← List.append_assoc, ← hF])
          rw [← hF] at HLq
          have hum := u64_len (n := m) (by omega)
          have HNQ := Lib.hid (nums1 p wr.heap.size F (m : Int) wr rfl HLq.out hum (by have := HFL.out; omega))
          obtain ⟨F1, hF1⟩ : ∃ D, D = F ++ numsL [(m : Int)] := ⟨_, rfl⟩
          have HF1L := Lib.hid (show F1.length + (l.ts.flatMap tbL).length < 700000000 from by
            have h1 := HFL.out
            unfold lvE levL at h1
            rw [List.length_append, ← hm] at h1
            rw [hF1, List.length_append]
            omega)
          have HF1N := Lib.hid (show F ++ lvE l = F1 ++ l.ts.flatMap tbL from by unfold lvE levL; rw [hF1, List.append_assoc, hm])
          rw [← hF1] at HNQ
          have wm := wrap_len (n := m) (by omega)
          have hw2 : IntKind.i64.wrap ((q : Int) + 1) = (q : Int) + 1 := IntWalk.i64_in _ (by omega)
          have j0 : (0 : Int) ≤ (q : Int) := by omega
          clear hv hlv hm hF hF1 hum hlq
          obtain ⟨g8, hg8⟩ : ∃ g8, g8 = gk := ⟨_, rfl⟩
          rw [← hg8] at hq
          have HG8 := Lib.hid hg8
          clear hg8
          go_upto_region 10 with (go_at_call 41; refine HNQ.out.mono ?_; rintro e w4 ⟨rfl, hL4, hT4⟩; have HL4 := Lib.hid hL4; have HT4 := Lib.hid (HTq.out.trans hT4); clear hL4 hT4)
          clear HNQ
          go_loopg [40] m (fun gj iv w5 => ∃ j : Nat, j + gj = m ∧ iv = .int .i64 j ∧ Hid (LayAt w5 p (F1 ++ (l.ts.take j).flatMap tbL)) ∧ Hid (TurnI p w w5))
          case atStart => exact ⟨0, by omega, rfl, Lib.hid (by simpa using HL4.out), HT4⟩
          case round =>
            obtain ⟨j, hj, rfl, HLj, HTj⟩ := hrel
            by_cases hltj : j < m
            · have hjl : j < l.ts.length := by have := HM.out; omega
              obtain ⟨tb, tO, hta, htb, htc⟩ := (HLO.out wr HTj.out).tabs.get j hjl
              have hgj : l.ts[j]? = some l.ts[j] := List.getElem?_eq_getElem hjl
              have HTW := Lib.hid ((HLO.out w (TurnI.refl w)).wf _ (List.getElem_mem hjl))
              have HTKy := Lib.hid (HKL.out.2 _ (List.getElem_mem hjl))
              generalize l.ts[j] = t at htc hgj HTW HTKy
              have g0 := htc 0 _ rfl
              have g1 := htc 1 _ rfl
              have g2 := htc 2 _ rfl
              have g3 := htc 3 _ rfl
              simp only [Nat.add_zero] at g0
              obtain ⟨A, hA⟩ : ∃ A : World, A = wr.alloc (.cells #[.int .u64 t.file, .int .u32 t.bytes, .string t.low, .string t.high] (51)) := ⟨_, rfl⟩
              have hBA : Below wr.heap.size wr A := by rw [hA]; exact (Below.refl _ _).alloc (Nat.le_refl _) _
              have HXA := Lib.hid (show A.heap[wr.heap.size]? = some (.cells #[.int .u64 t.file, .int .u32 t.bytes, .string t.low, .string t.high] (51) (0, 0)) from by rw [hA]; exact blk_new_at rfl _)
              have hpr := HLj.out.lt
              obtain ⟨G, hG⟩ : ∃ G, G = F1 ++ (l.ts.take j).flatMap tbL := ⟨_, rfl⟩
              have HGL := Lib.hid (show G.length + (tbL t).length < 700000000 from by
                rw [hG, List.length_append]
                have h1 := take_flat1 (f := tbL) hgj
                have h2 := HF1L.out
                omega)
              have HGN := Lib.hid (show F1 ++ (l.ts.take (j + 1)).flatMap tbL = G ++ tbL t from by rw [flat_snoc hgj, ← List.append_assoc, ← hG])
              rw [← hG] at HLj
              have HTA := Lib.hid (HTj.out.trans (TurnI.of_below hBA))
              have hAs : A.heap.size = wr.heap.size + 1 := by rw [hA]; simp
              have wt : IntKind.u64.wrap t.bytes = t.bytes := by rw [IntKind.wrap_u64]; have := HTW.out.2.1; omega
              have ubt : U64 t.bytes := by
                unfold U64
                simp [Lit.wf, IntKind.min, IntKind.max, IntKind.signed, IntKind.bits]
                have := HTW.out.2.1
                omega
              have HNJ := Lib.hid (nums2 p A.heap.size G t.file t.bytes A rfl (HLj.out.ext hBA) HTW.out.1 ubt (by have := HGL.out; omega))
              obtain ⟨G1, hG1⟩ : ∃ D, D = G ++ numsL [t.file, t.bytes] := ⟨_, rfl⟩
              obtain ⟨G2, hG2⟩ : ∃ D, D = G1 ++ putT t.low := ⟨_, rfl⟩
              have hG3 : G ++ tbL t = G2 ++ putT t.high := by unfold tbL; rw [hG2, hG1]; simp only [List.append_assoc]
              have HG1L := Lib.hid (show G1.length < 700000000 ∧ G2.length < 700000000 from by
                have h1 := HGL.out
                have h2 := congrArg List.length hG3
                rw [List.length_append, List.length_append] at h2
                have h3 := congrArg List.length hG2
                rw [List.length_append] at h3
                omega)
              have HG3 := Lib.hid hG3
              rw [← hG1, hAs] at HNJ
              have HTL := Lib.hid (fun (u : World) (hu : LayAt u p G1) => text_at p G1 t.low u hu (by have := HG1L.out; have := HTKy.out; omega) HTKy.out.1.1)
              rw [← hG2] at HTL
              have HTH := Lib.hid (fun (u : World) (hu : LayAt u p G2) => text_at p G2 t.high u hu (by have := HG1L.out; have := HTKy.out; omega) HTKy.out.2.1)
              rw [← hG3] at HTH
              have HA := Lib.hid hA
              have l0 : (0 : Int) ≤ (j : Int) := by omega
              have l1 : (j : Int) < (m : Int) := by omega
              have hw3 : IntKind.i64.wrap ((j : Int) + 1) = (j : Int) + 1 := IntWalk.i64_in _ (by omega)
              rw [hA] at HNJ
              clear htc hBA hG hG1 hG2 hG3 hAs hA hgj ubt
              rw [hta]
              go_wp2_with (first
                | (go_at_call 41; refine HNJ.out.mono ?_; rw [← HA.out]; rintro e w6 ⟨rfl, hL6, hT6⟩; have HL6 := Lib.hid hL6; have hx6 := blk_turn HXA.out hT6 (by omega); have HX6 := Lib.hid hx6; have HT6 := Lib.hid (HTA.out.trans hT6); have e2 := cell_of_blk hx6 2; simp at e2; clear hL6 hT6 hx6 g0 g1 g2 g3)
                | (go_at_call 78; refine (HTL.out _ HL6.out).mono ?_; rintro e w7 ⟨rfl, hL7, hT7⟩; have HL7 := Lib.hid hL7; have hx7 := blk_turn HX6.out hT7 (by omega); have HT7 := Lib.hid (HT6.out.trans hT7); have e3 := cell_of_blk hx7 3; simp at e3; clear hL7 hT7 hx7 e2 HTL)
                | (go_at_call 78; refine (HTH.out _ HL7.out).mono ?_; rintro e w8 ⟨rfl, hL8, hT8⟩; have HL8 := Lib.hid hL8; have HT8 := Lib.hid (HT7.out.trans hT8); clear hL8 hT8))
              rw [← hta]
              go_roundg (gk - 1)
              case measure => omega
              case rel => exact ⟨j + 1, by omega, by go_num, Lib.hid (by rw [HGN.out]; exact HL8.out), HT8⟩
            · have l1 : ¬ (j : Int) < (m : Int) := by omega
              have HLE := Lib.hid (show LayAt wr p (E1 ++ (s.lv.take (q + 1)).flatMap lvE) from by
                have := HLj.out
                rw [List.take_of_length_le (by have := HM.out; omega), ← HF1N.out, ← HFN.out] at this
                exact this)
              go_wp2_with fail
              go_roundg (g8 - 1)
              case measure => have := HG8.out; omega
              case rel => exact ⟨q + 1, by omega, by go_num, HLE, HTj⟩
        · have j1 : ¬ (q : Int) < 3 := by omega
          have HLE := Lib.hid (show LayAt wr p (D1 ++ (xs.take (k + 1)).flatMap sdE) from by
            have := HLq.out
            rw [List.take_of_length_le (by have := HS3.out; omega), ← HE1N.out, ← HEN.out] at this
            exact this)
          go_wp2_with fail
          rw [← hsa]
          go_roundg (g9 - 1)
          case measure => have := HG9.out; omega
          case rel => exact ⟨k + 1, by omega, by go_num, HLE, HTq⟩
    · have i1 : ¬ (k : Int) < (n : Int) := by omega
      have HE := Lib.hid (show LayAt wr p (D1 ++ xs.flatMap sdE) from by
        have := HLk.out
        rwa [List.take_of_length_le (by have := HN.out; omega)] at this)
      go_wp2_with fail
      go_end0
      exact ⟨rfl, HE.out, HTk.out⟩
theorem shelves_any (p : Nat) (bs : List Int) (sa : Option Addr) (sc n : Nat) (xs : List Sv) (w0 w : World) (hL : LayAt w p bs) (hS : ShIn w0 sa xs) (hn : xs.length = n) (hB : Below w0.heap.size w0 w) (hp : w0.heap.size ≤ p) (hk : KeysOk xs) (hn2 : n < 1000000)
    (hl : bs.length + 10 + (xs.flatMap sdE).length < 700000000) :
    Calls Tryz.prog (38) #[.pointer (some ⟨p, 0, none⟩), .slice sa n sc] w (LayPost p (bs ++ shL (xs.map Sv.says)) w) :=
  shelvesT_any p bs sa sc n xs w hL (fun _ hu => hS.ext (hu.below hB hp (Nat.le_refl _))) hn hk hn2 hl
end Go.Proofs.YtchcelodeepjdaaGreatDoor.Ln

namespace Go.Herb
open Go

/-- A number back: from place i on, with what the places ahead tell. -/
def getA : Nat → Nat → List Int → Option (Nat × List Int)
  | _, _, [] => none
  | i, n, c :: l => if (0 < i ∧ c = 0) ∨ (i = 9 ∧ 1 < c) then none else if c < 128 then some (n + c.toNat * 128 ^ i, l) else getA (i + 1) (n + (c.toNat - 128) * 128 ^ i) l
theorem getA_cons (i n : Nat) (c : Int) (l : List Int) : getA i n (c :: l) = if (0 < i ∧ c = 0) ∨ (i = 9 ∧ 1 < c) then none else if c < 128 then some (n + c.toNat * 128 ^ i, l) else getA (i + 1) (n + (c.toNat - 128) * 128 ^ i) l := rfl
def getN (l : List Int) : Option (Nat × List Int) := getA 0 0 l
def strOf (l : List Int) : ByteArray := ⟨(l.map (fun c => UInt8.ofNat c.toNat)).toArray⟩
def getT (l : List Int) : Option (ByteArray × List Int) := match getN l with
  | none => none
  | some (n, r) => if n ≤ r.length then some (strOf (r.take n), r.drop n) else none
abbrev Ps (α : Type) := List Int → Option (α × List Int)
def repP {α : Type} (p : Ps α) : Nat → Ps (List α)
  | 0, l => some ([], l)
  | k + 1, l => match p l with
    | none => none
    | some (x, r) => match repP p k r with
      | none => none
      | some (xs, r) => some (x :: xs, r)
theorem repP_succ {α : Type} (p : Ps α) (k : Nat) (l : List Int) : repP p (k + 1) l = match p l with
    | none => none
    | some (x, r) => match repP p k r with
      | none => none
      | some (xs, r) => some (x :: xs, r) := rfl
def manyP {α : Type} (p : Ps α) : Ps (List α) := fun l => match getN l with
  | none => none
  | some (n, r) => if n ≤ r.length then repP p n r else none
theorem numsL_one (n : Nat) : numsL [(n : Int)] = putN n := by simp [numsL]
end Go.Herb

namespace Go.Herb
open Go

end Go.Herb
namespace Go.Proofs.YtchcelodeepjdaaGreatDoor.Ln
open Go.RowKit Go.Shelf Go.Herb

/-- A byte. -/
def U8 (y : Int) : Prop := 0 ≤ y ∧ y < 256
/-- A reader: where what it has still to read lies: below B. -/
structure ReadAt (w : World) (p B : Nat) (ys : List Int) : Prop where
  blk : ∃ a cap, w.heap[p]? = some (.cells #[.slice a ys.length cap] (124) (0, 0)) ∧ Byt w a ys ∧ (a = none → cap = 0) ∧ ys.length ≤ cap ∧ (ys ≠ [] → ∀ ad, a = some ad → ad.block < B)
  u8 : ∀ y ∈ ys, U8 y
  len : ys.length < 1000000000
  low : B ≤ p
theorem ReadAt.lt {w : World} {p B : Nat} {ys : List Int} (h : ReadAt w p B ys) : p < w.heap.size := by
  obtain ⟨a, cap, h1, -⟩ := h.blk
  exact lt_of_blk h1
/-- Of two worlds that have the same blocks where they lie. -/
theorem els_kept {α : Type} {enc : α → List Value} {s B : Nat} {w w' : World} {a : Option Addr} {xs : List α} (h : Els enc s w a xs) (hb : xs ≠ [] → ∀ ad, a = some ad → ad.block < B) (hk : ∀ b o, w.heap[b]? = some o → b < B → w'.heap[b]? = some o) : Els enc s w' a xs :=
  ⟨fun i hi => by
    obtain ⟨b, o, ha, hlt, hc⟩ := h.get i hi
    have hbB : b < B := hb (fun e => by rw [e] at hi; exact absurd hi (Nat.not_lt_zero _)) _ ha
    have hkb := hk b _ (Array.getElem?_eq_getElem hlt) hbB
    refine ⟨b, o, ha, lt_of_blk hkb, fun j c hj => ?_⟩
    rw [← hc j c hj]
    unfold World.cell?
    simp only [hkb, Array.getElem?_eq_getElem hlt]⟩
theorem ReadAt.kept {w w' : World} {p B : Nat} {ys : List Int} (h : ReadAt w p B ys) (hk : ∀ b o, w.heap[b]? = some o → b < B ∨ b = p → w'.heap[b]? = some o) : ReadAt w' p B ys := by
  obtain ⟨a, cap, h1, h2, h3, h4, h5⟩ := h.blk
  exact ⟨⟨a, cap, hk p _ h1 (.inr rfl), els_kept h2 h5 (fun _ _ hb hlt => hk _ _ hb (.inl hlt)), h3, h4, h5⟩, h.u8, h.len, h.low⟩
theorem ReadAt.ext {w w' : World} {p B : Nat} {ys : List Int} (h : ReadAt w p B ys) (hb : Below w.heap.size w w') : ReadAt w' p B ys := h.kept (fun _ _ ho _ => blk_below ho hb (lt_of_blk ho))
theorem ReadAt.set {w : World} {p B b j : Nat} {ys : List Int} (h : ReadAt w p B ys) (hb : B ≤ b) (hp : b ≠ p) (v : Value) : ReadAt (w.setCell ⟨b, j, none⟩ v) p B ys :=
  h.kept (fun k o ho hk => blk_setCell_other ho (show k ≠ b by omega) v)
end Go.Proofs.YtchcelodeepjdaaGreatDoor.Ln

namespace Go.Herb
open Go

def tbP : Ps Tb := fun l => match getN l with
  | none => none
  | some (f, l1) => match getN l1 with
    | none => none
    | some (b, l2) => if b ≤ 4294967295 then (match getT l2 with
        | none => none
        | some (lo, l3) => match getT l3 with
          | none => none
          | some (hi, l4) => some (⟨f, b, lo, hi⟩, l4)) else none
/-- Behind k of n readings. -/
def StepP {α : Type} (p : Ps α) (n k : Nat) (l0 : List Int) (xs : List α) (l : List Int) : Prop := repP p n l0 = (repP p (n - k) l).map (fun q => (xs ++ q.1, q.2))
theorem StepP.zero {α : Type} (p : Ps α) (n : Nat) (l0 : List Int) : StepP p n 0 l0 [] l0 := by
  unfold StepP
  simp
theorem repP_pos {α : Type} (p : Ps α) (k : Nat) (hk : 0 < k) (l : List Int) : repP p k l = match p l with
    | none => none
    | some (x, r) => match repP p (k - 1) r with
      | none => none
      | some (xs, r) => some (x :: xs, r) := by
  obtain ⟨j, rfl⟩ : ∃ j, k = j + 1 := ⟨k - 1, by omega⟩
  exact repP_succ p j l
theorem StepP.step {α : Type} {p : Ps α} {n k : Nat} {l0 l l2 : List Int} {xs : List α} {x : α} (h : StepP p n k l0 xs l) (hk : k < n) (hx : p l = some (x, l2)) : StepP p n (k + 1) l0 (xs ++ [x]) l2 := by
  unfold StepP at h ⊢
  rw [h, repP_pos p (n - k) (by omega), hx, show n - k - 1 = n - (k + 1) from by omega]
  simp only
  cases repP p (n - (k + 1)) l2 with
  | none => rfl
  | some q => simp
theorem StepP.fail {α : Type} {p : Ps α} {n k : Nat} {l0 l : List Int} {xs : List α} (h : StepP p n k l0 xs l) (hk : k < n) (hx : p l = none) : repP p n l0 = none := by
  unfold StepP at h
  rw [h, repP_pos p (n - k) (by omega), hx]
  rfl
theorem StepP.done {α : Type} {p : Ps α} {n : Nat} {l0 l : List Int} {xs : List α} (h : StepP p n n l0 xs l) : repP p n l0 = some (xs, l) := by
  unfold StepP at h
  rw [h, Nat.sub_self]
  simp [repP]
def brP : Ps Br := fun l => match getT l with
  | none => none
  | some (s, l1) => match getN l1 with
    | none => none
    | some (a, l2) => match getN l2 with
      | none => none
      | some (b, l3) => some ((s, (a : Int), (b : Int)), l3)
def lnP : Ps Ln := fun l => match getN l with
  | none => none
  | some (a, l1) => match getN l1 with
    | none => none
    | some (b, l2) => some (((a : Int), (b : Int)), l2)
def ptP : Ps (Int × Int) := lnP
def vcP : Ps (Int × Bh) := fun l => match getN l with
  | none => none
  | some (a, l1) => match manyP ptP l1 with
    | none => none
    | some (ps, l2) => some (((a : Int), ps), l2)
def levP : Ps (List Tb) := manyP tbP
def sdP : Ps Sd := fun l => match getN l with
  | none => none
  | some (a, l1) => match repP levP 3 l1 with
    | none => none
    | some (lv, l2) => some (⟨(a : Int), lv⟩, l2)
def shP : Ps (List Sd) := manyP sdP
/-- A root but for its shelves. -/
def rtP : Ps Rt := fun l => match getN l with
  | none => none
  | some (s, l1) => match getN l1 with
    | none => none
    | some (g, l2) => match getN l2 with
      | none => none
      | some (n, l3) => match manyP brP l3 with
        | none => none
        | some (bs, l4) => match manyP lnP l4 with
          | none => none
          | some (ls, l5) => match manyP vcP l5 with
            | none => none
            | some (vs, l6) => some (⟨s, g, n, bs, ls, vs, []⟩, l6)
end Go.Herb
namespace Go.Proofs.YtchcelodeepjdaaGreatDoor.Ln
open Go.RowKit Go.Shelf Go.Herb

theorem turn_set {p b j : Nat} {w u : World} (h : TurnI p w u) (hb : w.heap.size ≤ b) (v : Value) : TurnI p w (u.setCell ⟨b, j, none⟩ v) :=
  ⟨h.os, h.tape, h.output, Nat.le_trans h.size (by simp [World.setCell]), fun k _ ho hk => blk_setCell_other (h.kept k _ ho hk) (show k ≠ b by have := lt_of_blk ho; omega) v⟩
/-- A reader, and a box of the call's own. -/
structure RS (p B : Nat) (w u : World) (ys : List Int) (bx : Nat) (cs : Array Value) (t : TypeId) : Prop where
  read : ReadAt u p B ys
  box : u.heap[bx]? = some (.cells cs t (0, 0))
  turn : TurnI p w u
  hp : p < w.heap.size
  hb : w.heap.size ≤ bx
theorem RS.next {p B bx : Nat} {w u u' : World} {ys zs : List Int} {cs : Array Value} {t : TypeId} (h : RS p B w u ys bx cs t) (ht : TurnI p u u') (hr : ReadAt u' p B zs) : RS p B w u' zs bx cs t :=
  ⟨hr, ht.kept bx _ h.box (by have := h.hp; have := h.hb; omega), h.turn.trans ht, h.hp, h.hb⟩
theorem RS.store {p B bx : Nat} {w u : World} {ys : List Int} {cs : Array Value} {t : TypeId} (h : RS p B w u ys bx cs t) (j : Nat) (v : Value) (cs' : Array Value) (hc : cs.setIfInBounds j v = cs') : RS p B w (u.setCell ⟨bx, j, none⟩ v) ys bx cs' t :=
  ⟨h.read.set (by have := h.read.low; have := h.hp; have := h.hb; omega) (by have := h.hp; have := h.hb; omega) v, by rw [← hc]; exact blk_setCell h.box v, turn_set h.turn h.hb v, h.hp, h.hb⟩
theorem RS.name {p B bx : Nat} {w u : World} {ys : List Int} {cs : Array Value} {t : TypeId} (_ : RS p B w u ys bx cs t) : ∃ Z, Z = u := ⟨u, rfl⟩
end Go.Proofs.YtchcelodeepjdaaGreatDoor.Ln
