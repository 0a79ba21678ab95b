/- manifests: laying's shelves. Condition: their bytes are fewer than 700000000, their keys not empty. · Records back from bytes, as plain lists. No condition. -/
import Derived.Test.YtchcelodeepjdaaGreatDoorZN
import Derived.Test.YtchcelodeepjdaaGreatDoorZE
import Derived.Test.YtchcelodeepjdaaGreatDoorZC
namespace Go.Herb
open Go

theorem take_flat {α : Type} {f : α → List Int} (l : List α) (k : Nat) : ((l.take k).flatMap f).length ≤ (l.flatMap f).length := by
  have e : l.flatMap f = (l.take k).flatMap f ++ (l.drop k).flatMap f := by rw [← List.flatMap_append, List.take_append_drop]
  rw [e, List.length_append]
  omega
theorem take_flat1 {α : Type} {f : α → List Int} {l : List α} {k : Nat} {x : α} (h : l[k]? = some x) : ((l.take k).flatMap f).length + (f x).length ≤ (l.flatMap f).length := by
  obtain ⟨hk, rfl⟩ := List.getElem?_eq_some_iff.1 h
  have e := take_flat (f := f) l (k + 1)
  rw [List.take_succ_eq_append_getElem hk, List.flatMap_append, List.length_append] at e
  simpa using e
theorem flat_snoc {α : Type} {f : α → List Int} {l : List α} {k : Nat} {x : α} (h : l[k]? = some x) : (l.take (k + 1)).flatMap f = (l.take k).flatMap f ++ f x := by
  obtain ⟨hk, rfl⟩ := List.getElem?_eq_some_iff.1 h
  rw [List.take_succ_eq_append_getElem hk, List.flatMap_append]
  simp
end Go.Herb
namespace Go.Proofs.YtchcelodeepjdaaGreatDoor.Ln
open Go.RowKit Go.Shelf Go.Herb

def lvE (l : Lv) : List Int := levL l.ts
def sdE (s : Sv) : List Int := sdL s.says
theorem sdE_eq (s : Sv) : sdE s = numsL [s.line] ++ s.lv.flatMap lvE := by
  unfold sdE sdL
  have e : s.says.lv = s.lv.map (·.ts) := rfl
  rw [e, List.flatMap_map]
  rfl
theorem shL_eq (xs : List Sv) : shL (xs.map Sv.says) = numsL [(xs.length : Int)] ++ xs.flatMap sdE := by
  unfold shL
  rw [List.length_map, List.flatMap_map]
  rfl
/-- Tables' keys, as long as a shelf's may be. -/
def KeysOk (xs : List Sv) : Prop := ∀ s ∈ xs, ∀ l ∈ s.lv, l.ts.length < 1000000 ∧ ∀ t ∈ l.ts, (0 < t.low.size ∧ t.low.size ≤ 32) ∧ (0 < t.high.size ∧ t.high.size ≤ 32)
theorem numsL_one (x : Int) : numsL [x] = putN x.toNat := by simp [numsL]
set_option maxRecDepth 100000 in
set_option maxHeartbeats 4000000 in
theorem shelves_any (p : Nat) (bs : List Int) (sa : Option Addr) (sc n : Nat) (xs : List Sv) (w0 w : World) (hL : LayAt w p bs) (hS : ShIn w0 sa xs) (hn : xs.length = n) (hB : Below w0.heap.size w0 w) (hp : w0.heap.size ≤ p) (hk : KeysOk xs) (hn2 : n < 1000000)
    (hl : bs.length + 10 + (xs.flatMap sdE).length < 700000000) :
    Calls Tryz.prog (38) #[.pointer (some ⟨p, 0, none⟩), .slice sa n sc] w (LayPost p (bs ++ shL (xs.map Sv.says)) w) := by
  have HN0 := Lib.hid (nums1 p w.heap.size bs (n : Int) w rfl hL (u64_len (n := n) (by omega)) (by omega))
  have HS := Lib.hid hS
  have HN := Lib.hid hn
  have HK := Lib.hid hk
  have HB0 := Lib.hid (show ∀ u, TurnI p w u → Below w0.heap.size w0 u from fun u hu => hu.below hB hp (Nat.le_refl _))
  have wn := wrap_len (n := n) (by omega)
  obtain ⟨D1, hD1⟩ : ∃ D, D = bs ++ numsL [(n : Int)] := ⟨_, rfl⟩
  have HD1 := Lib.hid (show bs ++ shL (xs.map Sv.says) = D1 ++ xs.flatMap sdE from by rw [shL_eq, hn, hD1, List.append_assoc])
  have HLD := Lib.hid (show D1.length + (xs.flatMap sdE).length < 700000000 from by
    rw [hD1, List.length_append]
    have h1 := numsL_len [(n : Int)] (by intro x hx; rw [List.mem_singleton.1 hx]; exact u64_len (n := n) (by omega))
    have h2 : [(n : Int)].length = 1 := rfl
    omega)
  rw [← hD1] at HN0
  rw [HD1.out]
  clear hL hS hn hk hB hl hD1
  go_enter Tryz.func38, Tryz.ntmps38
  go_upto_region 2 with (go_at_call 41; refine HN0.out.mono ?_; rintro e w1 ⟨rfl, hL1, hT1⟩; have HL1 := Lib.hid hL1; have HT1 := Lib.hid hT1; clear hL1 hT1)
  clear HN0
  go_loopg [18] n (fun gk iv wr => ∃ k : Nat, k + gk = n ∧ iv = .int .i64 k ∧ Hid (LayAt wr p (D1 ++ (xs.take k).flatMap sdE)) ∧ Hid (TurnI p w wr))
  case atStart => exact ⟨0, by omega, rfl, Lib.hid (by simpa using HL1.out), HT1⟩
  case round =>
    obtain ⟨k, hk, rfl, HLk, HTk⟩ := hrel
    by_cases hlt : k < n
    · have hkl : k < xs.length := by have := HN.out; omega
      obtain ⟨b, o, hsa, hlb, hcx⟩ := (HS.out.els.ext (HB0.out wr HTk.out)).get k hkl
      have hgk : xs[k]? = some xs[k] := List.getElem?_eq_getElem hkl
      have HOK := Lib.hid (HS.out.ok _ (List.getElem_mem hkl))
      have HKS := Lib.hid (HK.out _ (List.getElem_mem hkl))
      generalize xs[k] = s at hcx hgk HOK HKS
      have g0 := hcx 0 _ rfl
      have g1 := hcx 1 _ rfl
      have g2 := hcx 2 _ rfl
      have g3 := hcx 3 _ rfl
      simp only [Nat.add_zero] at g0
      obtain ⟨A, hA⟩ : ∃ A : World, A = wr.alloc (.cells #[.int .u64 s.line, lvV s.l0, lvV s.l1, lvV s.l2] (57)) := ⟨_, rfl⟩
      have hBA : Below wr.heap.size wr A := by rw [hA]; exact (Below.refl _ _).alloc (Nat.le_refl _) _
      have HXA := Lib.hid (show A.heap[wr.heap.size]? = some (.cells #[.int .u64 s.line, lvV s.l0, lvV s.l1, lvV s.l2] (57) (0, 0)) from by rw [hA]; exact blk_new_at rfl _)
      have hpr := HLk.out.lt
      obtain ⟨E, hE⟩ : ∃ E, E = D1 ++ (xs.take k).flatMap sdE := ⟨_, rfl⟩
      have HEL := Lib.hid (show E.length + (sdE s).length < 700000000 from by
        rw [hE, List.length_append]
        have h1 := take_flat1 (f := sdE) hgk
        have h2 := HLD.out
        omega)
      have HEN := Lib.hid (show D1 ++ (xs.take (k + 1)).flatMap sdE = E ++ sdE s from by rw [flat_snoc hgk, ← List.append_assoc, ← hE])
      rw [← hE] at HLk
      have HTA := Lib.hid (HTk.out.trans (TurnI.of_below hBA))
      have hAs : A.heap.size = wr.heap.size + 1 := by rw [hA]; simp
      have HNS := Lib.hid (nums1 p A.heap.size E s.line A rfl (HLk.out.ext hBA) HOK.out.wf (by have := HEL.out; omega))
      obtain ⟨E1, hE1⟩ : ∃ D, D = E ++ numsL [s.line] := ⟨_, rfl⟩
      have HE1L := Lib.hid (show E1.length + (s.lv.flatMap lvE).length < 700000000 from by
        have h1 := HEL.out
        rw [sdE_eq, List.length_append] at h1
        rw [hE1, List.length_append]
        omega)
      have HE1N := Lib.hid (show E ++ sdE s = E1 ++ s.lv.flatMap lvE from by rw [sdE_eq, hE1, List.append_assoc])
      rw [← hE1, hAs] at HNS
      have HA := Lib.hid hA
      have i0 : (0 : Int) ≤ (k : Int) := by omega
      have i1 : (k : Int) < (n : Int) := by omega
      have hw1 : IntKind.i64.wrap ((k : Int) + 1) = (k : Int) + 1 := IntWalk.i64_in _ (by omega)
      rw [hA] at HNS
      clear hcx hBA hE hE1 hAs hA hgk HLk
      rw [hsa]
      go_upto_region 5 with (go_at_call 41; refine HNS.out.mono ?_; rw [← HA.out]; rintro e w2 ⟨rfl, hL2, hT2⟩; have HL2 := Lib.hid hL2; have hx2 := blk_turn HXA.out hT2 (by omega); have HT2 := Lib.hid (HTA.out.trans hT2); clear hL2 hT2)
      have d1 := cell_of_blk hx2 1
      have d2 := cell_of_blk hx2 2
      have d3 := cell_of_blk hx2 3
      simp at d1 d2 d3
      clear hx2 g0 g1 g2 g3 HNS
      have HIX := Lib.hid (run_index3 (lvV s.l0) (lvV s.l1) (lvV s.l2))
      have HGET := Lib.hid s.lv_get
      have HS3 := Lib.hid (show s.lv.length = 3 from rfl)
      obtain ⟨g9, hg9⟩ : ∃ g9, g9 = gk := ⟨_, rfl⟩
      rw [← hg9] at hk
      have HG9 := Lib.hid hg9
      clear hg9
      go_upto_region 6 with fail
      clear d1 d2 d3
      go_loopg [29] 3 (fun gq iv w3 => ∃ q : Nat, q + gq = 3 ∧ iv = .int .i64 q ∧ Hid (LayAt w3 p (E1 ++ (s.lv.take q).flatMap lvE)) ∧ Hid (TurnI p w w3))
      case atStart => exact ⟨0, rfl, rfl, Lib.hid (by simpa using HL2.out), HT2⟩
      case round =>
        obtain ⟨q, hq, rfl, HLq, HTq⟩ := hrel
        by_cases hltq : q < 3
        · have j1 : (q : Int) < 3 := by omega
          obtain ⟨l, hlq, hv⟩ := HGET.out q hltq
          have hix := HIX.out _ q hv
          have HLO := Lib.hid (show LvOk w0 l from by
            have hm := List.mem_of_getElem? hlq
            simp only [Sv.lv, List.mem_cons, List.not_mem_nil, or_false] at hm
            rcases hm with rfl | rfl | rfl
            · exact HOK.out.l0
            · exact HOK.out.l1
            · exact HOK.out.l2)
          have HKL := Lib.hid (HKS.out l (List.mem_of_getElem? hlq))
          obtain ⟨m, hm⟩ : ∃ m, m = l.ts.length := ⟨_, rfl⟩
          have hlv : lvV l = .slice l.a m l.cap := by rw [hm]
          rw [hlv] at hix
          have hmb : m < 1000000 := by rw [hm]; exact HKL.out.1
          have HM := Lib.hid hm
          obtain ⟨F, hF⟩ : ∃ F, F = E1 ++ (s.lv.take q).flatMap lvE := ⟨_, rfl⟩
          have HFL := Lib.hid (show F.length + (lvE l).length < 700000000 from by
            rw [hF, List.length_append]
            have h1 := take_flat1 (f := lvE) hlq
            have h2 := HE1L.out
            omega)
          have HFN := Lib.hid (show E1 ++ (s.lv.take (q + 1)).flatMap lvE = F ++ lvE l from by rw [flat_snoc hlq, ← List.append_assoc, ← hF])
          rw [← hF] at HLq
          have hum := u64_len (n := m) (by omega)
          have HNQ := Lib.hid (nums1 p wr.heap.size F (m : Int) wr rfl HLq.out hum (by have := HFL.out; omega))
          obtain ⟨F1, hF1⟩ : ∃ D, D = F ++ numsL [(m : Int)] := ⟨_, rfl⟩
          have HF1L := Lib.hid (show F1.length + (l.ts.flatMap tbL).length < 700000000 from by
            have h1 := HFL.out
            unfold lvE levL at h1
            rw [List.length_append, ← hm] at h1
            rw [hF1, List.length_append]
            omega)
          have HF1N := Lib.hid (show F ++ lvE l = F1 ++ l.ts.flatMap tbL from by unfold lvE levL; rw [hF1, List.append_assoc, hm])
          rw [← hF1] at HNQ
          have wm := wrap_len (n := m) (by omega)
          have hw2 : IntKind.i64.wrap ((q : Int) + 1) = (q : Int) + 1 := IntWalk.i64_in _ (by omega)
          have j0 : (0 : Int) ≤ (q : Int) := by omega
          clear hv hlv hm hF hF1 hum hlq
          obtain ⟨g8, hg8⟩ : ∃ g8, g8 = gk := ⟨_, rfl⟩
          rw [← hg8] at hq
          have HG8 := Lib.hid hg8
          clear hg8
          go_upto_region 10 with (go_at_call 41; refine HNQ.out.mono ?_; rintro e w4 ⟨rfl, hL4, hT4⟩; have HL4 := Lib.hid hL4; have HT4 := Lib.hid (HTq.out.trans hT4); clear hL4 hT4)
          clear HNQ
          go_loopg [40] m (fun gj iv w5 => ∃ j : Nat, j + gj = m ∧ iv = .int .i64 j ∧ Hid (LayAt w5 p (F1 ++ (l.ts.take j).flatMap tbL)) ∧ Hid (TurnI p w w5))
          case atStart => exact ⟨0, by omega, rfl, Lib.hid (by simpa using HL4.out), HT4⟩
          case round =>
            obtain ⟨j, hj, rfl, HLj, HTj⟩ := hrel
            by_cases hltj : j < m
            · have hjl : j < l.ts.length := by have := HM.out; omega
              obtain ⟨tb, tO, hta, htb, htc⟩ := (HLO.out.tabs.ext (HB0.out wr HTj.out)).get j hjl
              have hgj : l.ts[j]? = some l.ts[j] := List.getElem?_eq_getElem hjl
              have HTW := Lib.hid (HLO.out.wf _ (List.getElem_mem hjl))
              have HTKy := Lib.hid (HKL.out.2 _ (List.getElem_mem hjl))
              generalize l.ts[j] = t at htc hgj HTW HTKy
              have g0 := htc 0 _ rfl
              have g1 := htc 1 _ rfl
              have g2 := htc 2 _ rfl
              have g3 := htc 3 _ rfl
              simp only [Nat.add_zero] at g0
              obtain ⟨A, hA⟩ : ∃ A : World, A = wr.alloc (.cells #[.int .u64 t.file, .int .u32 t.bytes, .string t.low, .string t.high] (51)) := ⟨_, rfl⟩
              have hBA : Below wr.heap.size wr A := by rw [hA]; exact (Below.refl _ _).alloc (Nat.le_refl _) _
              have HXA := Lib.hid (show A.heap[wr.heap.size]? = some (.cells #[.int .u64 t.file, .int .u32 t.bytes, .string t.low, .string t.high] (51) (0, 0)) from by rw [hA]; exact blk_new_at rfl _)
              have hpr := HLj.out.lt
              obtain ⟨G, hG⟩ : ∃ G, G = F1 ++ (l.ts.take j).flatMap tbL := ⟨_, rfl⟩
              have HGL := Lib.hid (show G.length + (tbL t).length < 700000000 from by
                rw [hG, List.length_append]
                have h1 := take_flat1 (f := tbL) hgj
                have h2 := HF1L.out
                omega)
              have HGN := Lib.hid (show F1 ++ (l.ts.take (j + 1)).flatMap tbL = G ++ tbL t from by rw [flat_snoc hgj, ← List.append_assoc, ← hG])
              rw [← hG] at HLj
              have HTA := Lib.hid (HTj.out.trans (TurnI.of_below hBA))
              have hAs : A.heap.size = wr.heap.size + 1 := by rw [hA]; simp
              have wt : IntKind.u64.wrap t.bytes = t.bytes := by rw [IntKind.wrap_u64]; have := HTW.out.2.1; omega
              have ubt : U64 t.bytes := by
                unfold U64
                simp [Lit.wf, IntKind.min, IntKind.max, IntKind.signed, IntKind.bits]
                have := HTW.out.2.1
                omega
              have HNJ := Lib.hid (nums2 p A.heap.size G t.file t.bytes A rfl (HLj.out.ext hBA) HTW.out.1 ubt (by have := HGL.out; omega))
              obtain ⟨G1, hG1⟩ : ∃ D, D = G ++ numsL [t.file, t.bytes] := ⟨_, rfl⟩
              obtain ⟨G2, hG2⟩ : ∃ D, D = G1 ++ putT t.low := ⟨_, rfl⟩
              have hG3 : G ++ tbL t = G2 ++ putT t.high := by unfold tbL; rw [hG2, hG1]; simp only [List.append_assoc]
              have HG1L := Lib.hid (show G1.length < 700000000 ∧ G2.length < 700000000 from by
                have h1 := HGL.out
                have h2 := congrArg List.length hG3
                rw [List.length_append, List.length_append] at h2
                have h3 := congrArg List.length hG2
                rw [List.length_append] at h3
                omega)
              have HG3 := Lib.hid hG3
              rw [← hG1, hAs] at HNJ
              have HTL := Lib.hid (fun (u : World) (hu : LayAt u p G1) => text_at p G1 t.low u hu (by have := HG1L.out; have := HTKy.out; omega) HTKy.out.1.1)
              rw [← hG2] at HTL
              have HTH := Lib.hid (fun (u : World) (hu : LayAt u p G2) => text_at p G2 t.high u hu (by have := HG1L.out; have := HTKy.out; omega) HTKy.out.2.1)
              rw [← hG3] at HTH
              have HA := Lib.hid hA
              have l0 : (0 : Int) ≤ (j : Int) := by omega
              have l1 : (j : Int) < (m : Int) := by omega
              have hw3 : IntKind.i64.wrap ((j : Int) + 1) = (j : Int) + 1 := IntWalk.i64_in _ (by omega)
              rw [hA] at HNJ
              clear htc hBA hG hG1 hG2 hG3 hAs hA hgj ubt
              rw [hta]
              go_wp2_with (first
                | (go_at_call 41; refine HNJ.out.mono ?_; rw [← HA.out]; rintro e w6 ⟨rfl, hL6, hT6⟩; have HL6 := Lib.hid hL6; have hx6 := blk_turn HXA.out hT6 (by omega); have HX6 := Lib.hid hx6; have HT6 := Lib.hid (HTA.out.trans hT6); have e2 := cell_of_blk hx6 2; simp at e2; clear hL6 hT6 hx6 g0 g1 g2 g3)
                | (go_at_call 78; refine (HTL.out _ HL6.out).mono ?_; rintro e w7 ⟨rfl, hL7, hT7⟩; have HL7 := Lib.hid hL7; have hx7 := blk_turn HX6.out hT7 (by omega); have HT7 := Lib.hid (HT6.out.trans hT7); have e3 := cell_of_blk hx7 3; simp at e3; clear hL7 hT7 hx7 e2 HTL)
                | (go_at_call 78; refine (HTH.out _ HL7.out).mono ?_; rintro e w8 ⟨rfl, hL8, hT8⟩; have HL8 := Lib.hid hL8; have HT8 := Lib.hid (HT7.out.trans hT8); clear hL8 hT8))
              rw [← hta]
              go_roundg (gk - 1)
              case measure => omega
              case rel => exact ⟨j + 1, by omega, by go_num, Lib.hid (by rw [HGN.out]; exact HL8.out), HT8⟩
            · have l1 : ¬ (j : Int) < (m : Int) := by omega
              have HLE := Lib.hid (show LayAt wr p (E1 ++ (s.lv.take (q + 1)).flatMap lvE) from by
                have := HLj.out
                rw [List.take_of_length_le (by have := HM.out; omega), ← HF1N.out, ← HFN.out] at this
                exact this)
              go_wp2_with fail
              go_roundg (g8 - 1)
              case measure => have := HG8.out; omega
              case rel => exact ⟨q + 1, by omega, by go_num, HLE, HTj⟩
        · have j1 : ¬ (q : Int) < 3 := by omega
          have HLE := Lib.hid (show LayAt wr p (D1 ++ (xs.take (k + 1)).flatMap sdE) from by
            have := HLq.out
            rw [List.take_of_length_le (by have := HS3.out; omega), ← HE1N.out, ← HEN.out] at this
            exact this)
          go_wp2_with fail
          rw [← hsa]
          go_roundg (g9 - 1)
          case measure => have := HG9.out; omega
          case rel => exact ⟨k + 1, by omega, by go_num, HLE, HTq⟩
    · have i1 : ¬ (k : Int) < (n : Int) := by omega
      have HE := Lib.hid (show LayAt wr p (D1 ++ xs.flatMap sdE) from by
        have := HLk.out
        rwa [List.take_of_length_le (by have := HN.out; omega)] at this)
      go_wp2_with fail
      go_end0
      exact ⟨rfl, HE.out, HTk.out⟩
end Go.Proofs.YtchcelodeepjdaaGreatDoor.Ln

namespace Go.Herb
open Go

/-- A number back: from place i on, with what the places ahead tell. -/
def getA : Nat → Nat → List Int → Option (Nat × List Int)
  | _, _, [] => none
  | i, n, c :: l => if (0 < i ∧ c = 0) ∨ (i = 9 ∧ 1 < c) then none else if c < 128 then some (n + c.toNat * 128 ^ i, l) else getA (i + 1) (n + (c.toNat - 128) * 128 ^ i) l
theorem getA_cons (i n : Nat) (c : Int) (l : List Int) : getA i n (c :: l) = if (0 < i ∧ c = 0) ∨ (i = 9 ∧ 1 < c) then none else if c < 128 then some (n + c.toNat * 128 ^ i, l) else getA (i + 1) (n + (c.toNat - 128) * 128 ^ i) l := rfl
def getN (l : List Int) : Option (Nat × List Int) := getA 0 0 l
theorem getA_put : ∀ (n i acc : Nat) (l : List Int), n * 128 ^ i < 18446744073709551616 → (0 < i → 0 < n) → getA i acc (putN n ++ l) = some (acc + n * 128 ^ i, l) := by
  intro n
  induction n using Nat.strongRecOn with
  | ind n ih =>
    intro i acc l hn hp
    have h9 : i = 9 → n < 2 := fun h => by
      subst h
      rw [show (128 : Nat) ^ 9 = 9223372036854775808 from by decide +kernel] at hn
      omega
    by_cases h : n < 128
    · rw [putN_small h]
      show getA i acc ((n : Int) :: l) = _
      rw [getA_cons, if_neg ?_, if_pos (by omega), Int.toNat_natCast]
      rintro (⟨h1, h2⟩ | ⟨h1, h2⟩)
      · have := hp h1; omega
      · have := h9 h1; omega
    · rw [putN_big h]
      show getA i acc ((((n % 128 : Nat) : Int) + 128) :: (putN (n / 128) ++ l)) = _
      have e : n / 128 * 128 ^ (i + 1) = (128 * (n / 128)) * 128 ^ i := by rw [Nat.pow_succ, Nat.mul_comm (128 ^ i) 128, ← Nat.mul_assoc, Nat.mul_comm (n / 128) 128]
      have hd : n / 128 * 128 ^ (i + 1) ≤ n * 128 ^ i := by
        rw [e]
        exact Nat.mul_le_mul_right _ (Nat.mul_div_le n 128)
      rw [getA_cons, if_neg ?_, if_neg (by omega), ih (n / 128) (by omega) (i + 1) _ l (by omega) (fun _ => by omega)]
      · rw [show (((n % 128 : Nat) : Int) + 128).toNat - 128 = n % 128 from by omega, e, Nat.add_assoc, ← Nat.add_mul, Nat.mod_add_div]
      · rintro (⟨h1, h2⟩ | ⟨h1, h2⟩)
        · omega
        · have := h9 h1; omega
theorem getN_put (n : Nat) (l : List Int) (h : n < 18446744073709551616) : getN (putN n ++ l) = some (n, l) := by
  unfold getN
  rw [getA_put n 0 0 l (by simpa using h) (fun h => by omega)]
  simp
def strOf (l : List Int) : ByteArray := ⟨(l.map (fun c => UInt8.ofNat c.toNat)).toArray⟩
theorem strOf_strL (s : ByteArray) : strOf (strL s) = s := by
  obtain ⟨d⟩ := s
  unfold strOf strL
  rw [List.map_map]
  have : ((fun c : Int => UInt8.ofNat c.toNat) ∘ fun b : UInt8 => (b.toNat : Int)) = id := by funext b; simp
  rw [this, List.map_id]
def getT (l : List Int) : Option (ByteArray × List Int) := match getN l with
  | none => none
  | some (n, r) => if n ≤ r.length then some (strOf (r.take n), r.drop n) else none
theorem getT_put (s : ByteArray) (l : List Int) (h : s.size < 18446744073709551616) : getT (putT s ++ l) = some (s, l) := by
  unfold getT putT
  rw [List.append_assoc, getN_put _ _ h]
  have hl := strL_len s
  simp only
  rw [if_pos (by rw [List.length_append]; omega), List.take_append_of_le_length (by omega), List.take_of_length_le (by omega), List.drop_append_of_le_length (by omega), List.drop_of_length_le (by omega), strOf_strL]
  rfl

abbrev Ps (α : Type) := List Int → Option (α × List Int)
def repP {α : Type} (p : Ps α) : Nat → Ps (List α)
  | 0, l => some ([], l)
  | k + 1, l => match p l with
    | none => none
    | some (x, r) => match repP p k r with
      | none => none
      | some (xs, r) => some (x :: xs, r)
theorem repP_succ {α : Type} (p : Ps α) (k : Nat) (l : List Int) : repP p (k + 1) l = match p l with
    | none => none
    | some (x, r) => match repP p k r with
      | none => none
      | some (xs, r) => some (x :: xs, r) := rfl
def manyP {α : Type} (p : Ps α) : Ps (List α) := fun l => match getN l with
  | none => none
  | some (n, r) => if n ≤ r.length then repP p n r else none
theorem repP_put {α : Type} {p : Ps α} {f : α → List Int} : ∀ (xs : List α), (∀ x ∈ xs, ∀ l, p (f x ++ l) = some (x, l)) → ∀ l, repP p xs.length (xs.flatMap f ++ l) = some (xs, l)
  | [], _, l => rfl
  | x :: xs, h, l => by
    rw [List.length_cons, repP_succ, List.flatMap_cons, List.append_assoc, h x List.mem_cons_self]
    simp only
    rw [repP_put xs (fun y hy => h y (List.mem_cons_of_mem _ hy))]
theorem flatMap_many {α : Type} {f : α → List Int} : ∀ (xs : List α), (∀ x ∈ xs, 0 < (f x).length) → xs.length ≤ (xs.flatMap f).length
  | [], _ => Nat.le_refl _
  | x :: xs, h => by
    have h1 := h x List.mem_cons_self
    have h2 := flatMap_many xs (fun y hy => h y (List.mem_cons_of_mem _ hy))
    rw [List.flatMap_cons, List.length_append, List.length_cons]
    omega
theorem numsL_one (n : Nat) : numsL [(n : Int)] = putN n := by simp [numsL]
theorem manyP_put {α : Type} {p : Ps α} {f : α → List Int} (xs : List α) (h : ∀ x ∈ xs, ∀ l, p (f x ++ l) = some (x, l)) (hf : ∀ x ∈ xs, 0 < (f x).length) (hl : xs.length < 18446744073709551616) (l : List Int) :
    manyP p (numsL [(xs.length : Int)] ++ xs.flatMap f ++ l) = some (xs, l) := by
  unfold manyP
  rw [numsL_one, List.append_assoc, getN_put _ _ hl]
  have := flatMap_many xs hf
  simp only
  rw [if_pos (by rw [List.length_append]; omega), repP_put xs h]
end Go.Herb
