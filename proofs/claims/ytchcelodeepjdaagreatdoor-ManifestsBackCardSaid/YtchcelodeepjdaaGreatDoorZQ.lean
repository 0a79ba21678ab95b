/- manifests: laying's shelves. Condition: their bytes are fewer than 700000000, their keys not empty. · manifests: maps of shelves; byLine. Condition: fewer than 1000000 shelves. · delete(m, k) at a map of shelves. No condition. · manifests.Fold of no records; herbariumlaw20.first; herbariumlaw01.SameBytes. Condition: fewer than 1000000000 bytes. · herbariumlaw01.SameBytes; herbariumlaw20.lives. No condition. -/
import Derived.Test.YtchcelodeepjdaaGreatDoorZN
import Derived.Test.YtchcelodeepjdaaGreatDoorZE
import Derived.Defers
import Derived.Recover
namespace Go.Herb
open Go

theorem take_flat {α : Type} {f : α → List Int} (l : List α) (k : Nat) : ((l.take k).flatMap f).length ≤ (l.flatMap f).length := by
  have e : l.flatMap f = (l.take k).flatMap f ++ (l.drop k).flatMap f := by rw [← List.flatMap_append, List.take_append_drop]
  rw [e, List.length_append]
  omega
theorem take_flat1 {α : Type} {f : α → List Int} {l : List α} {k : Nat} {x : α} (h : l[k]? = some x) : ((l.take k).flatMap f).length + (f x).length ≤ (l.flatMap f).length := by
  obtain ⟨hk, rfl⟩ := List.getElem?_eq_some_iff.1 h
  have e := take_flat (f := f) l (k + 1)
  rw [List.take_succ_eq_append_getElem hk, List.flatMap_append, List.length_append] at e
  simpa using e
theorem flat_snoc {α : Type} {f : α → List Int} {l : List α} {k : Nat} {x : α} (h : l[k]? = some x) : (l.take (k + 1)).flatMap f = (l.take k).flatMap f ++ f x := by
  obtain ⟨hk, rfl⟩ := List.getElem?_eq_some_iff.1 h
  rw [List.take_succ_eq_append_getElem hk, List.flatMap_append]
  simp
end Go.Herb
namespace Go.Proofs.YtchcelodeepjdaaGreatDoor.Ln
open Go.RowKit Go.Shelf Go.Herb

def lvE (l : Lv) : List Int := levL l.ts
def sdE (s : Sv) : List Int := sdL s.says
theorem sdE_eq (s : Sv) : sdE s = numsL [s.line] ++ s.lv.flatMap lvE := by
  unfold sdE sdL
  have e : s.says.lv = s.lv.map (·.ts) := rfl
  rw [e, List.flatMap_map]
  rfl
theorem shL_eq (xs : List Sv) : shL (xs.map Sv.says) = numsL [(xs.length : Int)] ++ xs.flatMap sdE := by
  unfold shL
  rw [List.length_map, List.flatMap_map]
  rfl
/-- Tables' keys, as long as a shelf's may be. -/
def KeysOk (xs : List Sv) : Prop := ∀ s ∈ xs, ∀ l ∈ s.lv, l.ts.length < 1000000 ∧ ∀ t ∈ l.ts, (0 < t.low.size ∧ t.low.size ≤ 32) ∧ (0 < t.high.size ∧ t.high.size ≤ 32)
theorem numsL_one (x : Int) : numsL [x] = putN x.toNat := by simp [numsL]
set_option maxRecDepth 100000 in
set_option maxHeartbeats 4000000 in
theorem shelvesT_any (p : Nat) (bs : List Int) (sa : Option Addr) (sc n : Nat) (xs : List Sv) (w : World) (hL : LayAt w p bs) (hS : ∀ u, TurnI p w u → ShIn u sa xs) (hn : xs.length = n) (hk : KeysOk xs) (hn2 : n < 1000000)
    (hl : bs.length + 10 + (xs.flatMap sdE).length < 700000000) :
    Calls Tryz.prog (38) #[.pointer (some ⟨p, 0, none⟩), .slice sa n sc] w (LayPost p (bs ++ shL (xs.map Sv.says)) w) := by
  have HN0 := Lib.hid (nums1 p w.heap.size bs (n : Int) w rfl hL (u64_len (n := n) (by omega)) (by omega))
  have HS := Lib.hid hS
  have HN := Lib.hid hn
  have HK := Lib.hid hk
  have wn := wrap_len (n := n) (by omega)
  obtain ⟨D1, hD1⟩ : ∃ D, D = bs ++ numsL [(n : Int)] := ⟨_, rfl⟩
  have HD1 := Lib.hid (show bs ++ shL (xs.map Sv.says) = D1 ++ xs.flatMap sdE from by rw [shL_eq, hn, hD1, List.append_assoc])
  have HLD := Lib.hid (show D1.length + (xs.flatMap sdE).length < 700000000 from by
    rw [hD1, List.length_append]
    have h1 := numsL_len [(n : Int)] (by intro x hx; rw [List.mem_singleton.1 hx]; exact u64_len (n := n) (by omega))
    have h2 : [(n : Int)].length = 1 := rfl
    omega)
  rw [← hD1] at HN0
  rw [HD1.out]
  clear hL hS hn hk hl hD1
  go_enter Tryz.func38, Tryz.ntmps38
  go_upto_region 2 with (go_at_call 41; refine HN0.out.mono ?_; rintro e w1 ⟨rfl, hL1, hT1⟩; have HL1 := Lib.hid hL1; have HT1 := Lib.hid hT1; clear hL1 hT1)
  clear HN0
  go_loopg [18] n (fun gk iv wr => ∃ k : Nat, k + gk = n ∧ iv = .int .i64 k ∧ Hid (LayAt wr p (D1 ++ (xs.take k).flatMap sdE)) ∧ Hid (TurnI p w wr))
  case atStart => exact ⟨0, by omega, rfl, Lib.hid (by simpa using HL1.out), HT1⟩
  case round =>
    obtain ⟨k, hk, rfl, HLk, HTk⟩ := hrel
    by_cases hlt : k < n
    · have hkl : k < xs.length := by have := HN.out; omega
      obtain ⟨b, o, hsa, hlb, hcx⟩ := (HS.out wr HTk.out).els.get k hkl
      have hgk : xs[k]? = some xs[k] := List.getElem?_eq_getElem hkl
      have HOK := Lib.hid (fun (u : World) (hu : TurnI p w u) => (HS.out u hu).ok _ (List.getElem_mem hkl))
      have HKS := Lib.hid (HK.out _ (List.getElem_mem hkl))
      generalize xs[k] = s at hcx hgk HOK HKS
      have g0 := hcx 0 _ rfl
      have g1 := hcx 1 _ rfl
      have g2 := hcx 2 _ rfl
      have g3 := hcx 3 _ rfl
      simp only [Nat.add_zero] at g0
      obtain ⟨A, hA⟩ : ∃ A : World, A = wr.alloc (.cells #[.int .u64 s.line, lvV s.l0, lvV s.l1, lvV s.l2] (57)) := ⟨_, rfl⟩
      have hBA : Below wr.heap.size wr A := by rw [hA]; exact (Below.refl _ _).alloc (Nat.le_refl _) _
      have HXA := Lib.hid (show A.heap[wr.heap.size]? = some (.cells #[.int .u64 s.line, lvV s.l0, lvV s.l1, lvV s.l2] (57) (0, 0)) from by rw [hA]; exact blk_new_at rfl _)
      have hpr := HLk.out.lt
      obtain ⟨E, hE⟩ : ∃ E, E = D1 ++ (xs.take k).flatMap sdE := ⟨_, rfl⟩
      have HEL := Lib.hid (show E.length + (sdE s).length < 700000000 from by
        rw [hE, List.length_append]
        have h1 := take_flat1 (f := sdE) hgk
        have h2 := HLD.out
        omega)
      have HEN := Lib.hid (show D1 ++ (xs.take (k + 1)).flatMap sdE = E ++ sdE s from by rw [flat_snoc hgk, ← List.append_assoc, ← hE])
      rw [← hE] at HLk
      have HTA := Lib.hid (HTk.out.trans (TurnI.of_below hBA))
      have hAs : A.heap.size = wr.heap.size + 1 := by rw [hA]; simp
      have HNS := Lib.hid (nums1 p A.heap.size E s.line A rfl (HLk.out.ext hBA) (HOK.out w (TurnI.refl w)).wf (by have := HEL.out; omega))
      obtain ⟨E1, hE1⟩ : ∃ D, D = E ++ numsL [s.line] := ⟨_, rfl⟩
      have HE1L := Lib.hid (show E1.length + (s.lv.flatMap lvE).length < 700000000 from by
        have h1 := HEL.out
        rw [sdE_eq, List.length_append] at h1
        rw [hE1, List.length_append]
        omega)
      have HE1N := Lib.hid (show E ++ sdE s = E1 ++ s.lv.flatMap lvE from by rw [sdE_eq, hE1, List.append_assoc])
      rw [← hE1, hAs] at HNS
      have HA := Lib.hid hA
      have i0 : (0 : Int) ≤ (k : Int) := by omega
      have i1 : (k : Int) < (n : Int) := by omega
      have hw1 : IntKind.i64.wrap ((k : Int) + 1) = (k : Int) + 1 := IntWalk.i64_in _ (by omega)
      rw [hA] at HNS
      clear hcx hBA hE hE1 hAs hA hgk HLk
      rw [hsa]
      go_upto_region 5 with (go_at_call 41; refine HNS.out.mono ?_; rw [← HA.out]; rintro e w2 ⟨rfl, hL2, hT2⟩; have HL2 := Lib.hid hL2; have hx2 := blk_turn HXA.out hT2 (by omega); have HT2 := Lib.hid (HTA.out.trans hT2); clear hL2 hT2)
      have d1 := cell_of_blk hx2 1
      have d2 := cell_of_blk hx2 2
      have d3 := cell_of_blk hx2 3
      simp at d1 d2 d3
      clear hx2 g0 g1 g2 g3 HNS
      have HIX := Lib.hid (run_index3 (lvV s.l0) (lvV s.l1) (lvV s.l2))
      have HGET := Lib.hid s.lv_get
      have HS3 := Lib.hid (show s.lv.length = 3 from rfl)
      obtain ⟨g9, hg9⟩ : ∃ g9, g9 = gk := ⟨_, rfl⟩
      rw [← hg9] at hk
      have HG9 := Lib.hid hg9
      clear hg9
      go_upto_region 6 with fail
      clear d1 d2 d3
      go_loopg [29] 3 (fun gq iv w3 => ∃ q : Nat, q + gq = 3 ∧ iv = .int .i64 q ∧ Hid (LayAt w3 p (E1 ++ (s.lv.take q).flatMap lvE)) ∧ Hid (TurnI p w w3))
      case atStart => exact ⟨0, rfl, rfl, Lib.hid (by simpa using HL2.out), HT2⟩
      case round =>
        obtain ⟨q, hq, rfl, HLq, HTq⟩ := hrel
        by_cases hltq : q < 3
        · have j1 : (q : Int) < 3 := by omega
          obtain ⟨l, hlq, hv⟩ := HGET.out q hltq
          have hix := HIX.out _ q hv
          have HLO := Lib.hid (show ∀ u, TurnI p w u → LvOk u l from fun u hu => by
            have hm := List.mem_of_getElem? hlq
            simp only [Sv.lv, List.mem_cons, List.not_mem_nil, or_false] at hm
            rcases hm with rfl | rfl | rfl
            · exact (HOK.out u hu).l0
            · exact (HOK.out u hu).l1
            · exact (HOK.out u hu).l2)
          have HKL := Lib.hid (HKS.out l (List.mem_of_getElem? hlq))
          obtain ⟨m, hm⟩ : ∃ m, m = l.ts.length := ⟨_, rfl⟩
          have hlv : lvV l = .slice l.a m l.cap := by rw [hm]
          rw [hlv] at hix
          have hmb : m < 1000000 := by rw [hm]; exact HKL.out.1
          have HM := Lib.hid hm
          obtain ⟨F, hF⟩ : ∃ F, F = E1 ++ (s.lv.take q).flatMap lvE := ⟨_, rfl⟩
          have HFL := Lib.hid (show F.length + (lvE l).length < 700000000 from by
            rw [hF, List.length_append]
            have h1 := take_flat1 (f := lvE) hlq
            have h2 := HE1L.out
            omega)
          have HFN := Lib.hid (show E1 ++ (s.lv.take (q + 1)).flatMap lvE = F ++ lvE l from by rw [flat_snoc hlq, ← List.append_assoc, ← hF])
          rw [← hF] at HLq
          have hum := u64_len (n := m) (by omega)
          have HNQ := Lib.hid (nums1 p wr.heap.size F (m : Int) wr rfl HLq.out hum (by have := HFL.out; omega))
          obtain ⟨F1, hF1⟩ : ∃ D, D = F ++ numsL [(m : Int)] := ⟨_, rfl⟩
          have HF1L := Lib.hid (show F1.length + (l.ts.flatMap tbL).length < 700000000 from by
            have h1 := HFL.out
            unfold lvE levL at h1
            rw [List.length_append, ← hm] at h1
            rw [hF1, List.length_append]
            omega)
          have HF1N := Lib.hid (show F ++ lvE l = F1 ++ l.ts.flatMap tbL from by unfold lvE levL; rw [hF1, List.append_assoc, hm])
          rw [← hF1] at HNQ
          have wm := wrap_len (n := m) (by omega)
          have hw2 : IntKind.i64.wrap ((q : Int) + 1) = (q : Int) + 1 := IntWalk.i64_in _ (by omega)
          have j0 : (0 : Int) ≤ (q : Int) := by omega
          clear hv hlv hm hF hF1 hum hlq
          obtain ⟨g8, hg8⟩ : ∃ g8, g8 = gk := ⟨_, rfl⟩
          rw [← hg8] at hq
          have HG8 := Lib.hid hg8
          clear hg8
          go_upto_region 10 with (go_at_call 41; refine HNQ.out.mono ?_; rintro e w4 ⟨rfl, hL4, hT4⟩; have HL4 := Lib.hid hL4; have HT4 := Lib.hid (HTq.out.trans hT4); clear hL4 hT4)
          clear HNQ
          go_loopg [40] m (fun gj iv w5 => ∃ j : Nat, j + gj = m ∧ iv = .int .i64 j ∧ Hid (LayAt w5 p (F1 ++ (l.ts.take j).flatMap tbL)) ∧ Hid (TurnI p w w5))
          case atStart => exact ⟨0, by omega, rfl, Lib.hid (by simpa using HL4.out), HT4⟩
          case round =>
            obtain ⟨j, hj, rfl, HLj, HTj⟩ := hrel
            by_cases hltj : j < m
            · have hjl : j < l.ts.length := by have := HM.out; omega
              obtain ⟨tb, tO, hta, htb, htc⟩ := (HLO.out wr HTj.out).tabs.get j hjl
              have hgj : l.ts[j]? = some l.ts[j] := List.getElem?_eq_getElem hjl
              have HTW := Lib.hid ((HLO.out w (TurnI.refl w)).wf _ (List.getElem_mem hjl))
              have HTKy := Lib.hid (HKL.out.2 _ (List.getElem_mem hjl))
              generalize l.ts[j] = t at htc hgj HTW HTKy
              have g0 := htc 0 _ rfl
              have g1 := htc 1 _ rfl
              have g2 := htc 2 _ rfl
              have g3 := htc 3 _ rfl
              simp only [Nat.add_zero] at g0
              obtain ⟨A, hA⟩ : ∃ A : World, A = wr.alloc (.cells #[.int .u64 t.file, .int .u32 t.bytes, .string t.low, .string t.high] (51)) := ⟨_, rfl⟩
              have hBA : Below wr.heap.size wr A := by rw [hA]; exact (Below.refl _ _).alloc (Nat.le_refl _) _
              have HXA := Lib.hid (show A.heap[wr.heap.size]? = some (.cells #[.int .u64 t.file, .int .u32 t.bytes, .string t.low, .string t.high] (51) (0, 0)) from by rw [hA]; exact blk_new_at rfl _)
              have hpr := HLj.out.lt
              obtain ⟨G, hG⟩ : ∃ G, G = F1 ++ (l.ts.take j).flatMap tbL := ⟨_, rfl⟩
              have HGL := Lib.hid (show G.length + (tbL t).length < 700000000 from by
                rw [hG, List.length_append]
                have h1 := take_flat1 (f := tbL) hgj
                have h2 := HF1L.out
                omega)
              have HGN := Lib.hid (show F1 ++ (l.ts.take (j + 1)).flatMap tbL = G ++ tbL t from by rw [flat_snoc hgj, ← List.append_assoc, ← hG])
              rw [← hG] at HLj
              have HTA := Lib.hid (HTj.out.trans (TurnI.of_below hBA))
              have hAs : A.heap.size = wr.heap.size + 1 := by rw [hA]; simp
              have wt : IntKind.u64.wrap t.bytes = t.bytes := by rw [IntKind.wrap_u64]; have := HTW.out.2.1; omega
              have ubt : U64 t.bytes := by
                unfold U64
                simp [Lit.wf, IntKind.min, IntKind.max, IntKind.signed, IntKind.bits]
                have := HTW.out.2.1
                omega
              have HNJ := Lib.hid (nums2 p A.heap.size G t.file t.bytes A rfl (HLj.out.ext hBA) HTW.out.1 ubt (by have := HGL.out; omega))
              obtain ⟨G1, hG1⟩ : ∃ D, D = G ++ numsL [t.file, t.bytes] := ⟨_, rfl⟩
              obtain ⟨G2, hG2⟩ : ∃ D, D = G1 ++ putT t.low := ⟨_, rfl⟩
              have hG3 : G ++ tbL t = G2 ++ putT t.high := by unfold tbL; rw [hG2, hG1]; simp only [List.append_assoc]
              have HG1L := Lib.hid (show G1.length < 700000000 ∧ G2.length < 700000000 from by
                have h1 := HGL.out
                have h2 := congrArg List.length hG3
                rw [List.length_append, List.length_append] at h2
                have h3 := congrArg List.length hG2
                rw [List.length_append] at h3
                omega)
              have HG3 := Lib.hid hG3
              rw [← hG1, hAs] at HNJ
              have HTL := Lib.hid (fun (u : World) (hu : LayAt u p G1) => text_at p G1 t.low u hu (by have := HG1L.out; have := HTKy.out; omega) HTKy.out.1.1)
              rw [← hG2] at HTL
              have HTH := Lib.hid (fun (u : World) (hu : LayAt u p G2) => text_at p G2 t.high u hu (by have := HG1L.out; have := HTKy.out; omega) HTKy.out.2.1)
              rw [← hG3] at HTH
              have HA := Lib.hid hA
              have l0 : (0 : Int) ≤ (j : Int) := by omega
              have l1 : (j : Int) < (m : Int) := by omega
              have hw3 : IntKind.i64.wrap ((j : Int) + 1) = (j : Int) + 1 := IntWalk.i64_in _ (by omega)
              rw [hA] at HNJ
              clear htc hBA hG hG1 hG2 hG3 hAs hA hgj ubt
              rw [hta]
              go_wp2_with (first
                | (go_at_call 41; refine HNJ.out.mono ?_; rw [← HA.out]; rintro e w6 ⟨rfl, hL6, hT6⟩; have HL6 := Lib.hid hL6; have hx6 := blk_turn HXA.out hT6 (by omega); have HX6 := Lib.hid hx6; have HT6 := Lib.hid (HTA.out.trans hT6); have e2 := cell_of_blk hx6 2; simp at e2; clear hL6 hT6 hx6 g0 g1 g2 g3)
                | (go_at_call 78; refine (HTL.out _ HL6.out).mono ?_; rintro e w7 ⟨rfl, hL7, hT7⟩; have HL7 := Lib.hid hL7; have hx7 := blk_turn HX6.out hT7 (by omega); have HT7 := Lib.hid (HT6.out.trans hT7); have e3 := cell_of_blk hx7 3; simp at e3; clear hL7 hT7 hx7 e2 HTL)
                | (go_at_call 78; refine (HTH.out _ HL7.out).mono ?_; rintro e w8 ⟨rfl, hL8, hT8⟩; have HL8 := Lib.hid hL8; have HT8 := Lib.hid (HT7.out.trans hT8); clear hL8 hT8))
              rw [← hta]
              go_roundg (gk - 1)
              case measure => omega
              case rel => exact ⟨j + 1, by omega, by go_num, Lib.hid (by rw [HGN.out]; exact HL8.out), HT8⟩
            · have l1 : ¬ (j : Int) < (m : Int) := by omega
              have HLE := Lib.hid (show LayAt wr p (E1 ++ (s.lv.take (q + 1)).flatMap lvE) from by
                have := HLj.out
                rw [List.take_of_length_le (by have := HM.out; omega), ← HF1N.out, ← HFN.out] at this
                exact this)
              go_wp2_with fail
              go_roundg (g8 - 1)
              case measure => have := HG8.out; omega
              case rel => exact ⟨q + 1, by omega, by go_num, HLE, HTj⟩
        · have j1 : ¬ (q : Int) < 3 := by omega
          have HLE := Lib.hid (show LayAt wr p (D1 ++ (xs.take (k + 1)).flatMap sdE) from by
            have := HLq.out
            rw [List.take_of_length_le (by have := HS3.out; omega), ← HE1N.out, ← HEN.out] at this
            exact this)
          go_wp2_with fail
          rw [← hsa]
          go_roundg (g9 - 1)
          case measure => have := HG9.out; omega
          case rel => exact ⟨k + 1, by omega, by go_num, HLE, HTq⟩
    · have i1 : ¬ (k : Int) < (n : Int) := by omega
      have HE := Lib.hid (show LayAt wr p (D1 ++ xs.flatMap sdE) from by
        have := HLk.out
        rwa [List.take_of_length_le (by have := HN.out; omega)] at this)
      go_wp2_with fail
      go_end0
      exact ⟨rfl, HE.out, HTk.out⟩
theorem shelves_any (p : Nat) (bs : List Int) (sa : Option Addr) (sc n : Nat) (xs : List Sv) (w0 w : World) (hL : LayAt w p bs) (hS : ShIn w0 sa xs) (hn : xs.length = n) (hB : Below w0.heap.size w0 w) (hp : w0.heap.size ≤ p) (hk : KeysOk xs) (hn2 : n < 1000000)
    (hl : bs.length + 10 + (xs.flatMap sdE).length < 700000000) :
    Calls Tryz.prog (38) #[.pointer (some ⟨p, 0, none⟩), .slice sa n sc] w (LayPost p (bs ++ shL (xs.map Sv.says)) w) :=
  shelvesT_any p bs sa sc n xs w hL (fun _ hu => hS.ext (hu.below hB hp (Nat.le_refl _))) hn hk hn2 hl
end Go.Proofs.YtchcelodeepjdaaGreatDoor.Ln

namespace Go.Proofs.YtchcelodeepjdaaGreatDoor.Ln
open Go.RowKit Go.Shelf Go.Herb

abbrev MapS (w : World) (b : Nat) (m : List (Int × Sv)) : Prop := MapIs Tryz.prog (26) eU shV w b m
theorem zeroS (w : World) : (zeroValue (57)).run Tryz.prog w = .ok (.agg #[.int .u64 0, .slice none 0 0, .slice none 0 0, .slice none 0 0]) w := by kernel_rfl
theorem MapIs.storeS {w : World} {b : Nat} {m : List (Int × Sv)} (h : MapS w b m) (s : Sv) (hk : U64 s.line) (hl : m.length < 100000000) :
    ∃ w', (Instr.mapUpdate (94) (.map (some b)) (.int .u64 s.line) (shV s)).run Tryz.prog w = .ok () w' ∧ MapS w' b (putL m s.line s) ∧ w.grownBy w' (some b) ∧ w'.heap.size = w.heap.size :=
  MapIs.store h lawU eU_inj Tryz.underlying94 (by unfold maxLen; omega) s (Maps.keyOf_int_mk Tryz.underlying26 hk)
/-- Shelves, put into a map by their lines. -/
def putS (m : List (Int × Sv)) (xs : List Sv) : List (Int × Sv) := xs.foldl (fun m s => putL m s.line s) m
theorem putS_snoc (m : List (Int × Sv)) {xs : List Sv} {k : Nat} {x : Sv} (h : xs[k]? = some x) : putS m (xs.take (k + 1)) = putL (putS m (xs.take k)) x.line x := by
  obtain ⟨hk, rfl⟩ := List.getElem?_eq_some_iff.1 h
  unfold putS
  rw [List.take_succ_eq_append_getElem hk, List.foldl_append]
  rfl
theorem putS_len (m : List (Int × Sv)) (xs : List Sv) : (putS m xs).length ≤ m.length + xs.length := by
  unfold putS
  induction xs generalizing m with
  | nil => simp
  | cons x xs ih =>
    have h1 := ih (putL m x.line x)
    have h2 := putL_length m x.line x
    rw [List.foldl_cons, List.length_cons]
    omega
def ByPost (xs : List Sv) (w : World) (e : Ending) (w' : World) : Prop := ∃ b, e = .returned (.map (some b)) ∧ MapS w' b (putS [] xs) ∧ Below w.heap.size w w' ∧ w.heap.size ≤ b
set_option maxRecDepth 100000 in
set_option maxHeartbeats 2000000 in
theorem byLine_any (sa : Option Addr) (sc n : Nat) (xs : List Sv) (w : World) (hS : ShIn w sa xs) (hn : xs.length = n) (hl : n < 1000000) :
    Calls Tryz.prog (40) #[.slice sa n sc] w (ByPost xs w) := by
  have hmm := @run_makeMap Tryz.prog
  have HS := Lib.hid hS
  have HN := Lib.hid hn
  obtain ⟨V, hV⟩ : ∃ V : World, V = w.alloc (.map #[] 0) := ⟨_, rfl⟩
  have HM0 := Lib.hid (show MapS V w.heap.size [] from by rw [hV]; exact MapIs.made w)
  have HB0 := Lib.hid (show Below w.heap.size w V from by rw [hV]; exact (Below.refl _ _).alloc (Nat.le_refl _) _)
  have HV := Lib.hid hV
  clear hS hn hV
  go_enter Tryz.func40, Tryz.ntmps40
  go_upto_region 3 with fail
  rw [← HV.out]
  go_loopg [9] n (fun gk iv wr => ∃ k : Nat, k + gk = n ∧ iv = .int .i64 k ∧ Hid (MapS wr w.heap.size (putS [] (xs.take k))) ∧ Hid (Below w.heap.size w wr))
  case atStart => exact ⟨0, by omega, rfl, Lib.hid (by simpa [putS] using HM0.out), HB0⟩
  case round =>
    obtain ⟨k, hk, rfl, HMk, HBk⟩ := hrel
    by_cases hlt : k < n
    · have hkl : k < xs.length := by have := HN.out; omega
      obtain ⟨b, o, hsa, hlb, hcx⟩ := (HS.out.els.ext HBk.out).get k hkl
      have hgk : xs[k]? = some xs[k] := List.getElem?_eq_getElem hkl
      have hok := HS.out.ok _ (List.getElem_mem hkl)
      generalize xs[k] = s at hcx hgk hok
      have g0 := hcx 0 _ rfl
      have g1 := hcx 1 _ rfl
      have g2 := hcx 2 _ rfl
      have g3 := hcx 3 _ rfl
      simp only [Nat.add_zero] at g0
      obtain ⟨A, hA⟩ : ∃ A : World, A = wr.alloc (.cells #[.int .u64 s.line, lvV s.l0, lvV s.l1, lvV s.l2] (57)) := ⟨_, rfl⟩
      have hBA : Below wr.heap.size wr A := by rw [hA]; exact (Below.refl _ _).alloc (Nat.le_refl _) _
      have hml := putS_len [] (xs.take k)
      have hmA : MapS A w.heap.size (putS [] (xs.take k)) := HMk.out.same (hBA.block _ HMk.out.lt)
      obtain ⟨Z, hst, hM3, hg3, hs3⟩ := MapIs.storeS hmA s hok.wf (by rw [List.length_take] at hml; simp at hml; omega)
      have hBA2 := HBk.out.trans (hBA.mono HBk.out.size)
      have HBZ := Lib.hid (show Below w.heap.size w Z from hBA2.grown hg3 hBA2.size (fun q e => by injection e with e; omega))
      have HMZ := Lib.hid (show MapS Z w.heap.size (putS [] (xs.take (k + 1))) from by rw [putS_snoc _ hgk]; exact hM3)
      have i0 : (0 : Int) ≤ (k : Int) := by omega
      have i1 : (k : Int) < (n : Int) := by omega
      have hw1 : IntKind.i64.wrap ((k : Int) + 1) = (k : Int) + 1 := IntWalk.i64_in _ (by omega)
      rw [hA] at hst
      clear hcx hBA hBA2 hA hgk hok hml hmA hM3 hg3 hs3
      rw [hsa]
      go_wp2_with fail
      rw [← hsa]
      go_roundg (gk - 1)
      case measure => omega
      case rel => exact ⟨k + 1, by omega, by go_num, HMZ, HBZ⟩
    · have hkn : k = n := by omega
      have HMF := Lib.hid (show MapS wr w.heap.size (putS [] xs) from by
        have h1 := HMk.out
        rwa [List.take_of_length_le (by have := HN.out; omega)] at h1)
      go_wp2_with fail
      go_ret
      unfold ByPost
      exact ⟨_, rfl, HMF.out, HBk.out, Nat.le_refl _⟩
end Go.Proofs.YtchcelodeepjdaaGreatDoor.Ln

namespace Go.Herb
/-- The list without a key. -/
def delL {α β : Type} [DecidableEq α] (m : List (α × β)) (a : α) : List (α × β) := m.filter (fun p => decide (p.1 ≠ a))
theorem sub_filter {γ : Type} {p : γ → Bool} : ∀ {l l' : List γ}, l'.Sublist l → l.Nodup → (∀ x, x ∈ l' ↔ (x ∈ l ∧ p x = true)) → l' = l.filter p := by
  intro l l' h
  induction h with
  | slnil => exact fun _ _ => rfl
  | @cons l1 l2 a h ih =>
    intro hn hm
    rw [List.nodup_cons] at hn
    have ha : ¬ p a = true := fun hp => hn.1 (h.subset ((hm a).2 ⟨List.mem_cons_self, hp⟩))
    rw [List.filter_cons_of_neg ha]
    refine ih hn.2 (fun x => ⟨fun hx => ⟨h.subset hx, ((hm x).1 hx).2⟩, fun hx => (hm x).2 ⟨List.mem_cons_of_mem _ hx.1, hx.2⟩⟩)
  | @cons_cons l1 l2 a h ih =>
    intro hn hm
    rw [List.nodup_cons] at hn
    have ha : p a = true := ((hm a).1 List.mem_cons_self).2
    rw [List.filter_cons_of_pos ha]
    congr 1
    refine ih hn.2 (fun x => ⟨fun hx => ⟨h.subset hx, ((hm x).1 (List.mem_cons_of_mem _ hx)).2⟩, fun hx => ?_⟩)
    rcases List.mem_cons.1 ((hm x).2 ⟨List.mem_cons_of_mem _ hx.1, hx.2⟩) with rfl | h2
    · exact absurd hx.1 hn.1
    · exact h2
end Go.Herb
namespace Go.Proofs.YtchcelodeepjdaaGreatDoor.Ln
open Go.RowKit Go.Shelf Go.Herb
theorem MapIs.dropS {w : World} {b : Nat} {m : List (Int × Sv)} (h : MapS w b m) (k : Int) (hk : U64 k) (ty : TypeId) :
    ∃ w', (Builtin.delete_ #[(94), (26)] ty #[.map (some b), .int .u64 k]).run Tryz.prog w = .ok (.tuple #[]) w' ∧ MapS w' b (delL m k) ∧ w.grownBy w' (some b) ∧ w'.heap.size = w.heap.size := by
  obtain ⟨w', m', h1, h2, h3, h4, h5, h6⟩ := Go.Herb.MapIs.drop h lawU eU_inj Tryz.underlying94 (Maps.keyOf_int_mk Tryz.underlying26 hk) ty
  have hn : m.Nodup := by
    have h7 := h.nodup
    unfold List.Nodup at h7 ⊢
    rw [List.pairwise_map] at h7
    exact h7.imp (fun h e => h (by rw [e]))
  have e : m' = delL m k := sub_filter h5 hn (fun x => by rw [h6 x]; simp)
  subst e
  exact ⟨w', h1, h2, h3, h4⟩
end Go.Proofs.YtchcelodeepjdaaGreatDoor.Ln

namespace Go.Proofs.YtchcelodeepjdaaGreatDoor.Ln
open Go.RowKit Go.Shelf Go.Herb

set_option maxRecDepth 100000 in
theorem catch_idle (p q : Addr) (w : World) :
    CallsD Tryz.prog (25) #[.pointer (some p), .pointer (some q)] .returning w fun e u' w' => e = .returned (.tuple #[]) ∧ u' = .returning ∧ w' = w := by
  refine callsD_of_wpS Tryz.func25 rfl fun c₀ cs hu => ?_
  apply wpS_seq
  apply wpS_region
  simp [wpOpsS, go_sem, recoverD, hu, Tryz.ntmps25, Exit.thenS]
  apply wpS_seq
  apply wpS_region
  simp [wpOpsS, go_sem, Exit.thenS]
  refine wpS_cond (t := false) (by simp [Act.eval]) ?_
  simp only [Bool.false_eq_true, if_false]
  refine wpS_of_wp (wp_skip ?_)
  cases c₀
  simp_all [bodyPostS, results, Tryz.results25]
set_option maxRecDepth 100000 in
theorem foldNone_any (w : World) : Calls Tryz.prog (11) #[.slice none 0 0] w fun e w' => e = .returned (.tuple #[.agg #[.int .u64 0, .int .u64 0, .int .u64 0, .slice none 0 0, .slice none 0 0, .slice none 0 0, .slice none 0 0], .int .i64 7]) ∧ Below w.heap.size w w' := by
  have hmf : ∀ (fn : Fn) (first cap : Array Value) (w : World), (Instr.makeFunc fn first cap).run Tryz.prog w = .ok (.func fn first cap) w := fun _ _ _ _ => rfl
  have HB := Lib.hid (Below.refl w.heap.size w)
  go_enter_defers Tryz.func11, Tryz.ntmps11
  go_wp2
  refine leaves_cons (f := 25) (args := #[.pointer (some ⟨w.heap.size, 0, none⟩), .pointer (some ⟨w.heap.size + 1, 0, none⟩)]) (by simp) (by simp [go_sem]) ?_
  refine (catch_idle ⟨w.heap.size, 0, none⟩ ⟨w.heap.size + 1, 0, none⟩ _).mono ?_
  rintro e u' w'' ⟨rfl, rfl, rfl⟩
  simp [Leaves, settle, results, Tryz.results11, go_sem]
  exact balc (balc HB.out)
def firstR (g : Nat) : Rv := ⟨0, 1, 2, some ⟨g, 0, none⟩, 1, [(mainB, 0, 0)], some ⟨g + 1, 0, none⟩, 1, [(0, 0)], some ⟨g + 1 + 1, 0, none⟩, 1, [⟨0, none, 0, []⟩], none, 0, []⟩
structure FirstAt (w' : World) (g : Nat) : Prop where
  b : w'.heap[g]? = some (.cells #[.string mainB, .int .u64 0, .int .u64 0] (73) (0, 0))
  l : w'.heap[g + 1]? = some (.cells #[.int .u64 0, .int .u64 0] (53) (0, 0))
  v : w'.heap[g + 1 + 1]? = some (.cells #[.int .u64 0, .slice none 0 0] (76) (0, 0))
theorem first_any (w : World) : Calls Tryz.prog (23) #[] w fun e w' => e = .returned (rtV (firstR (w.heap.size + 1))) ∧ FirstAt w' (w.heap.size + 1) ∧ Below w.heap.size w w' := by
  go_enter Tryz.func23, Tryz.ntmps23
  go_wp2_with fail
  refine bodyPost_ret (v := rtV (firstR (w.heap.size + 1))) (by simp [results, Tryz.results23, go_sem]; exact ⟨rfl, rfl, rfl, ⟨rfl, rfl, rfl⟩, ⟨rfl, rfl, rfl⟩, ⟨rfl, rfl, rfl⟩, rfl, rfl, rfl⟩) rfl ?_
  refine ⟨rfl, ⟨?_, ?_, ?_⟩, balc (balc (balc (balc (Below.refl _ _))))⟩
  · exact blk_alloc (blk_alloc (blk_new_at (by simp) _))
  · exact blk_alloc (blk_new_at (by simp) _)
  · exact blk_new_at (by simp) _
theorem FirstAt.ext {w w' : World} {g : Nat} (h : FirstAt w g) (hb : Below w.heap.size w w') : FirstAt w' g := ⟨blk_below h.b hb (lt_of_blk h.b), blk_below h.l hb (lt_of_blk h.l), blk_below h.v hb (lt_of_blk h.v)⟩
theorem els_one {α : Type} {enc : α → List Value} {s : Nat} {w : World} {g : Nat} (x : α) {cs : Array Value} {t : TypeId} (h : w.heap[g]? = some (.cells cs t (0, 0))) (hc : cs.toList = enc x) : Els enc s w (some ⟨g, 0, none⟩) [x] :=
  ⟨fun i hi => by
    have hi0 : i = 0 := by simp at hi; omega
    subst hi0
    refine ⟨g, 0, rfl, lt_of_blk h, fun j c hj => ?_⟩
    rw [cell_of_blk h, Nat.zero_mul, Nat.add_zero, Nat.zero_add, ← Array.getElem?_toList, hc]
    exact hj⟩
theorem FirstAt.laid {w : World} {g : Nat} (h : FirstAt w g) : LaidR w (firstR g) := by
  have u0 : U64 0 := u64_len (n := 0) (by decide)
  have u1 : U64 1 := u64_len (n := 1) (by decide)
  have u2 : U64 2 := u64_len (n := 2) (by decide)
  refine ⟨⟨u0, u1, u2, ⟨els_one _ h.b rfl, (fun e => by cases e), Nat.le_refl _, by show 1 ≤ maxLen; unfold maxLen; decide, ?_⟩, ⟨els_one _ h.l rfl, (fun e => by cases e), Nat.le_refl _, by show 1 ≤ maxLen; unfold maxLen; decide, ?_⟩, ⟨els_one _ h.v rfl, ?_, ?_, by show 1 ≤ maxLen; unfold maxLen; decide, ?_⟩, ⟨Els.nil _ _ _ _, by simp [firstR]⟩, Nat.le_refl _, by show 0 ≤ maxLen; omega, fun _ => rfl, ⟨Nat.le_refl _, by show 1 ≤ maxLen; unfold maxLen; decide⟩⟩, (show 1 ≤ 100 by decide), (show 1 ≤ 100 by decide), (show 1 ≤ 12 by decide), ?_, ?_⟩
  · intro x hx
    rw [List.mem_singleton.1 hx]
    exact ⟨by show 4 ≤ maxLen; unfold maxLen; decide, u0, u0⟩
  · intro x hx
    rw [List.mem_singleton.1 hx]
    exact ⟨u0, u0⟩
  · intro x hx
    rw [List.mem_singleton.1 hx]
    exact Els.nil _ _ _ _
  · intro x hx
    rw [List.mem_singleton.1 hx]
    exact ⟨u0, by simp⟩
  · intro x hx
    rw [List.mem_singleton.1 hx]
    exact Nat.zero_le _
  · intro x hx
    rw [List.mem_singleton.1 hx]
    exact ⟨by show 0 < 4; decide, by show 4 ≤ 1000; decide⟩
  · intro x hx
    rw [List.mem_singleton.1 hx]
    exact Nat.zero_le _
theorem first_small (g : Nat) : SmallR (firstR g) := by
  refine ⟨(show 1 < 1000000 by decide), (show 1 < 1000000 by decide), (show 1 < 1000000 by decide), ?_, (show 0 ≤ 1000000 by decide), ?_, ?_⟩
  · show (2 : Nat) < 1000000; decide
  · show (0 : Nat) ≤ 1000000; decide
  · simp [firstR]
end Go.Proofs.YtchcelodeepjdaaGreatDoor.Ln

namespace Go.Proofs.YtchcelodeepjdaaGreatDoor.Ln
open Go.RowKit Go.Shelf Go.Herb

def EqPost (xs ys : List Int) (w : World) (e : Ending) (w' : World) : Prop := ∃ q : Bool, e = .returned (.bool q) ∧ (q = true ↔ xs = ys) ∧ Below w.heap.size w w'
set_option maxRecDepth 100000 in
theorem equalB_any (a b : Option Addr) (ca cb n m : Nat) (xs ys : List Int) (w : World) (hx : Byt w a xs) (hy : Byt w b ys) (hn : xs.length = n) (hm : ys.length = m) (hl : n < 1000000000) :
    Calls Tryz.prog (46) #[.slice a n ca, .slice b m cb] w (EqPost xs ys w) := by
  have HX := Lib.hid hx
  have HY := Lib.hid hy
  have HN := Lib.hid hn
  have HM := Lib.hid hm
  have HB0 := Lib.hid (Below.refl w.heap.size w)
  clear hx hy hn hm
  go_enter Tryz.func46, Tryz.ntmps46
  go_wp2_with fail
  go_loopg [5] n (fun gk iv wr => ∃ k : Nat, k + gk = n ∧ iv = .int .i64 k ∧ Hid (xs.take k = ys.take k) ∧ Hid (Below w.heap.size w wr))
  case atStart => exact ⟨0, by omega, rfl, Lib.hid rfl, HB0⟩
  case round =>
    obtain ⟨k, hk, rfl, HE, HB⟩ := hrel
    by_cases hlt : k < n ∧ k < m
    · obtain ⟨hlt, hlm⟩ := hlt
      have hkx : k < xs.length := by have := HN.out; omega
      have hky : k < ys.length := by have := HM.out; omega
      obtain ⟨xb, xo, rfl, hxl, hxc⟩ := HX.out.get k hkx
      obtain ⟨yb, yo, rfl, hyl, hyc⟩ := HY.out.get k hky
      have c0 := (HB.out.cell (p := ⟨xb, _, none⟩) hxl).trans (hxc 0 _ rfl)
      have c1 := (HB.out.cell (p := ⟨yb, _, none⟩) hyl).trans (hyc 0 _ rfl)
      simp only [Nat.add_zero, Nat.mul_one] at c0 c1
      have HXE := Lib.hid (List.take_succ_eq_append_getElem hkx)
      have HYE := Lib.hid (List.take_succ_eq_append_getElem hky)
      have HXG := Lib.hid (List.getElem?_eq_getElem hkx)
      have HYG := Lib.hid (List.getElem?_eq_getElem hky)
      clear hxc hyc
      generalize xs[k] = x at *
      generalize ys[k] = y at *
      have i0 : (0 : Int) ≤ (k : Int) := by omega
      have i1 : (k : Int) < (n : Int) := by omega
      have i2 : (k : Int) < (m : Int) := by omega
      have hw1 : IntKind.i64.wrap ((k : Int) + 1) = (k : Int) + 1 := IntWalk.i64_in _ (by omega)
      by_cases hxy : x = y
      · have d1 : (x == y) = true := by rw [hxy]; exact beq_self_eq_true _
        have HE2 := Lib.hid (show xs.take (k + 1) = ys.take (k + 1) by rw [HXE.out, HYE.out, HE.out, hxy])
        clear hxy
        go_upto_region 4 with fail
        go_quiet (fail)
        have HBu := Lib.hid (show Below w.heap.size w (wr.drewN nq) from ⟨HB.out.os, HB.out.tape, HB.out.output, HB.out.size, HB.out.block⟩)
        go_wp2
        go_roundg (gk - 1)
        case measure => omega
        case rel => exact ⟨k + 1, by omega, by go_num, HE2, HBu⟩
      · have d1 : (x == y) = false := beq_eq_false_iff_ne.2 hxy
        have HNE := Lib.hid (show xs ≠ ys from fun h => hxy (by
          have := HXG.out
          rw [h, HYG.out] at this
          exact (Option.some.inj this).symm))
        clear hxy
        go_upto_region 4 with fail
        go_quiet (fail)
        have HBu := Lib.hid (show Below w.heap.size w (wr.drewN nq) from ⟨HB.out.os, HB.out.tape, HB.out.output, HB.out.size, HB.out.block⟩)
        go_wp2
        go_ret
        unfold EqPost
        exact ⟨false, rfl, ⟨(fun h => by cases h), fun h => absurd h HNE.out⟩, HBu.out⟩
    · have HT := Lib.hid (show n = m → xs = ys from fun hnm => by
        have := HE.out
        rwa [List.take_of_length_le (by have := HN.out; omega), List.take_of_length_le (by have := HM.out; omega)] at this)
      have HF := Lib.hid (show xs = ys → n = m from fun h => by rw [← HN.out, ← HM.out, h])
      by_cases h1 : k < n
      · have i1 : (k : Int) < (n : Int) := by omega
        have i2 : ¬ (k : Int) < (m : Int) := by omega
        have i3 : (n : Int) ≠ (m : Int) := by omega
        have d3 : ((n : Int) == (m : Int)) = false := beq_eq_false_iff_ne.2 i3
        have HNO := Lib.hid (show xs ≠ ys from fun h => by have := HF.out h; omega)
        go_wp2_with fail
        go_ret
        unfold EqPost
        exact ⟨false, rfl, ⟨(fun h => by cases h), fun h => absurd h HNO.out⟩, HB.out⟩
      · have i1 : ¬ (k : Int) < (n : Int) := by omega
        go_wp2_with fail
        go_ret
        unfold EqPost
        refine ⟨((n : Int) == (m : Int)), rfl, ?_, HB.out⟩
        rw [beq_iff_eq]
        exact ⟨fun h => HT.out (by omega), fun h => by rw [HF.out h]⟩
theorem sameBytes_any (a b : Option Addr) (ca cb n m : Nat) (xs ys : List Int) (w : World) (hx : Byt w a xs) (hy : Byt w b ys) (hn : xs.length = n) (hm : ys.length = m) (hl : n < 1000000000) :
    Calls Tryz.prog (18) #[.slice a n ca, .slice b m cb] w (EqPost xs ys w) := by
  have H := Lib.hid (equalB_any a b ca cb n m xs ys w hx hy hn hm hl)
  clear hx hy hn hm
  go_enter Tryz.func18, Tryz.ntmps18
  go_wp2_with (go_at_call 46; refine H.out.mono ?_; rintro e w' ⟨q, rfl, hq, hb⟩; have HQ := Lib.hid hq; have HB := Lib.hid hb; clear hq hb)
  go_ret
  unfold EqPost
  exact ⟨q, rfl, HQ.out, HB.out⟩
def firstL : List Int := [1, 0, 1, 2, 1, 4, 109, 97, 105, 110, 0, 0, 1, 0, 0, 1, 0, 0, 0]
theorem first_whole (g : Nat) : wholeL (firstR g).says = firstL := by
  simp [wholeL, headL, firstR, Rv.says, Vx.vsOf, numsL, brL, putT, strL, lnL, vcL, shL, mainB, putN_small, firstL, ByteArray.size]
theorem first_good (g : Nat) : GoodR (firstR g) := by
  refine ⟨⟨⟨rfl, List.pairwise_singleton _ _, fun i x hi hx => ?_⟩, (show 1 ≤ 48 by decide), ⟨fun x hx => ?_, List.pairwise_singleton _ _, fun x hx => ?_, ?_⟩, (show 1 ≤ 1 by decide), (show 1 ≤ 12 by decide)⟩, ⟨⟨List.pairwise_singleton _ _, fun x hx => ?_⟩, List.Perm.refl _, fun n hn => ?_, (show (1 : Int) < 2 by decide), ⟨?_, List.Pairwise.nil, List.nodup_nil, ?_⟩⟩⟩
  · rw [List.getElem?_eq_none (by show 1 ≤ i; omega)] at hx; cases hx
  · rw [List.mem_singleton.1 hx]; decide +kernel
  · rw [List.mem_singleton.1 hx]; exact ⟨0, rfl⟩
  · exact List.pairwise_singleton _ _
  · rw [List.mem_singleton.1 hx]; exact ⟨List.Pairwise.nil, fun q hq => by cases hq⟩
  · have : n ∈ [(0 : Int), 0] := hn
    simp at this
    rw [this]
    exact Int.le_refl _
  · intro s hs; cases hs
  · intro f hf; cases hf
end Go.Proofs.YtchcelodeepjdaaGreatDoor.Ln
