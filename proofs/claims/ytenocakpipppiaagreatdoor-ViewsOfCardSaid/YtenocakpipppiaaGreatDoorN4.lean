/- The document's keys: its walk. Condition: fewer than 1000000 facts. -/
import Derived.Test.YtenocakpipppiaaGreatDoorN3
import Derived.Deep.DrawnRows
namespace Go.Proofs.YtenocakpipppiaaGreatDoor
open Go.RowKit Go.Shelf Go.Herb
attribute [local go_sem ↓] Go.wp_at_zero Go.wp_at_succ

set_option maxRecDepth 100000 in
set_option maxHeartbeats 4000000 in
theorem refKeys_any (la : Option Addr) (lc' : Nat) (ls : List Sl) (w : World) (hL : Els slc 1 w la ls) (hF : ∀ l ∈ ls, Facts w l.1 l.2.2) (hn : ls.length < 1000) (hk : (keysAll ls).length < 1000000) :
    Calls Tryz.prog 31 #[.slice la ls.length lc'] w (NamedPost ls w) := by
  have HL := Lib.hid hL
  have HF := Lib.hid hF
  have HK := Lib.hid hk
  clear hL hF hk
  go_enter Tryz.func31, Tryz.ntmps31
  go_wp2_with fail
  go_loopg [3, 4] ls.length (fun gk ov iv wr => ∃ i : Nat, i + gk = ls.length ∧ iv = .int .i64 i ∧ OwnS w.heap.size wr ov (namedL (keysAll (ls.take i))) ∧ Below w.heap.size w wr)
  case atStart => exact ⟨0, by omega, rfl, by rw [show namedL (keysAll (ls.take 0)) = [] from by simp [keysAll, namedL, sortS, Lib.compact, Lib.compactUpTo]]; exact World.ownsRow_nil _ _ _ _, Below.refl _ _⟩
  case round =>
    obtain ⟨i, hi, rfl, hown, hBi⟩ := hrel
    have HBI := Lib.hid hBi
    have HOWN := Lib.hid hown
    have hsi := hBi.size
    clear hBi hown
    by_cases hilt : i < ls.length
    · obtain ⟨b, o, rfl, hlb, hcell⟩ := HL.out.get i hilt
      have hmem : ls[i] ∈ ls := List.getElem_mem hilt
      have hks := keysAll_succ ls i hilt
      have hkl : (keysAll (ls.take i)).length + (keysOf ls[i].2.2).length < 1000000 := by
        have h1 := keysAll_le ls (i + 1)
        rw [hks, List.length_append] at h1
        have := HK.out
        omega
      obtain ⟨⟨xa, xc, xs⟩, hx⟩ : ∃ l : Sl, l = ls[i] := ⟨_, rfl⟩
      rw [← hx] at hcell hmem hks hkl
      have hc0 := hcell 0 _ rfl
      simp only [Nat.add_zero, Nat.mul_one] at hc0
      have hi0 : (0 : Int) ≤ (i : Int) := by omega
      have hi1 : (i : Int) < (ls.length : Int) := by omega
      have hFx := HF.out _ hmem
      simp only at hFx hks hkl
      have hkx : (keysOf xs).length = xs.length := by simp [keysOf]
      rw [hkx] at hkl
      have HFX := Lib.hid hFx
      have HKS := Lib.hid hks
      have HC0 := Lib.hid hc0
      clear hx hcell hmem hFx hks hkx hc0
      go_wp2_with fail
      obtain ⟨wo, rfl⟩ : ∃ wo : World, wo = wr := ⟨_, rfl⟩
      obtain ⟨g2, rfl⟩ : ∃ g : Nat, g = gk := ⟨_, rfl⟩
      go_loopg [3, 5] xs.length (fun gk ov jv wr => ∃ j : Nat, j + gk = xs.length ∧ jv = .int .i64 j ∧ OwnS w.heap.size wr ov (namedL (keysAll (ls.take i) ++ keysOf (xs.take j))) ∧ Below w.heap.size w wr)
      case atStart => exact ⟨0, by omega, rfl, by simpa [keysOf] using HOWN.out, HBI.out⟩
      case round =>
        clear HOWN HBI hsi
        obtain ⟨j, hj, rfl, hown, hBj⟩ := hrel
        have hsj := hBj.size
        have c0 := (hBj.cell (p := ⟨b, _, none⟩) hlb).trans HC0.out
        by_cases hjlt : j < xs.length
        · obtain ⟨b2, o2, rfl, hlb2, hcell2⟩ := HFX.out.get j hjlt
          have hkk := keysOf_succ xs j hjlt
          have hklen : (keysOf (xs.take j)).length = j := by simp [keysOf]; omega
          have e0 := (hBj.cell (p := ⟨b2, _, none⟩) hlb2).trans (hcell2 0 _ rfl)
          simp only [Nat.add_zero] at e0
          obtain ⟨s, hs⟩ : ∃ s : ByteArray, s = xs[j].key := ⟨_, rfl⟩
          rw [← hs] at e0 hkk
          have hj0 : (0 : Int) ≤ (j : Int) := by omega
          have hj1 : (j : Int) < (xs.length : Int) := by omega
          have hhas := named_has (K := keysAll (ls.take i) ++ keysOf (xs.take j)) (s := s.toList)
          have hins := fun k h1 h2 h3 => named_ins (K := keysAll (ls.take i) ++ keysOf (xs.take j)) (s := s.toList) (k := k) h1 h2 h3
          have hkn : (namedL (keysAll (ls.take i) ++ keysOf (xs.take j))).length + 1 < 1000000 := by
            have := namedL_len (keysAll (ls.take i) ++ keysOf (xs.take j))
            rw [List.length_append, hklen] at this
            omega
          have hnext : keysAll (ls.take i) ++ keysOf (xs.take (j + 1)) = keysAll (ls.take i) ++ keysOf (xs.take j) ++ [s.toList] := by rw [hkk, ← List.append_assoc]
          obtain ⟨N, hN⟩ : ∃ N, N = namedL (keysAll (ls.take i) ++ keysOf (xs.take (j + 1))) := ⟨_, rfl⟩
          rw [hnext] at hN
          rw [← hN] at hhas
          have hins' := fun k h1 h2 h3 => hN.trans (hins k h1 h2 h3)
          have HNX := Lib.hid (show N = namedL (keysAll (ls.take i) ++ keysOf (xs.take (j + 1))) from by rw [hnext]; exact hN)
          clear hins hN hnext hkk hcell2 hklen hs
          generalize namedL (keysAll (ls.take i) ++ keysOf (xs.take j)) = ks at *
          have HBJ := Lib.hid hBj
          have HOWN := Lib.hid hown
          have HHAS := Lib.hid hhas
          have HINS := Lib.hid hins'
          obtain ⟨ka, kc, rfl, hkc, hKE⟩ := hown.els
          have HKE := Lib.hid hKE
          clear hBj hown hhas hins' hKE
          go_wp2_with fail
          obtain ⟨wj, hwj⟩ : ∃ wj : World, wj = wr := ⟨_, rfl⟩
          rw [← hwj]
          rw [← hwj] at HBJ HOWN HKE hsj
          clear hwj c0 e0
          obtain ⟨g3, rfl⟩ : ∃ g : Nat, g = gk := ⟨_, rfl⟩
          go_loopg [7] ks.length (fun gk kv wr => ∃ k : Nat, k + gk = ks.length ∧ kv = .int .i64 k ∧ Hid (∀ x ∈ ks.take k, x < s.toList) ∧ wj = wr)
          case atStart => exact ⟨0, by omega, rfl, Lib.hid (by simp), rfl⟩
          case round =>
            obtain ⟨k, hk, rfl, HLT, rfl⟩ := hrel
            by_cases hklt : k < ks.length
            · obtain ⟨b3, o3, rfl, hlb3, hcell3⟩ := HKE.out.get k hklt
              have f0 := hcell3 0 _ rfl
              simp only [Nat.add_zero, Nat.mul_one] at f0
              have hk0 : (0 : Int) ≤ (k : Int) := by omega
              have hk1 : (k : Int) < (ks.length : Int) := by omega
              have hltn : ks[k] < s.toList → ∀ x ∈ ks.take (k + 1), x < s.toList := by
                intro h x hx
                rw [List.take_succ_eq_append_getElem hklt] at hx
                rcases List.mem_append.1 hx with hx | hx
                · exact HLT.out x hx
                · rw [List.mem_singleton.1 hx]; exact h
              obtain ⟨xb, hxb⟩ : ∃ x : ByteArray, x = ⟨ks[k].toArray⟩ := ⟨_, rfl⟩
              have hxt : xb.toList = ks[k] := by rw [hxb]; exact bytes_mk _
              rw [show encStr ks[k] = .string xb from by rw [hxb]] at f0
              by_cases hlt : ks[k] < s.toList
              · have d1 : Op.bytesLess xb.toList s.toList = true := by rw [bytesLess_eq, hxt]; exact decide_eq_true hlt
                have HN := Lib.hid (hltn hlt)
                clear hcell3 hltn hxb hxt hlt
                go_wp2
                go_roundg (gk - 1)
                case measure => omega
                case rel => exact ⟨k + 1, by omega, by go_num, HN, rfl⟩
              · have d1 : Op.bytesLess xb.toList s.toList = false := by rw [bytesLess_eq, hxt]; exact decide_eq_false hlt
                by_cases heq : ks[k] = s.toList
                · have d2 : (xb.toList == s.toList) = true := by rw [hxt]; exact beq_iff_eq.2 heq
                  have hNk := HHAS.out (by rw [← heq]; exact List.getElem_mem hklt)
                  have HNK := Lib.hid hNk
                  clear hcell3 hltn hxb hxt hlt heq hNk
                  go_wp2
                  go_roundg (g3 - 1)
                  case measure => omega
                  case rel => exact ⟨j + 1, by omega, by go_num, by rw [← HNX.out, HNK.out]; exact HOWN.out, HBJ.out⟩
                · have hgt : s.toList < ks[k] := by
                    rcases lt_total_bytes ks[k] s.toList with h | h | h
                    · exact absurd h hlt
                    · exact absurd h heq
                    · exact h
                  have d2 : (xb.toList == s.toList) = false := by rw [hxt]; exact beq_eq_false_iff_ne.2 heq
                  have hNk := HINS.out k (by omega) HLT.out (fun _ => hgt)
                  have HNK := Lib.hid hNk
                  obtain ⟨q1, hs1, hT1, hn1⟩ := slice_lo HKE.out hkc (k := k) (by omega) HOWN.out.none0
                  obtain ⟨q2, hs2, hT2, hn2⟩ := slice_hi HKE.out hkc (k := k) (by omega) HOWN.out.none0
                  obtain ⟨tk, htk⟩ : ∃ tk, tk = ks.take k := ⟨_, rfl⟩
                  obtain ⟨dk, hdk⟩ : ∃ dk, dk = ks.drop k := ⟨_, rfl⟩
                  rw [← htk] at hs1 hT1 hNk
                  rw [← hdk] at hs2 hT2 hNk
                  have HNK := Lib.hid hNk
                  have HT1 := Lib.hid hT1
                  have HT2 := Lib.hid hT2
                  have HN1 := Lib.hid hn1
                  have HN2 := Lib.hid hn2
                  have hl1 : tk.length < 1000000 := by have := List.length_take_le k ks; rw [htk]; omega
                  have hl2 : dk.length < 1000000 := by rw [hdk, List.length_drop]; omega
                  have hl3 : (tk ++ [s.toList]).length < 1000000 := by
                    have : (ks.take k).length ≤ k := List.length_take_le k ks
                    rw [List.length_append, List.length_singleton, htk]; omega
                  have hwf : w.heap.size ≤ wj.heap.size := hsj
                  clear hT1 hT2 hn1 hn2 htk hdk hcell3 hltn hxb hxt hlt heq hNk hgt hkc
                  go_wp2_with fail
                  go_region_held3 (fun _ => True) (trivial)
                    (first | (refine wp_append_strs (.const (.slice none 0 0)) (.tmp 59) (by rfl) wj.heap.size (.slice none 0 0) [] q1 kc tk (by rfl) (by rfl) (World.ownsRow_nil _ _ _ _) (HT1.out.ext (by first | exact (Below.refl _ _).drew | go_grown)) (by simp) hl1 HN1.out (by simp) ?_; intro v1 w1 hO1 hg1; have hb1 : Below wj.heap.size wj w1 := Below.grown (by first | exact (Below.refl _ _).drew | go_grown) hg1 (by simp) (fun k e => by cases e))
                           | (refine wp_append_strs (.tmp 60) (.tmp 62) (by rfl) wj.heap.size v1 tk (some ⟨w1.heap.size, 0, none⟩) 1 [s.toList] (by rfl) (by rfl) (OwnS.below hO1 (by go_grown)) (strs_of_one (blk_new_at (by rfl) _)) hl1 (by simp) (fun h => by cases h) (by have := hb1.size; first | omega | (simp only [World.size_alloc]; omega) | (show wj.heap.size ≤ (w1.heap.push _).size; rw [Array.size_push]; omega)) ?_; intro v2 w2 hO2 hg2; have hb2 : Below wj.heap.size wj w2 := Below.grown (by first | exact hb1.alloc hb1.size _ | exact (hb1.alloc hb1.size _).drew | exact (hb1.drew).alloc hb1.size _) hg2 (by have := hb1.size; first | omega | (simp only [World.size_alloc]; omega) | (show wj.heap.size ≤ (w1.heap.push _).size; rw [Array.size_push]; omega)) (fun k e => (World.ownsRow.lt hO1 k e).1))
                           | (refine wp_append_strs (.tmp 60) (.tmp 62) (by rfl) wj.heap.size v1 tk (some ⟨wj.heap.size, 0, none⟩) 1 [s.toList] (by rfl) (by rfl) hO1 (strs_of_one ((hg1.block _ (by simp) (fun e => by cases e)).trans (blk_new_at (by rfl) _))) hl1 (by simp) (fun h => by cases h) hb1.size ?_; intro v2 w2 hO2 hg2; have hb2 : Below wj.heap.size wj w2 := Below.grown hb1 hg2 hb1.size (fun k e => (World.ownsRow.lt hO1 k e).1))
                           | (refine wp_append_strs (.tmp 63) (.tmp 66) (by rfl) wj.heap.size v2 (tk ++ [s.toList]) q2 (kc - k) dk (by rfl) (by rfl) hO2 (HT2.out.ext hb2) hl3 hl2 HN2.out hb2.size ?_; intro v3 w3 hO3 hg3; have hb3 : Below wj.heap.size wj w3 := Below.grown hb2 hg3 hb2.size (fun k e => (World.ownsRow.lt hO2 k e).1)))
                  all_goals
                    rename_i hheld
                    have hfin : OwnS w.heap.size w3 v3 N := by rw [HNK.out]; exact ownsRow_mono hO3 hwf
                    have HFINO := Lib.hid hfin
                    have HFINB := Lib.hid (HBJ.out.trans (hb3.mono hwf))
                    clear hheld hfin hO1 hO2 hO3 hg1 hg2 hg3 hb1 hb2 hb3 hs1 hs2
                    go_wp2
                    go_roundg (g3 - 1)
                    case measure => omega
                    case rel => exact ⟨j + 1, by omega, by go_num, by rw [← HNX.out]; exact HFINO.out, HFINB.out⟩
            · obtain rfl : k = ks.length := by omega
              have hNk := HINS.out ks.length (by omega) HLT.out (fun h => absurd h hklt)
              obtain ⟨q1, hs1, hT1, hn1⟩ := slice_lo HKE.out hkc (k := ks.length) (by omega) HOWN.out.none0
              obtain ⟨q2, hs2, hT2, hn2⟩ := slice_hi HKE.out hkc (k := ks.length) (by omega) HOWN.out.none0
              obtain ⟨tk, htk⟩ : ∃ tk, tk = ks.take ks.length := ⟨_, rfl⟩
              obtain ⟨dk, hdk⟩ : ∃ dk, dk = ks.drop ks.length := ⟨_, rfl⟩
              rw [← htk] at hs1 hT1 hNk
              rw [← hdk] at hs2 hT2 hNk
              have HNK := Lib.hid hNk
              have HT1 := Lib.hid hT1
              have HT2 := Lib.hid hT2
              have HN1 := Lib.hid hn1
              have HN2 := Lib.hid hn2
              have hl1 : tk.length < 1000000 := by have := List.length_take_le ks.length ks; rw [htk]; omega
              have hl2 : dk.length < 1000000 := by rw [hdk, List.length_drop]; omega
              have hl3 : (tk ++ [s.toList]).length < 1000000 := by
                have : (ks.take ks.length).length ≤ ks.length := List.length_take_le ks.length ks
                rw [List.length_append, List.length_singleton, htk]; omega
              have hwf : w.heap.size ≤ wj.heap.size := hsj
              clear hT1 hT2 hn1 hn2 htk hdk hNk hkc
              go_wp2_with fail
              go_region_held3 (fun _ => True) (trivial)
                (first | (refine wp_append_strs (.const (.slice none 0 0)) (.tmp 59) (by rfl) wj.heap.size (.slice none 0 0) [] q1 kc tk (by rfl) (by rfl) (World.ownsRow_nil _ _ _ _) (HT1.out.ext (by first | exact (Below.refl _ _).drew | go_grown)) (by simp) hl1 HN1.out (by simp) ?_; intro v1 w1 hO1 hg1; have hb1 : Below wj.heap.size wj w1 := Below.grown (by first | exact (Below.refl _ _).drew | go_grown) hg1 (by simp) (fun k e => by cases e))
                       | (refine wp_append_strs (.tmp 60) (.tmp 62) (by rfl) wj.heap.size v1 tk (some ⟨w1.heap.size, 0, none⟩) 1 [s.toList] (by rfl) (by rfl) (OwnS.below hO1 (by go_grown)) (strs_of_one (blk_new_at (by rfl) _)) hl1 (by simp) (fun h => by cases h) (by have := hb1.size; first | omega | (simp only [World.size_alloc]; omega) | (show wj.heap.size ≤ (w1.heap.push _).size; rw [Array.size_push]; omega)) ?_; intro v2 w2 hO2 hg2; have hb2 : Below wj.heap.size wj w2 := Below.grown (by first | exact hb1.alloc hb1.size _ | exact (hb1.alloc hb1.size _).drew | exact (hb1.drew).alloc hb1.size _) hg2 (by have := hb1.size; first | omega | (simp only [World.size_alloc]; omega) | (show wj.heap.size ≤ (w1.heap.push _).size; rw [Array.size_push]; omega)) (fun k e => (World.ownsRow.lt hO1 k e).1))
                       | (refine wp_append_strs (.tmp 60) (.tmp 62) (by rfl) wj.heap.size v1 tk (some ⟨wj.heap.size, 0, none⟩) 1 [s.toList] (by rfl) (by rfl) hO1 (strs_of_one ((hg1.block _ (by simp) (fun e => by cases e)).trans (blk_new_at (by rfl) _))) hl1 (by simp) (fun h => by cases h) hb1.size ?_; intro v2 w2 hO2 hg2; have hb2 : Below wj.heap.size wj w2 := Below.grown hb1 hg2 hb1.size (fun k e => (World.ownsRow.lt hO1 k e).1))
                       | (refine wp_append_strs (.tmp 63) (.tmp 66) (by rfl) wj.heap.size v2 (tk ++ [s.toList]) q2 (kc - ks.length) dk (by rfl) (by rfl) hO2 (HT2.out.ext hb2) hl3 hl2 HN2.out hb2.size ?_; intro v3 w3 hO3 hg3; have hb3 : Below wj.heap.size wj w3 := Below.grown hb2 hg3 hb2.size (fun k e => (World.ownsRow.lt hO2 k e).1)))
              all_goals
                rename_i hheld
                have hfin : OwnS w.heap.size w3 v3 N := by rw [HNK.out]; exact ownsRow_mono hO3 hwf
                have HFINO := Lib.hid hfin
                have HFINB := Lib.hid (HBJ.out.trans (hb3.mono hwf))
                clear hheld hfin hO1 hO2 hO3 hg1 hg2 hg3 hb1 hb2 hb3 hs1 hs2
                go_wp2
                go_roundg (g3 - 1)
                case measure => omega
                case rel => exact ⟨j + 1, by omega, by go_num, by rw [← HNX.out]; exact HFINO.out, HFINB.out⟩
        · have hje : j = xs.length := by omega
          subst hje
          rw [List.take_length, ← HKS.out] at hown
          have HOWN := Lib.hid hown
          have HBJ := Lib.hid hBj
          clear hown hBj
          go_wp2
          go_roundg (g2 - 1)
          case measure => omega
          case rel => exact ⟨i + 1, by omega, by go_num, HOWN.out, HBJ.out⟩
    · have hie : i = ls.length := by omega
      subst hie
      have hown := HOWN.out
      rw [List.take_length] at hown
      have HO := Lib.hid hown
      clear hown HOWN
      go_wp2
      go_ret
      exact ⟨_, rfl, HO.out, HBI.out⟩
end Go.Proofs.YtenocakpipppiaaGreatDoor
