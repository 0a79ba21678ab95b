/- slices.Sort and slices.Compact at strings that a call owns. Condition: fewer than 1000000 strings. · views.named: the keys of lists, rising, each once. Condition: fewer than 1000000 facts. -/
import Derived.Test.YtenocakpipppiaaGreatDoorS1
import Derived.Test.YtenocakpipppiaaGreatDoorShl
namespace Go.Proofs.YtenocakpipppiaaGreatDoor
open Go.RowKit Go.Shelf Go.Herb Go.Sort Go.Lib Go.Proofs

theorem sortStr_any (B : Nat) (v : Value) (ss : List Str) (w : World) (ho : OwnS B w v ss) (hlen : ss.length < 1000000) :
    Calls Tryz.prog 42 #[v] w fun e w' => e = .returned (.tuple #[]) ∧ OwnS B w' v (sortS ss) ∧ w.grownBy w' v.ownBlock := by
  rcases ho with ⟨hl, ⟨rfl, hn⟩ | ⟨g, cap, cur, rfl, hbase, hb, h1, h2, h3, h4⟩⟩
  · have hss : ss = [] := List.length_eq_zero_iff.1 hn
    subst hss
    refine (Tryz.slices_Sort_string_none none 0 w).mono ?_
    rintro e w' ⟨rfl, rfl⟩
    exact ⟨rfl, by simpa [sortS, OwnS] using World.ownsRow_nil _ _ _ _, grown_refl _ _⟩
  · refine (Tryz.slices_Sort_string g 0 cap ss w (holds_of_block hb (by simpa using h4)) (lt_of_blk hb) (by omega)).mono ?_
    rintro e w' ⟨rfl, n, os, rfl⟩
    refine ⟨rfl, ?_, grownBy_sorted _⟩
    unfold OwnS
    rw [sortS_len]
    exact ownsRow_sorted (sortS_len ss) hbase hb h1 h2 h3

theorem compactStr_any (B : Nat) (v : Value) (ss : List Str) (w : World) (ho : OwnS B w v ss) (hlen : ss.length < 1000000) :
    Calls Tryz.prog 43 #[v] w fun e w' => ∃ v', e = .returned v' ∧ OwnS B w' v' (compact ss) ∧ w.grownBy w' v.ownBlock := by
  rcases ho with ⟨hl, ⟨rfl, hn⟩ | ⟨g, cap, cur, rfl, hbase, hb, h1, h2, h3, h4⟩⟩
  · have hss : ss = [] := List.length_eq_zero_iff.1 hn
    subst hss
    refine (Tryz.slices_Compact_string_empty none 0 w).mono ?_
    rintro e w' ⟨rfl, rfl⟩
    exact ⟨_, rfl, World.ownsRow_nil _ _ _ _, grown_refl _ _⟩
  · refine (Tryz.slices_Compact_string g 0 cap ss w (holds_of_block hb (by simpa using h4)) (by omega) h1).mono ?_
    rintro e w' ⟨rfl, q, rfl⟩
    have hg := grownBy_sorted (w := w) (g := g) (n := q) (os := #[]) (compact ss ++ List.replicate (ss.length - (compact ss).length) []).toArray
    have hw : grow (putRow encStr (Sort.ahead w q) g 0 (compact ss ++ List.replicate (ss.length - (compact ss).length) []).toArray) #[] = putRow encStr (Sort.ahead w q) g 0 (compact ss ++ List.replicate (ss.length - (compact ss).length) []).toArray := by
      show World.mk _ _ _ _ _ = _
      simp only [Array.append_empty]
    have hcl := compact_length_le ss
    have hlen2 : (compact ss ++ List.replicate (ss.length - (compact ss).length) []).length = ss.length := by simp; omega
    have ho2 := ownsRow_sorted (w := w) (base := B) (g := g) (cap := cap) (n := q) (e := 9) (os := #[]) (cur := cur) (ss := ss) (ts := compact ss ++ List.replicate (ss.length - (compact ss).length) []) hlen2 hbase hb h1 h2 h3
    rw [hw] at hg ho2
    refine ⟨_, rfl, ?_, hg⟩
    obtain ⟨hl2, ⟨hx, _⟩ | ⟨g', cap', cur', hv, hb', hh', hle', hm', hsz', htk'⟩⟩ := ho2
    · cases hx
    · injection hv with e1 e2 e3
      injection e1 with e1
      injection e1 with e1
      subst e1 e3
      refine ⟨by simp, .inr ⟨g, cap, cur', rfl, hb', hh', by omega, hm', hsz', ?_⟩⟩
      rw [Nat.mul_one] at htk' ⊢
      have : cur'.toList.take (compact ss).length = (cur'.toList.take ss.length).take (compact ss).length := by
        rw [List.take_take, Nat.min_eq_left hcl]
      rw [this, htk', List.map_append, List.take_append_of_le_length (by simp), List.take_of_length_le (by simp)]
end Go.Proofs.YtenocakpipppiaaGreatDoor

namespace Go.Proofs.YtenocakpipppiaaGreatDoor
open Go.RowKit Go.Shelf Go.Herb Go.Sort Go.Lib

/-- A list of facts, as a slice. -/
abbrev Sl := Option Addr × Nat × List Fc
abbrev slc (l : Sl) : List Value := [.slice l.1 l.2.2.length l.2.1]
def keysOf (xs : List Fc) : List Str := xs.map (·.key.toList)
def keysAll (ls : List Sl) : List Str := ls.flatMap (fun l => keysOf l.2.2)

theorem keysOf_succ (xs : List Fc) (k : Nat) (h : k < xs.length) : keysOf (xs.take (k + 1)) = keysOf (xs.take k) ++ [xs[k].key.toList] := by
  unfold keysOf
  rw [List.take_succ_eq_append_getElem h, List.map_append]
  rfl
theorem keysAll_succ (ls : List Sl) (k : Nat) (h : k < ls.length) : keysAll (ls.take (k + 1)) = keysAll (ls.take k) ++ keysOf ls[k].2.2 := by
  unfold keysAll
  rw [List.take_succ_eq_append_getElem h, List.flatMap_append]
  simp
theorem keysAll_le (ls : List Sl) (k : Nat) : (keysAll (ls.take k)).length ≤ (keysAll ls).length := by
  unfold keysAll
  have : ls.flatMap (fun l => keysOf l.2.2) = (ls.take k).flatMap (fun l => keysOf l.2.2) ++ (ls.drop k).flatMap (fun l => keysOf l.2.2) := by
    rw [← List.flatMap_append, List.take_append_drop]
  rw [this, List.length_append]
  omega

def NamedPost (ls : List Sl) (w : World) (e : Ending) (w' : World) : Prop := ∃ v, e = .returned v ∧ OwnS w.heap.size w' v (namedL (keysAll ls)) ∧ Below w.heap.size w w'

set_option maxRecDepth 100000 in
set_option maxHeartbeats 2000000 in
theorem named_any (la : Option Addr) (lc' : Nat) (ls : List Sl) (w : World) (hL : Els slc 1 w la ls) (hF : ∀ l ∈ ls, Facts w l.1 l.2.2) (hn : ls.length < 1000) (hk : (keysAll ls).length < 1000000) :
    Calls Tryz.prog 28 #[.slice la ls.length lc'] w (NamedPost ls w) := by
  have HL := Lib.hid hL
  have HF := Lib.hid hF
  have HK := Lib.hid hk
  clear hL hF hk
  go_enter Tryz.func28, Tryz.ntmps28
  go_wp2_with fail
  go_loopg [3, 10] ls.length (fun gk ov iv wr => ∃ i : Nat, i + gk = ls.length ∧ iv = .int .i64 i ∧ OwnS w.heap.size wr ov (keysAll (ls.take i)) ∧ Below w.heap.size w wr)
  case atStart => exact ⟨0, by omega, rfl, World.ownsRow_nil _ _ _ _, Below.refl _ _⟩
  case round =>
    obtain ⟨i, hi, rfl, hown, hBi⟩ := hrel
    have HBI := Lib.hid hBi
    have HOWN := Lib.hid hown
    have hsi := hBi.size
    clear hBi hown
    by_cases hilt : i < ls.length
    · obtain ⟨b, o, rfl, hlb, hcell⟩ := HL.out.get i hilt
      have hmem : ls[i] ∈ ls := List.getElem_mem hilt
      have hks := keysAll_succ ls i hilt
      have hkl : (keysAll (ls.take i)).length + (keysOf ls[i].2.2).length < 1000000 := by
        have h1 := keysAll_le ls (i + 1)
        rw [hks, List.length_append] at h1
        have := HK.out
        omega
      obtain ⟨⟨xa, xc, xs⟩, hx⟩ : ∃ l : Sl, l = ls[i] := ⟨_, rfl⟩
      rw [← hx] at hcell hmem hks hkl
      have c0 := (HBI.out.cell (p := ⟨b, _, none⟩) hlb).trans (hcell 0 _ rfl)
      simp only [Nat.add_zero, Nat.mul_one] at c0
      have hi0 : (0 : Int) ≤ (i : Int) := by omega
      have hi1 : (i : Int) < (ls.length : Int) := by omega
      have hFx := HF.out _ hmem
      simp only at hFx hks hkl
      have hkx : (keysOf xs).length = xs.length := by simp [keysOf]
      rw [hkx] at hkl
      have HFX := Lib.hid hFx
      have HKS := Lib.hid hks
      clear hx hcell hmem hFx hks hkx
      go_wp2_with fail
      obtain ⟨wo, rfl⟩ : ∃ wo : World, wo = wr := ⟨_, rfl⟩
      obtain ⟨g2, rfl⟩ : ∃ g : Nat, g = gk := ⟨_, rfl⟩
      go_loopg [3, 16] xs.length (fun gk ov jv wr => ∃ j : Nat, j + gk = xs.length ∧ jv = .int .i64 j ∧ OwnS w.heap.size wr ov (keysAll (ls.take i) ++ keysOf (xs.take j)) ∧ Below w.heap.size w wr)
      case atStart => exact ⟨0, by omega, rfl, by simpa [keysOf] using HOWN.out, HBI.out⟩
      case round =>
        clear HOWN HBI hsi c0
        obtain ⟨j, hj, rfl, hown, hBj⟩ := hrel
        have hsj := hBj.size
        by_cases hjlt : j < xs.length
        · obtain ⟨b2, o2, rfl, hlb2, hcell2⟩ := HFX.out.get j hjlt
          have hkk := keysOf_succ xs j hjlt
          have hklen : (keysOf (xs.take j)).length = j := by simp [keysOf]; omega
          generalize xs[j] = x at *
          have e0 := (hBj.cell (p := ⟨b2, _, none⟩) hlb2).trans (hcell2 0 _ rfl)
          have e1 := (hBj.cell (p := ⟨b2, _, none⟩) hlb2).trans (hcell2 1 _ rfl)
          have e2 := (hBj.cell (p := ⟨b2, _, none⟩) hlb2).trans (hcell2 2 _ rfl)
          have e3 := (hBj.cell (p := ⟨b2, _, none⟩) hlb2).trans (hcell2 3 _ rfl)
          have e4 := (hBj.cell (p := ⟨b2, _, none⟩) hlb2).trans (hcell2 4 _ rfl)
          have e5 := (hBj.cell (p := ⟨b2, _, none⟩) hlb2).trans (hcell2 5 _ rfl)
          simp only [Nat.add_zero] at e0 e1 e2 e3 e4 e5
          have hlr : b2 < wr.heap.size := by omega
          obtain ⟨X, hX⟩ : ∃ X : World, X = (wr.alloc (.cells (fc x).toArray 50)).alloc (.cells #[.string x.key] 9) := ⟨_, rfl⟩
          have hBX : Below wr.heap.size wr X := by rw [hX]; exact ((Below.refl _ _).alloc (Nat.le_refl _) _).alloc (by simp) _
          have hX1 : X.heap[wr.heap.size + 1]? = some (.cells #[.string x.key] 9 (0, 0)) := by rw [hX]; exact blk_new_at (by simp) _
          have hxl : (keysAll (ls.take i) ++ keysOf (xs.take j)).length < 1000000 := by rw [List.length_append, hklen]; omega
          obtain ⟨v', w2, hrun, hO2, hg2⟩ := run_append_str X w.heap.size u3 _ (wr.heap.size + 1) x.key (OwnS.below hown hBX) hX1 hxl (by have := hBX.size; omega) (64)
          have hrow : ∀ k', u3.ownBlock = some k' → w.heap.size ≤ k' := fun k' hk' => (World.ownsRow.lt hown k' hk').1
          have HB2 := Lib.hid ((hBj.trans (hBX.mono hsj)).grown hg2 (Nat.le_trans hsj hBX.size) hrow)
          rw [hX] at hrun
          have HRUN := Lib.hid hrun
          have HO2 := Lib.hid hO2
          have HKK := Lib.hid hkk
          have hj0 : (0 : Int) ≤ (j : Int) := by omega
          have hj1 : (j : Int) < (xs.length : Int) := by omega
          clear hX hBX hX1 hrun hO2 hg2 hrow hown hBj hkk hcell2 hxl hklen
          simp only [fc] at HRUN
          go_wp2_with (at_builtin; refine Lib.wpList_append_run _ rfl _ _ _ _ rfl _ _ rfl rfl _ _ (HRUN.out) ?_)
          go_roundg (gk - 1)
          case measure => omega
          case rel => exact ⟨j + 1, by omega, by go_num, by rw [HKK.out, ← List.append_assoc]; exact HO2.out, HB2.out⟩
        · have hje : j = xs.length := by omega
          subst hje
          rw [List.take_length, ← HKS.out] at hown
          have HOWN := Lib.hid hown
          have HBJ := Lib.hid hBj
          clear hown hBj
          go_wp2
          go_roundg (g2 - 1)
          case measure => omega
          case rel => exact ⟨i + 1, by omega, by go_num, HOWN.out, HBJ.out⟩
    · have hie : i = ls.length := by omega
      subst hie
      have hown := HOWN.out
      rw [List.take_length] at hown
      have hcon := sortStr_any w.heap.size u3 _ wr hown HK.out
      have hrow : ∀ k', u3.ownBlock = some k' → w.heap.size ≤ k' := fun k' hk' => (World.ownsRow.lt hown k' hk').1
      have HROW := Lib.hid hrow
      have HCON := Lib.hid hcon
      clear hown hcon hrow HOWN
      go_wp2_with fail
      refine (HCON.out).mono ?_
      rintro e w2 ⟨rfl, hO2, hg2⟩
      have HB2 := Lib.hid (HBI.out.grown hg2 hsi HROW.out)
      have hcon2 := compactStr_any w.heap.size u3 _ w2 hO2 (by rw [sortS_len]; exact HK.out)
      have HCON2 := Lib.hid hcon2
      have hs2 := HB2.out.size
      clear hO2 hg2 hcon2 HCON
      go_wp2_with fail
      refine (HCON2.out).mono ?_
      rintro e w3 ⟨v', rfl, hO3, hg3⟩
      have HB3 := Lib.hid (HB2.out.grown hg3 hs2 HROW.out)
      have HO3 := Lib.hid hO3
      clear hO3 hg3 HCON2
      go_wp2
      go_ret
      exact ⟨_, rfl, HO3.out, HB3.out⟩
end Go.Proofs.YtenocakpipppiaaGreatDoor
