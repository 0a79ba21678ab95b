/- manifests: maps of shelves; byLine. Condition: fewer than 1000000 shelves. · slices.Equal at tables; manifests.same. Condition: at most 1000000 tables a level. · slices.IndexFunc, DeleteFunc at shelves, in a row of one's own, at Put's closure. Condition: fewer than 1000000 shelves. -/
import Derived.Test.YtchcelodeepjdaaGreatDoorZZ
import Derived.Test.YtchcelodeepjdaaGreatDoorZZU
import Derived.Lib.SliceRun
import Derived.Deep.RegionLaw
namespace Go.Proofs.YtchcelodeepjdaaGreatDoor.Ln
open Go.RowKit Go.Shelf Go.Herb

abbrev MapS (w : World) (b : Nat) (m : List (Int × Sv)) : Prop := MapIs Tryz.prog (26) eU shV w b m
theorem zeroS (w : World) : (zeroValue (57)).run Tryz.prog w = .ok (.agg #[.int .u64 0, .slice none 0 0, .slice none 0 0, .slice none 0 0]) w := by kernel_rfl
theorem MapIs.storeS {w : World} {b : Nat} {m : List (Int × Sv)} (h : MapS w b m) (s : Sv) (hk : U64 s.line) (hl : m.length < 100000000) :
    ∃ w', (Instr.mapUpdate (94) (.map (some b)) (.int .u64 s.line) (shV s)).run Tryz.prog w = .ok () w' ∧ MapS w' b (putL m s.line s) ∧ w.grownBy w' (some b) ∧ w'.heap.size = w.heap.size :=
  MapIs.store h lawU eU_inj Tryz.underlying94 (by unfold maxLen; omega) s (Maps.keyOf_int_mk Tryz.underlying26 hk)
/-- Shelves, put into a map by their lines. -/
def putS (m : List (Int × Sv)) (xs : List Sv) : List (Int × Sv) := xs.foldl (fun m s => putL m s.line s) m
theorem putS_snoc (m : List (Int × Sv)) {xs : List Sv} {k : Nat} {x : Sv} (h : xs[k]? = some x) : putS m (xs.take (k + 1)) = putL (putS m (xs.take k)) x.line x := by
  obtain ⟨hk, rfl⟩ := List.getElem?_eq_some_iff.1 h
  unfold putS
  rw [List.take_succ_eq_append_getElem hk, List.foldl_append]
  rfl
theorem putS_len (m : List (Int × Sv)) (xs : List Sv) : (putS m xs).length ≤ m.length + xs.length := by
  unfold putS
  induction xs generalizing m with
  | nil => simp
  | cons x xs ih =>
    have h1 := ih (putL m x.line x)
    have h2 := putL_length m x.line x
    rw [List.foldl_cons, List.length_cons]
    omega
def ByPost (xs : List Sv) (w : World) (e : Ending) (w' : World) : Prop := ∃ b, e = .returned (.map (some b)) ∧ MapS w' b (putS [] xs) ∧ Below w.heap.size w w' ∧ w.heap.size ≤ b
set_option maxRecDepth 100000 in
set_option maxHeartbeats 2000000 in
theorem byLine_any (sa : Option Addr) (sc n : Nat) (xs : List Sv) (w : World) (hS : ShIn w sa xs) (hn : xs.length = n) (hl : n < 1000000) :
    Calls Tryz.prog (40) #[.slice sa n sc] w (ByPost xs w) := by
  have hmm := @run_makeMap Tryz.prog
  have HS := Lib.hid hS
  have HN := Lib.hid hn
  obtain ⟨V, hV⟩ : ∃ V : World, V = w.alloc (.map #[] 0) := ⟨_, rfl⟩
  have HM0 := Lib.hid (show MapS V w.heap.size [] from by rw [hV]; exact MapIs.made w)
  have HB0 := Lib.hid (show Below w.heap.size w V from by rw [hV]; exact (Below.refl _ _).alloc (Nat.le_refl _) _)
  have HV := Lib.hid hV
  clear hS hn hV
  go_enter Tryz.func40, Tryz.ntmps40
  go_upto_region 3 with fail
  rw [← HV.out]
  go_loopg [9] n (fun gk iv wr => ∃ k : Nat, k + gk = n ∧ iv = .int .i64 k ∧ Hid (MapS wr w.heap.size (putS [] (xs.take k))) ∧ Hid (Below w.heap.size w wr))
  case atStart => exact ⟨0, by omega, rfl, Lib.hid (by simpa [putS] using HM0.out), HB0⟩
  case round =>
    obtain ⟨k, hk, rfl, HMk, HBk⟩ := hrel
    by_cases hlt : k < n
    · have hkl : k < xs.length := by have := HN.out; omega
      obtain ⟨b, o, hsa, hlb, hcx⟩ := (HS.out.els.ext HBk.out).get k hkl
      have hgk : xs[k]? = some xs[k] := List.getElem?_eq_getElem hkl
      have hok := HS.out.ok _ (List.getElem_mem hkl)
      generalize xs[k] = s at hcx hgk hok
      have g0 := hcx 0 _ rfl
      have g1 := hcx 1 _ rfl
      have g2 := hcx 2 _ rfl
      have g3 := hcx 3 _ rfl
      simp only [Nat.add_zero] at g0
      obtain ⟨A, hA⟩ : ∃ A : World, A = wr.alloc (.cells #[.int .u64 s.line, lvV s.l0, lvV s.l1, lvV s.l2] (57)) := ⟨_, rfl⟩
      have hBA : Below wr.heap.size wr A := by rw [hA]; exact (Below.refl _ _).alloc (Nat.le_refl _) _
      have hml := putS_len [] (xs.take k)
      have hmA : MapS A w.heap.size (putS [] (xs.take k)) := HMk.out.same (hBA.block _ HMk.out.lt)
      obtain ⟨Z, hst, hM3, hg3, hs3⟩ := MapIs.storeS hmA s hok.wf (by rw [List.length_take] at hml; simp at hml; omega)
      have hBA2 := HBk.out.trans (hBA.mono HBk.out.size)
      have HBZ := Lib.hid (show Below w.heap.size w Z from hBA2.grown hg3 hBA2.size (fun q e => by injection e with e; omega))
      have HMZ := Lib.hid (show MapS Z w.heap.size (putS [] (xs.take (k + 1))) from by rw [putS_snoc _ hgk]; exact hM3)
      have i0 : (0 : Int) ≤ (k : Int) := by omega
      have i1 : (k : Int) < (n : Int) := by omega
      have hw1 : IntKind.i64.wrap ((k : Int) + 1) = (k : Int) + 1 := IntWalk.i64_in _ (by omega)
      rw [hA] at hst
      clear hcx hBA hBA2 hA hgk hok hml hmA hM3 hg3 hs3
      rw [hsa]
      go_wp2_with fail
      rw [← hsa]
      go_roundg (gk - 1)
      case measure => omega
      case rel => exact ⟨k + 1, by omega, by go_num, HMZ, HBZ⟩
    · have hkn : k = n := by omega
      have HMF := Lib.hid (show MapS wr w.heap.size (putS [] xs) from by
        have h1 := HMk.out
        rwa [List.take_of_length_le (by have := HN.out; omega)] at h1)
      go_wp2_with fail
      go_ret
      unfold ByPost
      exact ⟨_, rfl, HMF.out, HBk.out, Nat.le_refl _⟩
end Go.Proofs.YtchcelodeepjdaaGreatDoor.Ln

namespace Go.Proofs.YtchcelodeepjdaaGreatDoor.Ln
open Go.RowKit Go.Shelf Go.Herb

theorem dn_below {w u : World} (h : ∃ m, u = w.drewN m) : Below w.heap.size w u := by
  obtain ⟨m, rfl⟩ := h
  exact below_dn (Below.refl _ _) m
theorem dn_more {w u : World} (h : ∃ m, u = w.drewN m) (n : Nat) : ∃ m, u.drewN n = w.drewN m := by
  obtain ⟨m, rfl⟩ := h
  exact ⟨m + n, by rw [World.drewN_drewN]⟩
def EqTPost (xs ys : List Tb) (w : World) (e : Ending) (w' : World) : Prop := ∃ q : Bool, e = .returned (.bool q) ∧ (q = true ↔ xs = ys) ∧ ∃ m, w' = w.drewN m
set_option maxRecDepth 100000 in
set_option maxHeartbeats 2000000 in
theorem eqTabs_any (a a' : Option Addr) (c c' n m : Nat) (xs ys : List Tb) (w : World) (hE : Els tbc 4 w a xs) (hE' : Els tbc 4 w a' ys) (hn : xs.length = n) (hm : ys.length = m) (hl : n ≤ 1000000) (hl2 : m ≤ 1000000) :
    Calls Tryz.prog (81) #[.slice a n c, .slice a' m c'] w (EqTPost xs ys w) := by
  have HE := Lib.hid hE
  have HE' := Lib.hid hE'
  have HN := Lib.hid hn
  have HM := Lib.hid hm
  have qn := run_neqTb
  have qg := guardTb
  have HB0 := Lib.hid (show ∃ m, w = w.drewN m from ⟨0, rfl⟩)
  by_cases hnm : n = m
  case neg =>
    have d1 : ((n : Int) == (m : Int)) = false := beq_eq_false_iff_ne.2 (by omega)
    have d2 : (n == m) = false := beq_eq_false_iff_ne.2 hnm
    have d3 : ((n : Int) != (m : Int)) = true := by simp; omega
    have HF := Lib.hid (show xs ≠ ys from fun h => by
      rw [h] at hn
      exact hnm (hn.symm.trans hm))
    clear hE hE' hn hm hnm
    go_enter Tryz.func81, Tryz.ntmps81
    go_wp2_with fail
    go_ret
    unfold EqTPost
    exact ⟨false, rfl, ⟨(fun h => by cases h), fun h => absurd h HF.out⟩, HB0.out⟩
  subst hnm
  have HNO := Lib.hid (show ∀ u, (∃ m, u = w.drewN m) → xs ≠ ys → EqTPost xs ys w (.returned (.bool false)) u from fun u hu h => ⟨false, rfl, ⟨(fun h => by cases h), fun h2 => absurd h2 h⟩, hu⟩)
  clear hE hE' hn hm
  go_enter Tryz.func81, Tryz.ntmps81
  go_wp2_with fail
  go_loopg [13] n (fun gk iv wr => ∃ j : Nat, j + gk = n ∧ iv = .int .i64 j ∧ Hid (xs.take j = ys.take j) ∧ Hid (∃ m, wr = w.drewN m))
  case atStart => exact ⟨0, by omega, rfl, Lib.hid rfl, HB0⟩
  case round =>
    obtain ⟨j, hj, rfl, HTJ, HBj⟩ := hrel
    by_cases hltj : j < n
    · have hjx : j < xs.length := by have := HN.out; omega
      have hjy : j < ys.length := by have := HM.out; omega
      obtain ⟨tb, tO, hta, htb, htc⟩ := HE.out.get j hjx
      obtain ⟨tb', tO', hta', htb', htc'⟩ := HE'.out.get j hjy
      have HTX := Lib.hid (List.getElem?_eq_getElem hjx)
      have HTY := Lib.hid (List.getElem?_eq_getElem hjy)
      generalize xs[j] = t at htc HTX
      generalize ys[j] = t' at htc' HTY
      have hbw := dn_below HBj.out
      have a0 := (hbw.cell (p := ⟨tb, _, none⟩) htb).trans (htc 0 _ rfl)
      have a1 := (hbw.cell (p := ⟨tb, _, none⟩) htb).trans (htc 1 _ rfl)
      have a2 := (hbw.cell (p := ⟨tb, _, none⟩) htb).trans (htc 2 _ rfl)
      have a3 := (hbw.cell (p := ⟨tb, _, none⟩) htb).trans (htc 3 _ rfl)
      have b0 := (hbw.cell (p := ⟨tb', _, none⟩) htb').trans (htc' 0 _ rfl)
      have b1 := (hbw.cell (p := ⟨tb', _, none⟩) htb').trans (htc' 1 _ rfl)
      have b2 := (hbw.cell (p := ⟨tb', _, none⟩) htb').trans (htc' 2 _ rfl)
      have b3 := (hbw.cell (p := ⟨tb', _, none⟩) htb').trans (htc' 3 _ rfl)
      simp only [Nat.add_zero] at a0 b0
      have HTA := Lib.hid hta
      have HTB := Lib.hid hta'
      have l0 : (0 : Int) ≤ (j : Int) := by omega
      have l1 : (j : Int) < (n : Int) := by omega
      have hw3 : IntKind.i64.wrap ((j : Int) + 1) = (j : Int) + 1 := IntWalk.i64_in _ (by omega)
      rw [hta, hta']
      clear htc htc' hta hta' hbw
      by_cases hq : t.file = t'.file ∧ t.bytes = t'.bytes ∧ t.low = t'.low ∧ t.high = t'.high
      · have dq : decide (t.file = t'.file ∧ t.bytes = t'.bytes ∧ t.low = t'.low ∧ t.high = t'.high) = true := decide_eq_true hq
        have HTJ2 := Lib.hid (show xs.take (j + 1) = ys.take (j + 1) from take_next HTJ.out HTX.out HTY.out (by
          obtain ⟨h1, h2, h3, h4⟩ := hq
          cases t
          cases t'
          simp only at h1 h2 h3 h4
          rw [h1, h2, h3, h4]))
        clear hq
        go_upto_region 6 with fail
        go_quiet (fail)
        have HBn := Lib.hid (dn_more HBj.out nq)
        go_wp2
        rw [← HTA.out, ← HTB.out]
        go_roundg (gk - 1)
        case measure => omega
        case rel => exact ⟨j + 1, by omega, by go_num, HTJ2, HBn⟩
      · have dq : decide (t.file = t'.file ∧ t.bytes = t'.bytes ∧ t.low = t'.low ∧ t.high = t'.high) = false := decide_eq_false hq
        have HF := Lib.hid (ne_at HTX.out HTY.out (fun h => hq (by rw [h]; exact ⟨rfl, rfl, rfl, rfl⟩)))
        clear hq
        go_upto_region 6 with fail
        go_quiet (fail)
        go_wp2
        go_ret
        exact HNO.out _ (dn_more HBj.out nq) HF.out
    · have l1 : ¬ (j : Int) < (n : Int) := by omega
      have HF := Lib.hid (show EqTPost xs ys w (.returned (.bool true)) wr from ⟨true, rfl, ⟨fun _ => by
        have := HTJ.out
        rwa [List.take_of_length_le (by have := HN.out; omega), List.take_of_length_le (by have := HM.out; omega)] at this, fun _ => rfl⟩, HBj.out⟩)
      go_wp2_with fail
      go_ret
      exact HF.out
def SamePost (s t : Sv) (w : World) (e : Ending) (w' : World) : Prop := ∃ q : Bool, e = .returned (.bool q) ∧ (q = true ↔ s.says.lv = t.says.lv) ∧ Below w.heap.size w w'
theorem Sv.lvl {w : World} {s : Sv} (h : SvOk w s) {k : Nat} {l : Lv} (hl : s.lv[k]? = some l) : LvOk w l := by
  have hm := List.mem_of_getElem? hl
  simp only [Sv.lv, List.mem_cons, List.not_mem_nil, or_false] at hm
  rcases hm with rfl | rfl | rfl
  · exact h.l0
  · exact h.l1
  · exact h.l2
set_option maxRecDepth 100000 in
set_option maxHeartbeats 2000000 in
theorem same_any (s t : Sv) (w : World) (hs : SvOk w s) (ht : SvOk w t) (hl : ∀ l ∈ s.lv, l.ts.length ≤ 1000000) (hl2 : ∀ l ∈ t.lv, l.ts.length ≤ 1000000) :
    Calls Tryz.prog (45) #[shV s, shV t] w (SamePost s t w) := by
  have HS := Lib.hid hs
  have HT := Lib.hid ht
  have HL := Lib.hid hl
  have HL2 := Lib.hid hl2
  obtain ⟨V, hV⟩ : ∃ V : World, V = w.alloc (.cells #[.int .u64 s.line, lvV s.l0, lvV s.l1, lvV s.l2] (57)) := ⟨_, rfl⟩
  have hVs : V.heap.size = w.heap.size + 1 := by rw [hV]; simp
  have hbV : Below w.heap.size w V := by rw [hV]; exact (Below.refl _ _).alloc (Nat.le_refl _) _
  have hx1 : V.heap[w.heap.size]? = some (.cells #[.int .u64 s.line, lvV s.l0, lvV s.l1, lvV s.l2] (57) (0, 0)) := by rw [hV]; exact blk_new_at rfl _
  obtain ⟨W, hW⟩ : ∃ W : World, W = V.alloc (.cells #[.int .u64 t.line, lvV t.l0, lvV t.l1, lvV t.l2] (57)) := ⟨_, rfl⟩
  have hbW : Below V.heap.size V W := by rw [hW]; exact (Below.refl _ _).alloc (Nat.le_refl _) _
  have hx2 : W.heap[w.heap.size]? = some (.cells #[.int .u64 s.line, lvV s.l0, lvV s.l1, lvV s.l2] (57) (0, 0)) := blk_below hx1 hbW (lt_of_blk hx1)
  have hy2 : W.heap[w.heap.size + 1]? = some (.cells #[.int .u64 t.line, lvV t.l0, lvV t.l1, lvV t.l2] (57) (0, 0)) := by rw [hW, ← hVs]; exact blk_new_at rfl _
  have HBW := Lib.hid (hbV.trans (hbW.mono hbV.size))
  have hc1 := cell_of_blk hx2
  have hc2 := cell_of_blk hy2
  have HCL := Lib.hid (show ∀ k, k < 3 → ∃ lx ly, s.lv[k]? = some lx ∧ t.lv[k]? = some ly ∧ W.cell? ⟨w.heap.size, 1 + k, none⟩ = some (lvV lx) ∧ W.cell? ⟨w.heap.size + 1, 1 + k, none⟩ = some (lvV ly) from fun k hk => by
    match k, hk with
    | 0, _ => exact ⟨_, _, rfl, rfl, by simpa using hc1 1, by simpa using hc2 1⟩
    | 1, _ => exact ⟨_, _, rfl, rfl, by simpa using hc1 2, by simpa using hc2 2⟩
    | 2, _ => exact ⟨_, _, rfl, rfl, by simpa using hc1 3, by simpa using hc2 3⟩)
  have HNO := Lib.hid (show ∀ u, (∃ m, u = W.drewN m) → s.says.lv ≠ t.says.lv → SamePost s t w (.returned (.bool false)) u from fun u hu h => ⟨false, rfl, ⟨(fun h => by cases h), fun h2 => absurd h2 h⟩, HBW.out.trans ((dn_below hu).mono HBW.out.size)⟩)
  have HYES := Lib.hid (show ∀ u, (∃ m, u = W.drewN m) → s.says.lv = t.says.lv → SamePost s t w (.returned (.bool true)) u from fun u hu h => ⟨true, rfl, ⟨fun _ => h, fun _ => rfl⟩, HBW.out.trans ((dn_below hu).mono HBW.out.size)⟩)
  have HW := Lib.hid hW
  have HV := Lib.hid hV
  have HB0 := Lib.hid (show ∃ m, W = W.drewN m from ⟨0, rfl⟩)
  clear hs ht hl hl2 hV hVs hbV hx1 hbW hx2 hy2 hc1 hc2 hW
  go_enter Tryz.func45, Tryz.ntmps45
  go_upto_region 2 with fail
  rw [← HV.out, ← HW.out]
  go_loopg [6] 3 (fun gk iv wr => ∃ k : Nat, k + gk = 3 ∧ iv = .int .i64 k ∧ Hid (s.says.lv.take k = t.says.lv.take k) ∧ Hid (∃ m, wr = W.drewN m))
  case atStart => exact ⟨0, rfl, rfl, Lib.hid rfl, HB0⟩
  case round =>
    obtain ⟨k, hk, rfl, HTK, HBk⟩ := hrel
    by_cases hltk : k < 3
    · have j0 : (0 : Int) ≤ (k : Int) := by omega
      have j1 : (k : Int) < 3 := by omega
      have hw2 : IntKind.i64.wrap ((k : Int) + 1) = (k : Int) + 1 := IntWalk.i64_in _ (by omega)
      obtain ⟨lx, ly, hlx, hly, hc1, hc2⟩ := HCL.out k hltk
      have hbw := dn_below HBk.out
      have HXS := Lib.hid (show s.says.lv[k]? = some lx.ts from by show (s.lv.map (·.ts))[k]? = _; rw [List.getElem?_map, hlx]; rfl)
      have HYS := Lib.hid (show t.says.lv[k]? = some ly.ts from by show (t.lv.map (·.ts))[k]? = _; rw [List.getElem?_map, hly]; rfl)
      have hkx := (Sv.lvl HS.out hlx).ext HBW.out
      have hky := (Sv.lvl HT.out hly).ext HBW.out
      have hnx1 := HL.out lx (List.mem_of_getElem? hlx)
      have hny1 := HL2.out ly (List.mem_of_getElem? hly)
      obtain ⟨nx, hnx⟩ : ∃ n, n = lx.ts.length := ⟨_, rfl⟩
      obtain ⟨ny, hny⟩ : ∃ n, n = ly.ts.length := ⟨_, rfl⟩
      have hvx : lvV lx = .slice lx.a nx lx.cap := by rw [hnx]
      have hvy : lvV ly = .slice ly.a ny ly.cap := by rw [hny]
      have HEQ := Lib.hid (show ∀ m, Calls Tryz.prog (81) #[.slice lx.a nx lx.cap, .slice ly.a ny ly.cap] (wr.drewN m) (EqTPost lx.ts ly.ts (wr.drewN m)) from fun m => by
        have hb2 := dn_below (dn_more HBk.out m)
        exact eqTabs_any lx.a ly.a lx.cap ly.cap nx ny lx.ts ly.ts (wr.drewN m) (hkx.ext hb2).tabs (hky.ext hb2).tabs hnx.symm hny.symm (by omega) (by omega))
      have c1 := (hbw.cell (p := ⟨w.heap.size, 1 + k, none⟩) (by have := HBW.out.size; have := lt_of_cell hc1; exact this)).trans hc1
      have c2 := (hbw.cell (p := ⟨w.heap.size + 1, 1 + k, none⟩) (by have := lt_of_cell hc2; exact this)).trans hc2
      rw [hvx] at c1
      rw [hvy] at c2
      clear hlx hly hnx hny hvx hvy hkx hky hbw hc1 hc2
      by_cases hq : lx.ts = ly.ts
      · have HE2 := Lib.hid (show ∀ m, Calls Tryz.prog (81) #[.slice lx.a nx lx.cap, .slice ly.a ny ly.cap] (wr.drewN m) (fun e w' => e = .returned (.bool true) ∧ ∃ n, w' = (wr.drewN m).drewN n) from fun m => (HEQ.out m).mono (by
          rintro e w' ⟨q, rfl, hq2, hm⟩
          rw [hq2.2 hq]
          exact ⟨rfl, hm⟩))
        have HT2 := Lib.hid (show s.says.lv.take (k + 1) = t.says.lv.take (k + 1) from take_next HTK.out HXS.out HYS.out hq)
        clear hq
        go_upto_region 4 with fail
        go_quiet ((go_at_call 81; exact Calls.quiet_of (HE2.out _)))
        have HBn := Lib.hid (dn_more HBk.out nq)
        go_wp2
        go_roundg (gk - 1)
        case measure => omega
        case rel => exact ⟨k + 1, by omega, by go_num, HT2, HBn⟩
      · have HE2 := Lib.hid (show ∀ m, Calls Tryz.prog (81) #[.slice lx.a nx lx.cap, .slice ly.a ny ly.cap] (wr.drewN m) (fun e w' => e = .returned (.bool false) ∧ ∃ n, w' = (wr.drewN m).drewN n) from fun m => (HEQ.out m).mono (by
          rintro e w' ⟨q, rfl, hq2, hm⟩
          cases q with
          | true => exact absurd (hq2.1 rfl) hq
          | false => exact ⟨rfl, hm⟩))
        have HF := Lib.hid (ne_at HXS.out HYS.out hq)
        clear hq
        go_upto_region 4 with fail
        go_quiet ((go_at_call 81; exact Calls.quiet_of (HE2.out _)))
        go_wp2
        go_ret
        exact HNO.out _ (dn_more HBk.out nq) HF.out
    · have j1 : ¬ (k : Int) < 3 := by omega
      have HF := Lib.hid (HYES.out _ HBk.out (by
        have h1 := HTK.out
        have e1 : s.says.lv.length = 3 := rfl
        have e2 : t.says.lv.length = 3 := rfl
        rwa [List.take_of_length_le (by omega), List.take_of_length_le (by omega)] at h1))
      clear hltk hk
      go_wp2_with fail
      go_ret
      exact HF.out
end Go.Proofs.YtchcelodeepjdaaGreatDoor.Ln

namespace Go.Herb
open Go.RowKit
theorem zeroCells_len (z : Array Value) (n : Nat) : (Builtin.zeroCells z n).toList.length = n * z.size := by
  simp [Builtin.zeroCells]
theorem zeroCells_one {z : Array Value} {n : Nat} (h : ∀ v ∈ z.toList, v.oneCell' = true) : ∀ v ∈ (Builtin.zeroCells z n).toList, v.oneCell' = true := by
  intro v hv
  simp only [Builtin.zeroCells, Array.toList_map, Array.toList_range, List.mem_map, List.mem_range] at hv
  obtain ⟨i, hi, rfl⟩ := hv
  have hz : 0 < z.size := by
    rcases Nat.eq_zero_or_pos z.size with h0 | h0
    · rw [h0] at hi; omega
    · exact h0
  have h2 := Nat.mod_lt i hz
  rw [getElem!_pos z _ h2]
  exact h _ (by simp)
theorem run_clear_row {P : Program} (w : World) (t e : TypeId) (z : Value) (ht : P.underlying t = some (.slice e)) (hv : ∀ w, (zeroValue e).run P w = .ok z w) (g o n c : Nat) (cur : Array Value) (et : TypeId)
    (hg : w.heap[g]? = some (.cells cur et (0, 0))) (hn : 0 < n) (hfit : o + n * z.cells.size ≤ cur.size) (h1 : ∀ v ∈ z.cells.toList, v.oneCell' = true) (ty : TypeId) :
    (Builtin.clear_ #[t] ty #[.slice (some ⟨g, o, none⟩) n c]).run P w = .ok (.tuple #[]) (w.setRow g (cur.toList.take o ++ (Builtin.zeroCells z.cells n).toList ++ cur.toList.drop (o + n * z.cells.size)).toArray) := by
  have hst := run_storeCells_at P g o et (Builtin.zeroCells z.cells n).toList 0 cur w hg (by rw [zeroCells_len]; simpa using hfit) (zeroCells_one h1)
  rw [zeroCells_len] at hst
  simp only [Nat.add_zero] at hst
  obtain ⟨m, rfl⟩ : ∃ m, n = m + 1 := ⟨n - 1, by omega⟩
  simp [Builtin.clear_, run_underlying ht, hv, hst]
theorem wpList_clear_eq {P : Program} (w : World) {ops : Array Oper} {rest : List Oper} {o : Oper} {a : Act} {Q : Exit → Act → World → Prop} (hgd : o.guard = none) (d : Operand) (t : TypeId)
    (ho : o.op = .call { callee := .builtin .clear, args := #[d], argTypes := #[t] }) (v : Value) (hd : a.eval d = v) {v' : Value} {w' : World}
    (hr : (Builtin.clear_ #[t] o.type #[v]).run P w = .ok v' w') (h : wpList P ops Q rest (a.put o.dst v') w') : wpList P ops Q (o :: rest) a w :=
  wpList_plain hgd fun _ hK => by
    unfold Oper.wp execOp
    simp only [ho, resolve, invoke, builtin, Sem.run_bind, Sem.run_pure, Result.andThen_ok, List.map_toArray, List.map_cons, List.map_nil, hd, hr]
    exact hK _ _ h
theorem set_four {α : Type} (A M T : List α) (k : Nat) (a b c d : α) (hA : A.length = k) (hM : 4 ≤ M.length) : (((((A ++ (M ++ T)).toArray.setIfInBounds k a).setIfInBounds (k + 1) b).setIfInBounds (k + 2) c).setIfInBounds (k + 3) d) = (A ++ (a :: b :: c :: d :: (M.drop 4 ++ T))).toArray := by
  match M, hM with
  | m0 :: m1 :: m2 :: m3 :: M, _ =>
    subst hA
    simp
theorem filter_take_succ {α : Type} (p : α → Bool) (ls : List α) (k : Nat) (h : k < ls.length) : (ls.take (k + 1)).filter p = (ls.take k).filter p ++ if p ls[k] then [ls[k]] else [] := by
  rw [List.take_succ_eq_append_getElem h, List.filter_append]
  congr 1
  cases hp : p ls[k] <;> simp [hp]
end Go.Herb
namespace Go.Proofs.YtchcelodeepjdaaGreatDoor.Ln
open Go.RowKit Go.Shelf Go.Herb

/-- A predicate, as a function value, in whatever world in which but one row has turned. -/
def PredS (h kb : Nat) (ls : List Sv) (p : Sv → Bool) (w : World) : Prop := ∀ (u : World) (x : Sv), x ∈ ls → TurnI h w u → Calls Tryz.prog (44) #[shV x, .pointer (some ⟨kb, 0, none⟩)] u fun e w' => e = .returned (.bool (p x)) ∧ Below u.heap.size u w'
def IdxSPost (ls : List Sv) (p : Sv → Bool) (w : World) (e : Ending) (w' : World) : Prop :=
  ∃ r : Int, e = .returned (.int .i64 r) ∧ Hid ((r = -1 ∧ ∀ x ∈ ls, p x = false) ∨ (∃ (i : Nat) (x : Sv), r = i ∧ ls[i]? = some x ∧ p x = true ∧ ∀ y ∈ ls.take i, p y = false)) ∧ Below w.heap.size w w'
set_option maxRecDepth 100000 in
theorem indexFuncS_any (h kb c n : Nat) (p : Sv → Bool) (ls : List Sv) (w : World) (hh : Els shc 4 w (some ⟨h, 0, none⟩) ls) (hn : ls.length = n) (hn1 : n < 1000000) (hp : PredS h kb ls p w) :
    Calls Tryz.prog 80 #[.slice (some ⟨h, 0, none⟩) n c, .func (.func (44)) #[] #[.pointer (some ⟨kb, 0, none⟩)]] w (IdxSPost ls p w) := by
  have HE := Lib.hid hh
  have HP := Lib.hid hp
  have HN := Lib.hid hn
  clear hh hn hp
  go_enter Tryz.func80, Tryz.ntmps80
  go_wp2_with fail
  go_loopg [8] n (fun gk iv wr => ∃ i : Nat, i + gk = n ∧ iv = .int .i64 i ∧ Hid (∀ y ∈ ls.take i, p y = false) ∧ Hid (Below w.heap.size w wr))
  case atStart => exact ⟨0, by omega, rfl, Lib.hid (by simp), Lib.hid (Below.refl _ _)⟩
  case round =>
    obtain ⟨i, hi, rfl, HX, HB⟩ := hrel
    by_cases hlt : i < n
    · have hil : i < ls.length := by have := HN.out; omega
      obtain ⟨b, o, he, hlb, hcx⟩ := HE.out.get i hil
      injection he with he
      injection he with e1 e2
      subst e1 e2
      have HTK := Lib.hid (List.take_succ_eq_append_getElem hil)
      have HMM := Lib.hid (List.getElem?_eq_getElem hil)
      have hxm : ls[i] ∈ ls := List.getElem_mem hil
      generalize ls[i] = x at hcx HTK HMM hxm
      have g0 := (HB.out.cell (p := ⟨_, _, none⟩) hlb).trans (hcx 0 _ rfl)
      have g1 := (HB.out.cell (p := ⟨_, _, none⟩) hlb).trans (hcx 1 _ rfl)
      have g2 := (HB.out.cell (p := ⟨_, _, none⟩) hlb).trans (hcx 2 _ rfl)
      have g3 := (HB.out.cell (p := ⟨_, _, none⟩) hlb).trans (hcx 3 _ rfl)
      simp only [Nat.zero_add, Nat.add_zero] at g0 g1 g2 g3
      have i0 : (0 : Int) ≤ (i : Int) := by omega
      have i1 : (i : Int) < (n : Int) := by omega
      have iw : IntKind.i64.wrap ((i : Int) + 1) = (i : Int) + 1 := IntWalk.i64_in _ (by omega)
      have HCP := Lib.hid (HP.out wr x hxm (TurnI.of_below (by exact ⟨HB.out.os, HB.out.tape, HB.out.output, HB.out.size, HB.out.block⟩)))
      clear hcx
      cases hq : p x with
      | true =>
        have HR := Lib.hid (show ((i : Int) = -1 ∧ ∀ x ∈ ls, p x = false) ∨ (∃ (j : Nat) (x : Sv), (i : Int) = j ∧ ls[j]? = some x ∧ p x = true ∧ ∀ y ∈ ls.take j, p y = false) from .inr ⟨i, x, rfl, HMM.out, hq, HX.out⟩)
        rw [hq] at HCP
        clear hq
        go_wp2_with (go_at_call 44; refine HCP.out.mono ?_; rintro e w3 ⟨rfl, hB3⟩; have HB3 := Lib.hid (HB.out.trans (hB3.mono HB.out.size)); clear hB3)
        go_ret
        exact ⟨_, rfl, HR, HB3.out⟩
      | false =>
        have HX2 := Lib.hid (show ∀ y ∈ ls.take (i + 1), p y = false from by
          rw [HTK.out]
          intro y hy
          rcases List.mem_append.1 hy with h1 | h1
          · exact HX.out y h1
          · rw [List.mem_singleton.1 h1]; exact hq)
        rw [hq] at HCP
        clear hq
        go_wp2_with (go_at_call 44; refine HCP.out.mono ?_; rintro e w3 ⟨rfl, hB3⟩; have HB3 := Lib.hid (HB.out.trans (hB3.mono HB.out.size)); clear hB3)
        go_roundg (gk - 1)
        case measure => omega
        case rel => exact ⟨i + 1, by omega, by go_num, HX2, HB3⟩
    · have h1 : ¬ (i : Int) < (n : Int) := by omega
      have HA := Lib.hid (show ∀ x ∈ ls, p x = false from by have := HX.out; rwa [List.take_of_length_le (by have := HN.out; omega)] at this)
      go_wp2_with fail
      go_ret
      exact ⟨_, rfl, Lib.hid (.inl ⟨rfl, HA.out⟩), HB.out⟩
def DelSPost (h c : Nat) (ls : List Sv) (p : Sv → Bool) (w : World) (r0 : Nat) (e : Ending) (w' : World) : Prop :=
  ∃ R : List Value, R.length + (ls.filter (fun x => !p x)).length * 4 = ls.length * 4 + r0 ∧ e = .returned (.slice (some ⟨h, 0, none⟩) (ls.filter (fun x => !p x)).length c) ∧ w'.heap[h]? = some (.cells ((ls.filter (fun x => !p x)).flatMap shc ++ R).toArray (57) (0, 0)) ∧ TurnI h w w'
/-- The row as the loop has it. -/
structure DelSRow (h : Nat) (ls : List Sv) (p : Sv → Bool) (R0 : List Value) (i j : Nat) (w wr : World) : Prop where
  row : ∃ M : List Value, M.length = (j - i) * 4 ∧ wr.heap[h]? = some (.cells (((ls.take j).filter (fun x => !p x)).flatMap shc ++ (M ++ ((ls.drop j).flatMap shc ++ R0))).toArray (57) (0, 0))
  len : ((ls.take j).filter (fun x => !p x)).length = i
  lt : i < j
  le : j ≤ ls.length
  turn : TurnI h w wr
theorem slice_loSh {g n c k : Nat} (hk : k ≤ c) (h0 : 0 < c) : ∀ W, (Instr.slice (30) (.slice (some ⟨g, 0, none⟩) n c) none (some (.int .i64 (k : Int))) none).run Tryz.prog W = .ok (.slice (some ⟨g, 0, none⟩) k c) W := fun W => by
  have h1 : c ≠ 0 := by omega
  rw [run_slice_h (P := Tryz.prog) W (30) (some ⟨g, 0, none⟩) n c (by kernel_rfl) .i64 k (by omega) (by omega)]
  rw [show Tryz.prog.elem (30) = (57) from by kernel_rfl, Tryz.sizeOf57]
  simp [sliced, Result.andThen, addr_add, h1]
theorem slice_hiSh {g n c i : Nat} (hi : i ≤ n) (hc : i < c) : ∀ W, (Instr.slice (30) (.slice (some ⟨g, 0, none⟩) n c) (some (.int .i64 (i : Int))) none none).run Tryz.prog W = .ok (.slice (some ⟨g, i * 4, none⟩) (n - i) (c - i)) W := fun W => by
  rw [run_slice_l (P := Tryz.prog) W (30) (some ⟨g, 0, none⟩) n c (by kernel_rfl) .i64 i (by omega) (by omega)]
  rw [show Tryz.prog.elem (30) = (57) from by kernel_rfl, Tryz.sizeOf57]
  have e2 : ¬ c = i := by omega
  simp [sliced, Result.andThen, addr_add, e2]
set_option maxRecDepth 100000 in
set_option maxHeartbeats 1000000 in
theorem deleteFuncS_any (h kb n : Nat) (p : Sv → Bool) (ls : List Sv) (w : World) (c : Nat) (R0 : List Value) (hh : w.heap[h]? = some (.cells (ls.flatMap shc ++ R0).toArray (57) (0, 0))) (hE : Els shc 4 w (some ⟨h, 0, none⟩) ls) (hnc : n ≤ c) (hn : ls.length = n) (hn1 : n < 1000000) (hp : PredS h kb ls p w) :
    Calls Tryz.prog 42 #[.slice (some ⟨h, 0, none⟩) n c, .func (.func (44)) #[] #[.pointer (some ⟨kb, 0, none⟩)]] w (DelSPost h c ls p w R0.length) := by
  have HI := Lib.hid (indexFuncS_any h kb c n p ls w hE hn hn1 hp)
  have HH := Lib.hid hh
  have HP := Lib.hid hp
  have HN := Lib.hid hn
  clear hh hn hp hE
  go_enter Tryz.func42, Tryz.ntmps42
  go_wp2_with fail
  refine HI.out.mono ?_
  rintro e w1 ⟨r, rfl, HR, hB1⟩
  have HB1 := Lib.hid hB1
  clear HI hB1
  rcases HR.out with ⟨rfl, hall⟩ | ⟨i0, x0, rfl, hx0, hp0, hpre⟩
  · have HK := Lib.hid (show ls.filter (fun x => !p x) = ls from List.filter_eq_self.2 (fun x hx => by rw [hall x hx]; rfl))
    clear hall HR
    go_wp2_with fail
    go_ret
    exact ⟨R0, by rw [HK.out]; omega, by rw [HK.out, HN.out]; rfl, by rw [HK.out]; exact blk_below HH.out HB1.out (lt_of_blk HH.out), TurnI.of_below HB1.out⟩
  have hil0 : i0 < n := by obtain ⟨h1, -⟩ := List.getElem?_eq_some_iff.1 hx0; have := HN.out; omega
  have HD0 := Lib.hid (show DelSRow h ls p R0 i0 (i0 + 1) w w1 from by
    obtain ⟨h1, h2⟩ := List.getElem?_eq_some_iff.1 hx0
    have e1 : (ls.take i0).filter (fun x => !p x) = ls.take i0 := List.filter_eq_self.2 (fun x hx => by rw [hpre x hx]; rfl)
    have e2 : (ls.take (i0 + 1)).filter (fun x => !p x) = ls.take i0 := by
      rw [filter_take_succ _ ls i0 h1, e1, h2, hp0]
      simp
    refine ⟨⟨shc x0, by rw [shc_len]; omega, ?_⟩, by rw [e2, List.length_take]; omega, by omega, by omega, TurnI.of_below HB1.out⟩
    rw [e2, ← List.append_assoc (shc x0), ← List.flatMap_cons, ← h2, ← List.drop_eq_getElem_cons h1, ← List.append_assoc, ← List.flatMap_append, List.take_append_drop]
    exact blk_below HH.out HB1.out (lt_of_blk HH.out))
  have q1 : ((i0 : Int) == -1) = false := beq_eq_false_iff_ne.2 (by omega)
  have q2 : IntKind.i64.wrap ((i0 : Int) + 1) = (i0 : Int) + 1 := IntWalk.i64_in _ (by omega)
  clear HR hx0 hp0 hpre HB1
  go_wp2_with fail
  go_loopg [5, 6] n (fun gk iv jv wr => ∃ i j : Nat, n ≤ j + gk ∧ iv = .int .i64 i ∧ jv = .int .i64 j ∧ Hid (DelSRow h ls p R0 i j w wr))
  case atStart => exact ⟨i0, i0 + 1, by omega, rfl, by rw [Int.natCast_add]; rfl, HD0⟩
  case round =>
    obtain ⟨i, j, hj, rfl, rfl, HD⟩ := hrel
    obtain ⟨M, hM, hrow⟩ := HD.out.row
    have hij := HD.out.lt
    have hKl : (((ls.take j).filter (fun x => !p x)).flatMap shc).length = i * 4 := by rw [flatMap_len shc_len, HD.out.len]
    by_cases hlt : j < n
    · have hjl : j < ls.length := by have := HN.out; omega
      have hdrop : (ls.drop j).flatMap shc ++ R0 = shc ls[j] ++ ((ls.drop (j + 1)).flatMap shc ++ R0) := by rw [List.drop_eq_getElem_cons hjl, List.flatMap_cons, List.append_assoc]
      have hxm : ls[j] ∈ ls := List.getElem_mem hjl
      have HFT := Lib.hid (filter_take_succ (fun x => !p x) ls j hjl)
      rw [hdrop] at hrow
      generalize ls[j] = x at hrow HFT hdrop hxm
      have c0 : wr.cell? ⟨h, j * 4, none⟩ = some (.int .u64 x.line) := by
        rw [cell_of_blk hrow, List.getElem?_toArray, List.getElem?_append_right (by omega), List.getElem?_append_right (by omega), show j * 4 - (((ls.take j).filter (fun x => !p x)).flatMap shc).length - M.length = 0 by omega]; rfl
      have c1 : wr.cell? ⟨h, j * 4 + 1, none⟩ = some (lvV x.l0) := by
        rw [cell_of_blk hrow, List.getElem?_toArray, List.getElem?_append_right (by omega), List.getElem?_append_right (by omega), show j * 4 + 1 - (((ls.take j).filter (fun x => !p x)).flatMap shc).length - M.length = 1 by omega]; rfl
      have c2 : wr.cell? ⟨h, j * 4 + 2, none⟩ = some (lvV x.l1) := by
        rw [cell_of_blk hrow, List.getElem?_toArray, List.getElem?_append_right (by omega), List.getElem?_append_right (by omega), show j * 4 + 2 - (((ls.take j).filter (fun x => !p x)).flatMap shc).length - M.length = 2 by omega]; rfl
      have c3 : wr.cell? ⟨h, j * 4 + 3, none⟩ = some (lvV x.l2) := by
        rw [cell_of_blk hrow, List.getElem?_toArray, List.getElem?_append_right (by omega), List.getElem?_append_right (by omega), show j * 4 + 3 - (((ls.take j).filter (fun x => !p x)).flatMap shc).length - M.length = 3 by omega]; rfl
      obtain ⟨W2, hW2⟩ : ∃ W2 : World, W2 = wr.alloc (.cells #[.int .u64 x.line, lvV x.l0, lvV x.l1, lvV x.l2] (57)) := ⟨_, rfl⟩
      have hB2 : Below wr.heap.size wr W2 := by rw [hW2]; exact balc (Below.refl _ _)
      have hv2 : W2.heap[wr.heap.size]? = some (.cells #[.int .u64 x.line, lvV x.l0, lvV x.l1, lvV x.l2] (57) (0, 0)) := by rw [hW2]; exact blk_new_at rfl _
      have HT2 := Lib.hid (HD.out.turn.trans (TurnI.of_below hB2))
      have HCP := Lib.hid (HP.out W2 x hxm HT2.out)
      have HV2 := Lib.hid hv2
      have HROW2 := Lib.hid (blk_below hrow hB2 (lt_of_blk hrow))
      have v0 := cell_of_blk hv2 0
      have v1 := cell_of_blk hv2 1
      have v2 := cell_of_blk hv2 2
      have v3 := cell_of_blk hv2 3
      simp at v0 v1 v2 v3
      have HW2 := Lib.hid hW2
      have j0 : (0 : Int) ≤ (j : Int) := by omega
      have j1 : (j : Int) < (n : Int) := by omega
      have jw : IntKind.i64.wrap ((j : Int) + 1) = (j : Int) + 1 := IntWalk.i64_in _ (by omega)
      have HM := Lib.hid hM
      have HKL := Lib.hid hKl
      clear hrow hdrop hB2 hv2 hW2 hM hKl q1 q2
      go_upto_region 8 with fail
      rw [← HW2.out]
      clear c0 c1 c2 c3
      cases hq : p x with
      | true =>
        have HE := Lib.hid (show (ls.take (j + 1)).filter (fun x => !p x) = (ls.take j).filter (fun x => !p x) from by rw [HFT.out, hq]; simp)
        rw [hq] at HCP
        clear hq
        go_wp2_with (go_at_call 44; refine HCP.out.mono ?_; rintro e w3 ⟨rfl, hB3⟩; have HB3 := Lib.hid hB3; clear hB3)
        go_roundg (gk - 1)
        case measure => omega
        case rel =>
          exact ⟨i, j + 1, by omega, rfl, by go_num, Lib.hid ⟨⟨M ++ shc x, by rw [List.length_append, HM.out, shc_len]; omega, by
            rw [HE.out, List.append_assoc]
            exact blk_below HROW2.out HB3.out (lt_of_blk HROW2.out)⟩, by rw [HE.out]; exact HD.out.len, by omega, by omega, HT2.out.trans (TurnI.of_below HB3.out)⟩⟩
      | false =>
        have HE := Lib.hid (show (ls.take (j + 1)).filter (fun x => !p x) = (ls.take j).filter (fun x => !p x) ++ [x] from by rw [HFT.out, hq]; simp)
        rw [hq] at HCP
        clear hq
        have i0' : (0 : Int) ≤ (i : Int) := by omega
        have i1' : (i : Int) < (n : Int) := by omega
        have iw' : IntKind.i64.wrap ((i : Int) + 1) = (i : Int) + 1 := IntWalk.i64_in _ (by omega)
        go_upto_region 9 with (go_at_call 44; refine HCP.out.mono ?_; rintro e w3 ⟨rfl, hB3⟩)
        have HROW3 := Lib.hid (blk_below HROW2.out hB3 (lt_of_blk HROW2.out))
        have vv := blk_below HV2.out hB3 (lt_of_blk HV2.out)
        have u0 := cell_of_blk vv 0
        have u1 := cell_of_blk vv 1
        have u2 := cell_of_blk vv 2
        have u3 := cell_of_blk vv 3
        simp at u0 u1 u2 u3
        have HB3 := Lib.hid hB3
        obtain ⟨m0, m1, m2, m3, M', hMM⟩ : ∃ m0 m1 m2 m3 M', M = m0 :: m1 :: m2 :: m3 :: M' := by
          have hl : 4 ≤ M.length := by have := HM.out; omega
          match M, hl with
          | m0 :: m1 :: m2 :: m3 :: M', _ => exact ⟨m0, m1, m2, m3, M', rfl⟩
        have e0 : w3.cell? ⟨h, i * 4, none⟩ = some m0 := by
          rw [cell_of_blk HROW3.out, List.getElem?_toArray, List.getElem?_append_right (by have := HKL.out; omega), hMM, show i * 4 - (((ls.take j).filter (fun x => !p x)).flatMap shc).length = 0 by have := HKL.out; omega]; rfl
        have e1 : w3.cell? ⟨h, i * 4 + 1, none⟩ = some m1 := by
          rw [cell_of_blk HROW3.out, List.getElem?_toArray, List.getElem?_append_right (by have := HKL.out; omega), hMM, show i * 4 + 1 - (((ls.take j).filter (fun x => !p x)).flatMap shc).length = 1 by have := HKL.out; omega]; rfl
        have e2 : w3.cell? ⟨h, i * 4 + 2, none⟩ = some m2 := by
          rw [cell_of_blk HROW3.out, List.getElem?_toArray, List.getElem?_append_right (by have := HKL.out; omega), hMM, show i * 4 + 2 - (((ls.take j).filter (fun x => !p x)).flatMap shc).length = 2 by have := HKL.out; omega]; rfl
        have e3 : w3.cell? ⟨h, i * 4 + 3, none⟩ = some m3 := by
          rw [cell_of_blk HROW3.out, List.getElem?_toArray, List.getElem?_append_right (by have := HKL.out; omega), hMM, show i * 4 + 3 - (((ls.take j).filter (fun x => !p x)).flatMap shc).length = 3 by have := HKL.out; omega]; rfl
        have f0 := frozen_of_blk HROW3.out (i * 4)
        have f1 := frozen_of_blk HROW3.out (i * 4 + 1)
        have f2 := frozen_of_blk HROW3.out (i * 4 + 2)
        have f3 := frozen_of_blk HROW3.out (i * 4 + 3)
        obtain ⟨W4, hW4⟩ : ∃ W4 : World, W4 = (((w3.setCell ⟨h, i * 4, none⟩ (.int .u64 x.line)).setCell ⟨h, i * 4 + 1, none⟩ (lvV x.l0)).setCell ⟨h, i * 4 + 2, none⟩ (lvV x.l1)).setCell ⟨h, i * 4 + 3, none⟩ (lvV x.l2) := ⟨_, rfl⟩
        have HROW4 := Lib.hid (show W4.heap[h]? = some (.cells (((ls.take j).filter (fun x => !p x) ++ [x]).flatMap shc ++ ((M.drop 4 ++ shc x) ++ ((ls.drop (j + 1)).flatMap shc ++ R0))).toArray (57) (0, 0)) from by
          have h1 := blk_setCell (j := i * 4 + 3) (blk_setCell (j := i * 4 + 2) (blk_setCell (j := i * 4 + 1) (blk_setCell (j := i * 4) HROW3.out (.int .u64 x.line)) (lvV x.l0)) (lvV x.l1)) (lvV x.l2)
          rw [hW4, h1, set_four _ M _ _ _ _ _ _ HKL.out (by have := HM.out; omega)]
          rw [List.flatMap_append]
          simp [shc])
        have HT4 := Lib.hid (show TurnI h w W4 from by rw [hW4]; exact (HT2.out.trans (TurnI.of_below HB3.out)).trans ((((TurnI.setCell _).trans (TurnI.setCell _)).trans (TurnI.setCell _)).trans (TurnI.setCell _)))
        have HW4 := Lib.hid hW4
        clear hB3 vv hMM HCP v0 v1 v2 v3
        go_wp2_with fail
        go_roundg (gk - 1)
        case measure => omega
        case rel =>
          rw [← HW4.out]
          exact ⟨i + 1, j + 1, by omega, by go_num, by go_num, Lib.hid ⟨⟨M.drop 4 ++ shc x, by rw [List.length_append, List.length_drop, HM.out, shc_len]; omega, by
            rw [HE.out]
            exact HROW4.out⟩, by rw [HE.out, List.length_append, HD.out.len]; rfl, by omega, by omega, HT4.out⟩⟩
    · have hjn : j = n := by have := HD.out.le; have := HN.out; omega
      have h1 : ¬ (j : Int) < (n : Int) := by omega
      have hin : i < n := by omega
      have e1 : (ls.take j).filter (fun x => !p x) = ls.filter (fun x => !p x) := by rw [List.take_of_length_le (by have := HN.out; omega)]
      have e2 : (ls.drop j).flatMap shc = [] := by rw [List.drop_eq_nil_of_le (by have := HN.out; omega)]; rfl
      have hin2 : i < c := by omega
      have hlen := HD.out.len
      rw [e1] at hrow hKl hlen
      rw [e2, List.nil_append] at hrow
      have hcl := fun ty => run_clear_row (P := Tryz.prog) wr (30) (57) _ Tryz.underlying30 zeroS h (i * 4) (n - i) (c - i) _ (57) hrow (by omega) (by simp [Value.cells, hKl, hM]; omega) (by simp [Value.cells, Value.oneCell']) ty
      obtain ⟨Z, hZ⟩ : ∃ Z : List Value, Z = (Builtin.zeroCells (Value.agg #[.int .u64 0, .slice none 0 0, .slice none 0 0, .slice none 0 0]).cells (n - i)).toList ++ (((ls.filter (fun x => !p x)).flatMap shc ++ (M ++ R0)).toArray.toList.drop (i * 4 + (n - i) * (Value.agg #[.int .u64 0, .slice none 0 0, .slice none 0 0, .slice none 0 0]).cells.size)) := ⟨_, rfl⟩
      have e3 : ((ls.filter (fun x => !p x)).flatMap shc ++ (M ++ R0)).toArray.toList.take (i * 4) = (ls.filter (fun x => !p x)).flatMap shc := by rw [← hKl]; exact List.take_left
      have hZL : Z.length + (ls.filter (fun x => !p x)).length * 4 = ls.length * 4 + R0.length := by
        rw [hZ, List.length_append, zeroCells_len, List.length_drop, hlen]
        simp [Value.cells, hKl, hM]
        have := HN.out
        omega
      rw [e3, List.append_assoc, ← hZ] at hcl
      obtain ⟨W3, hW3⟩ : ∃ W3 : World, W3 = wr.setRow h ((ls.filter (fun x => !p x)).flatMap shc ++ Z).toArray := ⟨_, rfl⟩
      rw [← hW3] at hcl
      have HE := Lib.hid (show W3.heap[h]? = some (.cells ((ls.filter (fun x => !p x)).flatMap shc ++ Z).toArray (57) (0, 0)) ∧ TurnI h w W3 from ⟨by rw [hW3]; exact setRow_heap wr _ _ _ _ _ hrow, by
        rw [hW3]
        exact HD.out.turn.trans ⟨rfl, rfl, rfl, by simp [World.setRow], fun k o ho hk => (setRow_other wr h k _ hk).trans ho⟩⟩)
      have s1 := @slice_hiSh h n c i (by omega) hin2
      have s2 := @slice_loSh h n c i (by omega) (by omega)
      obtain ⟨m, hm⟩ : ∃ m, m = n - i := ⟨_, rfl⟩
      obtain ⟨mc, hmc⟩ : ∃ m, m = c - i := ⟨_, rfl⟩
      obtain ⟨o, ho⟩ : ∃ o, o = i * 4 := ⟨_, rfl⟩
      rw [← hm, ← ho, ← hmc] at s1 hcl
      have HLEN := Lib.hid hlen
      have HZL := Lib.hid hZL
      clear hrow hKl hlen e1 e2 e3 hZ hW3 hM hij q1 q2 hm hmc ho hin hin2 hj hZL
      go_wp2_with (at_builtin; refine wpList_clear_eq _ rfl _ _ rfl _ rfl (hcl _) ?_)
      go_ret
      exact ⟨Z, HZL.out, by rw [HLEN.out]; rfl, HE.out.1, HE.out.2⟩
end Go.Proofs.YtchcelodeepjdaaGreatDoor.Ln
