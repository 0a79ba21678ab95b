/- ref17: History. Condition: fewer than 1000 facts, fewer than 1000000 links. -/
import Derived.Test.YtenocakpipppiaaGreatDoorX5
import Derived.Deep.DeepCutAuto
import Derived.Deep.RegionLaw
namespace Go.Proofs.YtenocakpipppiaaGreatDoor
open Go.RowKit Go.Shelf Go.Herb Go.Sort

theorem app_fact {B : Nat} {w0 wr : World} {v : Value} {ys : List Fc} (x : Fc) (hb : Below B w0 wr) (hO : OwnF B wr v ys) (hl : ys.length < 1000000) (hB : B ≤ wr.heap.size) :
    ∃ v' w9, (∀ ty, (Builtin.append_ #[22, 22] ty #[v, .slice (some ⟨wr.heap.size, 0, none⟩) 1 1]).run Tryz.prog (wr.alloc (.cells #[.string x.key, .int .u32 x.valid, .int .u64 x.seq, .int .u64 x.line, .int .u8 x.kind, .string x.val] 50)) = .ok v' w9) ∧ OwnF B w9 v' (ys ++ [x]) ∧ Below B w0 w9 ∧ Below B wr w9 := by
  obtain ⟨X, hX⟩ : ∃ X : World, X = wr.alloc (.cells #[.string x.key, .int .u32 x.valid, .int .u64 x.seq, .int .u64 x.line, .int .u8 x.kind, .string x.val] 50) := ⟨_, rfl⟩
  have hXb : Below wr.heap.size wr X := by rw [hX]; exact (Below.refl _ _).alloc (Nat.le_refl _) _
  have hXx : X.heap[wr.heap.size]? = some (.cells (fc x).toArray 50 (0, 0)) := by rw [hX]; exact blk_new_at rfl _
  have hs := hXb.size
  obtain ⟨v', w9, hrun, hO9, hg9⟩ := run_append_facts X B v ys (some ⟨wr.heap.size, 0, none⟩) 1 [x] (OwnF.below hO hXb) (els_of_one hXx) hl (by simp) (fun h => by cases h) (by omega) (22)
  rw [← hX]
  have hk : ∀ k, v.ownBlock = some k → B ≤ k := fun k e => (World.ownsRow.lt hO k e).1
  exact ⟨v', w9, fun _ => hrun, hO9, (hb.trans (hXb.mono hB)).grown hg9 (by omega) hk, (hXb.mono hB).grown hg9 (by omega) hk⟩
theorem app_facts {B : Nat} {wr : World} {v : Value} {ys bs : List Fc} {oa : Option Addr} {oc k : Nat} (hO : OwnF B wr v ys) (hF : Facts wr oa bs) (hl : ys.length < 1000000) (hk : bs.length = k) (hb : k < 1000000) (hB : B ≤ wr.heap.size) :
    ∃ v' w9, (∀ ty, (Builtin.append_ #[22, 22] ty #[v, .slice oa k oc]).run Tryz.prog wr = .ok v' w9) ∧ OwnF B w9 v' (ys ++ bs) ∧ Below B wr w9 := by
  subst hk
  have hkk : ∀ k, v.ownBlock = some k → B ≤ k := fun k e => (World.ownsRow.lt hO k e).1
  cases oa with
  | none =>
    have h0 : bs = [] := by
      cases bs with
      | nil => rfl
      | cons x xs => obtain ⟨b, o, h, _⟩ := hF.get 0 (by simp); cases h
    subst h0
    obtain ⟨v', w9, hrun, hO9, hg9⟩ := run_append_facts wr B v ys none 0 [] hO (Els.nil _ _ _ _) hl (by simp) (fun _ => rfl) hB (22)
    exact ⟨v', w9, fun _ => hrun, hO9, (Below.refl _ _).grown hg9 hB hkk⟩
  | some ad =>
    obtain ⟨v', w9, hrun, hO9, hg9⟩ := run_append_facts wr B v ys (some ad) oc bs hO hF hl hb (fun h => by cases h) hB (22)
    exact ⟨v', w9, fun _ => hrun, hO9, (Below.refl _ _).grown hg9 hB hkk⟩
def HasPr (c : Bool) (l : List Fc) (x : Fc) : Prop := c = true ↔ ∃ y ∈ l, prOf y = prOf x
theorem HasPr.nil (x : Fc) : HasPr false [] x := by simp [HasPr]
theorem OwnF.els2 {B : Nat} {w : World} {v : Value} {ss : List Fc} (h : OwnF B w v ss) : ∃ a cap, v = .slice a ss.length cap ∧ (a = none → ss.length = 0 ∧ cap = 0) ∧ ss.length ≤ cap ∧ Facts w a ss := by
  obtain ⟨a, c, rfl, h1, h2, -⟩ := own_parts h
  exact ⟨a, c, rfl, h1, h2, owns_els fc_len h⟩
def RefHistPost (key : ByteArray) (at_ : Int) (cs : List Lk) (xs : List Fc) (w : World) (e : Ending) (w' : World) : Prop :=
  ∃ a n c out, e = .returned (.slice a n c) ∧ out.length = n ∧ Els ec 4 w' a out ∧ out.Perm (laterL at_ (mineL key cs xs) ++ refOf ((mineL key cs xs).filter (seenC cs at_))) ∧ DnE out ∧ Below w.heap.size w w'

set_option maxRecDepth 100000 in
set_option maxHeartbeats 4000000 in
theorem refHistory_any (al : Option Addr) (cl : Nat) (xs : List Fc) (ac : Option Addr) (cc : Nat) (cs : List Lk) (at_ : Int) (on : Bool) (key : ByteArray) (w : World) (hL : Facts w al xs) (hC : Links w ac cs) (hx : xs.length < 1000) (hc : cs.length < 1000000) :
    Calls Tryz.prog (17) #[.slice al xs.length cl, .agg #[.slice ac cs.length cc, .int .u64 at_, .bool on], .string key] w (RefHistPost key at_ cs xs w) := by
  have HC := Lib.hid hC
  obtain ⟨W0, hW0⟩ : ∃ W0 : World, W0 = w.alloc (.cells #[.slice ac cs.length cc, .int .u64 at_, .bool on] (26)) := ⟨_, rfl⟩
  have hb0 : Below w.heap.size w W0 := by rw [hW0]; exact (Below.refl _ _).alloc (Nat.le_refl _) _
  have hx0 : W0.heap[w.heap.size]? = some (.cells #[.slice ac cs.length cc, .int .u64 at_, .bool on] (26) (0, 0)) := by rw [hW0]; exact blk_new_at rfl _
  obtain ⟨N, hN⟩ : ∃ N, N = xs.length := ⟨_, rfl⟩
  obtain ⟨M, hM⟩ : ∃ M, M = cs.length := ⟨_, rfl⟩
  rw [← hM] at hx0 hW0 hc
  rw [← hN] at hx
  have HW : Hid (∀ u, Below W0.heap.size W0 u → u.cell? ⟨w.heap.size, 0, none⟩ = some (.slice ac M cc) ∧ u.cell? ⟨w.heap.size, 1, none⟩ = some (.int .u64 at_)) := Lib.hid (fun u hu => by
    have h1 := blk_below hx0 hu (lt_of_blk hx0)
    have f0 := cell_of_blk h1 0
    have f1 := cell_of_blk h1 1
    simp at f0 f1
    exact ⟨f0, f1⟩)
  have HL0 := Lib.hid (hL.ext hb0)
  have HC0 := Lib.hid (hC.ext hb0)
  have HB0 := Lib.hid hb0
  have HN := Lib.hid hN
  have HM := Lib.hid hM
  rw [← hN, ← hM]
  clear hL hC hb0 hx0 hN hM
  go_enter Tryz.func17, Tryz.ntmps17
  go_wp2_with fail
  rw [← hW0]
  clear hW0
  go_loopg [7, 9] N (fun gk ov iv wr => ∃ i : Nat, i + gk = N ∧ iv = .int .i64 i ∧ Hid (OwnF W0.heap.size wr ov (mineL key cs (xs.take i))) ∧ Hid (Below W0.heap.size W0 wr))
  case atStart => exact ⟨0, by omega, rfl, Lib.hid (World.ownsRow_nil _ _ _ _), Lib.hid (Below.refl _ _)⟩
  case round =>
    obtain ⟨i, hi, rfl, HO, HB⟩ := hrel
    by_cases hlt : i < N
    · have hil : i < xs.length := by have := HN.out; omega
      obtain ⟨b, o, rfl, hlb, hcell⟩ := HL0.out.get i hil
      have HT := Lib.hid (show xs.take (i + 1) = xs.take i ++ [xs[i]] from List.take_succ_eq_append_getElem hil)
      generalize xs[i] = x at *
      have HX : Hid (∀ u, Below W0.heap.size W0 u → u.cell? ⟨b, o + i * 6, none⟩ = some (.string x.key) ∧ u.cell? ⟨b, o + i * 6 + 1, none⟩ = some (.int .u32 x.valid) ∧ u.cell? ⟨b, o + i * 6 + 2, none⟩ = some (.int .u64 x.seq) ∧ u.cell? ⟨b, o + i * 6 + 3, none⟩ = some (.int .u64 x.line) ∧ u.cell? ⟨b, o + i * 6 + 4, none⟩ = some (.int .u8 x.kind) ∧ u.cell? ⟨b, o + i * 6 + 5, none⟩ = some (.string x.val) ∧ u.cell? ⟨w.heap.size, 0, none⟩ = some (.slice ac M cc)) := Lib.hid (fun u hu => ⟨(hu.cell (p := ⟨b, _, none⟩) hlb).trans (hcell 0 _ rfl), (hu.cell (p := ⟨b, _, none⟩) hlb).trans (hcell 1 _ rfl), (hu.cell (p := ⟨b, _, none⟩) hlb).trans (hcell 2 _ rfl), (hu.cell (p := ⟨b, _, none⟩) hlb).trans (hcell 3 _ rfl), (hu.cell (p := ⟨b, _, none⟩) hlb).trans (hcell 4 _ rfl), (hu.cell (p := ⟨b, _, none⟩) hlb).trans (hcell 5 _ rfl), (HW.out u hu).1⟩)
      clear hcell
      have hi0 : (0 : Int) ≤ (i : Int) := by omega
      have hi1 : (i : Int) < (N : Int) := by omega
      have hml : (mineL key cs (xs.take i)).length ≤ i := Nat.le_trans (List.length_filter_le _ _) (List.length_take_le _ _)
      by_cases g1 : x.key.toList = key.toList
      · have d1 : (x.key.toList == key.toList) = true := beq_iff_eq.2 g1
        have HSE : Hid (∀ u, Below W0.heap.size W0 u → Calls Tryz.prog (25) #[.agg #[.string x.key, .int .u32 x.valid, .int .u64 x.seq, .int .u64 x.line, .int .u8 x.kind, .string x.val], .slice ac M cc, .int .u64 18446744073709551615] u (fun e w' => e = .returned (.bool (seenC cs 18446744073709551615 x)) ∧ Below u.heap.size u w')) := Lib.hid (fun u hu => by
          rw [HM.out]
          exact seenRef_any x ac cc cs 18446744073709551615 u (HC0.out.ext hu) (by have := HM.out; omega))
        have HDA := Lib.hid (show Below wr.heap.size wr wr.drew from (Below.refl wr.heap.size wr).drew)
        have HBD := Lib.hid (show Below W0.heap.size W0 wr.drew from HB.out.drew)
        have hG1 := Lib.hid g1
        cases hs : seenC cs 18446744073709551615 x with
        | false =>
          have HNX := Lib.hid (show mineL key cs (xs.take (i + 1)) = mineL key cs (xs.take i) by rw [HT.out, mineL_snoc, if_neg (fun h => by rw [hs] at h; cases h.2)])
          rw [hs] at HSE
          clear g1 hs
          go_wp2_with fail
          go_region_held3 (fun u => u.cell? ⟨b, o + i * 6, none⟩ = some (.string x.key) ∧ u.cell? ⟨b, o + i * 6 + 1, none⟩ = some (.int .u32 x.valid) ∧ u.cell? ⟨b, o + i * 6 + 2, none⟩ = some (.int .u64 x.seq) ∧ u.cell? ⟨b, o + i * 6 + 3, none⟩ = some (.int .u64 x.line) ∧ u.cell? ⟨b, o + i * 6 + 4, none⟩ = some (.int .u8 x.kind) ∧ u.cell? ⟨b, o + i * 6 + 5, none⟩ = some (.string x.val) ∧ u.cell? ⟨w.heap.size, 0, none⟩ = some (.slice ac M cc)) (first | exact HX.out _ HBD.out | exact HX.out _ hbu) (first | (go_at_call 25; (with_reducible refine (HSE.out _ HBD.out).mono ?_); rintro e w5 ⟨rfl, hb5⟩; have hbw := HDA.out.trans (hb5.mono HDA.out.size); have hbu := HB.out.trans (hbw.mono HB.out.size)))
          all_goals
            have HO5 := Lib.hid (HO.out.below hbw)
            have HB5 := Lib.hid hbu
            go_wp2
            go_roundg (gk - 1)
            case measure => omega
            case rel => exact ⟨i + 1, by omega, by go_num, by rw [HNX.out]; exact HO5, HB5⟩
        | true =>
          have HNX := Lib.hid (show mineL key cs (xs.take (i + 1)) = mineL key cs (xs.take i) ++ [x] by rw [HT.out, mineL_snoc, if_pos ⟨g1, hs⟩])
          rw [hs] at HSE
          clear g1 hs
          go_wp2_with fail
          go_region_held3 (fun u => u.cell? ⟨b, o + i * 6, none⟩ = some (.string x.key) ∧ u.cell? ⟨b, o + i * 6 + 1, none⟩ = some (.int .u32 x.valid) ∧ u.cell? ⟨b, o + i * 6 + 2, none⟩ = some (.int .u64 x.seq) ∧ u.cell? ⟨b, o + i * 6 + 3, none⟩ = some (.int .u64 x.line) ∧ u.cell? ⟨b, o + i * 6 + 4, none⟩ = some (.int .u8 x.kind) ∧ u.cell? ⟨b, o + i * 6 + 5, none⟩ = some (.string x.val) ∧ u.cell? ⟨w.heap.size, 0, none⟩ = some (.slice ac M cc)) (first | exact HX.out _ HBD.out | exact HX.out _ hbu) (first | (go_at_call 25; (with_reducible refine (HSE.out _ HBD.out).mono ?_); rintro e w5 ⟨rfl, hb5⟩; have hbw := HDA.out.trans (hb5.mono HDA.out.size); have hbu := HB.out.trans (hbw.mono HB.out.size)))
          all_goals
            have HO5 := Lib.hid (HO.out.below hbw)
            obtain ⟨v', w9, hrun, hO9, hB9, -⟩ := app_fact x hbu HO5.out (by omega) hbu.size
            have HRUN := Lib.hid hrun
            have HO9 := Lib.hid hO9
            have HB9 := Lib.hid hB9
            obtain ⟨e0, e1, e2, e3, e4, e5, -⟩ := HX.out w5 hbu
            clear hrun hO9 hB9 hbw hbu
            go_wp2_with (at_builtin; refine Lib.wpList_append_run _ rfl _ _ _ _ rfl _ _ rfl rfl _ _ (HRUN.out _) ?_)
            go_roundg (gk - 1)
            case measure => omega
            case rel => exact ⟨i + 1, by omega, by go_num, by rw [HNX.out]; exact HO9, HB9⟩
      · have d1 : (x.key.toList == key.toList) = false := beq_eq_false_iff_ne.2 g1
        have HNX := Lib.hid (show mineL key cs (xs.take (i + 1)) = mineL key cs (xs.take i) by rw [HT.out, mineL_snoc, if_neg (fun h => g1 h.1)])
        obtain ⟨e0, -, -, -, -, -, -⟩ := HX.out wr HB.out
        clear g1
        go_wp2_with fail
        go_quiet (fail)
        have HO5 := Lib.hid (HO.out.below (below_drewN (Below.refl _ _) nq))
        have HB5 := Lib.hid (below_drewN HB.out nq)
        go_wp2
        go_roundg (gk - 1)
        case measure => omega
        case rel => exact ⟨i + 1, by omega, by go_num, by rw [HNX.out]; exact HO5, HB5⟩
    · have hie : xs.take i = xs := List.take_of_length_le (by have := HN.out; omega)
      have hO := HO.out
      rw [hie] at hO
      have hml : (mineL key cs xs).length ≤ xs.length := List.length_filter_le _ _
      obtain ⟨mn, hmn⟩ : ∃ mn, mn = mineL key cs xs := ⟨_, rfl⟩
      rw [← hmn] at hO hml
      have HMN := Lib.hid hmn
      clear hie hmn
      obtain ⟨ma, mc, rfl, -, -, hF⟩ := hO.els2
      obtain ⟨kn, hkn⟩ : ∃ kn, kn = mn.length := ⟨_, rfl⟩
      have HF := Lib.hid hF
      have HKN := Lib.hid hkn
      have hknl : kn < 1000 := by have := HN.out; omega
      obtain ⟨c0, c1⟩ := HW.out wr HB.out
      have hof := refOf_any ma mc mn ac cc cs at_ wr hF (HC0.out.ext HB.out) (by omega) (by have := HM.out; omega)
      rw [← hkn, ← HM.out] at hof
      have HOF := Lib.hid hof
      obtain ⟨old, hold⟩ : ∃ old, old = refOf (mn.filter (seenC cs at_)) := ⟨_, rfl⟩
      have hol : old.length ≤ kn := by
        rw [hold, hkn]
        exact Nat.le_trans (refOf_len _) (List.length_filter_le _ _)
      unfold RefPost at HOF
      rw [← hold] at HOF
      have HOLD := Lib.hid hold
      rw [← hkn]
      clear hO hF hkn hof hold hml
      go_wp2_with fail
      refine (HOF.out).mono ?_
      rintro e w5 ⟨oa, oc, rfl, hF5, hb5⟩
      have HO5 := Lib.hid hF5
      have HM5 := Lib.hid (HF.out.ext hb5)
      have HB5 := Lib.hid (HB.out.trans (hb5.mono HB.out.size))
      obtain ⟨on', hon⟩ : ∃ k, k = old.length := ⟨_, rfl⟩
      have HON := Lib.hid hon
      rw [← hon] at hol ⊢
      have HWC : Hid (∀ u, Below w5.heap.size w5 u → u.cell? ⟨w.heap.size, 1, none⟩ = some (.int .u64 at_)) := Lib.hid (fun u hu => (HW.out u (HB5.out.trans (hu.mono HB5.out.size))).2)
      clear hF5 hb5 hon c0 c1 HOF HF
      go_wp2_with fail
      obtain ⟨g1, rfl⟩ : ∃ g1 : Nat, g1 = gk := ⟨_, rfl⟩
      obtain ⟨wo, rfl⟩ : ∃ wo : World, wo = wr := ⟨_, rfl⟩
      go_loopg [8, 11] kn (fun gk ov iv wr => ∃ i : Nat, i + gk = kn ∧ iv = .int .i64 i ∧ Hid (OwnF w5.heap.size wr ov (laterL at_ (mn.take i))) ∧ Hid (Below w5.heap.size w5 wr))
      case atStart => exact ⟨0, by omega, rfl, Lib.hid (World.ownsRow_nil _ _ _ _), Lib.hid (Below.refl _ _)⟩
      case round =>
        clear HO HB
        obtain ⟨i, hi, rfl, HO, HB⟩ := hrel
        by_cases hlt : i < kn
        · have hil : i < mn.length := by have := HKN.out; omega
          obtain ⟨b, o, rfl, hlb, hcell⟩ := HM5.out.get i hil
          have HT := Lib.hid (show mn.take (i + 1) = mn.take i ++ [mn[i]] from List.take_succ_eq_append_getElem hil)
          generalize mn[i] = x at *
          have HX : Hid (∀ u, Below w5.heap.size w5 u → u.cell? ⟨b, o + i * 6, none⟩ = some (.string x.key) ∧ u.cell? ⟨b, o + i * 6 + 1, none⟩ = some (.int .u32 x.valid) ∧ u.cell? ⟨b, o + i * 6 + 2, none⟩ = some (.int .u64 x.seq) ∧ u.cell? ⟨b, o + i * 6 + 3, none⟩ = some (.int .u64 x.line) ∧ u.cell? ⟨b, o + i * 6 + 4, none⟩ = some (.int .u8 x.kind) ∧ u.cell? ⟨b, o + i * 6 + 5, none⟩ = some (.string x.val)) := Lib.hid (fun u hu => ⟨(hu.cell (p := ⟨b, _, none⟩) hlb).trans (hcell 0 _ rfl), (hu.cell (p := ⟨b, _, none⟩) hlb).trans (hcell 1 _ rfl), (hu.cell (p := ⟨b, _, none⟩) hlb).trans (hcell 2 _ rfl), (hu.cell (p := ⟨b, _, none⟩) hlb).trans (hcell 3 _ rfl), (hu.cell (p := ⟨b, _, none⟩) hlb).trans (hcell 4 _ rfl), (hu.cell (p := ⟨b, _, none⟩) hlb).trans (hcell 5 _ rfl)⟩)
          clear hcell
          have hi0 : (0 : Int) ≤ (i : Int) := by omega
          have hi1 : (i : Int) < (kn : Int) := by omega
          have hll : (laterL at_ (mn.take i)).length ≤ i := Nat.le_trans (laterL_len _ _) (List.length_take_le _ _)
          go_wp2_with fail
          obtain ⟨g2, rfl⟩ : ∃ g1 : Nat, g1 = gk := ⟨_, rfl⟩
          obtain ⟨wo2, rfl⟩ : ∃ wo : World, wo = wr := ⟨_, rfl⟩
          go_loopg [12, 13] i (fun gk av kv wr => ∃ (k : Nat) (c : Bool), k + gk = i ∧ kv = .int .i64 k ∧ av = .bool c ∧ Hid (HasPr c (mn.take k) x) ∧ Hid (Below wo2.heap.size wo2 wr))
          case atStart => exact ⟨0, false, by omega, rfl, rfl, Lib.hid (HasPr.nil x), Lib.hid (Below.refl _ _)⟩
          case round =>
            obtain ⟨k, c, hk, rfl, rfl, HCC, HBK⟩ := hrel
            have HBK5 := Lib.hid (HB.out.trans (HBK.out.mono HB.out.size))
            obtain ⟨-, x1, x2, -, -, -⟩ := HX.out wr HBK5.out
            by_cases hki : k < i
            · have hkl : k < mn.length := by have := HKN.out; omega
              obtain ⟨b', o', ha', hlb', hcell'⟩ := HM5.out.get k hkl
              injection ha' with ha'
              cases ha'
              have y1 := (HBK5.out.cell (p := ⟨b, _, none⟩) hlb').trans (hcell' 1 _ rfl)
              have y2 := (HBK5.out.cell (p := ⟨b, _, none⟩) hlb').trans (hcell' 2 _ rfl)
              have HTK := Lib.hid (show mn.take (k + 1) = mn.take k ++ [mn[k]] from List.take_succ_eq_append_getElem hkl)
              generalize mn[k] = y at *
              clear hcell'
              have hk0 : (0 : Int) ≤ (k : Int) := by omega
              have hk1 : (k : Int) < (kn : Int) := by omega
              have hk2 : (k : Int) < (i : Int) := by omega
              cases c with
              | true =>
                have HNC := Lib.hid (show HasPr true (mn.take (k + 1)) x from ⟨fun _ => by obtain ⟨z, hz, e⟩ := HCC.out.1 rfl; exact ⟨z, by rw [HTK.out]; exact List.mem_append_left _ hz, e⟩, fun _ => rfl⟩)
                go_wp2_with fail
                go_quiet (fail)
                have HB2 := Lib.hid (below_drewN HBK.out nq)
                go_wp2_with fail
                go_roundg (gk - 1)
                case measure => omega
                case rel => exact ⟨k + 1, _, by omega, by go_num, rfl, HNC, HB2⟩
              | false =>
                by_cases g1 : y.valid = x.valid
                · have d1 : (y.valid == x.valid) = true := by simpa using g1
                  have d1d : decide (y.valid = x.valid) = true := decide_eq_true g1
                  by_cases g2 : y.seq = x.seq
                  · have d2 : (y.seq == x.seq) = true := by simpa using g2
                    have d2d : decide (y.seq = x.seq) = true := decide_eq_true g2
                    have HNC := Lib.hid (show HasPr true (mn.take (k + 1)) x from ⟨fun _ => ⟨y, by rw [HTK.out]; simp, Prod.ext g1 g2⟩, fun _ => rfl⟩)
                    clear g1 g2
                    go_wp2_with fail
                    go_quiet (fail)
                    have HB2 := Lib.hid (below_drewN HBK.out nq)
                    go_wp2_with fail
                    go_roundg (gk - 1)
                    case measure => omega
                    case rel => exact ⟨k + 1, _, by omega, by go_num, rfl, HNC, HB2⟩
                  · have d2 : (y.seq == x.seq) = false := by simpa using g2
                    have d2d : decide (y.seq = x.seq) = false := decide_eq_false g2
                    have HNC := Lib.hid (show HasPr false (mn.take (k + 1)) x from ⟨(fun h => by cases h), fun ⟨z, hz, e⟩ => by
                      rw [HTK.out] at hz
                      rcases List.mem_append.1 hz with hz | hz
                      · exact HCC.out.2 ⟨z, hz, e⟩
                      · rw [List.mem_singleton.1 hz] at e; exact absurd (congrArg Prod.snd e) g2⟩)
                    clear g1 g2
                    go_wp2_with fail
                    go_quiet (fail)
                    have HB2 := Lib.hid (below_drewN HBK.out nq)
                    go_wp2_with fail
                    go_roundg (gk - 1)
                    case measure => omega
                    case rel => exact ⟨k + 1, _, by omega, by go_num, rfl, HNC, HB2⟩
                · have d1 : (y.valid == x.valid) = false := by simpa using g1
                  have d1d : decide (y.valid = x.valid) = false := decide_eq_false g1
                  have HNC := Lib.hid (show HasPr false (mn.take (k + 1)) x from ⟨(fun h => by cases h), fun ⟨z, hz, e⟩ => by
                    rw [HTK.out] at hz
                    rcases List.mem_append.1 hz with hz | hz
                    · exact HCC.out.2 ⟨z, hz, e⟩
                    · rw [List.mem_singleton.1 hz] at e; exact absurd (congrArg Prod.fst e) g1⟩)
                  clear g1
                  go_wp2_with fail
                  go_quiet (fail)
                  have HB2 := Lib.hid (below_drewN HBK.out nq)
                  go_wp2_with fail
                  go_roundg (gk - 1)
                  case measure => omega
                  case rel => exact ⟨k + 1, _, by omega, by go_num, rfl, HNC, HB2⟩
            · have hki2 : k = i := by omega
              have HCI := Lib.hid (show HasPr c (mn.take i) x by rw [← hki2]; exact HCC.out)
              have ca := HWC.out wr HBK5.out
              have HOW := Lib.hid (HO.out.below HBK.out)
              clear hki2
              cases c with
              | true =>
                have HNX := Lib.hid (show laterL at_ (mn.take (i + 1)) = laterL at_ (mn.take i) by
                  rw [HT.out, laterL_snoc, if_neg (fun h => by obtain ⟨z, hz, e⟩ := HCI.out.1 rfl; exact h.2 z hz e)])
                by_cases g1 : at_ < x.seq
                · have d1 : decide (at_ < x.seq) = true := decide_eq_true g1
                  clear g1
                  go_wp2_with fail
                  go_quiet (fail)
                  have HO2 := Lib.hid (HOW.out.below (below_drewN (Below.refl _ _) nq))
                  have HB2 := Lib.hid (below_drewN HBK5.out nq)
                  go_wp2_with fail
                  go_roundg (g2 - 1)
                  case measure => omega
                  case rel => exact ⟨i + 1, by omega, by go_num, by rw [HNX.out]; exact HO2, HB2⟩
                · have d1 : decide (at_ < x.seq) = false := decide_eq_false g1
                  clear g1
                  go_wp2_with fail
                  go_quiet (fail)
                  have HO2 := Lib.hid (HOW.out.below (below_drewN (Below.refl _ _) nq))
                  have HB2 := Lib.hid (below_drewN HBK5.out nq)
                  go_wp2_with fail
                  go_roundg (g2 - 1)
                  case measure => omega
                  case rel => exact ⟨i + 1, by omega, by go_num, by rw [HNX.out]; exact HO2, HB2⟩
              | false =>
                by_cases g1 : at_ < x.seq
                · have d1 : decide (at_ < x.seq) = true := decide_eq_true g1
                  have HNX := Lib.hid (show laterL at_ (mn.take (i + 1)) = laterL at_ (mn.take i) ++ [x] by
                    rw [HT.out, laterL_snoc, if_pos ⟨g1, fun z hz e => by have := HCI.out.2 ⟨z, hz, e⟩; cases this⟩])
                  clear g1
                  go_wp2_with fail
                  go_quiet (fail)
                  obtain ⟨Y, hY⟩ : ∃ Y : World, Y = wr.drewN nq := ⟨_, rfl⟩
                  have HBY := Lib.hid (show Below w5.heap.size w5 Y by rw [hY]; exact below_drewN HBK5.out nq)
                  have HOY := Lib.hid (show OwnF w5.heap.size Y u8 (laterL at_ (mn.take i)) by rw [hY]; exact HOW.out.below (below_drewN (Below.refl _ _) nq))
                  rw [← hY]
                  clear hY x1 x2 ca
                  obtain ⟨e0, e1, e2, e3, e4, e5⟩ := HX.out Y HBY.out
                  obtain ⟨v', w9, hrun, hO9, hB9, -⟩ := app_fact x HBY.out HOY.out (by omega) HBY.out.size
                  have HRUN := Lib.hid hrun
                  have HO9 := Lib.hid hO9
                  have HB9 := Lib.hid hB9
                  clear hrun hO9 hB9
                  go_wp2_with (at_builtin; refine Lib.wpList_append_run _ rfl _ _ _ _ rfl _ _ rfl rfl _ _ (HRUN.out _) ?_)
                  go_roundg (g2 - 1)
                  case measure => omega
                  case rel => exact ⟨i + 1, by omega, by go_num, by rw [HNX.out]; exact HO9, HB9⟩
                · have d1 : decide (at_ < x.seq) = false := decide_eq_false g1
                  have HNX := Lib.hid (show laterL at_ (mn.take (i + 1)) = laterL at_ (mn.take i) by
                    rw [HT.out, laterL_snoc, if_neg (fun h => g1 h.1)])
                  clear g1
                  go_wp2_with fail
                  go_quiet (fail)
                  have HO2 := Lib.hid (HOW.out.below (below_drewN (Below.refl _ _) nq))
                  have HB2 := Lib.hid (below_drewN HBK5.out nq)
                  go_wp2_with fail
                  go_roundg (g2 - 1)
                  case measure => omega
                  case rel => exact ⟨i + 1, by omega, by go_num, by rw [HNX.out]; exact HO2, HB2⟩
        · have hie : mn.take i = mn := List.take_of_length_le (by have := HKN.out; omega)
          have hO := HO.out
          rw [hie] at hO
          have hll : (laterL at_ mn).length ≤ kn := by rw [HKN.out]; exact laterL_len _ _
          obtain ⟨v8, w8, hrun, hO8, hb8⟩ := app_facts hO (HO5.out.ext HB.out) (by omega) HON.out.symm (by omega) HB.out.size
          have hb58 : Below w5.heap.size w5 w8 := HB.out.trans hb8
          have HRUN := Lib.hid hrun
          obtain ⟨alls, hal⟩ : ∃ alls, alls = laterL at_ mn ++ old := ⟨_, rfl⟩
          rw [← hal] at hO8
          have HAL := Lib.hid hal
          have hall : alls.length < 3000 := by have := HON.out; rw [hal, List.length_append]; omega
          obtain ⟨aa, acp, rfl, -, -, hF8⟩ := hO8.els2
          have HF8 := Lib.hid hF8
          have HB8 := Lib.hid hb58
          obtain ⟨A, hA⟩ : ∃ A, A = alls.length := ⟨_, rfl⟩
          rw [← hA] at hall HRUN
          have HA := Lib.hid hA
          clear hb8 hb58 hF8 hal hA
          go_wp2_with (at_builtin; refine Lib.wpList_append_run _ rfl _ _ _ _ rfl _ _ rfl rfl _ _ (HRUN.out _) ?_)
          obtain ⟨g3, rfl⟩ : ∃ g1 : Nat, g1 = gk := ⟨_, rfl⟩
          obtain ⟨wo3, rfl⟩ : ∃ wo : World, wo = wr := ⟨_, rfl⟩
          go_loopg [14, 16] A (fun gk ov iv wr => ∃ (i : Nat) (out : List Fc), i + gk = A ∧ iv = .int .i64 i ∧ Hid (OwnE w8.heap.size wr ov out) ∧ Hid (out.Perm (alls.take i)) ∧ Hid (DnE out) ∧ Hid (Below w8.heap.size w8 wr))
          case atStart => exact ⟨0, [], by omega, rfl, Lib.hid (World.ownsRow_nil _ _ _ _), Lib.hid (List.Perm.refl _), Lib.hid List.Pairwise.nil, Lib.hid (Below.refl _ _)⟩
          case round =>
            clear HO HB
            obtain ⟨i, out, hi, rfl, HO, HP, HD, HB⟩ := hrel
            by_cases hlt : i < A
            · have hil : i < alls.length := by have := HA.out; omega
              obtain ⟨b, o, rfl, hlb, hcell⟩ := HF8.out.get i hil
              have HT := Lib.hid (show alls.take (i + 1) = alls.take i ++ [alls[i]] from List.take_succ_eq_append_getElem hil)
              generalize alls[i] = x at *
              have HX : Hid (∀ u, Below w8.heap.size w8 u → u.cell? ⟨b, o + i * 6 + 1, none⟩ = some (.int .u32 x.valid) ∧ u.cell? ⟨b, o + i * 6 + 2, none⟩ = some (.int .u64 x.seq) ∧ u.cell? ⟨b, o + i * 6 + 4, none⟩ = some (.int .u8 x.kind) ∧ u.cell? ⟨b, o + i * 6 + 5, none⟩ = some (.string x.val)) := Lib.hid (fun u hu => ⟨(hu.cell (p := ⟨b, _, none⟩) hlb).trans (hcell 1 _ rfl), (hu.cell (p := ⟨b, _, none⟩) hlb).trans (hcell 2 _ rfl), (hu.cell (p := ⟨b, _, none⟩) hlb).trans (hcell 4 _ rfl), (hu.cell (p := ⟨b, _, none⟩) hlb).trans (hcell 5 _ rfl)⟩)
              clear hcell
              have hi0 : (0 : Int) ≤ (i : Int) := by omega
              have hi1 : (i : Int) < (A : Int) := by omega
              have hoL : out.length ≤ i := by
                have := HP.out.length_eq
                rw [this]
                exact List.length_take_le _ _
              have HDA := Lib.hid (show Below w8.heap.size w8 wr.drew from HB.out.drew)
              have HDB := Lib.hid (show Below w8.heap.size w8 (wr.alloc (.cells #[.int .u32 0, .int .u64 0, .int .u8 0, .string ⟨#[]⟩] 71)).drew from (HB.out.alloc HB.out.size _).drew)
              have HDC := Lib.hid (show Below w8.heap.size w8 (wr.alloc (.cells #[.int .u32 x.valid, .int .u64 x.seq, .int .u8 x.kind, .string x.val] 71)).drew from (HB.out.alloc HB.out.size _).drew)
              go_upto_region 24 with (fail)
              go_cut [17] (fun pv wq => ∃ (X : World) (pb : Nat), X = wq ∧ pv = .pointer (some ⟨pb, 0, none⟩) ∧ Hid (X.heap[pb]? = some (.cells #[.int .u32 x.valid, .int .u64 x.seq, .int .u8 x.kind, .string x.val] 71 (0, 0))) ∧ Hid (Below wr.heap.size wr X))
              case first =>
                go_wp2_with fail
                go_region_held3 (fun u => u.cell? ⟨b, o + i * 6 + 1, none⟩ = some (.int .u32 x.valid) ∧ u.cell? ⟨b, o + i * 6 + 2, none⟩ = some (.int .u64 x.seq) ∧ u.cell? ⟨b, o + i * 6 + 4, none⟩ = some (.int .u8 x.kind) ∧ u.cell? ⟨b, o + i * 6 + 5, none⟩ = some (.string x.val)) (first | exact HX.out _ HDA.out | exact HX.out _ HDB.out | exact HX.out _ HDC.out | go_keep) (first | fail)
                all_goals
                  go_wp2
                  go_meet
                  first
                    | exact ⟨_, _, rfl, rfl, Lib.hid (blk_new_at rfl _), Lib.hid (((Below.refl _ _).alloc (Nat.le_refl _) _).drew)⟩
                    | exact ⟨_, _, rfl, rfl, Lib.hid (blk_new_at rfl _), Lib.hid ((Below.refl wr.heap.size wr).drew.alloc (Nat.le_refl _) _)⟩
              case rest =>
              obtain ⟨X, pb, rfl, rfl, HPB, HWX⟩ := hcut
              clear HDA HDB HDC
              have hpb := lt_of_blk HPB.out
              obtain ⟨oa, oc, rfl, -, hoc, hEo⟩ : ∃ oa oc, u14 = .slice oa out.length oc ∧ (oa = none → oc = 0) ∧ out.length ≤ oc ∧ Els ec 4 wr oa out := by
                obtain ⟨a, c, e, h1, h2, -⟩ := own_parts HO.out
                subst e
                exact ⟨a, c, rfl, fun h => (h1 h).2, h2, owns_els ec_len HO.out⟩
              have HOX := Lib.hid (show OwnE w8.heap.size X (.slice oa out.length oc) out from OwnE.below HO.out HWX.out)
              have HBX := Lib.hid (show Below w8.heap.size w8 X from HB.out.trans (HWX.out.mono HB.out.size))
              have HPX := Lib.hid (show Els ec 4 X oa out from hEo.ext HWX.out)
              obtain ⟨K, hK⟩ : ∃ K, K = out.length := ⟨_, rfl⟩
              rw [← hK] at hoc hoL HOX ⊢
              have HK := Lib.hid hK
              have HOC := Lib.hid hoc
              have hKl : K < 10000 := by omega
              clear hK hoc hEo HO
              go_wp2_with fail
              obtain ⟨g4, rfl⟩ : ∃ g1 : Nat, g1 = gk := ⟨_, rfl⟩
              obtain ⟨wo4, rfl⟩ : ∃ wo : World, wo = wr := ⟨_, rfl⟩
              go_loopg [18] K (fun gk av wr => ∃ a : Nat, a + gk = K ∧ av = .int .i64 a ∧ Hid (∀ z ∈ out.take a, GtE z x) ∧ Hid (Below X.heap.size X wr))
              case atStart => exact ⟨0, by omega, rfl, Lib.hid (by simp), Lib.hid (Below.refl _ _)⟩
              case round =>
                obtain ⟨a, ha, rfl, HLT, HBa⟩ := hrel
                obtain ⟨Y, hY⟩ : ∃ Y : World, Y = wr := ⟨_, rfl⟩
                rw [← hY] at HBa ⊢
                clear hY
                have HPY := Lib.hid (show ∀ u, Below Y.heap.size Y u → u.cell? ⟨pb, 0, none⟩ = some (.int .u32 x.valid) ∧ u.cell? ⟨pb, 1, none⟩ = some (.int .u64 x.seq) ∧ u.cell? ⟨pb, 2, none⟩ = some (.int .u8 x.kind) ∧ u.cell? ⟨pb, 3, none⟩ = some (.string x.val) from fun u hu => by
                  have hbu := blk_below (blk_below HPB.out HBa.out hpb) hu (Nat.lt_of_lt_of_le hpb HBa.out.size)
                  have f0 := cell_of_blk hbu 0
                  have f1 := cell_of_blk hbu 1
                  have f2 := cell_of_blk hbu 2
                  have f3 := cell_of_blk hbu 3
                  simp at f0 f1 f2 f3
                  exact ⟨f0, f1, f2, f3⟩)
                obtain ⟨p0, p1, p2, p3⟩ := HPY.out Y (Below.refl _ _)
                have ha0 : (0 : Int) ≤ (a : Int) := by omega
                have HPTS := Lib.hid (HPX.out.ext HBa.out)
                have HOY := Lib.hid (show OwnE w8.heap.size Y (.slice oa K oc) out from OwnE.below HOX.out HBa.out)
                have HBY := Lib.hid (show Below w8.heap.size w8 Y from HBX.out.trans (HBa.out.mono HBX.out.size))
                by_cases han : a < K
                · have haz : a < out.length := by have := HK.out; omega
                  obtain ⟨ob, oo, rfl, hob, hcell⟩ := HPTS.out.get a haz
                  have z0 : Y.cell? ⟨ob, oo + a * 4, none⟩ = some (.int .u32 (out[a]'haz).valid) := hcell 0 _ rfl
                  have z1 : Y.cell? ⟨ob, oo + a * 4 + 1, none⟩ = some (.int .u64 (out[a]'haz).seq) := hcell 1 _ rfl
                  have HTK := Lib.hid (show out.take (a + 1) = out.take a ++ [out[a]'haz] from List.take_succ_eq_append_getElem haz)
                  have HZ := Lib.hid (List.getElem?_eq_getElem haz)
                  generalize out[a]'haz = y at z0 z1 HTK HZ
                  clear hcell haz
                  have ha1 : (a : Int) < (K : Int) := by omega
                  have had : decide ((a : Int) < (K : Int)) = true := decide_eq_true ha1
                  have had2 : decide (a < K) = true := decide_eq_true han
                  by_cases h1 : x.valid < y.valid
                  · have d1 : decide (x.valid < y.valid) = true := decide_eq_true h1
                    have HS := Lib.hid (show ∀ z ∈ out.take (a + 1), GtE z x from fun z hz => by
                      rw [HTK.out] at hz
                      rcases List.mem_append.1 hz with hz | hz
                      · exact HLT.out z hz
                      · rw [List.mem_singleton.1 hz]; exact .inl h1)
                    clear h1
                    go_wp2_with fail
                    go_quiet (fail)
                    have HB2 := Lib.hid (below_drewN HBa.out nq)
                    go_wp2_with fail
                    go_roundg (gk - 1)
                    case measure => omega
                    case rel => exact ⟨a + 1, by omega, by go_num, HS, HB2⟩
                  · have d1 : decide (x.valid < y.valid) = false := decide_eq_false h1
                    by_cases h2 : y.valid = x.valid
                    · have d2 : decide (y.valid = x.valid) = true := decide_eq_true h2
                      have d2b : (y.valid == x.valid) = true := by simpa using h2
                      by_cases h3 : x.seq < y.seq
                      · have d3 : decide (x.seq < y.seq) = true := decide_eq_true h3
                        have HS := Lib.hid (show ∀ z ∈ out.take (a + 1), GtE z x from fun z hz => by
                          rw [HTK.out] at hz
                          rcases List.mem_append.1 hz with hz | hz
                          · exact HLT.out z hz
                          · rw [List.mem_singleton.1 hz]; exact .inr ⟨h2, h3⟩)
                        clear h1 h2 h3
                        go_wp2_with fail
                        go_quiet (fail)
                        have HB2 := Lib.hid (below_drewN HBa.out nq)
                        go_wp2_with fail
                        go_roundg (gk - 1)
                        case measure => omega
                        case rel => exact ⟨a + 1, by omega, by go_num, HS, HB2⟩
                      · have d3 : decide (x.seq < y.seq) = false := decide_eq_false h3
                        have HNE := Lib.hid (show ∀ z, out[a]? = some z → ¬ GtE z x from fun z hz => by
                          rw [HZ.out] at hz
                          injection hz with hz
                          rw [← hz]
                          unfold GtE
                          omega)
                        clear h1 h2 h3
                        go_wp2_with fail
                        go_quiet (fail)
                        obtain ⟨Z, hZ⟩ : ∃ Z : World, Z = Y.drewN nq := ⟨_, rfl⟩
                        have HYZ := Lib.hid (show Below Y.heap.size Y Z by rw [hZ]; exact below_drewN (Below.refl _ _) nq)
                        rw [← hZ]
                        clear hZ p0 p1 p2 p3 z0 z1
                        obtain ⟨hd2, hp2⟩ := ins_dn HD.out HLT.out (by have := HK.out; omega) HNE.out
                        obtain ⟨s1, hs1, hT1, hn1⟩ := slice_loE (k := a) (HPTS.out.ext HYZ.out) HK.out.symm HOC.out (by omega) HOY.out.none0
                        obtain ⟨s2, hs2, hT2, hn2⟩ := slice_hiE (k := a) (HPTS.out.ext HYZ.out) HK.out.symm HOC.out (by omega) HOY.out.none0
                        have hl1 : (out.take a).length = a := by have := HK.out; simp; omega
                        have hl2 : (out.drop a).length = K - a := by have := HK.out; simp; omega
                        obtain ⟨tk, htk⟩ : ∃ tk, tk = out.take a := ⟨_, rfl⟩
                        obtain ⟨dk, hdk⟩ : ∃ dk, dk = out.drop a := ⟨_, rfl⟩
                        rw [← htk] at hl1 hT1 hd2 hp2
                        rw [← hdk] at hl2 hT2 hd2 hp2
                        have HD2 := Lib.hid hd2
                        have HP2 := Lib.hid (show (tk ++ [x] ++ dk).Perm (alls.take (i + 1)) by rw [HT.out]; exact hp2.trans (List.Perm.append_right _ HP.out))
                        have HT1 := Lib.hid hT1
                        have HT2 := Lib.hid hT2
                        have HN1 := Lib.hid hn1
                        have HN3 := Lib.hid hn2
                        have hl3 : (tk ++ [x]).length < 1000000 := by rw [List.length_append, List.length_singleton]; omega
                        have hl4 : tk.length < 1000000 := by omega
                        have hl5 : K - a < 1000000 := by omega
                        have hl6 : a < 1000000 := by omega
                        have HBZ := Lib.hid (show Below w8.heap.size w8 Z from HBY.out.trans (HYZ.out.mono HBY.out.size))
                        have HPZ := Lib.hid (show ∀ u, Below Z.heap.size Z u → u.cell? ⟨pb, 0, none⟩ = some (.int .u32 x.valid) ∧ u.cell? ⟨pb, 1, none⟩ = some (.int .u64 x.seq) ∧ u.cell? ⟨pb, 2, none⟩ = some (.int .u8 x.kind) ∧ u.cell? ⟨pb, 3, none⟩ = some (.string x.val) from fun u hu => HPY.out u (HYZ.out.trans (hu.mono HYZ.out.size)))
                        clear hT1 hT2 hn1 hn2 htk hdk hd2 hp2
                        go_wp2_with fail
                        go_region_held3 (fun u => u.cell? ⟨pb, 0, none⟩ = some (.int .u32 x.valid) ∧ u.cell? ⟨pb, 1, none⟩ = some (.int .u64 x.seq) ∧ u.cell? ⟨pb, 2, none⟩ = some (.int .u8 x.kind) ∧ u.cell? ⟨pb, 3, none⟩ = some (.string x.val)) (first | exact HPZ.out _ (by assumption) | exact HPZ.out _ ((Below.refl _ _).drew) | exact HPZ.out _ (((Below.refl _ _).alloc (Nat.le_refl _) _).drew) | exact HPZ.out _ ((Below.refl _ _).alloc (Nat.le_refl _) _) | exact HPZ.out _ (hb1.alloc hb1.size _) | exact HPZ.out _ ((hb1.alloc hb1.size _).drew) | exact HPZ.out _ ((hb1.drew).alloc hb1.size _))
                          (first | (refine wp_append_ents (.const (.slice none 0 0)) (.tmp 179) (by rfl) Z.heap.size (.slice none 0 0) [] s1 oc a tk hl1 (by rfl) (by rfl) (World.ownsRow_nil _ _ _ _) (HT1.out.ext (by first | exact (Below.refl _ _).drew | go_grown)) (by simp) hl6 HN1.out (by simp) ?_; intro v1 w1 hO1 hg1; have hb1 : Below Z.heap.size Z w1 := Below.grown (by first | exact (Below.refl _ _).drew | go_grown) hg1 (by simp) (fun k e => by cases e))
                                 | (refine wp_append_ents (.tmp 180) (.tmp 182) (by rfl) Z.heap.size v1 tk (some ⟨w1.heap.size, 0, none⟩) 1 1 [x] (by rfl) (by rfl) (by rfl) (OwnE.below hO1 (by first | exact (Below.refl _ _).alloc (Nat.le_refl _) _ | exact ((Below.refl _ _).alloc (Nat.le_refl _) _).drew | exact (Below.refl _ _).drew)) (ents_of_one (blk_new_at (by rfl) _)) hl4 (by omega) (fun h => by cases h) (by have := hb1.size; first | omega | (simp only [World.size_alloc]; omega) | (show Z.heap.size ≤ (w1.heap.push _).size; rw [Array.size_push]; omega)) ?_; intro v2 w2 hO2 hg2; have hb2 : Below Z.heap.size Z w2 := Below.grown (by first | exact hb1.alloc hb1.size _ | exact (hb1.alloc hb1.size _).drew | exact (hb1.drew).alloc hb1.size _) hg2 (by have := hb1.size; first | omega | (simp only [World.size_alloc]; omega) | (show Z.heap.size ≤ (w1.heap.push _).size; rw [Array.size_push]; omega)) (fun k e => (World.ownsRow.lt hO1 k e).1))
                                 | (refine wp_append_ents (.tmp 180) (.tmp 182) (by rfl) Z.heap.size v1 tk (some ⟨Z.heap.size, 0, none⟩) 1 1 [x] (by rfl) (by rfl) (by rfl) hO1 (ents_of_one ((hg1.block _ (by simp) (fun e => by cases e)).trans (blk_new_at (by rfl) _))) hl4 (by omega) (fun h => by cases h) hb1.size ?_; intro v2 w2 hO2 hg2; have hb2 : Below Z.heap.size Z w2 := Below.grown hb1 hg2 hb1.size (fun k e => (World.ownsRow.lt hO1 k e).1))
                                 | (refine wp_append_ents (.tmp 183) (.tmp 186) (by rfl) Z.heap.size v2 (tk ++ [x]) s2 (oc - a) (K - a) dk hl2 (by rfl) (by rfl) hO2 (HT2.out.ext hb2) hl3 hl5 HN3.out hb2.size ?_; intro v3 w3 hO3 hg3; have hb3 : Below Z.heap.size Z w3 := Below.grown hb2 hg3 hb2.size (fun k e => (World.ownsRow.lt hO2 k e).1)))
                        all_goals
                          have hfin : OwnE w8.heap.size w3 v3 (tk ++ [x] ++ dk) := ownsRow_mono hO3 HBZ.out.size
                          have HFO := Lib.hid hfin
                          have HFB := Lib.hid (HBZ.out.trans (hb3.mono HBZ.out.size))
                          clear hfin hO1 hO2 hO3 hg1 hg2 hg3 hb1 hb2 hb3 hs1 hs2
                          go_wp2
                          go_roundg (g4 - 1)
                          case measure => omega
                          case rel => exact ⟨i + 1, _, by omega, by go_num, HFO, HP2, HD2, HFB⟩
                    · have d2 : decide (y.valid = x.valid) = false := decide_eq_false h2
                      have d2b : (y.valid == x.valid) = false := by simpa using h2
                      have HNE := Lib.hid (show ∀ z, out[a]? = some z → ¬ GtE z x from fun z hz => by
                        rw [HZ.out] at hz
                        injection hz with hz
                        rw [← hz]
                        unfold GtE
                        omega)
                      clear h1 h2
                      go_wp2_with fail
                      go_quiet (fail)
                      obtain ⟨Z, hZ⟩ : ∃ Z : World, Z = Y.drewN nq := ⟨_, rfl⟩
                      have HYZ := Lib.hid (show Below Y.heap.size Y Z by rw [hZ]; exact below_drewN (Below.refl _ _) nq)
                      rw [← hZ]
                      clear hZ p0 p1 p2 p3 z0 z1
                      obtain ⟨hd2, hp2⟩ := ins_dn HD.out HLT.out (by have := HK.out; omega) HNE.out
                      obtain ⟨s1, hs1, hT1, hn1⟩ := slice_loE (k := a) (HPTS.out.ext HYZ.out) HK.out.symm HOC.out (by omega) HOY.out.none0
                      obtain ⟨s2, hs2, hT2, hn2⟩ := slice_hiE (k := a) (HPTS.out.ext HYZ.out) HK.out.symm HOC.out (by omega) HOY.out.none0
                      have hl1 : (out.take a).length = a := by have := HK.out; simp; omega
                      have hl2 : (out.drop a).length = K - a := by have := HK.out; simp; omega
                      obtain ⟨tk, htk⟩ : ∃ tk, tk = out.take a := ⟨_, rfl⟩
                      obtain ⟨dk, hdk⟩ : ∃ dk, dk = out.drop a := ⟨_, rfl⟩
                      rw [← htk] at hl1 hT1 hd2 hp2
                      rw [← hdk] at hl2 hT2 hd2 hp2
                      have HD2 := Lib.hid hd2
                      have HP2 := Lib.hid (show (tk ++ [x] ++ dk).Perm (alls.take (i + 1)) by rw [HT.out]; exact hp2.trans (List.Perm.append_right _ HP.out))
                      have HT1 := Lib.hid hT1
                      have HT2 := Lib.hid hT2
                      have HN1 := Lib.hid hn1
                      have HN3 := Lib.hid hn2
                      have hl3 : (tk ++ [x]).length < 1000000 := by rw [List.length_append, List.length_singleton]; omega
                      have hl4 : tk.length < 1000000 := by omega
                      have hl5 : K - a < 1000000 := by omega
                      have hl6 : a < 1000000 := by omega
                      have HBZ := Lib.hid (show Below w8.heap.size w8 Z from HBY.out.trans (HYZ.out.mono HBY.out.size))
                      have HPZ := Lib.hid (show ∀ u, Below Z.heap.size Z u → u.cell? ⟨pb, 0, none⟩ = some (.int .u32 x.valid) ∧ u.cell? ⟨pb, 1, none⟩ = some (.int .u64 x.seq) ∧ u.cell? ⟨pb, 2, none⟩ = some (.int .u8 x.kind) ∧ u.cell? ⟨pb, 3, none⟩ = some (.string x.val) from fun u hu => HPY.out u (HYZ.out.trans (hu.mono HYZ.out.size)))
                      clear hT1 hT2 hn1 hn2 htk hdk hd2 hp2
                      go_wp2_with fail
                      go_region_held3 (fun u => u.cell? ⟨pb, 0, none⟩ = some (.int .u32 x.valid) ∧ u.cell? ⟨pb, 1, none⟩ = some (.int .u64 x.seq) ∧ u.cell? ⟨pb, 2, none⟩ = some (.int .u8 x.kind) ∧ u.cell? ⟨pb, 3, none⟩ = some (.string x.val)) (first | exact HPZ.out _ (by assumption) | exact HPZ.out _ ((Below.refl _ _).drew) | exact HPZ.out _ (((Below.refl _ _).alloc (Nat.le_refl _) _).drew) | exact HPZ.out _ ((Below.refl _ _).alloc (Nat.le_refl _) _) | exact HPZ.out _ (hb1.alloc hb1.size _) | exact HPZ.out _ ((hb1.alloc hb1.size _).drew) | exact HPZ.out _ ((hb1.drew).alloc hb1.size _))
                        (first | (refine wp_append_ents (.const (.slice none 0 0)) (.tmp 179) (by rfl) Z.heap.size (.slice none 0 0) [] s1 oc a tk hl1 (by rfl) (by rfl) (World.ownsRow_nil _ _ _ _) (HT1.out.ext (by first | exact (Below.refl _ _).drew | go_grown)) (by simp) hl6 HN1.out (by simp) ?_; intro v1 w1 hO1 hg1; have hb1 : Below Z.heap.size Z w1 := Below.grown (by first | exact (Below.refl _ _).drew | go_grown) hg1 (by simp) (fun k e => by cases e))
                               | (refine wp_append_ents (.tmp 180) (.tmp 182) (by rfl) Z.heap.size v1 tk (some ⟨w1.heap.size, 0, none⟩) 1 1 [x] (by rfl) (by rfl) (by rfl) (OwnE.below hO1 (by first | exact (Below.refl _ _).alloc (Nat.le_refl _) _ | exact ((Below.refl _ _).alloc (Nat.le_refl _) _).drew | exact (Below.refl _ _).drew)) (ents_of_one (blk_new_at (by rfl) _)) hl4 (by omega) (fun h => by cases h) (by have := hb1.size; first | omega | (simp only [World.size_alloc]; omega) | (show Z.heap.size ≤ (w1.heap.push _).size; rw [Array.size_push]; omega)) ?_; intro v2 w2 hO2 hg2; have hb2 : Below Z.heap.size Z w2 := Below.grown (by first | exact hb1.alloc hb1.size _ | exact (hb1.alloc hb1.size _).drew | exact (hb1.drew).alloc hb1.size _) hg2 (by have := hb1.size; first | omega | (simp only [World.size_alloc]; omega) | (show Z.heap.size ≤ (w1.heap.push _).size; rw [Array.size_push]; omega)) (fun k e => (World.ownsRow.lt hO1 k e).1))
                               | (refine wp_append_ents (.tmp 180) (.tmp 182) (by rfl) Z.heap.size v1 tk (some ⟨Z.heap.size, 0, none⟩) 1 1 [x] (by rfl) (by rfl) (by rfl) hO1 (ents_of_one ((hg1.block _ (by simp) (fun e => by cases e)).trans (blk_new_at (by rfl) _))) hl4 (by omega) (fun h => by cases h) hb1.size ?_; intro v2 w2 hO2 hg2; have hb2 : Below Z.heap.size Z w2 := Below.grown hb1 hg2 hb1.size (fun k e => (World.ownsRow.lt hO1 k e).1))
                               | (refine wp_append_ents (.tmp 183) (.tmp 186) (by rfl) Z.heap.size v2 (tk ++ [x]) s2 (oc - a) (K - a) dk hl2 (by rfl) (by rfl) hO2 (HT2.out.ext hb2) hl3 hl5 HN3.out hb2.size ?_; intro v3 w3 hO3 hg3; have hb3 : Below Z.heap.size Z w3 := Below.grown hb2 hg3 hb2.size (fun k e => (World.ownsRow.lt hO2 k e).1)))
                      all_goals
                        have hfin : OwnE w8.heap.size w3 v3 (tk ++ [x] ++ dk) := ownsRow_mono hO3 HBZ.out.size
                        have HFO := Lib.hid hfin
                        have HFB := Lib.hid (HBZ.out.trans (hb3.mono HBZ.out.size))
                        clear hfin hO1 hO2 hO3 hg1 hg2 hg3 hb1 hb2 hb3 hs1 hs2
                        go_wp2
                        go_roundg (g4 - 1)
                        case measure => omega
                        case rel => exact ⟨i + 1, _, by omega, by go_num, HFO, HP2, HD2, HFB⟩
                · have HNE := Lib.hid (show ∀ z, out[a]? = some z → ¬ GtE z x from fun z hz => by
                    have := (List.getElem?_eq_some_iff.1 hz).1
                    have := HK.out
                    omega)
                  have had : decide ((a : Int) < (K : Int)) = false := decide_eq_false (by omega)
                  have had2 : decide (a < K) = false := decide_eq_false han
                  go_wp2_with fail
                  go_quiet (fail)
                  obtain ⟨Z, hZ⟩ : ∃ Z : World, Z = Y.drewN nq := ⟨_, rfl⟩
                  have HYZ := Lib.hid (show Below Y.heap.size Y Z by rw [hZ]; exact below_drewN (Below.refl _ _) nq)
                  rw [← hZ]
                  clear hZ p0 p1 p2 p3
                  obtain ⟨hd2, hp2⟩ := ins_dn HD.out HLT.out (by have := HK.out; omega) HNE.out
                  obtain ⟨s1, hs1, hT1, hn1⟩ := slice_loE (k := a) (HPTS.out.ext HYZ.out) HK.out.symm HOC.out (by omega) HOY.out.none0
                  obtain ⟨s2, hs2, hT2, hn2⟩ := slice_hiE (k := a) (HPTS.out.ext HYZ.out) HK.out.symm HOC.out (by omega) HOY.out.none0
                  have hl1 : (out.take a).length = a := by have := HK.out; simp; omega
                  have hl2 : (out.drop a).length = K - a := by have := HK.out; simp; omega
                  obtain ⟨tk, htk⟩ : ∃ tk, tk = out.take a := ⟨_, rfl⟩
                  obtain ⟨dk, hdk⟩ : ∃ dk, dk = out.drop a := ⟨_, rfl⟩
                  rw [← htk] at hl1 hT1 hd2 hp2
                  rw [← hdk] at hl2 hT2 hd2 hp2
                  have HD2 := Lib.hid hd2
                  have HP2 := Lib.hid (show (tk ++ [x] ++ dk).Perm (alls.take (i + 1)) by rw [HT.out]; exact hp2.trans (List.Perm.append_right _ HP.out))
                  have HT1 := Lib.hid hT1
                  have HT2 := Lib.hid hT2
                  have HN1 := Lib.hid hn1
                  have HN3 := Lib.hid hn2
                  have hl3 : (tk ++ [x]).length < 1000000 := by rw [List.length_append, List.length_singleton]; omega
                  have hl4 : tk.length < 1000000 := by omega
                  have hl5 : K - a < 1000000 := by omega
                  have hl6 : a < 1000000 := by omega
                  have HBZ := Lib.hid (show Below w8.heap.size w8 Z from HBY.out.trans (HYZ.out.mono HBY.out.size))
                  have HPZ := Lib.hid (show ∀ u, Below Z.heap.size Z u → u.cell? ⟨pb, 0, none⟩ = some (.int .u32 x.valid) ∧ u.cell? ⟨pb, 1, none⟩ = some (.int .u64 x.seq) ∧ u.cell? ⟨pb, 2, none⟩ = some (.int .u8 x.kind) ∧ u.cell? ⟨pb, 3, none⟩ = some (.string x.val) from fun u hu => HPY.out u (HYZ.out.trans (hu.mono HYZ.out.size)))
                  clear hT1 hT2 hn1 hn2 htk hdk hd2 hp2
                  go_wp2_with fail
                  go_region_held3 (fun u => u.cell? ⟨pb, 0, none⟩ = some (.int .u32 x.valid) ∧ u.cell? ⟨pb, 1, none⟩ = some (.int .u64 x.seq) ∧ u.cell? ⟨pb, 2, none⟩ = some (.int .u8 x.kind) ∧ u.cell? ⟨pb, 3, none⟩ = some (.string x.val)) (first | exact HPZ.out _ (by assumption) | exact HPZ.out _ ((Below.refl _ _).drew) | exact HPZ.out _ (((Below.refl _ _).alloc (Nat.le_refl _) _).drew) | exact HPZ.out _ ((Below.refl _ _).alloc (Nat.le_refl _) _) | exact HPZ.out _ (hb1.alloc hb1.size _) | exact HPZ.out _ ((hb1.alloc hb1.size _).drew) | exact HPZ.out _ ((hb1.drew).alloc hb1.size _))
                    (first | (refine wp_append_ents (.const (.slice none 0 0)) (.tmp 179) (by rfl) Z.heap.size (.slice none 0 0) [] s1 oc a tk hl1 (by rfl) (by rfl) (World.ownsRow_nil _ _ _ _) (HT1.out.ext (by first | exact (Below.refl _ _).drew | go_grown)) (by simp) hl6 HN1.out (by simp) ?_; intro v1 w1 hO1 hg1; have hb1 : Below Z.heap.size Z w1 := Below.grown (by first | exact (Below.refl _ _).drew | go_grown) hg1 (by simp) (fun k e => by cases e))
                           | (refine wp_append_ents (.tmp 180) (.tmp 182) (by rfl) Z.heap.size v1 tk (some ⟨w1.heap.size, 0, none⟩) 1 1 [x] (by rfl) (by rfl) (by rfl) (OwnE.below hO1 (by first | exact (Below.refl _ _).alloc (Nat.le_refl _) _ | exact ((Below.refl _ _).alloc (Nat.le_refl _) _).drew | exact (Below.refl _ _).drew)) (ents_of_one (blk_new_at (by rfl) _)) hl4 (by omega) (fun h => by cases h) (by have := hb1.size; first | omega | (simp only [World.size_alloc]; omega) | (show Z.heap.size ≤ (w1.heap.push _).size; rw [Array.size_push]; omega)) ?_; intro v2 w2 hO2 hg2; have hb2 : Below Z.heap.size Z w2 := Below.grown (by first | exact hb1.alloc hb1.size _ | exact (hb1.alloc hb1.size _).drew | exact (hb1.drew).alloc hb1.size _) hg2 (by have := hb1.size; first | omega | (simp only [World.size_alloc]; omega) | (show Z.heap.size ≤ (w1.heap.push _).size; rw [Array.size_push]; omega)) (fun k e => (World.ownsRow.lt hO1 k e).1))
                           | (refine wp_append_ents (.tmp 180) (.tmp 182) (by rfl) Z.heap.size v1 tk (some ⟨Z.heap.size, 0, none⟩) 1 1 [x] (by rfl) (by rfl) (by rfl) hO1 (ents_of_one ((hg1.block _ (by simp) (fun e => by cases e)).trans (blk_new_at (by rfl) _))) hl4 (by omega) (fun h => by cases h) hb1.size ?_; intro v2 w2 hO2 hg2; have hb2 : Below Z.heap.size Z w2 := Below.grown hb1 hg2 hb1.size (fun k e => (World.ownsRow.lt hO1 k e).1))
                           | (refine wp_append_ents (.tmp 183) (.tmp 186) (by rfl) Z.heap.size v2 (tk ++ [x]) s2 (oc - a) (K - a) dk hl2 (by rfl) (by rfl) hO2 (HT2.out.ext hb2) hl3 hl5 HN3.out hb2.size ?_; intro v3 w3 hO3 hg3; have hb3 : Below Z.heap.size Z w3 := Below.grown hb2 hg3 hb2.size (fun k e => (World.ownsRow.lt hO2 k e).1)))
                  all_goals
                    have hfin : OwnE w8.heap.size w3 v3 (tk ++ [x] ++ dk) := ownsRow_mono hO3 HBZ.out.size
                    have HFO := Lib.hid hfin
                    have HFB := Lib.hid (HBZ.out.trans (hb3.mono HBZ.out.size))
                    clear hfin hO1 hO2 hO3 hg1 hg2 hg3 hb1 hb2 hb3 hs1 hs2
                    go_wp2
                    go_roundg (g4 - 1)
                    case measure => omega
                    case rel => exact ⟨i + 1, _, by omega, by go_num, HFO, HP2, HD2, HFB⟩
            · have hie2 : alls.take i = alls := List.take_of_length_le (by have := HA.out; omega)
              have hP := HP.out
              rw [hie2, HAL.out, HMN.out, HOLD.out, HMN.out] at hP
              obtain ⟨oa', oc', rfl, -, -, -⟩ := own_parts HO.out
              have HE := Lib.hid (show RefHistPost key at_ cs xs w (.returned (.slice oa' out.length oc')) wr from ⟨oa', _, oc', out, rfl, rfl, owns_els ec_len HO.out, hP, HD.out, HB0.out.trans ((HB5.out.trans ((HB8.out.trans (HB.out.mono HB8.out.size)).mono HB5.out.size)).mono HB0.out.size)⟩)
              obtain ⟨K, hK⟩ : ∃ K, K = out.length := ⟨_, rfl⟩
              rw [← hK] at HE ⊢
              clear hK hP hie2
              go_wp2_with fail
              go_ret
              exact HE.out
end Go.Proofs.YtenocakpipppiaaGreatDoor
