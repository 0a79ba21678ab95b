/- herbariumlaw20: sameShelves. Condition: fewer than 1000000 shelves, tables. · slices.Equal at tables; manifests.same. Condition: at most 1000000 tables a level. -/
import Derived.Test.YtchcelodeepjdaaGreatDoorZT
import Derived.Deep.QuietTactic
import Derived.BigQuiet
import Derived.Test.YtchcelodeepjdaaGreatDoorZQ
namespace Go.Proofs.YtchcelodeepjdaaGreatDoor.Ln
open Go.RowKit Go.Shelf Go.Herb

theorem bytes_of_list {a d : ByteArray} (h : a.toList = d.toList) : a = d := by
  rw [ByteArray.toList_eq, ByteArray.toList_eq] at h
  cases a
  cases d
  exact congrArg ByteArray.mk (Array.toList_inj.1 h)
theorem run_eqTb (f f' b b' : Int) (l l' h h' : ByteArray) (w : World) : (Op.equalIn 10000 (51) (.agg #[.int .u64 f, .int .u32 b, .string l, .string h]) (.agg #[.int .u64 f', .int .u32 b', .string l', .string h'])).run Tryz.prog w = .ok (decide (f = f' ∧ b = b' ∧ l = l' ∧ h = h')) w := by
  have hS : Tryz.prog.underlying (51) = some (.struct (Tryz.prog.fieldsOf (51))) := by kernel_rfl
  have hp : Tryz.prog.stoodInHeld (51) = false := by kernel_rfl
  rw [show (10000 : Nat) = 9999 + 1 from rfl, run_equalIn_agg w 9999 (51) _ _ hS hp]
  simp only [Program.fieldsOf, Tryz.underlying51]
  have u9 := Tryz.underlying26
  have u8 := Tryz.underlying9
  have u7 := Tryz.underlying49
  go_simp
  by_cases h1 : f = f'
  · by_cases h2 : b = b'
    · by_cases h3 : l = l'
      · by_cases h4 : h = h'
        · simp [h1, h2, h3, h4]
        · have h5 : ¬ h.toList = h'.toList := fun e => h4 (bytes_of_list e)
          simp [h1, h2, h3, h4, h5]
      · have h5 : ¬ l.toList = l'.toList := fun e => h3 (bytes_of_list e)
        simp [h1, h2, h3, h5]
    · simp [h1, h2]
  · simp [h1]
theorem run_neqTb (f f' b b' : Int) (l l' h h' : ByteArray) (w : World) : (binOp .neq (51) (.agg #[.int .u64 f, .int .u32 b, .string l, .string h]) (.agg #[.int .u64 f', .int .u32 b', .string l', .string h'])).run Tryz.prog w = .ok (.bool (!decide (f = f' ∧ b = b' ∧ l = l' ∧ h = h'))) w := by
  rw [run_neq_struct, run_eqTb]; rfl
theorem guardTb : Tryz.prog.eqGuardType Tryz.prog.depth (51) = false := by kernel_rfl
def SSPost (xs ys : List Sv) (w : World) (e : Ending) (w' : World) : Prop := ∃ q : Bool, e = .returned (.bool q) ∧ (q = true ↔ xs.map Sv.says = ys.map Sv.says) ∧ Below w.heap.size w w'
theorem take_next {α : Type} {l l' : List α} {k : Nat} {x y : α} (h : l.take k = l'.take k) (hx : l[k]? = some x) (hy : l'[k]? = some y) (e : x = y) : l.take (k + 1) = l'.take (k + 1) := by
  obtain ⟨h1, rfl⟩ := List.getElem?_eq_some_iff.1 hx
  obtain ⟨h2, rfl⟩ := List.getElem?_eq_some_iff.1 hy
  rw [List.take_succ_eq_append_getElem h1, List.take_succ_eq_append_getElem h2, h, e]
theorem ne_at {α : Type} {l l' : List α} {k : Nat} {x y : α} (hx : l[k]? = some x) (hy : l'[k]? = some y) (e : x ≠ y) : l ≠ l' := fun h => by
  rw [h, hy] at hx
  exact e (Option.some.inj hx).symm
theorem below_dn {B : Nat} {w u : World} (h : Below B w u) (n : Nat) : Below B w (u.drewN n) := ⟨h.os, h.tape, h.output, h.size, h.block⟩
set_option maxRecDepth 100000 in
set_option maxHeartbeats 4000000 in
theorem sameShelves_any (a a' : Option Addr) (c c' n m : Nat) (xs ys : List Sv) (w : World) (hE : ShIn w a xs) (hE' : ShIn w a' ys) (hn : xs.length = n) (hm : ys.length = m) (hl : n < 1000000) (hl2 : m < 1000000) (hlx : ∀ s ∈ xs, ∀ l ∈ s.lv, l.ts.length ≤ 1000000) (hly : ∀ s ∈ ys, ∀ l ∈ s.lv, l.ts.length ≤ 1000000) :
    Calls Tryz.prog (29) #[.slice a n c, .slice a' m c'] w (SSPost xs ys w) := by
  have HE := Lib.hid hE
  have HE' := Lib.hid hE'
  have HN := Lib.hid hn
  have HM := Lib.hid hm
  have HLX := Lib.hid hlx
  have HLY := Lib.hid hly
  have qn := run_neqTb
  have qg := guardTb
  have HB0 := Lib.hid (Below.refl w.heap.size w)
  by_cases hnm : n = m
  case neg =>
    have d1 : ((n : Int) == (m : Int)) = false := beq_eq_false_iff_ne.2 (by omega)
    have d2 : (n == m) = false := beq_eq_false_iff_ne.2 hnm
    have d3 : ((n : Int) != (m : Int)) = true := by simp; omega
    have HF := Lib.hid (show xs.map Sv.says ≠ ys.map Sv.says from fun h => by
      have := congrArg List.length h
      rw [List.length_map, List.length_map, hn, hm] at this
      exact hnm this)
    clear hE hE' hn hm hlx hly hnm
    go_enter Tryz.func29, Tryz.ntmps29
    go_wp2_with fail
    go_ret
    unfold SSPost
    exact ⟨false, rfl, ⟨(fun h => by cases h), fun h => absurd h HF.out⟩, HB0.out⟩
  subst hnm
  have HNO := Lib.hid (show ∀ u, Below w.heap.size w u → xs.map Sv.says ≠ ys.map Sv.says → SSPost xs ys w (.returned (.bool false)) u from fun u hu h => ⟨false, rfl, ⟨(fun h => by cases h), fun h2 => absurd h2 h⟩, hu⟩)
  clear hE hE' hn hm hlx hly
  go_enter Tryz.func29, Tryz.ntmps29
  go_wp2_with fail
  go_loopg [5] n (fun gk iv wr => ∃ i : Nat, i + gk = n ∧ iv = .int .i64 i ∧ Hid ((xs.map Sv.says).take i = (ys.map Sv.says).take i) ∧ Hid (Below w.heap.size w wr))
  case atStart => exact ⟨0, by omega, rfl, Lib.hid rfl, HB0⟩
  case round =>
    obtain ⟨i, hi, rfl, HT, HB⟩ := hrel
    by_cases hlt : i < n
    · have hix : i < xs.length := by have := HN.out; omega
      have hiy : i < ys.length := by have := HM.out; omega
      obtain ⟨b, o, hsa, hlb, hcx⟩ := HE.out.els.get i hix
      obtain ⟨b', o', hsb, hlb', hcy⟩ := HE'.out.els.get i hiy
      have HGX := Lib.hid (show (xs.map Sv.says)[i]? = some xs[i].says from by rw [List.getElem?_map, List.getElem?_eq_getElem hix]; rfl)
      have HGY := Lib.hid (show (ys.map Sv.says)[i]? = some ys[i].says from by rw [List.getElem?_map, List.getElem?_eq_getElem hiy]; rfl)
      have HOX := Lib.hid (HE.out.ok _ (List.getElem_mem hix))
      have HOY := Lib.hid (HE'.out.ok _ (List.getElem_mem hiy))
      have HLLX := Lib.hid (HLX.out _ (List.getElem_mem hix))
      have HLLY := Lib.hid (HLY.out _ (List.getElem_mem hiy))
      generalize xs[i] = x at hcx HGX HOX HLLX
      generalize ys[i] = y at hcy HGY HOY HLLY
      have HCX := Lib.hid (show ∀ u, Below w.heap.size w u → u.cell? ⟨b, o + i * 4, none⟩ = some (.int .u64 x.line) ∧ u.cell? ⟨b', o' + i * 4, none⟩ = some (.int .u64 y.line) from fun u hu => ⟨(hu.cell (p := ⟨b, _, none⟩) hlb).trans (hcx 0 _ rfl), (hu.cell (p := ⟨b', _, none⟩) hlb').trans (hcy 0 _ rfl)⟩)
      have HCL := Lib.hid (show ∀ u k, Below w.heap.size w u → k < 3 → ∃ lx ly, x.lv[k]? = some lx ∧ y.lv[k]? = some ly ∧ u.cell? ⟨b, o + i * 4 + 1 + k, none⟩ = some (lvV lx) ∧ u.cell? ⟨b', o' + i * 4 + 1 + k, none⟩ = some (lvV ly) from fun u k hu hk => by
        match k, hk with
        | 0, _ => exact ⟨_, _, rfl, rfl, (hu.cell (p := ⟨b, _, none⟩) hlb).trans (hcx 1 _ rfl), (hu.cell (p := ⟨b', _, none⟩) hlb').trans (hcy 1 _ rfl)⟩
        | 1, _ => exact ⟨_, _, rfl, rfl, (hu.cell (p := ⟨b, _, none⟩) hlb).trans (hcx 2 _ rfl), (hu.cell (p := ⟨b', _, none⟩) hlb').trans (hcy 2 _ rfl)⟩
        | 2, _ => exact ⟨_, _, rfl, rfl, (hu.cell (p := ⟨b, _, none⟩) hlb).trans (hcx 3 _ rfl), (hu.cell (p := ⟨b', _, none⟩) hlb').trans (hcy 3 _ rfl)⟩)
      obtain ⟨g0, g1⟩ := HCX.out wr HB.out
      have HSA := Lib.hid hsa
      have HSB := Lib.hid hsb
      have i0 : (0 : Int) ≤ (i : Int) := by omega
      have i1 : (i : Int) < (n : Int) := by omega
      have hw1 : IntKind.i64.wrap ((i : Int) + 1) = (i : Int) + 1 := IntWalk.i64_in _ (by omega)
      clear hcx hcy
      rw [hsa, hsb]
      clear hsa hsb
      by_cases hline : x.line = y.line
      case neg =>
        have d1 : (x.line == y.line) = false := beq_eq_false_iff_ne.2 hline
        have d2 : (x.line != y.line) = true := by simp [hline]
        have HF := Lib.hid (show xs.map Sv.says ≠ ys.map Sv.says from ne_at HGX.out HGY.out (fun h => hline (congrArg Sd.line h)))
        clear hline
        go_upto_region 6 with fail
        go_quiet (fail)
        go_wp2
        go_ret
        exact HNO.out _ (below_dn HB.out nq) HF.out
      have d1 : (x.line == y.line) = true := beq_iff_eq.2 hline
      have d2 : (x.line != y.line) = false := by simp [hline]
      have HLINE := Lib.hid hline
      clear hline
      obtain ⟨g9, hg9⟩ : ∃ g9, g9 = gk := ⟨_, rfl⟩
      rw [← hg9] at hi
      have HG9 := Lib.hid hg9
      clear hg9
      go_upto_region 6 with fail
      go_quiet (fail)
      have HB6 := Lib.hid (below_dn HB.out nq)
      obtain ⟨u6, hu6⟩ : ∃ u, u = wr.drewN nq := ⟨_, rfl⟩
      rw [← hu6] at HB6 ⊢
      clear hu6 g0 g1 d1 d2
      go_upto_region 9 with fail
      go_loopg [6] 3 (fun gk iv wr => ∃ k : Nat, k + gk = 3 ∧ iv = .int .i64 k ∧ Hid (x.says.lv.take k = y.says.lv.take k) ∧ Hid (Below w.heap.size w wr))
      case atStart => exact ⟨0, rfl, rfl, Lib.hid rfl, HB6⟩
      case round =>
        obtain ⟨k, hk, rfl, HTK, HBk⟩ := hrel
        by_cases hltk : k < 3
        · have j0 : (0 : Int) ≤ (k : Int) := by omega
          have j1 : (k : Int) < 3 := by omega
          have hw2 : IntKind.i64.wrap ((k : Int) + 1) = (k : Int) + 1 := IntWalk.i64_in _ (by omega)
          obtain ⟨lx, ly, hlx, hly, -, -⟩ := HCL.out wr k HBk.out hltk
          have HLV := Lib.hid (show ∀ u, Below w.heap.size w u → u.cell? ⟨b, o + i * 4 + 1 + k, none⟩ = some (lvV lx) ∧ u.cell? ⟨b', o' + i * 4 + 1 + k, none⟩ = some (lvV ly) from fun u hu => by
            obtain ⟨lx', ly', h1, h2, h3, h4⟩ := HCL.out u k hu hltk
            rw [hlx] at h1
            rw [hly] at h2
            cases h1
            cases h2
            exact ⟨h3, h4⟩)
          have HXS := Lib.hid (show x.says.lv[k]? = some lx.ts from by show (x.lv.map (·.ts))[k]? = _; rw [List.getElem?_map, hlx]; rfl)
          have HYS := Lib.hid (show y.says.lv[k]? = some ly.ts from by show (y.lv.map (·.ts))[k]? = _; rw [List.getElem?_map, hly]; rfl)
          have HKX := Lib.hid (show LvOk w lx from by
            have hm := List.mem_of_getElem? hlx
            simp only [Sv.lv, List.mem_cons, List.not_mem_nil, or_false] at hm
            rcases hm with rfl | rfl | rfl
            · exact HOX.out.l0
            · exact HOX.out.l1
            · exact HOX.out.l2)
          have HKY := Lib.hid (show LvOk w ly from by
            have hm := List.mem_of_getElem? hly
            simp only [Sv.lv, List.mem_cons, List.not_mem_nil, or_false] at hm
            rcases hm with rfl | rfl | rfl
            · exact HOY.out.l0
            · exact HOY.out.l1
            · exact HOY.out.l2)
          obtain ⟨nx, hnx⟩ : ∃ n, n = lx.ts.length := ⟨_, rfl⟩
          obtain ⟨ny, hny⟩ : ∃ n, n = ly.ts.length := ⟨_, rfl⟩
          have hvx : lvV lx = .slice lx.a nx lx.cap := by rw [hnx]
          have hvy : lvV ly = .slice ly.a ny ly.cap := by rw [hny]
          rw [hvx, hvy] at HLV
          have hnx1 : nx ≤ 1000000 := by rw [hnx]; exact HLLX.out lx (List.mem_of_getElem? hlx)
          have hny1 : ny ≤ 1000000 := by rw [hny]; exact HLLY.out ly (List.mem_of_getElem? hly)
          have HNX := Lib.hid hnx
          have HNY := Lib.hid hny
          have HFS := Lib.hid (show lx.ts ≠ ly.ts → xs.map Sv.says ≠ ys.map Sv.says from fun h => ne_at HGX.out HGY.out (fun h2 => ne_at HXS.out HYS.out h (congrArg Sd.lv h2)))
          obtain ⟨c1, c2⟩ := HLV.out wr HBk.out
          clear hlx hly hnx hny hvx hvy
          by_cases hxy : nx = ny
          case neg =>
            have d1 : ((nx : Int) == (ny : Int)) = false := beq_eq_false_iff_ne.2 (by omega)
            have d2 : (nx == ny) = false := beq_eq_false_iff_ne.2 hxy
            have d3 : ((nx : Int) != (ny : Int)) = true := by simp; omega
            have HF := Lib.hid (HFS.out (fun h => hxy (by rw [HNX.out, HNY.out, h])))
            clear hxy
            go_upto_region 11 with fail
            go_quiet (fail)
            go_wp2
            go_ret
            exact HNO.out _ (below_dn HBk.out nq) HF.out
          subst hxy
          obtain ⟨g8, hg8⟩ : ∃ g8, g8 = gk := ⟨_, rfl⟩
          rw [← hg8] at hk
          have HG8 := Lib.hid hg8
          clear hg8
          go_upto_region 11 with fail
          go_quiet (fail)
          have HB11 := Lib.hid (below_dn HBk.out nq)
          obtain ⟨u11, hu11⟩ : ∃ u, u = wr.drewN nq := ⟨_, rfl⟩
          rw [← hu11] at HB11 ⊢
          clear hu11 c1 c2
          go_upto_region 14 with fail
          go_loopg [7] nx (fun gk iv wr => ∃ j : Nat, j + gk = nx ∧ iv = .int .i64 j ∧ Hid (lx.ts.take j = ly.ts.take j) ∧ Hid (Below w.heap.size w wr))
          case atStart => exact ⟨0, by omega, rfl, Lib.hid rfl, HB11⟩
          case round =>
            obtain ⟨j, hj, rfl, HTJ, HBj⟩ := hrel
            obtain ⟨c1, c2⟩ := HLV.out wr HBj.out
            by_cases hltj : j < nx
            · have hjx : j < lx.ts.length := by have := HNX.out; omega
              have hjy : j < ly.ts.length := by have := HNY.out; omega
              obtain ⟨tb, tO, hta, htb, htc⟩ := HKX.out.tabs.get j hjx
              obtain ⟨tb', tO', hta', htb', htc'⟩ := HKY.out.tabs.get j hjy
              have HTX := Lib.hid (List.getElem?_eq_getElem hjx)
              have HTY := Lib.hid (List.getElem?_eq_getElem hjy)
              generalize lx.ts[j] = t at htc HTX
              generalize ly.ts[j] = t' at htc' HTY
              have a0 := (HBj.out.cell (p := ⟨tb, _, none⟩) htb).trans (htc 0 _ rfl)
              have a1 := (HBj.out.cell (p := ⟨tb, _, none⟩) htb).trans (htc 1 _ rfl)
              have a2 := (HBj.out.cell (p := ⟨tb, _, none⟩) htb).trans (htc 2 _ rfl)
              have a3 := (HBj.out.cell (p := ⟨tb, _, none⟩) htb).trans (htc 3 _ rfl)
              have b0 := (HBj.out.cell (p := ⟨tb', _, none⟩) htb').trans (htc' 0 _ rfl)
              have b1 := (HBj.out.cell (p := ⟨tb', _, none⟩) htb').trans (htc' 1 _ rfl)
              have b2 := (HBj.out.cell (p := ⟨tb', _, none⟩) htb').trans (htc' 2 _ rfl)
              have b3 := (HBj.out.cell (p := ⟨tb', _, none⟩) htb').trans (htc' 3 _ rfl)
              simp only [Nat.add_zero] at a0 b0
              have l0 : (0 : Int) ≤ (j : Int) := by omega
              have l1 : (j : Int) < (nx : Int) := by omega
              have hw3 : IntKind.i64.wrap ((j : Int) + 1) = (j : Int) + 1 := IntWalk.i64_in _ (by omega)
              rw [hta] at c1
              rw [hta'] at c2
              clear htc htc'
              by_cases hq : t.file = t'.file ∧ t.bytes = t'.bytes ∧ t.low = t'.low ∧ t.high = t'.high
              · have dq : decide (t.file = t'.file ∧ t.bytes = t'.bytes ∧ t.low = t'.low ∧ t.high = t'.high) = true := decide_eq_true hq
                have HTJ2 := Lib.hid (show lx.ts.take (j + 1) = ly.ts.take (j + 1) from take_next HTJ.out HTX.out HTY.out (by
                  obtain ⟨h1, h2, h3, h4⟩ := hq
                  cases t
                  cases t'
                  simp only at h1 h2 h3 h4
                  rw [h1, h2, h3, h4]))
                clear hq
                go_upto_region 16 with fail
                go_quiet (fail)
                have HBn := Lib.hid (below_dn HBj.out nq)
                go_wp2
                go_roundg (gk - 1)
                case measure => omega
                case rel => exact ⟨j + 1, by omega, by go_num, HTJ2, HBn⟩
              · have dq : decide (t.file = t'.file ∧ t.bytes = t'.bytes ∧ t.low = t'.low ∧ t.high = t'.high) = false := decide_eq_false hq
                have HF := Lib.hid (HFS.out (ne_at HTX.out HTY.out (fun h => hq (by rw [h]; exact ⟨rfl, rfl, rfl, rfl⟩))))
                clear hq
                go_upto_region 16 with fail
                go_quiet (fail)
                go_wp2
                go_ret
                exact HNO.out _ (below_dn HBj.out nq) HF.out
            · have l1 : ¬ (j : Int) < (nx : Int) := by omega
              have HTK2 := Lib.hid (show x.says.lv.take (k + 1) = y.says.lv.take (k + 1) from take_next HTK.out HXS.out HYS.out (by
                have := HTJ.out
                rwa [List.take_of_length_le (by have := HNX.out; omega), List.take_of_length_le (by have := HNY.out; omega)] at this))
              clear hltj hj
              go_wp2_with fail
              go_roundg (g8 - 1)
              case measure => have := HG8.out; omega
              case rel => exact ⟨k + 1, by omega, by go_num, HTK2, HBj⟩
        · have j1 : ¬ (k : Int) < 3 := by omega
          have HT2 := Lib.hid (show (xs.map Sv.says).take (i + 1) = (ys.map Sv.says).take (i + 1) from take_next HT.out HGX.out HGY.out (by
            have h1 := HTK.out
            have e1 : x.says.lv.length = 3 := rfl
            have e2 : y.says.lv.length = 3 := rfl
            rw [List.take_of_length_le (by omega), List.take_of_length_le (by omega)] at h1
            have h2 : x.says.line = y.says.line := HLINE.out
            generalize x.says = p at h1 h2
            generalize y.says = q at h1 h2
            cases p
            cases q
            simp only at h1 h2
            rw [h1, h2]))
          clear hltk hk
          go_wp2_with fail
          rw [← HSA.out, ← HSB.out]
          go_roundg (g9 - 1)
          case measure => have := HG9.out; omega
          case rel => exact ⟨i + 1, by omega, by go_num, HT2, HBk⟩
    · have i1 : ¬ (i : Int) < (n : Int) := by omega
      have HF := Lib.hid (show SSPost xs ys w (.returned (.bool true)) wr from ⟨true, rfl, ⟨fun _ => by
        have := HT.out
        rwa [List.take_of_length_le (by rw [List.length_map]; have := HN.out; omega), List.take_of_length_le (by rw [List.length_map]; have := HM.out; omega)] at this, fun _ => rfl⟩, HB.out⟩)
      go_wp2_with fail
      go_ret
      exact HF.out
end Go.Proofs.YtchcelodeepjdaaGreatDoor.Ln

namespace Go.Proofs.YtchcelodeepjdaaGreatDoor.Ln
open Go.RowKit Go.Shelf Go.Herb

theorem dn_below {w u : World} (h : ∃ m, u = w.drewN m) : Below w.heap.size w u := by
  obtain ⟨m, rfl⟩ := h
  exact below_dn (Below.refl _ _) m
theorem dn_more {w u : World} (h : ∃ m, u = w.drewN m) (n : Nat) : ∃ m, u.drewN n = w.drewN m := by
  obtain ⟨m, rfl⟩ := h
  exact ⟨m + n, by rw [World.drewN_drewN]⟩
def EqTPost (xs ys : List Tb) (w : World) (e : Ending) (w' : World) : Prop := ∃ q : Bool, e = .returned (.bool q) ∧ (q = true ↔ xs = ys) ∧ ∃ m, w' = w.drewN m
set_option maxRecDepth 100000 in
set_option maxHeartbeats 2000000 in
theorem eqTabs_any (a a' : Option Addr) (c c' n m : Nat) (xs ys : List Tb) (w : World) (hE : Els tbc 4 w a xs) (hE' : Els tbc 4 w a' ys) (hn : xs.length = n) (hm : ys.length = m) (hl : n ≤ 1000000) (hl2 : m ≤ 1000000) :
    Calls Tryz.prog (81) #[.slice a n c, .slice a' m c'] w (EqTPost xs ys w) := by
  have HE := Lib.hid hE
  have HE' := Lib.hid hE'
  have HN := Lib.hid hn
  have HM := Lib.hid hm
  have qn := run_neqTb
  have qg := guardTb
  have HB0 := Lib.hid (show ∃ m, w = w.drewN m from ⟨0, rfl⟩)
  by_cases hnm : n = m
  case neg =>
    have d1 : ((n : Int) == (m : Int)) = false := beq_eq_false_iff_ne.2 (by omega)
    have d2 : (n == m) = false := beq_eq_false_iff_ne.2 hnm
    have d3 : ((n : Int) != (m : Int)) = true := by simp; omega
    have HF := Lib.hid (show xs ≠ ys from fun h => by
      rw [h] at hn
      exact hnm (hn.symm.trans hm))
    clear hE hE' hn hm hnm
    go_enter Tryz.func81, Tryz.ntmps81
    go_wp2_with fail
    go_ret
    unfold EqTPost
    exact ⟨false, rfl, ⟨(fun h => by cases h), fun h => absurd h HF.out⟩, HB0.out⟩
  subst hnm
  have HNO := Lib.hid (show ∀ u, (∃ m, u = w.drewN m) → xs ≠ ys → EqTPost xs ys w (.returned (.bool false)) u from fun u hu h => ⟨false, rfl, ⟨(fun h => by cases h), fun h2 => absurd h2 h⟩, hu⟩)
  clear hE hE' hn hm
  go_enter Tryz.func81, Tryz.ntmps81
  go_wp2_with fail
  go_loopg [13] n (fun gk iv wr => ∃ j : Nat, j + gk = n ∧ iv = .int .i64 j ∧ Hid (xs.take j = ys.take j) ∧ Hid (∃ m, wr = w.drewN m))
  case atStart => exact ⟨0, by omega, rfl, Lib.hid rfl, HB0⟩
  case round =>
    obtain ⟨j, hj, rfl, HTJ, HBj⟩ := hrel
    by_cases hltj : j < n
    · have hjx : j < xs.length := by have := HN.out; omega
      have hjy : j < ys.length := by have := HM.out; omega
      obtain ⟨tb, tO, hta, htb, htc⟩ := HE.out.get j hjx
      obtain ⟨tb', tO', hta', htb', htc'⟩ := HE'.out.get j hjy
      have HTX := Lib.hid (List.getElem?_eq_getElem hjx)
      have HTY := Lib.hid (List.getElem?_eq_getElem hjy)
      generalize xs[j] = t at htc HTX
      generalize ys[j] = t' at htc' HTY
      have hbw := dn_below HBj.out
      have a0 := (hbw.cell (p := ⟨tb, _, none⟩) htb).trans (htc 0 _ rfl)
      have a1 := (hbw.cell (p := ⟨tb, _, none⟩) htb).trans (htc 1 _ rfl)
      have a2 := (hbw.cell (p := ⟨tb, _, none⟩) htb).trans (htc 2 _ rfl)
      have a3 := (hbw.cell (p := ⟨tb, _, none⟩) htb).trans (htc 3 _ rfl)
      have b0 := (hbw.cell (p := ⟨tb', _, none⟩) htb').trans (htc' 0 _ rfl)
      have b1 := (hbw.cell (p := ⟨tb', _, none⟩) htb').trans (htc' 1 _ rfl)
      have b2 := (hbw.cell (p := ⟨tb', _, none⟩) htb').trans (htc' 2 _ rfl)
      have b3 := (hbw.cell (p := ⟨tb', _, none⟩) htb').trans (htc' 3 _ rfl)
      simp only [Nat.add_zero] at a0 b0
      have HTA := Lib.hid hta
      have HTB := Lib.hid hta'
      have l0 : (0 : Int) ≤ (j : Int) := by omega
      have l1 : (j : Int) < (n : Int) := by omega
      have hw3 : IntKind.i64.wrap ((j : Int) + 1) = (j : Int) + 1 := IntWalk.i64_in _ (by omega)
      rw [hta, hta']
      clear htc htc' hta hta' hbw
      by_cases hq : t.file = t'.file ∧ t.bytes = t'.bytes ∧ t.low = t'.low ∧ t.high = t'.high
      · have dq : decide (t.file = t'.file ∧ t.bytes = t'.bytes ∧ t.low = t'.low ∧ t.high = t'.high) = true := decide_eq_true hq
        have HTJ2 := Lib.hid (show xs.take (j + 1) = ys.take (j + 1) from take_next HTJ.out HTX.out HTY.out (by
          obtain ⟨h1, h2, h3, h4⟩ := hq
          cases t
          cases t'
          simp only at h1 h2 h3 h4
          rw [h1, h2, h3, h4]))
        clear hq
        go_upto_region 6 with fail
        go_quiet (fail)
        have HBn := Lib.hid (dn_more HBj.out nq)
        go_wp2
        rw [← HTA.out, ← HTB.out]
        go_roundg (gk - 1)
        case measure => omega
        case rel => exact ⟨j + 1, by omega, by go_num, HTJ2, HBn⟩
      · have dq : decide (t.file = t'.file ∧ t.bytes = t'.bytes ∧ t.low = t'.low ∧ t.high = t'.high) = false := decide_eq_false hq
        have HF := Lib.hid (ne_at HTX.out HTY.out (fun h => hq (by rw [h]; exact ⟨rfl, rfl, rfl, rfl⟩)))
        clear hq
        go_upto_region 6 with fail
        go_quiet (fail)
        go_wp2
        go_ret
        exact HNO.out _ (dn_more HBj.out nq) HF.out
    · have l1 : ¬ (j : Int) < (n : Int) := by omega
      have HF := Lib.hid (show EqTPost xs ys w (.returned (.bool true)) wr from ⟨true, rfl, ⟨fun _ => by
        have := HTJ.out
        rwa [List.take_of_length_le (by have := HN.out; omega), List.take_of_length_le (by have := HM.out; omega)] at this, fun _ => rfl⟩, HBj.out⟩)
      go_wp2_with fail
      go_ret
      exact HF.out
def SamePost (s t : Sv) (w : World) (e : Ending) (w' : World) : Prop := ∃ q : Bool, e = .returned (.bool q) ∧ (q = true ↔ s.says.lv = t.says.lv) ∧ Below w.heap.size w w'
theorem Sv.lvl {w : World} {s : Sv} (h : SvOk w s) {k : Nat} {l : Lv} (hl : s.lv[k]? = some l) : LvOk w l := by
  have hm := List.mem_of_getElem? hl
  simp only [Sv.lv, List.mem_cons, List.not_mem_nil, or_false] at hm
  rcases hm with rfl | rfl | rfl
  · exact h.l0
  · exact h.l1
  · exact h.l2
set_option maxRecDepth 100000 in
set_option maxHeartbeats 2000000 in
theorem same_any (s t : Sv) (w : World) (hs : SvOk w s) (ht : SvOk w t) (hl : ∀ l ∈ s.lv, l.ts.length ≤ 1000000) (hl2 : ∀ l ∈ t.lv, l.ts.length ≤ 1000000) :
    Calls Tryz.prog (45) #[shV s, shV t] w (SamePost s t w) := by
  have HS := Lib.hid hs
  have HT := Lib.hid ht
  have HL := Lib.hid hl
  have HL2 := Lib.hid hl2
  obtain ⟨V, hV⟩ : ∃ V : World, V = w.alloc (.cells #[.int .u64 s.line, lvV s.l0, lvV s.l1, lvV s.l2] (57)) := ⟨_, rfl⟩
  have hVs : V.heap.size = w.heap.size + 1 := by rw [hV]; simp
  have hbV : Below w.heap.size w V := by rw [hV]; exact (Below.refl _ _).alloc (Nat.le_refl _) _
  have hx1 : V.heap[w.heap.size]? = some (.cells #[.int .u64 s.line, lvV s.l0, lvV s.l1, lvV s.l2] (57) (0, 0)) := by rw [hV]; exact blk_new_at rfl _
  obtain ⟨W, hW⟩ : ∃ W : World, W = V.alloc (.cells #[.int .u64 t.line, lvV t.l0, lvV t.l1, lvV t.l2] (57)) := ⟨_, rfl⟩
  have hbW : Below V.heap.size V W := by rw [hW]; exact (Below.refl _ _).alloc (Nat.le_refl _) _
  have hx2 : W.heap[w.heap.size]? = some (.cells #[.int .u64 s.line, lvV s.l0, lvV s.l1, lvV s.l2] (57) (0, 0)) := blk_below hx1 hbW (lt_of_blk hx1)
  have hy2 : W.heap[w.heap.size + 1]? = some (.cells #[.int .u64 t.line, lvV t.l0, lvV t.l1, lvV t.l2] (57) (0, 0)) := by rw [hW, ← hVs]; exact blk_new_at rfl _
  have HBW := Lib.hid (hbV.trans (hbW.mono hbV.size))
  have hc1 := cell_of_blk hx2
  have hc2 := cell_of_blk hy2
  have HCL := Lib.hid (show ∀ k, k < 3 → ∃ lx ly, s.lv[k]? = some lx ∧ t.lv[k]? = some ly ∧ W.cell? ⟨w.heap.size, 1 + k, none⟩ = some (lvV lx) ∧ W.cell? ⟨w.heap.size + 1, 1 + k, none⟩ = some (lvV ly) from fun k hk => by
    match k, hk with
    | 0, _ => exact ⟨_, _, rfl, rfl, by simpa using hc1 1, by simpa using hc2 1⟩
    | 1, _ => exact ⟨_, _, rfl, rfl, by simpa using hc1 2, by simpa using hc2 2⟩
    | 2, _ => exact ⟨_, _, rfl, rfl, by simpa using hc1 3, by simpa using hc2 3⟩)
  have HNO := Lib.hid (show ∀ u, (∃ m, u = W.drewN m) → s.says.lv ≠ t.says.lv → SamePost s t w (.returned (.bool false)) u from fun u hu h => ⟨false, rfl, ⟨(fun h => by cases h), fun h2 => absurd h2 h⟩, HBW.out.trans ((dn_below hu).mono HBW.out.size)⟩)
  have HYES := Lib.hid (show ∀ u, (∃ m, u = W.drewN m) → s.says.lv = t.says.lv → SamePost s t w (.returned (.bool true)) u from fun u hu h => ⟨true, rfl, ⟨fun _ => h, fun _ => rfl⟩, HBW.out.trans ((dn_below hu).mono HBW.out.size)⟩)
  have HW := Lib.hid hW
  have HV := Lib.hid hV
  have HB0 := Lib.hid (show ∃ m, W = W.drewN m from ⟨0, rfl⟩)
  clear hs ht hl hl2 hV hVs hbV hx1 hbW hx2 hy2 hc1 hc2 hW
  go_enter Tryz.func45, Tryz.ntmps45
  go_upto_region 2 with fail
  rw [← HV.out, ← HW.out]
  go_loopg [6] 3 (fun gk iv wr => ∃ k : Nat, k + gk = 3 ∧ iv = .int .i64 k ∧ Hid (s.says.lv.take k = t.says.lv.take k) ∧ Hid (∃ m, wr = W.drewN m))
  case atStart => exact ⟨0, rfl, rfl, Lib.hid rfl, HB0⟩
  case round =>
    obtain ⟨k, hk, rfl, HTK, HBk⟩ := hrel
    by_cases hltk : k < 3
    · have j0 : (0 : Int) ≤ (k : Int) := by omega
      have j1 : (k : Int) < 3 := by omega
      have hw2 : IntKind.i64.wrap ((k : Int) + 1) = (k : Int) + 1 := IntWalk.i64_in _ (by omega)
      obtain ⟨lx, ly, hlx, hly, hc1, hc2⟩ := HCL.out k hltk
      have hbw := dn_below HBk.out
      have HXS := Lib.hid (show s.says.lv[k]? = some lx.ts from by show (s.lv.map (·.ts))[k]? = _; rw [List.getElem?_map, hlx]; rfl)
      have HYS := Lib.hid (show t.says.lv[k]? = some ly.ts from by show (t.lv.map (·.ts))[k]? = _; rw [List.getElem?_map, hly]; rfl)
      have hkx := (Sv.lvl HS.out hlx).ext HBW.out
      have hky := (Sv.lvl HT.out hly).ext HBW.out
      have hnx1 := HL.out lx (List.mem_of_getElem? hlx)
      have hny1 := HL2.out ly (List.mem_of_getElem? hly)
      obtain ⟨nx, hnx⟩ : ∃ n, n = lx.ts.length := ⟨_, rfl⟩
      obtain ⟨ny, hny⟩ : ∃ n, n = ly.ts.length := ⟨_, rfl⟩
      have hvx : lvV lx = .slice lx.a nx lx.cap := by rw [hnx]
      have hvy : lvV ly = .slice ly.a ny ly.cap := by rw [hny]
      have HEQ := Lib.hid (show ∀ m, Calls Tryz.prog (81) #[.slice lx.a nx lx.cap, .slice ly.a ny ly.cap] (wr.drewN m) (EqTPost lx.ts ly.ts (wr.drewN m)) from fun m => by
        have hb2 := dn_below (dn_more HBk.out m)
        exact eqTabs_any lx.a ly.a lx.cap ly.cap nx ny lx.ts ly.ts (wr.drewN m) (hkx.ext hb2).tabs (hky.ext hb2).tabs hnx.symm hny.symm (by omega) (by omega))
      have c1 := (hbw.cell (p := ⟨w.heap.size, 1 + k, none⟩) (by have := HBW.out.size; have := lt_of_cell hc1; exact this)).trans hc1
      have c2 := (hbw.cell (p := ⟨w.heap.size + 1, 1 + k, none⟩) (by have := lt_of_cell hc2; exact this)).trans hc2
      rw [hvx] at c1
      rw [hvy] at c2
      clear hlx hly hnx hny hvx hvy hkx hky hbw hc1 hc2
      by_cases hq : lx.ts = ly.ts
      · have HE2 := Lib.hid (show ∀ m, Calls Tryz.prog (81) #[.slice lx.a nx lx.cap, .slice ly.a ny ly.cap] (wr.drewN m) (fun e w' => e = .returned (.bool true) ∧ ∃ n, w' = (wr.drewN m).drewN n) from fun m => (HEQ.out m).mono (by
          rintro e w' ⟨q, rfl, hq2, hm⟩
          rw [hq2.2 hq]
          exact ⟨rfl, hm⟩))
        have HT2 := Lib.hid (show s.says.lv.take (k + 1) = t.says.lv.take (k + 1) from take_next HTK.out HXS.out HYS.out hq)
        clear hq
        go_upto_region 4 with fail
        go_quiet ((go_at_call 81; exact Calls.quiet_of (HE2.out _)))
        have HBn := Lib.hid (dn_more HBk.out nq)
        go_wp2
        go_roundg (gk - 1)
        case measure => omega
        case rel => exact ⟨k + 1, by omega, by go_num, HT2, HBn⟩
      · have HE2 := Lib.hid (show ∀ m, Calls Tryz.prog (81) #[.slice lx.a nx lx.cap, .slice ly.a ny ly.cap] (wr.drewN m) (fun e w' => e = .returned (.bool false) ∧ ∃ n, w' = (wr.drewN m).drewN n) from fun m => (HEQ.out m).mono (by
          rintro e w' ⟨q, rfl, hq2, hm⟩
          cases q with
          | true => exact absurd (hq2.1 rfl) hq
          | false => exact ⟨rfl, hm⟩))
        have HF := Lib.hid (ne_at HXS.out HYS.out hq)
        clear hq
        go_upto_region 4 with fail
        go_quiet ((go_at_call 81; exact Calls.quiet_of (HE2.out _)))
        go_wp2
        go_ret
        exact HNO.out _ (dn_more HBk.out nq) HF.out
    · have j1 : ¬ (k : Int) < 3 := by omega
      have HF := Lib.hid (HYES.out _ HBk.out (by
        have h1 := HTK.out
        have e1 : s.says.lv.length = 3 := rfl
        have e2 : t.says.lv.length = 3 := rfl
        rwa [List.take_of_length_le (by omega), List.take_of_length_le (by omega)] at h1))
      clear hltk hk
      go_wp2_with fail
      go_ret
      exact HF.out
end Go.Proofs.YtchcelodeepjdaaGreatDoor.Ln
