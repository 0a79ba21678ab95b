/- The document's answer for what differs: Within, Same. Condition: fewer than 1000000 facts. -/
import Derived.Test.YtenocakpipppiaaN1
namespace Go.Proofs.Ytenocakpipppiaa
open Go.RowKit Go.Shelf Go.Herb

theorem isAt_iff {key : ByteArray} {v : Int} {x : Fc} : isAt key v x = true ↔ x.key.toList = key.toList ∧ x.valid = v := by
  unfold isAt
  rw [Bool.and_eq_true, beq_iff_eq, beq_iff_eq]

theorem innL_find (key : ByteArray) (v : Int) (xs : List Fc) : getL (innL key xs) v = (findF key v xs).map (fun x => (x.kind, x.val)) := by
  induction xs using list_snoc_ind with
  | h0 => rfl
  | h1 xs x ih =>
    have e2 : innL key (xs ++ [x]) = if x.key.toList = key.toList then insV (innL key xs) x else innL key xs := by unfold innL; rw [List.foldl_append]; rfl
    have e1 : findF key v (xs ++ [x]) = (findF key v xs).or (if isAt key v x then some x else none) := by
      unfold findF
      rw [List.find?_append]
      congr 1
      rw [List.find?_cons]
      cases isAt key v x <;> simp
    rw [e1, e2]
    by_cases hk : x.key.toList = key.toList
    · rw [if_pos hk]
      unfold insV
      by_cases hin : x.valid ∈ (innL key xs).map (·.1)
      · rw [if_pos hin, ih]
        cases hf : findF key v xs with
        | some y => rfl
        | none =>
          rw [hf] at ih
          have hne : isAt key v x = false := by
            cases h : isAt key v x with
            | false => rfl
            | true =>
              have := (isAt_iff.1 h).2
              rw [this] at hin
              exact absurd hin (getL_none.1 ih)
          rw [hne]
          rfl
      · rw [if_neg hin]
        by_cases hv : x.valid = v
        · subst hv
          rw [getL_put_same]
          have hn : findF key x.valid xs = none := by
            rw [getL_none.2 hin] at ih
            cases hf : findF key x.valid xs with
            | none => rfl
            | some y => rw [hf] at ih; cases ih
          rw [hn, if_pos (isAt_iff.2 ⟨hk, rfl⟩)]
          rfl
        · rw [getL_put_other _ _ _ (fun e => hv e.symm), ih, if_neg (fun h => hv (isAt_iff.1 h).2)]
          cases findF key v xs <;> rfl
    · rw [if_neg hk, ih, if_neg (fun h => hk (isAt_iff.1 h).1)]
      cases findF key v xs <;> rfl

def okAt (xs ys : List Fc) (key : ByteArray) (x : Fc) : Bool :=
  match findF key x.valid xs, findF key x.valid ys with
  | some x', some y => (x'.kind == y.kind) && (x'.val.toList == y.val.toList)
  | _, _ => false
def withinB (xs ys : List Fc) (key : ByteArray) : Bool := xs.all (fun x => !(x.key.toList == key.toList) || okAt xs ys key x)

theorem findF_some {key : ByteArray} {v : Int} {xs : List Fc} {x : Fc} (h : findF key v xs = some x) : x ∈ xs ∧ x.key.toList = key.toList ∧ x.valid = v :=
  ⟨List.mem_of_find?_eq_some h, isAt_iff.1 (List.find?_some h)⟩
theorem findF_ex {key : ByteArray} {xs : List Fc} {x : Fc} (hx : x ∈ xs) (hk : x.key.toList = key.toList) : ∃ x', findF key x.valid xs = some x' := by
  cases hf : findF key x.valid xs with
  | some y => exact ⟨y, rfl⟩
  | none =>
    unfold findF at hf
    rw [List.find?_eq_none] at hf
    exact absurd (isAt_iff.2 ⟨hk, rfl⟩) (hf x hx)

theorem within_iff {xs ys : List Fc} {key : ByteArray} : withinB xs ys key = true ↔ ∀ p, p ∈ innL key xs → p ∈ innL key ys := by
  have hgx : ∀ p, p ∈ innL key xs ↔ getL (innL key xs) p.1 = some p.2 := fun p => (getL_some (innL_nodup _ _)).symm
  have hgy : ∀ p, p ∈ innL key ys ↔ getL (innL key ys) p.1 = some p.2 := fun p => (getL_some (innL_nodup _ _)).symm
  unfold withinB
  rw [List.all_eq_true]
  constructor
  · intro h p hp
    rw [hgx, innL_find] at hp
    obtain ⟨x', hx', he⟩ := Option.map_eq_some_iff.1 hp
    obtain ⟨h1, h2, h3⟩ := findF_some hx'
    have := h x' h1
    rw [beq_iff_eq.2 h2, Bool.not_true, Bool.false_or] at this
    unfold okAt at this
    rw [h3, hx'] at this
    cases hy : findF key p.1 ys with
    | none => rw [hy] at this; cases this
    | some y =>
      rw [hy] at this
      simp only [Bool.and_eq_true, beq_iff_eq] at this
      rw [hgy, innL_find, hy, ← he]
      simp only [Option.map_some, this.1, bytes_ext this.2]
  · intro h x hx
    by_cases hk : x.key.toList = key.toList
    · rw [beq_iff_eq.2 hk, Bool.not_true, Bool.false_or]
      obtain ⟨x', hx'⟩ := findF_ex hx hk
      have hin : (x.valid, (x'.kind, x'.val)) ∈ innL key xs := by rw [hgx, innL_find, hx']; rfl
      have := h _ hin
      rw [hgy, innL_find] at this
      obtain ⟨y, hy, he⟩ := Option.map_eq_some_iff.1 this
      unfold okAt
      simp only at hy he
      rw [hx', hy]
      injection he with h1 h2
      simp [h1, h2]
    · rw [beq_eq_false_iff_ne.2 hk]
      rfl

theorem same_within (xs ys : List Fc) (key : ByteArray) : (withinB xs ys key && withinB ys xs key) = sameK xs ys key.toList := by
  rw [Bool.eq_iff_iff, Bool.and_eq_true, within_iff, within_iff, sameK_iff, mk_bytes]
  constructor
  · rintro ⟨h1, h2⟩ p; exact ⟨h1 p, h2 p⟩
  · intro h; exact ⟨fun p hp => (h p).1 hp, fun p hp => (h p).2 hp⟩

set_option maxRecDepth 100000 in
set_option maxHeartbeats 2000000 in
theorem within_any (a1 a2 : Option Addr) (c1 c2 : Nat) (xs ys : List Fc) (key : ByteArray) (w : World) (h1 : Facts w a1 xs) (h2 : Facts w a2 ys) (hx : xs.length < 1000) (hy : ys.length < 1000) :
    Calls Try.prog 50 #[.slice a1 xs.length c1, .slice a2 ys.length c2, .string key] w fun e w' => e = .returned (.bool (withinB xs ys key)) ∧ Below w.heap.size w w' := by
  have H1 := Lib.hid h1
  have H2 := Lib.hid h2
  have HX := Lib.hid hx
  have HY := Lib.hid hy
  clear h1 h2 hx hy
  have hfx := fun W v h => find_any a1 c1 xs key v W h (by have := HX.out; omega)
  have hfy := fun W v h => find_any a2 c2 ys key v W h (by have := HY.out; omega)
  have HFX := Lib.hid hfx
  have HFY := Lib.hid hfy
  clear hfx hfy
  go_enter Try.func50, Try.ntmps50
  go_wp2_with fail
  go_loopg [7] xs.length (fun gk iv wr => ∃ k : Nat, k + gk = xs.length ∧ iv = .int .i64 k ∧ Hid (∀ x ∈ xs.take k, (!(x.key.toList == key.toList) || okAt xs ys key x) = true) ∧ Below w.heap.size w wr)
  case atStart => exact ⟨0, by omega, rfl, Lib.hid (by simp), Below.refl _ _⟩
  case round =>
    obtain ⟨k, hk, rfl, HNO, hBi⟩ := hrel
    have HBI := Lib.hid hBi
    have hsi := hBi.size
    have hxb := HX.out
    clear hBi
    by_cases hlt : k < xs.length
    · obtain ⟨b, o, rfl, hlb, hcell⟩ := H1.out.get k hlt
      have hi0 : (0 : Int) ≤ (k : Int) := by omega
      have hi1 : (k : Int) < (xs.length : Int) := by omega
      have hbad : (!(xs[k].key.toList == key.toList) || okAt xs ys key xs[k]) = false → withinB xs ys key = false := by
        intro h
        unfold withinB
        rw [List.all_eq_false]
        exact ⟨xs[k], List.getElem_mem hlt, by simp [h]⟩
      have hno : (!(xs[k].key.toList == key.toList) || okAt xs ys key xs[k]) = true → ∀ x ∈ xs.take (k + 1), (!(x.key.toList == key.toList) || okAt xs ys key x) = true := by
        intro h x hx
        rw [List.take_succ_eq_append_getElem hlt] at hx
        rcases List.mem_append.1 hx with hx | hx
        · exact HNO.out x hx
        · rw [List.mem_singleton.1 hx]; exact h
      have hex := fun h => findF_ex (key := key) (List.getElem_mem hlt) h
      generalize xs[k] = x at *
      have e0 := (HBI.out.cell (p := ⟨b, _, none⟩) hlb).trans (hcell 0 _ rfl)
      have e1 := (HBI.out.cell (p := ⟨b, _, none⟩) hlb).trans (hcell 1 _ rfl)
      simp only [Nat.add_zero] at e0 e1
      have hlr : b < wr.heap.size := by omega
      have HBAD := Lib.hid hbad
      have HNN := Lib.hid hno
      clear hcell hbad hno
      by_cases g1 : x.key.toList = key.toList
      · have d1 : (x.key.toList == key.toList) = true := beq_iff_eq.2 g1
        obtain ⟨x', hx'⟩ := hex g1
        have hokx : ∀ o, findF key x.valid ys = o → okAt xs ys key x = match o with | some y => (x'.kind == y.kind) && (x'.val.toList == y.val.toList) | none => false := by
          intro o ho
          unfold okAt
          rw [hx', ho]
          cases o <;> rfl
        have hc1 := HFX.out wr x.valid (H1.out.ext HBI.out)
        unfold FindPost at hc1
        rw [hx'] at hc1
        simp only [fvO, Option.isSome_some] at hc1
        have HC1 := Lib.hid hc1
        have HOK := Lib.hid hokx
        clear g1 hx' hex hc1 hokx
        go_wp2_with fail
        refine (HC1.out).mono ?_
        rintro e u ⟨rfl, hbu⟩
        have HBU := Lib.hid (HBI.out.trans (hbu.mono hsi))
        have f1 := (hbu.cell (p := ⟨b, o + k * 6 + 1, none⟩) hlr).trans e1
        have hlu : b < u.heap.size := by have := hbu.size; omega
        have hsu : w.heap.size ≤ u.heap.size := by have := hbu.size; omega
        obtain ⟨U, hU⟩ : ∃ U : World, U = u.alloc (.cells (fc x').toArray 34) := ⟨_, rfl⟩
        have hBU : Below w.heap.size w U := by rw [hU]; exact HBU.out.alloc hsu _
        have hU0 : U.heap[u.heap.size]? = some (.cells (fc x').toArray 34 (0, 0)) := by rw [hU]; exact blk_new_at rfl _
        have hc2 := HFY.out U x.valid (H2.out.ext hBU)
        have hBUU := hBU.size
        have hltU := lt_of_blk hU0
        unfold FindPost at hc2
        rw [hU] at hc2
        simp only [fc] at hc2
        have HBUU := Lib.hid hBU
        have HU := Lib.hid hU
        have HU0 := Lib.hid hU0
        clear hbu e0 e1 hBU hU hU0
        cases hfo : findF key x.valid ys with
        | none =>
          rw [hfo] at hc2
          simp only [fvO, Option.isSome_none] at hc2
          have HW := Lib.hid (HBAD.out (by rw [d1, HOK.out none hfo]; rfl))
          have HC2 := Lib.hid hc2
          clear hfo hc2
          go_wp2_with fail
          refine (HC2.out).mono ?_
          rintro e u2 ⟨rfl, hbu2⟩
          have hU2 := HU.out
          simp only [fc] at hU2
          rw [← hU2] at hbu2
          have HB2 := Lib.hid (HBUU.out.trans (hbu2.mono hBUU))
          clear hbu2 hU2
          go_wp2
          go_ret
          exact ⟨by rw [HW.out]; rfl, HB2.out.alloc HB2.out.size _⟩
        | some y =>
          rw [hfo] at hc2
          simp only [fvO, Option.isSome_some] at hc2
          have hok := HOK.out (some y) hfo
          simp only at hok
          have HC2 := Lib.hid hc2
          clear hfo hc2
          go_wp2_with fail
          refine (HC2.out).mono ?_
          rintro e u2 ⟨rfl, hbu2⟩
          have hU2 := HU.out
          simp only [fc] at hU2
          rw [← hU2] at hbu2
          have HB2 := Lib.hid (HBUU.out.trans (hbu2.mono hBUU))
          have hx2 := blk_below HU0.out hbu2 hltU
          have q4 := cell_of_blk hx2 4
          have q5 := cell_of_blk hx2 5
          simp [fc] at q4 q5
          have hlu2 := lt_of_blk hx2
          clear hbu2 hU2 hx2
          by_cases k1 : x'.kind = y.kind
          · have z1 : (x'.kind == y.kind) = true := by simp [k1]
            have z1' : (x'.kind != y.kind) = false := by simp [k1]
            by_cases k2 : x'.val.toList = y.val.toList
            · have z2 : (x'.val.toList == y.val.toList) = true := beq_iff_eq.2 k2
              have HN := Lib.hid (HNN.out (by rw [hok, z1, z2]; simp))
              clear k1 k2 hok
              go_wp2
              go_roundg (gk - 1)
              case measure => omega
              case rel => exact ⟨k + 1, by omega, by go_num, HN, HB2.out.alloc HB2.out.size _⟩
            · have z2 : (x'.val.toList == y.val.toList) = false := beq_eq_false_iff_ne.2 k2
              have HW := Lib.hid (HBAD.out (by rw [d1, hok, z1, z2]; rfl))
              clear k1 k2 hok
              go_wp2
              go_ret
              exact ⟨by rw [HW.out]; rfl, HB2.out.alloc HB2.out.size _⟩
          · have z1 : (x'.kind == y.kind) = false := beq_eq_false_iff_ne.2 k1
            have z1' : (x'.kind != y.kind) = true := by simp [k1]
            have HW := Lib.hid (HBAD.out (by rw [d1, hok, z1]; rfl))
            clear k1 hok
            go_wp2
            go_ret
            exact ⟨by rw [HW.out]; rfl, HB2.out.alloc HB2.out.size _⟩
      · have d1 : (x.key.toList == key.toList) = false := beq_eq_false_iff_ne.2 g1
        have HN := Lib.hid (HNN.out (by rw [d1]; rfl))
        clear g1 hex
        go_wp2
        go_roundg (gk - 1)
        case measure => omega
        case rel => exact ⟨k + 1, by omega, by go_num, HN, HBI.out⟩
    · have hke : k = xs.length := by omega
      subst hke
      have hf : withinB xs ys key = true := by
        unfold withinB
        rw [List.all_eq_true]
        have := HNO.out
        rwa [List.take_length] at this
      have HF := Lib.hid hf
      clear hf
      go_wp2
      go_ret
      exact ⟨by rw [HF.out]; rfl, HBI.out⟩

set_option maxHeartbeats 1000000 in
theorem same_any (a1 a2 : Option Addr) (c1 c2 : Nat) (xs ys : List Fc) (key : ByteArray) (w : World) (h1 : Facts w a1 xs) (h2 : Facts w a2 ys) (hx : xs.length < 1000) (hy : ys.length < 1000) :
    Calls Try.prog 35 #[.slice a1 xs.length c1, .slice a2 ys.length c2, .string key] w fun e w' => e = .returned (.bool (sameK xs ys key.toList)) ∧ Below w.heap.size w w' := by
  rw [← same_within]
  have H1 := Lib.hid h1
  have H2 := Lib.hid h2
  have hc1 := within_any a1 a2 c1 c2 xs ys key w h1 h2 hx hy
  have hc2 := fun W h1 h2 => within_any a2 a1 c2 c1 ys xs key W h2 h1 hy hx
  have HC2 := Lib.hid hc2
  clear h1 h2 hx hy hc2
  cases hb : withinB xs ys key with
  | false =>
    rw [hb] at hc1
    have HC1 := Lib.hid hc1
    clear hb hc1
    go_enter Try.func35, Try.ntmps35
    go_wp2_with fail
    refine (HC1.out).mono ?_
    rintro e u ⟨rfl, hbu⟩
    have HBU := Lib.hid hbu
    clear hbu
    go_wp2
    go_ret
    exact ⟨rfl, HBU.out⟩
  | true =>
    rw [hb] at hc1
    have HC1 := Lib.hid hc1
    clear hb hc1
    rw [Bool.true_and]
    generalize withinB ys xs key = q at *
    go_enter Try.func35, Try.ntmps35
    go_wp2_with fail
    refine (HC1.out).mono ?_
    rintro e u ⟨rfl, hbu⟩
    have HBU := Lib.hid hbu
    clear hbu
    go_wp2_with fail
    refine (HC2.out u (H1.out.ext HBU.out) (H2.out.ext HBU.out)).mono ?_
    rintro e u2 ⟨rfl, hbu2⟩
    have HBU2 := Lib.hid (HBU.out.trans (hbu2.mono HBU.out.size))
    clear hbu2
    go_wp2
    go_ret
    exact ⟨rfl, HBU2.out⟩
end Go.Proofs.Ytenocakpipppiaa
