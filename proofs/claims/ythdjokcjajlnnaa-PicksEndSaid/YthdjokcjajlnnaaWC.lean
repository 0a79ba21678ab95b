import Derived.Test.YthdjokcjajlnnaaWB
namespace Go.Proofs.Ythdjokcjajlnnaa
open Go.RowKit Go.Herb Go.Fl

def lvAt (l0 l1 l2 : Lv) (i : Nat) : Lv := if i = 0 then l0 else if i = 1 then l1 else l2

theorem dirtyAt_of_take (ds : List Int) (ts : List T) (k : Nat) (h : dirtyAt ds (ts.take k) = k) (h0 : 0 < k) : dirtyAt ds ts = k := by
  have key : ∀ (b a : List T), dirtyAt ds a ≠ 0 → dirtyAt ds (a ++ b) = dirtyAt ds a := by
    intro b
    induction b with
    | nil => intro a _; simp
    | cons x b ih =>
      intro a ha
      have := dirtyAt_snoc ds a x
      rw [if_neg ha] at this
      rw [show a ++ x :: b = (a ++ [x]) ++ b from by simp, ih _ (by rw [this]; exact ha), this]
  have := key (ts.drop k) (ts.take k) (by omega)
  rw [List.take_append_drop] at this
  rw [this, h]

theorem dirtyP_at (ds : List Int) (l0 l1 l2 : Lv) (i k : Nat) (x : T) (hi : i < 3) (hno : ∀ j, j < i → dirtyAt ds (lvAt l0 l1 l2 j).ts = 0) (hd : dirtyAt ds (lvAt l0 l1 l2 i).ts = k + 1) (hx : (lvAt l0 l1 l2 i).ts[k]? = some x) :
    dirtyP ds l0.ts l1.ts l2.ts = ⟨i, i, [x], [], true⟩ := by
  have hdr : ((lvAt l0 l1 l2 i).ts.drop k).take 1 = [x] := by
    obtain ⟨h1, h2⟩ := List.getElem?_eq_some_iff.1 hx
    rw [List.drop_eq_getElem_cons h1, h2]; rfl
  match i, hi with
  | 0, _ => simp only [lvAt, if_true] at hd hdr; simp [dirtyP, hd, hdr]
  | 1, _ =>
    have := hno 0 (by omega)
    simp [lvAt] at hd hdr this
    simp [dirtyP, hd, hdr, this]
  | 2, _ =>
    have h0 := hno 0 (by omega)
    have h1 := hno 1 (by omega)
    simp [lvAt] at hd hdr h0 h1
    simp [dirtyP, hd, hdr, h0, h1]

set_option maxRecDepth 100000 in
set_option maxHeartbeats 1000000 in
theorem rof_dirty (line : Int) (l0 l1 l2 : Lv) (ad : Option Addr) (cd : Nat) (ds : List Int) (w : World) (h0 : LvOk w l0) (h1 : LvOk w l1) (h2 : LvOk w l2) (hd : U64s w ad ds) (hdl : ds.length < 1000000) (hn : ¬ 2 < l0.ts.length) (h8 : ¬ 8192 < bytesL l1.ts) :
    Calls Try.prog 9 #[.agg #[.int .u64 line, sv l0, sv l1, sv l2], .slice ad ds.length cd] w (Planned (ofP ds l0.ts l1.ts l2.ts) w) := by
  have hp : ofP ds l0.ts l1.ts l2.ts = dirtyP ds l0.ts l1.ts l2.ts := by simp [ofP, hn, h8]
  have HP := Lib.hid hp
  clear hp
  have H0 := Lib.hid h0
  have HD := Lib.hid hd
  have H1 := Lib.hid h1
  have H2 := Lib.hid h2
  have hbl := bytesL_le l1.ts h1.wf
  have hbl1 : bytesL l1.ts ≤ 1000 * 4294967296 := Nat.le_trans hbl (Nat.mul_le_mul_right _ h1.len)
  clear h0 h1 h2 hbl hd
  have hnb : decide ((2 : Int) < (l0.ts.length : Int)) = false := by simp; omega
  obtain ⟨i0, hi, hz0, hz1, hz2⟩ := info_parts Try.info45
  go_enter Try.func9, Try.ntmps9
  go_wp2_with fail
  obtain ⟨W, hW⟩ : ∃ W : World, W = (w.alloc (Obj.cells #[.int .u64 line, sv l0, sv l1, sv l2] 26)).alloc (Obj.cells #[.int .i64 0, .int .i64 0, .slice none 0 0, .slice none 0 0] 36) := ⟨_, rfl⟩
  have hB0 : Below w.heap.size w W := by rw [hW]; go_grown
  have hz : W.heap.size = w.heap.size + 2 := by rw [hW]; simp
  have p1 : W.heap[w.heap.size]? = some (.cells #[.int .u64 line, sv l0, sv l1, sv l2] 26 (0, 0)) := by rw [hW]; exact blk_alloc (blk_new_at (by simp) _)
  have p2 : W.heap[w.heap.size + 1]? = some (.cells #[.int .i64 0, .int .i64 0, .slice none 0 0, .slice none 0 0] 36 (0, 0)) := by rw [hW]; exact blk_new_at (by simp) _
  rw [← hW]
  obtain ⟨-, c1, c2, c3, -⟩ := blk_cells4 p1
  obtain ⟨d0, d1, d2, d3, f0, f1, f2, f3⟩ := blk_cells4 p2
  have hsz : w.heap.size + 1 < W.heap.size := by omega
  have hsz0 : w.heap.size < W.heap.size := by omega
  have HZ := Lib.hid hz
  have P2 := Lib.hid p2
  have P1 := Lib.hid p1
  clear hW hz p1 p2
  refine wp_loop_rounds 2 ?_
  rw [rounds_succ]
  go_wp2_with fail
  refine (rbytes_any l1 W (H1.out.ext hB0)).mono ?_
  rintro e w' ⟨rfl, rfl⟩
  have h8b : decide ((8192 : Int) < (bytesL l1.ts : Int)) = false := by simp; omega
  clear h8
  go_wp2_with fail
  rw [rounds_succ]
  go_wp2_with fail
  have hlv : ∀ i, i < 3 → W.cell? ⟨w.heap.size, 1 + i, none⟩ = some (sv (lvAt l0 l1 l2 i)) := by
    intro i hi3
    match i, hi3 with
    | 0, _ => exact c1
    | 1, _ => exact c2
    | 2, _ => exact c3
  have hok : ∀ i, LvOk W (lvAt l0 l1 l2 i) := by
    intro i
    unfold lvAt
    split
    · exact H0.out.ext hB0
    · split
      · exact H1.out.ext hB0
      · exact H2.out.ext hB0
  have HLV := Lib.hid hlv
  have HOK := Lib.hid hok
  have HDW := Lib.hid (HD.out.ext hB0)
  clear hlv hok c1 c2 c3 h8b hbl1 d0 d1 d2 d3 f0 f1 f2 f3
  go_loopg [9] 3 (fun gk iv wr => ∃ i : Nat, i + gk = 3 ∧ iv = .int .i64 i ∧ Below W.heap.size W wr ∧ ∀ j, j < i → dirtyAt ds (lvAt l0 l1 l2 j).ts = 0)
  case atStart => exact ⟨0, by omega, rfl, Below.refl _ _, fun j hj => by omega⟩
  case round =>
    obtain ⟨i, hi3, rfl, hBr, hno⟩ := hrel
    have HNO := Lib.hid hno
    clear hno
    by_cases hlt : i < 3
    · have cc := (hBr.cell (p := ⟨w.heap.size, 1 + i, none⟩) hsz0).trans (HLV.out i hlt)
      have hokr := (HOK.out i).ext hBr
      obtain ⟨L, hL⟩ : ∃ L, L = lvAt l0 l1 l2 i := ⟨_, rfl⟩
      rw [← hL] at cc hokr
      obtain ⟨la, lc, lts⟩ := L
      simp only [sv] at cc
      have HL := Lib.hid hL
      have hll := hokr.len
      simp only at hll
      have HOR := Lib.hid hokr
      have HBR := Lib.hid hBr
      have hBz := hBr.size
      obtain ⟨wo, rfl⟩ : ∃ wo : World, wo = wr := ⟨_, rfl⟩
      obtain ⟨gi, rfl⟩ : ∃ gi : Nat, gi = gk := ⟨_, rfl⟩
      clear hL hokr hBr
      go_wp2_with fail
      go_loopg [10] lts.length (fun gk kv wr => ∃ k : Nat, k + gk = lts.length ∧ kv = .int .i64 k ∧ Below wo.heap.size wo wr ∧ dirtyAt ds (lts.take k) = 0)
      case atStart => exact ⟨0, by omega, rfl, Below.refl _ _, rfl⟩
      case round =>
        obtain ⟨k, hk3, rfl, hBk, hnk⟩ := hrel
        have HNK := Lib.hid hnk
        have ck := (hBk.cell (p := ⟨w.heap.size, 1 + i, none⟩) (by show w.heap.size < _; omega)).trans cc
        have hBkz := hBk.size
        have HBK := Lib.hid hBk
        obtain ⟨wp, rfl⟩ : ∃ wp : World, wp = wr := ⟨_, rfl⟩
        obtain ⟨gq, rfl⟩ : ∃ gq : Nat, gq = gk := ⟨_, rfl⟩
        clear hnk hBk cc
        by_cases hkl : k < lts.length
        · obtain ⟨b, o, rfl, hb, hc⟩ := HOR.out.tabs.get k hkl
          have e0 := (HBK.out.cell (p := ⟨b, _, none⟩) hb).trans (hc 0 _ rfl)
          have e1 := (HBK.out.cell (p := ⟨b, _, none⟩) hb).trans (hc 1 _ rfl)
          have e2 := (HBK.out.cell (p := ⟨b, _, none⟩) hb).trans (hc 2 _ rfl)
          have e3 := (HBK.out.cell (p := ⟨b, _, none⟩) hb).trans (hc 3 _ rfl)
          simp only [Nat.add_zero] at e0 e1 e2 e3
          have hwf := HOR.out.wf _ (List.getElem_mem hkl)
          have hsn := dirtyAt_snoc ds (lts.take k) lts[k]
          rw [← List.take_succ_eq_append_getElem hkl, HNK.out, if_pos rfl, List.length_take, Nat.min_eq_left (by omega)] at hsn
          have hgx : lts[k]? = some lts[k] := List.getElem?_eq_getElem hkl
          generalize lts[k] = x at *
          have HSN := Lib.hid hsn
          have HWF := Lib.hid hwf
          have HGX := Lib.hid hgx
          clear hsn hwf hc hgx
          go_wp2_with fail
          go_loopg [11] ds.length (fun gk mv wr => ∃ m : Nat, m + gk = ds.length ∧ mv = .int .i64 m ∧ Below wp.heap.size wp wr ∧ x.file ∉ ds.take m)
          case atStart => exact ⟨0, by omega, rfl, Below.refl _ _, by simp⟩
          case round =>
            obtain ⟨m, hm3, rfl, hBm, hnm⟩ := hrel
            have HNM := Lib.hid hnm
            have hBmz := hBm.size
            have cm := (hBm.cell (p := ⟨w.heap.size, 1 + i, none⟩) (by show w.heap.size < _; omega)).trans ck
            have g0 := (hBm.cell (p := ⟨b, o + k * 4, none⟩) (by show b < _; omega)).trans e0
            have g1 := (hBm.cell (p := ⟨b, o + k * 4 + 1, none⟩) (by show b < _; omega)).trans e1
            have g2 := (hBm.cell (p := ⟨b, o + k * 4 + 2, none⟩) (by show b < _; omega)).trans e2
            have g3 := (hBm.cell (p := ⟨b, o + k * 4 + 3, none⟩) (by show b < _; omega)).trans e3
            have HBM := Lib.hid hBm
            clear hnm hBm ck e0 e1 e2 e3
            by_cases hml : m < ds.length
            · obtain ⟨bd, od, rfl, hbd, hcd⟩ := HDW.out.get m hml
              have hBWm : Below W.heap.size W wr := HBR.out.trans ((HBK.out.mono (by omega)).trans (HBM.out.mono (by omega)))
              have cd0 := (hBWm.cell (p := ⟨bd, _, none⟩) hbd).trans (hcd 0 _ rfl)
              simp only [Nat.add_zero, Nat.mul_one] at cd0
              have hsm : ds.take (m + 1) = ds.take m ++ [ds[m]] := by rw [List.take_succ_eq_append_getElem hml]
              have hmem : ds[m] ∈ ds := List.getElem_mem hml
              generalize ds[m] = y at *
              have HSM := Lib.hid hsm
              have HMEM := Lib.hid hmem
              have HBWm := Lib.hid hBWm
              clear hsm hmem hcd hBWm
              by_cases hyx : y = x.file
              · have hq : (y == x.file) = true := by simp [hyx]
                have HYX := Lib.hid hyx
                clear hyx
                go_wp2_with fail
                go_quiet (fail)
                obtain ⟨V, hV⟩ : ∃ V : World, V = wr.drewN nq := ⟨_, rfl⟩
                have hBV : Below wr.heap.size wr V := by rw [hV]; exact ⟨rfl, rfl, rfl, Nat.le_refl _, fun _ _ => rfl⟩
                have hBWV := HBWm.out.trans (hBV.mono (by have := HBWm.out.size; omega))
                have v0 := (hBV.cell (p := ⟨b, o + k * 4, none⟩) (by show b < _; omega)).trans g0
                have v1 := (hBV.cell (p := ⟨b, o + k * 4 + 1, none⟩) (by show b < _; omega)).trans g1
                have v2 := (hBV.cell (p := ⟨b, o + k * 4 + 2, none⟩) (by show b < _; omega)).trans g2
                have v3 := (hBV.cell (p := ⟨b, o + k * 4 + 3, none⟩) (by show b < _; omega)).trans g3
                have vm := (hBV.cell (p := ⟨w.heap.size, 1 + i, none⟩) (by show w.heap.size < _; omega)).trans cm
                obtain ⟨d0, d1, d2, d3, f0, f1, f2, f3⟩ := blk_cells4 (blk_below P2.out hBWV hsz)
                have hVz := hBWV.size
                rw [← hV]
                have HBWV := Lib.hid hBWV
                have hwV : w.heap.size + 1 < V.heap.size := by omega
                clear hV hBV g0 g1 g2 g3 cm cd0 hq hBWV
                go_wp2_with ((at_builtin; refine wpList_append_own _ rfl (.const (.slice none 0 0)) (.tmp 103) 23 rfl V.heap.size 45 i0 _ 4 48 Try.underlying23 hi hz0 hz1 hz2 rfl (by decide) _ _ _ rfl (World.ownsRow_nil _ _ _ _) ⟨V.heap.size, 0, none⟩ 1 1 (tc x) rfl rfl ?c1 ?c2 ?c3 ?c4 ?c5 ?_))
                case c1 => exact news_cells V (tc x) 45
                case c2 => exact tc_one x
                case c3 => unfold maxLen; omega
                case c4 => omega
                case c5 => simp
                intro v' w2 hO2 hg _
                have hB2 : Below V.heap.size V w2 := ((Below.refl _ _).alloc (Nat.le_refl _) _).grown hg (by simp) (fun k hk => by cases hk)
                have hO2' : w2.ownsRow V.heap.size 45 4 v' [x].length ([x].flatMap tc) := by simpa using hO2
                obtain ⟨li, rfl, hti, -⟩ := lvOk_of_owns hO2' (by simp) (by simpa using HWF.out)
                clear d0 d1 d2 d3 f0 f1 f2 f3 v0 v1 v2 v3 vm
                obtain ⟨d0, d1, d2, d3, f0, f1, f2, f3⟩ := blk_cells4 (blk_below (blk_below P2.out HBWV.out hsz) hB2 hwV)
                have hBw2 : Below w.heap.size w w2 := hB0.trans ((HBWV.out.mono (by omega)).trans (hB2.mono (by omega)))
                have HO2 := Lib.hid hO2'
                clear hO2 hO2' hti hg hB2
                go_wp2
                refine bodyPost_ret (v := .tuple #[.agg #[.int .i64 i, .int .i64 i, sv li, .slice none 0 0], .bool true]) (by simp [results, Try.results9, go_sem, *]) rfl ?_
                have hD : dirtyAt ds lts = k + 1 := by
                  have h1 := HSN.out
                  rw [if_pos (by rw [← HYX.out]; exact HMEM.out)] at h1
                  exact dirtyAt_of_take ds lts (k + 1) h1 (by omega)
                have hPP : dirtyP ds l0.ts l1.ts l2.ts = ⟨i, i, [x], [], true⟩ := dirtyP_at ds l0 l1 l2 i k x hlt (fun j hj => HNO.out j hj) (by rw [← HL.out]; exact hD) (by rw [← HL.out]; exact HGX.out)
                obtain ⟨li', e1, ht1, hL1⟩ := lvOk_of_owns (ownsRow_set4 HO2.out (b := w.heap.size + 1) (by omega) (.int .i64 i) (.int .i64 i) (sv li) (.slice none 0 0)) (by simp) (by simpa using HWF.out)
                refine ⟨li', ⟨none, 0, []⟩, ?_, ?_, ?_, hL1, nil_ok _, by go_grown⟩
                · rw [HP.out, hPP, e1]; rfl
                · rw [HP.out, hPP]; exact ht1
                · rw [HP.out, hPP]
              · have hq : (y == x.file) = false := by simp [hyx]
                have HYX := Lib.hid hyx
                clear hyx
                go_wp2_with fail
                go_quiet (fail)
                go_wp2
                go_roundg (gk - 1)
                case measure => omega
                case rel => exact ⟨m + 1, by omega, by go_num, HBM.out.trans ⟨rfl, rfl, rfl, Nat.le_refl _, fun _ _ => rfl⟩, by rw [HSM.out]; simp only [List.mem_append, List.mem_singleton, not_or]; exact ⟨HNM.out, fun h => HYX.out h.symm⟩⟩
            · have hme : m = ds.length := by omega
              go_wp2
              go_roundg (gq - 1)
              case measure => omega
              case rel =>
                refine ⟨k + 1, by omega, by go_num, HBK.out.trans (HBM.out.mono (by omega)), ?_⟩
                have h1 := HNM.out
                rw [List.take_of_length_le (by omega)] at h1
                rw [HSN.out, if_neg h1]
        · go_wp2
          go_roundg (gi - 1)
          case measure => omega
          case rel =>
            refine ⟨i + 1, by omega, by go_num, HBR.out.trans (HBK.out.mono (by omega)), ?_⟩
            intro j hj
            by_cases hji : j < i
            · exact HNO.out j hji
            · have : j = i := by omega
              subst this
              rw [← HL.out]
              have h1 := HNK.out
              rw [List.take_of_length_le (by omega)] at h1
              exact h1
    · have hie : i = 3 := by omega
      obtain ⟨d0, d1, d2, d3, f0, f1, f2, f3⟩ := blk_cells4 (blk_below P2.out hBr hsz)
      have HBR := Lib.hid hBr
      have hBz := hBr.size
      have hPP : dirtyP ds l0.ts l1.ts l2.ts = ⟨0, 0, [], [], false⟩ := by
        have h0 := HNO.out 0 (by omega)
        have h1 := HNO.out 1 (by omega)
        have h2 := HNO.out 2 (by omega)
        simp [lvAt] at h0 h1 h2
        simp [dirtyP, h0, h1, h2]
      have HPP := Lib.hid hPP
      clear hBr hPP hie
      go_wp2
      refine bodyPost_ret (v := .tuple #[.agg #[.int .i64 0, .int .i64 0, .slice none 0 0, .slice none 0 0], .bool false]) (by simp [results, Try.results9, go_sem, *]) rfl ?_
      have hBB := hB0.trans (HBR.out.mono (by omega))
      refine ⟨⟨none, 0, []⟩, ⟨none, 0, []⟩, ?_, ?_, ?_, nil_ok _, nil_ok _, by go_grown⟩
      · rw [HP.out, HPP.out]; rfl
      · rw [HP.out, HPP.out]
      · rw [HP.out, HPP.out]

theorem rof_any (line : Int) (l0 l1 l2 : Lv) (ad : Option Addr) (cd : Nat) (ds : List Int) (w : World) (h0 : LvOk w l0) (h1 : LvOk w l1) (h2 : LvOk w l2) (hd : U64s w ad ds) (hdl : ds.length < 1000000) :
    Calls Try.prog 9 #[.agg #[.int .u64 line, sv l0, sv l1, sv l2], .slice ad ds.length cd] w (Planned (ofP ds l0.ts l1.ts l2.ts) w) := by
  by_cases hn : 2 < l0.ts.length
  · exact rof_wide line l0 l1 l2 ad cd ds w h0 h1 hn
  · by_cases h8 : 8192 < bytesL l1.ts
    · exact rof_bytes line l0 l1 l2 ad cd ds w h1 h2 hn h8
    · exact rof_dirty line l0 l1 l2 ad cd ds w h0 h1 h2 hd hdl hn h8
end Go.Proofs.Ythdjokcjajlnnaa
