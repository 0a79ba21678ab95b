/- KeepsNeeded's walk. No condition. -/
import Derived.Test.YticcccciefaemaaQN
import Derived.Test.YticcccciefaemaaQK
namespace Go.Proofs.Yticcccciefaemaa
open Go.RowKit Go.Shelf Go.Herb

set_option maxRecDepth 100000 in
set_option maxHeartbeats 4000000 in
theorem keepsNeeded_any (al : Option Addr) (cl : Nat) (xs : List Fc) (aw : Option Addr) (cw : Nat) (ws : List Wt) (w : World) (hL : SlIn fc 6 w al cl xs) (hW : SlIn wc 3 w aw cw ws) (hWs : ∀ y ∈ ws, SlIn lc 2 w y.a y.c y.cs) :
    Calls Try.prog (5) #[.slice al xs.length cl, .slice aw ws.length cw] w fun e w' => e = .returned (.bool true) ∧ Below w.heap.size w w' := by
  have HXL := Lib.hid hL.lenle
  have HWL := Lib.hid hW.lenle
  have HCS := Lib.hid (show ∀ y ∈ ws, y.cs.length ≤ maxLen from fun y hy => (hWs y hy).lenle)
  have HWE := Lib.hid hW.els
  have HL := Lib.hid hL.els
  cases hg : greatB xs.length ws with
  | true =>
    have HG := Lib.hid hg
    clear hg hL hW hWs
    go_enter Try.func5, Try.ntmps5
    go_wp2_with fail
    refine (greatK_any al xs.length cl aw cw ws _ HXL.out HWL.out HWE.out HCS.out).mono ?_
    rintro e w1 ⟨rfl, rfl⟩
    rw [HG.out]
    go_wp2_with fail
    refine (livesK_any _).mono ?_
    rintro e w2 ⟨rfl, hb⟩
    have HB := Lib.hid hb
    clear hb
    go_wp2
    go_ret
    exact ⟨rfl, HB.out⟩
  | false =>
    have hxl : xs.length ≤ 80 := by
      unfold greatB at hg
      simp at hg
      omega
    have hwl : ws.length ≤ 30 := by
      unfold greatB at hg
      simp at hg
      omega
    have hwc : ∀ y ∈ ws, y.cs.length < 1000000 := by
      intro y hy
      unfold greatB at hg
      simp at hg
      have := hg.2.1 y hy
      omega
    have HW := Lib.hid (⟨hW.els, fun y hy => (hWs y hy).els, hwc⟩ : Watches w aw ws)
    have HG := Lib.hid hg
    clear hg hL hW hWs hwc
    go_enter Try.func5, Try.ntmps5
    go_wp2_with fail
    refine (greatK_any al xs.length cl aw cw ws _ HXL.out HWL.out HWE.out HCS.out).mono ?_
    rintro e w1 ⟨rfl, rfl⟩
    rw [HG.out]
    go_wp2_with fail
    refine (alike_post al cl xs _ HL.out (by omega)).mono ?_
    rintro e w1 ⟨b, n, rfl, hna, rfl⟩
    cases b with
    | true =>
      clear hna
      go_wp2_with fail
      refine (livesK_any _).mono ?_
      rintro e w2 ⟨rfl, hb⟩
      have HB := Lib.hid ((below_drewN (Below.refl _ _) n).trans hb)
      clear hb
      go_wp2
      go_ret
      exact ⟨rfl, HB.out⟩
    | false =>
      have HNA := Lib.hid (hna rfl)
      clear hna
      have hb1 : Below w.heap.size w (w.drewN n) := below_drewN (Below.refl _ _) n
      have HL1 := Lib.hid (HL.out.ext hb1)
      have HW1 := Lib.hid (HW.out.ext hb1)
      have HB1 := Lib.hid hb1
      clear hb1
      go_wp2_with fail
      refine (keep_any al cl xs aw cw ws _ HL1.out HW1.out (by omega) (by omega)).mono ?_
      rintro e wk ⟨ay, ys, rfl, ⟨f, hf, hys⟩, hF, -, hyl, hbk⟩
      have HLk := Lib.hid (HL1.out.ext hbk)
      have HWk := Lib.hid (HW1.out.ext hbk)
      have HBk := Lib.hid (HB1.out.trans (hbk.mono HB1.out.size))
      have HFk := Lib.hid hF
      have HYS := Lib.hid hys
      have HF := Lib.hid hf
      clear HL HW HL1 HW1 HB1 hbk hF hys hf HWE HCS HXL HWL HG
      go_wp2_with fail
      go_loopg [6, 7] xs.length (fun gk av iv wr => ∃ i m : Nat, i + gk = xs.length ∧ m = (keptL xs f i).length ∧ av = .int .i64 m ∧ iv = .int .i64 i ∧ Below wk.heap.size wk wr)
      case atStart => exact ⟨0, 0, by omega, rfl, rfl, rfl, Below.refl _ _⟩
      case round =>
        obtain ⟨i, m, hi, hm, rfl, rfl, hbr⟩ := hrel
        have HM := Lib.hid hm
        clear hm
        by_cases hlt : i < xs.length
        · obtain ⟨g1, rfl⟩ : ∃ g : Nat, g = gk := ⟨_, rfl⟩
          obtain ⟨x, hx⟩ : ∃ x, x = xs[i] := ⟨_, rfl⟩
          have hnx := kept_next HNA.out f i hlt
          rw [← HM.out, ← HYS.out, ← hx] at hnx
          have hsz : f i = true ↔ ∃ y ∈ ws, SeesP xs y x := by rw [hx]; exact (HF.out i hlt).trans (kept_sees HNA.out ws i hlt)
          have HSZ := Lib.hid hsz
          have hLr := HLk.out.ext hbr
          have hFr := HFk.out.ext hbr
          obtain ⟨xb, xo, rfl, hxb, hcx⟩ := hLr.get i hlt
          rw [← hx] at hcx
          have e0 := hcx 0 _ rfl
          have e1 := hcx 1 _ rfl
          have e2 := hcx 2 _ rfl
          have e3 := hcx 3 _ rfl
          have e4 := hcx 4 _ rfl
          have e5 := hcx 5 _ rfl
          simp only [Nat.add_zero] at e0 e1 e2 e3 e4 e5
          have hi0 : (0 : Int) ≤ (i : Int) := by omega
          have hi1 : (i : Int) < (xs.length : Int) := by omega
          have hm0 : (0 : Int) ≤ (m : Int) := by omega
          have HX := Lib.hid hx
          have HNX := Lib.hid hnx
          have HFR := Lib.hid hFr
          have HBR := Lib.hid hbr
          have HCX := Lib.hid hcx
          have HLR := Lib.hid hLr
          clear hx hnx hsz hFr hbr hLr hcx
          go_upto_region 8 with (fail)
          go_cut [8] (fun v wx => v = .bool (f i) ∧ ∃ n : Nat, wx = wr.drewN n)
          case first =>
            by_cases hml : m < ys.length
            · obtain ⟨yb, yo, rfl, hyb, hcy⟩ := HFR.out.get m hml
              have hy2 := List.getElem?_eq_getElem hml
              obtain ⟨y, hy⟩ : ∃ y, y = ys[m] := ⟨_, rfl⟩
              rw [← hy] at hcy hy2
              have hsf : sameF y x = f i := by
                cases hfi : f i with
                | true =>
                  have := HNX.out.1 hfi
                  rw [hy2] at this
                  injection this with this
                  exact sameF_iff.2 this
                | false =>
                  have := HNX.out.2 hfi
                  rw [hy2] at this
                  cases hs : sameF y x with
                  | false => rfl
                  | true => exact absurd (by rw [sameF_iff.1 hs]) this
              have f0 := hcy 0 _ rfl
              have f1 := hcy 1 _ rfl
              have f2 := hcy 2 _ rfl
              have f3 := hcy 3 _ rfl
              have f4 := hcy 4 _ rfl
              have f5 := hcy 5 _ rfl
              simp only [Nat.add_zero] at f0 f1 f2 f3 f4 f5
              have hm1 : (m : Int) < (ys.length : Int) := by omega
              have heq := run_eqlF y x
              have hgt := guardF
              rw [hsf] at heq
              clear hcy hy2 hy hsf
              go_quiet (fail)
              go_wp2
              go_meet
              exact ⟨rfl, _, rfl⟩
            · have hfi : f i = false := by
                cases hfi : f i with
                | false => rfl
                | true =>
                  have := HNX.out.1 hfi
                  rw [List.getElem?_eq_none (by omega)] at this
                  cases this
              have HFI := Lib.hid hfi
              have hm1 : ¬ (m : Int) < (ys.length : Int) := by omega
              have hm2 : decide ((m : Int) < (ys.length : Int)) = false := decide_eq_false hm1
              clear hfi
              go_quiet (fail)
              go_wp2
              go_meet
              exact ⟨by rw [HFI.out], _, rfl⟩
          case rest =>
          obtain ⟨hv, q, hwx⟩ := hcut
          have hb1 : Below wk.heap.size wk wc := by rw [hwx]; exact below_drewN HBR.out q
          obtain ⟨W0, hW0⟩ : ∃ W0, W0 = wc := ⟨_, rfl⟩
          rw [← hW0] at hb1
          rw [← hW0]
          have HB1 := Lib.hid hb1
          have hsucc := keptL_succ xs f i hlt
          have hmi : m ≤ i := by rw [HM.out]; exact keptL_len _ _ _
          clear hwx
          cases hfi : f i with
          | true =>
            rw [hfi] at hv hsucc
            subst hv
            have HLEN := Lib.hid (show (m : Int) + 1 = ((keptL xs f (i + 1)).length : Int) by rw [hsucc, HM.out]; simp)
            have HSZ2 := Lib.hid (show ∃ y ∈ ws, SeesP xs y x from HSZ.out.1 hfi)
            clear hb1 hsucc hfi e0 e1 e2 e3 e4 e5 hW0 HBR HLR HFR HCX HNX HSZ
            go_wp2_with fail
            go_loopg [9, 10] ws.length (fun gk sv jv wr => ∃ (j : Nat) (s : Bool), j + gk = ws.length ∧ jv = .int .i64 j ∧ sv = .bool s ∧ (s = true ↔ ∃ y ∈ ws.take j, SeesP xs y x) ∧ Below W0.heap.size W0 wr)
            case atStart => exact ⟨0, false, by omega, rfl, rfl, by simp, Below.refl _ _⟩
            case round =>
              obtain ⟨j, s, hj, rfl, rfl, hs, hbj⟩ := hrel
              have HS := Lib.hid hs
              clear hs
              by_cases hjl : j < ws.length
              · have hnext : ∀ s2 : Bool, (s2 = true ↔ s = true ∨ SeesP xs ws[j] x) → (s2 = true ↔ ∃ y ∈ ws.take (j + 1), SeesP xs y x) := by
                  intro s2 h
                  rw [h, HS.out, ← List.take_append_getElem hjl]
                  constructor
                  · rintro (⟨y, h1, h2⟩ | h1)
                    · exact ⟨y, List.mem_append_left _ h1, h2⟩
                    · exact ⟨_, List.mem_append_right _ (List.mem_singleton.2 rfl), h1⟩
                  · rintro ⟨y, h1, h2⟩
                    rcases List.mem_append.1 h1 with h1 | h1
                    · exact .inl ⟨y, h1, h2⟩
                    · rw [List.mem_singleton.1 h1] at h2
                      exact .inr h2
                have HNEXT := Lib.hid hnext
                clear hnext
                cases s with
                | true =>
                  have HBJ := Lib.hid hbj
                  clear hbj
                  go_wp2_with fail
                  go_quiet (fail)
                  go_wp2
                  go_roundg (gk - 1)
                  case measure => omega
                  case rel => exact ⟨j + 1, true, by omega, by go_num, rfl, HNEXT.out true (by simp), below_drewN HBJ.out _⟩
                | false =>
                  have hWj := HWk.out.ext (HB1.out.trans (hbj.mono HB1.out.size))
                  obtain ⟨yb, yo, rfl, hyb, hcy⟩ := hWj.els.get j hjl
                  obtain ⟨y, hy⟩ : ∃ y, y = ws[j] := ⟨_, rfl⟩
                  have hym : y ∈ ws := by rw [hy]; exact List.getElem_mem _
                  rw [← hy] at hcy
                  have f0 := hcy 0 _ rfl
                  have f1 := hcy 1 _ rfl
                  have f2 := hcy 2 _ rfl
                  obtain ⟨xb', xo', hxa, hxb', hcx⟩ := (HLk.out.ext (HB1.out.trans (hbj.mono HB1.out.size))).get i hlt
                  injection hxa with hxa
                  injection hxa with hxa1 hxa2
                  subst hxa1 hxa2
                  rw [← HX.out] at hcx
                  have e0 := hcx 0 _ rfl
                  have e1 := hcx 1 _ rfl
                  have e2 := hcx 2 _ rfl
                  have e3 := hcx 3 _ rfl
                  have e4 := hcx 4 _ rfl
                  have e5 := hcx 5 _ rfl
                  simp only [Nat.add_zero] at f0 f1 f2 e0 e1 e2 e3 e4 e5
                  have hall : ∀ u : World, Below wr.heap.size wr u → Calls Try.prog (13) #[.agg #[.slice y.a y.cs.length y.c, .int .u64 y.at_, .bool y.on], .agg #[.string x.key, .int .u32 x.valid, .int .u64 x.seq, .int .u64 x.line, .int .u8 x.kind, .string x.val], .slice (some ⟨xb, xo, none⟩) xs.length cl] u (SeesPost xs y x u) := fun u hu => by
                    have hbu := HB1.out.trans ((hbj.trans (hu.mono hbj.size)).mono HB1.out.size)
                    exact sees_post y x (some ⟨xb, xo, none⟩) cl xs u (HLk.out.ext hbu) ((HWk.out.links y hym).ext hbu) (by omega) (HWk.out.few y hym)
                  have HALL := Lib.hid hall
                  have HY := Lib.hid hy
                  have HBJ := Lib.hid hbj
                  have hj0 : (0 : Int) ≤ (j : Int) := by omega
                  have hj1 : (j : Int) < (ws.length : Int) := by omega
                  clear hall hy hbj hcx hcy hWj hym
                  go_wp2_with fail
                  go_region_held3 (fun w' => w'.cell? ⟨yb, yo + j * 3, none⟩ = some (.slice y.a y.cs.length y.c) ∧ w'.cell? ⟨yb, yo + j * 3 + 1, none⟩ = some (.int .u64 y.at_) ∧ w'.cell? ⟨yb, yo + j * 3 + 2, none⟩ = some (.bool y.on) ∧ w'.cell? ⟨xb, xo + i * 6, none⟩ = some (.string x.key) ∧ w'.cell? ⟨xb, xo + i * 6 + 1, none⟩ = some (.int .u32 x.valid) ∧ w'.cell? ⟨xb, xo + i * 6 + 2, none⟩ = some (.int .u64 x.seq) ∧ w'.cell? ⟨xb, xo + i * 6 + 3, none⟩ = some (.int .u64 x.line) ∧ w'.cell? ⟨xb, xo + i * 6 + 4, none⟩ = some (.int .u8 x.kind) ∧ w'.cell? ⟨xb, xo + i * 6 + 5, none⟩ = some (.string x.val)) (go_keep)
                    (first | (go_at_call 13; refine ((HALL.out _ (by first | exact (Below.refl _ _).drew | exact Below.refl _ _)).mono ?_); rintro e w5 ⟨s2, rfl, hs2, hB5⟩; have hb5 : Below wr.heap.size wr w5 := (by first | exact (Below.refl _ _).drew | exact Below.refl _ _ : Below wr.heap.size wr _).trans hB5; have m0 := (hb5.cell (p := ⟨yb, yo + j * 3, none⟩) hyb).trans f0; have m1 := (hb5.cell (p := ⟨yb, yo + j * 3 + 1, none⟩) hyb).trans f1; have m2 := (hb5.cell (p := ⟨yb, yo + j * 3 + 2, none⟩) hyb).trans f2; have n0 := (hb5.cell (p := ⟨xb, xo + i * 6, none⟩) hxb').trans e0; have n1 := (hb5.cell (p := ⟨xb, xo + i * 6 + 1, none⟩) hxb').trans e1; have n2 := (hb5.cell (p := ⟨xb, xo + i * 6 + 2, none⟩) hxb').trans e2; have n3 := (hb5.cell (p := ⟨xb, xo + i * 6 + 3, none⟩) hxb').trans e3; have n4 := (hb5.cell (p := ⟨xb, xo + i * 6 + 4, none⟩) hxb').trans e4; have n5 := (hb5.cell (p := ⟨xb, xo + i * 6 + 5, none⟩) hxb').trans e5))
                  rename_i hheld
                  have HS2 := Lib.hid hs2
                  have HB5 := Lib.hid (HBJ.out.trans (hb5.mono HBJ.out.size))
                  clear hheld hs2 hb5 hB5 m0 m1 m2 n0 n1 n2 n3 n4 n5 e0 e1 e2 e3 e4 e5 f0 f1 f2 HALL
                  go_wp2
                  go_roundg (gk - 1)
                  case measure => omega
                  case rel => exact ⟨j + 1, s2, by omega, by go_num, rfl, HNEXT.out s2 (by rw [HS2.out, HY.out]; simp), HB5.out⟩
              · have hje : j = ws.length := by omega
                subst hje
                have hsb : s = true := by
                  have h1 := HS.out
                  rw [List.take_length] at h1
                  exact h1.2 HSZ2.out
                subst hsb
                have HBJ := Lib.hid (HB1.out.trans (hbj.mono HB1.out.size))
                clear hbj
                go_wp2_with fail
                go_roundg (g1 - 1)
                case measure => omega
                case rel => exact ⟨i + 1, _, by omega, rfl, by rw [← HLEN.out] <;> go_num, by go_num, HBJ.out⟩
          | false =>
            rw [hfi] at hv hsucc
            subst hv
            have HLEN := Lib.hid (show (m : Int) = ((keptL xs f (i + 1)).length : Int) by rw [hsucc, HM.out]; simp)
            have HSZ2 := Lib.hid (show ¬ ∃ y ∈ ws, SeesP xs y x from fun h => by rw [HSZ.out.2 h] at hfi; cases hfi)
            clear hb1 hsucc hfi e0 e1 e2 e3 e4 e5 hW0 HBR HLR HFR HCX HNX HSZ
            go_wp2_with fail
            go_loopg [9, 10] ws.length (fun gk sv jv wr => ∃ (j : Nat) (s : Bool), j + gk = ws.length ∧ jv = .int .i64 j ∧ sv = .bool s ∧ (s = true ↔ ∃ y ∈ ws.take j, SeesP xs y x) ∧ Below W0.heap.size W0 wr)
            case atStart => exact ⟨0, false, by omega, rfl, rfl, by simp, Below.refl _ _⟩
            case round =>
              obtain ⟨j, s, hj, rfl, rfl, hs, hbj⟩ := hrel
              have HS := Lib.hid hs
              clear hs
              by_cases hjl : j < ws.length
              · have hnext : ∀ s2 : Bool, (s2 = true ↔ s = true ∨ SeesP xs ws[j] x) → (s2 = true ↔ ∃ y ∈ ws.take (j + 1), SeesP xs y x) := by
                  intro s2 h
                  rw [h, HS.out, ← List.take_append_getElem hjl]
                  constructor
                  · rintro (⟨y, h1, h2⟩ | h1)
                    · exact ⟨y, List.mem_append_left _ h1, h2⟩
                    · exact ⟨_, List.mem_append_right _ (List.mem_singleton.2 rfl), h1⟩
                  · rintro ⟨y, h1, h2⟩
                    rcases List.mem_append.1 h1 with h1 | h1
                    · exact .inl ⟨y, h1, h2⟩
                    · rw [List.mem_singleton.1 h1] at h2
                      exact .inr h2
                have HNEXT := Lib.hid hnext
                clear hnext
                cases s with
                | true =>
                  have HBJ := Lib.hid hbj
                  clear hbj
                  go_wp2_with fail
                  go_quiet (fail)
                  go_wp2
                  go_roundg (gk - 1)
                  case measure => omega
                  case rel => exact ⟨j + 1, true, by omega, by go_num, rfl, HNEXT.out true (by simp), below_drewN HBJ.out _⟩
                | false =>
                  have hWj := HWk.out.ext (HB1.out.trans (hbj.mono HB1.out.size))
                  obtain ⟨yb, yo, rfl, hyb, hcy⟩ := hWj.els.get j hjl
                  obtain ⟨y, hy⟩ : ∃ y, y = ws[j] := ⟨_, rfl⟩
                  have hym : y ∈ ws := by rw [hy]; exact List.getElem_mem _
                  rw [← hy] at hcy
                  have f0 := hcy 0 _ rfl
                  have f1 := hcy 1 _ rfl
                  have f2 := hcy 2 _ rfl
                  obtain ⟨xb', xo', hxa, hxb', hcx⟩ := (HLk.out.ext (HB1.out.trans (hbj.mono HB1.out.size))).get i hlt
                  injection hxa with hxa
                  injection hxa with hxa1 hxa2
                  subst hxa1 hxa2
                  rw [← HX.out] at hcx
                  have e0 := hcx 0 _ rfl
                  have e1 := hcx 1 _ rfl
                  have e2 := hcx 2 _ rfl
                  have e3 := hcx 3 _ rfl
                  have e4 := hcx 4 _ rfl
                  have e5 := hcx 5 _ rfl
                  simp only [Nat.add_zero] at f0 f1 f2 e0 e1 e2 e3 e4 e5
                  have hall : ∀ u : World, Below wr.heap.size wr u → Calls Try.prog (13) #[.agg #[.slice y.a y.cs.length y.c, .int .u64 y.at_, .bool y.on], .agg #[.string x.key, .int .u32 x.valid, .int .u64 x.seq, .int .u64 x.line, .int .u8 x.kind, .string x.val], .slice (some ⟨xb, xo, none⟩) xs.length cl] u (SeesPost xs y x u) := fun u hu => by
                    have hbu := HB1.out.trans ((hbj.trans (hu.mono hbj.size)).mono HB1.out.size)
                    exact sees_post y x (some ⟨xb, xo, none⟩) cl xs u (HLk.out.ext hbu) ((HWk.out.links y hym).ext hbu) (by omega) (HWk.out.few y hym)
                  have HALL := Lib.hid hall
                  have HY := Lib.hid hy
                  have HBJ := Lib.hid hbj
                  have hj0 : (0 : Int) ≤ (j : Int) := by omega
                  have hj1 : (j : Int) < (ws.length : Int) := by omega
                  clear hall hy hbj hcx hcy hWj hym
                  go_wp2_with fail
                  go_region_held3 (fun w' => w'.cell? ⟨yb, yo + j * 3, none⟩ = some (.slice y.a y.cs.length y.c) ∧ w'.cell? ⟨yb, yo + j * 3 + 1, none⟩ = some (.int .u64 y.at_) ∧ w'.cell? ⟨yb, yo + j * 3 + 2, none⟩ = some (.bool y.on) ∧ w'.cell? ⟨xb, xo + i * 6, none⟩ = some (.string x.key) ∧ w'.cell? ⟨xb, xo + i * 6 + 1, none⟩ = some (.int .u32 x.valid) ∧ w'.cell? ⟨xb, xo + i * 6 + 2, none⟩ = some (.int .u64 x.seq) ∧ w'.cell? ⟨xb, xo + i * 6 + 3, none⟩ = some (.int .u64 x.line) ∧ w'.cell? ⟨xb, xo + i * 6 + 4, none⟩ = some (.int .u8 x.kind) ∧ w'.cell? ⟨xb, xo + i * 6 + 5, none⟩ = some (.string x.val)) (go_keep)
                    (first | (go_at_call 13; refine ((HALL.out _ (by first | exact (Below.refl _ _).drew | exact Below.refl _ _)).mono ?_); rintro e w5 ⟨s2, rfl, hs2, hB5⟩; have hb5 : Below wr.heap.size wr w5 := (by first | exact (Below.refl _ _).drew | exact Below.refl _ _ : Below wr.heap.size wr _).trans hB5; have m0 := (hb5.cell (p := ⟨yb, yo + j * 3, none⟩) hyb).trans f0; have m1 := (hb5.cell (p := ⟨yb, yo + j * 3 + 1, none⟩) hyb).trans f1; have m2 := (hb5.cell (p := ⟨yb, yo + j * 3 + 2, none⟩) hyb).trans f2; have n0 := (hb5.cell (p := ⟨xb, xo + i * 6, none⟩) hxb').trans e0; have n1 := (hb5.cell (p := ⟨xb, xo + i * 6 + 1, none⟩) hxb').trans e1; have n2 := (hb5.cell (p := ⟨xb, xo + i * 6 + 2, none⟩) hxb').trans e2; have n3 := (hb5.cell (p := ⟨xb, xo + i * 6 + 3, none⟩) hxb').trans e3; have n4 := (hb5.cell (p := ⟨xb, xo + i * 6 + 4, none⟩) hxb').trans e4; have n5 := (hb5.cell (p := ⟨xb, xo + i * 6 + 5, none⟩) hxb').trans e5))
                  rename_i hheld
                  have HS2 := Lib.hid hs2
                  have HB5 := Lib.hid (HBJ.out.trans (hb5.mono HBJ.out.size))
                  clear hheld hs2 hb5 hB5 m0 m1 m2 n0 n1 n2 n3 n4 n5 e0 e1 e2 e3 e4 e5 f0 f1 f2 HALL
                  go_wp2
                  go_roundg (gk - 1)
                  case measure => omega
                  case rel => exact ⟨j + 1, s2, by omega, by go_num, rfl, HNEXT.out s2 (by rw [HS2.out, HY.out]; simp), HB5.out⟩
              · have hje : j = ws.length := by omega
                subst hje
                have hsb : s = false := by
                  have h1 := HS.out
                  rw [List.take_length] at h1
                  cases s with
                  | false => rfl
                  | true => exact absurd (h1.1 rfl) HSZ2.out
                subst hsb
                have HBJ := Lib.hid (HB1.out.trans (hbj.mono HB1.out.size))
                clear hbj
                go_wp2_with fail
                go_roundg (g1 - 1)
                case measure => omega
                case rel => exact ⟨i + 1, _, by omega, rfl, by rw [← HLEN.out], by go_num, HBJ.out⟩
        · have hie : i = xs.length := by omega
          have hml : m = ys.length := by rw [HM.out, HYS.out, hie]
          have HBR := Lib.hid (HBk.out.trans (hbr.mono HBk.out.size))
          clear hbr HM
          subst hie
          subst hml
          go_wp2_with fail
          refine (livesK_any _).mono ?_
          rintro e w2 ⟨rfl, hb⟩
          have HB := Lib.hid (HBR.out.trans (hb.mono HBR.out.size))
          clear hb
          go_wp2
          go_ret
          exact ⟨rfl, HB.out⟩
end Go.Proofs.Yticcccciefaemaa
