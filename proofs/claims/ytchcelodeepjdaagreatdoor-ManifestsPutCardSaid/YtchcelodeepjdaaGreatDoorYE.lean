/- ref16: Of. Condition: fewer than 100000 lines and points. -/
import Derived.Test.YtchcelodeepjdaaGreatDoorYB
namespace Go.Proofs.YtchcelodeepjdaaGreatDoor.Vx
open Go.RowKit Go.Shelf Go.Herb

def RefOfPost (L : Vs) (w : World) (e : Ending) (w' : World) : Prop :=
  ∃ v er, e = .returned (.tuple #[v, .int .i64 er]) ∧ Below w.heap.size w w' ∧ ((er = 0 ∧ okV L ∧ ∃ p la lc xs, v = .pointer (some ⟨p, 0, none⟩) ∧ RefIs w' p la lc xs L) ∨ (er = 4 ∧ ¬ okV L ∧ v = .pointer none))

theorem vin_ext2 {w0 w' : World} {a : Option Addr} {xs : List Vc} (h : VIn w0 a xs) (hb : Below w0.heap.size w0 w') : VIn w' a xs := vin_ext h hb
set_option maxRecDepth 100000 in
set_option maxHeartbeats 2000000 in
theorem refOfL_any (a : Option Addr) (cap : Nat) (xs : List Vc) (w : World) (h : VIn w a xs) (hS : Small (vsOf xs)) :
    Calls Tryz.prog (55) #[.slice a xs.length cap] w (RefOfPost (vsOf xs) w) := by
  have H := Lib.hid h
  have HS := Lib.hid hS
  obtain ⟨N, hN⟩ : ∃ N, N = xs.length := ⟨_, rfl⟩
  have HN := Lib.hid hN
  have hlen : N < 100000 := by have := hS.len; rw [vsOf_len] at this; omega
  rw [← hN]
  clear h hS hN
  go_enter Tryz.func55, Tryz.ntmps55
  go_wp2_with fail
  go_loopg [4] N (fun gk iv wr => ∃ i : Nat, i + gk = N ∧ iv = .int .i64 i ∧ Hid (okV ((vsOf xs).take i)) ∧ Hid (Below w.heap.size w wr))
  case atStart => exact ⟨0, by omega, rfl, Lib.hid ⟨.nil, by simp⟩, Lib.hid (Below.refl _ w)⟩
  case round =>
    obtain ⟨i, hi, rfl, HO, HBW⟩ := hrel
    by_cases hltN : i < N
    · have hlt : i < xs.length := by have := HN.out; omega
      obtain ⟨b, o, rfl, hlb, hcell⟩ := H.out.els.get i hlt
      have x0 := (HBW.out.cell (p := ⟨b, _, none⟩) hlb).trans (hcell 0 _ rfl)
      have x1 := (HBW.out.cell (p := ⟨b, _, none⟩) hlb).trans (hcell 1 _ rfl)
      simp only [Nat.add_zero] at x0 x1
      have hi0 : (0 : Int) ≤ (i : Int) := by omega
      have hi1 : (i : Int) < (N : Int) := by omega
      have hli : i < (vsOf xs).length := by rw [vsOf_len]; exact hlt
      have hgi := vsOf_get xs i hlt
      have HX := Lib.hid (List.getElem_mem hlt)
      have HTI := Lib.hid (show (vsOf xs).take (i + 1) = (vsOf xs).take i ++ [(xs[i].line, xs[i].ps)] from by rw [List.take_succ_eq_append_getElem hli, hgi])
      have hprev : ∀ h0 : 0 < i, ∃ pl, wr.cell? ⟨b, o + (i - 1) * 2, none⟩ = some (.int .u64 pl) ∧ (vsOf xs)[i - 1].1 = pl := fun h0 => by
        obtain ⟨b', o', ha', hlb', hcell'⟩ := H.out.els.get (i - 1) (by omega)
        injection ha' with ha'
        cases ha'
        have := (HBW.out.cell (p := ⟨b, _, none⟩) hlb').trans (hcell' 0 _ rfl)
        simp only [Nat.add_zero] at this
        exact ⟨_, this, by rw [vsOf_get xs (i - 1) (by omega)]⟩
      have HPV := Lib.hid hprev
      have HGI := Lib.hid hgi
      have HLI := Lib.hid hli
      have hpl := HS.out.inn (xs[i].line, xs[i].ps) (by unfold vsOf; exact List.mem_map.2 ⟨xs[i], List.getElem_mem hlt, rfl⟩)
      simp only at hpl
      obtain ⟨x, hxe⟩ : ∃ x, x = xs[i] := ⟨_, rfl⟩
      rw [← hxe] at x0 x1 HTI HGI hpl HX
      have HXE := Lib.hid hxe.symm
      clear hcell hgi hprev hxe
      obtain ⟨xl, xa, xc, xp⟩ := x
      simp only at x0 x1 HTI HGI hpl
      have HXP : Hid (Pts w xa xp) := Lib.hid (H.out.inn _ HX.out)
      obtain ⟨M, hM⟩ : ∃ M, M = xp.length := ⟨_, rfl⟩
      have HM := Lib.hid hM
      rw [← hM] at x1 hpl
      clear hM
      go_upto_region 5 with (fail)
      go_cut [28] (fun v wx => ∃ (c : Bool) (n : Nat), v = .bool c ∧ Hid (c = true → ¬ okV (vsOf xs)) ∧ Hid (c = false → SrtK ((vsOf xs).take (i + 1))) ∧ wx = wr.drewN n)
      case first =>
        by_cases h0 : 0 < i
        · obtain ⟨pl, hpc, hpl2⟩ := HPV.out h0
          have h0' : (0 : Int) < (i : Int) := by omega
          have h0d : decide ((0 : Int) < (i : Int)) = true := decide_eq_true h0'
          have h0e : decide (0 < i) = true := decide_eq_true h0
          have w1 : IntKind.i64.wrap ((i : Int) - 1) = (i : Int) - 1 := IntWalk.i64_in _ (by omega)
          have p1 : (0 : Int) ≤ (i : Int) - 1 := by omega
          have p1' : (1 : Int) ≤ (i : Int) := by omega
          have q1 : ((i : Int) - 1).toNat = i - 1 := by omega
          have r1 : (i : Int) - 1 < (N : Int) := by omega
          have HPL := Lib.hid hpl2
          clear hpl2
          by_cases hle : xl ≤ pl
          · have hled : decide (xl ≤ pl) = true := decide_eq_true hle
            have HB : Hid (¬ okV (vsOf xs)) := Lib.hid (fun hok => by
              have h1 := SrtK.get hok.1 (i := i - 1) (j := i) (by omega) HLI.out
              rw [HPL.out, HGI.out] at h1
              simp only at h1
              omega)
            go_wp2_with fail
            go_quiet (fail)
            go_wp2_with fail
            go_meet
            exact ⟨true, nq, rfl, Lib.hid (fun _ => HB.out), Lib.hid (fun h => by cases h), rfl⟩
          · have hled : decide (xl ≤ pl) = false := decide_eq_false hle
            have HB : Hid (SrtK ((vsOf xs).take (i + 1))) := Lib.hid (HO.out.1.snoc HLI.out (.inr ⟨by have := HLI.out; omega, by rw [HPL.out, HGI.out]; simp only; omega⟩))
            go_wp2_with fail
            go_quiet (fail)
            go_wp2_with fail
            go_meet
            exact ⟨false, nq, rfl, Lib.hid (fun h => by cases h), Lib.hid (fun _ => HB.out), rfl⟩
        · have h0' : ¬ (0 : Int) < (i : Int) := by omega
          have h0d : decide ((0 : Int) < (i : Int)) = false := decide_eq_false h0'
          have h0e : decide (0 < i) = false := decide_eq_false h0
          have HB : Hid (SrtK ((vsOf xs).take (i + 1))) := Lib.hid (HO.out.1.snoc HLI.out (.inl (by omega)))
          go_wp2_with fail
          go_quiet (fail)
          go_wp2_with fail
          go_meet
          exact ⟨false, nq, rfl, Lib.hid (fun h => by cases h), Lib.hid (fun _ => HB.out), rfl⟩
      case rest =>
      obtain ⟨c, n, rfl, HC1, HC2, rfl⟩ := hcut
      obtain ⟨Y, hY⟩ : ∃ Y : World, Y = wr.drewN n := ⟨_, rfl⟩
      have HYB := Lib.hid (show Below w.heap.size w Y by rw [hY]; exact below_drN HBW.out n)
      rw [← hY]
      clear hY x0 x1 HPV
      cases c with
      | true =>
        have HE : Hid (RefOfPost (vsOf xs) w (.returned (.tuple #[.pointer none, .int .i64 4])) Y) := Lib.hid ⟨_, 4, rfl, HYB.out, .inr ⟨rfl, HC1.out rfl, rfl⟩⟩
        go_wp2_with fail
        go_ret2
        exact HE.out
      | false =>
        have HSO := Lib.hid (HC2.out rfl)
        clear HC1 HC2
        go_wp2_with fail
        obtain ⟨g1, rfl⟩ : ∃ g1 : Nat, g1 = gk := ⟨_, rfl⟩
        obtain ⟨wo, rfl⟩ : ∃ wo : World, wo = wr := ⟨_, rfl⟩
        go_loopg [5] M (fun gk kv wr => ∃ k : Nat, k + gk = M ∧ kv = .int .i64 k ∧ Hid (okB (xp.take k)) ∧ Hid (Below w.heap.size w wr))
        case atStart => exact ⟨0, by omega, rfl, Lib.hid ⟨.nil, by simp⟩, HYB⟩
        case round =>
          obtain ⟨k, hk, rfl, HOB, HWW⟩ := hrel
          have hbx : b < w.heap.size := hlb
          obtain ⟨b', o', he', -, hcell⟩ := H.out.els.get i (by have := HN.out; omega)
          injection he' with he'
          cases he'
          have x1 := (HWW.out.cell (p := ⟨b, _, none⟩) hlb).trans (hcell 1 _ rfl)
          have hxe : xs[i]'(by have := HN.out; omega) = ⟨xl, xa, xc, xp⟩ := HXE.out
          rw [hxe] at x1
          clear hcell hxe
          simp only [← HM.out] at x1
          by_cases hkl : k < M
          · have hkx : k < xp.length := by have := HM.out; omega
            obtain ⟨b2, o2, rfl, hlb2, hcell2⟩ := HXP.out.get k hkx
            have z0 : wr.cell? ⟨b2, o2 + k * 2, none⟩ = some (.int .u64 (xp[k]'hkx).1) := (HWW.out.cell (p := ⟨b2, _, none⟩) hlb2).trans (hcell2 0 _ rfl)
            have z1 : wr.cell? ⟨b2, o2 + k * 2 + 1, none⟩ = some (.int .u64 (xp[k]'hkx).2) := (HWW.out.cell (p := ⟨b2, _, none⟩) hlb2).trans (hcell2 1 _ rfl)
            have hk0 : (0 : Int) ≤ (k : Int) := by omega
            have hk1 : (k : Int) < (M : Int) := by omega
            have hprev : ∀ h0 : 0 < k, ∃ pl, (∀ u, Below w.heap.size w u → u.cell? ⟨b2, o2 + (k - 1) * 2, none⟩ = some (.int .u64 pl)) ∧ xp[k - 1].1 = pl := fun h0 => by
              obtain ⟨b', o', ha', hlb', hcell'⟩ := HXP.out.get (k - 1) (by omega)
              injection ha' with ha'
              cases ha'
              exact ⟨_, fun u hu => by
                have := (hu.cell (p := ⟨b2, _, none⟩) hlb').trans (hcell' 0 _ rfl)
                simpa only [Nat.add_zero] using this, rfl⟩
            have HPV2 := Lib.hid hprev
            have HTK := Lib.hid (show xp.take (k + 1) = xp.take k ++ [xp[k]'hkx] from List.take_succ_eq_append_getElem hkx)
            have HQM := Lib.hid (List.getElem_mem hkx)
            have HKX := Lib.hid hkx
            obtain ⟨q, hq⟩ : ∃ q, q = xp[k]'hkx := ⟨_, rfl⟩
            rw [← hq] at z0 z1 HTK HQM
            have HQ := Lib.hid hq
            clear hcell2 hprev hq
            obtain ⟨q1, q2⟩ := q
            simp only at z0 z1
            obtain ⟨P, hP⟩ : ∃ P : World, P = wr.alloc (.cells #[.int .u64 q1, .int .u64 q2] (78)) := ⟨_, rfl⟩
            have hPb : Below wr.heap.size wr P := by rw [hP]; exact (Below.refl _ _).alloc (Nat.le_refl _) _
            have hPx : P.heap[wr.heap.size]? = some (.cells #[.int .u64 q1, .int .u64 q2] (78) (0, 0)) := by rw [hP]; exact blk_new_at rfl _
            have HPB := Lib.hid (HWW.out.trans (hPb.mono HWW.out.size))
            have HPX := Lib.hid hPx
            have P1x := (HPB.out.cell (p := ⟨b, _, none⟩) hlb).trans ((HWW.out.cell (p := ⟨b, _, none⟩) hlb).symm.trans x1)
            clear hPb hPx
            go_upto_region 11 with (fail)
            rw [← hP]
            clear hP z0 z1 x1
            go_cut [68] (fun v wx => ∃ (c : Bool) (n : Nat), v = .bool c ∧ Hid (c = true → ¬ okB xp) ∧ Hid (c = false → okB (xp.take (k + 1))) ∧ wx = P.drewN n)
            case first =>
              have P0 := cell_of_blk HPX.out 0
              have P1 := cell_of_blk HPX.out 1
              simp at P0 P1
              by_cases hq0 : q2 = 0
              · subst hq0
                have HB : Hid (¬ okB xp) := Lib.hid (fun hok => hok.2 _ HQM.out rfl)
                go_wp2_with fail
                go_quiet (fail)
                go_wp2_with fail
                go_meet
                exact ⟨true, nq, rfl, Lib.hid (fun _ => HB.out), Lib.hid (fun h => by cases h), rfl⟩
              · have hq0' : (q2 == 0) = false := by simpa using hq0
                have hq0d : decide (q2 = 0) = false := decide_eq_false hq0
                by_cases h0 : 0 < k
                · obtain ⟨pl, hpc0, hpl2⟩ := HPV2.out h0
                  have hpX := hpc0 P HPB.out
                  have h0' : (0 : Int) < (k : Int) := by omega
                  have h0d : decide ((0 : Int) < (k : Int)) = true := decide_eq_true h0'
                  have h0e : decide (0 < k) = true := decide_eq_true h0
                  have w1 : IntKind.i64.wrap ((k : Int) - 1) = (k : Int) - 1 := IntWalk.i64_in _ (by omega)
                  have p1 : (0 : Int) ≤ (k : Int) - 1 := by omega
                  have p1' : (1 : Int) ≤ (k : Int) := by omega
                  have e1 : ((k : Int) - 1).toNat = k - 1 := by omega
                  have r1 : (k : Int) - 1 < (M : Int) := by omega
                  have HPL := Lib.hid hpl2
                  clear hpc0 hpl2
                  by_cases hle : q1 ≤ pl
                  · have hled : decide (q1 ≤ pl) = true := decide_eq_true hle
                    have HB : Hid (¬ okB xp) := Lib.hid (fun hok => by
                      have h1 := SrtK.get hok.1 (i := k - 1) (j := k) (by omega) HKX.out
                      rw [HPL.out, ← HQ.out] at h1
                      simp only at h1
                      omega)
                    go_wp2_with fail
                    go_quiet (fail)
                    go_wp2_with fail
                    go_meet
                    exact ⟨true, nq, rfl, Lib.hid (fun _ => HB.out), Lib.hid (fun h => by cases h), rfl⟩
                  · have hled : decide (q1 ≤ pl) = false := decide_eq_false hle
                    have HB : Hid (okB (xp.take (k + 1))) := Lib.hid ⟨HOB.out.1.snoc HKX.out (.inr ⟨by have := HKX.out; omega, by rw [HPL.out, ← HQ.out]; simp only; omega⟩), fun r hr => by
                      rw [HTK.out] at hr
                      rcases List.mem_append.1 hr with hr | hr
                      · exact HOB.out.2 r hr
                      · rw [List.mem_singleton.1 hr]; exact hq0⟩
                    go_wp2_with fail
                    go_quiet (fail)
                    go_wp2_with fail
                    go_meet
                    exact ⟨false, nq, rfl, Lib.hid (fun h => by cases h), Lib.hid (fun _ => HB.out), rfl⟩
                · have h0' : ¬ (0 : Int) < (k : Int) := by omega
                  have h0d : decide ((0 : Int) < (k : Int)) = false := decide_eq_false h0'
                  have h0e : decide (0 < k) = false := decide_eq_false h0
                  have HB : Hid (okB (xp.take (k + 1))) := Lib.hid ⟨HOB.out.1.snoc HKX.out (.inl (by omega)), fun r hr => by
                      rw [HTK.out] at hr
                      rcases List.mem_append.1 hr with hr | hr
                      · exact HOB.out.2 r hr
                      · rw [List.mem_singleton.1 hr]; exact hq0⟩
                  go_wp2_with fail
                  go_quiet (fail)
                  go_wp2_with fail
                  go_meet
                  exact ⟨false, nq, rfl, Lib.hid (fun h => by cases h), Lib.hid (fun _ => HB.out), rfl⟩
            case rest =>
            obtain ⟨c, n2, rfl, HC1, HC2, rfl⟩ := hcut
            obtain ⟨Z, hZ⟩ : ∃ Z : World, Z = P.drewN n2 := ⟨_, rfl⟩
            have HZB := Lib.hid (show Below w.heap.size w Z by rw [hZ]; exact below_drN HPB.out n2)
            rw [← hZ]
            clear hZ P1x HPV2
            cases c with
            | true =>
              have HE : Hid (RefOfPost (vsOf xs) w (.returned (.tuple #[.pointer none, .int .i64 4])) Z) := Lib.hid ⟨_, 4, rfl, HZB.out, .inr ⟨rfl, fun hok => HC1.out rfl (hok.2 (xl, xp) (by unfold vsOf; exact List.mem_map.2 ⟨_, HX.out, rfl⟩)), rfl⟩⟩
              go_wp2_with fail
              go_ret2
              exact HE.out
            | false =>
              have HOK6 := Lib.hid (HC2.out rfl)
              clear HC1 HC2
              go_wp2_with fail
              go_roundg (gk - 1)
              case measure => omega
              case rel => exact ⟨k + 1, by omega, by go_num, HOK6, HZB⟩
          · have hke : k = xp.length := by have := HM.out; omega
            have hOB : okB xp := by have := HOB.out; rwa [hke, List.take_length] at this
            have HO6 := Lib.hid (show okV ((vsOf xs).take (i + 1)) from ⟨HSO.out, fun r hr => by
              rw [HTI.out] at hr
              rcases List.mem_append.1 hr with hr | hr
              · exact HO.out.2 r hr
              · rw [List.mem_singleton.1 hr]; exact hOB⟩)
            clear hOB hke
            go_wp2_with fail
            go_roundg (g1 - 1)
            case measure => omega
            case rel => exact ⟨i + 1, by omega, by go_num, HO6, HWW⟩
    · have hok : okV (vsOf xs) := by
        have h1 := HO.out
        rwa [List.take_of_length_le (by rw [vsOf_len]; have := HN.out; omega)] at h1
      have HG := Lib.hid (okV.good hok (fun p hp => by
        obtain ⟨x, hx, rfl⟩ := List.mem_map.1 hp
        exact H.out.wf x hx))
      have HOK := Lib.hid hok
      clear hok
      go_wp2_with fail
      refine (refCopied_any a cap N xs wr (vin_ext2 H.out HBW.out) HN.out.symm HS.out).mono ?_
      rintro e w3 ⟨v, ys, rfl, hC, hb3⟩
      obtain ⟨va, vn, vc', rfl⟩ : ∃ va vn vc', v = .slice va vn vc' := by
        obtain ⟨a', c', e, -⟩ := own_parts hC.own
        exact ⟨_, _, _, e⟩
      have hbZ : Below w3.heap.size w3 (w3.alloc (.cells #[.slice va vn vc'] (158))) := (Below.refl _ _).alloc (Nat.le_refl _) _
      have HE := Lib.hid (show RefOfPost (vsOf xs) w (.returned (.tuple #[.pointer (some ⟨w3.heap.size, 0, none⟩), .int .i64 0])) (w3.alloc (.cells #[.slice va vn vc'] (158))) from
        ⟨_, 0, rfl, HBW.out.trans ((hb3.trans (hbZ.mono hb3.size)).mono HBW.out.size), .inl ⟨rfl, HOK.out, _, _, _, _, rfl, (hC.below hbZ).ref HG.out (blk_new_at rfl _)⟩⟩)
      clear hC hb3 hbZ
      go_wp2_with fail
      go_ret2
      exact HE.out
end Go.Proofs.YtchcelodeepjdaaGreatDoor.Vx
