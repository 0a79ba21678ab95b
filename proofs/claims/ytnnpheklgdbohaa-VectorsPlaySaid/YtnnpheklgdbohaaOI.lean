/- vectors: Merge. Condition: fewer than 1000000 lines. -/
import Derived.Test.YtnnpheklgdbohaaOG
namespace Go.Proofs.Ytnnpheklgdbohaa
open Go.RowKit Go.Shelf Go.Herb

set_option maxRecDepth 100000 in
set_option maxHeartbeats 4000000 in
theorem merge_any (p mb : Nat) (M : List (Int × Nat)) (L : Vs) (line ot s : Int) (w : World) (h : VecIs w p mb M L) (hG : GoodV L) (hS : Small L) (hl : U64 line) (ho : U64 ot) (hs : U64 s) :
    Calls Try.prog (15) #[.pointer (some ⟨p, 0, none⟩), .int .u64 line, .int .u64 ot, .int .u64 s] w (OpPost (mergeV L line ot s) w) := by
  have H := Lib.hid h
  have HG := Lib.hid hG
  have HS := Lib.hid hS
  have hmm := @run_makeMap Try.prog
  clear h hG hS
  obtain ⟨W1, hW1⟩ : ∃ W1 : World, W1 = w.alloc (.cells #[.int .u64 line, .int .u64 ot] (29)) := ⟨_, rfl⟩
  have hb1 : Below w.heap.size w W1 := by rw [hW1]; exact (Below.refl _ _).alloc (Nat.le_refl _) _
  have hn := needs_any p mb M L (some ⟨w.heap.size, 0, none⟩) 2 [line, ot] W1 (H.out.below hb1) (elsU_lit [line, ot] (t := (29)) (by rw [hW1]; exact blk_new_at rfl _)) (by simp; exact ⟨hl, ho⟩) (by simp)
  have HN := Lib.hid hn
  have HB1 := Lib.hid hb1
  have HV1 := Lib.hid (H.out.below hb1)
  have c0 := cell_of_blk HV1.out.blk 0
  simp at c0
  clear hn hb1
  by_cases hnn : ¬ ((getL L line).isSome = true ∧ (getL L ot).isSome = true)
  · have hne : needsE L [line, ot] = 7 := by
      cases hg : getL L line with
      | none => exact needsE_not (ls := [line, ot]) (by simp) hg
      | some b =>
        cases hg2 : getL L ot with
        | none => exact needsE_not (ls := [line, ot]) (by simp) hg2
        | some c => exact absurd (by simp [hg, hg2]) hnn
    have hr : mergeV L line ot s = (7, []) := by
      unfold mergeV
      cases hg : getL L line with
      | none => rfl
      | some b =>
        cases hg2 : getL L ot with
        | none => rfl
        | some c => exact absurd (by simp [hg, hg2]) hnn
    have HR := Lib.hid hr
    clear hr hnn hmm
    go_enter Try.func15, Try.ntmps15
    go_wp2_with fail
    rw [← hW1]
    clear hW1
    refine (HN.out).mono ?_
    rintro e w' ⟨rfl, rfl⟩
    rw [hne]
    clear hne c0
    go_wp2
    go_ret2
    rw [HR.out]
    exact opErr (by simp) HB1.out
  · have hboth : (getL L line).isSome = true ∧ (getL L ot).isSome = true := Classical.not_not.1 hnn
    clear hnn
    obtain ⟨b, hg⟩ := Option.isSome_iff_exists.1 hboth.1
    obtain ⟨c, hgc⟩ := Option.isSome_iff_exists.1 hboth.2
    clear hboth
    have hne : needsE L [line, ot] = 0 := needsE_of (by intro x hx; simp only [List.mem_cons, List.not_mem_nil, or_false] at hx; rcases hx with rfl | rfl; rw [hg]; rfl; rw [hgc]; rfl)
    obtain ⟨ib, m, hg2, hM, hpm⟩ := HV1.out.has hg
    obtain ⟨ic, mc', hgc2, hMc, hpc⟩ := HV1.out.has hgc
    have hbG := HG.out.get hg
    have hcG := HG.out.get hgc
    have hbl := HS.out.get hg
    have hcl := HS.out.get hgc
    have hml : m.length < 1000000 := by have := hpm.length_eq; omega
    have hmcl : mc'.length < 1000000 := by have := hpc.length_eq; omega
    obtain ⟨kl, hkl⟩ := keyU hl
    obtain ⟨kl2, hkl2⟩ := keyU ho
    have hlook := (HV1.out.out.look lawU eU_inj Try.underlying58 (zeroB _) hkl).1
    rw [hg2] at hlook
    simp only at hlook
    have hA := above_any ib m s W1 hM hml
    rw [aboveB_perm hpm] at hA
    have HA := Lib.hid hA
    have HPM := Lib.hid hpm
    have HPC := Lib.hid hpc
    have HBG := Lib.hid hbG
    have HCG := Lib.hid hcG
    have HM := Lib.hid hM
    have HMC := Lib.hid hMc
    have HGB := Lib.hid hg2
    have HGC := Lib.hid hgc2
    clear hA hpm hpc hbG hcG hM hMc hg2 hgc2
    by_cases hlo : line = ot
    · subst hlo
      have hr : mergeV L line line s = (1, []) := by unfold mergeV; rw [hg]; simp
      have HR := Lib.hid hr
      clear hr hg hgc hmm hlook hkl hkl2
      go_enter Try.func15, Try.ntmps15
      go_wp2_with fail
      rw [← hW1]
      clear hW1
      refine (HN.out).mono ?_
      rintro e w' ⟨rfl, rfl⟩
      rw [hne]
      clear hne c0
      go_wp2
      go_ret2
      rw [HR.out]
      exact opErr (by simp) HB1.out
    · have hlo2 : (line == ot) = false := by simpa using hlo
      have hlo3 : decide (line = ot) = false := decide_eq_false hlo
      cases hab : aboveB b s with
      | false =>
        have hr : mergeV L line ot s = (1, []) := by unfold mergeV; rw [hg, hgc]; simp [hab]
        have HR := Lib.hid hr
        have HAB := Lib.hid hab
        clear hr hg hgc hmm hab
        go_enter Try.func15, Try.ntmps15
        go_wp2_with fail
        rw [← hW1]
        clear hW1
        refine (HN.out).mono ?_
        rintro e w' ⟨rfl, rfl⟩
        rw [hne]
        clear hne
        go_wp2_with fail
        refine (HA.out).mono ?_
        rintro e w2 ⟨rfl, hb2⟩
        rw [HAB.out]
        have HB2 := Lib.hid (HB1.out.trans (hb2.mono HB1.out.size))
        clear hb2 hlook c0
        go_wp2
        go_ret2
        rw [HR.out]
        exact opErr (by simp) HB2.out
      | true =>
        have hs0 := (aboveB_iff.1 hab).1
        have HAB := Lib.hid hab
        clear hab
        cases hac : aboveB c s with
        | false =>
          have hr : mergeV L line ot s = (1, []) := by unfold mergeV; rw [hg, hgc]; simp [hac]
          have HR := Lib.hid hr
          have HAC := Lib.hid hac
          clear hr hg hgc hmm hac
          go_enter Try.func15, Try.ntmps15
          go_wp2_with fail
          rw [← hW1]
          clear hW1
          refine (HN.out).mono ?_
          rintro e w' ⟨rfl, rfl⟩
          rw [hne]
          clear hne
          go_wp2_with fail
          refine (HA.out).mono ?_
          rintro e w2 ⟨rfl, hb2⟩
          rw [HAB.out]
          have HV2 := Lib.hid (HV1.out.below hb2)
          have HB2 := Lib.hid (HB1.out.trans (hb2.mono HB1.out.size))
          have hA2 := above_any ic mc' s w2 (HMC.out.same (hb2.block _ HMC.out.lt)) hmcl
          rw [aboveB_perm HPC.out, HAC.out] at hA2
          have HA2 := Lib.hid hA2
          clear hb2 hlook c0 hA2
          have c0 := cell_of_blk HV2.out.blk 0
          simp at c0
          have hlook := (HV2.out.out.look lawU eU_inj Try.underlying58 (zeroB _) hkl2).1
          rw [HGC.out] at hlook
          simp only at hlook
          go_wp2_with fail
          refine (HA2.out).mono ?_
          rintro e w3 ⟨rfl, hb3⟩
          have HB3 := Lib.hid (HB2.out.trans (hb3.mono HB2.out.size))
          clear hb3 hlook c0
          go_wp2
          go_ret2
          rw [HR.out]
          exact opErr (by simp) HB3.out
        | true =>
          have hr : mergeV L line ot s = (0, putS L line (laidB [b, c, [(line, s)]])) := by
            unfold mergeV; rw [hg, hgc]; simp only; rw [if_pos ⟨hlo, HAB.out, hac⟩]
          have HR := Lib.hid hr
          have HAC := Lib.hid hac
          clear hr hg hgc hac
          go_enter Try.func15, Try.ntmps15
          go_wp2_with fail
          rw [← hW1]
          clear hW1
          refine (HN.out).mono ?_
          rintro e w' ⟨rfl, rfl⟩
          rw [hne]
          clear hne
          go_wp2_with fail
          refine (HA.out).mono ?_
          rintro e w2 ⟨rfl, hb2⟩
          rw [HAB.out]
          have HV2 := Lib.hid (HV1.out.below hb2)
          have HB2 := Lib.hid (HB1.out.trans (hb2.mono HB1.out.size))
          have HM2 := Lib.hid (HM.out.same (hb2.block _ HM.out.lt))
          have HMC2 := Lib.hid (HMC.out.same (hb2.block _ HMC.out.lt))
          have hA2 := above_any ic mc' s w2 (HMC.out.same (hb2.block _ HMC.out.lt)) hmcl
          rw [aboveB_perm HPC.out, HAC.out] at hA2
          have HA2 := Lib.hid hA2
          clear hb2 hlook c0 hA2 HM HMC
          have c0 := cell_of_blk HV2.out.blk 0
          simp at c0
          have hlook := (HV2.out.out.look lawU eU_inj Try.underlying58 (zeroB _) hkl2).1
          rw [HGC.out] at hlook
          simp only at hlook
          go_wp2_with fail
          refine (HA2.out).mono ?_
          rintro e w3 ⟨rfl, hb3⟩
          have HV3 := Lib.hid (HV2.out.below hb3)
          have HB3 := Lib.hid (HB2.out.trans (hb3.mono HB2.out.size))
          have HM3 := Lib.hid (HM2.out.same (hb3.block _ HM2.out.lt))
          have HMC3 := Lib.hid (HMC2.out.same (hb3.block _ HMC2.out.lt))
          clear hb3 hlook c0 HM2 HMC2 HA HA2
          have lk : ∀ u : World, VecIs u p mb M L → (Instr.lookup (58) (.map (some mb)) (eU line) false).run Try.prog u = .ok (.map (some ib)) u := fun u hu => by
            have := (hu.out.look lawU eU_inj Try.underlying58 (zeroB _) hkl).1
            rwa [HGB.out] at this
          have lk2 : ∀ u : World, VecIs u p mb M L → (Instr.lookup (58) (.map (some mb)) (eU ot) false).run Try.prog u = .ok (.map (some ic)) u := fun u hu => by
            have := (hu.out.look lawU eU_inj Try.underlying58 (zeroB _) hkl2).1
            rwa [HGC.out] at this
          have hN : MapU (w3.alloc (.map #[] 0)).drew w3.heap.size [] := (MapIs.made (P := Try.prog) (k := (29)) (encK := eU) (encV := eU) (α := Int) (β := Int) w3).same rfl
          obtain ⟨w4, hst, hM4, hg4, hs4⟩ := hN.store lawU eU_inj Try.underlying72 (by simp [maxLen]) s hkl
          have hput : putL ([] : List (Int × Int)) line s = [(line, s)] := by simp [putL]
          rw [hput] at hM4
          have hb4 : Below w3.heap.size w3 w4 := (((Below.refl _ w3).alloc (Nat.le_refl _) _).drew).grown hg4 (by show w3.heap.size ≤ (w3.alloc (.map #[] 0)).heap.size; simp) (fun k e => by injection e with e; omega)
          have hS : ∀ u : World, VecIs u p mb M L → Below w3.heap.size w3 u → u.cell? ⟨p, 0, none⟩ = some (.map (some mb)) ∧ (Instr.lookup (58) (.map (some mb)) (eU line) false).run Try.prog u = .ok (.map (some ib)) u ∧ (Instr.lookup (58) (.map (some mb)) (eU ot) false).run Try.prog u = .ok (.map (some ic)) u ∧ VecIs u p mb M L ∧ Below w3.heap.size w3 u := fun u hu hb =>
            ⟨by have := cell_of_blk hu.blk 0; simpa using this, lk u hu, lk2 u hu, hu, hb⟩
          have hle : ∀ r : Nat, laidB ([((ib, m) : Nat × Bh), (ic, mc'), (r, [(line, s)])].map (·.2)) = laidB [b, c, [(line, s)]] := fun r => laid_perm (by
            intro d hd
            simp at hd
            rcases hd with rfl | rfl | rfl
            · exact HBG.out.1.ok.perm HPM.out.symm
            · exact HCG.out.1.ok.perm HPC.out.symm
            · exact one_ok hs0 HBG.out.2 hs) (by
            intro d hd
            simp at hd
            rcases hd with rfl | rfl | rfl
            · exact HBG.out.1.ok
            · exact HCG.out.1.ok
            · exact one_ok hs0 HBG.out.2 hs) (by simpa using HPM.out.append (HPC.out.append (List.Perm.refl [(line, s)])))
          have hla : Calls Try.prog (38) #[.pointer (some ⟨p, 0, none⟩), .int .u64 line, .slice (some ⟨w4.heap.size, 0, none⟩) 3 3] (w4.alloc (.cells #[.map (some ib), .map (some ic), .map (some w3.heap.size)] (72))) (fun e w' => ∃ p' mb' M', e = .returned (.pointer (some ⟨p', 0, none⟩)) ∧ VecIs w' p' mb' M' (putS L line (laidB [b, c, [(line, s)]])) ∧ Below w3.heap.size w3 w') := by
            obtain ⟨W4, hW4⟩ : ∃ W4 : World, W4 = w4.alloc (.cells #[.map (some ib), .map (some ic), .map (some w3.heap.size)] (72)) := ⟨_, rfl⟩
            have hb5 : Below w4.heap.size w4 W4 := by rw [hW4]; exact (Below.refl _ _).alloc (Nat.le_refl _) _
            have hbb : Below w3.heap.size w3 W4 := hb4.trans (hb5.mono hb4.size)
            have hlc := laid_any p mb M L line (some ⟨w4.heap.size, 0, none⟩) 3 [(ib, m), (ic, mc'), (w3.heap.size, [(line, s)])] W4 (HV3.out.below hbb) HG.out.srt (elsM_lit _ (t := (72)) (by rw [hW4]; exact blk_new_at rfl _)) (by
              intro q hq
              simp only [List.mem_cons, List.not_mem_nil, or_false] at hq
              rcases hq with rfl | rfl | rfl
              · exact ⟨HM3.out.same (hbb.block _ HM3.out.lt), HBG.out.1.ok.perm HPM.out.symm⟩
              · exact ⟨HMC3.out.same (hbb.block _ HMC3.out.lt), HCG.out.1.ok.perm HPC.out.symm⟩
              · exact ⟨hM4.same (hb5.block _ hM4.lt), one_ok hs0 HBG.out.2 hs⟩) (by simp [flatU]; have := HPM.out.length_eq; have := HPC.out.length_eq; omega) (by simp) hl (by have := HS.out.len; omega)
            rw [hle] at hlc
            rw [← hW4]
            refine hlc.mono ?_
            rintro e w5 ⟨p', mb', M', rfl, hv5, hb6⟩
            exact ⟨p', mb', M', rfl, hv5, hbb.trans (hb6.mono hbb.size)⟩
          have HLA := Lib.hid hla
          have HS2 := Lib.hid hS
          have HS0 := Lib.hid (hS w3.drew (HV3.out.same (fun _ _ => rfl)) (Below.refl _ w3).drew)
          have HS1 := Lib.hid (hS (w3.alloc (.map #[] 0)).drew (HV3.out.below (((Below.refl _ w3).alloc (Nat.le_refl _) _).drew)) (((Below.refl _ w3).alloc (Nat.le_refl _) _).drew))
          have HS4 := Lib.hid (hS w4 (HV3.out.below hb4) hb4)
          have HS5 := Lib.hid (hS (w4.alloc (.cells #[.map (some ib), .map (some ic), .map (some w3.heap.size)] (72))) (HV3.out.below (hb4.alloc hb4.size _)) (hb4.alloc hb4.size _))
          clear hla hS hle lk lk2 hkl hkl2 HV1 HV2 HB1 HB2 HN HBG HCG HM3 HMC3 HGB HGC HPM HPC H HG HS hbl hcl hml hmcl HAB HAC hlo hlo2 hlo3 hs0 hN hM4 hg4 hs4 hput hb4
          go_wp2_with fail
          go_region_held3 (fun u => u.cell? ⟨p, 0, none⟩ = some (.map (some mb)) ∧ (Instr.lookup (58) (.map (some mb)) (eU line) false).run Try.prog u = .ok (.map (some ib)) u ∧ (Instr.lookup (58) (.map (some mb)) (eU ot) false).run Try.prog u = .ok (.map (some ic)) u ∧ VecIs u p mb M L ∧ Below w3.heap.size w3 u) (first | exact HS0.out | exact HS1.out | exact HS4.out | exact HS5.out | exact HS2.out _ (HV3.out.below (by assumption)) (by assumption)) (first | (go_at_call 38; (with_reducible refine (HLA.out).mono ?_); rintro e w5 ⟨p', mb', M', rfl, hv5, hb5⟩))
          all_goals
            have HE := Lib.hid (show OpPost (mergeV L line ot s) w (.returned (.tuple #[.pointer (some ⟨p', 0, none⟩), .int .i64 0])) w5 from by
              rw [HR.out]
              exact ⟨_, rfl, fun _ => ⟨p', mb', M', rfl, by assumption⟩, fun h => absurd rfl h, HB3.out.trans (Below.mono (by assumption) HB3.out.size)⟩)
            clear hst hmm
            go_wp2
            go_ret2
            exact HE.out
end Go.Proofs.Ytnnpheklgdbohaa
