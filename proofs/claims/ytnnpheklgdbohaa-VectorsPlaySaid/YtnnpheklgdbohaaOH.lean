/- vectors: Fork, Drop, First. Condition: fewer than 1000000 lines. -/
import Derived.Test.YtnnpheklgdbohaaOG
namespace Go.Proofs.Ytnnpheklgdbohaa
open Go.RowKit Go.Shelf Go.Herb

set_option maxRecDepth 100000 in
set_option maxHeartbeats 4000000 in
theorem fork_any (p mb : Nat) (M : List (Int × Nat)) (L : Vs) (line fr : Int) (w : World) (h : VecIs w p mb M L) (hG : GoodV L) (hS : Small L) (hl : U64 line) (hf : U64 fr) :
    Calls Try.prog (14) #[.pointer (some ⟨p, 0, none⟩), .int .u64 line, .int .u64 fr] w (OpPost (forkV L line fr) w) := by
  have H := Lib.hid h
  have HG := Lib.hid hG
  have HS := Lib.hid hS
  have hmm := @run_makeMap Try.prog
  clear h hG hS hmm
  obtain ⟨W1, hW1⟩ : ∃ W1 : World, W1 = w.alloc (.cells #[.int .u64 fr] (29)) := ⟨_, rfl⟩
  have hb1 : Below w.heap.size w W1 := by rw [hW1]; exact (Below.refl _ _).alloc (Nat.le_refl _) _
  have hn := needs_any p mb M L (some ⟨w.heap.size, 0, none⟩) 1 [fr] W1 (H.out.below hb1) (elsU_lit [fr] (t := (29)) (by rw [hW1]; exact blk_new_at rfl _)) (by simp; exact hf) (by simp)
  have HN := Lib.hid hn
  have HB1 := Lib.hid hb1
  have HV1 := Lib.hid (H.out.below hb1)
  have c0 := cell_of_blk HV1.out.blk 0
  simp at c0
  clear hn hb1
  cases hg : getL L fr with
  | none =>
    have hr : forkV L line fr = (7, []) := by unfold forkV; rw [hg]
    have hne := needsE_not (ls := [fr]) (by simp) hg
    have HR := Lib.hid hr
    clear hr hg
    go_enter Try.func14, Try.ntmps14
    go_wp2_with fail
    rw [← hW1]
    clear hW1
    refine (HN.out).mono ?_
    rintro e w' ⟨rfl, rfl⟩
    rw [hne]
    clear hne c0
    go_wp2
    go_ret2
    rw [HR.out]
    exact opErr (by simp) HB1.out
  | some b =>
    have hne : needsE L [fr] = 0 := needsE_of (by simp [hg])
    obtain ⟨ib, m, hg2, hM, hpm⟩ := HV1.out.has hg
    have hbG := HG.out.get hg
    have hbl := HS.out.get hg
    obtain ⟨kl, hkl⟩ := keyU hf
    obtain ⟨kl2, hkl2⟩ := keyU hl
    have hlook := (HV1.out.out.look lawU eU_inj Try.underlying58 (zeroB _) hkl).1
    have hlook2 := (HV1.out.out.look lawU eU_inj Try.underlying58 (zeroB _) hkl2).2
    rw [hg2] at hlook
    simp only at hlook
    have HM := Lib.hid hM
    have HPM := Lib.hid hpm
    have HBG := Lib.hid hbG
    clear hM hpm hbG
    cases hgl : getL L line with
    | some b2 =>
      obtain ⟨ib3, m3, hg3, _, _⟩ := HV1.out.has hgl
      rw [hg3] at hlook2
      simp only at hlook2
      have hr : forkV L line fr = (8, []) := by unfold forkV; rw [hg]; simp [hgl]
      have HR := Lib.hid hr
      clear hr hg hg2 hgl hg3
      go_enter Try.func14, Try.ntmps14
      go_wp2_with fail
      rw [← hW1]
      clear hW1
      refine (HN.out).mono ?_
      rintro e w' ⟨rfl, rfl⟩
      rw [hne]
      clear hne
      go_wp2
      go_ret2
      rw [HR.out]
      exact opErr (by simp) HB1.out
    | none =>
      rw [HV1.out.hasNot hgl] at hlook2
      simp only at hlook2
      have hr : forkV L line fr = (0, putS L line (laidB [b])) := by unfold forkV; rw [hg]; simp [hgl]
      have HR := Lib.hid hr
      clear hr hg hg2 hgl
      obtain ⟨W4, hW4⟩ : ∃ W4 : World, W4 = W1.alloc (.cells #[.map (some ib)] (72)) := ⟨_, rfl⟩
      have hb4 : Below W1.heap.size W1 W4 := by rw [hW4]; exact (Below.refl _ _).alloc (Nat.le_refl _) _
      have hla := laid_any p mb M L line (some ⟨W1.heap.size, 0, none⟩) 1 [(ib, m)] W4 (HV1.out.below hb4) HG.out.srt (elsM_lit _ (t := (72)) (by rw [hW4]; exact blk_new_at rfl _)) (by
        intro q hq
        simp only [List.mem_cons, List.not_mem_nil, or_false] at hq
        rw [hq]
        exact ⟨HM.out.same (hb4.block _ HM.out.lt), HBG.out.1.ok.perm HPM.out.symm⟩) (by simp [flatU]; have := HPM.out.length_eq; omega) (by simp) hl (by have := HS.out.len; omega)
      have hle : laidB ([((ib, m) : Nat × Bh)].map (·.2)) = laidB [b] := laid_perm (by
        intro c hc
        simp at hc
        rw [hc]
        exact HBG.out.1.ok.perm HPM.out.symm) (by
        intro c hc
        simp at hc
        rw [hc]
        exact HBG.out.1.ok) (by simpa using HPM.out)
      rw [hle] at hla
      have HLA := Lib.hid hla
      have HB4 := Lib.hid (HB1.out.trans (hb4.mono HB1.out.size))
      clear hla hle hb4
      go_enter Try.func14, Try.ntmps14
      go_wp2_with fail
      rw [← hW1]
      clear hW1
      refine (HN.out).mono ?_
      rintro e w' ⟨rfl, rfl⟩
      rw [hne]
      clear hne
      go_wp2_with fail
      rw [← hW4]
      refine (HLA.out).mono ?_
      rintro e w5 ⟨p', mb', M', rfl, hv5, hb5⟩
      have HE := Lib.hid (show OpPost (forkV L line fr) w (.returned (.tuple #[.pointer (some ⟨p', 0, none⟩), .int .i64 0])) w5 from by
        rw [HR.out]
        exact ⟨_, rfl, fun _ => ⟨p', mb', M', rfl, hv5⟩, fun h => absurd rfl h, HB4.out.trans (hb5.mono HB4.out.size)⟩)
      clear hv5 hb5 hlook hlook2 c0
      go_wp2
      go_ret2
      exact HE.out

set_option maxRecDepth 100000 in
set_option maxHeartbeats 4000000 in
theorem drop_any (p mb : Nat) (M : List (Int × Nat)) (L : Vs) (line : Int) (w : World) (h : VecIs w p mb M L) (hG : GoodV L) (hS : Small L) (hl : U64 line) :
    Calls Try.prog (25) #[.pointer (some ⟨p, 0, none⟩), .int .u64 line] w (OpPost (dropV L line) w) := by
  have H := Lib.hid h
  have HG := Lib.hid hG
  have HS := Lib.hid hS
  have hmm := @run_makeMap Try.prog
  clear h hG hS hmm
  obtain ⟨W1, hW1⟩ : ∃ W1 : World, W1 = w.alloc (.cells #[.int .u64 line] (29)) := ⟨_, rfl⟩
  have hb1 : Below w.heap.size w W1 := by rw [hW1]; exact (Below.refl _ _).alloc (Nat.le_refl _) _
  have hn := needs_any p mb M L (some ⟨w.heap.size, 0, none⟩) 1 [line] W1 (H.out.below hb1) (elsU_lit [line] (t := (29)) (by rw [hW1]; exact blk_new_at rfl _)) (by simp; exact hl) (by simp)
  have HN := Lib.hid hn
  have HB1 := Lib.hid hb1
  have HV1 := Lib.hid (H.out.below hb1)
  have c0 := cell_of_blk HV1.out.blk 0
  simp at c0
  clear hn hb1
  cases hg : getL L line with
  | none =>
    have hr : dropV L line = (7, []) := by unfold dropV; rw [hg]
    have hne := needsE_not (ls := [line]) (by simp) hg
    have HR := Lib.hid hr
    clear hr hg
    go_enter Try.func25, Try.ntmps25
    go_wp2_with fail
    rw [← hW1]
    clear hW1
    refine (HN.out).mono ?_
    rintro e w' ⟨rfl, rfl⟩
    rw [hne]
    clear hne c0
    go_wp2
    go_ret2
    rw [HR.out]
    exact opErr (by simp) HB1.out
  | some b =>
    have hne : needsE L [line] = 0 := needsE_of (by simp [hg])
    have hr : dropV L line = (0, L.filter (fun p => decide (p.1 ≠ line))) := by unfold dropV; rw [hg]
    have HR := Lib.hid hr
    obtain ⟨kl, hkl⟩ := keyU hl
    clear hr hg
    go_enter Try.func25, Try.ntmps25
    go_wp2_with fail
    rw [← hW1]
    clear hW1
    refine (HN.out).mono ?_
    rintro e w' ⟨rfl, rfl⟩
    rw [hne]
    clear hne c0
    go_wp2_with fail
    refine (copied_any p mb M W1 HV1.out.blk HV1.out.out).mono ?_
    rintro e w2 ⟨rfl, h1, h2, h3⟩
    obtain ⟨w3, M', hrun, hM3, hg3, hs3, hsub, hmem⟩ := h1.drop lawU eU_inj Try.underlying58 hkl (0)
    have c0 := cell_of_blk h2 0
    simp at c0
    have hlt2 := lt_of_blk h2
    have hb3 : Below W1.heap.size W1 w3 := h3.grown hg3 h3.size (fun k e => by injection e with e; omega)
    have HE := Lib.hid (show OpPost (dropV L line) w (.returned (.tuple #[.pointer (some ⟨W1.heap.size + 1, 0, none⟩), .int .i64 0])) w3 from by
      rw [HR.out]
      refine ⟨_, rfl, fun _ => ⟨_, W1.heap.size, M', rfl, ⟨(hg3.block _ hlt2 (fun e => by injection e with e; omega)).trans h2, hM3, ?_, fun q hq => ?_⟩⟩, fun h => absurd rfl h, HB1.out.trans (hb3.mono HB1.out.size)⟩
      · have hn2 : ((L.filter (fun p => decide (p.1 ≠ line))).map (·.1)).Nodup := SrtK.nodup (HG.out.srt.filter _)
        refine (List.perm_ext_iff_of_nodup hM3.nodup hn2).2 fun k => ?_
        constructor
        · intro hk
          obtain ⟨q, hq, rfl⟩ := List.mem_map.1 hk
          obtain ⟨h5, h6⟩ := (hmem q).1 hq
          obtain ⟨r, hr, er⟩ := List.mem_map.1 (HV1.out.keys.mem_iff.1 (List.mem_map.2 ⟨q, h5, rfl⟩))
          exact List.mem_map.2 ⟨r, List.mem_filter.2 ⟨hr, by simp; rw [er]; exact h6⟩, er⟩
        · intro hk
          obtain ⟨q, hq, rfl⟩ := List.mem_map.1 hk
          obtain ⟨h5, h6⟩ := List.mem_filter.1 hq
          simp at h6
          obtain ⟨r, hr, er⟩ := List.mem_map.1 (HV1.out.keys.mem_iff.2 (List.mem_map.2 ⟨q, h5, rfl⟩))
          exact List.mem_map.2 ⟨r, (hmem r).2 ⟨hr, by rw [er]; exact h6⟩, er⟩
      · obtain ⟨h5, h6⟩ := (hmem q).1 hq
        obtain ⟨m, b', h7, h8, h9⟩ := HV1.out.inn q h5
        refine ⟨m, b', h7.same (hb3.block _ h7.lt), ?_, h9⟩
        exact (getL_some (SrtK.nodup (HG.out.srt.filter _))).2 (List.mem_filter.2 ⟨getL_mem h8, by simpa using h6⟩))
    clear h1 h2 h3 hM3 hg3 hs3 hsub hmem hlt2 hb3
    go_wp2
    go_ret2
    exact HE.out
end Go.Proofs.Ytnnpheklgdbohaa
