/- herbariumref20.Check. Condition: at most 100000 branches, lines, vectors; 1000000 shelves, files. · A root that is being read: where its parts lie; a part more. Condition: fewer than 1000000 parts. · A shelf that is being read: where its levels lie; a table more. Condition: fewer than 1000000 tables. -/
import Derived.Test.YtchcelodeepjdaaGreatDoorZZP
import Derived.Test.YtchcelodeepjdaaGreatDoorU2
import Derived.Test.YtchcelodeepjdaaGreatDoorYE
import Derived.Test.YtchcelodeepjdaaGreatDoorZI
import Derived.Test.YtchcelodeepjdaaGreatDoorZZO
import Derived.Deep.DeepCutAuto
import Derived.Deep.RegionLaw
namespace Go.Proofs.YtchcelodeepjdaaGreatDoor.Ln
open Go.RowKit Go.Shelf Go.Herb

theorem perm_of_sub : ∀ {b a : List Int}, b.Nodup → (∀ x ∈ b, x ∈ a) → a.length = b.length → a.Perm b
  | [], a, _, _, h => by rw [List.length_eq_zero_iff.1 h]
  | y :: b, a, hn, hs, h => by
    obtain ⟨h1, h2⟩ := List.nodup_cons.1 hn
    have hy := hs y List.mem_cons_self
    have p1 := List.perm_cons_erase hy
    refine p1.trans (List.Perm.cons y (perm_of_sub h2 (fun x hx => ?_) ?_))
    · exact (List.mem_erase_of_ne (fun e => h1 (by rw [← e]; exact hx))).2 (hs x (List.mem_cons_of_mem _ hx))
    · have := p1.length_eq
      rw [List.length_cons] at this h
      omega
theorem pairR_iff {r : Rv} (hv : okV r.says.vs) : PairR r ↔ pairL r.bs r.says.vs := by
  have e : r.says.vs.map (·.1) = r.vs.map Vx.Vc.line := by
    show (Vx.vsOf r.vs).map (·.1) = _
    unfold Vx.vsOf
    rw [List.map_map]
    rfl
  have hnd : (r.vs.map Vx.Vc.line).Nodup := by
    rw [← e]
    have h1 := hv.1
    unfold SrtK at h1
    unfold List.Nodup
    rw [List.pairwise_map]
    exact h1.imp (fun {a b} h2 h3 => by omega)
  unfold PairR pairL
  rw [e]
  constructor
  · rintro ⟨h1, h2⟩
    refine perm_of_sub hnd (fun x hx => ?_) (by rw [List.length_map, List.length_map]; exact h1.symm)
    obtain ⟨v, hv, rfl⟩ := List.mem_map.1 hx
    obtain ⟨b, hb, e2⟩ := h2 v hv
    rw [← e2]
    exact List.mem_map_of_mem (f := fun q : Br => q.2.1) hb
  · intro h
    refine ⟨by have := h.length_eq; rw [List.length_map, List.length_map] at this; exact this.symm, fun v hv => ?_⟩
    have h1 := h.symm.subset (List.mem_map_of_mem (f := Vx.Vc.line) hv)
    obtain ⟨b, hb, e2⟩ := List.mem_map.1 h1
    exact ⟨b, hb, e2⟩
theorem rise_snoc {l : List Sv} {x : Sv} (h : (l.map Sv.says).Pairwise (fun a b => a.line < b.line)) (hl : ∀ y, l.getLast? = some y → y.line < x.line) : ((l ++ [x]).map Sv.says).Pairwise (fun a b => a.line < b.line) := by
  rw [List.map_append, List.pairwise_append]
  refine ⟨h, List.pairwise_singleton _ _, fun a ha b hb => ?_⟩
  rw [List.map_singleton, List.mem_singleton] at hb
  subst hb
  obtain ⟨y, hy, rfl⟩ := List.mem_map.1 ha
  rw [List.pairwise_map] at h
  show y.line < x.line
  rcases List.eq_nil_or_concat l with e | ⟨l', z, e⟩
  · rw [e] at hy; cases hy
  · subst e
    have h1 := hl z (by simp)
    rw [List.concat_eq_append, List.pairwise_append] at h
    rw [List.concat_eq_append] at hy
    rcases List.mem_append.1 hy with h2 | h2
    · have h3 : y.line < z.line := h.2.2 y h2 z (List.mem_singleton.2 rfl)
      omega
    · rw [List.mem_singleton.1 h2]; exact h1
set_option maxRecDepth 100000 in
set_option maxHeartbeats 4000000 in
theorem refCheck_any (r : Rv) (w : World) (h : RtIn w r) (hs : SmallR r) (hb : r.bs.length ≤ 100000) (hl : r.ls.length ≤ 100000) (hv : Vx.Small r.says.vs) :
    Calls Tryz.prog (21) #[rtV r] w (CheckPost r w) := by
  have HOF := Lib.hid (show ∀ u, Below w.heap.size w u → Calls Tryz.prog (54) #[.slice r.ba r.bs.length r.bc, .slice r.la r.ls.length r.lc] u (OfRPost r.bs r.ls u) from fun u hu => ofR_any r.ba r.bc r.bs.length r.la r.lc r.ls.length r.bs r.ls u (h.brs.els.ext hu) rfl (h.lns.els.ext hu) rfl h.lns.le h.lns.max hb hl (fun x hx => by have := (h.brs.all x hx).1; unfold maxLen at this; omega))
  have HOV := Lib.hid (show ∀ u, Below w.heap.size w u → Calls Tryz.prog (55) #[.slice r.va r.vs.length r.vc] u (Vx.RefOfPost r.says.vs u) from fun u hu => Vx.refOfL_any r.va r.vc r.vs u (vinE h.vcs hu) hv)
  have HPA := Lib.hid (show ∀ u, Below w.heap.size w u → Calls Tryz.prog (56) #[rtV r] u (BoolPost (PairR r) u) from fun u hu => refPaired_any r u (h.ext hu))
  have HNU := Lib.hid (show ∀ u, Below w.heap.size w u → Calls Tryz.prog (57) #[rtV r] u (BoolPost (∀ n ∈ earlyL r.says, n ≤ r.seq) u) from fun u hu => refNumbers_any r u (h.ext hu))
  have HSL := Lib.hid (show ∀ s ∈ r.sh, ∀ u, Below w.heap.size w u → Calls Tryz.prog (58) #[shV s] u (BoolPost (MayS s.says) u) from fun s hs' u hu => refShelf_any s u ((h.shs.ok s hs').ext hu) (hs.lev s hs'))
  have HFI := Lib.hid (show ∀ u, Below w.heap.size w u → Calls Tryz.prog (59) #[.slice r.sa r.sh.length r.sc] u (FilesPost r.sh u) from fun u hu => refFiles_any r.sa r.sc r.sh.length r.sh u (h.shs.ext hu) rfl hs.sh hs.files)
  have HSM := Lib.hid hs
  clear hs hb hl hv
  obtain ⟨nb, hnb⟩ : ∃ n, n = r.bs.length := ⟨_, rfl⟩
  obtain ⟨nl, hnl⟩ : ∃ n, n = r.ls.length := ⟨_, rfl⟩
  obtain ⟨nv, hnv⟩ : ∃ n, n = r.vs.length := ⟨_, rfl⟩
  obtain ⟨ns, hns⟩ : ∃ n, n = r.sh.length := ⟨_, rfl⟩
  obtain ⟨ba, hba⟩ : ∃ n, n = r.ba := ⟨_, rfl⟩
  obtain ⟨la, hla⟩ : ∃ n, n = r.la := ⟨_, rfl⟩
  obtain ⟨va, hva⟩ : ∃ n, n = r.va := ⟨_, rfl⟩
  obtain ⟨sa, hsa⟩ : ∃ n, n = r.sa := ⟨_, rfl⟩
  have hrt : rtV r = .agg #[.int .u64 r.seq, .int .u64 r.log, .int .u64 r.next, .slice ba nb r.bc, .slice la nl r.lc, .slice va nv r.vc, .slice sa ns r.sc] := by rw [hnb, hnl, hnv, hns, hba, hla, hva, hsa]
  obtain ⟨W, hW⟩ : ∃ W : World, W = w.alloc (.cells #[.int .u64 r.seq, .int .u64 r.log, .int .u64 r.next, .slice ba nb r.bc, .slice la nl r.lc, .slice va nv r.vc, .slice sa ns r.sc] (32)) := ⟨_, rfl⟩
  have hB : Below w.heap.size w W := by rw [hW]; exact (Below.refl _ _).alloc (Nat.le_refl _) _
  have hx0 : W.heap[w.heap.size]? = some (.cells #[.int .u64 r.seq, .int .u64 r.log, .int .u64 r.next, .slice ba nb r.bc, .slice la nl r.lc, .slice va nv r.vc, .slice sa ns r.sc] (32) (0, 0)) := by rw [hW]; exact blk_new_at rfl _
  have HB := Lib.hid hB
  have HW := Lib.hid hW
  have HN := Lib.hid (show r.bs.length = nb ∧ r.ls.length = nl ∧ r.vs.length = nv ∧ r.sh.length = ns from ⟨hnb.symm, hnl.symm, hnv.symm, hns.symm⟩)
  have HA0 := Lib.hid (show ba = r.ba ∧ la = r.la ∧ va = r.va ∧ sa = r.sa from ⟨hba, hla, hva, hsa⟩)
  have HVC := Lib.hid (vinE h.vcs hB)
  have HBR := Lib.hid (h.brs.els.ext hB)
  have HLN := Lib.hid (h.lns.els.ext hB)
  have HSC := Lib.hid (h.shs.ext hB)
  have HM := Lib.hid (show nb ≤ maxLen ∧ nl ≤ maxLen ∧ nv ≤ maxLen ∧ ns ≤ maxLen from ⟨by rw [hnb]; exact Nat.le_trans h.brs.le h.brs.max, by rw [hnl]; exact Nat.le_trans h.lns.le h.lns.max, by rw [hnv]; exact h.vcs.len, by rw [hns]; exact Nat.le_trans h.sl h.sm⟩)
  have HEND := Lib.hid (show ∀ e u, Below W.heap.size W u → (Below w.heap.size w u → CheckPost r w e u) → CheckPost r w e u from fun e u hu hq => hq (hB.trans (hu.mono hB.size)))
  have HC : Hid (∀ u, Below W.heap.size W u → u.cell? ⟨w.heap.size, 0, none⟩ = some (.int .u64 r.seq) ∧ u.cell? ⟨w.heap.size, 1, none⟩ = some (.int .u64 r.log) ∧ u.cell? ⟨w.heap.size, 2, none⟩ = some (.int .u64 r.next) ∧ u.cell? ⟨w.heap.size, 3, none⟩ = some (.slice ba nb r.bc) ∧ u.cell? ⟨w.heap.size, 4, none⟩ = some (.slice la nl r.lc) ∧ u.cell? ⟨w.heap.size, 5, none⟩ = some (.slice va nv r.vc) ∧ u.cell? ⟨w.heap.size, 6, none⟩ = some (.slice sa ns r.sc)) := Lib.hid (fun u hu => by
    have hq := blk_below hx0 hu (lt_of_blk hx0)
    have q0 := cell_of_blk hq 0
    have q1 := cell_of_blk hq 1
    have q2 := cell_of_blk hq 2
    have q3 := cell_of_blk hq 3
    have q4 := cell_of_blk hq 4
    have q5 := cell_of_blk hq 5
    have q6 := cell_of_blk hq 6
    simp at q0 q1 q2 q3 q4 q5 q6
    exact ⟨q0, q1, q2, q3, q4, q5, q6⟩)
  have HRT := Lib.hid hrt
  have HR := Lib.hid (h.ext hB)
  rw [hrt]
  clear h hB hx0 hnb hnl hnv hns hba hla hva hsa hrt hW
  go_enter Tryz.func21, Tryz.ntmps21
  have HOF2 := HOF.out W HB.out
  rw [HN.out.1, HN.out.2.1, ← HA0.out.1, ← HA0.out.2.1] at HOF2
  have HOF3 := Lib.hid HOF2
  have HOV2 := Lib.hid (show ∀ u, Below w.heap.size w u → Calls Tryz.prog (55) #[.slice va nv r.vc] u (Vx.RefOfPost r.says.vs u) from fun u hu => by have := HOV.out u hu; rw [HN.out.2.2.1, ← HA0.out.2.2.1] at this; exact this)
  have HFI2 := Lib.hid (show ∀ u, Below w.heap.size w u → Calls Tryz.prog (59) #[.slice sa ns r.sc] u (FilesPost r.sh u) from fun u hu => by have := HFI.out u hu; rw [HN.out.2.2.2, ← HA0.out.2.2.2] at this; exact this)
  have HBAD := Lib.hid (show ¬ GoodR r → ∀ u, Below W.heap.size W u → CheckPost r w (.returned (.int .i64 4)) u from fun hn u hu => ⟨4, rfl, .inr ⟨rfl, hn⟩, HB.out.trans (hu.mono HB.out.size)⟩)
  have HGOOD := Lib.hid (show GoodR r → ∀ u, Below W.heap.size W u → CheckPost r w (.returned (.int .i64 0)) u from fun hn u hu => ⟨0, rfl, .inl ⟨rfl, hn⟩, HB.out.trans (hu.mono HB.out.size)⟩)
  rw [HRT.out] at HPA HNU
  have HBw := Lib.hid (show ∀ u, Below W.heap.size W u → Below w.heap.size w u from fun u hu => HB.out.trans (hu.mono HB.out.size))
  clear HOF HOV HFI HOF2
  go_upto_region 1 with fail
  rw [← HW.out]
  obtain ⟨c0, c1, c2, c3, c4, c5, c6⟩ := HC.out W (Below.refl _ _)
  go_wp2_with fail
  refine HOF3.out.mono ?_
  rintro e w1 ⟨⟨hng, rfl⟩ | ⟨hg, p1, rfl, -⟩, hb1⟩
  case inl =>
    have HB1 := Lib.hid hb1
    have HF := Lib.hid (show ¬ GoodR r from fun h => hng h.1)
    clear hng hb1 c0 c1 c2 c3 c4 c5 c6
    obtain ⟨c0, c1, c2, c3, c4, c5, c6⟩ := HC.out w1 HB1.out
    go_wp2_with fail
    refine (HOV2.out w1 (HBw.out w1 HB1.out)).mono ?_
    rintro e w2 ⟨v, er, rfl, hb2, hv⟩
    have HB2 := Lib.hid (HB1.out.trans (hb2.mono HB1.out.size))
    have hov : v.oneCell' = true := by
      rcases hv with ⟨-, -, p2, la2, lc2, xs2, rfl, -⟩ | ⟨-, -, rfl⟩
      · rfl
      · rfl
    clear hb2 hv c0 c1 c2 c3 c4 c5 c6
    go_wp2_with fail
    go_ret
    exact HBAD.out HF.out _ HB2.out
  have HB1 := Lib.hid hb1
  have HGT := Lib.hid hg
  clear hg hb1 c0 c1 c2 c3 c4 c5 c6
  obtain ⟨c0, c1, c2, c3, c4, c5, c6⟩ := HC.out w1 HB1.out
  go_wp2_with fail
  refine (HOV2.out w1 (HBw.out w1 HB1.out)).mono ?_
  rintro e w2 ⟨v, er, rfl, hb2, ⟨rfl, hok, p2, la2, lc2, xs2, rfl, -⟩ | ⟨rfl, hnok, rfl⟩⟩
  case inr =>
    have HB2 := Lib.hid (HB1.out.trans (hb2.mono HB1.out.size))
    have HF := Lib.hid (show ¬ GoodR r from fun h => hnok h.2.vecs)
    clear hnok hb2 c0 c1 c2 c3 c4 c5 c6
    go_wp2_with fail
    go_ret
    exact HBAD.out HF.out _ HB2.out
  have HB2 := Lib.hid (HB1.out.trans (hb2.mono HB1.out.size))
  have HVO := Lib.hid hok
  clear hok hb2 c0 c1 c2 c3 c4 c5 c6
  obtain ⟨c0, c1, c2, c3, c4, c5, c6⟩ := HC.out w2 HB2.out
  go_wp2_with fail
  refine (HPA.out w2 (HBw.out w2 HB2.out)).mono ?_
  rintro e w3 ⟨q, rfl, hq, hb3⟩
  have HB3 := Lib.hid (HB2.out.trans (hb3.mono HB2.out.size))
  clear hb3 c0 c1 c2 c3 c4 c5 c6
  cases q with
  | false =>
    have HF := Lib.hid (show ¬ GoodR r from fun h => absurd (hq.2 ((pairR_iff HVO.out).2 h.2.pair)) (by simp))
    clear hq
    go_wp2_with fail
    go_ret
    exact HBAD.out HF.out _ HB3.out
  | true =>
    have HPR := Lib.hid ((pairR_iff HVO.out).1 (hq.1 rfl))
    clear hq
    obtain ⟨c0, c1, c2, c3, c4, c5, c6⟩ := HC.out w3 HB3.out
    go_wp2_with fail
    refine (HNU.out w3 (HBw.out w3 HB3.out)).mono ?_
    rintro e w4 ⟨q, rfl, hq, hb4⟩
    have HB4 := Lib.hid (HB3.out.trans (hb4.mono HB3.out.size))
    clear hb4 c0 c1 c2 c3 c4 c5 c6
    cases q with
    | false =>
      have HF := Lib.hid (show ¬ GoodR r from fun h => absurd (hq.2 h.2.early) (by simp))
      clear hq
      go_wp2_with fail
      go_ret
      exact HBAD.out HF.out _ HB4.out
    | true =>
      have HEA := Lib.hid (hq.1 rfl)
      clear hq
      obtain ⟨c0, c1, c2, c3, c4, c5, c6⟩ := HC.out w4 HB4.out
      by_cases hlog : r.log < r.next
      case neg =>
        have d1 : r.log ≥ r.next := by omega
        have d2 : decide (r.next ≤ r.log) = true := decide_eq_true (by omega)
        have HF := Lib.hid (show ¬ GoodR r from fun h => hlog h.2.log)
        go_wp2_with fail
        go_ret
        exact HBAD.out HF.out _ HB4.out
      have d1 : ¬ r.log ≥ r.next := by omega
      have d2 : decide (r.next ≤ r.log) = false := decide_eq_false (by omega)
      have HLG := Lib.hid hlog
      go_upto_region 6 with fail
      clear c0 c1 c2 c3 c4 c5 c6 d1 d2 hlog
      go_loopg [7] ns (fun gk iv wr => ∃ i : Nat, i + gk = ns ∧ iv = .int .i64 i ∧ Hid (Below W.heap.size W wr) ∧ Hid (∀ s ∈ r.sh.take i, MayS s.says) ∧ Hid (((r.sh.take i).map Sv.says).Pairwise (fun a b => a.line < b.line)))
      case atStart => exact ⟨0, by omega, rfl, HB4, Lib.hid (by simp), Lib.hid (by simp)⟩
      case round =>
        obtain ⟨i, hi, rfl, HBi, HMY, HRI⟩ := hrel
        obtain ⟨c0, c1, c2, c3, c4, c5, c6⟩ := HC.out wr HBi.out
        by_cases hlt : i < ns
        case neg =>
          have i1 : ¬ (i : Int) < (ns : Int) := by omega
          have HMA := Lib.hid (show ∀ s ∈ r.sh, MayS s.says from by have := HMY.out; rwa [List.take_of_length_le (by have := HN.out; omega)] at this)
          have HRA := Lib.hid (show (r.sh.map Sv.says).Pairwise (fun a b => a.line < b.line) from by have := HRI.out; rwa [List.take_of_length_le (by have := HN.out; omega)] at this)
          clear HMY HRI hlt
          go_wp2_with fail
          refine (HFI2.out wr (HBw.out wr HBi.out)).mono ?_
          rintro e w5 ⟨fa, nf, fc, rfl, hnf, hof, hb5⟩
          obtain ⟨fs, hfs⟩ : ∃ l, l = filesL (r.sh.map Sv.says) := ⟨_, rfl⟩
          rw [← hfs] at hnf hof
          have hfl : nf ≤ 1000000 := by rw [hnf, hfs]; exact HSM.out.files
          have HFS := Lib.hid hfs
          have HB5 := Lib.hid (HBi.out.trans (hb5.mono HBi.out.size))
          have HNF := Lib.hid (show fs.length = nf from hnf.symm)
          obtain ⟨fa', fc', e1, -, hel⟩ := els_of_owns Vx.nu_len hof
          injection e1 with e1 e2 e3
          subst e1
          have HFE := Lib.hid hel
          clear hfs hnf hof hb5 c0 c1 c2 c3 c4 c5 c6 hel e2 e3
          go_upto_region 12 with fail
          go_loopg [9] nf (fun gk iv wr => ∃ i : Nat, i + gk = nf ∧ iv = .int .i64 i ∧ Hid (Below w5.heap.size w5 wr) ∧ Hid (∀ f ∈ fs.take i, f < r.next) ∧ Hid ((fs.take i).Nodup))
          case atStart => exact ⟨0, by omega, rfl, Lib.hid (Below.refl _ _), Lib.hid (by simp), Lib.hid (by simp)⟩
          case round =>
            obtain ⟨j, hj, rfl, HBj, HBE, HND⟩ := hrel
            have HWj := Lib.hid (HB5.out.trans (HBj.out.mono HB5.out.size))
            obtain ⟨c0, c1, c2, c3, c4, c5, c6⟩ := HC.out wr HWj.out
            by_cases hjl : j < nf
            case neg =>
              have j1 : ¬ (j : Int) < (nf : Int) := by omega
              have HG := Lib.hid (show GoodR r from ⟨HGT.out, HVO.out, HPR.out, HEA.out, HLG.out, ⟨fun s hs => by
                obtain ⟨x, hx, rfl⟩ := List.mem_map.1 (show s ∈ r.sh.map Sv.says from hs)
                exact HMA.out x hx, HRA.out, by
                have := HND.out
                rw [List.take_of_length_le (by have := HNF.out; omega), HFS.out] at this
                exact this, by
                have := HBE.out
                rw [List.take_of_length_le (by have := HNF.out; omega), HFS.out] at this
                exact this⟩⟩)
              clear HBE HND
              go_wp2_with fail
              go_ret
              exact HGOOD.out HG.out _ HWj.out
            have hjf : j < fs.length := by have := HNF.out; omega
            obtain ⟨b, o, hfa, hlb, hcx⟩ := (HFE.out.ext HBj.out).get j hjf
            have HTJ := Lib.hid (List.take_succ_eq_append_getElem hjf)
            have HMJ := Lib.hid (show fs[j] ∈ filesL r.says.sh from by rw [show filesL r.says.sh = fs from HFS.out.symm]; exact List.getElem_mem hjf)
            have HGJ := Lib.hid (List.getElem?_eq_getElem hjf)
            generalize fs[j] = z at hcx HTJ HMJ HGJ
            have HZ := Lib.hid (show ∀ u, Below wr.heap.size wr u → u.cell? ⟨b, o + j, none⟩ = some (.int .u64 z) from fun u hu => (hu.cell (p := ⟨b, o + j, none⟩) hlb).trans (by have := hcx 0 _ rfl; simpa using this))
            have g0 := HZ.out wr (Below.refl _ _)
            have j0 : (0 : Int) ≤ (j : Int) := by omega
            have j1 : (j : Int) < (nf : Int) := by omega
            have HWJ := Lib.hid (show IntKind.i64.wrap ((j : Int) + 1) = (j : Int) + 1 from IntWalk.i64_in _ (by omega))
            subst hfa
            clear hcx
            by_cases hge : z < r.next
            case neg =>
              have d1 : z ≥ r.next := by omega
              have d2 : decide (r.next ≤ z) = true := decide_eq_true (by omega)
              have HF := Lib.hid (show ¬ GoodR r from fun h => hge (h.2.shelved.below z HMJ.out))
              go_wp2_with fail
              go_quiet (fail)
              go_wp2_with fail
              go_ret
              exact HBAD.out HF.out _ (below_drewN HWj.out _)
            have d1 : ¬ z ≥ r.next := by omega
            have d2 : decide (r.next ≤ z) = false := decide_eq_false (by omega)
            go_upto_region 14 with fail
            go_quiet (fail)
            go_upto_region 17 with fail
            obtain ⟨wo, hwo⟩ : ∃ x : World, x = wr := ⟨_, rfl⟩
            subst hwo
            obtain ⟨g1, hg1⟩ : ∃ x, x = gk := ⟨_, rfl⟩
            subst hg1
            clear c0 c1 c2 c3 c4 c5 c6 g0 d1 d2
            go_loopg [10] j (fun gk kv wr => ∃ k : Nat, k + gk = j ∧ kv = .int .i64 k ∧ Hid (Below wo.heap.size wo wr) ∧ Hid (z ∉ fs.take k))
            case atStart => exact ⟨0, by omega, rfl, Lib.hid (below_drewN (Below.refl _ _) _), Lib.hid (by simp)⟩
            case round =>
              obtain ⟨k, hk, rfl, HBk, HNK⟩ := hrel
              have HWk := Lib.hid (HWj.out.trans (HBk.out.mono HWj.out.size))
              by_cases hkj : k < j
              case neg =>
                have k1 : ¬ (k : Int) < (j : Int) := by omega
                have HBE2 := Lib.hid (show ∀ f ∈ fs.take (j + 1), f < r.next from by
                  rw [HTJ.out]
                  intro f hf
                  rcases List.mem_append.1 hf with h | h
                  · exact HBE.out f h
                  · rw [List.mem_singleton.1 h]; exact hge)
                have HND2 := Lib.hid (show (fs.take (j + 1)).Nodup from by
                  rw [HTJ.out, List.nodup_append]
                  refine ⟨HND.out, by simp, fun a ha b hb e => ?_⟩
                  rw [List.mem_singleton] at hb
                  have hk2 : k = j := by omega
                  have := HNK.out
                  rw [hk2] at this
                  exact this (by rw [← hb, ← e]; exact ha))
                have hwj := HWJ.out
                clear HNK
                go_wp2_with fail
                go_roundg (g1 - 1)
                case measure => omega
                case rel => exact ⟨j + 1, by omega, by go_num, Lib.hid (HBj.out.trans (HBk.out.mono HBj.out.size)), HBE2, HND2⟩
              have hkf : k < fs.length := by have := HNF.out; omega
              obtain ⟨b2, o2, hfa2, hlb2, hcx2⟩ := ((HFE.out.ext HBj.out).ext HBk.out).get k hkf
              have HTKK := Lib.hid (List.take_succ_eq_append_getElem hkf)
              have HGK := Lib.hid (List.getElem?_eq_getElem hkf)
              generalize fs[k] = y at hcx2 HTKK HGK
              cases hfa2
              have g1c := hcx2 0 _ rfl
              simp only [Nat.mul_one, Nat.add_zero] at g1c
              have g0 := HZ.out wr HBk.out
              have k0 : (0 : Int) ≤ (k : Int) := by omega
              have k1 : (k : Int) < (j : Int) := by omega
              have k2 : (k : Int) < (nf : Int) := by omega
              have hwk : IntKind.i64.wrap ((k : Int) + 1) = (k : Int) + 1 := IntWalk.i64_in _ (by omega)
              clear hcx2
              by_cases hyz : y = z
              · have d1 : (y == z) = true := beq_iff_eq.2 hyz
                have HF := Lib.hid (show ¬ GoodR r from fun h => by
                  have h1 := h.2.shelved.apart
                  have e1 : filesL r.says.sh = fs := HFS.out.symm
                  rw [e1] at h1
                  have h2 := HGK.out
                  rw [hyz, ← HGJ.out] at h2
                  have := (List.getElem?_inj hkf h1).1 h2
                  omega)
                clear hyz
                go_wp2_with fail
                go_quiet (fail)
                go_wp2_with fail
                go_ret
                exact HBAD.out HF.out _ (below_drewN HWk.out _)
              · have d1 : (y == z) = false := beq_eq_false_iff_ne.2 hyz
                have HNK2 := Lib.hid (show z ∉ fs.take (k + 1) from by
                  rw [HTKK.out, List.mem_append, List.mem_singleton]
                  rintro (h | h)
                  · exact HNK.out h
                  · exact hyz h.symm)
                clear hyz
                go_wp2_with fail
                go_quiet (fail)
                go_wp2_with fail
                go_roundg (gk - 1)
                case measure => omega
                case rel => exact ⟨k + 1, by omega, by go_num, Lib.hid (below_drewN HBk.out _), HNK2⟩
        have hil : i < r.sh.length := by have := HN.out; omega
        obtain ⟨b, o, hsa, hlb, hcx⟩ := (HSC.out.els.ext HBi.out).get i hil
        have HTK := Lib.hid (List.take_succ_eq_append_getElem hil)
        have HXM := Lib.hid (List.getElem_mem hil)
        obtain ⟨k, hk⟩ : ∃ k : Nat, k = i - 1 := ⟨_, rfl⟩
        have hkl : k < r.sh.length := by omega
        obtain ⟨b2, o2, hsa2, _, hcy⟩ := (HSC.out.els.ext HBi.out).get k hkl
        rw [hsa] at hsa2
        cases hsa2
        have HPL := Lib.hid (show 0 < i → (r.sh.take i).getLast? = some r.sh[k] from fun h0 => by
          rw [List.getLast?_eq_getElem?, List.length_take, List.getElem?_take_of_lt (by omega), List.getElem?_eq_getElem (by omega)]
          congr 1
          have : min i r.sh.length - 1 = k := by omega
          simp only [this])
        have HPM := Lib.hid (show 0 < i → ∀ (q : r.sh[k].line ≥ r.sh[i].line), ¬ GoodR r from fun h0 hq hg => by
          have h1 := hg.2.shelved.rise
          have h2 : (r.sh.map Sv.says).Pairwise (fun a b => a.line < b.line) := h1
          rw [List.pairwise_map] at h2
          have h3 : r.sh[k].says.line < r.sh[i].says.line := List.pairwise_iff_getElem.1 h2 k i hkl hil (by omega)
          have h4 : r.sh[k].says.line = r.sh[k].line := rfl
          have h5 : r.sh[i].says.line = r.sh[i].line := rfl
          omega)
        generalize r.sh[i] = s at hcx HTK HXM HPM
        generalize r.sh[k] = t at hcy HPL HPM
        have HSS := Lib.hid (HSL.out s HXM.out)
        obtain ⟨v0, hv0⟩ : ∃ v, v = lvV s.l0 := ⟨_, rfl⟩
        obtain ⟨v1, hv1⟩ : ∃ v, v = lvV s.l1 := ⟨_, rfl⟩
        obtain ⟨v2, hv2⟩ : ∃ v, v = lvV s.l2 := ⟨_, rfl⟩
        have hsv : shV s = .agg #[.int .u64 s.line, v0, v1, v2] := by rw [hv0, hv1, hv2]
        rw [hsv] at HSS
        have o0 : v0.oneCell' = true := by rw [hv0]; rfl
        have o1 : v1.oneCell' = true := by rw [hv1]; rfl
        have o2' : v2.oneCell' = true := by rw [hv2]; rfl
        have HSH := Lib.hid (show ∀ u, Below wr.heap.size wr u → u.cell? ⟨b, o + i * 4, none⟩ = some (.int .u64 s.line) ∧ u.cell? ⟨b, o + i * 4 + 1, none⟩ = some v0 ∧ u.cell? ⟨b, o + i * 4 + 2, none⟩ = some v1 ∧ u.cell? ⟨b, o + i * 4 + 3, none⟩ = some v2 ∧ u.cell? ⟨b, o + k * 4, none⟩ = some (.int .u64 t.line) from fun u hu => ⟨(hu.cell (p := ⟨b, o + i * 4, none⟩) hlb).trans (hcx 0 _ rfl), (hu.cell (p := ⟨b, o + i * 4 + 1, none⟩) hlb).trans (by rw [hv0]; exact hcx 1 _ rfl), (hu.cell (p := ⟨b, o + i * 4 + 2, none⟩) hlb).trans (by rw [hv1]; exact hcx 2 _ rfl), (hu.cell (p := ⟨b, o + i * 4 + 3, none⟩) hlb).trans (by rw [hv2]; exact hcx 3 _ rfl), (hu.cell (p := ⟨b, o + k * 4, none⟩) hlb).trans (hcy 0 _ rfl)⟩)
        have i0 : (0 : Int) ≤ (i : Int) := by omega
        have i1 : (i : Int) < (ns : Int) := by omega
        have HNS := Lib.hid (show ns ≤ 1000000 from by have := HN.out.2.2.2; have := HSM.out.sh; omega)
        have hw1 : IntKind.i64.wrap ((i : Int) + 1) = (i : Int) + 1 := IntWalk.i64_in _ (by have := HNS.out; omega)
        have HWK := Lib.hid (show 0 < i → IntKind.i64.wrap ((i : Int) - 1) = (k : Int) from fun h => by rw [IntWalk.i64_in _ (by have := HNS.out; omega)]; omega)
        have hk0 : (0 : Int) ≤ (k : Int) := by omega
        have hk1 : (k : Int) < (ns : Int) := by omega
        have hsa := HA0.out.2.2.2.trans hsa
        subst hsa
        clear hcx hcy hv0 hv1 hv2 hsv hkl hk
        have HKP : Hid (∀ u, Below wr.heap.size wr u → u.cell? ⟨w.heap.size, 6, none⟩ = some (.slice (some ⟨b, o, none⟩) ns r.sc) ∧ u.cell? ⟨b, o + i * 4, none⟩ = some (.int .u64 s.line) ∧ u.cell? ⟨b, o + i * 4 + 1, none⟩ = some v0 ∧ u.cell? ⟨b, o + i * 4 + 2, none⟩ = some v1 ∧ u.cell? ⟨b, o + i * 4 + 3, none⟩ = some v2 ∧ u.cell? ⟨b, o + k * 4, none⟩ = some (.int .u64 t.line)) := Lib.hid (fun u hu => ⟨(HC.out u (HBi.out.trans (hu.mono HBi.out.size))).2.2.2.2.2.2, HSH.out u hu⟩)
        obtain ⟨q, hq⟩ : ∃ q : Bool, q = true ↔ MayS s.says := by
          by_cases h : MayS s.says
          · exact ⟨true, ⟨fun _ => h, fun _ => rfl⟩⟩
          · exact ⟨false, ⟨(fun e => by cases e), fun e => absurd e h⟩⟩
        have HQ := Lib.hid hq
        have HK1 := Lib.hid (show ∀ u, Below wr.heap.size wr u → Calls Tryz.prog (58) #[.agg #[.int .u64 s.line, v0, v1, v2]] u (fun e w' => e = .returned (.bool q) ∧ Below u.heap.size u w') from fun u hu => (HSS.out u (HBw.out u (HBi.out.trans (hu.mono HBi.out.size)))).mono (fun e w' ⟨q', h1, h2, h3⟩ => ⟨by
          rw [h1]
          have : q' = q := by
            cases q' <;> cases q <;> first | rfl | (exact absurd (HQ.out.2 (h2.1 rfl)) (by simp)) | (exact absurd (h2.2 (HQ.out.1 rfl)) (by simp))
          rw [this], h3⟩))
        clear hq
        go_upto_region 8 with fail
        clear c0 c1 c2 c3 c4 c5 c6
        refine Rc.ck8_all q HKP HK1 i0 i1 o0 o1 o2' HWK.out hk0 hk1 (by rintro ch ⟨t, d⟩ ⟨t', d'⟩ w' rfl h; exact h) ?_
        intro v55 v56 v57 v58 v59 v60 v61 v62 v63 v64 v65 v66 v67 v68 v69 v70 v71 v72 v73 v74 v75 v76 v77 v78 v79 v80 wq hbu
        have HBu := Lib.hid (HBi.out.trans (hbu.mono HBi.out.size))
        clear hbu
        cases hbad : (!q || (decide (0 < i) && decide (s.line ≤ t.line))) with
        | true =>
          have HF := Lib.hid (show ¬ GoodR r from fun h => by
            have h1 := HQ.out.2 (h.2.shelved.may s.says (List.mem_map_of_mem (f := Sv.says) HXM.out))
            rw [h1] at hbad
            simp only [Bool.not_true, Bool.false_or, Bool.and_eq_true, decide_eq_true_eq] at hbad
            exact HPM.out hbad.1 hbad.2 h)
          clear hbad
          go_wp2
          go_ret
          exact HBAD.out HF.out _ HBu.out
        | false =>
          simp only [Bool.or_eq_false_iff, Bool.not_eq_false', Bool.and_eq_false_iff, decide_eq_false_iff_not] at hbad
          have HMY2 := Lib.hid (show ∀ s ∈ r.sh.take (i + 1), MayS s.says from by
            rw [HTK.out]
            intro y hy
            rcases List.mem_append.1 hy with h | h
            · exact HMY.out y h
            · rw [List.mem_singleton.1 h]; exact HQ.out.1 hbad.1)
          have HRI2 := Lib.hid (show ((r.sh.take (i + 1)).map Sv.says).Pairwise (fun a b => a.line < b.line) from by
            rw [HTK.out]
            refine rise_snoc HRI.out (fun y hy => ?_)
            rcases Nat.eq_zero_or_pos i with h0 | h0
            · rw [h0, List.take_zero] at hy; cases hy
            · rw [HPL.out h0] at hy
              cases hy
              rcases hbad.2 with h1 | h1
              · exact absurd h0 h1
              · omega)
          clear hbad
          go_wp2
          go_roundg (gk - 1)
          case measure => omega
          case rel => exact ⟨i + 1, by omega, by go_num, HBu, HMY2, HRI2⟩
end Go.Proofs.YtchcelodeepjdaaGreatDoor.Ln

namespace Go.Herb
open Go

theorem getA_len : ∀ (l : List Int) (i n m : Nat) (r : List Int), getA i n l = some (m, r) → r.length + 1 ≤ l.length
  | [], i, n, m, r, h => by cases h
  | c :: l, i, n, m, r, h => by
    rw [getA_cons] at h
    split at h
    · cases h
    · split at h
      · cases h; simp
      · have := getA_len l _ _ _ _ h
        rw [List.length_cons]
        omega
theorem getN_len {l r : List Int} {m : Nat} (h : getN l = some (m, r)) : r.length + 1 ≤ l.length := getA_len l 0 0 m r h
theorem getT_len {l r : List Int} {s : ByteArray} (h : getT l = some (s, r)) : s.size + r.length + 1 ≤ l.length := by
  unfold getT at h
  cases hg : getN l with
  | none => rw [hg] at h; cases h
  | some q =>
    obtain ⟨n, r1⟩ := q
    rw [hg] at h
    simp only at h
    split at h
    · rename_i hle
      cases h
      have := getN_len hg
      rw [show (strOf (r1.take n)).size = (r1.take n).length from by simp [strOf, ByteArray.size], List.length_take, List.length_drop]
      omega
    · cases h
end Go.Herb
namespace Go.Proofs.YtchcelodeepjdaaGreatDoor.Ln
open Go.RowKit Go.Shelf Go.Herb

theorem infoLn : (Tryz.prog.info? (53)).map (fun i => (i.zero, i.size, i.bytes)) = some (some (.agg #[.int .u64 0, .int .u64 0]), 2, 16) := by kernel_rfl
abbrev OwnBr (B : Nat) (w : World) (v : Value) (xs : List Br) : Prop := w.ownsRow B (73) 3 v xs.length (xs.flatMap brc)
abbrev OwnT (B : Nat) (w : World) (v : Value) (ts : List Tb) : Prop := w.ownsRow B (51) 4 v ts.length (ts.flatMap tbc)
abbrev OwnLn (B : Nat) (w : World) (v : Value) (xs : List Ln) : Prop := w.ownsRow B (53) 2 v xs.length (xs.flatMap lnc)
def BrW (x : Br) : Prop := x.1.size ≤ maxLen ∧ U64 x.2.1 ∧ U64 x.2.2
def LnW (x : Ln) : Prop := U64 x.1 ∧ U64 x.2
/-- A root that is being read. -/
structure RootSt (p B : Nat) (w u : World) (zs : List Int) (sq lg nx : Int) (nb nl nv : Nat) (ba : Option Addr) (bc : Nat) (la : Option Addr) (lc : Nat) (va : Option Addr) (vC : Nat) (bs : List Br) (ls : List Ln) (vs : List Vx.Vc) : Prop where
  rs : RS p B w u zs w.heap.size #[.int .u64 sq, .int .u64 lg, .int .u64 nx, .slice ba nb bc, .slice la nl lc, .slice va nv vC, .slice none 0 0] (32)
  lb : bs.length = nb
  ll : ls.length = nl
  lv : vs.length = nv
  ob : OwnBr w.heap.size u (.slice ba nb bc) bs
  ol : OwnLn w.heap.size u (.slice la nl lc) ls
  ov : Vx.OwnV w.heap.size u (.slice va nv vC) vs
  op : ∀ v ∈ vs, Vx.OwnP w.heap.size u (.slice v.a v.ps.length v.c) v.ps
  wb : ∀ x ∈ bs, BrW x
  wl : ∀ x ∈ ls, LnW x
  wv : ∀ v ∈ vs, Go.Herb.U64 v.line ∧ ∀ q ∈ v.ps, Go.Herb.U64 q.1 ∧ Go.Herb.U64 q.2
section
variable {p B : Nat} {w u : World} {zs : List Int} {sq lg nx : Int} {nb nl nv : Nat} {ba la va : Option Addr} {bc lc vC : Nat} {bs : List Br} {ls : List Ln} {vs : List Vx.Vc}
theorem RootSt.next {u' : World} {zs' : List Int} (h : RootSt p B w u zs sq lg nx nb nl nv ba bc la lc va vC bs ls vs) (ht : TurnI p u u') (hr : ReadAt u' p B zs') : RootSt p B w u' zs' sq lg nx nb nl nv ba bc la lc va vC bs ls vs :=
  ⟨h.rs.next ht hr, h.lb, h.ll, h.lv, own_turn h.ob ht h.rs.hp, own_turn h.ol ht h.rs.hp, own_turn h.ov ht h.rs.hp, fun v hv => own_turn (h.op v hv) ht h.rs.hp, h.wb, h.wl, h.wv⟩
theorem RootSt.alloc (h : RootSt p B w u zs sq lg nx nb nl nv ba bc la lc va vC bs ls vs) (o : Obj) : RootSt p B w (u.alloc o) zs sq lg nx nb nl nv ba bc la lc va vC bs ls vs :=
  ⟨h.rs.alloc o, h.lb, h.ll, h.lv, own_alloc h.ob o, own_alloc h.ol o, own_alloc h.ov o, fun v hv => own_alloc (h.op v hv) o, h.wb, h.wl, h.wv⟩
theorem RootSt.ln (h : RootSt p B w u zs sq lg nx nb nl nv ba bc la lc va vC bs ls vs) (x : Ln) (hx : LnW x) (hn : nl < 1000000) :
    ∃ (a' : Option Addr) (c' : Nat) (w8 : World), (Builtin.append_ #[(28), (28)] (28) #[.slice la nl lc, .slice (some ⟨u.heap.size, 0, none⟩) 1 1]).run Tryz.prog (u.alloc (.cells #[.int .u64 x.1, .int .u64 x.2] (53))) = .ok (.slice a' (nl + 1) c') w8 ∧ w8.cell? ⟨w.heap.size, 4, none⟩ = some (.slice la nl lc) ∧ w8.frozen? ⟨w.heap.size, 4, none⟩ = false ∧ RootSt p B w (w8.setCell ⟨w.heap.size, 4, none⟩ (.slice a' (nl + 1) c')) zs sq lg nx nb (nl + 1) nv ba bc a' c' va vC bs (ls ++ [x]) vs := by
  obtain ⟨U, hU⟩ : ∃ U : World, U = u.alloc (.cells #[.int .u64 x.1, .int .u64 x.2] (53)) := ⟨_, rfl⟩
  have hA : RootSt p B w U zs sq lg nx nb nl nv ba bc la lc va vC bs ls vs := by rw [hU]; exact h.alloc _
  obtain ⟨v', w8, hr, hO, hgr⟩ := run_append_one (28) (53) _ lnc_len lnc_one Tryz.underlying28 infoLn rfl (by decide) U w.heap.size (.slice la nl lc) ls u.heap.size x #[.int .u64 x.1, .int .u64 x.2] hA.ol (by rw [hU]; exact blk_new_at rfl _) rfl (by decide) (by rw [h.ll]; exact hn) hA.rs.turn.size (28)
  rw [← hU]
  obtain ⟨a', c', hv', -, -, -, -⟩ := Vx.own_parts hO
  have hl : (ls ++ [x]).length = nl + 1 := by rw [List.length_append, h.ll]; rfl
  rw [hl] at hv'
  subst hv'
  have hG := hA.rs.grown hA.ol (Nat.le_refl _) hgr (by decide)
  refine ⟨a', c', w8, hr, ?_, frozen_of_blk hG.box 4, ?_⟩
  · have := cell_of_blk hG.box 4
    simpa using this
  have hbx := hG.box
  refine ⟨hG.store 4 _ _ rfl, h.lb, hl, h.lv, own_set (own_grown hA.ob hA.ol hgr (by decide)) hbx (by decide) _, own_set hO hbx (by decide) _, own_set (own_grown hA.ov hA.ol hgr (by decide)) hbx (by decide) _, fun v hv => own_set (own_grown (hA.op v hv) hA.ol hgr (by decide)) hbx (by decide) _, h.wb, fun y hy => by
    rcases List.mem_append.1 hy with h1 | h1
    · exact h.wl y h1
    · rw [List.mem_singleton.1 h1]; exact hx, h.wv⟩
theorem RootSt.same (h : RootSt p B w u zs sq lg nx nb nl nv ba bc la lc va vC bs ls vs) (j : Nat) (v : Value) (hc : (#[.int .u64 sq, .int .u64 lg, .int .u64 nx, .slice ba nb bc, .slice la nl lc, .slice va nv vC, .slice none 0 0] : Array Value).setIfInBounds j v = #[.int .u64 sq, .int .u64 lg, .int .u64 nx, .slice ba nb bc, .slice la nl lc, .slice va nv vC, .slice none 0 0]) :
    RootSt p B w (u.setCell ⟨w.heap.size, j, none⟩ v) zs sq lg nx nb nl nv ba bc la lc va vC bs ls vs :=
  ⟨h.rs.store j v _ hc, h.lb, h.ll, h.lv, own_set h.ob h.rs.box (by decide) v, own_set h.ol h.rs.box (by decide) v, own_set h.ov h.rs.box (by decide) v, fun x hx => own_set (h.op x hx) h.rs.box (by decide) v, h.wb, h.wl, h.wv⟩
theorem RootSt.name (_ : RootSt p B w u zs sq lg nx nb nl nv ba bc la lc va vC bs ls vs) : ∃ Z, Z = u := ⟨u, rfl⟩
end
/-- A root all of whose lists are the call's own. -/
structure RtOwn (M : Nat) (u : World) (r : Rv) : Prop where
  sq : U64 r.seq
  lg : U64 r.log
  nx : U64 r.next
  ob : OwnBr M u (.slice r.ba r.bs.length r.bc) r.bs
  ol : OwnLn M u (.slice r.la r.ls.length r.lc) r.ls
  ov : Vx.OwnV M u (.slice r.va r.vs.length r.vc) r.vs
  op : ∀ v ∈ r.vs, Vx.OwnP M u (.slice v.a v.ps.length v.c) v.ps
  os : OwnSh M u (.slice r.sa r.sh.length r.sc) r.sh
  ot : ∀ s ∈ r.sh, ∀ l ∈ s.lv, OwnT M u (lvV l) l.ts
  wb : ∀ x ∈ r.bs, BrW x
  wl : ∀ x ∈ r.ls, LnW x
  wv : ∀ v ∈ r.vs, Go.Herb.U64 v.line ∧ ∀ q ∈ v.ps, Go.Herb.U64 q.1 ∧ Go.Herb.U64 q.2
  ws : ∀ s ∈ r.sh, U64 s.line ∧ ∀ l ∈ s.lv, ∀ t ∈ l.ts, TbW t
  lp : ∀ v ∈ r.vs, v.ps.length ≤ maxLen
theorem RtOwn.kept {M : Nat} {u u' : World} {r : Rv} (h : RtOwn M u r) (hk : ∀ g cs e, u.heap[g]? = some (.cells cs e (0, 0)) → M ≤ g → e ≠ (32) → u'.heap[g]? = some (.cells cs e (0, 0))) : RtOwn M u' r :=
  ⟨h.sq, h.lg, h.nx, own_kept h.ob (fun g cs hh hg => hk g cs _ hh hg (by decide)), own_kept h.ol (fun g cs hh hg => hk g cs _ hh hg (by decide)), own_kept h.ov (fun g cs hh hg => hk g cs _ hh hg (by decide)), fun v hv => own_kept (h.op v hv) (fun g cs hh hg => hk g cs _ hh hg (by decide)), own_kept h.os (fun g cs hh hg => hk g cs _ hh hg (by decide)), fun s hs l hl => own_kept (h.ot s hs l hl) (fun g cs hh hg => hk g cs _ hh hg (by decide)), h.wb, h.wl, h.wv, h.ws, h.lp⟩
theorem RtOwn.ext {M : Nat} {u u' : World} {r : Rv} (h : RtOwn M u r) (hb : Below u.heap.size u u') : RtOwn M u' r := h.kept (fun _ _ _ hh _ _ => blk_below hh hb (lt_of_blk hh))
theorem RtOwn.turn {M p : Nat} {u u' : World} {r : Rv} (h : RtOwn M u r) (ht : TurnI p u u') (hp : p < M) : RtOwn M u' r := h.kept (fun g _ _ hh hg _ => ht.kept g _ hh (by omega))
theorem RtOwn.set {M b j : Nat} {u : World} {r : Rv} {cs : Array Value} {fr : Nat × Nat} (h : RtOwn M u r) (hb : u.heap[b]? = some (.cells cs (32) fr)) (v : Value) : RtOwn M (u.setCell ⟨b, j, none⟩ v) r :=
  h.kept (fun g _ _ hh _ hne => blk_setCell_other hh (show g ≠ b from fun e2 => by rw [e2, hb] at hh; cases hh; exact hne rfl) v)
theorem RootSt.own {p B : Nat} {w u : World} {zs : List Int} {sq lg nx : Int} {nb nl nv : Nat} {ba la va : Option Addr} {bc lc vC : Nat} {bs : List Br} {ls : List Ln} {vs : List Vx.Vc} (h : RootSt p B w u zs sq lg nx nb nl nv ba bc la lc va vC bs ls vs) (h1 : U64 sq) (h2 : U64 lg) (h3 : U64 nx) (hm : ∀ v ∈ vs, v.ps.length ≤ maxLen) : RtOwn w.heap.size u ⟨sq, lg, nx, ba, bc, bs, la, lc, ls, va, vC, vs, none, 0, []⟩ := by
  have hb := h.lb
  have hl := h.ll
  have hv := h.lv
  subst hb hl hv
  exact ⟨h1, h2, h3, h.ob, h.ol, h.ov, h.op, World.ownsRow_nil _ _ _ _, (fun s hs => by cases hs), h.wb, h.wl, h.wv, (fun s hs => by cases hs), hm⟩
theorem pc_one (x : Int × Int) : ∀ u ∈ Vx.pc x, u.oneCell' = true := by
  intro u hu; simp [Vx.pc] at hu; rcases hu with rfl | rfl <;> rfl
end Go.Proofs.YtchcelodeepjdaaGreatDoor.Ln

namespace Go.Proofs.YtchcelodeepjdaaGreatDoor.Ln
open Go.RowKit Go.Shelf Go.Herb

/-- Only blocks p and q may have changed. -/
structure T2 (p q : Nat) (A B : World) : Prop where
  size : A.heap.size ≤ B.heap.size
  kept : ∀ k o, A.heap[k]? = some o → k ≠ p → k ≠ q → B.heap[k]? = some o
theorem T2.refl (p q : Nat) (A : World) : T2 p q A A := ⟨Nat.le_refl _, fun _ _ h _ _ => h⟩
theorem T2.trans {p q : Nat} {A B C : World} (h : T2 p q A B) (k : T2 p q B C) : T2 p q A C := ⟨Nat.le_trans h.size k.size, fun b o hb h1 h2 => k.kept b o (h.kept b o hb h1 h2) h1 h2⟩
theorem T2.of_turn {p q : Nat} {A B : World} (h : TurnI p A B) : T2 p q A B := ⟨h.size, fun b o hb h1 _ => h.kept b o hb h1⟩
theorem T2.alloc {p q : Nat} {A B : World} (h : T2 p q A B) (o : Obj) : T2 p q A (B.alloc o) := h.trans (T2.of_turn (TurnI.of_below ((Below.refl _ _).alloc (Nat.le_refl _) o)))
theorem T2.set {p q j : Nat} {A B : World} (h : T2 p q A B) (v : Value) : T2 p q A (B.setCell ⟨q, j, none⟩ v) :=
  ⟨Nat.le_trans h.size (by simp [World.setCell]), fun b o hb h1 h2 => blk_setCell_other (h.kept b o hb h1 h2) (show b ≠ q from h2) v⟩
theorem T2.grown {p q : Nat} {A B C : World} {row : Option Nat} (h : T2 p q A B) (hg : B.grownBy C row) (hr : ∀ k, row = some k → A.heap.size ≤ k) : T2 p q A C :=
  ⟨Nat.le_trans h.size hg.size, fun b o hb h1 h2 => by
    have h3 := h.kept b o hb h1 h2
    exact (hg.block b (lt_of_blk h3) (fun e => by have := hr b e.symm; have := lt_of_blk hb; omega)).trans h3⟩
theorem own_t2 {p q M e s n : Nat} {A B : World} {v : Value} {xs : List Value} {cs : Array Value} {t : TypeId} {fr : Nat × Nat} (h : A.ownsRow M e s v n xs) (ht : T2 p q A B) (hp : p < M) (hq : A.heap[q]? = some (.cells cs t fr)) (hne : t ≠ e) : B.ownsRow M e s v n xs :=
  own_kept h (fun g _ hh hg => ht.kept g _ hh (by omega) (fun e2 => by rw [e2, hq] at hh; cases hh; exact hne rfl))
def Sv.set (s : Sv) (i : Nat) (l : Lv) : Sv := match i with
  | 0 => { s with l0 := l }
  | 1 => { s with l1 := l }
  | _ => { s with l2 := l }
theorem Sv.set_lv (s : Sv) (i : Nat) (hi : i < 3) (l : Lv) : (s.set i l).lv = s.lv.set i l := by
  match i, hi with
  | 0, _ => rfl
  | 1, _ => rfl
  | 2, _ => rfl
theorem Sv.set_other (s : Sv) (i j : Nat) (hi : i < 3) (l : Lv) (hij : i ≠ j) : (s.set i l).lv[j]? = s.lv[j]? := by
  rw [Sv.set_lv s i hi, List.getElem?_set_ne hij]
end Go.Proofs.YtchcelodeepjdaaGreatDoor.Ln
