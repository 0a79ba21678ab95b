/- herbariumref20: key, paired, numbers. No condition. · herbariumref20.numbers. No condition. -/
import Derived.Test.YtchcelodeepjdaaGreatDoorZU
namespace Go.Proofs.YtchcelodeepjdaaGreatDoor.Ln
open Go.RowKit Go.Shelf Go.Herb

theorem refKey_any (s : ByteArray) (w : World) : Calls Tryz.prog (88) #[.string s] w (fun e w' => e = .returned (.bool (keyB s)) ∧ w' = w) := by
  obtain ⟨n, hn⟩ : ∃ n, n = s.size := ⟨_, rfl⟩
  have HK : keyB s = (decide (1 ≤ n) && decide (n ≤ 32)) := by rw [hn]; rfl
  have HS := Lib.hid HK
  clear HK
  by_cases h1 : 1 ≤ n
  · have a1 : decide ((1 : Int) ≤ (n : Int)) = true := decide_eq_true (by omega)
    by_cases h2 : n ≤ 32
    · have a2 : decide ((n : Int) ≤ (32 : Int)) = true := decide_eq_true (by omega)
      go_enter Tryz.func88, Tryz.ntmps88
      rw [hn] at a1 a2 h1 h2
      go_wp2_with fail
      go_ret
      exact ⟨by rw [HS.out, hn]; simp [h1, h2], rfl⟩
    · have a2 : decide ((n : Int) ≤ (32 : Int)) = false := decide_eq_false (by omega)
      go_enter Tryz.func88, Tryz.ntmps88
      rw [hn] at a1 a2 h1 h2
      go_wp2_with fail
      go_ret
      exact ⟨by rw [HS.out, hn]; simp [h2], rfl⟩
  · have a1 : decide ((1 : Int) ≤ (n : Int)) = false := decide_eq_false (by omega)
    go_enter Tryz.func88, Tryz.ntmps88
    rw [hn] at a1 h1
    go_wp2_with fail
    go_ret
    exact ⟨by rw [HS.out, hn]; simp [h1], rfl⟩
/-- Have the vectors' lines each a branch, and are they as many? -/
def PairR (r : Rv) : Prop := r.vs.length = r.bs.length ∧ ∀ v ∈ r.vs, ∃ b ∈ r.bs, b.2.1 = v.line
def BoolPost (P : Prop) (w : World) (e : Ending) (w' : World) : Prop := ∃ q : Bool, e = .returned (.bool q) ∧ (q = true ↔ P) ∧ Below w.heap.size w w'
theorem boolYes {P : Prop} {w w' : World} (h : P) (hb : Below w.heap.size w w') : BoolPost P w (.returned (.bool true)) w' := ⟨true, rfl, ⟨fun _ => h, fun _ => rfl⟩, hb⟩
theorem boolNo {P : Prop} {w w' : World} (h : ¬ P) (hb : Below w.heap.size w w') : BoolPost P w (.returned (.bool false)) w' := ⟨false, rfl, ⟨(fun h => by cases h), fun k => absurd k h⟩, hb⟩
set_option maxRecDepth 100000 in
set_option maxHeartbeats 2000000 in
theorem refPaired_any (r : Rv) (w : World) (h : RtIn w r) : Calls Tryz.prog (56) #[rtV r] w (BoolPost (PairR r) w) := by
  obtain ⟨nb, hnb⟩ : ∃ n, n = r.bs.length := ⟨_, rfl⟩
  obtain ⟨nl, hnl⟩ : ∃ n, n = r.ls.length := ⟨_, rfl⟩
  obtain ⟨nv, hnv⟩ : ∃ n, n = r.vs.length := ⟨_, rfl⟩
  obtain ⟨ns, hns⟩ : ∃ n, n = r.sh.length := ⟨_, rfl⟩
  obtain ⟨ba, hba⟩ : ∃ n, n = r.ba := ⟨_, rfl⟩
  obtain ⟨la, hla⟩ : ∃ n, n = r.la := ⟨_, rfl⟩
  obtain ⟨va, hva⟩ : ∃ n, n = r.va := ⟨_, rfl⟩
  obtain ⟨sa, hsa⟩ : ∃ n, n = r.sa := ⟨_, rfl⟩
  have hrt : rtV r = .agg #[.int .u64 r.seq, .int .u64 r.log, .int .u64 r.next, .slice ba nb r.bc, .slice la nl r.lc, .slice va nv r.vc, .slice sa ns r.sc] := by rw [hnb, hnl, hnv, hns, hba, hla, hva, hsa]
  obtain ⟨W, hW⟩ : ∃ W : World, W = w.alloc (.cells #[.int .u64 r.seq, .int .u64 r.log, .int .u64 r.next, .slice ba nb r.bc, .slice la nl r.lc, .slice va nv r.vc, .slice sa ns r.sc] (32)) := ⟨_, rfl⟩
  have hB : Below w.heap.size w W := by rw [hW]; exact (Below.refl _ _).alloc (Nat.le_refl _) _
  have hx0 : W.heap[w.heap.size]? = some (.cells #[.int .u64 r.seq, .int .u64 r.log, .int .u64 r.next, .slice ba nb r.bc, .slice la nl r.lc, .slice va nv r.vc, .slice sa ns r.sc] (32) (0, 0)) := by rw [hW]; exact blk_new_at rfl _
  have HB := Lib.hid hB
  have HW := Lib.hid hW
  have HN := Lib.hid (show r.bs.length = nb ∧ r.ls.length = nl ∧ r.vs.length = nv ∧ r.sh.length = ns from ⟨hnb.symm, hnl.symm, hnv.symm, hns.symm⟩)
  have HA0 := Lib.hid (show ba = r.ba ∧ la = r.la ∧ va = r.va ∧ sa = r.sa from ⟨hba, hla, hva, hsa⟩)
  have HVC := Lib.hid (vinE h.vcs hB)
  have HBR := Lib.hid (h.brs.els.ext hB)
  have HLN := Lib.hid (h.lns.els.ext hB)
  have HSC := Lib.hid (h.shs.ext hB)
  have HM := Lib.hid (show nb ≤ maxLen ∧ nl ≤ maxLen ∧ nv ≤ maxLen ∧ ns ≤ maxLen from ⟨by rw [hnb]; exact Nat.le_trans h.brs.le h.brs.max, by rw [hnl]; exact Nat.le_trans h.lns.le h.lns.max, by rw [hnv]; exact h.vcs.len, by rw [hns]; exact Nat.le_trans h.sl h.sm⟩)
  have HEND := Lib.hid (show ∀ e u, Below W.heap.size W u → (Below w.heap.size w u → BoolPost (PairR r) w e u) → BoolPost (PairR r) w e u from fun e u hu hq => hq (hB.trans (hu.mono hB.size)))
  have HC : Hid (∀ u, Below W.heap.size W u → u.cell? ⟨w.heap.size, 3, none⟩ = some (.slice ba nb r.bc) ∧ u.cell? ⟨w.heap.size, 5, none⟩ = some (.slice va nv r.vc)) := Lib.hid (fun u hu => by
    have hq := blk_below hx0 hu (lt_of_blk hx0)
    have q3 := cell_of_blk hq 3
    have q5 := cell_of_blk hq 5
    simp at q3 q5
    exact ⟨q3, q5⟩)
  have HRT := Lib.hid hrt
  have HR := Lib.hid (h.ext hB)
  rw [hrt]
  clear h hB hx0 hnb hnl hnv hns hba hla hva hsa hrt hW
  go_enter Tryz.func56, Tryz.ntmps56
  go_upto_region 1 with fail
  rw [← HW.out]
  obtain ⟨c3, c5⟩ := HC.out W (Below.refl _ _)
  by_cases h1 : nv = nb
  case neg =>
    have e1 : (((nv : Int) != (nb : Int))) = true := by simp; omega
    have e2 : ((nv : Int) == (nb : Int)) = false := beq_eq_false_iff_ne.2 (by omega)
    have e3 : (nv == nb) = false := beq_eq_false_iff_ne.2 (by omega)
    have HF := Lib.hid (show ¬ PairR r from fun h => h1 (by have := HN.out; have := h.1; omega))
    go_wp2_with fail
    go_ret
    exact HEND.out _ _ (Below.refl _ _) (boolNo HF.out)
  subst h1
  have e1 : (((nv : Int) != (nv : Int))) = false := by simp
  go_upto_region 4 with fail
  clear c3 c5 e1
  go_loopg [3] nv (fun gk iv wr => ∃ i : Nat, i + gk = nv ∧ iv = .int .i64 i ∧ Hid (Below W.heap.size W wr) ∧ Hid (∀ v ∈ r.vs.take i, ∃ b ∈ r.bs, b.2.1 = v.line))
  case atStart => exact ⟨0, by omega, rfl, Lib.hid (Below.refl _ _), Lib.hid (by simp)⟩
  case round =>
    obtain ⟨i, hi, rfl, HBw, HA⟩ := hrel
    obtain ⟨c3, c5⟩ := HC.out wr HBw.out
    by_cases hlt : i < nv
    case neg =>
      have i1 : ¬ (i : Int) < (nv : Int) := by omega
      have HT := Lib.hid (show PairR r from ⟨by have := HN.out; omega, by
        have := HA.out
        rwa [List.take_of_length_le (by have := HN.out; omega)] at this⟩)
      clear HA hlt
      go_wp2_with fail
      go_ret
      exact HEND.out _ _ HBw.out (boolYes HT.out)
    have hil : i < r.vs.length := by have := HN.out; omega
    obtain ⟨vb, vo, hva, hlb, hc⟩ := (HVC.out.els.ext HBw.out).get i hil
    have HTK := Lib.hid (List.take_succ_eq_append_getElem hil)
    have HXM := Lib.hid (List.getElem_mem hil)
    generalize r.vs[i] = x at hc HTK HXM
    have HG := Lib.hid (show ∀ u, Below wr.heap.size wr u → u.cell? ⟨vb, vo + i * 2, none⟩ = some (.int .u64 x.line) from fun u hu => (hu.cell (p := ⟨vb, vo + i * 2, none⟩) hlb).trans (hc 0 _ rfl))
    have i0 : (0 : Int) ≤ (i : Int) := by omega
    have i1 : (i : Int) < (nv : Int) := by omega
    have HW1 := Lib.hid (show IntKind.i64.wrap ((i : Int) + 1) = (i : Int) + 1 from IntWalk.i64_in _ (by have := HM.out.2.2.1; unfold maxLen at this; omega))
    have hva := HA0.out.2.2.1.trans hva
    subst hva
    clear hc
    go_upto_region 8 with fail
    clear c3 c5
    obtain ⟨wo, hwo⟩ : ∃ x, x = wr := ⟨_, rfl⟩
    subst hwo
    obtain ⟨g1, hg1⟩ : ∃ x, x = gk := ⟨_, rfl⟩
    subst hg1
    go_loopg [5, 4] nv (fun gk kv bv wr => ∃ (k : Nat) (q : Bool), k + gk = nv ∧ kv = .int .i64 k ∧ bv = .bool q ∧ Hid (q = true ↔ ∃ b ∈ r.bs.take k, b.2.1 = x.line) ∧ Hid (Below wo.heap.size wo wr))
    case atStart => exact ⟨0, false, by omega, rfl, rfl, Lib.hid (by simp), Lib.hid (Below.refl _ _)⟩
    case round =>
      obtain ⟨k, q, hk, rfl, rfl, HQ, HB9⟩ := hrel
      have HBw9 := Lib.hid (HBw.out.trans (HB9.out.mono HBw.out.size))
      obtain ⟨c3, c5⟩ := HC.out wr HBw9.out
      by_cases hkl : k < nv
      case neg =>
        have k1 : ¬ (k : Int) < (nv : Int) := by omega
        have hQ2 : q = true ↔ ∃ b ∈ r.bs, b.2.1 = x.line := by
          have := HQ.out
          rwa [List.take_of_length_le (by have := HN.out; omega)] at this
        cases q with
        | false =>
          have HF := Lib.hid (show ¬ PairR r from fun h => absurd (hQ2.2 (h.2 x HXM.out)) (by simp))
          clear hQ2 HQ
          go_wp2_with fail
          go_ret
          exact HEND.out _ _ HBw9.out (boolNo HF.out)
        | true =>
          have HA2 := Lib.hid (show ∀ v ∈ r.vs.take (i + 1), ∃ b ∈ r.bs, b.2.1 = v.line from by
            rw [HTK.out]
            intro y hy
            rcases List.mem_append.1 hy with h | h
            · exact HA.out y h
            · rw [List.mem_singleton.1 h]; exact hQ2.1 rfl)
          have hw1 := HW1.out
          clear hQ2 HQ
          go_wp2_with fail
          go_roundg (g1 - 1)
          case measure => omega
          case rel => exact ⟨i + 1, by omega, by go_num, HBw9, HA2⟩
      have hkb : k < r.bs.length := by have := HN.out; omega
      obtain ⟨bb, bo, hba, hbb, hd⟩ := (HBR.out.ext HBw9.out).get k hkb
      have HTB := Lib.hid (List.take_succ_eq_append_getElem hkb)
      generalize r.bs[k] = y at hd HTB
      have HD := Lib.hid (show ∀ u, Below wr.heap.size wr u → u.cell? ⟨bb, bo + k * 3 + 1, none⟩ = some (.int .u64 y.2.1) from fun u hu => (hu.cell (p := ⟨bb, bo + k * 3 + 1, none⟩) hbb).trans (hd 1 _ rfl))
      have d1 := HD.out wr (Below.refl _ _)
      have g0 := HG.out wr HB9.out
      have k0 : (0 : Int) ≤ (k : Int) := by omega
      have k1 : (k : Int) < (nv : Int) := by omega
      have hw2 : IntKind.i64.wrap ((k : Int) + 1) = (k : Int) + 1 := IntWalk.i64_in _ (by have := HM.out.2.2.1; unfold maxLen at this; omega)
      have HQ2 := Lib.hid (show (q || decide (y.2.1 = x.line)) = true ↔ ∃ b ∈ r.bs.take (k + 1), b.2.1 = x.line from by
        rw [HTB.out, Bool.or_eq_true, HQ.out, decide_eq_true_eq]
        constructor
        · rintro (⟨b, hb, e⟩ | e)
          · exact ⟨b, List.mem_append_left _ hb, e⟩
          · exact ⟨y, List.mem_append_right _ (List.mem_singleton.2 rfl), e⟩
        · rintro ⟨b, hb, e⟩
          rcases List.mem_append.1 hb with hb | hb
          · exact .inl ⟨b, hb, e⟩
          · rw [List.mem_singleton.1 hb] at e; exact .inr e)
      have hba := HA0.out.1.trans hba
      subst hba
      obtain ⟨q2, hq2⟩ : ∃ t, t = decide (y.2.1 = x.line) := ⟨_, rfl⟩
      have e2 : (y.2.1 == x.line) = q2 := by rw [hq2]; rfl
      rw [← hq2] at HQ2
      have HS := Lib.hid (show ∀ u, Below wr.heap.size wr u → u.cell? ⟨w.heap.size, 3, none⟩ = some (.slice (some ⟨bb, bo, none⟩) nv r.bc) ∧ u.cell? ⟨w.heap.size, 5, none⟩ = some (.slice (some ⟨vb, vo, none⟩) nv r.vc) ∧ u.cell? ⟨bb, bo + k * 3 + 1, none⟩ = some (.int .u64 y.2.1) ∧ u.cell? ⟨vb, vo + i * 2, none⟩ = some (.int .u64 x.line) from fun u hu => ⟨(HC.out u (HBw9.out.trans (hu.mono HBw9.out.size))).1, (HC.out u (HBw9.out.trans (hu.mono HBw9.out.size))).2, HD.out u hu, HG.out u (HB9.out.trans (hu.mono HB9.out.size))⟩)
      clear hd hq2
      cases q with
      | true =>
        go_wp2_with fail
        go_quiet (fail)
        go_wp2_with fail
        go_roundg (gk - 1)
        case measure => omega
        case rel => exact ⟨k + 1, true, by omega, by go_num, rfl, by rw [Bool.true_or] at HQ2; exact HQ2, Lib.hid (below_drewN HB9.out _)⟩
      | false =>
        go_wp2_with fail
        go_quiet (fail)
        go_wp2_with fail
        go_roundg (gk - 1)
        case measure => omega
        case rel => exact ⟨k + 1, q2, by omega, by go_num, rfl, by rw [Bool.false_or] at HQ2; exact HQ2, Lib.hid (below_drewN HB9.out _)⟩
end Go.Proofs.YtchcelodeepjdaaGreatDoor.Ln

namespace Go.Proofs.YtchcelodeepjdaaGreatDoor.Ln
open Go.RowKit Go.Shelf Go.Herb

theorem early_ln {r : Rv} : ∀ x ∈ r.ls, x.1 ∈ earlyL r.says := fun _ hx => List.mem_append_left _ (List.mem_append_left _ (List.mem_map_of_mem (f := fun q : Ln => q.1) hx))
theorem early_br {r : Rv} : ∀ x ∈ r.bs, x.2.2 ∈ earlyL r.says := fun _ hx => List.mem_append_left _ (List.mem_append_right _ (List.mem_map_of_mem (f := fun q : Br => q.2.2) hx))
theorem early_vc {r : Rv} : ∀ v ∈ r.vs, ∀ p ∈ v.ps, p.2 ∈ earlyL r.says := fun v hv p hp => by
  refine List.mem_append_right _ (List.mem_flatMap.2 ⟨(v.line, v.ps), ?_, List.mem_map_of_mem (f := fun q : Int × Int => q.2) hp⟩)
  exact List.mem_map_of_mem (f := fun x : Vx.Vc => (x.line, x.ps)) hv
theorem early_all {r : Rv} (h1 : ∀ x ∈ r.ls, x.1 ≤ r.seq) (h2 : ∀ x ∈ r.bs, x.2.2 ≤ r.seq) (h3 : ∀ v ∈ r.vs, ∀ p ∈ v.ps, p.2 ≤ r.seq) : ∀ n ∈ earlyL r.says, n ≤ r.seq := fun n hn => by
  rcases List.mem_append.1 hn with h | h
  · rcases List.mem_append.1 h with h | h
    · obtain ⟨x, hx, rfl⟩ := List.mem_map.1 h
      exact h1 x hx
    · obtain ⟨x, hx, rfl⟩ := List.mem_map.1 h
      exact h2 x hx
  · obtain ⟨q, hq, hn⟩ := List.mem_flatMap.1 h
    obtain ⟨v, hv, rfl⟩ := List.mem_map.1 (show q ∈ r.vs.map (fun x : Vx.Vc => (x.line, x.ps)) from hq)
    obtain ⟨p, hp, rfl⟩ := List.mem_map.1 hn
    exact h3 v hv p hp
set_option maxRecDepth 100000 in
set_option maxHeartbeats 2000000 in
theorem refNumbers_any (r : Rv) (w : World) (h : RtIn w r) : Calls Tryz.prog (57) #[rtV r] w (BoolPost (∀ n ∈ earlyL r.says, n ≤ r.seq) w) := by
  obtain ⟨nb, hnb⟩ : ∃ n, n = r.bs.length := ⟨_, rfl⟩
  obtain ⟨nl, hnl⟩ : ∃ n, n = r.ls.length := ⟨_, rfl⟩
  obtain ⟨nv, hnv⟩ : ∃ n, n = r.vs.length := ⟨_, rfl⟩
  obtain ⟨ns, hns⟩ : ∃ n, n = r.sh.length := ⟨_, rfl⟩
  obtain ⟨ba, hba⟩ : ∃ n, n = r.ba := ⟨_, rfl⟩
  obtain ⟨la, hla⟩ : ∃ n, n = r.la := ⟨_, rfl⟩
  obtain ⟨va, hva⟩ : ∃ n, n = r.va := ⟨_, rfl⟩
  obtain ⟨sa, hsa⟩ : ∃ n, n = r.sa := ⟨_, rfl⟩
  have hrt : rtV r = .agg #[.int .u64 r.seq, .int .u64 r.log, .int .u64 r.next, .slice ba nb r.bc, .slice la nl r.lc, .slice va nv r.vc, .slice sa ns r.sc] := by rw [hnb, hnl, hnv, hns, hba, hla, hva, hsa]
  obtain ⟨W, hW⟩ : ∃ W : World, W = w.alloc (.cells #[.int .u64 r.seq, .int .u64 r.log, .int .u64 r.next, .slice ba nb r.bc, .slice la nl r.lc, .slice va nv r.vc, .slice sa ns r.sc] (32)) := ⟨_, rfl⟩
  have hB : Below w.heap.size w W := by rw [hW]; exact (Below.refl _ _).alloc (Nat.le_refl _) _
  have hx0 : W.heap[w.heap.size]? = some (.cells #[.int .u64 r.seq, .int .u64 r.log, .int .u64 r.next, .slice ba nb r.bc, .slice la nl r.lc, .slice va nv r.vc, .slice sa ns r.sc] (32) (0, 0)) := by rw [hW]; exact blk_new_at rfl _
  have HB := Lib.hid hB
  have HW := Lib.hid hW
  have HN := Lib.hid (show r.bs.length = nb ∧ r.ls.length = nl ∧ r.vs.length = nv ∧ r.sh.length = ns from ⟨hnb.symm, hnl.symm, hnv.symm, hns.symm⟩)
  have HA0 := Lib.hid (show ba = r.ba ∧ la = r.la ∧ va = r.va ∧ sa = r.sa from ⟨hba, hla, hva, hsa⟩)
  have HVC := Lib.hid (vinE h.vcs hB)
  have HBR := Lib.hid (h.brs.els.ext hB)
  have HLN := Lib.hid (h.lns.els.ext hB)
  have HSC := Lib.hid (h.shs.ext hB)
  have HM := Lib.hid (show nb ≤ maxLen ∧ nl ≤ maxLen ∧ nv ≤ maxLen ∧ ns ≤ maxLen from ⟨by rw [hnb]; exact Nat.le_trans h.brs.le h.brs.max, by rw [hnl]; exact Nat.le_trans h.lns.le h.lns.max, by rw [hnv]; exact h.vcs.len, by rw [hns]; exact Nat.le_trans h.sl h.sm⟩)
  have HEND := Lib.hid (show ∀ e u, Below W.heap.size W u → (Below w.heap.size w u → BoolPost (∀ n ∈ earlyL r.says, n ≤ r.seq) w e u) → BoolPost (∀ n ∈ earlyL r.says, n ≤ r.seq) w e u from fun e u hu hq => hq (hB.trans (hu.mono hB.size)))
  have HC : Hid (∀ u, Below W.heap.size W u → u.cell? ⟨w.heap.size, 0, none⟩ = some (.int .u64 r.seq) ∧ u.cell? ⟨w.heap.size, 3, none⟩ = some (.slice ba nb r.bc) ∧ u.cell? ⟨w.heap.size, 4, none⟩ = some (.slice la nl r.lc) ∧ u.cell? ⟨w.heap.size, 5, none⟩ = some (.slice va nv r.vc)) := Lib.hid (fun u hu => by
    have hq := blk_below hx0 hu (lt_of_blk hx0)
    have q0 := cell_of_blk hq 0
    have q3 := cell_of_blk hq 3
    have q4 := cell_of_blk hq 4
    have q5 := cell_of_blk hq 5
    simp at q0 q3 q4 q5
    exact ⟨q0, q3, q4, q5⟩)
  have HRT := Lib.hid hrt
  have HR := Lib.hid (h.ext hB)
  rw [hrt]
  clear h hB hx0 hnb hnl hnv hns hba hla hva hsa hrt hW
  go_enter Tryz.func57, Tryz.ntmps57
  go_upto_region 2 with fail
  rw [← HW.out]
  go_loopg [3] nl (fun gk iv wr => ∃ i : Nat, i + gk = nl ∧ iv = .int .i64 i ∧ Hid (Below W.heap.size W wr) ∧ Hid (∀ x ∈ r.ls.take i, x.1 ≤ r.seq))
  case atStart => exact ⟨0, by omega, rfl, Lib.hid (Below.refl _ _), Lib.hid (by simp)⟩
  case round =>
    obtain ⟨i, hi, rfl, HBw, HA⟩ := hrel
    obtain ⟨c0, c3, c4, c5⟩ := HC.out wr HBw.out
    by_cases hlt : i < nl
    case pos =>
      have hil : i < r.ls.length := by have := HN.out; omega
      obtain ⟨vb, vo, hva, hlb, hc⟩ := (HLN.out.ext HBw.out).get i hil
      have HTK := Lib.hid (List.take_succ_eq_append_getElem hil)
      have HXM := Lib.hid (List.getElem_mem hil)
      generalize r.ls[i] = x at hc HTK HXM
      have g0 := hc 0 _ rfl
      (try simp only [Nat.add_zero] at g0)
      have i0 : (0 : Int) ≤ (i : Int) := by omega
      have i1 : (i : Int) < (nl : Int) := by omega
      have hw1 : IntKind.i64.wrap ((i : Int) + 1) = (i : Int) + 1 := IntWalk.i64_in _ (by have := HM.out.2.1; unfold maxLen at this; omega)
      have hva := HA0.out.2.1.trans hva
      subst hva
      obtain ⟨z, hz⟩ : ∃ z, z = x.1 := ⟨_, rfl⟩
      rw [← hz] at g0
      by_cases hgt : r.seq < z
      · have d1 : z > r.seq := hgt
        have d2 : decide (r.seq < z) = true := decide_eq_true hgt
        have HF := Lib.hid (show ¬ ∀ n ∈ earlyL r.says, n ≤ r.seq from fun h => absurd (h z (by rw [hz]; exact early_ln x HXM.out)) (by omega))
        clear hc hz
        go_wp2_with fail
        go_quiet (fail)
        go_wp2_with fail
        go_ret
        exact HEND.out _ _ (below_drewN HBw.out _) (boolNo HF.out)
      · have d1 : ¬ z > r.seq := hgt
        have d2 : decide (r.seq < z) = false := decide_eq_false hgt
        have HA2 := Lib.hid (show ∀ x ∈ r.ls.take (i + 1), x.1 ≤ r.seq from by
          rw [HTK.out]
          intro y hy
          rcases List.mem_append.1 hy with h | h
          · exact HA.out y h
          · rw [List.mem_singleton.1 h, ← hz]; omega)
        clear hc hz
        go_wp2_with fail
        go_quiet (fail)
        go_wp2_with fail
        go_roundg (gk - 1)
        case measure => omega
        case rel => exact ⟨i + 1, by omega, by go_num, Lib.hid (below_drewN HBw.out _), HA2⟩
    have i1 : ¬ (i : Int) < (nl : Int) := by omega
    have HA1 := Lib.hid (show ∀ x ∈ r.ls, x.1 ≤ r.seq from by
      have := HA.out
      rwa [List.take_of_length_le (by have := HN.out; omega)] at this)
    clear HA hlt
    go_upto_region 7 with fail
    clear c0 c3 c4 c5
    obtain ⟨wo, hwo⟩ : ∃ x, x = wr := ⟨_, rfl⟩
    subst hwo
    obtain ⟨g1, hg1⟩ : ∃ x, x = gk := ⟨_, rfl⟩
    subst hg1
    have HBo := HBw
    clear hi
    go_loopg [4] nb (fun gk iv wr => ∃ i : Nat, i + gk = nb ∧ iv = .int .i64 i ∧ Hid (Below W.heap.size W wr) ∧ Hid (∀ x ∈ r.bs.take i, x.2.2 ≤ r.seq))
    case atStart => exact ⟨0, by omega, rfl, Lib.hid HBo.out, Lib.hid (by simp)⟩
    case round =>
      obtain ⟨i, hi, rfl, HBw, HA⟩ := hrel
      obtain ⟨c0, c3, c4, c5⟩ := HC.out wr HBw.out
      by_cases hlt : i < nb
      case pos =>
        have hil : i < r.bs.length := by have := HN.out; omega
        obtain ⟨vb, vo, hva, hlb, hc⟩ := (HBR.out.ext HBw.out).get i hil
        have HTK := Lib.hid (List.take_succ_eq_append_getElem hil)
        have HXM := Lib.hid (List.getElem_mem hil)
        generalize r.bs[i] = x at hc HTK HXM
        have g0 := hc 2 _ rfl
        (try simp only [Nat.add_zero] at g0)
        have i0 : (0 : Int) ≤ (i : Int) := by omega
        have i1 : (i : Int) < (nb : Int) := by omega
        have hw1 : IntKind.i64.wrap ((i : Int) + 1) = (i : Int) + 1 := IntWalk.i64_in _ (by have := HM.out.1; unfold maxLen at this; omega)
        have hva := HA0.out.1.trans hva
        subst hva
        obtain ⟨z, hz⟩ : ∃ z, z = x.2.2 := ⟨_, rfl⟩
        rw [← hz] at g0
        by_cases hgt : r.seq < z
        · have d1 : z > r.seq := hgt
          have d2 : decide (r.seq < z) = true := decide_eq_true hgt
          have HF := Lib.hid (show ¬ ∀ n ∈ earlyL r.says, n ≤ r.seq from fun h => absurd (h z (by rw [hz]; exact early_br x HXM.out)) (by omega))
          clear hc hz
          go_wp2_with fail
          go_quiet (fail)
          go_wp2_with fail
          go_ret
          exact HEND.out _ _ (below_drewN HBw.out _) (boolNo HF.out)
        · have d1 : ¬ z > r.seq := hgt
          have d2 : decide (r.seq < z) = false := decide_eq_false hgt
          have HA2 := Lib.hid (show ∀ x ∈ r.bs.take (i + 1), x.2.2 ≤ r.seq from by
            rw [HTK.out]
            intro y hy
            rcases List.mem_append.1 hy with h | h
            · exact HA.out y h
            · rw [List.mem_singleton.1 h, ← hz]; omega)
          clear hc hz
          go_wp2_with fail
          go_quiet (fail)
          go_wp2_with fail
          go_roundg (gk - 1)
          case measure => omega
          case rel => exact ⟨i + 1, by omega, by go_num, Lib.hid (below_drewN HBw.out _), HA2⟩
      have i1 : ¬ (i : Int) < (nb : Int) := by omega
      have HA2b := Lib.hid (show ∀ x ∈ r.bs, x.2.2 ≤ r.seq from by
        have := HA.out
        rwa [List.take_of_length_le (by have := HN.out; omega)] at this)
      clear HA hlt
      go_upto_region 12 with fail
      clear c0 c3 c4 c5
      obtain ⟨wp, hwo⟩ : ∃ x, x = wr := ⟨_, rfl⟩
      subst hwo
      obtain ⟨g2, hg1⟩ : ∃ x, x = gk := ⟨_, rfl⟩
      subst hg1
      have HBp := HBw
      clear hi
      go_loopg [5] nv (fun gk iv wr => ∃ i : Nat, i + gk = nv ∧ iv = .int .i64 i ∧ Hid (Below W.heap.size W wr) ∧ Hid (∀ v ∈ r.vs.take i, ∀ p ∈ v.ps, p.2 ≤ r.seq))
      case atStart => exact ⟨0, by omega, rfl, HBp, Lib.hid (by simp)⟩
      case round =>
        obtain ⟨i, hi, rfl, HBw, HA⟩ := hrel
        obtain ⟨c0, c3, c4, c5⟩ := HC.out wr HBw.out
        by_cases hlt : i < nv
        case neg =>
          have i1 : ¬ (i : Int) < (nv : Int) := by omega
          have HA3 := Lib.hid (show ∀ v ∈ r.vs, ∀ p ∈ v.ps, p.2 ≤ r.seq from by
            have := HA.out
            rwa [List.take_of_length_le (by have := HN.out; omega)] at this)
          clear HA hlt
          go_wp2_with fail
          go_ret
          exact HEND.out _ _ HBw.out (boolYes (early_all HA1.out HA2b.out HA3.out))
        have hil : i < r.vs.length := by have := HN.out; omega
        obtain ⟨vb, vo, hva, hlb, hc⟩ := (HVC.out.els.ext HBw.out).get i hil
        have HTK := Lib.hid (List.take_succ_eq_append_getElem hil)
        have HXM := Lib.hid (List.getElem_mem hil)
        have HPS := Lib.hid (HVC.out.inn _ (List.getElem_mem hil))
        have HPL := Lib.hid (HVC.out.lens _ (List.getElem_mem hil))
        generalize r.vs[i] = v at hc HTK HXM HPS HPL
        obtain ⟨np, hnp⟩ : ∃ n, n = v.ps.length := ⟨_, rfl⟩
        obtain ⟨pa, hpa⟩ : ∃ n, n = v.a := ⟨_, rfl⟩
        have HG := Lib.hid (show ∀ u, Below wr.heap.size wr u → u.cell? ⟨vb, vo + i * 2 + 1, none⟩ = some (.slice pa np v.c) from fun u hu => (hu.cell (p := ⟨vb, vo + i * 2 + 1, none⟩) hlb).trans (by rw [hnp, hpa]; exact hc 1 _ rfl))
        have HNP := Lib.hid (show v.ps.length = np ∧ pa = v.a ∧ np ≤ maxLen from ⟨hnp.symm, hpa, by rw [hnp]; exact HPL.out⟩)
        have i0 : (0 : Int) ≤ (i : Int) := by omega
        have i1 : (i : Int) < (nv : Int) := by omega
        have HW1 := Lib.hid (show IntKind.i64.wrap ((i : Int) + 1) = (i : Int) + 1 from IntWalk.i64_in _ (by have := HM.out.2.2.1; unfold maxLen at this; omega))
        have hva := HA0.out.2.2.1.trans hva
        subst hva
        clear hc hnp hpa
        go_upto_region 15 with fail
        clear c0 c3 c4 c5
        obtain ⟨wq, hwo⟩ : ∃ x, x = wr := ⟨_, rfl⟩
        subst hwo
        obtain ⟨g3, hg1⟩ : ∃ x, x = gk := ⟨_, rfl⟩
        subst hg1
        go_loopg [6] np (fun gk kv wr => ∃ k : Nat, k + gk = np ∧ kv = .int .i64 k ∧ Hid (Below wq.heap.size wq wr) ∧ Hid (∀ p ∈ v.ps.take k, p.2 ≤ r.seq))
        case atStart => exact ⟨0, by omega, rfl, Lib.hid (Below.refl _ _), Lib.hid (by simp)⟩
        case round =>
          obtain ⟨k, hk, rfl, HBk, HK⟩ := hrel
          have HBwk := Lib.hid (HBw.out.trans (HBk.out.mono HBw.out.size))
          obtain ⟨c0, c3, c4, c5⟩ := HC.out wr HBwk.out
          have g1 := HG.out wr HBk.out
          by_cases hkl : k < np
          case neg =>
            have k1 : ¬ (k : Int) < (np : Int) := by omega
            have HA2 := Lib.hid (show ∀ v ∈ r.vs.take (i + 1), ∀ p ∈ v.ps, p.2 ≤ r.seq from by
              rw [HTK.out]
              intro y hy
              rcases List.mem_append.1 hy with h | h
              · exact HA.out y h
              · rw [List.mem_singleton.1 h]
                have := HK.out
                rwa [List.take_of_length_le (by have := HNP.out; omega)] at this)
            have hw1 := HW1.out
            clear HK
            go_wp2_with fail
            go_roundg (g3 - 1)
            case measure => omega
            case rel => exact ⟨i + 1, by omega, by go_num, HBwk, HA2⟩
          have hkb : k < v.ps.length := by have := HNP.out; omega
          obtain ⟨pb, po, hpa, hpb, hd⟩ := ((HPS.out.ext HBw.out).ext HBk.out).get k hkb
          have HTB := Lib.hid (List.take_succ_eq_append_getElem hkb)
          have HPM := Lib.hid (List.getElem_mem hkb)
          generalize v.ps[k] = y at hd HTB HPM
          have d1 := hd 1 _ rfl
          have k0 : (0 : Int) ≤ (k : Int) := by omega
          have k1 : (k : Int) < (np : Int) := by omega
          have hw2 : IntKind.i64.wrap ((k : Int) + 1) = (k : Int) + 1 := IntWalk.i64_in _ (by have := HNP.out.2.2; unfold maxLen at this; omega)
          have hpa := HNP.out.2.1.trans hpa
          subst hpa
          obtain ⟨z, hz⟩ : ∃ z, z = y.2 := ⟨_, rfl⟩
          rw [← hz] at d1
          by_cases hgt : r.seq < z
          · have e1 : z > r.seq := hgt
            have e2 : decide (r.seq < z) = true := decide_eq_true hgt
            have HF := Lib.hid (show ¬ ∀ n ∈ earlyL r.says, n ≤ r.seq from fun h => absurd (h z (by rw [hz]; exact early_vc v HXM.out y HPM.out)) (by omega))
            clear hd hz
            go_wp2_with fail
            go_quiet (fail)
            go_wp2_with fail
            go_ret
            exact HEND.out _ _ (below_drewN HBwk.out _) (boolNo HF.out)
          · have e1 : ¬ z > r.seq := hgt
            have e2 : decide (r.seq < z) = false := decide_eq_false hgt
            have HK2 := Lib.hid (show ∀ p ∈ v.ps.take (k + 1), p.2 ≤ r.seq from by
              rw [HTB.out]
              intro q hq
              rcases List.mem_append.1 hq with h | h
              · exact HK.out q h
              · rw [List.mem_singleton.1 h, ← hz]; omega)
            clear hd hz
            go_wp2_with fail
            go_quiet (fail)
            go_wp2_with fail
            go_roundg (gk - 1)
            case measure => omega
            case rel => exact ⟨k + 1, by omega, by go_num, Lib.hid (below_drewN HBk.out _), HK2⟩
end Go.Proofs.YtchcelodeepjdaaGreatDoor.Ln
