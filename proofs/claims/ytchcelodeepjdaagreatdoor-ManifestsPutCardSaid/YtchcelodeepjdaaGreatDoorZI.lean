/- manifests.Check. Condition: a small root. -/
import Derived.Test.YtchcelodeepjdaaGreatDoorZL
import Derived.Test.YtchcelodeepjdaaGreatDoorLR
import Derived.Test.YtchcelodeepjdaaGreatDoorOR
namespace Go.Proofs.YtchcelodeepjdaaGreatDoor.Ln
open Go.RowKit Go.Shelf Go.Herb

/-- A root of which no part is great. -/
structure SmallR (r : Rv) : Prop where
  bs : r.bs.length < 1000000
  ls : r.ls.length < 1000000
  vs : r.vs.length < 1000000
  nums : (numsR r).length < 1000000
  sh : r.sh.length ≤ 1000000
  files : (filesL (r.sh.map Sv.says)).length ≤ 1000000
  lev : ∀ s ∈ r.sh, ∀ l ∈ s.lv, l.ts.length ≤ 1000000
def GoodR (r : Rv) : Prop := GoodT r.bs r.ls ∧ GoodS r.says
def CheckPost (r : Rv) (w : World) (e : Ending) (w' : World) : Prop := ∃ n : Int, e = .returned (.int .i64 n) ∧ ((n = 0 ∧ GoodR r) ∨ (n = 4 ∧ ¬ GoodR r)) ∧ Below w.heap.size w w'
theorem vinE {w w' : World} {a : Option Addr} {xs : List Vx.Vc} (h : Vx.VIn w a xs) (hb : Below w.heap.size w w') : Vx.VIn w' a xs := ⟨h.els.ext hb, fun x hx => (h.inn x hx).ext hb, h.wf, h.len, h.lens⟩
theorem earlyL_says (r : Rv) : earlyL r.says = numsR r := by
  unfold earlyL numsR Rv.says Vx.vsOf
  simp [List.flatMap_map]
theorem pair_iff {ys : List Int} {bs : List Br} {vs : Vs} (h1 : ys.Perm (bs.map (·.2.1))) (h2 : ys.Pairwise (· ≤ ·)) (hv : okV vs) : ys = vs.map (·.1) ↔ pairL bs vs := by
  constructor
  · intro h
    rw [h] at h1
    exact h1.symm
  · intro h
    refine sort_one (h1.trans h) h2 ?_
    rw [List.pairwise_map]
    exact hv.1.imp (fun h => by omega)
set_option maxRecDepth 100000 in
set_option maxHeartbeats 4000000 in
theorem check_any (r : Rv) (w : World) (h : RtIn w r) (hs : SmallR r) : Calls Tryz.prog (16) #[rtV r] w (CheckPost r w) := by
  obtain ⟨nb, hnb⟩ : ∃ n, n = r.bs.length := ⟨_, rfl⟩
  obtain ⟨nl, hnl⟩ : ∃ n, n = r.ls.length := ⟨_, rfl⟩
  obtain ⟨nv, hnv⟩ : ∃ n, n = r.vs.length := ⟨_, rfl⟩
  obtain ⟨ns, hns⟩ : ∃ n, n = r.sh.length := ⟨_, rfl⟩
  have hrt : rtV r = .agg #[.int .u64 r.seq, .int .u64 r.log, .int .u64 r.next, .slice r.ba nb r.bc, .slice r.la nl r.lc, .slice r.va nv r.vc, .slice r.sa ns r.sc] := by rw [hnb, hnl, hnv, hns]
  obtain ⟨W, hW⟩ : ∃ W : World, W = w.alloc (.cells #[.int .u64 r.seq, .int .u64 r.log, .int .u64 r.next, .slice r.ba nb r.bc, .slice r.la nl r.lc, .slice r.va nv r.vc, .slice r.sa ns r.sc] (32)) := ⟨_, rfl⟩
  have hB : Below w.heap.size w W := by rw [hW]; exact (Below.refl _ _).alloc (Nat.le_refl _) _
  have hx0 : W.heap[w.heap.size]? = some (.cells #[.int .u64 r.seq, .int .u64 r.log, .int .u64 r.next, .slice r.ba nb r.bc, .slice r.la nl r.lc, .slice r.va nv r.vc, .slice r.sa ns r.sc] (32) (0, 0)) := by rw [hW]; exact blk_new_at rfl _
  have HB := Lib.hid hB
  have HC : Hid (∀ u, Below W.heap.size W u → u.cell? ⟨w.heap.size, 0, none⟩ = some (.int .u64 r.seq) ∧ u.cell? ⟨w.heap.size, 1, none⟩ = some (.int .u64 r.log) ∧ u.cell? ⟨w.heap.size, 2, none⟩ = some (.int .u64 r.next) ∧ u.cell? ⟨w.heap.size, 3, none⟩ = some (.slice r.ba nb r.bc) ∧ u.cell? ⟨w.heap.size, 4, none⟩ = some (.slice r.la nl r.lc) ∧ u.cell? ⟨w.heap.size, 5, none⟩ = some (.slice r.va nv r.vc) ∧ u.cell? ⟨w.heap.size, 6, none⟩ = some (.slice r.sa ns r.sc)) := Lib.hid (fun u hu => by
    have hq := blk_below hx0 hu (lt_of_blk hx0)
    have q0 := cell_of_blk hq 0
    have q1 := cell_of_blk hq 1
    have q2 := cell_of_blk hq 2
    have q3 := cell_of_blk hq 3
    have q4 := cell_of_blk hq 4
    have q5 := cell_of_blk hq 5
    have q6 := cell_of_blk hq 6
    simp at q0 q1 q2 q3 q4 q5 q6
    exact ⟨q0, q1, q2, q3, q4, q5, q6⟩)
  have HBW := Lib.hid (show ∀ u, Below W.heap.size W u → Below w.heap.size w u from fun u hu => hB.trans (hu.mono hB.size))
  have HNO := Lib.hid (show ¬ GoodR r → ∀ u, Below W.heap.size W u → CheckPost r w (.returned (.int .i64 4)) u from fun h u hu => ⟨4, rfl, .inr ⟨rfl, h⟩, hB.trans (hu.mono hB.size)⟩)
  have HYES := Lib.hid (show GoodR r → ∀ u, Below W.heap.size W u → CheckPost r w (.returned (.int .i64 0)) u from fun h u hu => ⟨0, rfl, .inl ⟨rfl, h⟩, hB.trans (hu.mono hB.size)⟩)
  have HLO := Lib.hid (show Calls Tryz.prog (30) #[.slice r.ba nb r.bc, .slice r.la nl r.lc] W (fun e w' => ∃ tv ev, e = .returned (.tuple #[tv, .int .i64 ev]) ∧ ((ev = 4 ∧ ¬ GoodT r.bs r.ls) ∨ (ev = 0 ∧ GoodT r.bs r.ls)) ∧ Below W.heap.size W w') from (of_anyB r.ba r.bc nb r.la r.lc nl r.bs r.ls W (h.brs.els.ext hB) hnb.symm (h.lns.els.ext hB) hnl.symm (by rw [hnl]; exact h.lns.le) h.lns.max (by rw [hnb]; exact hs.bs) (by rw [hnl]; exact hs.ls) (fun x hx => (h.brs.all x hx).2.1) (fun x hx => (h.brs.all x hx).1)).mono (by
    rintro e w' ⟨⟨h, rfl⟩ | ⟨h, p, rfl, -⟩, hb⟩
    · exact ⟨_, _, rfl, .inl ⟨rfl, h⟩, hb⟩
    · exact ⟨_, _, rfl, .inr ⟨rfl, h⟩, hb⟩))
  have HVO := Lib.hid (show ∀ u, Below W.heap.size W u → Calls Tryz.prog (31) #[.slice r.va nv r.vc] u (fun e w' => ∃ xv fv, e = .returned (.tuple #[xv, .int .i64 fv]) ∧ ((fv = 4 ∧ ¬ okV r.says.vs) ∨ (fv = 0 ∧ okV r.says.vs)) ∧ Below u.heap.size u w') from fun u hu => by
    rw [hnv]
    refine (Vx.of_any r.va r.vc r.vs u (vinE h.vcs (hB.trans (hu.mono hB.size)))).mono ?_
    rintro e w' ⟨v, er, rfl, hb, ⟨rfl, h1, -⟩ | ⟨rfl, h1, rfl⟩⟩
    · exact ⟨_, _, rfl, .inr ⟨rfl, h1⟩, hb⟩
    · exact ⟨_, _, rfl, .inl ⟨rfl, h1⟩, hb⟩)
  have HPA := Lib.hid (show okV r.says.vs → ∀ (b : Bool), (b = true ↔ pairL r.bs r.says.vs) → ∀ u, Below W.heap.size W u → Calls Tryz.prog (33) #[rtV r] u (fun e w' => e = .returned (.bool b) ∧ Below u.heap.size u w') from fun hok b hb u hu => (paired_any r u (h.brs.els.ext (hB.trans (hu.mono hB.size))) (vinE h.vcs (hB.trans (hu.mono hB.size))).els (by have := hs.bs; omega) hs.vs).mono (by
    rintro e w' ⟨q, ys, rfl, h1, h2, h3, h4⟩
    have hv : r.vs.map (·.line) = r.says.vs.map (·.1) := by unfold Rv.says Vx.vsOf; simp
    rw [hv, pair_iff h1 h2 hok, ← hb] at h3
    refine ⟨?_, h4⟩
    cases q <;> cases b <;> simp_all))
  have HCM := Lib.hid (show ∀ u, Below W.heap.size W u → Calls Tryz.prog (35) #[rtV r] u (fun e w' => ∃ a c, e = .returned (.slice a (numsR r).length c) ∧ Els Vx.nu 1 w' a (numsR r) ∧ Below u.heap.size u w') from fun u hu => (commits_any r u (h.brs.els.ext (hB.trans (hu.mono hB.size))) (h.lns.els.ext (hB.trans (hu.mono hB.size))) (vinE h.vcs (hB.trans (hu.mono hB.size))).els (fun x hx => (vinE h.vcs (hB.trans (hu.mono hB.size))).inn x hx) (by have := hs.bs; omega) hs.vs (by have := hs.ls; omega) hs.nums).mono (by
    rintro e w' ⟨v, rfl, hO, hb⟩
    obtain ⟨a, c, rfl, -, hE⟩ := els_of_owns Vx.nu_len hO
    exact ⟨a, c, rfl, hE, hb⟩))
  obtain ⟨nn, hnn⟩ : ∃ n, n = (numsR r).length := ⟨_, rfl⟩
  rw [← hnn] at HCM
  have HCF := Lib.hid (show ∀ (b : Bool), (b = true ↔ ∃ x ∈ numsR r, r.seq < x) → ∀ a c u, Els Vx.nu 1 u a (numsR r) → Below W.heap.size W u → Calls Tryz.prog (34) #[.slice a nn c, .func (.func 32) #[] #[.pointer (some ⟨w.heap.size, 0, none⟩)]] u (fun e w' => e = .returned (.bool b) ∧ Below u.heap.size u w') from fun b hb a c u hE hu => (containsLate_any a c nn w.heap.size r.seq (numsR r) u hE hnn.symm (by rw [hnn]; exact hs.nums) (fun u' hu' => (HC.out u' (hu.trans (hu'.mono hu.size))).1)).mono (by
    rintro e w' ⟨q, rfl, h1, h2⟩
    rw [← hb] at h1
    refine ⟨?_, h2⟩
    cases q <;> cases b <;> simp_all))
  have HSH := Lib.hid (show ∀ (b : Bool), (b = true ↔ ShelvedL r.next (r.sh.map Sv.says)) → ∀ u, Below W.heap.size W u → Calls Tryz.prog (36) #[rtV r] u (fun e w' => e = .returned (.bool b) ∧ Below u.heap.size u w') from fun b hb u hu => (shelved_any r u (h.shs.ext (hB.trans (hu.mono hB.size))) hs.files hs.sh hs.lev).mono (by
    rintro e w' ⟨q, rfl, h1, h2⟩
    rw [← hb] at h1
    refine ⟨?_, h2⟩
    cases q <;> cases b <;> simp_all))
  rw [hrt] at HPA HCM HSH
  rw [hrt]
  have HW := Lib.hid hW
  rw [hW] at HLO
  obtain ⟨c0, c1, c2, c3, c4, c5, c6⟩ := HC.out W (Below.refl _ _)
  clear h hs hB hx0 hnb hnl hnv hns hrt hnn hW
  have HEA := Lib.hid (earlyL_says r)
  go_enter Tryz.func16, Tryz.ntmps16
  go_upto_region 2 with (go_at_call 30; (with_reducible refine HLO.out.mono ?_); rintro e w1 ⟨tv, ev, rfl, hT, hb⟩; have HT := Lib.hid hT; rw [← HW.out] at hb; have HB1 := Lib.hid hb; clear c0 c1 c2 c3 c4 c5 c6; obtain ⟨c0, c1, c2, c3, c4, c5, c6⟩ := HC.out w1 HB1.out; clear hb hT)
  go_upto_region 4 with (go_at_call 31; (with_reducible refine (HVO.out _ HB1.out).mono ?_); rintro e w2 ⟨xv, fv, rfl, hX, hb⟩; have HX := Lib.hid hX; have HB2 := Lib.hid (HB1.out.trans (hb.mono HB1.out.size)); clear c0 c1 c2 c3 c4 c5 c6; obtain ⟨c0, c1, c2, c3, c4, c5, c6⟩ := HC.out w2 HB2.out; clear hb hX)
  rcases HT.out with ⟨rfl, hno⟩ | ⟨rfl, hT⟩
  · have HF := HNO.out (fun g => hno g.1)
    clear hno
    go_wp2_with fail
    go_ret
    exact HF _ HB2.out
  rcases HX.out with ⟨rfl, hno⟩ | ⟨rfl, hok⟩
  · have HF := HNO.out (fun g => hno g.2.vecs)
    clear hno hT
    go_wp2_with fail
    go_ret
    exact HF _ HB2.out
  have HTT := Lib.hid hT
  have HOK := Lib.hid hok
  by_cases hp : pairL r.bs r.says.vs
  case neg =>
    have HF := HNO.out (fun g => hp g.2.pair)
    have HP := Lib.hid (HPA.out hok false (by simp [hp]))
    clear hp hT hok HPA HCM HCF HSH
    go_wp2_with (first | (go_at_call 33; (with_reducible refine (HP.out _ HB2.out).mono ?_); rintro e w3 ⟨rfl, hb⟩; have HB3 := Lib.hid (HB2.out.trans (hb.mono HB2.out.size)); clear c0 c1 c2 c3 c4 c5 c6; obtain ⟨c0, c1, c2, c3, c4, c5, c6⟩ := HC.out w3 HB3.out; clear hb))
    go_ret
    exact HF _ HB3.out
  have HP := Lib.hid (HPA.out hok true (by simp [hp]))
  have HPP := Lib.hid hp
  clear hp hT hok HPA
  by_cases hl : ∃ x ∈ numsR r, r.seq < x
  case pos =>
    have HF := HNO.out (fun g => by
      obtain ⟨x, hx, hlt⟩ := hl
      have := g.2.early x (by rw [HEA.out]; exact hx)
      have h2 : r.says.seq = r.seq := rfl
      omega)
    have HL := Lib.hid (HCF.out true (by simp only [true_iff]; exact hl))
    clear hl HCF HSH
    go_wp2_with (first | (go_at_call 33; (with_reducible refine (HP.out _ HB2.out).mono ?_); rintro e w3 ⟨rfl, hb⟩; have HB3 := Lib.hid (HB2.out.trans (hb.mono HB2.out.size)); clear c0 c1 c2 c3 c4 c5 c6; obtain ⟨c0, c1, c2, c3, c4, c5, c6⟩ := HC.out w3 HB3.out; clear hb) | (go_at_call 35; (with_reducible refine (HCM.out _ HB3.out).mono ?_); rintro e w4 ⟨ca, cc, rfl, hE, hb⟩; have HCE := Lib.hid hE; have HB4 := Lib.hid (HB3.out.trans (hb.mono HB3.out.size)); clear c0 c1 c2 c3 c4 c5 c6; obtain ⟨c0, c1, c2, c3, c4, c5, c6⟩ := HC.out w4 HB4.out; clear hb hE) | (go_at_call 34; (with_reducible refine (HL.out _ _ _ HCE.out HB4.out).mono ?_); rintro e w5 ⟨rfl, hb⟩; have HB5 := Lib.hid (HB4.out.trans (hb.mono HB4.out.size)); clear c0 c1 c2 c3 c4 c5 c6; obtain ⟨c0, c1, c2, c3, c4, c5, c6⟩ := HC.out w5 HB5.out; clear hb))
    go_ret
    exact HF _ HB5.out
  have HL := Lib.hid (HCF.out false (by simp only [Bool.false_eq_true, false_iff]; exact hl))
  have HE := Lib.hid (show ∀ n ∈ earlyL r.says, n ≤ r.says.seq from fun n hn => by
    rw [HEA.out] at hn
    have h2 : r.says.seq = r.seq := rfl
    by_cases h3 : r.seq < n
    · exact absurd ⟨n, hn, h3⟩ hl
    · omega)
  clear hl HCF
  by_cases hg : r.next ≤ r.log
  case pos =>
    have hd : decide (r.next ≤ r.log) = true := decide_eq_true hg
    have HF := HNO.out (fun g => by
      have h1 := g.2.log
      have h2 : r.says.log = r.log := rfl
      have h3 : r.says.next = r.next := rfl
      omega)
    clear hg HSH
    go_wp2_with (first | (go_at_call 33; (with_reducible refine (HP.out _ HB2.out).mono ?_); rintro e w3 ⟨rfl, hb⟩; have HB3 := Lib.hid (HB2.out.trans (hb.mono HB2.out.size)); clear c0 c1 c2 c3 c4 c5 c6; obtain ⟨c0, c1, c2, c3, c4, c5, c6⟩ := HC.out w3 HB3.out; clear hb) | (go_at_call 35; (with_reducible refine (HCM.out _ HB3.out).mono ?_); rintro e w4 ⟨ca, cc, rfl, hE, hb⟩; have HCE := Lib.hid hE; have HB4 := Lib.hid (HB3.out.trans (hb.mono HB3.out.size)); clear c0 c1 c2 c3 c4 c5 c6; obtain ⟨c0, c1, c2, c3, c4, c5, c6⟩ := HC.out w4 HB4.out; clear hb hE) | (go_at_call 34; (with_reducible refine (HL.out _ _ _ HCE.out HB4.out).mono ?_); rintro e w5 ⟨rfl, hb⟩; have HB5 := Lib.hid (HB4.out.trans (hb.mono HB4.out.size)); clear c0 c1 c2 c3 c4 c5 c6; obtain ⟨c0, c1, c2, c3, c4, c5, c6⟩ := HC.out w5 HB5.out; clear hb))
    go_ret
    exact HF _ HB5.out
  have hd : decide (r.next ≤ r.log) = false := decide_eq_false hg
  have HG := Lib.hid (show r.says.log < r.says.next from by
    have h2 : r.says.log = r.log := rfl
    have h3 : r.says.next = r.next := rfl
    omega)
  clear hg
  by_cases hs : ShelvedL r.next (r.sh.map Sv.says)
  case pos =>
    have HS := Lib.hid (HSH.out true (by simp only [true_iff]; exact hs))
    have HF := HYES.out ⟨HTT.out, ⟨HOK.out, HPP.out, HE.out, HG.out, hs⟩⟩
    clear hs HSH
    go_wp2_with (first | (go_at_call 33; (with_reducible refine (HP.out _ HB2.out).mono ?_); rintro e w3 ⟨rfl, hb⟩; have HB3 := Lib.hid (HB2.out.trans (hb.mono HB2.out.size)); clear c0 c1 c2 c3 c4 c5 c6; obtain ⟨c0, c1, c2, c3, c4, c5, c6⟩ := HC.out w3 HB3.out; clear hb) | (go_at_call 35; (with_reducible refine (HCM.out _ HB3.out).mono ?_); rintro e w4 ⟨ca, cc, rfl, hE, hb⟩; have HCE := Lib.hid hE; have HB4 := Lib.hid (HB3.out.trans (hb.mono HB3.out.size)); clear c0 c1 c2 c3 c4 c5 c6; obtain ⟨c0, c1, c2, c3, c4, c5, c6⟩ := HC.out w4 HB4.out; clear hb hE) | (go_at_call 34; (with_reducible refine (HL.out _ _ _ HCE.out HB4.out).mono ?_); rintro e w5 ⟨rfl, hb⟩; have HB5 := Lib.hid (HB4.out.trans (hb.mono HB4.out.size)); clear c0 c1 c2 c3 c4 c5 c6; obtain ⟨c0, c1, c2, c3, c4, c5, c6⟩ := HC.out w5 HB5.out; clear hb) | (go_at_call 36; (with_reducible refine (HS.out _ HB5.out).mono ?_); rintro e w6 ⟨rfl, hb⟩; have HB6 := Lib.hid (HB5.out.trans (hb.mono HB5.out.size)); clear c0 c1 c2 c3 c4 c5 c6; obtain ⟨c0, c1, c2, c3, c4, c5, c6⟩ := HC.out w6 HB6.out; clear hb))
    go_ret
    exact HF _ HB6.out
  have HS := Lib.hid (HSH.out false (by simp only [Bool.false_eq_true, false_iff]; exact hs))
  have HF := HNO.out (fun g => hs g.2.shelved)
  clear hs HSH
  go_wp2_with (first | (go_at_call 33; (with_reducible refine (HP.out _ HB2.out).mono ?_); rintro e w3 ⟨rfl, hb⟩; have HB3 := Lib.hid (HB2.out.trans (hb.mono HB2.out.size)); clear c0 c1 c2 c3 c4 c5 c6; obtain ⟨c0, c1, c2, c3, c4, c5, c6⟩ := HC.out w3 HB3.out; clear hb) | (go_at_call 35; (with_reducible refine (HCM.out _ HB3.out).mono ?_); rintro e w4 ⟨ca, cc, rfl, hE, hb⟩; have HCE := Lib.hid hE; have HB4 := Lib.hid (HB3.out.trans (hb.mono HB3.out.size)); clear c0 c1 c2 c3 c4 c5 c6; obtain ⟨c0, c1, c2, c3, c4, c5, c6⟩ := HC.out w4 HB4.out; clear hb hE) | (go_at_call 34; (with_reducible refine (HL.out _ _ _ HCE.out HB4.out).mono ?_); rintro e w5 ⟨rfl, hb⟩; have HB5 := Lib.hid (HB4.out.trans (hb.mono HB4.out.size)); clear c0 c1 c2 c3 c4 c5 c6; obtain ⟨c0, c1, c2, c3, c4, c5, c6⟩ := HC.out w5 HB5.out; clear hb) | (go_at_call 36; (with_reducible refine (HS.out _ HB5.out).mono ?_); rintro e w6 ⟨rfl, hb⟩; have HB6 := Lib.hid (HB5.out.trans (hb.mono HB5.out.size)); clear c0 c1 c2 c3 c4 c5 c6; obtain ⟨c0, c1, c2, c3, c4, c5, c6⟩ := HC.out w6 HB6.out; clear hb))
  go_ret
  exact HF _ HB6.out
end Go.Proofs.YtchcelodeepjdaaGreatDoor.Ln
