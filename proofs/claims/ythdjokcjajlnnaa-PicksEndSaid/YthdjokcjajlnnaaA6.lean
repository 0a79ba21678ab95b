/- PicksHeld: whatever is asked, it answers true. -/
import Derived.Test.YthdjokcjajlnnaaA5
import Derived.Test.YthdjokcjajlnnaaA6a
import Derived.Test.YthdjokcjajlnnaaWG
namespace Go.Proofs.Ythdjokcjajlnnaa
open Go.RowKit Go.Herb Go.Fl

attribute [local go_sem] run_min_str run_max_str

theorem ask_cell {w : World} {g : Nat} {l0 l1 l2 : Lv} {line x4 x5 x6 x7 x8 x9 : Value} {t : TypeId} (h : w.heap[g]? = some (.cells #[line, sv l0, sv l1, sv l2, x4, x5, x6, x7, x8, x9] t (0, 0))) (k : Nat) (hk : k < 3) : w.cell? ⟨g, 1 + k, none⟩ = some (sv (lvAt l0 l1 l2 k)) := by
  rw [cell_of_blk h]
  have : k = 0 ∨ k = 1 ∨ k = 2 := by omega
  rcases this with rfl | rfl | rfl <;> rfl

theorem lvAt_all {P : Lv → Prop} {l0 l1 l2 : Lv} (h0 : P l0) (h1 : P l1) (h2 : P l2) : ∀ i, i < 3 → P (lvAt l0 l1 l2 i) := by
  intro i hi
  have : i = 0 ∨ i = 1 ∨ i = 2 := by omega
  rcases this with rfl | rfl | rfl
  · exact h0
  · exact h1
  · exact h2

set_option maxRecDepth 100000 in
set_option maxHeartbeats 4000000 in
theorem picksHeld_any (line fr tt : Int) (l0 l1 l2 li lb ll : Lv) (ad : Option Addr) (cd : Nat) (ds : List Int) (w : World) (h0 : LvIn w l0) (h1 : LvIn w l1) (h2 : LvIn w l2) (hd : U64s w ad ds) :
    Calls Try.prog 4 #[.agg #[.int .u64 line, sv l0, sv l1, sv l2, .slice ad ds.length cd, .int .i64 fr, .int .i64 tt, sv li, sv lb, sv ll]] w
      fun e w' => e = .returned (.bool true) ∧ Below w.heap.size w w' := by
  have H0 := Lib.hid h0
  have H1 := Lib.hid h1
  have H2 := Lib.hid h2
  have HD := Lib.hid hd
  clear h0 h1 h2 hd
  go_enter Try.func4, Try.ntmps4
  go_wp2_with fail
  obtain ⟨W, hW⟩ : ∃ W : World, W = w.alloc (Obj.cells #[.int .u64 line, sv l0, sv l1, sv l2, .slice ad ds.length cd, .int .i64 fr, .int .i64 tt, sv li, sv lb, sv ll] 31) := ⟨_, rfl⟩
  have hB : Below w.heap.size w W := by rw [hW]; go_grown
  have s : W.heap[w.heap.size]? = some (.cells #[.int .u64 line, sv l0, sv l1, sv l2, .slice ad ds.length cd, .int .i64 fr, .int .i64 tt, sv li, sv lb, sv ll] 31 (0, 0)) := by rw [hW]; exact blk_new_at rfl _
  rw [← hW]
  clear hW
  refine (great_any line fr tt _ _ _ _ _ _ _ _ _ _ _ _ _ _ _ _ _ _ _ _ _ W).mono ?_
  rintro e w1 ⟨rfl, hb1⟩
  have hB1 : Below w.heap.size w w1 := hB.trans (hb1.mono (by have := lt_of_blk s; omega))
  have s1 := blk_below s hb1 (lt_of_blk s)
  have hz1 := lt_of_blk s1
  clear hb1 s hB
  cases hg : greatB l0.ts.length l1.ts.length l2.ts.length ds.length li.ts.length lb.ts.length ll.ts.length
  · have hgn : l0.ts.length ≤ 40 ∧ l1.ts.length ≤ 40 ∧ l2.ts.length ≤ 40 ∧ ds.length ≤ 60 := by
      simp [greatB] at hg; omega
    obtain ⟨g0, g1, g2, gd⟩ := hgn
    clear hg
    have c0 := cell_of_blk s1 0
    have c1 := cell_of_blk s1 1
    have c2 := cell_of_blk s1 2
    have c3 := cell_of_blk s1 3
    have c4 := cell_of_blk s1 4
    simp at c0 c1 c2 c3 c4
    have S1 := Lib.hid s1
    clear s1
    go_wp2_with fail
    refine (of_any line l0 l1 l2 ad cd ds w1 ((H0.out.ok g0).ext hB1) ((H1.out.ok g1).ext hB1) ((H2.out.ok g2).ext hB1) (HD.out.ext hB1) (by omega)).mono ?_
    rintro e w2 ⟨⟨pa, pc, ins⟩, ⟨qa, qc, bs⟩, rfl, hpi, hpb, hLi, hLb, hb2⟩
    simp only at hpi hpb
    obtain ⟨p, hp⟩ : ∃ p, p = ofP ds l0.ts l1.ts l2.ts := ⟨_, rfl⟩
    rw [← hp] at hpi hpb ⊢
    have HP := Lib.hid hp
    have HLi := Lib.hid hLi
    have HLb := Lib.hid hLb
    have hB2 : Below w.heap.size w w2 := hB1.trans (hb2.mono (by omega))
    have s2 := blk_below S1.out hb2 hz1
    have hz2 := lt_of_blk s2
    clear hp hLi hLb hb2 c0 c1 c2 c3 c4 S1
    have c0 := cell_of_blk s2 0
    have c1 := cell_of_blk s2 1
    have c2 := cell_of_blk s2 2
    have c3 := cell_of_blk s2 3
    have c4 := cell_of_blk s2 4
    simp at c0 c1 c2 c3 c4
    have S2 := Lib.hid s2
    clear s2
    cases his : p.is
    · have hno := ofP_no ds l0.ts l1.ts l2.ts (HP.out ▸ his)
      rw [← HP.out] at hno
      have hni : ins = [] := hpi.trans hno.1
      have hnb : bs = [] := hpb.trans hno.2
      subst hni hnb
      clear hno hpi hpb his
      simp only [List.length_nil]
      go_wp2_with fail
      refine (lives_any _).mono ?_
      rintro e w8 ⟨rfl, hb8⟩
      have hB8 : Below w.heap.size w w8 := Below.trans (by go_grown) (hb8.mono (by simp; omega))
      clear hb8
      go_wp2
      go_ret
      exact ⟨rfl, hB8⟩
    · have hok := ofP_ok ds l0 l1 l2 (HP.out ▸ his)
      rw [← HP.out] at hok
      obtain ⟨hf3, ht3, hft, hft1, hin, hsame, hrem, hnext⟩ := hok
      rw [← hpi] at hin hrem hnext
      rw [← hpb] at hrem hsame hnext
      obtain ⟨f, hf⟩ : ∃ f, f = p.frm := ⟨_, rfl⟩
      obtain ⟨t, ht⟩ : ∃ t, t = p.to := ⟨_, rfl⟩
      rw [← hf, ← ht] at hft hft1 hrem hnext ⊢
      rw [← hf] at hf3
      rw [← ht] at ht3
      rw [← hf, ← ht] at hsame
      clear hpi hpb hf ht his HP
      clear p
      have HSAME := Lib.hid hsame
      have HREM := Lib.hid hrem
      have HNEXT := Lib.hid hnext
      have HIN := Lib.hid hin
      clear hsame hrem hnext hin
      go_wp2_with fail
      obtain ⟨V, hV⟩ : ∃ V : World, V = w2.alloc (Obj.cells #[.int .i64 f, .int .i64 t, .slice pa ins.length pc, .slice qa bs.length qc] 29) := ⟨_, rfl⟩
      have hBV : Below w2.heap.size w2 V := by rw [hV]; exact (Below.refl _ _).alloc (Nat.le_refl _) _
      have q : V.heap[w2.heap.size]? = some (.cells #[.int .i64 f, .int .i64 t, .slice pa ins.length pc, .slice qa bs.length qc] 29 (0, 0)) := by rw [hV]; exact blk_new_at rfl _
      have hBwV : Below w.heap.size w V := hB2.trans (hBV.mono (by omega))
      have sV := blk_below S2.out hBV hz2
      rw [← hV]
      have hlv : ∀ i, i < 3 → LvOk V (lvAt l0 l1 l2 i) := lvAt_all ((H0.out.ok g0).ext hBwV) ((H1.out.ok g1).ext hBwV) ((H2.out.ok g2).ext hBwV)
      have hLiV := HLi.out.ext hBV
      have hLbV := HLb.out.ext hBV
      have hil : ins.length ≤ 1000 := hLiV.len
      have hbl : bs.length ≤ 1000 := hLbV.len
      clear hV c0 c1 c2 c3 c4
      refine (after_any line (lvAt l0 l1 l2) f t hf3 ht3 hft hft1 pa pc ins qa qc bs none 0 [] V hlv hLiV.tabs (by omega) hLiV.nil0 hLbV.tabs (by omega) hLbV.nil0 HIN.out (.inl ⟨rfl, rfl, rfl⟩) HREM.out).mono ?_
      rintro e w4 ⟨m, rfl, hm, hpm, hb4⟩
      have hqV := lt_of_blk q
      have q4 := blk_below q hb4 hqV
      have s4 := blk_below sV hb4 (lt_of_blk sV)
      have hB4 : Below w.heap.size w w4 := hBwV.trans (hb4.mono (by omega))
      have hI4 := hLiV.tabs.ext hb4
      have hlen : ∀ i, i < 3 → (if i = f then ins.length else 0) + (if i = t then bs.length else 0) + (m i).ts.length = (lvAt l0 l1 l2 i).ts.length ∧ (lvAt l0 l1 l2 i).ts.length ≤ 1000 := by
        intro i hi
        refine ⟨?_, (hlv i hi).len⟩
        have h := (hpm i hi).length_eq
        have h2 : (if i = t then ([] : List T) else []) = [] := by split <;> rfl
        rw [h2] at h
        simp only [some3, List.length_append, List.append_nil] at h
        rw [← h]
        congr 2
        · split <;> rfl
        · split <;> rfl
      have hmeet : f < t → ∀ x ∈ (m t).ts, meetB x (spanL ins) = false := by
        intro hlt
        refine rest_of_filter (l := (lvAt l0 l1 l2 t).ts) (fun x => meetB x (spanL ins)) ?_
        have h := hpm t ht3
        simp only [some3, if_pos, if_neg (show ¬ t = f by omega), List.nil_append, List.append_nil] at h
        rw [← HNEXT.out hlt]
        exact h
      have hpos : 0 < ins.length := List.length_pos_iff.2 HIN.out
      have HLE := Lib.hid (fun i hi => by have := hlen i hi; omega : ∀ i, i < 3 → (m i).ts.length ≤ 1000)
      have HLEN := Lib.hid hlen
      have HMEET := Lib.hid hmeet
      have HM := Lib.hid hm
      have HI4 := Lib.hid hI4
      have hz4 := lt_of_blk q4
      have hzs := lt_of_blk s4
      obtain ⟨d0, d1, d2, d3, -⟩ := blk_cells4 q4
      have Q4 := Lib.hid q4
      have S4 := Lib.hid s4
      obtain ⟨P0, hP0⟩ : ∃ P0, P0 = w2.heap.size := ⟨_, rfl⟩
      rw [← hP0] at d0 d1 d2 d3 Q4 hz4 hz2 ⊢
      clear hP0 q q4 s4 sV hb4 hB2 hBV hBwV hlv hLiV hLbV hI4 hlen hmeet hm hpm S2 HLi HLb HREM HNEXT H0 H1 H2 HD hqV hB1 hz1
      go_upto_region 7 with (fail)
      obtain ⟨W5, hW5⟩ : ∃ W5 : World, W5 = w4.alloc (Obj.cells #[.int .u64 line, sv (m 0), sv (m 1), sv (m 2)] 26) := ⟨_, rfl⟩
      have hB5 : Below w4.heap.size w4 W5 := by rw [hW5]; exact (Below.refl _ _).alloc (Nat.le_refl _) _
      have r5 : W5.heap[w4.heap.size]? = some (.cells #[.int .u64 line, sv (m 0), sv (m 1), sv (m 2)] 26 (0, 0)) := by rw [hW5]; exact blk_new_at rfl _
      rw [← hW5]
      have q5 := blk_below Q4.out hB5 hz4
      have s5 := blk_below S4.out hB5 hzs
      have HB5 := Lib.hid (hB4.trans (hB5.mono (by have := hB4.size; omega)))
      have HM5 := Lib.hid (fun i hi => ((HM.out i hi).1).ext hB5 : ∀ i, i < 3 → Tabs W5 (m i).a (m i).ts)
      have HI5 := Lib.hid (HI4.out.ext hB5)
      have hz5 := lt_of_blk r5
      obtain ⟨S0, hS0⟩ : ∃ S0, S0 = w4.heap.size := ⟨_, rfl⟩
      rw [← hS0] at r5 hz5 hz4 hzs ⊢
      have R5 := Lib.hid r5
      have Q5 := Lib.hid q5
      have S5 := Lib.hid s5
      clear hW5 d0 d1 d2 d3 hB5 Q4 S4 HM HI4 hB4 hS0 r5 q5 s5
      obtain ⟨d0, d1, d2, d3, -⟩ := blk_cells4 Q5.out
      go_cut [78] (fun v wx => v = .bool false ∧ wx = W5)
      case first =>
        as_aux_lemma =>
          have hb0 : ((ins.length : Int) == 0) = false := by simp; exact HIN.out
          by_cases htf : t = f
          · have hbs : bs = [] := HSAME.out htf
            subst htf hbs
            clear HLEN HMEET HM5 HI5 R5 Q5 S5 HSAME HIN
            simp only [List.length_nil] at *
            go_wp2_with fail
            go_meet
            exact ⟨rfl, rfl⟩
          · have ht1 : t = f + 1 := by omega
            have hb1 : ((t : Int) == (f : Int)) = false := by simp; omega
            have hw1 : IntKind.i64.wrap ((f : Int) + 1) = (f : Int) + 1 := IntWalk.i64_in _ (by omega)
            have hb2 : ((t : Int) == (f : Int) + 1) = true := by simp; omega
            clear HLEN HMEET HM5 HI5 R5 Q5 S5 HSAME HIN
            go_wp2_with fail
            go_meet
            exact ⟨rfl, rfl⟩
      case rest =>
      obtain ⟨rfl, rfl⟩ := hcut
      clear d0 d1 d2 d3 HSAME
      go_wp2_with fail
      go_loopg [7] 3 (fun gk iv wr => ∃ k : Nat, k + gk = 3 ∧ iv = .int .i64 k ∧ wr = wc)
      case atStart => exact ⟨0, rfl, rfl, rfl⟩
      case round =>
        obtain ⟨k, hk, rfl, rfl⟩ := hrel
        obtain ⟨d0, d1, d2, d3, -⟩ := blk_cells4 Q5.out
        by_cases hlt : k < 3
        · have e1 : wr.cell? ⟨w.heap.size, 1 + k, none⟩ = some (.slice (lvAt l0 l1 l2 k).a (lvAt l0 l1 l2 k).ts.length (lvAt l0 l1 l2 k).cap) := ask_cell S5.out k hlt
          have e2 : wr.cell? ⟨S0, 1 + k, none⟩ = some (.slice (m k).a (m k).ts.length (m k).cap) := three_cell (f := fun i => sv (m i)) R5.out k hlt
          obtain ⟨hl1, hl2⟩ := HLEN.out k hlt
          obtain ⟨n, hn⟩ : ∃ n, n = (lvAt l0 l1 l2 k).ts.length := ⟨_, rfl⟩
          obtain ⟨mk, hmk⟩ : ∃ mk, mk = (m k).ts.length := ⟨_, rfl⟩
          rw [← hn] at e1 hl1 hl2
          rw [← hmk] at e2 hl1
          clear hn hmk
          have hi0 : (0 : Int) ≤ (k : Int) := by omega
          have hi1 : (k : Int) < 3 := by omega
          by_cases hkf : k = f
          · by_cases hkt : k = t
            · skip
              rw [if_pos hkf, if_pos hkt] at hl1
              have b1 : ((k : Int) == (f : Int)) = true := by simp; omega
              have b2 : ((k : Int) == (t : Int)) = true := by simp; omega
              have b3 : ((mk : Int) == (n : Int) - ins.length - bs.length) = true := beq_iff_eq.2 (by omega)
              clear hkf hkt
              go_wp2_with fail
              go_roundg (gk - 1)
              case measure => omega
              case rel => exact ⟨k + 1, by omega, by go_num, rfl⟩
            · skip
              rw [if_pos hkf, if_neg hkt] at hl1
              have b1 : ((k : Int) == (f : Int)) = true := by simp; omega
              have b2 : ((k : Int) == (t : Int)) = false := by simp; omega
              have b3 : ((mk : Int) == (n : Int) - ins.length) = true := beq_iff_eq.2 (by omega)
              clear hkf hkt
              go_wp2_with fail
              go_roundg (gk - 1)
              case measure => omega
              case rel => exact ⟨k + 1, by omega, by go_num, rfl⟩
          · by_cases hkt : k = t
            · skip
              rw [if_neg hkf, if_pos hkt] at hl1
              have b1 : ((k : Int) == (f : Int)) = false := by simp; omega
              have b2 : ((k : Int) == (t : Int)) = true := by simp; omega
              have b3 : ((mk : Int) == (n : Int) - bs.length) = true := beq_iff_eq.2 (by omega)
              clear hkf hkt
              go_wp2_with fail
              go_roundg (gk - 1)
              case measure => omega
              case rel => exact ⟨k + 1, by omega, by go_num, rfl⟩
            · skip
              rw [if_neg hkf, if_neg hkt] at hl1
              have b1 : ((k : Int) == (f : Int)) = false := by simp; omega
              have b2 : ((k : Int) == (t : Int)) = false := by simp; omega
              have b3 : ((mk : Int) == (n : Int)) = true := beq_iff_eq.2 (by omega)
              clear hkf hkt
              go_wp2_with fail
              go_roundg (gk - 1)
              case measure => omega
              case rel => exact ⟨k + 1, by omega, by go_num, rfl⟩
        · have hk3 : k = 3 := by omega
          subst hk3
          clear hlt hk
          obtain ⟨W5, rfl⟩ : ∃ W5 : World, W5 = wr := ⟨_, rfl⟩
          obtain ⟨g5, rfl⟩ : ∃ g5 : Nat, g5 = gk := ⟨_, rfl⟩
          obtain ⟨b, o, rfl, hb, hc⟩ := HI5.out.get 0 hpos
          have e0 := hc 0 _ rfl
          have e1 := hc 1 _ rfl
          have e2 := hc 2 _ rfl
          have e3 := hc 3 _ rfl
          simp only [Nat.zero_mul, Nat.add_zero] at e0 e1 e2 e3
          obtain ⟨x0, hx0⟩ : ∃ x0, x0 = ins[0] := ⟨_, rfl⟩
          rw [← hx0] at e0 e1 e2 e3
          have HX0 := Lib.hid hx0
          have hip : (0 : Int) < (ins.length : Int) := by omega
          clear hc hx0 HLEN
          go_wp2_with fail
          clear e0 e1 e2 e3 d0 d1 d2 d3
          go_loopg [10] ins.length (fun gk iv wr => ∃ k : Nat, k + gk = ins.length ∧ iv = .int .i64 k ∧ Below W5.heap.size W5 wr ∧ wr.heap[W5.heap.size]? = some (.cells (tc (spanK x0 ins k)).toArray 45 (0, 0)))
          case atStart => exact ⟨0, by omega, rfl, by go_grown, blk_new _ _⟩
          case round =>
            obtain ⟨k, hk, rfl, hB9, hO⟩ := hrel
            obtain ⟨tb, htb⟩ : ∃ tb, tb = spanK x0 ins k := ⟨_, rfl⟩
            rw [← htb] at hO
            have HO := Lib.hid hO
            have HT := Lib.hid htb
            have hsz : W5.heap.size < wr.heap.size := lt_of_blk hO
            obtain ⟨t0, t1, t2, t3, f0, f1, f2, f3⟩ := blk_cells4 hO
            have q9 := blk_below Q5.out hB9 (by omega)
            obtain ⟨d0, d1, d2, d3, -⟩ := blk_cells4 q9
            have HB9 := Lib.hid hB9
            clear htb hO
            by_cases hlt : k < ins.length
            · obtain ⟨b', o', ha, hb', hc⟩ := HI5.out.get k hlt
              injection ha with ha
              injection ha with ha1 ha2
              subst ha1 ha2
              have g2 := (hB9.cell (p := ⟨b, _, none⟩) hb).trans (hc 2 _ rfl)
              have g3 := (hB9.cell (p := ⟨b, _, none⟩) hb).trans (hc 3 _ rfl)
              generalize hx : ins[k] = x at *
              have HX := Lib.hid hx
              have hbne : ¬ W5.heap.size = b := by omega
              have hpne : ¬ W5.heap.size = P0 := by omega
              clear hc hx hB9 q9 hb'
              go_wp2
              go_region
              go_wp2
              go_region
              go_wp2
              go_roundg (gk - 1)
              case measure => omega
              case rel =>
                have hB9 := HB9.out
                refine ⟨k + 1, by omega, by go_num, by go_grown, ?_⟩
                refine (blk_setCell (j := 3) (blk_setCell (j := 2) HO.out (.string (minB tb.low x.low))) (.string (maxB tb.high x.high))).trans ?_
                rw [spanK_succ _ _ _ (by omega), HX.out, ← HT.out]
                simp [tc, spanStep]
            · have hke : k = ins.length := by omega
              subst hke
              have hsp : tb = spanL ins := by rw [HT.out, HX0.out]; exact spanK_all ins hpos
              obtain ⟨W9, rfl⟩ : ∃ W9 : World, W9 = wr := ⟨_, rfl⟩
              obtain ⟨g9, rfl⟩ : ∃ g9 : Nat, g9 = gk := ⟨_, rfl⟩
              have h95 : Below W5.heap.size W5 W9 := hB9
              obtain ⟨⟨ma, mc, mts⟩, hmt⟩ : ∃ l : Lv, l = m t := ⟨_, rfl⟩
              have hT9 : Tabs W9 ma mts := by
                have h := (HM5.out t ht3).ext h95
                rw [← hmt] at h
                exact h
              have r9 := blk_below R5.out hB9 hz5
              have hrt : W9.cell? ⟨S0, 1 + t, none⟩ = some (.slice ma mts.length mc) := by
                have h := three_cell (f := fun i => sv (m i)) r9 t ht3
                simp only [← hmt] at h
                exact h
              have hnm : f < t → ∀ x ∈ mts, meetB x tb = false := by
                have h := HMEET.out
                rw [← hmt, ← hsp] at h
                exact h
              have hml : mts.length < 1000000 := by
                have := (HLE.out t ht3)
                rw [← hmt] at this
                simp only at this
                omega
              have HT9 := Lib.hid hT9
              have HNM := Lib.hid hnm
              have HW9 := Lib.hid (HB5.out.trans (h95.mono HB5.out.size))
              clear hsp h95 hT9 r9 hnm hmt HT HX0 HMEET HM5 HI5 HB5 HIN q9 R5 Q5 S5 hB9 HB9 HO f0 f1 f2 f3
              have ht0 : (0 : Int) ≤ (t : Int) := by omega
              have ht1 : (t : Int) < 3 := by omega
              go_wp2_with fail
              go_loopg [11] mts.length (fun gk iv wr => ∃ k : Nat, k + gk = mts.length ∧ iv = .int .i64 k ∧ Below W9.heap.size W9 wr)
              case atStart => exact ⟨0, by omega, rfl, Below.refl _ _⟩
              case round =>
                obtain ⟨k, hk2, rfl, hR⟩ := hrel
                have p0 := (hR.cell (p := ⟨P0, 0, none⟩) (by show P0 < _; omega)).trans d0
                have p1 := (hR.cell (p := ⟨P0, 1, none⟩) (by show P0 < _; omega)).trans d1
                have pt := (hR.cell (p := ⟨S0, 1 + t, none⟩) (by show S0 < _; omega)).trans hrt
                have s0 := (hR.cell (p := ⟨W5.heap.size, 0, none⟩) hsz).trans t0
                have s1 := (hR.cell (p := ⟨W5.heap.size, 1, none⟩) hsz).trans t1
                have s2 := (hR.cell (p := ⟨W5.heap.size, 2, none⟩) hsz).trans t2
                have s3 := (hR.cell (p := ⟨W5.heap.size, 3, none⟩) hsz).trans t3
                have hszr := hR.size
                have HR := Lib.hid hR
                clear d0 d1 d2 d3 hrt t0 t1 t2 t3 hR
                by_cases hlt2 : k < mts.length
                · by_cases hft2 : f < t
                  · obtain ⟨b2, o2, rfl, hb2, hc⟩ := HT9.out.get k hlt2
                    have e0 := (HR.out.cell (p := ⟨b2, _, none⟩) hb2).trans (hc 0 _ rfl)
                    have e1 := (HR.out.cell (p := ⟨b2, _, none⟩) hb2).trans (hc 1 _ rfl)
                    have e2 := (HR.out.cell (p := ⟨b2, _, none⟩) hb2).trans (hc 2 _ rfl)
                    have e3 := (HR.out.cell (p := ⟨b2, _, none⟩) hb2).trans (hc 3 _ rfl)
                    simp only [Nat.add_zero] at e0 e1 e2 e3
                    have hmf := HNM.out hft2 _ (List.getElem_mem hlt2)
                    clear hc
                    generalize mts[k] = x at *
                    have HMF := Lib.hid hmf
                    have hbt : decide ((f : Int) < (t : Int)) = true := by simp; omega
                    clear hmf
                    go_wp2_with fail
                    go_region_held3 (fun w' => w'.cell? ⟨P0, 1, none⟩ = some (.int .i64 t) ∧ w'.cell? ⟨S0, 1 + t, none⟩ = some (.slice (some ⟨b2, o2, none⟩) mts.length mc) ∧ w'.cell? ⟨W5.heap.size, 0, none⟩ = some (.int .u64 tb.file) ∧ w'.cell? ⟨W5.heap.size, 1, none⟩ = some (.int .u32 tb.bytes) ∧ w'.cell? ⟨W5.heap.size, 2, none⟩ = some (.string tb.low) ∧ w'.cell? ⟨W5.heap.size, 3, none⟩ = some (.string tb.high) ∧
                        w'.cell? ⟨b2, o2 + k * 4, none⟩ = some (.int .u64 x.file) ∧ w'.cell? ⟨b2, o2 + k * 4 + 1, none⟩ = some (.int .u32 x.bytes) ∧ w'.cell? ⟨b2, o2 + k * 4 + 2, none⟩ = some (.string x.low) ∧ w'.cell? ⟨b2, o2 + k * 4 + 3, none⟩ = some (.string x.high)) (go_keep)
                      (first | (go_at_call 12; refine (lmeet_any x tb _).mono ?_; rw [HMF.out]; rintro e w1 ⟨rfl, hb1⟩; have hb1' : Below wr.heap.size wr w1 := (Below.refl _ _).drew.trans hb1; have q0 := (hb1'.cell (p := ⟨W5.heap.size, 0, none⟩) (by show W5.heap.size < _; omega)).trans s0; have q1 := (hb1'.cell (p := ⟨W5.heap.size, 1, none⟩) (by show W5.heap.size < _; omega)).trans s1; have q2 := (hb1'.cell (p := ⟨W5.heap.size, 2, none⟩) (by show W5.heap.size < _; omega)).trans s2; have q3 := (hb1'.cell (p := ⟨W5.heap.size, 3, none⟩) (by show W5.heap.size < _; omega)).trans s3; have r0 := (hb1'.cell (p := ⟨b2, o2 + k * 4, none⟩) (by show b2 < _; omega)).trans e0; have r1 := (hb1'.cell (p := ⟨b2, o2 + k * 4 + 1, none⟩) (by show b2 < _; omega)).trans e1; have r2 := (hb1'.cell (p := ⟨b2, o2 + k * 4 + 2, none⟩) (by show b2 < _; omega)).trans e2; have r3 := (hb1'.cell (p := ⟨b2, o2 + k * 4 + 3, none⟩) (by show b2 < _; omega)).trans e3; have y1 := (hb1'.cell (p := ⟨P0, 1, none⟩) (by show P0 < _; omega)).trans p1; have y2 := (hb1'.cell (p := ⟨S0, 1 + t, none⟩) (by show S0 < _; omega)).trans pt))
                    go_wp2
                    go_roundg (gk - 1)
                    case measure => omega
                    case rel => exact ⟨k + 1, by omega, by go_num, HR.out.trans (hb1'.mono HR.out.size)⟩
                  · have hbt : decide ((f : Int) < (t : Int)) = false := by simp; omega
                    go_wp2_with fail
                    refine (lives_any wr).mono ?_
                    rintro e w8 ⟨rfl, hb8⟩
                    have hB8 := (HW9.out.trans (HR.out.mono HW9.out.size)).trans (hb8.mono (Nat.le_trans HW9.out.size HR.out.size))
                    clear hb8
                    go_wp2
                    go_ret
                    exact ⟨rfl, hB8⟩
                · go_wp2_with fail
                  refine (lives_any wr).mono ?_
                  rintro e w8 ⟨rfl, hb8⟩
                  have hB8 := (HW9.out.trans (HR.out.mono HW9.out.size)).trans (hb8.mono (Nat.le_trans HW9.out.size HR.out.size))
                  clear hb8
                  go_wp2
                  go_ret
                  exact ⟨rfl, hB8⟩
  · clear hg s1
    go_wp2_with fail
    refine (lives_any w1).mono ?_
    rintro e w2 ⟨rfl, hb2⟩
    have hB2 := hB1.trans (hb2.mono (by omega))
    clear hb2
    go_wp2
    go_ret
    exact ⟨rfl, hB2⟩
end Go.Proofs.Ythdjokcjajlnnaa
