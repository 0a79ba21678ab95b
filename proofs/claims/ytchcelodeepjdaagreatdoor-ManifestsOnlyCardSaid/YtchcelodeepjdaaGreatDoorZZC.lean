/- manifests.one of an edit. Condition: fewer than 500000 bytes, a root before it that weighs at most 400000. · manifests.Fold of a root and an edit that is none. Condition: fewer than 500000 bytes. · A good root's record, read back: OneIs; edits' numbers. No condition. -/
import Derived.Test.YtchcelodeepjdaaGreatDoorZZz
import Derived.Test.YtchcelodeepjdaaGreatDoorZZx
namespace Go.Proofs.YtchcelodeepjdaaGreatDoor.Ln
open Go.RowKit Go.Shelf Go.Herb

/-- The root that an edit stands behind, in its box. -/
structure WasIn (w : World) (q : Rv) (rb : Nat) : Prop where
  iq : RtIn w q
  gq : GoodR q
  fq : FewX q.says
  wq : (q.says.sh.map (fun s => 1 + (s.lv.map List.length).sum)).sum ≤ 400000
  box : ∃ f, w.heap[rb]? = some (.cells #[.int .u64 q.seq, .int .u64 q.log, .int .u64 q.next, .slice q.ba q.bs.length q.bc, .slice q.la q.ls.length q.lc, .slice q.va q.vs.length q.vc, .slice q.sa q.sh.length q.sc] (32) f)
/-- One record that is an edit: it gives up, or the record is what Put makes of what it tells. -/
def OneEdPost (ys : List Int) (q : Rv) (w : World) (e : Ending) (w' : World) : Prop := Below w.heap.size w w' ∧ (e = .panicked NONE ∨ ∃ r : Rv, editL r.says q.says = ys ∧ RtIn w' r ∧ FewX r.says ∧ e = .returned (rtV r))
theorem lvOk_own {M : Nat} {u : World} {l : Lv} (ho : OwnT M u (lvV l) l.ts) (hw : ∀ t ∈ l.ts, TbW t) : LvOk u l := by
  obtain ⟨t1, t2, t3⟩ := own_in ho
  exact ⟨Vx.owns_els tbc_len ho, t3, t1, t2, hw⟩
/-- The root's box and all that the root leads to. -/
structure EdB (w u : World) (cs : Array Value) (M B : Nat) (r0 : Rv) (sa : Option Addr) (sc : Nat) (os ss : List Sv) : Prop where
  box : u.heap[w.heap.size]? = some (.cells cs (32) (0, 0))
  below : Below w.heap.size w u
  own : RtOwn M u r0
  sh : OwnSh B u (.slice sa os.length sc) os
  lev : ∀ s ∈ ss, ∀ l ∈ s.lv, OwnT B u (lvV l) l.ts
theorem EdB.store {w u : World} {cs : Array Value} {M B : Nat} {r0 : Rv} {sa : Option Addr} {sc : Nat} {os ss : List Sv} (h : EdB w u cs M B r0 sa sc os ss) (j : Nat) (v : Value) (cs' : Array Value) (hc : cs.setIfInBounds j v = cs') : EdB w (u.setCell ⟨w.heap.size, j, none⟩ v) cs' M B r0 sa sc os ss :=
  ⟨by rw [← hc]; exact blk_setCell h.box v, Below.setCell h.below (p := ⟨w.heap.size, j, none⟩) (Nat.le_refl w.heap.size) v, h.own.set h.box v, own_set h.sh h.box (by decide) _, fun s hs l hl => own_set (h.lev s hs l hl) h.box (by decide) _⟩
theorem EdB.ext {w u u' : World} {cs : Array Value} {M B : Nat} {r0 : Rv} {sa : Option Addr} {sc : Nat} {os ss : List Sv} (h : EdB w u cs M B r0 sa sc os ss) (hb : Below u.heap.size u u') : EdB w u' cs M B r0 sa sc os ss :=
  ⟨blk_below h.box hb (lt_of_blk h.box), h.below.trans (hb.mono h.below.size), h.own.ext hb, OwnSh.below h.sh hb, fun s hs l hl => ownsRow_below (h.lev s hs l hl) hb (Nat.le_refl _)⟩
theorem EdB.name {w u : World} {cs : Array Value} {M B : Nat} {r0 : Rv} {sa : Option Addr} {sc : Nat} {os ss : List Sv} (_ : EdB w u cs M B r0 sa sc os ss) : ∃ Z, Z = u := ⟨u, rfl⟩
theorem EdB.in_ {w u : World} {cs : Array Value} {M B : Nat} {sq lg nx : Int} {ba la va : Option Addr} {bc lc vc : Nat} {bs : List Br} {ls : List Ln} {vs : List Vx.Vc} {sa : Option Addr} {sc : Nat} {os ss : List Sv} {q : Rv} (h : EdB w u cs M B ⟨sq, lg, nx, ba, bc, bs, la, lc, ls, va, vc, vs, none, 0, []⟩ sa sc os ss) (hq : RtIn w q) (hmem : ∀ s ∈ os, s ∈ ss ∨ s ∈ q.sh) (hW : ∀ s ∈ ss, U64 s.line ∧ ∀ l ∈ s.lv, ∀ t ∈ l.ts, TbW t) :
    RtIn u ⟨sq, lg, nx, ba, bc, bs, la, lc, ls, va, vc, vs, sa, sc, os⟩ := by
  have hsi : ShIn u sa os := ⟨Vx.owns_els shc_len h.sh, fun s hs => by
    rcases hmem s hs with h1 | h1
    · have hlv : ∀ l ∈ s.lv, LvOk u l := fun l hl => lvOk_own (h.lev s h1 l hl) ((hW s h1).2 l hl)
      exact ⟨hlv _ (by simp [Sv.lv]), hlv _ (by simp [Sv.lv]), hlv _ (by simp [Sv.lv]), (hW s h1).1⟩
    · exact (hq.shs.ok s h1).ext h.below⟩
  obtain ⟨s1, s2, s3⟩ := own_in h.sh
  have hri := h.own.in_
  exact ⟨hri.seq, hri.log, hri.next, hri.brs, hri.lns, hri.vcs, hsi, s1, s2, s3, hri.vl⟩
theorem editL_u8 (x was : Rt) : ∀ y ∈ editL x was, 0 ≤ y ∧ y < 256 := by
  intro y hy
  unfold editL at hy
  rcases List.mem_cons.1 hy with rfl | h
  · omega
  · exact app_u8 (app_u8 (app_u8 (headL_u8 x) (numsL_u8 _)) (numsL_u8 _)) (shL_u8 _) y h
theorem nm_le : ∀ {n : Nat} {l r : List Int} {xs : List Int}, repP nmP n l = some (xs, r) → r.length ≤ l.length
  | 0, l, r, xs, h => by
    cases h
    exact Nat.le_refl _
  | n + 1, l, r, xs, h => by
    rw [repP_succ] at h
    unfold nmP at h
    cases h1 : getN l with
    | none => rw [h1] at h; cases h
    | some q =>
      obtain ⟨x, l1⟩ := q
      rw [h1] at h
      simp only at h
      have h3 := getN_len h1
      cases h2 : repP nmP n l1 with
      | none => unfold nmP at h2; rw [h2] at h; cases h
      | some q2 =>
        obtain ⟨ys, l2⟩ := q2
        have h4 := nm_le h2
        unfold nmP at h2
        rw [h2] at h
        simp only [Option.some.injEq, Prod.mk.injEq] at h
        rw [← h.2]
        omega
theorem egP_w {l r gs : List Int} {sh : List Sd} (h : egP l = some ((gs, sh), r)) : (sh.map (fun x => 1 + (x.lv.map List.length).sum)).sum ≤ l.length := by
  unfold egP manyP at h
  cases h1 : getN l with
  | none => rw [h1] at h; cases h
  | some q =>
    obtain ⟨n, l1⟩ := q
    rw [h1] at h
    simp only at h
    have h3 := getN_len h1
    by_cases h0 : n ≤ l1.length
    · rw [if_pos h0] at h
      cases h2 : repP nmP n l1 with
      | none => rw [h2] at h; cases h
      | some q2 =>
        obtain ⟨ns, l2⟩ := q2
        rw [h2] at h
        simp only at h
        have h4 := nm_le h2
        cases h5 : shP l2 with
        | none => rw [h5] at h; cases h
        | some q3 =>
          obtain ⟨sh', l3⟩ := q3
          rw [h5] at h
          simp only [Option.some.injEq, Prod.mk.injEq] at h
          have h6 := shP_w l2 sh' l3 h5
          rw [← h.1.2]
          omega
    · rw [if_neg h0] at h; cases h
theorem delsL_mem {gs : List Int} : ∀ {m : List (Int × Sv)} {p : Int × Sv}, p ∈ delsL m gs → p ∈ m := by
  induction gs with
  | nil => exact fun h => h
  | cons g gs ih => exact fun h => (List.mem_filter.1 (ih h)).1
theorem delsL_nodup {gs : List Int} : ∀ {m : List (Int × Sv)}, (m.map (·.1)).Nodup → ((delsL m gs).map (·.1)).Nodup := by
  induction gs with
  | nil => exact fun h => h
  | cons g gs ih => exact fun h => ih (h.sublist ((List.filter_sublist).map _))
def wS (s : Sv) : Nat := 1 + (s.says.lv.map List.length).sum
theorem repl_sum (m : List (Int × Sv)) (a : Int) (b : Sv) (hn : (m.map (·.1)).Nodup) : ((m.map (fun p => if p.1 = a then (a, b) else p)).map (fun p => wS p.2)).sum ≤ (m.map (fun p => wS p.2)).sum + wS b := by
  induction m with
  | nil => simp
  | cons p m ih =>
    rw [List.map_cons, List.nodup_cons] at hn
    have h1 := ih hn.2
    simp only [List.map_cons, List.sum_cons]
    by_cases h : p.1 = a
    · have e : m.map (fun p => if p.1 = a then (a, b) else p) = m := by
        conv => rhs; rw [← List.map_id m]
        apply List.map_congr_left
        intro q hq
        have : ¬ q.1 = a := fun e => hn.1 (by rw [h, ← e]; exact List.mem_map_of_mem hq)
        simp [this]
      rw [e, if_pos h]
      show wS b + _ ≤ _
      omega
    · rw [if_neg h]
      omega
theorem putL_sum {m : List (Int × Sv)} (a : Int) (b : Sv) (hn : (m.map (·.1)).Nodup) : ((putL m a b).map (fun p => wS p.2)).sum ≤ (m.map (fun p => wS p.2)).sum + wS b := by
  unfold putL
  split
  · exact repl_sum m a b hn
  · rw [List.map_append, List.sum_append]
    simp
theorem putS_sum {xs : List Sv} : ∀ {m : List (Int × Sv)}, (m.map (·.1)).Nodup → ((putS m xs).map (fun p => wS p.2)).sum ≤ (m.map (fun p => wS p.2)).sum + (xs.map wS).sum := by
  induction xs with
  | nil => intro m _; simp [putS]
  | cons x xs ih =>
    intro m hn
    have h1 := ih (putL_nodup hn x.line x)
    have h2 := putL_sum x.line x hn
    rw [List.map_cons, List.sum_cons]
    show ((putS (putL m x.line x) xs).map _).sum ≤ _
    omega
theorem delsL_sum {gs : List Int} : ∀ {m : List (Int × Sv)}, ((delsL m gs).map (fun p => wS p.2)).sum ≤ (m.map (fun p => wS p.2)).sum := by
  induction gs with
  | nil => exact Nat.le_refl _
  | cons g gs ih =>
    intro m
    refine Nat.le_trans (ih (m := delL m g)) ?_
    unfold delL
    induction m with
    | nil => simp
    | cons p m ihm =>
      rw [List.filter_cons]
      split
      · simp only [List.map_cons, List.sum_cons]; omega
      · simp only [List.map_cons, List.sum_cons]; omega
theorem putS_nodup {xs : List Sv} : ∀ {m : List (Int × Sv)}, (m.map (·.1)).Nodup → ((putS m xs).map (·.1)).Nodup := by
  induction xs with
  | nil => exact fun h => h
  | cons x xs ih => exact fun h => ih (putL_nodup h x.line x)
set_option maxRecDepth 100000 in
set_option maxHeartbeats 4000000 in
theorem one_edit (a : Option Addr) (cap n : Nat) (ys : List Int) (q : Rv) (rb : Nat) (w : World) (hb : Byt w a ys) (hn : ys.length = n) (hu : ∀ y ∈ ys, U8 y) (hl : n < 500000) (hle : n ≤ cap) (h0 : a = none → cap = 0) (hy : ys = [] ∨ ∃ l, ys = 2 :: l) (hq : WasIn w q rb) :
    Calls Tryz.prog (26) #[.slice a n cap, .pointer (some ⟨rb, 0, none⟩)] w (OneEdPost ys q w) := by
  have HQ := Lib.hid hq
  have HYY := Lib.hid hy
  clear hq hy
  obtain ⟨W1, hW1⟩ : ∃ W : World, W = w.alloc (.cells #[.int .u64 0, .int .u64 0, .int .u64 0, .slice none 0 0, .slice none 0 0, .slice none 0 0, .slice none 0 0] (32)) := ⟨_, rfl⟩
  have hB1 : Below w.heap.size w W1 := by rw [hW1]; exact (Below.refl _ _).alloc (Nat.le_refl _) _
  have hx1 : W1.heap[w.heap.size]? = some (.cells #[.int .u64 0, .int .u64 0, .int .u64 0, .slice none 0 0, .slice none 0 0, .slice none 0 0, .slice none 0 0] (32) (0, 0)) := by rw [hW1]; exact blk_new_at rfl _
  have hz1 : W1.heap.size = w.heap.size + 1 := by rw [hW1]; simp
  have HB1 := Lib.hid hB1
  have HX1 := Lib.hid hx1
  have HW1 := Lib.hid hW1
  have HZ1 := Lib.hid hz1
  have HE := Lib.hid hb
  have HU := Lib.hid hu
  have HN := Lib.hid hn
  have H0 := Lib.hid h0
  have HLE := Lib.hid hle
  cases ys with
  | nil =>
    have hn0 : n = 0 := hn.symm
    subst hn0
    clear hb hn hu hle h0 hB1 hx1 hz1 hW1
    go_enter Tryz.func26, Tryz.ntmps26
    go_wp2_with (go_at_call 60; refine (must_no _).mono ?_; rintro e w' ⟨rfl, rfl⟩)
    exact ⟨rfl, by rw [← HW1.out]; exact HB1.out, .inl rfl⟩
  | cons c l =>
    obtain ⟨b, o, hla, hlb, hc⟩ := hb.get 0 (by simp)
    have hlb1 : b < W1.heap.size := by omega
    have g0 := (HB1.out.cell (p := ⟨b, _, none⟩) hlb).trans (hc 0 _ rfl)
    simp only [Nat.zero_mul, Nat.add_zero, List.getElem_cons_zero] at g0
    have i1 : (n : Int) > 0 := by rw [← hn, List.length_cons]; omega
    have i2 : decide ((0 : Int) < (n : Int)) = true := decide_eq_true (by omega)
    have i3 : (0 : Int) < (n : Int) := by omega
    have i4 : 0 < n := by omega
    have HLA := Lib.hid hla
    have hc1 : c = 2 := by
      rcases HYY.out with h | ⟨l', h⟩
      · cases h
      · injection h
    subst hc1
    obtain ⟨a2, hs, hE2, h02, hp2⟩ := slice_tail (k := 1) hb hn hle (by omega) h0
    obtain ⟨W2, hW2⟩ : ∃ W : World, W = W1.alloc (.cells #[.slice a2 (n - 1) (cap - 1)] (124)) := ⟨_, rfl⟩
    have hB2 : Below W1.heap.size W1 W2 := by rw [hW2]; exact (Below.refl _ _).alloc (Nat.le_refl _) _
    have hBW2 : Below w.heap.size w W2 := hB1.trans (hB2.mono hB1.size)
    have hll : l.length = n - 1 := by rw [← hn, List.length_cons]; omega
    have HR2 := Lib.hid (show ReadAt W2 (w.heap.size + 1) w.heap.size l from by
      refine ⟨⟨a2, cap - 1, ?_, ?_, h02, by omega, fun _ ad had => ?_⟩, fun y hy => hu y (List.mem_cons_of_mem _ hy), by omega, by omega⟩
      · rw [hll, hW2]
        exact blk_new_at (by rw [hW1]; simp) _
      · exact (show Byt w a2 l from hE2).ext hBW2
      · obtain ⟨ad', h4, h5⟩ := hp2 ad had
        rw [hla] at h4
        cases h4
        rw [h5]
        exact hlb)
    have HX2 := Lib.hid (show XS w W2 l _ from ⟨HR2.out, blk_below hx1 hB2 (lt_of_blk hx1), hBW2⟩)
    have HC0 := Lib.hid (show ∀ u, Below w.heap.size w u → u.cell? ⟨b, o, none⟩ = some (.int .u8 2) from fun u hu => by
      have := (hu.cell (p := ⟨b, _, none⟩) hlb).trans (hc 0 _ rfl)
      simpa using this)
    have HRT := Lib.hid (rootR_any (w.heap.size + 1) w.heap.size l W2 HR2.out (by omega))
    have hs' : ∀ W, (Instr.slice (24) (.slice a n cap) (some (.int .i64 1)) none none).run Tryz.prog W = .ok (.slice a2 (n - 1) (cap - 1)) W := fun W => by simpa using hs W
    have HBW2 := Lib.hid hBW2
    have HW2 := Lib.hid hW2
    have HZ2 := Lib.hid (show W2.heap.size = w.heap.size + 2 from by rw [hW2]; simp [hz1])
    rw [hla] at hs'
    rw [hla]
    rw [hW2, hW1] at HRT
    rw [hW1] at g0
    clear hb hn hu hle h0 hB1 hx1 hz1 hW1 hc hs hE2 h02 hp2 hW2 hB2 hBW2 hla hll
    go_enter Tryz.func26, Tryz.ntmps26
    go_wp2_with (go_at_call 60; refine (must_yes _).mono ?_; rintro e w' ⟨rfl, rfl⟩)
    refine HRT.out.mono ?_
    rw [← HW1.out, ← HW2.out]
    rintro e w3 ⟨hT, ⟨hg, rfl⟩ | ⟨x0, l1, v, hg, rfl, ⟨r0, rfl, hO, hx0, hsa, hsc, hsh⟩, hR⟩⟩
    · have HT := Lib.hid (HX2.out.below.trans (hT.below (Below.refl _ _) (by omega) (by have := HZ2.out; omega)))
      clear hg hT
      go_wp2_with fail
      exact ⟨rfl, HT.out, .inl rfl⟩
    obtain ⟨sq, lg, nx, ba, bc, bs, la, lc, ls, va, vc, vs, sa, sc, sh⟩ := r0
    simp only at hsa hsc hsh
    subst hsa hsc hsh
    obtain ⟨nb, hnb⟩ : ∃ n, n = bs.length := ⟨_, rfl⟩
    obtain ⟨nl, hnl⟩ : ∃ n, n = ls.length := ⟨_, rfl⟩
    obtain ⟨nv, hnv⟩ : ∃ n, n = vs.length := ⟨_, rfl⟩
    have hrt : rtV ⟨sq, lg, nx, ba, bc, bs, la, lc, ls, va, vc, vs, none, 0, []⟩ = .agg #[.int .u64 sq, .int .u64 lg, .int .u64 nx, .slice ba nb bc, .slice la nl lc, .slice va nv vc, .slice none 0 0] := by rw [hnb, hnl, hnv]; rfl
    rw [hrt]
    have HX3 := Lib.hid (HX2.out.next hT hR)
    have HG := Lib.hid hg
    have HR3 := Lib.hid (show XR w w3 l1 _ W2.heap.size ⟨sq, lg, nx, ba, bc, bs, la, lc, ls, va, vc, vs, none, 0, []⟩ from ⟨HX3.out, hO, hT.size⟩)
    have HX0 := Lib.hid hx0
    have HNB := Lib.hid (show nb = bs.length ∧ nl = ls.length ∧ nv = vs.length from ⟨hnb, hnl, hnv⟩)
    have c0 := cell_of_blk HX3.out.box 0
    have c1 := cell_of_blk HX3.out.box 1
    have c2 := cell_of_blk HX3.out.box 2
    have c3 := cell_of_blk HX3.out.box 3
    have c4 := cell_of_blk HX3.out.box 4
    have c5 := cell_of_blk HX3.out.box 5
    have c6 := cell_of_blk HX3.out.box 6
    have f0 := frozen_of_blk HX3.out.box 0
    have f1 := frozen_of_blk HX3.out.box 1
    have f2 := frozen_of_blk HX3.out.box 2
    have f3 := frozen_of_blk HX3.out.box 3
    have f4 := frozen_of_blk HX3.out.box 4
    have f5 := frozen_of_blk HX3.out.box 5
    have f6 := frozen_of_blk HX3.out.box 6
    simp at c0 c1 c2 c3 c4 c5 c6
    clear hT hg hR hO hx0 hrt HRT hnb hnl hnv g0
    go_upto_region 4 with fail
    have HR4 := Lib.hid (((((((HR3.out.store 0 (.int .u64 sq) _ rfl).store 1 (.int .u64 lg) _ rfl).store 2 (.int .u64 nx) _ rfl).store 3 (.slice ba nb bc) _ rfl).store 4 (.slice la nl lc) _ rfl).store 5 (.slice va nv vc) _ rfl).store 6 (.slice none 0 0) #[.int .u64 sq, .int .u64 lg, .int .u64 nx, .slice ba nb bc, .slice la nl lc, .slice va nv vc, .slice none 0 0] rfl)
    obtain ⟨u4, hu4⟩ := HR4.out.xs.name
    rw [← hu4] at HR4 ⊢
    clear hu4 c0 c1 c2 c3 c4 c5 c6 f0 f1 f2 f3 f4 f5 f6 HR3 HX3
    have g0 := HC0.out u4 HR4.out.xs.below
    obtain ⟨ms, hms⟩ : ∃ n, n = q.sh.length := ⟨_, rfl⟩
    have HMS := Lib.hid (show q.sh.length = ms ∧ ms < 1000000 from ⟨hms.symm, by rw [hms]; exact sh_few HQ.out.fq⟩)
    obtain ⟨fb, hxb⟩ := HQ.out.box
    rw [← hms] at hxb
    obtain ⟨-, -, -, -, -, -, d6⟩ := rtC_at (blk_below hxb HR4.out.xs.below (lt_of_blk hxb))
    have HED := Lib.hid (edited_any (w.heap.size + 1) w.heap.size ms q.sc q.sa q.sh l1 u4 HR4.out.xs.read (by
      have h1 := rtP_w l x0 l1 HG.out
      have h2 := HN.out
      rw [List.length_cons] at h2
      omega) (HQ.out.iq.shs.ext HR4.out.xs.below) HMS.out.1 HMS.out.2)
    clear hxb hms
    go_wp2_with fail
    refine HED.out.mono ?_
    rintro e w5 ⟨hT, ⟨hg, rfl⟩ | ⟨gs, sh, l2, hg, hR, v5, ss, os, rfl, hss, hpo, hso, hO, hOT, hW⟩⟩
    · have HT := Lib.hid (hT.below HR4.out.xs.below (show w.heap.size ≤ w.heap.size + 1 by omega) (Nat.le_refl _))
      clear hg hT
      go_wp2_with fail
      exact ⟨rfl, HT.out, .inl rfl⟩
    obtain ⟨sa, sc, hv5, -, -⟩ := els_of_owns shc_len hO
    subst hv5
    obtain ⟨ns, hns⟩ : ∃ n, n = os.length := ⟨_, rfl⟩
    rw [← hns]
    have HR5 := Lib.hid (show XR w w5 l2 _ W2.heap.size ⟨sq, lg, nx, ba, bc, bs, la, lc, ls, va, vc, vs, none, 0, []⟩ from ⟨HR4.out.xs.next hT hR, HR4.out.own.turn hT (by have := HZ2.out; omega), Nat.le_trans HR4.out.le hT.size⟩)
    have c6 := cell_of_blk HR5.out.xs.box 6
    have f6 := frozen_of_blk HR5.out.xs.box 6
    simp at c6
    have HR6 := Lib.hid (HR5.out.store 6 (.slice sa ns sc) #[.int .u64 sq, .int .u64 lg, .int .u64 nx, .slice ba nb bc, .slice la nl lc, .slice va nv vc, .slice sa ns sc] rfl)
    have hmem : ∀ s ∈ os, s ∈ ss ∨ s ∈ q.sh := fun s hs => by
      have h1 := hpo.subset hs
      obtain ⟨p, hp, rfl⟩ := List.mem_map.1 h1
      rcases putS_mem hp with h | ⟨h, -⟩
      · rcases putS_mem (delsL_mem h) with h | ⟨h, -⟩
        · cases h
        · exact .inr h
      · exact .inl h
    have HEB := Lib.hid (show EdB w w5 _ W2.heap.size u4.heap.size ⟨sq, lg, nx, ba, bc, bs, la, lc, ls, va, vc, vs, none, 0, []⟩ sa sc os ss from ⟨HR5.out.xs.box, HR5.out.xs.below, HR5.out.own, hO, hOT⟩)
    have HE6 := Lib.hid (HEB.out.store 6 (.slice sa ns sc) #[.int .u64 sq, .int .u64 lg, .int .u64 nx, .slice ba nb bc, .slice la nl lc, .slice va nv vc, .slice sa ns sc] rfl)
    have hfx : FewX (⟨sq, lg, nx, ba, bc, bs, la, lc, ls, va, vc, vs, sa, sc, os⟩ : Rv).says := by
      have h1 := rtP_w l x0 l1 HG.out
      have h2 := HN.out
      rw [List.length_cons] at h2
      have e1 : x0.bs = bs := by rw [← HX0.out]; rfl
      have e2 : x0.ls = ls := by rw [← HX0.out]; rfl
      have e3 : x0.vs = Vx.vsOf vs := by rw [← HX0.out]; rfl
      rw [e1, e2, e3] at h1
      have e4 : (Vx.vsOf vs).length ≤ ((Vx.vsOf vs).map (fun v => 1 + v.2.length)).sum := by
        have := sum_le (f := fun _ => 1) (g := fun v : Int × Bh => 1 + v.2.length) (Vx.vsOf vs) (fun _ _ => by omega)
        rwa [sum_ones] at this
      refine ⟨?_, ?_, ?_, ?_, ?_⟩
      · show bs.length < _; omega
      · show ls.length < _; omega
      · show (Vx.vsOf vs).length < _; omega
      · show bs.length + ls.length + ((Vx.vsOf vs).map (fun v => 1 + v.2.length)).sum < _; omega
      · have h3 := egP_w hg
        have h4 := HQ.out.wq
        have h5 := putS_sum (xs := ss) (m := delsL (putS [] q.sh) gs) (delsL_nodup (putS_nodup List.nodup_nil))
        have h6 := delsL_sum (gs := gs) (m := putS [] q.sh)
        have h7 := putS_sum (xs := q.sh) (m := []) List.nodup_nil
        have h8 : (os.map wS).sum = ((putS (delsL (putS [] q.sh) gs) ss).map (fun p => wS p.2)).sum := by
          have := (hpo.map wS).sum_nat
          rw [this, List.map_map]
          rfl
        have e5 : q.says.sh = q.sh.map Sv.says := rfl
        rw [e5, List.map_map] at h4
        rw [← hss, List.map_map] at h3
        have e6 : ((fun x : Sd => 1 + (x.lv.map List.length).sum) ∘ Sv.says) = wS := rfl
        rw [e6] at h3 h4
        show ((os.map Sv.says).map (fun s => 1 + (s.lv.map List.length).sum)).sum < _
        rw [List.map_map, e6, h8]
        simp at h7
        omega
    have HFX := Lib.hid hfx
    have HMEM := Lib.hid hmem
    have HWW := Lib.hid hW
    have hrt : rtV ⟨sq, lg, nx, ba, bc, bs, la, lc, ls, va, vc, vs, sa, sc, os⟩ = .agg #[.int .u64 sq, .int .u64 lg, .int .u64 nx, .slice ba nb bc, .slice la nl lc, .slice va nv vc, .slice sa ns sc] := by rw [hns, HNB.out.1, HNB.out.2.1, HNB.out.2.2]
    have HRV := Lib.hid hrt
    clear hT hg hR hO hOT hW hss hpo hso hmem hfx hrt hns g0 HED HR5 HR6 HEB d6
    go_upto_region 7 with fail
    obtain ⟨u6, hu6⟩ := HE6.out.name
    rw [← hu6] at HE6 ⊢
    clear hu6 c6 f6
    have c0 := cell_of_blk HE6.out.box 0
    have c1 := cell_of_blk HE6.out.box 1
    have c2 := cell_of_blk HE6.out.box 2
    have c3 := cell_of_blk HE6.out.box 3
    have c4 := cell_of_blk HE6.out.box 4
    have c5 := cell_of_blk HE6.out.box 5
    have c6 := cell_of_blk HE6.out.box 6
    simp at c0 c1 c2 c3 c4 c5 c6
    have HRX := Lib.hid (HE6.out.in_ HQ.out.iq HMEM.out HWW.out)
    by_cases hgood : GoodR ⟨sq, lg, nx, ba, bc, bs, la, lc, ls, va, vc, vs, sa, sc, os⟩
    case neg =>
      have HP := Lib.hid (put_bad _ (some ⟨rb, 0, none⟩) u6 HRX.out HFX.out.small hgood)
      rw [HRV.out] at HP
      clear hgood
      go_wp2_with fail
      refine HP.out.mono ?_
      rintro e w7 ⟨rfl, hb⟩
      have HB7 := Lib.hid (HE6.out.below.trans (hb.mono HE6.out.below.size))
      clear hb c0 c1 c2 c3 c4 c5 c6
      go_wp2_with (go_at_call 60; refine (must_no _).mono ?_; rintro e w' ⟨rfl, rfl⟩)
      exact ⟨rfl, HB7.out, .inl rfl⟩
    obtain ⟨fq, hxq⟩ := HQ.out.box
    have HP := Lib.hid (putEdit_any ⟨sq, lg, nx, ba, bc, bs, la, lc, ls, va, vc, vs, sa, sc, os⟩ q rb u6 ⟨HRX.out, hgood, HFX.out, HQ.out.iq.ext HE6.out.below, HQ.out.gq, HQ.out.fq, fq, blk_below hxq HE6.out.below (lt_of_blk hxq)⟩)
    rw [HRV.out] at HP
    obtain ⟨wl, hwl⟩ : ∃ x, x = editL (⟨sq, lg, nx, ba, bc, bs, la, lc, ls, va, vc, vs, sa, sc, os⟩ : Rv).says q.says := ⟨_, rfl⟩
    rw [← hwl] at HP
    have HWL := Lib.hid hwl
    clear hgood hwl hxq
    go_wp2_with fail
    refine HP.out.mono ?_
    rintro e w7 ⟨a7, n7, rfl, hn7, hE7, hb, -⟩
    have HE8 := Lib.hid (HE6.out.ext hb)
    have HEQ := Lib.hid (bytesEqual_any a7 a n7 n7 n cap wl (2 :: l) w7 hE7 (HE.out.ext HE8.out.below) hn7.symm HN.out (fun e => by
      rcases Nat.eq_zero_or_pos n7 with h | h
      · exact h
      · obtain ⟨b', o', h1, -⟩ := hE7.get 0 (by omega)
        rw [e] at h1; cases h1) (fun e => by rw [HLA.out] at e; cases e) (by rw [HWL.out]; exact editL_u8 _ _) HU.out)
    rw [HLA.out] at HEQ
    clear hb hn7 hE7 c0 c1 c2 c3 c4 c5 c6 HP
    go_wp2_with fail
    refine HEQ.out.mono ?_
    rintro e w' ⟨rfl, qq, rfl, hq⟩
    cases qq with
    | false =>
      clear hq
      go_wp2_with (go_at_call 60; refine (must_no _).mono ?_; rintro e w' ⟨rfl, rfl⟩)
      exact ⟨rfl, HE8.out.below, .inl rfl⟩
    | true =>
      have HOI := Lib.hid (show editL (⟨sq, lg, nx, ba, bc, bs, la, lc, ls, va, vc, vs, sa, sc, os⟩ : Rv).says q.says = 2 :: l from by rw [← HWL.out]; exact hq.1 rfl)
      clear hq
      have c0 := cell_of_blk HE8.out.box 0
      have c1 := cell_of_blk HE8.out.box 1
      have c2 := cell_of_blk HE8.out.box 2
      have c3 := cell_of_blk HE8.out.box 3
      have c4 := cell_of_blk HE8.out.box 4
      have c5 := cell_of_blk HE8.out.box 5
      have c6 := cell_of_blk HE8.out.box 6
      have f0 := frozen_of_blk HE8.out.box 0
      have f1 := frozen_of_blk HE8.out.box 1
      have f2 := frozen_of_blk HE8.out.box 2
      have f3 := frozen_of_blk HE8.out.box 3
      have f4 := frozen_of_blk HE8.out.box 4
      have f5 := frozen_of_blk HE8.out.box 5
      have f6 := frozen_of_blk HE8.out.box 6
      simp at c0 c1 c2 c3 c4 c5 c6
      go_wp2_with (go_at_call 60; refine (must_yes _).mono ?_; rintro e w' ⟨rfl, rfl⟩)
      have HB8 := Lib.hid (((((((HE8.out.store 0 (.int .u64 sq) _ rfl).store 1 (.int .u64 lg) _ rfl).store 2 (.int .u64 nx) _ rfl).store 3 (.slice ba nb bc) _ rfl).store 4 (.slice la nl lc) _ rfl).store 5 (.slice va nv vc) _ rfl).store 6 (.slice sa ns sc) #[.int .u64 sq, .int .u64 lg, .int .u64 nx, .slice ba nb bc, .slice la nl lc, .slice va nv vc, .slice sa ns sc] rfl)
      obtain ⟨Z, hZ⟩ := HB8.out.name
      rw [← hZ] at HB8 ⊢
      clear hZ c0 c1 c2 c3 c4 c5 c6 f0 f1 f2 f3 f4 f5 f6
      have c0 := cell_of_blk HB8.out.box 0
      have c1 := cell_of_blk HB8.out.box 1
      have c2 := cell_of_blk HB8.out.box 2
      have c3 := cell_of_blk HB8.out.box 3
      have c4 := cell_of_blk HB8.out.box 4
      have c5 := cell_of_blk HB8.out.box 5
      have c6 := cell_of_blk HB8.out.box 6
      simp at c0 c1 c2 c3 c4 c5 c6
      refine bodyPost_ret (v := .agg #[.int .u64 sq, .int .u64 lg, .int .u64 nx, .slice ba nb bc, .slice la nl lc, .slice va nv vc, .slice sa ns sc]) (by simp [results, Tryz.results26, go_sem, c0, c1, c2, c3, c4, c5, c6]) rfl ?_
      exact ⟨HB8.out.below, .inr ⟨⟨sq, lg, nx, ba, bc, bs, la, lc, ls, va, vc, vs, sa, sc, os⟩, HOI.out, HB8.out.in_ HQ.out.iq HMEM.out HWW.out, HFX.out, by rw [HRV.out]⟩⟩
end Go.Proofs.YtchcelodeepjdaaGreatDoor.Ln

namespace Go.Proofs.YtchcelodeepjdaaGreatDoor.Ln
open Go.RowKit Go.Shelf Go.Herb

def FoldNo (w : World) (e : Ending) (w' : World) : Prop := Below w.heap.size w w' ∧ e = .returned (.tuple #[.agg zeroC, .int .i64 4])
set_option maxRecDepth 100000 in
set_option maxHeartbeats 2000000 in
theorem fold2_no (g go cl : Nat) (a : Option Addr) (cap n : Nat) (ys : List Int) (a2 : Option Addr) (cap2 n2 : Nat) (ys2 : List Int) (w : World) (X : Rt) (hgc : w.cell? ⟨g, go, none⟩ = some (.slice a n cap)) (hgc2 : w.cell? ⟨g, go + 1, none⟩ = some (.slice a2 n2 cap2)) (hgl : g < w.heap.size) (hb : Byt w a ys) (hn : ys.length = n) (hu : ∀ y ∈ ys, U8 y) (hl : n < 1000000) (hle : n ≤ cap) (h0 : a = none → cap = 0)
    (hb2 : Byt w a2 ys2) (hn2 : ys2.length = n2) (hu2 : ∀ y ∈ ys2, U8 y) (hl2 : n2 < 500000) (hle2 : n2 ≤ cap2) (h02 : a2 = none → cap2 = 0) (hy2 : ys2 = [] ∨ ∃ l, ys2 = 2 :: l)
    (hx : OneIs ys X) (hfx : FewX X) (hwx : (X.sh.map (fun s => 1 + (s.lv.map List.length).sum)).sum ≤ 400000) (hno : ∀ (u : World) (r : Rv), RtIn u r → FewX r.says → editL r.says X = ys2 → False) :
    Calls Tryz.prog (11) #[.slice (some ⟨g, go, none⟩) 2 cl] w (FoldNo w) := by
  have HX2 := Lib.hid hx
  have HFX := Lib.hid hfx
  have HWX := Lib.hid hwx
  have HNO2 := Lib.hid hno
  have H2 := Lib.hid (show ∀ (W u : World) (q : Rv) (rb : Nat), Below w.heap.size w u → WasIn u q rb → Calls Tryz.prog (26) #[.slice a2 n2 cap2, .pointer (some ⟨rb, 0, none⟩)] u (OneEdPost ys2 q u) from fun _ u q rb hB hw => one_edit a2 cap2 n2 ys2 q rb u (hb2.ext hB) hn2 hu2 hl2 hle2 h02 hy2 hw)
  clear hx hfx hwx hno hb2 hn2 hu2 hl2 hle2 h02 hy2
  have hmf : ∀ (fn : Fn) (first cap : Array Value) (w : World), (Instr.makeFunc fn first cap).run Tryz.prog w = .ok (.func fn first cap) w := fun _ _ _ _ => rfl
  obtain ⟨W1, hW1⟩ : ∃ W : World, W = w.alloc (.cells #[.int .u64 0, .int .u64 0, .int .u64 0, .slice none 0 0, .slice none 0 0, .slice none 0 0, .slice none 0 0] (32)) := ⟨_, rfl⟩
  obtain ⟨W, hW⟩ : ∃ W : World, W = W1.alloc (.cells #[.int .i64 0] (33)) := ⟨_, rfl⟩
  have hB1 : Below w.heap.size w W1 := by rw [hW1]; exact (Below.refl _ _).alloc (Nat.le_refl _) _
  have hz1 : W1.heap.size = w.heap.size + 1 := by rw [hW1]; simp
  have hB2 : Below W1.heap.size W1 W := by rw [hW]; exact (Below.refl _ _).alloc (Nat.le_refl _) _
  have hBW : Below w.heap.size w W := hB1.trans (hB2.mono hB1.size)
  have hx1 : W1.heap[w.heap.size]? = some (.cells zeroC (32) (0, 0)) := by rw [hW1]; exact blk_new_at rfl _
  have HX := Lib.hid (blk_below hx1 hB2 (lt_of_blk hx1))
  have HE := Lib.hid (show W.heap[w.heap.size + 1]? = some (.cells #[.int .i64 0] (33) (0, 0)) from by rw [hW]; exact blk_new_at (by rw [hW1]; simp) _)
  have HZ := Lib.hid (show W.heap.size = w.heap.size + 2 from by rw [hW]; simp [hz1])
  have g0 := (hBW.cell (p := ⟨g, go, none⟩) hgl).trans hgc
  have HG1 := Lib.hid (show ∀ u, Below W.heap.size W u → u.cell? ⟨g, go + 1, none⟩ = some (.slice a2 n2 cap2) from fun u hu => ((hBW.trans (hu.mono hBW.size)).cell (p := ⟨g, go + 1, none⟩) hgl).trans hgc2)
  have HO := Lib.hid (one_nil a cap n ys W (hb.ext hBW) hn hu hl hle h0)
  have HB := Lib.hid hBW
  have HW := Lib.hid hW
  have HW1 := Lib.hid hW1
  clear hgc hgc2 hb hn hu hle h0 hB1 hz1 hB2 hBW hx1
  go_enter_defers Tryz.func11, Tryz.ntmps11
  go_upto_region 6 with fail
  rw [← hW1, ← hW]
  clear hW1 hW
  go_loopg [15, 4] 2 (fun gk iv v4 wr => ∃ k : Nat, k + gk = 2 ∧ iv = .int .i64 k ∧ Hid (k = 0 → v4 = .pointer none ∧ wr = W) ∧ Hid (0 < k → k = 1 ∧ FoldAt ys w W wr v4))
  case atStart => exact ⟨0, rfl, rfl, Lib.hid (fun _ => ⟨rfl, rfl⟩), Lib.hid (fun h => by omega)⟩
  case round =>
    obtain ⟨k, hk, rfl, HK0, HK1⟩ := hrel
    by_cases hk0 : k = 0
    · obtain ⟨rfl, rfl⟩ := HK0.out hk0
      subst hk0
      go_wp2_with fail
      refine HO.out.mono ?_
      rintro e w2 ⟨hb, ⟨hno, rfl⟩ | ⟨r, hoi, rfl, ho⟩⟩
      · exact absurd ⟨X, HX2.out⟩ hno
      · have HOI := Lib.hid hoi
        have HRO := Lib.hid ho
        have HB2 := Lib.hid hb
        clear hoi ho hb
        have HFA := Lib.hid (show FoldAt ys w wr (w2.alloc (.cells #[.int .u64 r.seq, .int .u64 r.log, .int .u64 r.next, .slice r.ba r.bs.length r.bc, .slice r.la r.ls.length r.lc, .slice r.va r.vs.length r.vc, .slice r.sa r.sh.length r.sc] (32))) (.pointer (some ⟨w2.heap.size, 0, none⟩)) from ⟨r, w2.heap.size, rfl, blk_new_at rfl _, HOI.out, HRO.out.ext ((Below.refl _ _).alloc (Nat.le_refl _) _), HB2.out.alloc HB2.out.size _⟩)
        go_wp2_with fail
        go_roundg (gk - 1)
        case measure => omega
        case rel => exact ⟨1, by omega, rfl, Lib.hid (fun h => by cases h), Lib.hid (fun _ => ⟨rfl, HFA.out⟩)⟩
    · obtain ⟨rfl, r, b, rfl, hbk, hoi, ho, hB⟩ := HK1.out (by omega)
      have hrx : r.says = X := hoi.uniq HX2.out
      have g1 := HG1.out wr hB
      have HO2 := Lib.hid (H2.out wr wr r b (HB.out.trans (hB.mono HB.out.size)) ⟨ho.in_, (goodR_iff _).2 hoi.good, by rw [hrx]; exact HFX.out, by rw [hrx]; exact HWX.out, ⟨_, hbk⟩⟩)
      have HRX := Lib.hid hrx
      have HB3 := Lib.hid hB
      clear hk0 HK0 HK1 hbk hoi ho hB hrx
      go_wp2_with fail
      refine HO2.out.mono ?_
      rintro e w2 ⟨hb, rfl | ⟨r2, h1, h2, h3, rfl⟩⟩
      · have HB2 := Lib.hid ((HB.out.trans (HB3.out.mono HB.out.size)).trans (hb.mono (Nat.le_trans HB.out.size HB3.out.size)))
        have HX3 := Lib.hid (blk_below (blk_below HX.out HB3.out (lt_of_blk HX.out)) hb (Nat.lt_of_lt_of_le (lt_of_blk HX.out) HB3.out.size))
        have HE3 := Lib.hid (blk_below (blk_below HE.out HB3.out (lt_of_blk HE.out)) hb (Nat.lt_of_lt_of_le (lt_of_blk HE.out) HB3.out.size))
        clear hb
        refine leaves_cons (f := 25) (args := #[.pointer (some ⟨w.heap.size, 0, none⟩), .pointer (some ⟨w.heap.size + 1, 0, none⟩)]) (by simp) (by simp [go_sem]) ?_
        refine (catch_none w.heap.size (w.heap.size + 1) _ _ _ _ _ _ _ _ w2 HX3.out HE3.out (by omega)).mono ?_
        rintro e u' w'' ⟨rfl, rfl, hC⟩
        have c0 := cell_of_blk hC.root 0
        have c1 := cell_of_blk hC.root 1
        have c2 := cell_of_blk hC.root 2
        have c3 := cell_of_blk hC.root 3
        have c4 := cell_of_blk hC.root 4
        have c5 := cell_of_blk hC.root 5
        have c6 := cell_of_blk hC.root 6
        have d0 := cell_of_blk hC.errno 0
        simp [zeroC] at c0 c1 c2 c3 c4 c5 c6 d0
        have HF := Lib.hid (show FoldNo w (.returned (.tuple #[.agg zeroC, .int .i64 4])) w'' from ⟨HB2.out.trans (hC.below _ (Nat.le_refl _) (by omega) HB2.out.size), rfl⟩)
        clear hC
        simp [Leaves, settle, results, Tryz.results11, go_sem, c0, c1, c2, c3, c4, c5, c6, d0]
        exact HF.out
      · rw [HRX.out] at h1
        exact (HNO2.out _ _ h2 h3 h1).elim
end Go.Proofs.YtchcelodeepjdaaGreatDoor.Ln

namespace Go.Proofs.YtchcelodeepjdaaGreatDoor.Ln
open Go.RowKit Go.Shelf Go.Herb

theorem n64 {x : Int} (h : U64 x) : N64 x := by
  unfold U64 at h
  simp [Lit.wf, IntKind.min, IntKind.max, IntKind.signed, IntKind.bits] at h
  unfold N64
  omega
theorem maxLen_lt {n : Nat} (h : n ≤ maxLen) : n < 18446744073709551616 := by unfold maxLen at h; omega
theorem rtN_of {w : World} {r : Rv} (hi : RtIn w r) (hf : FewX r.says) : RtN r.says := by
  have h1 := hf.bs
  have h2 := hf.ls
  have h3 := hf.vs
  refine ⟨n64 hi.seq, n64 hi.log, n64 hi.next, fun x hx => ?_, fun x hx => ?_, fun x hx => ?_, by omega, by omega, by omega⟩
  · have h := hi.brs.all x hx
    exact ⟨maxLen_lt h.1, n64 h.2.1, n64 h.2.2⟩
  · have h := hi.lns.all x hx
    exact ⟨n64 h.1, n64 h.2⟩
  · obtain ⟨y, hy, rfl⟩ := List.mem_map.1 hx
    have h := hi.vcs.wf y hy
    exact ⟨n64 h.1, maxLen_lt (hi.vcs.lens y hy), fun p hp => ⟨n64 (h.2 p hp).1, n64 (h.2 p hp).2⟩⟩
theorem sdN_of {w : World} {r : Rv} (hi : RtIn w r) : ∀ s ∈ r.says.sh, SdN s := fun s hs => by
  obtain ⟨y, hy, rfl⟩ := List.mem_map.1 hs
  have h := hi.shs.ok y hy
  refine ⟨n64 h.wf, rfl, fun l hl => ?_⟩
  obtain ⟨v, hv, rfl⟩ := List.mem_map.1 (show l ∈ y.lv.map (·.ts) from hl)
  obtain ⟨k, hk⟩ := List.mem_iff_getElem?.1 hv
  have ho := Sv.lvl h hk
  exact ⟨maxLen_lt (Nat.le_trans ho.le ho.max), fun t ht => by
    have h2 := ho.wf t ht
    exact ⟨n64 h2.1, ⟨h2.2.1.1, by have := h2.2.1.2; omega⟩, maxLen_lt h2.2.2.1, maxLen_lt h2.2.2.2⟩⟩
theorem oneIs_whole {w : World} {r : Rv} (hi : RtIn w r) (hg : GoodR r) (hf : FewX r.says) : OneIs (wholeL r.says) r.says := by
  have h := shP_put (sdN_of hi) (by have h1 := sh_few hf; show (r.sh.map Sv.says).length < _; rw [List.length_map]; omega) []
  rw [List.append_nil] at h
  exact ⟨⟨headL r.says ++ shL r.says.sh, { r.says with sh := [] }, shL r.says.sh, [], r.says.sh, rfl, rtP_put (rtN_of hi hf) _, h, rfl⟩, (goodR_iff r).1 hg, rfl⟩
theorem edN_rv {w w' : World} {r q : Rv} (hi : RtIn w r) (hf : FewX r.says) (hq : RtIn w' q) (fq : FewX q.says) : EdN r.says q.says :=
  edN_of (rtN_of hi hf) (sdN_of hi) (sdN_of hq) (by have h1 := sh_few hf; show (r.sh.map Sv.says).length < _; rw [List.length_map]; omega) (by have h1 := sh_few fq; show (q.sh.map Sv.says).length < _; rw [List.length_map]; omega)
theorem editL_few {w w' : World} {r q : Rv} (hi : RtIn w r) (hg : GoodR r) (hn : NotGreat r) (hq : RtIn w' q) (nq : NotGreat q) : (editL r.says q.says).length < 450000 := by
  have h1 := wholeL_few hi hg hn
  have es : r.says.sh = r.sh.map Sv.says := rfl
  have hg2 : (goneL r.says.sh q.says.sh).length ≤ 30 := by
    have h2 := nq.sh
    unfold goneL
    rw [List.length_map]
    refine Nat.le_trans (List.length_filter_le _ _) ?_
    show (q.sh.map Sv.says).length ≤ _
    rw [List.length_map]
    exact h2
  have hgu : ∀ x ∈ goneL r.says.sh q.says.sh, U64 x := fun x hx => by
    obtain ⟨s, hs, rfl⟩ := List.mem_map.1 hx
    obtain ⟨y, hy, rfl⟩ := List.mem_map.1 (List.mem_filter.1 hs).1
    exact (hq.shs.ok y hy).wf
  have h3 := numsL_len _ hgu
  have h4 := num_len (u64_len (n := (goneL r.says.sh q.says.sh).length) (by omega))
  have hnl : (newL r.says.sh q.says.sh).length ≤ 30 := by
    have h2 := hn.sh
    refine Nat.le_trans (List.length_filter_le _ _) ?_
    rw [es, List.length_map]
    exact h2
  have h5 := num_len (u64_len (n := (newL r.says.sh q.says.sh).length) (by omega))
  have h6 : ∀ (p : Sd → Bool) (l : List Sd), ((l.filter p).flatMap sdL).length ≤ (l.flatMap sdL).length := fun p l => by
    induction l with
    | nil => simp
    | cons x l ih =>
      rw [List.filter_cons, List.flatMap_cons, List.length_append]
      split
      · rw [List.flatMap_cons, List.length_append]; omega
      · omega
  have h7 := h6 (fun s => !asWas q.says.sh s) r.says.sh
  have h8 : (wholeL r.says).length = 1 + ((headL r.says).length + ((numsL [(r.says.sh.length : Int)]).length + (r.says.sh.flatMap sdL).length)) := by
    unfold wholeL shL
    simp only [List.length_cons, List.length_append]
    omega
  have h9 : (editL r.says q.says).length = 1 + ((headL r.says).length + (numsL [((goneL r.says.sh q.says.sh).length : Int)]).length + (numsL (goneL r.says.sh q.says.sh)).length + ((numsL [((newL r.says.sh q.says.sh).length : Int)]).length + ((newL r.says.sh q.says.sh).flatMap sdL).length)) := by
    unfold editL shL
    simp only [List.length_cons, List.length_append]
    omega
  rw [numsL_one] at h9
  have h10 : ((newL r.says.sh q.says.sh).flatMap sdL).length ≤ (r.says.sh.flatMap sdL).length := h7
  have h11 : (numsL [((newL r.says.sh q.says.sh).length : Int)]).length ≤ 10 := by rw [numsL_one]; exact h5
  omega
end Go.Proofs.YtchcelodeepjdaaGreatDoor.Ln
