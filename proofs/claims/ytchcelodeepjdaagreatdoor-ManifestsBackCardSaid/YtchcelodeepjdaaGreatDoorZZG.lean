/- manifests.Fold of any records. Condition: fewer than 500000 bytes each; what they tell weighs at most 400000. -/
import Derived.Test.YtchcelodeepjdaaGreatDoorZZF
namespace Go.Proofs.YtchcelodeepjdaaGreatDoor.Ln
open Go.RowKit Go.Shelf Go.Herb

/-- What records tell, one behind the other. -/
def ToldFrom (Q : Option Rt) : List (List Int) → Option Rt → Prop
  | [], R => R = Q
  | ys :: l, R => ∃ x, StepIs Q ys x ∧ ToldFrom (some x) l R
theorem told_app {l1 : List (List Int)} : ∀ {Q : Option Rt} {l2 : List (List Int)} {R : Option Rt}, ToldFrom Q (l1 ++ l2) R ↔ ∃ M, ToldFrom Q l1 M ∧ ToldFrom M l2 R := by
  induction l1 with
  | nil => exact fun {Q} {l2} {R} => ⟨fun h => ⟨Q, rfl, h⟩, fun ⟨M, e, h⟩ => by cases e; exact h⟩
  | cons y l1 ih =>
    intro Q l2 R
    constructor
    · rintro ⟨x, h1, h2⟩
      obtain ⟨M, h3, h4⟩ := ih.1 h2
      exact ⟨M, ⟨x, h1, h3⟩, h4⟩
    · rintro ⟨M, ⟨x, h1, h3⟩, h4⟩
      exact ⟨x, h1, ih.2 ⟨M, h3, h4⟩⟩
theorem told_good {l : List (List Int)} : ∀ {Q R : Option Rt}, (∀ q, Q = some q → GoodX q) → ToldFrom Q l R → ∀ q, R = some q → GoodX q := by
  induction l with
  | nil => intro Q R h e q hq; cases e; exact h q hq
  | cons y l ih =>
    rintro Q R h ⟨x, h1, h2⟩ q hq
    exact ih (fun z hz => by cases hz; exact h1.good) h2 q hq
theorem told_uniq {l : List (List Int)} : ∀ {Q R S : Option Rt}, (∀ q, Q = some q → GoodX q) → ToldFrom Q l R → ToldFrom Q l S → R = S := by
  induction l with
  | nil => intro Q R S _ e f; cases e; cases f; rfl
  | cons y l ih =>
    rintro Q R S h ⟨x, h1, h2⟩ ⟨z, k1, k2⟩
    have e := StepIs.uniq h h1 k1
    subst e
    exact ih (fun z hz => by cases hz; exact h1.good) h2 k2
theorem none_good (q : Rt) (h : none = some q) : GoodX q := by cases h
theorem told_snoc {l : List (List Int)} {ys : List Int} {Q M : Option Rt} {x : Rt} (h : ToldFrom Q l M) (k : StepIs M ys x) : ToldFrom Q (l ++ [ys]) (some x) := told_app.2 ⟨M, h, x, k, rfl⟩
theorem told_some2 {l : List (List Int)} : ∀ {q : Rt} {R : Option Rt}, ToldFrom (some q) l R → ∃ x, R = some x := by
  induction l with
  | nil => intro q R h; exact ⟨q, h⟩
  | cons y l ih => rintro q R ⟨x, _, h⟩; exact ih h
theorem told_some {l : List (List Int)} {Q R : Option Rt} (hl : l ≠ []) (h : ToldFrom Q l R) : ∃ x, R = some x := by
  cases l with
  | nil => exact absurd rfl hl
  | cons y l =>
    obtain ⟨x, _, h⟩ := h
    exact told_some2 h
theorem told_step {rs : List (List Int)} {k : Nat} {ys : List Int} {Q R : Option Rt} (hk : rs[k]? = some ys) (h1 : ToldFrom none (rs.take k) Q) (h2 : ToldFrom none rs R) : ∃ x, StepIs Q ys x := by
  obtain ⟨hlt, hget⟩ := List.getElem?_eq_some_iff.1 hk
  have e : rs = rs.take k ++ (ys :: rs.drop (k + 1)) := by
    rw [← hget, List.getElem_cons_drop, List.take_append_drop]
  rw [e] at h2
  obtain ⟨M, h3, x, h4, _⟩ := told_app.1 h2
  have := told_uniq none_good h1 h3
  subst this
  exact ⟨x, h4⟩
abbrev Told (rs : List (List Int)) (x : Rt) : Prop := ToldFrom none rs (some x)
/-- A record in a row of records. -/
structure RecOk (w : World) (v : Value) (ys : List Int) : Prop where
  ok : ∃ a n cap, v = .slice a n cap ∧ Byt w a ys ∧ ys.length = n ∧ n ≤ cap ∧ (a = none → cap = 0)
  u8 : ∀ y ∈ ys, U8 y
  few : ys.length < 500000
theorem RecOk.ext {w w' : World} {v : Value} {ys : List Int} (h : RecOk w v ys) (hb : Below w.heap.size w w') : RecOk w' v ys := by
  obtain ⟨a, n, cap, h1, h2, h3⟩ := h.ok
  exact ⟨⟨a, n, cap, h1, h2.ext hb, h3⟩, h.u8, h.few⟩
def RecsIn (w : World) (g go : Nat) (rs : List (List Int)) : Prop := ∀ (k : Nat) (ys : List Int), rs[k]? = some ys → ∃ v, w.cell? ⟨g, go + k, none⟩ = some v ∧ RecOk w v ys
def FoldPost (rs : List (List Int)) (w : World) (e : Ending) (w' : World) : Prop := Below w.heap.size w w' ∧ (((¬ ∃ x, Told rs x) ∧ e = .returned (.tuple #[.agg zeroC, .int .i64 4])) ∨ ∃ r : Rv, Told rs r.says ∧ e = .returned (.tuple #[rtV r, .int .i64 0]) ∧ RtIn w' r ∧ FewX r.says)
/-- A root that is there while Fold's blocks are. -/
structure FoldSt (rs : List (List Int)) (W u : World) (k : Nat) (P : Option Addr) (Q : Option Rv) : Prop where
  below : Below W.heap.size W u
  told : ToldFrom none (rs.take k) (saysO Q)
  box : (P = none ∧ Q = none) ∨ ∃ q rb, P = some ⟨rb, 0, none⟩ ∧ Q = some q ∧ FewX q.says ∧ u.heap[rb]? = some (.cells #[.int .u64 q.seq, .int .u64 q.log, .int .u64 q.next, .slice q.ba q.bs.length q.bc, .slice q.la q.ls.length q.lc, .slice q.va q.vs.length q.vc, .slice q.sa q.sh.length q.sc] (32) (0, 0)) ∧ (∀ u', KeepB W.heap.size u u' → RtIn u' q)
theorem keepB_refl (B : Nat) (u : World) : KeepB B u u := fun _ _ _ h _ => h
theorem KeepB.trans {B B' : Nat} {u u' u'' : World} (h : KeepB B u u') (k : KeepB B' u' u'') (hb : B' ≤ B) : KeepB B u u'' := fun i cs e hh hi => k i cs e (h i cs e hh hi) (by omega)
theorem FoldSt.ahead {rs : List (List Int)} {W u : World} {k : Nat} {P : Option Addr} {Q : Option Rv} (h : FoldSt rs W u k P Q) (hw : ∀ k x, Told (rs.take k) x → wtR x ≤ 400000) : AheadIs u P Q := by
  rcases h.box with ⟨rfl, rfl⟩ | ⟨q, rb, rfl, rfl, hf, hb, hs⟩
  · exact .inl ⟨rfl, rfl⟩
  · exact .inr ⟨q, rb, rfl, rfl, hs u (keepB_refl _ _), (goodR_iff _).2 (told_good none_good h.told _ rfl), hf, hw k _ h.told, _, hb⟩
theorem FoldSt.next {rs : List (List Int)} {W u w2 : World} {k : Nat} {P : Option Addr} {Q : Option Rv} {ys : List Int} {r : Rv} (h : FoldSt rs W u k P Q) (hk : rs[k]? = some ys) (hb : Below u.heap.size u w2) (h1 : StepIs (saysO Q) ys r.says) (h2 : Stay u.heap.size w2 Q r) (h3 : FewX r.says) :
    FoldSt rs W (w2.alloc (.cells #[.int .u64 r.seq, .int .u64 r.log, .int .u64 r.next, .slice r.ba r.bs.length r.bc, .slice r.la r.ls.length r.lc, .slice r.va r.vs.length r.vc, .slice r.sa r.sh.length r.sc] (32))) (k + 1) (some ⟨w2.heap.size, 0, none⟩) (some r) := by
  have hb3 : Below w2.heap.size w2 (w2.alloc (.cells #[.int .u64 r.seq, .int .u64 r.log, .int .u64 r.next, .slice r.ba r.bs.length r.bc, .slice r.la r.ls.length r.lc, .slice r.va r.vs.length r.vc, .slice r.sa r.sh.length r.sc] (32))) := (Below.refl _ _).alloc (Nat.le_refl _) _
  have hB := h.below.trans (hb.mono h.below.size)
  refine ⟨hB.trans (hb3.mono hB.size), ?_, .inr ⟨r, _, rfl, rfl, h3, blk_new_at rfl _, fun u' hu => ?_⟩⟩
  · obtain ⟨hlt, hget⟩ := List.getElem?_eq_some_iff.1 hk
    rw [List.take_succ_eq_append_getElem hlt, hget]
    exact told_snoc h.told h1
  · refine h2 u' (fun i cs e hh hi => hu i cs e (blk_below hh hb3 (lt_of_blk hh)) (by have := h.below.size; omega)) (fun q hq => ?_)
    rcases h.box with ⟨_, rfl⟩ | ⟨q', rb, _, rfl, _, _, hs⟩
    · cases hq
    · cases hq
      exact hs u' (fun i cs e hh hi => hu i cs e (blk_below (blk_below hh hb (lt_of_blk hh)) hb3 (Nat.lt_of_lt_of_le (lt_of_blk hh) hb.size)) hi)
set_option maxRecDepth 100000 in
set_option maxHeartbeats 2000000 in
theorem fold_any (g go cl N : Nat) (rs : List (List Int)) (w : World) (hg : RecsIn w g go rs) (hgl : g < w.heap.size) (hN : rs.length = N) (hN0 : 0 < N) (hNl : N < 1000000) (hw : ∀ k x, Told (rs.take k) x → wtR x ≤ 400000) :
    Calls Tryz.prog (11) #[.slice (some ⟨g, go, none⟩) N cl] w (FoldPost rs w) := by
  have hmf : ∀ (fn : Fn) (first cap : Array Value) (w : World), (Instr.makeFunc fn first cap).run Tryz.prog w = .ok (.func fn first cap) w := fun _ _ _ _ => rfl
  obtain ⟨W1, hW1⟩ : ∃ W : World, W = w.alloc (.cells #[.int .u64 0, .int .u64 0, .int .u64 0, .slice none 0 0, .slice none 0 0, .slice none 0 0, .slice none 0 0] (32)) := ⟨_, rfl⟩
  obtain ⟨W, hW⟩ : ∃ W : World, W = W1.alloc (.cells #[.int .i64 0] (33)) := ⟨_, rfl⟩
  have hB1 : Below w.heap.size w W1 := by rw [hW1]; exact (Below.refl _ _).alloc (Nat.le_refl _) _
  have hz1 : W1.heap.size = w.heap.size + 1 := by rw [hW1]; simp
  have hB2 : Below W1.heap.size W1 W := by rw [hW]; exact (Below.refl _ _).alloc (Nat.le_refl _) _
  have hBW : Below w.heap.size w W := hB1.trans (hB2.mono hB1.size)
  have hx1 : W1.heap[w.heap.size]? = some (.cells zeroC (32) (0, 0)) := by rw [hW1]; exact blk_new_at rfl _
  have HX := Lib.hid (blk_below hx1 hB2 (lt_of_blk hx1))
  have HE := Lib.hid (show W.heap[w.heap.size + 1]? = some (.cells #[.int .i64 0] (33) (0, 0)) from by rw [hW]; exact blk_new_at (by rw [hW1]; simp) _)
  have HZ := Lib.hid (show W.heap.size = w.heap.size + 2 from by rw [hW]; simp [hz1])
  have HO := Lib.hid (show ∀ (k : Nat) (ys : List Int), rs[k]? = some ys → ∀ (u : World) (P : Option Addr) (Q : Option Rv), Below W.heap.size W u → AheadIs u P Q → ∃ a n cap, u.cell? ⟨g, go + k, none⟩ = some (.slice a n cap) ∧ Calls Tryz.prog (26) #[.slice a n cap, .pointer P] u (OneAnyPost ys Q u) from fun k ys hk u P Q hu hq => by
    obtain ⟨v, hv, hr⟩ := hg k ys hk
    have hBu := hBW.trans (hu.mono hBW.size)
    obtain ⟨a, n, cap, rfl, h1, h2, h3, h4⟩ := hr.ok
    exact ⟨a, n, cap, (hBu.cell (p := ⟨g, go + k, none⟩) hgl).trans hv, one_any P Q a cap n ys u (h1.ext hBu) h2 hr.u8 (by have := hr.few; omega) h3 h4 hq⟩)
  have HN := Lib.hid hN
  have HWT := Lib.hid hw
  have z0 : ((N : Int) == 0) = false := beq_eq_false_iff_ne.2 (by omega)
  have z1 : (N == 0) = false := beq_eq_false_iff_ne.2 (by omega)
  have z2 : ¬ (N : Int) = 0 := by omega
  have HB := Lib.hid hBW
  have HW := Lib.hid hW
  have HW1 := Lib.hid hW1
  clear hg hgl hN hw hB1 hz1 hB2 hBW hx1
  go_enter_defers Tryz.func11, Tryz.ntmps11
  go_upto_region 6 with fail
  rw [← hW1, ← hW]
  clear hW1 hW
  clear z0 z1 z2
  go_loopg [15, 4] N (fun gk iv v4 wr => ∃ k : Nat, k + gk = N ∧ iv = .int .i64 k ∧ ∃ (P : Option Addr) (Q : Option Rv), v4 = .pointer P ∧ Hid (FoldSt rs W wr k P Q))
  case atStart => exact ⟨0, by omega, rfl, none, none, rfl, Lib.hid ⟨Below.refl _ _, rfl, .inl ⟨rfl, rfl⟩⟩⟩
  case round =>
    obtain ⟨k, hk, rfl, P, Q, rfl, HST⟩ := hrel
    by_cases hkN : k < N
    · obtain ⟨ys, hys⟩ : ∃ ys, rs[k]? = some ys := ⟨_, List.getElem?_eq_getElem (by rw [HN.out]; exact hkN)⟩
      obtain ⟨a, n, cap, g0, hc⟩ := HO.out k ys hys wr P Q HST.out.below (HST.out.ahead HWT.out)
      have HC := Lib.hid hc
      have HYS := Lib.hid hys
      have i0 : (0 : Int) ≤ (k : Int) := by omega
      have i1 : (k : Int) < (N : Int) := by omega
      have HBU := Lib.hid (HB.out.trans (HST.out.below.mono HB.out.size))
      clear hc hys
      go_wp2_with fail
      refine HC.out.mono ?_
      rintro e w2 ⟨hb, ⟨hno, rfl⟩ | ⟨r, h1, h2, h3, rfl⟩⟩
      · have HNO := Lib.hid (show ¬ ∃ x, Told rs x from fun ⟨x, hx⟩ => hno (told_step HYS.out HST.out.told hx))
        have HB2 := Lib.hid (HBU.out.trans (hb.mono HBU.out.size))
        have HX2 := Lib.hid (blk_below (blk_below HX.out HST.out.below (lt_of_blk HX.out)) hb (Nat.lt_of_lt_of_le (lt_of_blk HX.out) HST.out.below.size))
        have HE2 := Lib.hid (blk_below (blk_below HE.out HST.out.below (lt_of_blk HE.out)) hb (Nat.lt_of_lt_of_le (lt_of_blk HE.out) HST.out.below.size))
        clear hno hb
        refine leaves_cons (f := 25) (args := #[.pointer (some ⟨w.heap.size, 0, none⟩), .pointer (some ⟨w.heap.size + 1, 0, none⟩)]) (by simp) (by simp [go_sem]) ?_
        refine (catch_none w.heap.size (w.heap.size + 1) _ _ _ _ _ _ _ _ w2 HX2.out HE2.out (by omega)).mono ?_
        rintro e u' w'' ⟨rfl, rfl, hC⟩
        have c0 := cell_of_blk hC.root 0
        have c1 := cell_of_blk hC.root 1
        have c2 := cell_of_blk hC.root 2
        have c3 := cell_of_blk hC.root 3
        have c4 := cell_of_blk hC.root 4
        have c5 := cell_of_blk hC.root 5
        have c6 := cell_of_blk hC.root 6
        have d0 := cell_of_blk hC.errno 0
        simp [zeroC] at c0 c1 c2 c3 c4 c5 c6 d0
        have HF := Lib.hid (show FoldPost rs w (.returned (.tuple #[.agg zeroC, .int .i64 4])) w'' from ⟨HB2.out.trans (hC.below _ (Nat.le_refl _) (by omega) HB2.out.size), .inl ⟨HNO.out, rfl⟩⟩)
        clear hC
        simp [Leaves, settle, results, Tryz.results11, go_sem, c0, c1, c2, c3, c4, c5, c6, d0]
        exact HF.out
      · have HNX := Lib.hid (HST.out.next HYS.out hb h1 h2 h3)
        clear hb h1 h2 h3
        go_wp2_with fail
        go_roundg (gk - 1)
        case measure => omega
        case rel => exact ⟨k + 1, by omega, rfl, _, _, rfl, HNX.out⟩
    · have hk1 : k = N := by omega
      subst hk1
      have htake : rs.take k = rs := List.take_of_length_le (by rw [HN.out]; exact Nat.le_refl _)
      have htold := HST.out.told
      rw [htake] at htold
      rcases HST.out.box with ⟨-, rfl⟩ | ⟨r, b, rfl, rfl, hf, hbk, hs⟩
      · exfalso
        obtain ⟨x, e⟩ := told_some (fun e => by have := HN.out; rw [e] at this; simp at this; omega) htold
        cases e
      have hB := HST.out.below
      obtain ⟨nb, hnb⟩ : ∃ n, n = r.bs.length := ⟨_, rfl⟩
      obtain ⟨nl, hnl⟩ : ∃ n, n = r.ls.length := ⟨_, rfl⟩
      obtain ⟨nv, hnv⟩ : ∃ n, n = r.vs.length := ⟨_, rfl⟩
      obtain ⟨ns, hns⟩ : ∃ n, n = r.sh.length := ⟨_, rfl⟩
      have hrt : rtV r = .agg #[.int .u64 r.seq, .int .u64 r.log, .int .u64 r.next, .slice r.ba nb r.bc, .slice r.la nl r.lc, .slice r.va nv r.vc, .slice r.sa ns r.sc] := by rw [hnb, hnl, hnv, hns]
      rw [← hnb, ← hnl, ← hnv, ← hns] at hbk
      have HRT := Lib.hid hrt
      have hxb := blk_below HX.out hB (lt_of_blk HX.out)
      have heb := blk_below HE.out hB (lt_of_blk HE.out)
      have HC0 := Lib.hid (show CX w.heap.size (w.heap.size + 1) wr wr zeroC #[.int .i64 0] from ⟨hxb, heb, fun B _ _ _ => Below.refl _ _, fun _ _ hk _ _ => hk⟩)
      have HTO := Lib.hid (show Told rs r.says from htold)
      have HFX := Lib.hid hf
      have HSS := Lib.hid hs
      have HBk := Lib.hid hB
      have c0 := cell_of_blk hbk 0
      have c1 := cell_of_blk hbk 1
      have c2 := cell_of_blk hbk 2
      have c3 := cell_of_blk hbk 3
      have c4 := cell_of_blk hbk 4
      have c5 := cell_of_blk hbk 5
      have c6 := cell_of_blk hbk 6
      simp at c0 c1 c2 c3 c4 c5 c6
      have x0 := cell_of_blk hxb 0
      have x1 := cell_of_blk hxb 1
      have x2 := cell_of_blk hxb 2
      have x3 := cell_of_blk hxb 3
      have x4 := cell_of_blk hxb 4
      have x5 := cell_of_blk hxb 5
      have x6 := cell_of_blk hxb 6
      have e0 := cell_of_blk heb 0
      simp [zeroC] at x0 x1 x2 x3 x4 x5 x6 e0
      have f0 := frozen_of_blk hxb 0
      have f1 := frozen_of_blk hxb 1
      have f2 := frozen_of_blk hxb 2
      have f3 := frozen_of_blk hxb 3
      have f4 := frozen_of_blk hxb 4
      have f5 := frozen_of_blk hxb 5
      have f6 := frozen_of_blk hxb 6
      have k0 := frozen_of_blk heb 0
      clear hkN HST htake htold hbk hf hs hB hnb hnl hnv hns hrt hxb heb
      go_wp2_with fail
      have hxe : w.heap.size ≠ w.heap.size + 1 := by omega
      have HC := Lib.hid ((((((((HC0.out.x hxe 0 (.int .u64 r.seq) _ rfl).x hxe 1 (.int .u64 r.log) _ rfl).x hxe 2 (.int .u64 r.next) _ rfl).x hxe 3 (.slice r.ba nb r.bc) _ rfl).x hxe 4 (.slice r.la nl r.lc) _ rfl).x hxe 5 (.slice r.va nv r.vc) _ rfl).x hxe 6 (.slice r.sa ns r.sc) #[.int .u64 r.seq, .int .u64 r.log, .int .u64 r.next, .slice r.ba nb r.bc, .slice r.la nl r.lc, .slice r.va nv r.vc, .slice r.sa ns r.sc] rfl).e hxe 0 (.int .i64 0) #[.int .i64 0] rfl)
      obtain ⟨Z, hZ⟩ := HC.out.name
      rw [← hZ] at HC ⊢
      clear hZ x0 x1 x2 x3 x4 x5 x6 e0 c0 c1 c2 c3 c4 c5 c6 f0 f1 f2 f3 f4 f5 f6 k0
      refine leaves_cons (f := 25) (args := #[.pointer (some ⟨w.heap.size, 0, none⟩), .pointer (some ⟨w.heap.size + 1, 0, none⟩)]) (by simp) (by simp [go_sem]) ?_
      refine (catch_idle ⟨w.heap.size, 0, none⟩ ⟨w.heap.size + 1, 0, none⟩ _).mono ?_
      rintro e u' w'' ⟨rfl, rfl, rfl⟩
      have c0 := cell_of_blk HC.out.root 0
      have c1 := cell_of_blk HC.out.root 1
      have c2 := cell_of_blk HC.out.root 2
      have c3 := cell_of_blk HC.out.root 3
      have c4 := cell_of_blk HC.out.root 4
      have c5 := cell_of_blk HC.out.root 5
      have c6 := cell_of_blk HC.out.root 6
      have d0 := cell_of_blk HC.out.errno 0
      simp at c0 c1 c2 c3 c4 c5 c6 d0
      have HF := Lib.hid (show FoldPost rs w (.returned (.tuple #[.agg #[.int .u64 r.seq, .int .u64 r.log, .int .u64 r.next, .slice r.ba nb r.bc, .slice r.la nl r.lc, .slice r.va nv r.vc, .slice r.sa ns r.sc], .int .i64 0])) w'' from ⟨(HB.out.trans (HBk.out.mono HB.out.size)).trans (HC.out.below _ (Nat.le_refl _) (by omega) (Nat.le_trans HB.out.size HBk.out.size)), .inr ⟨r, HTO.out, by rw [HRT.out], HSS.out _ (fun g cs e hh hg => HC.out.kept g _ hh (by have := HZ.out; omega) (by have := HZ.out; omega)), HFX.out⟩⟩)
      simp [Leaves, settle, results, Tryz.results11, go_sem, c0, c1, c2, c3, c4, c5, c6, d0]
      exact HF.out
end Go.Proofs.YtchcelodeepjdaaGreatDoor.Ln
