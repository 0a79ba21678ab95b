/- ref16: Fork. Condition: fewer than 100000 lines and points. -/
import Derived.Test.YtnnpheklgdbohaaYA
namespace Go.Proofs.Ytnnpheklgdbohaa
open Go.RowKit Go.Shelf Go.Herb

/-- New vectors, to which lines are put. -/
structure FAt (q : Nat) (u : World) (v : Value) (zs : List Vc) : Prop where
  blk : u.heap[q]? = some (.cells #[v] (57) (0, 0))
  own : OwnV (q + 1) u v zs
theorem FAt.add {q : Nat} {wr : World} {v : Value} {zs : List Vc} (h : FAt q wr v zs) (y : Vc) (m : Nat) (hm : y.ps.length = m) (hl : zs.length < 1000000) :
    ∃ v' w9, (∀ ty, (Builtin.append_ #[(22), (22)] ty #[v, .slice (some ⟨wr.heap.size, 0, none⟩) 1 1]).run Try.prog (wr.alloc (.cells #[.int .u64 y.line, .slice y.a m y.c] (32))).drew = .ok v' w9) ∧ (w9.cell? ⟨q, 0, none⟩ = some v ∧ w9.frozen? ⟨q, 0, none⟩ = false) ∧
      (wr.drew.cell? ⟨q, 0, none⟩ = some v ∧ (wr.alloc (.cells #[.int .u64 y.line, .slice y.a m y.c] (32))).drew.cell? ⟨q, 0, none⟩ = some v) ∧ FAt q (w9.setCell ⟨q, 0, none⟩ v') v' (zs ++ [y]) ∧ ∀ W, Below q W wr → Below q W (w9.setCell ⟨q, 0, none⟩ v') := by
  subst hm
  obtain ⟨X, hX⟩ : ∃ X : World, X = (wr.alloc (.cells #[.int .u64 y.line, .slice y.a y.ps.length y.c] (32))).drew := ⟨_, rfl⟩
  have hXb : Below wr.heap.size wr X := by rw [hX]; exact ((Below.refl _ _).alloc (Nat.le_refl _) _).drew
  have hXx : X.heap[wr.heap.size]? = some (.cells #[.int .u64 y.line, .slice y.a y.ps.length y.c] (32) (0, 0)) := by rw [hX]; exact blk_new_at rfl _
  have hq := lt_of_blk h.blk
  have hXs := hXb.size
  have hq0 := blk_below h.blk hXb hq
  obtain ⟨v', w9, hr, hO, hg, -⟩ := run_append_v X (q + 1) v zs wr.heap.size y (ownsRow_below h.own hXb (Nat.le_refl _)) hXx hl (by omega) (22)
  have hlt : ∀ k, v.ownBlock = some k → q + 1 ≤ k := fun k e => (World.ownsRow.lt h.own k e).1
  have hlt' : ∀ k, v'.ownBlock = some k → q + 1 ≤ k := fun k e => (World.ownsRow.lt hO k e).1
  have hb9 := (hg.block q (by omega) (fun e => by have := hlt q e.symm; omega)).trans hq0
  have c9 := cell_of_blk hb9 0
  have cX := cell_of_blk hq0 0
  have cr := cell_of_blk h.blk 0
  have f9 := frozen_of_blk hb9 0
  simp at c9 cX cr
  rw [hX] at cX
  rw [← hX]
  have hg2 : w9.grownBy (w9.setCell ⟨q, 0, none⟩ v') (some q) := grown_set (grown_refl _ _) _ _
  refine ⟨v', w9, fun _ => hr, ⟨c9, f9⟩, ⟨cr, by rw [hX]; exact cX⟩, ⟨by have := blk_setCell (j := 0) hb9 v'; simpa using this, World.ownsRow.kept hO hg2 (.inr (fun e => by have := hlt' q e; omega))⟩, fun W hW => ?_⟩
  have h1 : Below q W w9 := (hW.trans (hXb.mono (by omega))).grown hg (by omega) (fun k e => by have := hlt k e; omega)
  exact h1.grown hg2 (by have := hg.size; omega) (fun k e => by injection e with e; omega)
theorem FAt.ref {B q : Nat} {u : World} {v : Value} {zs : List Vc} {L : Vs} (h : FAt q u v zs) (hz : ∀ z ∈ zs, VcO B u z) (hL : vsOf zs = L) (hG : GoodV L) : ∃ la lc, RefIs u q la lc zs L := by
  obtain ⟨la, lc, rfl, -, h1, h2, -⟩ := own_parts h.own
  have hm : ∀ x ∈ zs, (x.line, x.ps) ∈ L := fun x hx => by rw [← hL]; exact List.mem_map.2 ⟨x, hx, rfl⟩
  refine ⟨la, lc, h.blk, ⟨owns_els vc_len h.own, fun x hx => (hz x hx).pts, fun x h => ⟨hG.wf _ (hm x h), fun q hq => (hG.inn _ (hm x h)).wf q hq⟩, Nat.le_trans h1 h2, fun x hx => ?_⟩, hL⟩
  obtain ⟨c, hc⟩ := hz x hx
  obtain ⟨_, _, _, -, h3, h4, -⟩ := own_parts hc
  exact Nat.le_trans h3 h4
def lo_ (ys : List Vc) (line : Int) (k : Nat) : List Vc := (ys.take k).filter (fun y => decide (y.line < line))
def hi_ (bs ys : List Vc) (line : Int) (k : Nat) : List Vc := bs ++ (ys.take k).filter (fun y => decide (line < y.line))
theorem lo_step {ys : List Vc} {line : Int} {k : Nat} {y : Vc} (hy : ys[k]? = some y) : (y.line < line → lo_ ys line (k + 1) = lo_ ys line k ++ [y]) ∧ (¬ y.line < line → lo_ ys line (k + 1) = lo_ ys line k) := by
  obtain ⟨hi, rfl⟩ := List.getElem?_eq_some_iff.1 hy
  unfold lo_
  rw [List.take_succ_eq_append_getElem hi, List.filter_append]
  exact ⟨fun h => by simp [h], fun h => by simp [h]⟩
theorem hi_step {bs ys : List Vc} {line : Int} {k : Nat} {y : Vc} (hy : ys[k]? = some y) : (line < y.line → hi_ bs ys line (k + 1) = hi_ bs ys line k ++ [y]) ∧ (¬ line < y.line → hi_ bs ys line (k + 1) = hi_ bs ys line k) := by
  obtain ⟨hi, rfl⟩ := List.getElem?_eq_some_iff.1 hy
  unfold hi_
  rw [List.take_succ_eq_append_getElem hi, List.filter_append]
  exact ⟨fun h => by simp [h], fun h => by simp [h]⟩
theorem lo_len (ys : List Vc) (line : Int) (k : Nat) : (lo_ ys line k).length ≤ k := by
  unfold lo_
  have := List.length_filter_le (fun y : Vc => decide (y.line < line)) (ys.take k)
  simp at this
  simp
  omega
theorem hi_len (bs ys : List Vc) (line : Int) (k : Nat) : (hi_ bs ys line k).length ≤ bs.length + k := by
  unfold hi_
  have := List.length_filter_le (fun y : Vc => decide (line < y.line)) (ys.take k)
  simp at this
  simp
  omega
theorem vs_fork {ys : List Vc} {L : Vs} (h : vsOf ys = L) (line : Int) (x : Vc) (hx : x.line = line) : vsOf (hi_ (lo_ ys line ys.length ++ [x]) ys line ys.length) = putS L line x.ps := by
  subst h
  unfold hi_ lo_ vsOf putS
  rw [List.take_length, List.map_append, List.map_append, List.filter_map, List.filter_map, List.map_cons, List.map_nil, hx, List.append_assoc]
  rfl
theorem mem_fork {ys : List Vc} {line : Int} {x z : Vc} (h : z ∈ hi_ (lo_ ys line ys.length ++ [x]) ys line ys.length) : z ∈ ys ∨ z = x := by
  unfold hi_ lo_ at h
  rcases List.mem_append.1 h with h | h
  · rcases List.mem_append.1 h with h | h
    · exact .inl (List.mem_of_mem_take (List.mem_filter.1 h).1)
    · exact .inr (List.mem_singleton.1 h)
  · exact .inl (List.mem_of_mem_take (List.mem_filter.1 h).1)

set_option maxRecDepth 100000 in
set_option maxHeartbeats 4000000 in
theorem refFork_any (p : Nat) (la : Option Addr) (lc : Nat) (xs : List Vc) (L : Vs) (line fr : Int) (w : World) (h : RefIs w p la lc xs L) (hG : GoodV L) (hS : Small L) (hl : U64 line) :
    Calls Try.prog (23) #[.pointer (some ⟨p, 0, none⟩), .int .u64 line, .int .u64 fr] w (RefPost (forkV L line fr) w) := by
  have H := Lib.hid h
  have HG := Lib.hid hG
  have HS := Lib.hid hS
  have c0 := cell_of_blk h.blk 0
  simp at c0
  obtain ⟨n, hn⟩ : ∃ n, n = xs.length := ⟨_, rfl⟩
  rw [← hn] at c0
  have HN := Lib.hid hn
  have hLn : L.length = n := by rw [hn, ← h.vs, vsOf_len]
  have hnl : n < 100000 := by have := hS.len; omega
  clear h hG hS hn
  go_enter Try.func23, Try.ntmps23
  go_wp2_with fail
  refine (at_any p la lc xs L fr w H.out).mono ?_
  rintro e w1 ⟨rfl, hcase⟩
  rcases hcase with ⟨i, x, rfl, hx, hxl, hg⟩ | ⟨rfl, hg⟩
  rotate_left
  · have HE := Lib.hid (show RefPost (forkV L line fr) w1 (.returned (.tuple #[.pointer none, .int .i64 7])) w1 from by
      have hr : forkV L line fr = (7, []) := by unfold forkV; rw [hg]
      rw [hr]
      exact refErr (by decide) (Below.refl _ _))
    clear hg
    go_wp2_with fail
    go_ret2
    exact HE.out
  · have hi0 : (0 : Int) ≤ (i : Int) := by omega
    have hi2 : ¬ (i : Int) < 0 := by omega
    have HX := Lib.hid hx
    have HGL := Lib.hid hg
    have HXL := Lib.hid hxl
    clear hx hg hxl
    go_wp2_with fail
    refine (at_any p la lc xs L line w1 H.out).mono ?_
    rintro e w2 ⟨rfl, hcase⟩
    rcases hcase with ⟨j, z, rfl, hz, hzl, hg⟩ | ⟨rfl, hg⟩
    · have hj0 : (0 : Int) ≤ (j : Int) := by omega
      have HE := Lib.hid (show RefPost (forkV L line fr) w2 (.returned (.tuple #[.pointer none, .int .i64 8])) w2 from by
        have hr : forkV L line fr = (8, []) := by unfold forkV; rw [HGL.out, hg]; rfl
        rw [hr]
        exact refErr (by decide) (Below.refl _ _))
      clear hg hz hzl
      go_wp2_with fail
      go_ret2
      exact HE.out
    · have hil : i < n := by have := (List.getElem?_eq_some_iff.1 HX.out).1; have := HN.out; omega
      have hpl : x.ps.length < 100000 := HS.out.get HGL.out
      have HGX := Lib.hid (HG.out.get HGL.out)
      have hi1 : (i : Int) < (n : Int) := by omega
      have HR := Lib.hid (show forkV L line fr = (0, putS L line x.ps) by unfold forkV; rw [HGL.out, hg]; simp [laid_one HGX.out.1])
      clear hg
      go_wp2_with fail
      refine (refCopied_any la lc n xs w2 H.out.inn HN.out.symm (by rw [H.out.vs]; exact HS.out)).mono ?_
      rintro e w3 ⟨v, ys, rfl, hC, hb3⟩
      obtain ⟨y, hy, hyl, hyp⟩ := hC.get HX.out
      rw [H.out.vs] at hC
      obtain ⟨g, cap, rfl, hgB, hgr⟩ : ∃ g cap, v = .slice (some ⟨g, 0, none⟩) n cap ∧ w2.heap.size ≤ g ∧ Row vc 2 (32) w3 g cap ys := by
        have hl := hC.len
        rcases row_of_owns hC.own with ⟨_, h0⟩ | ⟨g, cap, hv, hg, hr⟩
        · rw [h0] at hl; simp at hl; omega
        · exact ⟨g, cap, by rw [hv, hl, hLn], hg, hr⟩
      have hgl : g < w3.heap.size := by obtain ⟨cur, hcur, _⟩ := hgr.blk; exact lt_of_blk hcur
      have hyn : ys.length = n := by rw [hC.len, hLn]
      obtain ⟨hil2, hye⟩ := List.getElem?_eq_some_iff.1 hy
      have hPy : Pts w3 y.a y.ps := by rw [← hye]; exact (hC.at_ _ (List.getElem_mem hil2)).1.pts
      have d1 := hgr.cell vc_len i hil2 1 _ rfl
      rw [hye] at d1
      obtain ⟨pn, hpn⟩ : ∃ pn, pn = x.ps.length := ⟨_, rfl⟩
      rw [hyp, ← hpn] at d1
      rw [hyp] at hPy
      rw [← hpn] at hpl
      obtain ⟨v4, w4, hr4, ho4, hb4⟩ := run_copy w3 w3.heap.size y.a y.c pn x.ps hPy hpn.symm (by omega) (Nat.le_refl _) (30)
      obtain ⟨a4, c4, rfl, -, -, -, -⟩ := own_parts ho4
      rw [← hpn] at hr4 ho4
      obtain ⟨w5, hw5⟩ : ∃ w5 : World, w5 = w4.alloc (.cells #[.int .u64 line, .slice a4 pn c4] (32)) := ⟨_, rfl⟩
      have hb5 : Below w4.heap.size w4 w5 := by rw [hw5]; exact (Below.refl _ _).alloc (Nat.le_refl _) _
      have hs5 : w5.heap.size = w4.heap.size + 1 := by rw [hw5]; simp
      have hx5 : w5.heap[w4.heap.size]? = some (.cells #[.int .u64 line, .slice a4 pn c4] (32) (0, 0)) := by rw [hw5]; exact blk_new_at rfl _
      have hb35 : Below w3.heap.size w3 w5 := hb4.trans (hb5.mono hb4.size)
      have hC5 := hC.below hb35
      have hb25 : Below w2.heap.size w2 w5 := hb3.trans (hb35.mono hb3.size)
      have hX5 : VcO w2.heap.size w5 ⟨line, a4, c4, x.ps⟩ := ⟨c4, by rw [← hpn]; exact ownsRow_mono (ownsRow_below ho4 hb5 (Nat.le_refl _)) hb3.size⟩
      have HV5 := Lib.hid (show ∀ z, z ∈ ys ∨ z = ⟨line, a4, c4, x.ps⟩ → VcO w2.heap.size w5 z from fun z hz => by
        rcases hz with hz | rfl
        · exact (hC5.at_ z hz).1
        · exact hX5)
      have HF : Hid (∀ u, Below w5.heap.size w5 u → (∀ (k : Nat) (y : Vc), ys[k]? = some y → u.cell? ⟨g, k * 2, none⟩ = some (.int .u64 y.line) ∧ u.cell? ⟨g, k * 2 + 1, none⟩ = some (.slice y.a y.ps.length y.c)) ∧ u.cell? ⟨w4.heap.size, 0, none⟩ = some (.int .u64 line) ∧ u.cell? ⟨w4.heap.size, 1, none⟩ = some (.slice a4 pn c4)) := Lib.hid (fun u hu => by
        have hg5 : g < w5.heap.size := Nat.lt_of_lt_of_le hgl hb35.size
        refine ⟨fun k y hk => ?_, ?_, ?_⟩
        · obtain ⟨hk1, rfl⟩ := List.getElem?_eq_some_iff.1 hk
          have e0 := hgr.cell vc_len k hk1 0 _ rfl
          have e1 := hgr.cell vc_len k hk1 1 _ rfl
          exact ⟨(hu.cell (p := ⟨g, _, none⟩) hg5).trans ((hb35.cell (p := ⟨g, _, none⟩) hgl).trans e0), (hu.cell (p := ⟨g, _, none⟩) hg5).trans ((hb35.cell (p := ⟨g, _, none⟩) hgl).trans e1)⟩
        · have := cell_of_blk hx5 0
          simp at this
          exact (hu.cell (p := ⟨w4.heap.size, _, none⟩) (by show w4.heap.size < _; omega)).trans this
        · have := cell_of_blk hx5 1
          simp at this
          exact (hu.cell (p := ⟨w4.heap.size, _, none⟩) (by show w4.heap.size < _; omega)).trans this)
      obtain ⟨W, hW⟩ : ∃ W : World, W = w5.alloc (.cells #[.slice none 0 0] (57)) := ⟨_, rfl⟩
      have HWB := Lib.hid (show Below w5.heap.size w5 W by rw [hW]; exact (Below.refl _ _).alloc (Nat.le_refl _) _)
      have HWF := Lib.hid (show FAt w5.heap.size W (.slice none 0 0) (lo_ ys line 0) from ⟨by rw [hW]; exact blk_new_at rfl _, World.ownsRow_nil _ _ _ _⟩)
      have HR4 := Lib.hid hr4
      have HB25 := Lib.hid hb25
      have HPN := Lib.hid hpn
      have HVS := Lib.hid hC.vs
      have HYN := Lib.hid hyn
      obtain ⟨q, hq⟩ : ∃ q, q = w5.heap.size := ⟨_, rfl⟩
      have HQ := Lib.hid hq
      rw [← hq] at HWF
      have hqx : w4.heap.size + 1 = q := by omega
      clear hC hC5 hb3 hb4 hb5 hb35 hb25 hX5 hgr hr4 ho4 hx5 hPy hye hil2 hy hyl hyp hpn hyn hgl hgB hq
      go_wp2_with (at_builtin; refine Lib.wpList_append_run _ rfl _ _ _ _ rfl _ _ rfl rfl _ _ (HR4.out) ?_)
      rw [← hw5]
      rw [← hW]
      clear hW hw5
      go_loopg [12] n (fun gk iv wr => ∃ (k : Nat) (v : Value), k + gk = n ∧ iv = .int .i64 k ∧ Hid (FAt q wr v (lo_ ys line k)) ∧ Hid (Below w5.heap.size w5 wr))
      case atStart => exact ⟨0, _, by omega, rfl, HWF, HWB⟩
      case round =>
        obtain ⟨k, v, hk, rfl, HA, HB⟩ := hrel
        by_cases hlt : k < n
        · have hky : k < ys.length := by have := HYN.out; omega
          have HY := Lib.hid (List.getElem?_eq_getElem hky)
          obtain ⟨d0, d1⟩ := (HF.out wr HB.out).1 k _ HY.out
          have d0r : wr.drew.cell? ⟨g, k * 2, none⟩ = _ := d0
          have d1r : wr.drew.cell? ⟨g, k * 2 + 1, none⟩ = _ := d1
          have d2 := (HF.out (wr.alloc (.cells #[.int .u64 ys[k].line, .slice ys[k].a ys[k].ps.length ys[k].c] (32))).drew ((HB.out.alloc HB.out.size _).drew)).1 k _ HY.out
          obtain ⟨d20, d21⟩ := d2
          have HST := Lib.hid (lo_step (line := line) HY.out)
          have hll := lo_len ys line k
          generalize ys[k] = y at *
          obtain ⟨yl, ya, yc, yp⟩ := y
          simp only at d0 d1 d0r d1r d20 d21 HST
          obtain ⟨m, hm⟩ : ∃ m, m = yp.length := ⟨_, rfl⟩
          rw [← hm] at d1 d1r d20 d21
          have hk0 : (0 : Int) ≤ (k : Int) := by omega
          have hk1 : (k : Int) < (n : Int) := by omega
          by_cases hc : yl < line
          · have hgt : yl < line := by omega
            obtain ⟨v', w9, hr9, ⟨e1, e2⟩, ⟨e3, e4⟩, hA9, hB9⟩ := HA.out.add ⟨yl, ya, yc, yp⟩ m hm.symm (by have := HYN.out; omega)
            obtain ⟨va', vn', vc', rfl⟩ : ∃ va vn vc, v' = .slice va vn vc := by obtain ⟨a0, c0, e0, -⟩ := own_parts hA9.own; exact ⟨_, _, _, e0⟩
            have HR9 := Lib.hid hr9
            have HA9 := Lib.hid (show FAt q (w9.setCell ⟨q, 0, none⟩ (.slice va' vn' vc')) (.slice va' vn' vc') (lo_ ys line (k + 1)) by rw [HST.out.1 hc]; exact hA9)
            have HB9 := Lib.hid (show Below w5.heap.size w5 (w9.setCell ⟨q, 0, none⟩ (.slice va' vn' vc')) from by rw [← HQ.out]; exact hB9 _ (by rw [HQ.out]; exact HB.out))
            clear hr9 hA9 hB9 hm
            go_wp2_with fail
            go_region_law (refine step_append_run rfl (.tmp 55) (.tmp 60) (22) (22) rfl v (.slice (some ⟨wr.heap.size, 0, none⟩) 1 1) (by simp [Act.eval]) (by simp [Act.eval]) _ _ (HR9.out _) ?_)
            all_goals
              clear d0 d1 d0r d1r d20 d21 e1 e2 e3 e4
              go_wp2
              go_roundg (gk - 1)
              case measure => omega
              case rel => exact ⟨k + 1, _, by omega, by go_num, HA9, HB9⟩
          · have hgt : ¬ yl < line := by omega
            have HA9 := Lib.hid (show FAt q wr v (lo_ ys line (k + 1)) by rw [HST.out.2 hc]; exact HA.out)
            clear hm d20 d21 d0r d1r
            go_wp2_with fail
            go_roundg (gk - 1)
            case measure => omega
            case rel => exact ⟨k + 1, v, by omega, by go_num, HA9, HB⟩
        · have hke : k = ys.length := by have := HYN.out; omega
          have HA1 := Lib.hid (show FAt q wr v (lo_ ys line ys.length) by rw [← hke]; exact HA.out)
          obtain ⟨-, x0, x1⟩ := HF.out wr HB.out
          have x0r : wr.drew.cell? ⟨w4.heap.size, 0, none⟩ = _ := x0
          have x1r : wr.drew.cell? ⟨w4.heap.size, 1, none⟩ = _ := x1
          obtain ⟨-, x20, x21⟩ := HF.out (wr.alloc (.cells #[.int .u64 line, .slice a4 pn c4] (32))).drew ((HB.out.alloc HB.out.size _).drew)
          obtain ⟨v', w9, hr9, ⟨e1, e2⟩, ⟨e3, e4⟩, hA9, hB9⟩ := HA1.out.add ⟨line, a4, c4, x.ps⟩ pn HPN.out.symm (by have := lo_len ys line ys.length; omega)
          obtain ⟨va', vn', vc', rfl⟩ : ∃ va vn vc, v' = .slice va vn vc := by obtain ⟨a0, c0, e0, -⟩ := own_parts hA9.own; exact ⟨_, _, _, e0⟩
          have HR9 := Lib.hid hr9
          have HA9 := Lib.hid (show FAt q (w9.setCell ⟨q, 0, none⟩ (.slice va' vn' vc')) (.slice va' vn' vc') (hi_ (lo_ ys line ys.length ++ [⟨line, a4, c4, x.ps⟩]) ys line 0) by unfold hi_; rw [List.take_zero, List.filter_nil, List.append_nil]; exact hA9)
          have HB9 := Lib.hid (show Below w5.heap.size w5 (w9.setCell ⟨q, 0, none⟩ (.slice va' vn' vc')) from by rw [← HQ.out]; exact hB9 _ (by rw [HQ.out]; exact HB.out))
          clear hr9 hA9 hB9 HWF HWB
          go_wp2_with fail
          go_region_law (refine step_append_run rfl (.tmp 68) (.tmp 70) (22) (22) rfl v (.slice (some ⟨wr.heap.size, 0, none⟩) 1 1) (by simp [Act.eval]) (by simp [Act.eval]) _ _ (HR9.out _) ?_)
          all_goals
            obtain ⟨g1, rfl⟩ : ∃ g1 : Nat, g1 = gk := ⟨_, rfl⟩
            obtain ⟨wo, rfl⟩ : ∃ wo : World, wo = wr := ⟨_, rfl⟩
            clear hk hlt
            clear x0 x1 x0r x1r x20 x21 e1 e2 e3 e4
            go_wp2
            go_loopg [13] n (fun gk iv wr => ∃ (k : Nat) (v : Value), k + gk = n ∧ iv = .int .i64 k ∧ Hid (FAt q wr v (hi_ (lo_ ys line ys.length ++ [⟨line, a4, c4, x.ps⟩]) ys line k)) ∧ Hid (Below w5.heap.size w5 wr))
            case atStart => exact ⟨0, _, by omega, rfl, HA9, HB9⟩
            case round =>
              obtain ⟨k, v, hk, rfl, HA, HB⟩ := hrel
              by_cases hlt : k < n
              · have hky : k < ys.length := by have := HYN.out; omega
                have HY := Lib.hid (List.getElem?_eq_getElem hky)
                obtain ⟨d0, d1⟩ := (HF.out wr HB.out).1 k _ HY.out
                have d0r : wr.drew.cell? ⟨g, k * 2, none⟩ = _ := d0
                have d1r : wr.drew.cell? ⟨g, k * 2 + 1, none⟩ = _ := d1
                have d2 := (HF.out (wr.alloc (.cells #[.int .u64 ys[k].line, .slice ys[k].a ys[k].ps.length ys[k].c] (32))).drew ((HB.out.alloc HB.out.size _).drew)).1 k _ HY.out
                obtain ⟨d20, d21⟩ := d2
                have HST := Lib.hid (hi_step (bs := lo_ ys line ys.length ++ [⟨line, a4, c4, x.ps⟩]) (line := line) HY.out)
                have hll := hi_len (lo_ ys line ys.length ++ [⟨line, a4, c4, x.ps⟩]) ys line k
                have hl0 := lo_len ys line ys.length
                rw [List.length_append, List.length_singleton] at hll
                generalize ys[k] = y at *
                obtain ⟨yl, ya, yc, yp⟩ := y
                simp only at d0 d1 d0r d1r d20 d21 HST
                obtain ⟨m, hm⟩ : ∃ m, m = yp.length := ⟨_, rfl⟩
                rw [← hm] at d1 d1r d20 d21
                have hk0 : (0 : Int) ≤ (k : Int) := by omega
                have hk1 : (k : Int) < (n : Int) := by omega
                by_cases hc : line < yl
                · have hgt : line < yl := by omega
                  obtain ⟨v', w9, hr9, ⟨e1, e2⟩, ⟨e3, e4⟩, hA9, hB9⟩ := HA.out.add ⟨yl, ya, yc, yp⟩ m hm.symm (by have := HYN.out; omega)
                  obtain ⟨va', vn', vc', rfl⟩ : ∃ va vn vc, v' = .slice va vn vc := by obtain ⟨a0, c0, e0, -⟩ := own_parts hA9.own; exact ⟨_, _, _, e0⟩
                  have HR9 := Lib.hid hr9
                  have HA9 := Lib.hid (show FAt q (w9.setCell ⟨q, 0, none⟩ (.slice va' vn' vc')) (.slice va' vn' vc') (hi_ (lo_ ys line ys.length ++ [⟨line, a4, c4, x.ps⟩]) ys line (k + 1)) by rw [HST.out.1 hc]; exact hA9)
                  have HB9 := Lib.hid (show Below w5.heap.size w5 (w9.setCell ⟨q, 0, none⟩ (.slice va' vn' vc')) from by rw [← HQ.out]; exact hB9 _ (by rw [HQ.out]; exact HB.out))
                  clear hr9 hA9 hB9 hm
                  go_wp2_with fail
                  go_region_law (refine step_append_run rfl (.tmp 91) (.tmp 96) (22) (22) rfl v (.slice (some ⟨wr.heap.size, 0, none⟩) 1 1) (by simp [Act.eval]) (by simp [Act.eval]) _ _ (HR9.out _) ?_)
                  all_goals
                    clear d0 d1 d0r d1r d20 d21 e1 e2 e3 e4
                    go_wp2
                    go_roundg (gk - 1)
                    case measure => omega
                    case rel => exact ⟨k + 1, _, by omega, by go_num, HA9, HB9⟩
                · have hgt : ¬ line < yl := by omega
                  have HA9 := Lib.hid (show FAt q wr v (hi_ (lo_ ys line ys.length ++ [⟨line, a4, c4, x.ps⟩]) ys line (k + 1)) by rw [HST.out.2 hc]; exact HA.out)
                  clear hm d20 d21 d0r d1r
                  go_wp2_with fail
                  go_roundg (gk - 1)
                  case measure => omega
                  case rel => exact ⟨k + 1, v, by omega, by go_num, HA9, HB⟩
              · have hke : k = ys.length := by have := HYN.out; omega
                have HE := Lib.hid (show RefPost (forkV L line fr) w2 (.returned (.tuple #[.pointer (some ⟨q, 0, none⟩), .int .i64 0])) wr from by
                  have h1 := HA.out
                  rw [hke] at h1
                  have hgood : GoodV (putS L line x.ps) := by
                    have := forkV_good HG.out (line := line) (from_ := fr) hl (by rw [HR.out])
                    rw [HR.out] at this
                    exact this
                  obtain ⟨la', lc', h2⟩ := h1.ref (B := w2.heap.size) (fun z hz => (HV5.out z (mem_fork hz)).below HB.out) (vs_fork HVS.out line ⟨line, a4, c4, x.ps⟩ rfl) hgood
                  have := refOk (r := forkV L line fr) (w := w2) (by rw [HR.out]) (by rw [HR.out]; exact h2) (HB25.out.trans (HB.out.mono HB25.out.size))
                  rw [HR.out] at this ⊢
                  exact this)
                go_wp2_with fail
                go_ret2
                exact HE.out
end Go.Proofs.Ytnnpheklgdbohaa
