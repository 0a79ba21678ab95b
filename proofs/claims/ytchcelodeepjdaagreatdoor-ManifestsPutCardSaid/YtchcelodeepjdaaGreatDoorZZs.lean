/- manifests: Put's closure. Condition: at most 1000000 tables a level. · bytes.Equal; Put of a root that was read, whole. Condition: fewer than 1000000 bytes. · manifests.one of a record ahead of which is none. Condition: fewer than 1000000 bytes. · slices.Clone, DeleteFunc at shelves of the call's own. Condition: fewer than 1000000 shelves. -/
import Derived.Test.YtchcelodeepjdaaGreatDoorZZq
import Derived.Test.YtchcelodeepjdaaGreatDoorZZR
namespace Go.Proofs.YtchcelodeepjdaaGreatDoor.Ln
open Go.RowKit Go.Shelf Go.Herb

noncomputable instance : DecidableEq Tb := fun _ _ => Classical.propDecidable _
/-- Is a shelf in a map as it is? -/
noncomputable def keptP (m : List (Int × Sv)) (s : Sv) : Bool := match getL m s.line with | some x => decide (x.says.lv = s.says.lv) | none => false
theorem MapIs.lookS {w : World} {b : Nat} {m : List (Int × Sv)} (h : MapS w b m) (k : Int) (hk : U64 k) :
    (Instr.lookup (94) (.map (some b)) (.int .u64 k) true).run Tryz.prog w = .ok (match getL m k with | some v => .tuple #[shV v, .bool true] | none => .tuple #[.agg #[.int .u64 0, .slice none 0 0, .slice none 0 0, .slice none 0 0], .bool false]) w := by
  have h2 := (MapIs.look h lawU eU_inj Tryz.underlying94 (zeroS w) (Maps.keyOf_int_mk Tryz.underlying26 hk)).2
  cases hg : getL m k with
  | none => rw [hg] at h2; exact h2
  | some v => rw [hg] at h2; exact h2
/-- Shelves of a map, as they may be. -/
structure MapOk (w : World) (m : List (Int × Sv)) : Prop where
  ok : ∀ x ∈ m, SvOk w x.2
  few : ∀ x ∈ m, ∀ l ∈ x.2.lv, l.ts.length ≤ 1000000
theorem MapOk.ext {w w' : World} {m : List (Int × Sv)} (h : MapOk w m) (hb : Below w.heap.size w w') : MapOk w' m := ⟨fun x hx => (h.ok x hx).ext hb, h.few⟩
set_option maxRecDepth 100000 in
set_option maxHeartbeats 2000000 in
theorem put1_any (kb mb : Nat) (m : List (Int × Sv)) (s : Sv) (w : World) (hc : w.cell? ⟨kb, 0, none⟩ = some (.map (some mb))) (hm : MapS w mb m) (ho : MapOk w m) (hs : SvOk w s) (hl : ∀ l ∈ s.lv, l.ts.length ≤ 1000000) :
    Calls Tryz.prog (44) #[shV s, .pointer (some ⟨kb, 0, none⟩)] w (fun e w' => e = .returned (.bool (keptP m s)) ∧ Below w.heap.size w w') := by
  obtain ⟨A, hA⟩ : ∃ A : World, A = w.alloc (.cells #[.int .u64 s.line, lvV s.l0, lvV s.l1, lvV s.l2] (57)) := ⟨_, rfl⟩
  have hBA : Below w.heap.size w A := by rw [hA]; exact (Below.refl _ _).alloc (Nat.le_refl _) _
  have hkb := lt_of_cell hc
  have hc2 : A.cell? ⟨kb, 0, none⟩ = some (.map (some mb)) := (hBA.cell (p := ⟨kb, 0, none⟩) hkb).trans hc
  have hmA : MapS A mb m := hm.same (hBA.block _ hm.lt)
  have hlk := MapIs.lookS hmA s.line hs.wf
  have hx1 : A.heap[w.heap.size]? = some (.cells #[.int .u64 s.line, lvV s.l0, lvV s.l1, lvV s.l2] (57) (0, 0)) := by rw [hA]; exact blk_new_at rfl _
  cases hg : getL m s.line with
  | none =>
    rw [hg] at hlk
    have hk : keptP m s = false := by unfold keptP; rw [hg]
    rw [hk]
    have HB := Lib.hid (show ∀ o, Below w.heap.size w (A.alloc o) from fun o => hBA.alloc hBA.size o)
    have HA := Lib.hid hA
    rw [hA] at hlk hc2
    clear hA hBA hkb hc hmA hx1 hg hk hm ho hs hl
    go_enter Tryz.func44, Tryz.ntmps44
    go_wp2_with fail
    go_ret
    rw [← HA.out]
    exact ⟨rfl, HB.out _⟩
  | some x =>
    rw [hg] at hlk
    obtain ⟨hxm⟩ : Nonempty ((s.line, x) ∈ m) := ⟨(getL_some hm.nodup).1 hg⟩
    obtain ⟨X, hX⟩ : ∃ X : World, X = A.alloc (.cells #[.int .u64 x.line, lvV x.l0, lvV x.l1, lvV x.l2] (57)) := ⟨_, rfl⟩
    have hBX : Below A.heap.size A X := by rw [hX]; exact (Below.refl _ _).alloc (Nat.le_refl _) _
    have hBw := hBA.trans (hBX.mono hBA.size)
    have HSM := Lib.hid (same_any x s X ((ho.ok _ hxm).ext hBw) (hs.ext hBw) (ho.few _ hxm) hl)
    have HB := Lib.hid hBw
    have hk : keptP m s = decide (x.says.lv = s.says.lv) := by unfold keptP; rw [hg]
    rw [hk]
    have hx2 := blk_below hx1 hBX (lt_of_blk hx1)
    have d0 := cell_of_blk hx2 0
    have d1 := cell_of_blk hx2 1
    have d2 := cell_of_blk hx2 2
    have d3 := cell_of_blk hx2 3
    simp at d0 d1 d2 d3
    have HA := Lib.hid hA
    have HX := Lib.hid hX
    rw [hX] at d0 d1 d2 d3
    rw [hA] at hlk hc2 d0 d1 d2 d3
    clear hA hX hBA hBX hBw hkb hc hmA hx1 hx2 hg hk hm ho hs hl hxm
    go_enter Tryz.func44, Tryz.ntmps44
    go_wp2_with fail
    rw [← HA.out, ← HX.out]
    refine HSM.out.mono ?_
    rintro e w2 ⟨q, rfl, hq, hb⟩
    have HE := Lib.hid (show Below w.heap.size w w2 ∧ q = decide (x.says.lv = s.says.lv) from ⟨HB.out.trans (hb.mono HB.out.size), by
      cases q with
      | true => exact (decide_eq_true (hq.1 rfl)).symm
      | false => exact (decide_eq_false (fun h => by have := hq.2 h; cases this)).symm⟩)
    clear hq hb d0 d1 d2 d3
    go_wp2_with fail
    go_ret
    exact ⟨by rw [HE.out.2]; rfl, HE.out.1⟩
end Go.Proofs.YtchcelodeepjdaaGreatDoor.Ln

namespace Go.Proofs.YtchcelodeepjdaaGreatDoor.Ln
open Go.RowKit Go.Shelf Go.Herb

def GoodX (x : Rt) : Prop := GoodT x.bs x.ls ∧ GoodS x
/-- A root's record, whole: what it tells. -/
structure OneIs (ys : List Int) (x : Rt) : Prop where
  read : ∃ l r0 l1 l2 sh, ys = 1 :: l ∧ rtP l = some (r0, l1) ∧ shP l1 = some (sh, l2) ∧ x = { r0 with sh := sh }
  good : GoodX x
  again : wholeL x = ys
/-- What is read of few bytes is no great root. -/
structure FewX (x : Rt) : Prop where
  bs : x.bs.length < 1000000
  ls : x.ls.length < 1000000
  vs : x.vs.length < 1000000
  nums : x.bs.length + x.ls.length + (x.vs.map (fun v => 1 + v.2.length)).sum < 1000000
  sh : (x.sh.map (fun s => 1 + (s.lv.map List.length).sum)).sum < 1000000
theorem few_read {l l1 l2 : List Int} {r0 : Rt} {sh : List Sd} (h1 : rtP l = some (r0, l1)) (h2 : shP l1 = some (sh, l2)) (hl : l.length < 1000000) : FewX { r0 with sh := sh } := by
  have e1 := rtP_w l r0 l1 h1
  have e2 := shP_w l1 sh l2 h2
  have e3 : r0.vs.length ≤ (r0.vs.map (fun v => 1 + v.2.length)).sum := by
    have := sum_le (f := fun _ => 1) (g := fun v : Int × Bh => 1 + v.2.length) r0.vs (fun _ _ => by omega)
    rwa [sum_ones] at this
  refine ⟨?_, ?_, ?_, ?_, ?_⟩
  · show r0.bs.length < 1000000; omega
  · show r0.ls.length < 1000000; omega
  · show r0.vs.length < 1000000; omega
  · show r0.bs.length + r0.ls.length + (r0.vs.map (fun v => 1 + v.2.length)).sum < 1000000; omega
  · show (sh.map (fun s => 1 + (s.lv.map List.length).sum)).sum < 1000000; omega
theorem FewX.small {r : Rv} (h : FewX r.says) : SmallR r := by
  have hv : r.says.vs.length = r.vs.length := Vx.vsOf_len r.vs
  have hn := h.nums
  have hs := h.sh
  have e0 : r.says.bs = r.bs := rfl
  have e1 : r.says.ls = r.ls := rfl
  have e2 : r.says.vs = Vx.vsOf r.vs := rfl
  have e3 : r.says.sh = r.sh.map Sv.says := rfl
  rw [e0, e1, e2] at hn
  rw [e3] at hs
  have hlev : ∀ s ∈ r.sh, (s.lv.map (fun l => l.ts.length)).sum < 1000000 := fun s hs' => by
    have h1 := mem_sum (f := fun s : Sd => 1 + (s.lv.map List.length).sum) (List.mem_map_of_mem (f := Sv.says) hs')
    have h2 : s.says.lv.map List.length = s.lv.map (fun l => l.ts.length) := rfl
    rw [h2] at h1
    omega
  refine ⟨h.bs, h.ls, by rw [← hv]; exact h.vs, ?_, ?_, ?_, fun s hs' l hl => ?_⟩
  · unfold numsR
    have h1 : (r.vs.flatMap (fun v : Vx.Vc => v.ps.map (·.2))).length ≤ ((Vx.vsOf r.vs).map (fun v => 1 + v.2.length)).sum := by
      rw [flat_sum]
      unfold Vx.vsOf
      rw [List.map_map]
      exact sum_le r.vs (fun x _ => by simp only [Function.comp, List.length_map]; omega)
    simp only [List.length_append, List.length_map] at h1 ⊢
    omega
  · have h1 := sum_le (f := fun _ => 1) (g := fun s : Sd => 1 + (s.lv.map List.length).sum) (r.sh.map Sv.says) (fun _ _ => by omega)
    rw [sum_ones, List.length_map] at h1
    omega
  · unfold filesL
    rw [flat_sum]
    have h1 := sum_le (f := fun s : Sd => (filesS s).length) (g := fun s : Sd => 1 + (s.lv.map List.length).sum) (r.sh.map Sv.says) (fun s _ => by
      show (filesS s).length ≤ _
      unfold filesS
      rw [List.length_map, List.length_flatten]
      omega)
    omega
  · have h1 := hlev s hs'
    have h2 := mem_sum (f := fun l : Lv => l.ts.length) hl
    omega
theorem name_len {s : ByteArray} (h : nameB s = true) : 0 < s.size ∧ s.size ≤ 12 := by
  unfold nameB at h
  simp only [Bool.and_eq_true, decide_eq_true_eq, Bool.not_eq_true'] at h
  obtain ⟨⟨h1, h2⟩, -⟩ := h
  refine ⟨?_, h2⟩
  rcases Nat.eq_zero_or_pos s.size with h | h
  · exfalso
    have : s.toList = [] := by
      rw [ByteArray.toList_eq]
      exact List.length_eq_zero_iff.1 (by rw [Array.length_toList]; exact h)
    rw [this] at h1
    cases h1
  · exact h
theorem laid_of {w : World} {r : Rv} (hi : RtIn w r) (hg : GoodR r) (hf : FewX r.says) : LaidR w r := by
  have hv : r.vs.length = r.bs.length := by
    have h1 := hg.2.pair.length_eq
    have e1 : r.says.bs = r.bs := rfl
    have e2 : r.says.vs.length = r.vs.length := Vx.vsOf_len r.vs
    simp only [List.length_map] at h1
    rw [e1] at h1
    omega
  have hb := hg.1.b12
  refine ⟨hi, by omega, by have := hg.1.nl; omega, by omega, fun x hx => ?_, fun x hx => ?_⟩
  · have := name_len (hg.1.named.names x hx)
    omega
  · have hn := hf.nums
    have e2 : r.says.vs = Vx.vsOf r.vs := rfl
    have h1 := mem_sum (f := fun v : Int × Bh => 1 + v.2.length) (l := r.says.vs) (x := (x.line, x.ps)) (by rw [e2]; exact List.mem_map_of_mem (f := fun x : Vx.Vc => (x.line, x.ps)) hx)
    simp only at h1
    omega
theorem keys_of {r : Rv} (hg : GoodR r) (hf : FewX r.says) : KeysOk r.sh := fun s hs l hl => by
  have hsm := (FewX.small hf).lev s hs l hl
  have hmay := hg.2.shelved.may s.says (List.mem_map_of_mem (f := Sv.says) hs)
  refine ⟨?_, fun t ht => ?_⟩
  · have h1 := hf.sh
    have h2 := mem_sum (f := fun s : Sd => 1 + (s.lv.map List.length).sum) (List.mem_map_of_mem (f := Sv.says) hs)
    have h3 := mem_sum (f := List.length) (List.mem_map_of_mem (f := fun l : Lv => l.ts) hl)
    have h4 : s.says.lv = s.lv.map (fun l : Lv => l.ts) := rfl
    have h5 : r.says.sh = r.sh.map Sv.says := rfl
    rw [h5] at h1
    rw [h4] at h2
    omega
  · obtain ⟨i, hi, rfl⟩ := List.getElem_of_mem hl
    obtain ⟨k, hk, rfl⟩ := List.getElem_of_mem ht
    have h4 : s.says.lv[i]? = some (s.lv[i].ts) := by
      show (s.lv.map (fun l : Lv => l.ts))[i]? = _
      rw [List.getElem?_map, List.getElem?_eq_getElem hi]
      rfl
    have h5 := hmay.tabs i _ h4 k _ (List.getElem?_eq_getElem hk)
    have h6 := h5.low
    have h7 := h5.high
    unfold keyB at h6 h7
    simp only [Bool.and_eq_true, decide_eq_true_eq] at h6 h7
    exact ⟨⟨by omega, h6.2⟩, ⟨by omega, h7.2⟩⟩
theorem tbL_len {t : Tb} (h : TbW t) (h1 : t.low.size ≤ 32) (h2 : t.high.size ≤ 32) : (tbL t).length ≤ 104 := by
  have ub : U64 t.bytes := by
    unfold U64
    simp [Lit.wf, IntKind.min, IntKind.max, IntKind.signed, IntKind.bits]
    have := h.2.1
    omega
  have e1 := two_len h.1 ub
  have e2 := putT_len t.low (by omega)
  have e3 := putT_len t.high (by omega)
  unfold tbL
  rw [List.length_append, List.length_append]
  omega
theorem sum_mul {α : Type} (c : Nat) (f : α → Nat) (l : List α) : (l.map (fun x => c * f x)).sum = c * (l.map f).sum := by
  induction l with
  | nil => simp
  | cons a l ih => simp only [List.map_cons, List.sum_cons, ih, Nat.mul_add]
theorem sdE_len {w : World} {s : Sv} (hs : SvOk w s) (hn : ∀ l ∈ s.lv, l.ts.length < 1000000 ∧ ∀ t ∈ l.ts, (0 < t.low.size ∧ t.low.size ≤ 32) ∧ (0 < t.high.size ∧ t.high.size ≤ 32)) : (sdE s).length ≤ 104 * (1 + (s.lv.map (fun l => l.ts.length)).sum) := by
  have hlv : ∀ l ∈ s.lv, (lvE l).length ≤ 10 + 104 * l.ts.length := fun l hl => by
    have ho : LvOk w l := by
      simp only [Sv.lv, List.mem_cons, List.not_mem_nil, or_false] at hl
      rcases hl with rfl | rfl | rfl
      · exact hs.l0
      · exact hs.l1
      · exact hs.l2
    have h1 := num_len (u64_len (n := l.ts.length) (by have := (hn l hl).1; omega))
    have h2 := flat_len (f := tbL) (M := 104) (l := l.ts) (fun t ht => tbL_len (ho.wf t ht) ((hn l hl).2 t ht).1.2 ((hn l hl).2 t ht).2.2)
    unfold lvE levL
    rw [List.length_append, numsL_one]
    omega
  have h0 := num_len hs.wf
  have a0 := hlv s.l0 (by simp [Sv.lv])
  have a1 := hlv s.l1 (by simp [Sv.lv])
  have a2 := hlv s.l2 (by simp [Sv.lv])
  rw [sdE_eq, List.length_append, numsL_one]
  have e : s.lv = [s.l0, s.l1, s.l2] := rfl
  rw [e]
  simp only [List.flatMap_cons, List.flatMap_nil, List.append_nil, List.length_append, List.map_cons, List.map_nil, List.sum_cons, List.sum_nil]
  omega
theorem shE_len {w : World} {a : Option Addr} {r : Rv} (hs : ShIn w a r.sh) (hk : KeysOk r.sh) (hf : FewX r.says) : (r.sh.flatMap sdE).length < 104000000 := by
  have h1 := sum_le (f := fun s : Sv => (sdE s).length) (g := fun s : Sv => 104 * (1 + (s.lv.map (fun l => l.ts.length)).sum)) r.sh (fun s hs' => sdE_len (hs.ok s hs') (hk s hs'))
  rw [sum_mul 104 (fun s : Sv => 1 + (s.lv.map (fun l => l.ts.length)).sum)] at h1
  have h2 := hf.sh
  have h3 : r.says.sh = r.sh.map Sv.says := rfl
  rw [h3, List.map_map] at h2
  have h4 : ((fun s : Sd => 1 + (s.lv.map List.length).sum) ∘ Sv.says) = fun s : Sv => 1 + (s.lv.map (fun l => l.ts.length)).sum := rfl
  rw [h4] at h2
  rw [flat_sum]
  omega
theorem headL_len {w : World} {r : Rv} (h : LaidR w r) : (headL r.says).length < 250000000 := by
  have e1 := flat_len (f := brL) (M := 2000) (l := r.bs) (fun x hx => brL_len (h.names x hx).2 (h.inn.brs.all x hx).2.1 (h.inn.brs.all x hx).2.2)
  have e2 := flat_len (f := lnL) (M := 20) (l := r.ls) (fun x hx => two_len (h.inn.lns.all x hx).1 (h.inn.lns.all x hx).2)
  have e3 := flat_len (f := vcL) (M := 20000020) (l := Vx.vsOf r.vs) (fun x hx => by
    obtain ⟨y, hy, rfl⟩ := List.mem_map.1 hx
    exact vcL_len (h.pts y hy) (h.inn.vcs.wf y hy).1 (h.inn.vcs.wf y hy).2)
  rw [Vx.vsOf_len] at e3
  have b1 := h.bs
  have b2 := h.ls
  have b3 := h.vs
  have n1 := numsL_len [r.seq, r.log, r.next, (r.bs.length : Int)] (by
    intro x hx
    simp only [List.mem_cons, List.not_mem_nil, or_false] at hx
    rcases hx with rfl | rfl | rfl | rfl
    · exact h.inn.seq
    · exact h.inn.log
    · exact h.inn.next
    · exact u64_len (by omega))
  have n2 := num_len (u64_len (n := r.ls.length) (by omega))
  have n3 := num_len (u64_len (n := r.vs.length) (by omega))
  have m1 : [r.seq, r.log, r.next, (r.bs.length : Int)].length = 4 := rfl
  have f1 : r.bs.length * 2000 ≤ 100 * 2000 := Nat.mul_le_mul_right _ b1
  have f2 : r.ls.length * 20 ≤ 100 * 20 := Nat.mul_le_mul_right _ b2
  have f3 : r.vs.length * 20000020 ≤ 12 * 20000020 := Nat.mul_le_mul_right _ b3
  unfold headL Rv.says
  simp only [List.length_append, Vx.vsOf_len, numsL_one]
  omega
/-- Put of a root that may be, whole. -/
theorem put_good (r : Rv) (w : World) (hi : RtIn w r) (hg : GoodR r) (hf : FewX r.says) : Calls Tryz.prog (17) #[rtV r, .pointer none] w (WholePost (wholeL r.says) w) := by
  have hl := laid_of hi hg hf
  have hk := keys_of hg hf
  have h1 := headL_len hl
  have h2 := shE_len hi.shs hk hf
  have hns : r.sh.length < 1000000 := by
    have h1 := sum_le (f := fun _ => 1) (g := fun s : Sd => 1 + (s.lv.map List.length).sum) (r.sh.map Sv.says) (fun _ _ => by omega)
    rw [sum_ones, List.length_map] at h1
    have := hf.sh
    have h3 : r.says.sh = r.sh.map Sv.says := rfl
    rw [h3] at this
    omega
  have n3 := num_len (u64_len (n := r.sh.length) (by omega))
  refine putWhole_any r w hl hf.small hg ?_ (fun p acc u hL hal hb hp => ?_) (by unfold shBound; omega)
  · unfold wholeL
    have e : r.says.sh = r.sh.map Sv.says := rfl
    rw [e, shL_eq, numsL_one]
    simp only [List.length_cons, List.length_append]
    omega
  · exact shelves_any p acc r.sa r.sc r.sh.length r.sh w u hL hi.shs rfl hb hp hk hns (by unfold shBound at hal; omega)
set_option maxRecDepth 100000 in
/-- Put of a root that may not be. -/
theorem put_bad (r : Rv) (P : Option Addr) (w : World) (hi : RtIn w r) (hs : SmallR r) (hg : ¬ GoodR r) : Calls Tryz.prog (17) #[rtV r, .pointer P] w (fun e w' => e = .returned (.tuple #[.slice none 0 0, .int .i64 4]) ∧ Below w.heap.size w w') := by
  obtain ⟨nb, hnb⟩ : ∃ n, n = r.bs.length := ⟨_, rfl⟩
  obtain ⟨nl, hnl⟩ : ∃ n, n = r.ls.length := ⟨_, rfl⟩
  obtain ⟨nv, hnv⟩ : ∃ n, n = r.vs.length := ⟨_, rfl⟩
  obtain ⟨ns, hns⟩ : ∃ n, n = r.sh.length := ⟨_, rfl⟩
  have hrt : rtV r = .agg #[.int .u64 r.seq, .int .u64 r.log, .int .u64 r.next, .slice r.ba nb r.bc, .slice r.la nl r.lc, .slice r.va nv r.vc, .slice r.sa ns r.sc] := by rw [hnb, hnl, hnv, hns]
  obtain ⟨W, hW⟩ : ∃ W : World, W = w.alloc (.cells #[.int .u64 r.seq, .int .u64 r.log, .int .u64 r.next, .slice r.ba nb r.bc, .slice r.la nl r.lc, .slice r.va nv r.vc, .slice r.sa ns r.sc] (32)) := ⟨_, rfl⟩
  have hB : Below w.heap.size w W := by rw [hW]; exact (Below.refl _ _).alloc (Nat.le_refl _) _
  have HC := Lib.hid ((check_any r W (hi.ext hB) hs).mono (show ∀ e w', CheckPost r W e w' → e = .returned (.int .i64 4) ∧ Below W.heap.size W w' from by
    rintro e w' ⟨n, rfl, ⟨-, h⟩ | ⟨rfl, -⟩, hb⟩
    · exact absurd h hg
    · exact ⟨rfl, hb⟩))
  have HB := Lib.hid hB
  have HW := Lib.hid hW
  rw [hrt] at HC ⊢
  rw [hW] at HC
  clear hi hs hg hB hW hrt hnb hnl hnv hns
  go_enter Tryz.func17, Tryz.ntmps17
  go_wp2_with fail
  refine HC.out.mono ?_
  rw [← HW.out]
  rintro e w1 ⟨rfl, hb⟩
  have HB1 := Lib.hid (HB.out.trans (hb.mono HB.out.size))
  clear hb
  go_wp2_with fail
  go_ret2
  exact ⟨rfl, HB1.out⟩
end Go.Proofs.YtchcelodeepjdaaGreatDoor.Ln

namespace Go.Proofs.YtchcelodeepjdaaGreatDoor.Ln
open Go.RowKit Go.Shelf Go.Herb

theorem RtOwn.mono {M M' : Nat} {u : World} {r : Rv} (h : RtOwn M u r) (hm : M' ≤ M) : RtOwn M' u r :=
  ⟨h.sq, h.lg, h.nx, ownsRow_mono h.ob hm, ownsRow_mono h.ol hm, ownsRow_mono h.ov hm, fun v hv => ownsRow_mono (h.op v hv) hm, ownsRow_mono h.os hm, fun s hs l hl => ownsRow_mono (h.ot s hs l hl) hm, h.wb, h.wl, h.wv, h.ws, h.lp⟩
theorem RtOwn.shelves {M : Nat} {u : World} {sq lg nx : Int} {ba la va sa : Option Addr} {bc lc vc sc : Nat} {bs : List Br} {ls : List Ln} {vs : List Vx.Vc} {xs : List Sv} (h : RtOwn M u ⟨sq, lg, nx, ba, bc, bs, la, lc, ls, va, vc, vs, none, 0, []⟩) (h1 : OwnSh M u (.slice sa xs.length sc) xs) (h2 : ∀ s ∈ xs, ∀ l ∈ s.lv, OwnT M u (lvV l) l.ts) (h3 : ∀ s ∈ xs, U64 s.line ∧ ∀ l ∈ s.lv, ∀ t ∈ l.ts, TbW t) : RtOwn M u ⟨sq, lg, nx, ba, bc, bs, la, lc, ls, va, vc, vs, sa, sc, xs⟩ :=
  ⟨h.sq, h.lg, h.nx, h.ob, h.ol, h.ov, h.op, h1, h2, h.wb, h.wl, h.wv, h3, h.lp⟩
theorem OwnSh.mono {M M' : Nat} {u : World} {v : Value} {xs : List Sv} (h : OwnSh M u v xs) (hm : M' ≤ M) : OwnSh M' u v xs := ownsRow_mono h hm
/-- While a record is being read: the reader, and the root's box. -/
structure XS (w u : World) (zs : List Int) (cs : Array Value) : Prop where
  read : ReadAt u (w.heap.size + 1) w.heap.size zs
  box : u.heap[w.heap.size]? = some (.cells cs (32) (0, 0))
  below : Below w.heap.size w u
theorem XS.next {w u u' : World} {zs zs' : List Int} {cs : Array Value} (h : XS w u zs cs) (ht : TurnI (w.heap.size + 1) u u') (hr : ReadAt u' (w.heap.size + 1) w.heap.size zs') : XS w u' zs' cs :=
  ⟨hr, ht.kept _ _ h.box (by omega), ht.below h.below (by omega) (Nat.le_refl _)⟩
theorem XS.store {w u : World} {zs : List Int} {cs : Array Value} (h : XS w u zs cs) (j : Nat) (v : Value) (cs' : Array Value) (hc : cs.setIfInBounds j v = cs') : XS w (u.setCell ⟨w.heap.size, j, none⟩ v) zs cs' :=
  ⟨h.read.set (Nat.le_refl _) (by omega) v, by rw [← hc]; exact blk_setCell h.box v, Below.setCell h.below (p := ⟨w.heap.size, j, none⟩) (Nat.le_refl w.heap.size) v⟩
theorem XS.name {w u : World} {zs : List Int} {cs : Array Value} (_ : XS w u zs cs) : ∃ Z, Z = u := ⟨u, rfl⟩
/-- A root and its box: a store into the box. -/
structure XR (w u : World) (zs : List Int) (cs : Array Value) (M : Nat) (r : Rv) : Prop where
  xs : XS w u zs cs
  own : RtOwn M u r
  le : M ≤ u.heap.size
theorem XR.store {w u : World} {zs : List Int} {cs : Array Value} {M : Nat} {r : Rv} (h : XR w u zs cs M r) (j : Nat) (v : Value) (cs' : Array Value) (hc : cs.setIfInBounds j v = cs') : XR w (u.setCell ⟨w.heap.size, j, none⟩ v) zs cs' M r := ⟨h.xs.store j v cs' hc, h.own.set h.xs.box v, by simpa [World.setCell] using h.le⟩
/-- A root and its box, behind the reading. -/
structure XB (w u : World) (cs : Array Value) (M : Nat) (r : Rv) : Prop where
  box : u.heap[w.heap.size]? = some (.cells cs (32) (0, 0))
  below : Below w.heap.size w u
  own : RtOwn M u r
theorem XB.store {w u : World} {cs : Array Value} {M : Nat} {r : Rv} (h : XB w u cs M r) (j : Nat) (v : Value) (hc : cs.setIfInBounds j v = cs) : XB w (u.setCell ⟨w.heap.size, j, none⟩ v) cs M r :=
  ⟨by have := blk_setCell (j := j) h.box v; rwa [hc] at this, Below.setCell h.below (p := ⟨w.heap.size, j, none⟩) (Nat.le_refl w.heap.size) v, h.own.set h.box v⟩
theorem XB.name {w u : World} {cs : Array Value} {M : Nat} {r : Rv} (_ : XB w u cs M r) : ∃ Z, Z = u := ⟨u, rfl⟩
end Go.Proofs.YtchcelodeepjdaaGreatDoor.Ln

namespace Go.Proofs.YtchcelodeepjdaaGreatDoor.Ln
open Go.RowKit Go.Shelf Go.Herb

set_option maxRecDepth 100000 in
theorem cloneSh_any (a : Option Addr) (cap n : Nat) (xs : List Sv) (w : World) (hE : Els shc 4 w a xs) (hn : xs.length = n) (hz : a = none → cap = 0) (hn1 : n < 1000000) :
    Calls Tryz.prog (43) #[.slice a n cap] w fun e w' => ∃ v, e = .returned v ∧ OwnSh w.heap.size w' v xs ∧ Below w.heap.size w w' := by
  cases a with
  | none =>
    have h0 : xs = [] := by
      cases xs with
      | nil => rfl
      | cons x xs => obtain ⟨b, o, h, _⟩ := hE.get 0 (by simp); cases h
    subst h0
    rw [hz rfl, ← hn]
    have qT : ∀ (w : World) (a : Option Addr) (l c : Nat), (binOp .eql (30) (.slice a l c) (.slice none 0 0)).run Tryz.prog w = .ok (.bool a.isNone) w := fun w a l c => Lib.run_eql_slice_nil w _ _ a l c 0 0 Tryz.underlying30
    clear hE hn hz hn1
    go_enter Tryz.func43, Tryz.ntmps43
    go_wp2_with fail
    go_ret
    exact ⟨_, rfl, World.ownsRow_nil _ _ _ _, Below.refl _ _⟩
  | some ad =>
    obtain ⟨W, hW⟩ : ∃ W : World, W = w.alloc (.cells #[] (57)) := ⟨_, rfl⟩
    have hB : Below w.heap.size w W := by rw [hW]; exact (Below.refl _ _).alloc (Nat.le_refl _) _
    have hx : W.heap[w.heap.size]? = some (.cells #[] (57) (0, 0)) := by rw [hW]; exact blk_new_at rfl _
    have hO : OwnSh w.heap.size W (.slice (some ⟨w.heap.size, 0, none⟩) 0 0) [] := ⟨rfl, .inr ⟨w.heap.size, 0, #[], rfl, Nat.le_refl _, hx, Nat.le_refl _, Nat.zero_le _, rfl, rfl⟩⟩
    obtain ⟨v', w', hr, h2, h3⟩ := run_append_shs W w.heap.size _ [] (some ad) cap n xs hn hO (hE.ext hB) (by simp) hn1 (fun h => by cases h) hB.size (30)
    have HE := Lib.hid (show OwnSh w.heap.size w' v' xs ∧ Below w.heap.size w w' from ⟨by simpa using h2, hB.grown h3 hB.size (fun k e => by cases e; exact Nat.le_refl _)⟩)
    rw [hW] at hr
    have qT : ∀ (w : World) (a : Option Addr) (l c : Nat), (binOp .eql (30) (.slice a l c) (.slice none 0 0)).run Tryz.prog w = .ok (.bool a.isNone) w := fun w a l c => Lib.run_eql_slice_nil w _ _ a l c 0 0 Tryz.underlying30
    clear hW hB hx hO h2 h3 hE hn hz
    go_enter Tryz.func43, Tryz.ntmps43
    go_wp2_with (at_builtin; refine Lib.wpList_append_run _ rfl _ _ _ _ rfl _ _ rfl rfl _ _ hr ?_)
    go_ret
    exact ⟨_, rfl, HE.out⟩
theorem indexNoneS_any (F : Value) (w : World) : Calls Tryz.prog (80) #[.slice none 0 0, F] w fun e w' => e = .returned (.int .i64 (-1)) ∧ w' = w := by
  go_enter Tryz.func80, Tryz.ntmps80
  go_wp2_with fail
  refine wp_loop_rounds 1 ?_
  rw [rounds_succ]
  go_wp2_with fail
  go_ret
  exact ⟨rfl, rfl⟩
theorem deleteNoneS_any (F : Value) (w : World) : Calls Tryz.prog (42) #[.slice none 0 0, F] w fun e w' => e = .returned (.slice none 0 0) ∧ w' = w := by
  go_enter Tryz.func42, Tryz.ntmps42
  go_wp2_with (go_at_call 80; refine (indexNoneS_any _ _).mono ?_; rintro e w1 ⟨rfl, rfl⟩)
  go_ret
  exact ⟨rfl, rfl⟩
/-- What is behind DeleteFunc: shelves of one's own, in which but the own row has turned. -/
def DelOPost (B : Nat) (ls : List Sv) (p : Sv → Bool) (w : World) (e : Ending) (w' : World) : Prop :=
  ∃ v, e = .returned v ∧ OwnSh B w' v (ls.filter (fun x => !p x)) ∧ Below B w w'
theorem deleteO_any (B kb n : Nat) (v : Value) (p : Sv → Bool) (ls : List Sv) (w : World) (ho : OwnSh B w v ls) (hB : B ≤ w.heap.size) (hn : ls.length = n) (hn1 : n < 1000000) (hp : ∀ h, B ≤ h → PredS h kb ls p w) :
    Calls Tryz.prog (42) #[v, .func (.func (44)) #[] #[.pointer (some ⟨kb, 0, none⟩)]] w (DelOPost B ls p w) := by
  obtain ⟨a', c', e1, e2, hEls⟩ := els_of_owns shc_len ho
  obtain ⟨hl, ⟨rfl, h0⟩ | ⟨g, cap, cur, rfl, hg, hh, hle, hm, hsz, htk⟩⟩ := ho
  · refine (deleteNoneS_any _ w).mono ?_
    rintro e w' ⟨rfl, rfl⟩
    have h1 : ls = [] := List.eq_nil_of_length_eq_zero h0
    subst h1
    exact ⟨_, rfl, World.ownsRow_nil _ _ _ _, Below.refl _ _⟩
  · subst hn
    injection e1 with e3 e4 e5
    subst e3 e5
    have hR : cur = (ls.flatMap shc ++ cur.toList.drop (ls.length * 4)).toArray := by
      apply Array.toList_inj.1
      rw [List.toList_toArray, ← htk, List.take_append_drop]
    have hR2 : (cur.toList.drop (ls.length * 4)).length = cap * 4 - ls.length * 4 := by rw [List.length_drop]; simp [hsz]
    rw [hR] at hh
    refine (deleteFuncS_any g kb ls.length p ls w cap _ hh hEls hle rfl hn1 (hp g hg)).mono ?_
    rintro e w' ⟨R, hRl, rfl, hh2, hT⟩
    have hf : (ls.filter (fun x => !p x)).length ≤ ls.length := List.length_filter_le _ _
    refine ⟨_, rfl, ⟨by rw [flatMap_len shc_len], .inr ⟨g, cap, _, rfl, hg, hh2, by omega, hm, ?_, ?_⟩⟩, hT.below (Below.refl _ _) hg hB⟩
    · simp only [List.size_toArray, List.length_append, flatMap_len shc_len]
      omega
    · simp [flatMap_len shc_len]
end Go.Proofs.YtchcelodeepjdaaGreatDoor.Ln
