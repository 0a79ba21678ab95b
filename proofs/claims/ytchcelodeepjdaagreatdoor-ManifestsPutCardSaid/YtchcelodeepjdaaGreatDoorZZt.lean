/- manifests.Fold of one record. Condition: fewer than 1000000 bytes. · herbariumlaw20.ManifestsTurned. No condition. · manifests: what an edit says; Put's two maps. Condition: fewer than 1000000 shelves. -/
import Derived.Test.YtchcelodeepjdaaGreatDoorZZs
import Derived.Test.YtchcelodeepjdaaGreatDoorZU
import Derived.Test.YtchcelodeepjdaaGreatDoorZZl
import Derived.Test.YtchcelodeepjdaaGreatDoorZZO
import Derived.Deep.RegionHeld3
namespace Go.Proofs.YtchcelodeepjdaaGreatDoor.Ln
open Go.RowKit Go.Shelf Go.Herb

/-- On the way there. -/
structure CX (x e : Nat) (w u : World) (cs es : Array Value) : Prop where
  root : u.heap[x]? = some (.cells cs (32) (0, 0))
  errno : u.heap[e]? = some (.cells es (33) (0, 0))
  below : ∀ B, B ≤ x → B ≤ e → B ≤ w.heap.size → Below B w u
  kept : ∀ k o, w.heap[k]? = some o → k ≠ x → k ≠ e → u.heap[k]? = some o
theorem CX.x {x e : Nat} {w u : World} {cs es : Array Value} (h : CX x e w u cs es) (hxe : x ≠ e) (j : Nat) (v : Value) (cs' : Array Value) (hc : cs.setIfInBounds j v = cs') : CX x e w (u.setCell ⟨x, j, none⟩ v) cs' es :=
  ⟨by rw [← hc]; exact blk_setCell h.root v, blk_setCell_other h.errno (show e ≠ x from fun e2 => hxe e2.symm) v, fun B h1 h2 h3 => Below.setCell (h.below B h1 h2 h3) (p := ⟨x, j, none⟩) h1 v, fun k o hk h1 h2 => blk_setCell_other (h.kept k o hk h1 h2) (show k ≠ x from h1) v⟩
theorem CX.e {x e : Nat} {w u : World} {cs es : Array Value} (h : CX x e w u cs es) (hxe : x ≠ e) (j : Nat) (v : Value) (es' : Array Value) (hc : es.setIfInBounds j v = es') : CX x e w (u.setCell ⟨e, j, none⟩ v) cs es' :=
  ⟨blk_setCell_other h.root (show x ≠ e from hxe) v, by rw [← hc]; exact blk_setCell h.errno v, fun B h1 h2 h3 => Below.setCell (h.below B h1 h2 h3) (p := ⟨e, j, none⟩) h2 v, fun k o hk h1 h2 => blk_setCell_other (h.kept k o hk h1 h2) (show k ≠ e from h2) v⟩
theorem CX.alloc {x e : Nat} {w u : World} {cs es : Array Value} (h : CX x e w u cs es) (hs : w.heap.size ≤ u.heap.size) (o : Obj) : CX x e w (u.alloc o) cs es :=
  ⟨blk_below h.root ((Below.refl _ _).alloc (Nat.le_refl _) o) (lt_of_blk h.root), blk_below h.errno ((Below.refl _ _).alloc (Nat.le_refl _) o) (lt_of_blk h.errno), fun B h1 h2 h3 => (h.below B h1 h2 h3).alloc (Nat.le_trans h3 hs) o, fun k o' hk h1 h2 => blk_below (h.kept k o' hk h1 h2) ((Below.refl _ _).alloc (Nat.le_refl _) o) (lt_of_blk (h.kept k o' hk h1 h2))⟩
theorem CX.name {x e : Nat} {w u : World} {cs es : Array Value} (_ : CX x e w u cs es) : ∃ Z, Z = u := ⟨u, rfl⟩
end Go.Proofs.YtchcelodeepjdaaGreatDoor.Ln

namespace Go.Proofs.YtchcelodeepjdaaGreatDoor.Ln
open Go.RowKit Go.Shelf Go.Herb

theorem NotGreat.fewX {r : Rv} (h : NotGreat r) : FewX r.says := by
  have b := h.bs
  have l := h.ls
  have v := h.vs
  have s := h.sh
  have e0 : r.says.bs = r.bs := rfl
  have e1 : r.says.ls = r.ls := rfl
  have e2 : r.says.vs.length = r.vs.length := Vx.vsOf_len r.vs
  have e3 : (r.says.vs.map (fun v => 1 + v.2.length)).sum ≤ 61 * r.vs.length := by
    have h1 := sum_le (f := fun v : Int × Bh => 1 + v.2.length) (g := fun _ => 61 * 1) r.says.vs (fun x hx => by
      obtain ⟨y, hy, rfl⟩ := List.mem_map.1 hx
      have := h.pts y hy
      show 1 + y.ps.length ≤ 61
      omega)
    rw [sum_mul 61 (fun _ => 1), sum_ones, e2] at h1
    exact h1
  have e4 : (r.says.sh.map (fun s => 1 + (s.lv.map List.length).sum)).sum ≤ 91 * r.sh.length := by
    have h1 := sum_le (f := fun s : Sd => 1 + (s.lv.map List.length).sum) (g := fun _ => 91 * 1) r.says.sh (fun x hx => by
      obtain ⟨y, hy, rfl⟩ := List.mem_map.1 hx
      have h0 := h.lev y hy y.l0 (by simp [Sv.lv])
      have h1 := h.lev y hy y.l1 (by simp [Sv.lv])
      have h2 := h.lev y hy y.l2 (by simp [Sv.lv])
      show 1 + (y.l0.ts.length + (y.l1.ts.length + (y.l2.ts.length + 0))) ≤ 91
      omega)
    rw [sum_mul 91 (fun _ => 1), sum_ones] at h1
    have h2 : r.says.sh.length = r.sh.length := by show (r.sh.map Sv.says).length = _; rw [List.length_map]
    rw [h2] at h1
    exact h1
  refine ⟨by rw [e0]; omega, by rw [e1]; omega, by rw [e2]; omega, by rw [e0, e1]; omega, by omega⟩
theorem FewX.cmp {r : Rv} (h : FewX r.says) : Cmp r := by
  have hs := FewX.small h
  refine ⟨hs.bs, hs.ls, hs.vs, fun v hv => ?_, ?_, hs.lev⟩
  · have hn := h.nums
    have e2 : r.says.vs = Vx.vsOf r.vs := rfl
    have h1 := mem_sum (f := fun v : Int × Bh => 1 + v.2.length) (l := r.says.vs) (x := (v.line, v.ps)) (by rw [e2]; exact List.mem_map_of_mem (f := fun x : Vx.Vc => (x.line, x.ps)) hv)
    simp only at h1
    omega
  · have h1 := sum_le (f := fun _ => 1) (g := fun s : Sd => 1 + (s.lv.map List.length).sum) (r.sh.map Sv.says) (fun _ _ => by omega)
    rw [sum_ones, List.length_map] at h1
    have := h.sh
    have h3 : r.says.sh = r.sh.map Sv.says := rfl
    rw [h3] at this
    omega
theorem OneIs.few {ys : List Int} {x : Rt} (h : OneIs ys x) (hl : ys.length ≤ 1000000) : FewX x := by
  obtain ⟨l, r0, l1, l2, sh, rfl, h1, h2, rfl⟩ := h.read
  exact few_read h1 h2 (by rw [List.length_cons] at hl; omega)
theorem wholeL_few {w : World} {r : Rv} (hi : RtIn w r) (hg : GoodR r) (hn : NotGreat r) : (wholeL r.says).length < 400000 := by
  have hf := hn.fewX
  have hl := laid_of hi hg hf
  have hk := keys_of hg hf
  have e1 := flat_len (f := brL) (M := 2000) (l := r.bs) (fun x hx => brL_len (hl.names x hx).2 (hl.inn.brs.all x hx).2.1 (hl.inn.brs.all x hx).2.2)
  have e2 := flat_len (f := lnL) (M := 20) (l := r.ls) (fun x hx => two_len (hl.inn.lns.all x hx).1 (hl.inn.lns.all x hx).2)
  have e3 := flat_len (f := vcL) (M := 1220) (l := Vx.vsOf r.vs) (fun x hx => by
    obtain ⟨y, hy, rfl⟩ := List.mem_map.1 hx
    have h0 := hn.pts y hy
    have h1 := two_len (hi.vcs.wf y hy).1 (u64_len (n := y.ps.length) (by omega))
    have h2 := flat_len (f := ptL) (M := 20) (l := y.ps) (fun q hq => two_len ((hi.vcs.wf y hy).2 q hq).1 ((hi.vcs.wf y hy).2 q hq).2)
    show (numsL [y.line, (y.ps.length : Int)] ++ y.ps.flatMap ptL).length ≤ 1220
    rw [List.length_append]
    omega)
  have e4 := flat_len (f := sdE) (M := 9464) (l := r.sh) (fun s hs => by
    have h1 := sdE_len (hi.shs.ok s hs) (hk s hs)
    have h0 := hn.lev s hs s.l0 (by simp [Sv.lv])
    have h2 := hn.lev s hs s.l1 (by simp [Sv.lv])
    have h3 := hn.lev s hs s.l2 (by simp [Sv.lv])
    have e : (s.lv.map (fun l => l.ts.length)).sum = s.l0.ts.length + (s.l1.ts.length + (s.l2.ts.length + 0)) := rfl
    rw [e] at h1
    omega)
  rw [Vx.vsOf_len] at e3
  have b1 := hg.1.b12
  have b2 := hn.ls
  have b3 := hn.vs
  have b4 := hn.sh
  have n1 := numsL_len [r.seq, r.log, r.next, (r.bs.length : Int)] (by
    intro x hx
    simp only [List.mem_cons, List.not_mem_nil, or_false] at hx
    rcases hx with rfl | rfl | rfl | rfl
    · exact hi.seq
    · exact hi.log
    · exact hi.next
    · exact u64_len (by omega))
  have m1 : [r.seq, r.log, r.next, (r.bs.length : Int)].length = 4 := rfl
  have n2 := num_len (u64_len (n := r.ls.length) (by omega))
  have n3 := num_len (u64_len (n := r.vs.length) (by omega))
  have n4 := num_len (u64_len (n := r.sh.length) (by omega))
  have f1 : r.bs.length * 2000 ≤ 12 * 2000 := Nat.mul_le_mul_right _ b1
  have f2 : r.ls.length * 20 ≤ 80 * 20 := Nat.mul_le_mul_right _ b2
  have f3 : r.vs.length * 1220 ≤ 30 * 1220 := Nat.mul_le_mul_right _ b3
  have f4 : r.sh.length * 9464 ≤ 30 * 9464 := Nat.mul_le_mul_right _ b4
  have es : r.says.sh = r.sh.map Sv.says := rfl
  unfold wholeL
  rw [es, shL_eq]
  unfold headL Rv.says
  simp only [List.length_cons, List.length_append, Vx.vsOf_len, numsL_one]
  omega
theorem wholeL_len {w : World} {r : Rv} (hi : RtIn w r) (hg : GoodR r) (hn : NotGreat r) : (wholeL r.says).length < 1000000 := Nat.lt_trans (wholeL_few hi hg hn) (by decide)
theorem byt_set {w : World} {ad : Addr} {ys : List Int} (h : Byt w (some ad) ys) (k : Nat) (_ : k < ys.length) (z : Int) {cs : Array Value} {t : TypeId} {fr : Nat × Nat} (hb : w.heap[ad.block]? = some (.cells cs t fr)) {b o : Nat} (he : ad = ⟨b, o, none⟩) (hc : o + k < cs.size) :
    Byt (w.setCell ⟨b, o + k, none⟩ (.int .u8 z)) (some ad) (ys.set k z) := by
  subst he
  have hb2 := blk_setCell (j := o + k) hb (.int .u8 z)
  refine ⟨fun i hi => ?_⟩
  rw [List.length_set] at hi
  obtain ⟨b', o', ha, hlt, hcc⟩ := h.get i hi
  cases ha
  refine ⟨b, o, rfl, lt_of_blk hb2, fun j c hj => ?_⟩
  have hj0 : j = 0 := by
    rcases Nat.eq_zero_or_pos j with h | h
    · exact h
    · rw [List.getElem?_eq_none (by rw [nb_len]; omega)] at hj; cases hj
  subst hj0
  rw [cell_of_blk hb2]
  by_cases hik : i = k
  · subst hik
    rw [List.getElem_set_self] at hj
    simp only [Nat.mul_one, Nat.add_zero]
    rw [Array.getElem?_setIfInBounds_self_of_lt hc]
    simpa [nb] using hj
  · rw [List.getElem_set_ne (fun e => hik e.symm)] at hj
    have h2 := hcc 0 c hj
    rw [cell_of_blk hb] at h2
    simp only [Nat.mul_one, Nat.add_zero] at h2 ⊢
    rw [Array.getElem?_setIfInBounds_ne (by omega)]
    exact h2
end Go.Proofs.YtchcelodeepjdaaGreatDoor.Ln

namespace Go.Herb
open Go
/-- Lines of shelves that are gone. -/
noncomputable def goneL (now was : List Sd) : List Int := (was.filter (fun s => decide (s.line ∉ now.map Sd.line))).map Sd.line
/-- Is a shelf as it was? -/
noncomputable def asWas (was : List Sd) (s : Sd) : Bool := by classical exact decide (∃ x ∈ was, x.line = s.line ∧ x.lv = s.lv)
noncomputable def newL (now was : List Sd) : List Sd := now.filter (fun s => !asWas was s)
/-- A root's record as an edit of another one. -/
noncomputable def editL (r was : Rt) : List Int := 2 :: (headL r ++ numsL [((goneL r.sh was.sh).length : Int)] ++ numsL (goneL r.sh was.sh) ++ shL (newL r.sh was.sh))
end Go.Herb
namespace Go.Proofs.YtchcelodeepjdaaGreatDoor.Ln
open Go.RowKit Go.Shelf Go.Herb

theorem putL_mem {m : List (Int × Sv)} {a : Int} {b : Sv} {p : Int × Sv} (h : p ∈ putL m a b) : p ∈ m ∨ p = (a, b) := by
  unfold putL at h
  split at h
  · obtain ⟨q, hq, rfl⟩ := List.mem_map.1 h
    by_cases e : q.1 = a
    · rw [if_pos e]; exact .inr rfl
    · rw [if_neg e]; exact .inl hq
  · rcases List.mem_append.1 h with h | h
    · exact .inl h
    · exact .inr (List.mem_singleton.1 h)
theorem putS_mem {xs : List Sv} : ∀ {m : List (Int × Sv)} {p : Int × Sv}, p ∈ putS m xs → p ∈ m ∨ (p.2 ∈ xs ∧ p.1 = p.2.line) := by
  induction xs with
  | nil => exact fun h => .inl h
  | cons x xs ih =>
    intro m p h
    rcases ih (m := putL m x.line x) h with h | ⟨h1, h2⟩
    · rcases putL_mem h with h | rfl
      · exact .inl h
      · exact .inr ⟨List.mem_cons_self, rfl⟩
    · exact .inr ⟨List.mem_cons_of_mem _ h1, h2⟩
theorem getL_putS_none {xs : List Sv} {k : Int} (h : k ∉ xs.map Sv.line) : ∀ (m : List (Int × Sv)), getL (putS m xs) k = getL m k := by
  induction xs with
  | nil => exact fun _ => rfl
  | cons x xs ih =>
    intro m
    rw [List.map_cons, List.mem_cons, not_or] at h
    show getL (putS (putL m x.line x) xs) k = _
    rw [ih h.2, getL_put_other _ _ _ h.1]
theorem getL_putS_some {xs : List Sv} {x : Sv} (hx : x ∈ xs) (hn : (xs.map Sv.line).Nodup) : ∀ (m : List (Int × Sv)), getL (putS m xs) x.line = some x := by
  induction xs with
  | nil => cases hx
  | cons y xs ih =>
    intro m
    rw [List.map_cons, List.nodup_cons] at hn
    show getL (putS (putL m y.line y) xs) x.line = _
    rcases List.mem_cons.1 hx with rfl | hx
    · rw [getL_putS_none hn.1, getL_put_same]
    · exact ih hx hn.2 _
theorem getL_putS {xs : List Sv} (hn : (xs.map Sv.line).Nodup) (k : Int) : (getL (putS [] xs) k = none ∧ k ∉ xs.map Sv.line) ∨ ∃ x ∈ xs, x.line = k ∧ getL (putS [] xs) k = some x := by
  by_cases h : k ∈ xs.map Sv.line
  · obtain ⟨x, hx, rfl⟩ := List.mem_map.1 h
    exact .inr ⟨x, hx, rfl, getL_putS_some hx hn []⟩
  · exact .inl ⟨by rw [getL_putS_none h]; rfl, h⟩
theorem lines_says (xs : List Sv) : (xs.map Sv.says).map Sd.line = xs.map Sv.line := by rw [List.map_map]; rfl
/-- Lines that a map has not. -/
def goneV (m : List (Int × Sv)) (xs : List Sv) : List Int := (xs.filter (fun s => (getL m s.line).isNone)).map Sv.line
theorem goneV_eq {now xs : List Sv} (hn : (now.map Sv.line).Nodup) : goneV (putS [] now) xs = goneL (now.map Sv.says) (xs.map Sv.says) := by
  unfold goneV goneL
  rw [lines_says, List.filter_map, List.map_map]
  have : xs.filter (fun s => (getL (putS [] now) s.line).isNone) = xs.filter ((fun s : Sd => decide (s.line ∉ now.map Sv.line)) ∘ Sv.says) := by
    apply List.filter_congr
    intro s _
    show _ = decide (s.line ∉ now.map Sv.line)
    rcases getL_putS hn s.line with ⟨h1, h2⟩ | ⟨x, hx, h1, h2⟩
    · rw [h1]; exact (decide_eq_true h2).symm
    · rw [h2]; exact (decide_eq_false (fun h => h (by rw [← h1]; exact List.mem_map_of_mem hx))).symm
  rw [this]
  rfl
theorem goneV_snoc (m : List (Int × Sv)) {xs : List Sv} {k : Nat} {x : Sv} (h : xs[k]? = some x) : goneV m (xs.take (k + 1)) = goneV m (xs.take k) ++ (if (getL m x.line).isNone then [x.line] else []) := by
  obtain ⟨hk, rfl⟩ := List.getElem?_eq_some_iff.1 h
  unfold goneV
  rw [filter_take_succ _ xs k hk, List.map_append]
  congr 1
  split <;> rfl
theorem newL_eq {now was : List Sv} (hn : (was.map Sv.line).Nodup) : (now.filter (fun s => !keptP (putS [] was) s)).map Sv.says = newL (now.map Sv.says) (was.map Sv.says) := by
  unfold newL
  rw [List.filter_map]
  congr 1
  apply List.filter_congr
  intro s _
  show (!keptP (putS [] was) s) = !asWas (was.map Sv.says) s.says
  congr 1
  unfold keptP asWas
  rcases getL_putS hn s.line with ⟨h1, h2⟩ | ⟨x, hx, h1, h2⟩
  · rw [h1]
    symm
    simp only [decide_eq_false_iff_not]
    rintro ⟨y, hy, h3, h4⟩
    obtain ⟨z, hz, rfl⟩ := List.mem_map.1 hy
    exact h2 (by rw [show s.line = z.line from h3.symm]; exact List.mem_map_of_mem hz)
  · rw [h2]
    simp only
    by_cases e : x.says.lv = s.says.lv
    · rw [decide_eq_true e]
      symm
      simp only [decide_eq_true_eq]
      exact ⟨x.says, List.mem_map_of_mem hx, h1, e⟩
    · rw [decide_eq_false e]
      symm
      simp only [decide_eq_false_iff_not]
      rintro ⟨y, hy, h3, h4⟩
      obtain ⟨z, hz, rfl⟩ := List.mem_map.1 hy
      have hzx := getL_putS_some hz hn []
      rw [show z.line = s.line from h3, h2] at hzx
      cases hzx
      exact e h4
/-- Put's two maps. -/
structure TwoMaps (U X : World) (kb b1 b2 : Nat) (m1 m2 : List (Int × Sv)) : Prop where
  one : MapS X b1 m1
  two : MapS X b2 m2
  box : X.cell? ⟨kb, 0, none⟩ = some (.map (some b2))
  below : Below U.heap.size U X
  ge : U.heap.size ≤ kb
theorem twoMaps_mk {U Y : World} {kb b1 b2 : Nat} {m1 m2 : List (Int × Sv)} {v : Value} {fr : Nat × Nat} (h1 : MapS Y b1 m1) (h2 : MapS Y b2 m2) (hb : Y.heap[kb]? = some (.cells #[v] (94) fr)) (hB : Below U.heap.size U Y) (hk : U.heap.size ≤ kb) :
    TwoMaps U (Y.setCell ⟨kb, 0, none⟩ (.map (some b2))) kb b1 b2 m1 m2 := by
  have hne : ∀ {b : Nat} {m : List (Int × Sv)}, MapS Y b m → b ≠ kb := fun h e => by
    obtain ⟨es, c, h1, -⟩ := h.blk
    rw [e, hb] at h1
    cases h1
  have hkeep : ∀ {b : Nat} {m : List (Int × Sv)}, MapS Y b m → MapS (Y.setCell ⟨kb, 0, none⟩ (.map (some b2))) b m := fun h => by
    have hn := hne h
    obtain ⟨es, c, h1, r⟩ := h.blk
    exact ⟨es, c, blk_setCell_other h1 hn _, r⟩
  refine ⟨hkeep h1, hkeep h2, ?_, Below.setCell hB (p := ⟨kb, 0, none⟩) hk _, hk⟩
  rw [cell_of_blk (blk_setCell hb _)]
  simp
end Go.Proofs.YtchcelodeepjdaaGreatDoor.Ln
