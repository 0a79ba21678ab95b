/- ManifestsForm: the roots that it asks of. No condition. · Appends of shelves. Condition: fewer than 1000000 shelves. -/
import Derived.Test.YtchcelodeepjdaaGreatDoorZT
import Derived.Deep.RegionHeld3
namespace Go.Proofs.YtchcelodeepjdaaGreatDoor.Ln
open Go.RowKit Go.Shelf Go.Herb

/-- Nearly what is gone through. -/
structure Few (r : Rv) : Prop where
  bs : r.bs.length ≤ 30
  ls : r.ls.length ≤ 80
  vs : r.vs.length ≤ 30
  sh : r.sh.length ≤ 31
  pts : ∀ x ∈ r.vs, x.ps.length ≤ 60
  lev : ∀ s ∈ r.sh, ∀ l ∈ s.lv, l.ts.length ≤ 30
theorem NotGreat.few {r : Rv} (h : NotGreat r) : Few r := ⟨h.bs, h.ls, h.vs, Nat.le_trans h.sh (by decide), h.pts, h.lev⟩
theorem filesS_len {s : Sv} (h : ∀ l ∈ s.lv, l.ts.length ≤ 30) : (filesS s.says).length ≤ 90 := by
  have h0 := h s.l0 (by simp [Sv.lv])
  have h1 := h s.l1 (by simp [Sv.lv])
  have h2 := h s.l2 (by simp [Sv.lv])
  unfold filesS Sv.says
  simp only [List.length_map, List.flatten_cons, List.flatten_nil, List.append_nil, List.length_append]
  omega
theorem Few.small {r : Rv} (h : Few r) : SmallR r := by
  refine ⟨by have := h.bs; omega, by have := h.ls; omega, by have := h.vs; omega, ?_, by have := h.sh; omega, ?_, fun s hs l hl => by have := h.lev s hs l hl; omega⟩
  · have e := flat_len (f := fun v : Vx.Vc => v.ps.map (·.2)) (M := 60) (l := r.vs) (fun x hx => by rw [List.length_map]; exact h.pts x hx)
    have h1 := h.bs
    have h2 := h.ls
    have h3 : r.vs.length * 60 ≤ 30 * 60 := Nat.mul_le_mul_right _ h.vs
    unfold numsR
    simp only [List.length_append, List.length_map] at e ⊢
    omega
  · have e := flat_len (f := filesS) (M := 90) (l := r.sh.map Sv.says) (fun x hx => by obtain ⟨s, hs, rfl⟩ := List.mem_map.1 hx; exact filesS_len (h.lev s hs))
    have h3 : (r.sh.map Sv.says).length * 90 ≤ 31 * 90 := Nat.mul_le_mul_right _ (by rw [List.length_map]; exact h.sh)
    unfold filesL
    omega
theorem RtIn.ext {w w' : World} {r : Rv} (h : RtIn w r) (hB : Below w.heap.size w w') : RtIn w' r :=
  ⟨h.seq, h.log, h.next, ⟨h.brs.els.ext hB, h.brs.nil, h.brs.le, h.brs.max, h.brs.all⟩, ⟨h.lns.els.ext hB, h.lns.nil, h.lns.le, h.lns.max, h.lns.all⟩, vinE h.vcs hB, h.shs.ext hB, h.sl, h.sm, h.sn, h.vl⟩
/-- With a vector less. -/
def lessR (r : Rv) : Rv := { r with vs := r.vs.take (r.vs.length - 1) }
theorem lessR_in {w : World} {r : Rv} (h : RtIn w r) : RtIn w (lessR r) :=
  ⟨h.seq, h.log, h.next, h.brs, h.lns, ⟨h.vcs.els.take _, fun x hx => h.vcs.inn x (List.mem_of_mem_take hx), fun x hx => h.vcs.wf x (List.mem_of_mem_take hx), Nat.le_trans (by show (r.vs.take _).length ≤ r.vs.length; rw [List.length_take]; omega) h.vcs.len, fun x hx => h.vcs.lens x (List.mem_of_mem_take hx)⟩, h.shs, h.sl, h.sm, h.sn, ⟨Nat.le_trans (by show (r.vs.take _).length ≤ r.vs.length; rw [List.length_take]; omega) h.vl.1, h.vl.2⟩⟩
theorem lessR_few {r : Rv} (h : Few r) : Few (lessR r) := ⟨h.bs, h.ls, by show (r.vs.take _).length ≤ 30; rw [List.length_take]; have := h.vs; omega, h.sh, fun x hx => h.pts x (List.mem_of_mem_take hx), h.lev⟩
theorem lessR_bad {r : Rv} (h : GoodR r) : ¬ GoodR (lessR r) := fun g => by
  have hp := h.2.pair.length_eq
  have hb := h.1.b1
  simp only [List.length_map] at hp
  have e1 : r.says.bs = r.bs := rfl
  have e2 : r.says.vs.length = r.vs.length := Vx.vsOf_len r.vs
  refine GoodS.less h.2 (Vx.vsOf (lessR r).vs) ?_ g.2
  rw [Vx.vsOf_len, e2]
  show (r.vs.take (r.vs.length - 1)).length + 1 = r.vs.length
  rw [List.length_take]
  rw [e1] at hp
  omega
def logR (r : Rv) : Rv := { r with log := r.next }
theorem logR_bad {r : Rv} : ¬ GoodR (logR r) := fun g => GoodS.logN (r := r.says) g.2
def seqR (r : Rv) (s : Int) : Rv := { r with seq := s }
theorem seqR_bad {r : Rv} (x : Ln) (hx : x ∈ r.ls) : ¬ GoodR (seqR r (x.1 - 1)) := fun g => GoodS.late (r := r.says) x hx g.2
/-- A shelf of one table. -/
def newS (next bytes : Int) (a : Option Addr) : Sv := ⟨18446744073709551615, ⟨a, 1, [⟨next, bytes, ⟨#[97]⟩, ⟨#[98]⟩⟩]⟩, ⟨none, 0, []⟩, ⟨none, 0, []⟩⟩
def moreR (r : Rv) (n : Int) (bytes : Int) (ta sa : Option Addr) (sc : Nat) : Rv := { r with next := n, sa := sa, sc := sc, sh := r.sh ++ [newS r.next bytes ta] }
theorem newS_may (next bytes : Int) (a : Option Addr) : MayS (newS next bytes a).says := by
  refine ⟨fun i l hl => ?_, ⟨_, List.mem_cons_self, by simp [newS]⟩⟩
  match i, hl with
  | 0, hl =>
    cases hl
    intro k t ht
    match k, ht with
    | 0, ht => cases ht; exact ⟨by show keyB (⟨#[97]⟩ : ByteArray) = true; decide +kernel, by show keyB (⟨#[98]⟩ : ByteArray) = true; decide +kernel, by show Op.bytesLess (⟨#[98]⟩ : ByteArray).toList (⟨#[97]⟩ : ByteArray).toList = false; decide +kernel, fun h => by omega⟩
    | k + 1, ht => simp [newS] at ht
  | 1, hl => cases hl; intro k t ht; simp [newS] at ht
  | 2, hl => cases hl; intro k t ht; simp [newS] at ht
  | i + 3, hl => simp [newS, Sv.says] at hl
theorem newS_files (next bytes : Int) (a : Option Addr) : filesS (newS next bytes a).says = [next] := by simp [newS, Sv.says, filesS]
theorem moreR_bad {r : Rv} (bytes : Int) (ta sa : Option Addr) (sc : Nat) : ¬ GoodR (moreR r r.next bytes ta sa sc) := fun g => by
  have h := GoodS.fileN (r := r.says) (newS r.next bytes ta).says (by rw [newS_files]; exact List.mem_singleton.2 rfl)
  apply h
  have e : (moreR r r.next bytes ta sa sc).says = { r.says with sh := r.says.sh ++ [(newS r.next bytes ta).says] } := by
    unfold moreR Rv.says
    simp
  rw [← e]
  exact g.2
theorem moreR_good {r : Rv} (bytes : Int) (ta sa : Option Addr) (sc : Nat) (h : GoodR r) (hl : ∀ s ∈ r.sh, s.line < 18446744073709551615) : GoodR (moreR r (r.next + 1) bytes ta sa sc) := by
  refine ⟨h.1, ?_⟩
  have e : (moreR r (r.next + 1) bytes ta sa sc).says = { r.says with sh := r.says.sh ++ [(newS r.next bytes ta).says], next := r.says.next + 1 } := by
    unfold moreR Rv.says
    simp
  rw [e]
  refine GoodS.oneMore h.2 _ (newS_files _ _ _) (newS_may _ _ _) (fun x hx => ?_)
  obtain ⟨s, hs, rfl⟩ := List.mem_map.1 hx
  exact hl s hs
end Go.Proofs.YtchcelodeepjdaaGreatDoor.Ln

namespace Go.Proofs.YtchcelodeepjdaaGreatDoor.Ln
open Go.RowKit Go.Shelf Go.Herb

theorem infoSh : (Tryz.prog.info? (57)).map (fun i => (i.zero, i.size, i.bytes)) = some (some (.agg #[.int .u64 0, .slice none 0 0, .slice none 0 0, .slice none 0 0]), 4, 80) := by kernel_rfl
/-- A slice of shelves of the call's own. -/
def OwnSh (B : Nat) (w : World) (v : Value) (ss : List Sv) : Prop := w.ownsRow B (57) 4 v ss.length (ss.flatMap shc)
theorem run_append_shs (w : World) (B : Nat) (v : Value) (ss : List Sv) (ab : Option Addr) (cb k : Nat) (bs : List Sv) (hk : bs.length = k) (ho : OwnSh B w v ss) (hT : Els shc 4 w ab bs) (hx : ss.length < 1000000) (hb : k < 1000000) (hn : ab = none → cb = 0) (hB : B ≤ w.heap.size) (ty : TypeId) :
    ∃ v' w', (Builtin.append_ #[(30), (30)] ty #[v, .slice ab k cb]).run Tryz.prog w = .ok v' w' ∧ OwnSh B w' v' (ss ++ bs) ∧ w.grownBy w' v.ownBlock := by
  subst hk
  obtain ⟨i0, hin, hz0, hz1, hz2⟩ := info_parts infoSh
  cases ab with
  | none =>
    have h0 : bs = [] := by
      cases bs with
      | nil => rfl
      | cons x xs => obtain ⟨b, o, h, _⟩ := hT.get 0 (by simp); cases h
    subst h0
    rw [hn rfl]
    obtain ⟨av, cv, rfl, -⟩ := Vx.own_parts ho
    have := run_append_owned_none (P := Tryz.prog) w B (30) ty (57) i0 4 Tryz.underlying30 hin _ _ _ ho
    exact ⟨_, w, this, by simpa using ho, grown_refl _ _⟩
  | some ad =>
    obtain ⟨v', w', hr, h2, h3, h4⟩ := run_append_own (P := Tryz.prog) w B (30) ty (57) i0 _ 4 80 Tryz.underlying30 hin hz0 hz1 hz2 rfl (by decide) v ss.length (ss.flatMap shc) ho ad bs.length cb (bs.flatMap shc) (flatMap_len shc_len _) (hT.flat shc_len (by decide)) (fun u hu => by
      obtain ⟨q, _, hq⟩ := List.mem_flatMap.1 hu
      exact shc_one q u hq) (by unfold maxLen; omega) (by omega) hB
    refine ⟨v', w', hr, ?_, h3⟩
    unfold OwnSh
    rw [List.length_append, List.flatMap_append]
    exact h2
theorem wp_append_shs {w : World} {o : Oper} {a : Act} {K : Act → World → Prop} {Q : Exit → Act → World → Prop} (s x : Operand) (ho : o.op = .call { callee := .builtin .append, args := #[s, x], argTypes := #[(30), (30)] })
    (B : Nat) (v : Value) (ss : List Sv) (ab : Option Addr) (cb k : Nat) (bs : List Sv) (hk : bs.length = k) (hs : a.eval s = v) (hx : a.eval x = .slice ab k cb) (hown : OwnSh B w v ss) (hT : Els shc 4 w ab bs) (hl : ss.length < 1000000) (hb : k < 1000000) (hn : ab = none → cb = 0) (hB : B ≤ w.heap.size)
    (h : ∀ v' w', OwnSh B w' v' (ss ++ bs) → w.grownBy w' v.ownBlock → K (a.put o.dst v') w') : o.wp Tryz.prog a w K Q := by
  obtain ⟨v', w', hr, h2, h3⟩ := run_append_shs w B v ss ab cb k bs hk hown hT hl hb hn hB o.type
  unfold Oper.wp execOp
  simp only [ho, resolve, invoke, builtin, Sem.run_bind, Sem.run_pure, Result.andThen_ok, List.map_toArray, List.map_cons, List.map_nil, hs, hx, hr]
  exact h v' w' h2 h3
theorem shs_of_one {w : World} {b : Nat} {x : Sv} (h : w.heap[b]? = some (.cells #[.int .u64 x.line, lvV x.l0, lvV x.l1, lvV x.l2] (57) (0, 0))) : Els shc 4 w (some ⟨b, 0, none⟩) [x] := by
  refine ⟨fun i hi => ⟨b, 0, rfl, lt_of_blk h, fun j c hj => ?_⟩⟩
  have : i = 0 := by simpa using hi
  subst this
  rw [cell_of_blk h]
  simp only [List.getElem_cons_zero, shc] at hj
  simpa using hj
theorem OwnSh.below {B : Nat} {w w' : World} {v : Value} {ts : List Sv} (h : OwnSh B w v ts) (hb : Below w.heap.size w w') : OwnSh B w' v ts := ownsRow_below h hb (Nat.le_refl _)
theorem OwnSh.parts {B : Nat} {w : World} {v : Value} {ts : List Sv} (h : OwnSh B w v ts) : ∃ a c, v = .slice a ts.length c ∧ Els shc 4 w a ts ∧ ts.length ≤ c ∧ c ≤ maxLen ∧ (a = none → c = 0) := by
  obtain ⟨a, c, h1, h2, h3, h4, -⟩ := Vx.own_parts h
  subst h1
  exact ⟨a, c, rfl, Vx.owns_els shc_len h, h3, h4, fun e => (h2 e).2⟩
/-- A table alone. -/
theorem tabs_of_one {w : World} {b : Nat} {x : Tb} (h : w.heap[b]? = some (.cells #[.int .u64 x.file, .int .u32 x.bytes, .string x.low, .string x.high] (51) (0, 0))) : Els tbc 4 w (some ⟨b, 0, none⟩) [x] := by
  refine ⟨fun i hi => ⟨b, 0, rfl, lt_of_blk h, fun j c hj => ?_⟩⟩
  have : i = 0 := by simpa using hi
  subst this
  rw [cell_of_blk h]
  simp only [List.getElem_cons_zero, tbc] at hj
  simpa using hj
/-- With a shelf more, where it lies. -/
structure MoreAt (w4 wx : World) (g : Nat) (r : Rv) (cs : Value → Array Value) (bytes : Int) (sa : Option Addr) (sc : Nat) (ta : Option Addr) (n : Nat) : Prop where
  below : Below g w4 wx
  blk : wx.heap[g]? = some (.cells (cs (.slice sa n sc)) (32) (0, 0))
  shs : ShIn wx sa (r.sh ++ [newS r.next bytes ta])
  le : n ≤ sc
  max : sc ≤ maxLen
  nil : sa = none → sc = 0
theorem newS_ok {w : World} {next bytes : Int} {a : Option Addr} (hn : U64 next) (hb : 0 ≤ bytes ∧ bytes < 4294967296) (ha : a ≠ none) (hE : Els tbc 4 w a [⟨next, bytes, ⟨#[97]⟩, ⟨#[98]⟩⟩]) : SvOk w (newS next bytes a) := by
  have m0 : (0 : Nat) ≤ maxLen := Nat.zero_le _
  have m1 : (1 : Nat) ≤ maxLen := by unfold maxLen; decide
  have e : ∀ l : Lv, l = ⟨none, 0, []⟩ → LvOk w l := fun l h => by subst h; exact ⟨Els.nil _ _ _ _, fun _ => rfl, Nat.le_refl _, m0, fun t ht => by cases ht⟩
  refine ⟨⟨hE, fun h => absurd h ha, Nat.le_refl _, m1, fun t ht => ?_⟩, e _ rfl, e _ rfl, by unfold U64; simp [newS, Lit.wf, IntKind.min, IntKind.max, IntKind.signed, IntKind.bits]⟩
  have h := List.mem_singleton.1 ht
  subst h
  exact ⟨hn, hb, m1, m1⟩
theorem OwnSh.set {B : Nat} {w : World} {v : Value} {ts : List Sv} (h : OwnSh B w v ts) {a : Addr} (ha : a.block < B) (x : Value) : OwnSh B (w.setCell a x) v ts := by
  obtain ⟨h0, h1⟩ := h
  refine ⟨h0, ?_⟩
  rcases h1 with h1 | ⟨g, cap, cur, hv, hg, hh, hr⟩
  · exact .inl h1
  · exact .inr ⟨g, cap, cur, hv, hg, blk_setCell_other hh (by omega) x, hr⟩
theorem more_mk {w w4 w5 w7 : World} {g n : Nat} {r : Rv} {cs : Value → Array Value} {bytes : Int} {sa : Option Addr} {sc : Nat} {v0 : Value} (hR : RtIn w r) (hB4 : Below w.heap.size w w4) (hB5 : Below w4.heap.size w4 w5) (hb2 : Below w5.heap.size w5 w7) (hg : w.heap.size ≤ g) (hg4 : g < w4.heap.size)
    (hblk : w5.heap[g]? = some (.cells (cs v0) (32) (0, 0))) (hcs : ∀ x, (cs v0).setIfInBounds 6 x = cs x) (ht5 : w5.heap[w4.heap.size + 1]? = some (.cells #[.int .u64 r.next, .int .u32 bytes, .string ⟨#[97]⟩, .string ⟨#[98]⟩] (51) (0, 0)))
    (hO : OwnSh w5.heap.size w7 (.slice sa n sc) (r.sh ++ [newS r.next bytes (some ⟨w4.heap.size + 1, 0, none⟩)])) (hby : 0 ≤ bytes ∧ bytes < 4294967296) :
    MoreAt w4 (w7.setCell ⟨g, 6, none⟩ (.slice sa n sc)) g r cs bytes sa sc (some ⟨w4.heap.size + 1, 0, none⟩) n := by
  have hg5 : g < w5.heap.size := Nat.lt_of_lt_of_le hg4 hB5.size
  have q : Below w4.heap.size w4 w7 := hB5.trans (hb2.mono hB5.size)
  have hX : Below g w4 (w7.setCell ⟨g, 6, none⟩ (.slice sa n sc)) := Below.setCell (q.mono (Nat.le_of_lt hg4)) (p := ⟨g, 6, none⟩) (Nat.le_refl g) _
  have hwX : Below w.heap.size w (w7.setCell ⟨g, 6, none⟩ (.slice sa n sc)) := hB4.trans (hX.mono hg)
  have hO2 := hO.set (a := ⟨g, 6, none⟩) hg5 (.slice sa n sc)
  obtain ⟨a, c, hv, hE, hle, hmx, hnn⟩ := hO2.parts
  cases hv
  refine ⟨hX, ?_, ⟨hE, fun s hs => ?_⟩, hle, hmx, hnn⟩
  · rw [← hcs]
    exact blk_setCell (blk_below hblk hb2 hg5) _
  · rcases List.mem_append.1 hs with h | h
    · exact (hR.shs.ok s h).ext hwX
    · have e := List.mem_singleton.1 h
      subst e
      refine newS_ok hR.next hby (by simp) (tabs_of_one (x := ⟨r.next, bytes, ⟨#[97]⟩, ⟨#[98]⟩⟩) ?_)
      exact blk_setCell_other (blk_below ht5 hb2 (lt_of_blk ht5)) (by show w4.heap.size + 1 ≠ g; omega) _
theorem moreR_in {w4 X : World} {g n : Nat} {r : Rv} {cs : Value → Array Value} {bytes : Int} {sa : Option Addr} {sc : Nat} {ta : Option Addr} (h : RtIn X r) (hM : MoreAt w4 X g r cs bytes sa sc ta n) (hn : n = r.sh.length + 1) (m : Int) (hm : U64 m) : RtIn X (moreR r m bytes ta sa sc) :=
  ⟨h.seq, h.log, hm, h.brs, h.lns, h.vcs, hM.shs, by show (r.sh ++ [_]).length ≤ sc; rw [List.length_append, List.length_singleton, ← hn]; exact hM.le, hM.max, hM.nil, h.vl⟩
theorem moreR_few {r : Rv} (h : NotGreat r) (m bytes : Int) (ta sa : Option Addr) (sc : Nat) : Few (moreR r m bytes ta sa sc) := by
  refine ⟨h.bs, h.ls, h.vs, ?_, h.pts, fun s hs l hl => ?_⟩
  · show (r.sh ++ [_]).length ≤ 31
    rw [List.length_append, List.length_singleton]
    have := h.sh
    omega
  · rcases List.mem_append.1 hs with h1 | h1
    · exact h.lev s h1 l hl
    · have e := List.mem_singleton.1 h1
      subst e
      simp only [newS, Sv.lv, List.mem_cons, List.not_mem_nil, or_false] at hl
      rcases hl with rfl | rfl | rfl <;> simp
theorem logR_in {w : World} {r : Rv} (h : RtIn w r) : RtIn w (logR r) := ⟨h.seq, h.next, h.next, h.brs, h.lns, h.vcs, h.shs, h.sl, h.sm, h.sn, h.vl⟩
theorem seqR_in {w : World} {r : Rv} (h : RtIn w r) (s : Int) (hs : U64 s) : RtIn w (seqR r s) := ⟨hs, h.log, h.next, h.brs, h.lns, h.vcs, h.shs, h.sl, h.sm, h.sn, h.vl⟩
theorem logR_few {r : Rv} (h : Few r) : Few (logR r) := ⟨h.bs, h.ls, h.vs, h.sh, h.pts, h.lev⟩
theorem seqR_few {r : Rv} (h : Few r) (s : Int) : Few (seqR r s) := ⟨h.bs, h.ls, h.vs, h.sh, h.pts, h.lev⟩
theorem check_yes (r : Rv) (V : Value) (u : World) (hV : V = rtV r) (h : RtIn u r) (hf : Few r) (hg : GoodR r) : Calls Tryz.prog (16) #[V] u (fun e w' => e = .returned (.int .i64 0) ∧ Below u.heap.size u w') := by
  subst hV
  exact (check_any r u h hf.small).mono (by
    rintro e w' ⟨n, rfl, ⟨rfl, -⟩ | ⟨rfl, h⟩, hb⟩
    · exact ⟨rfl, hb⟩
    · exact absurd hg h)
theorem check_no (r : Rv) (V : Value) (u : World) (hV : V = rtV r) (h : RtIn u r) (hf : Few r) (hg : ¬ GoodR r) : Calls Tryz.prog (16) #[V] u (fun e w' => e = .returned (.int .i64 4) ∧ Below u.heap.size u w') := by
  subst hV
  exact (check_any r u h hf.small).mono (by
    rintro e w' ⟨n, rfl, ⟨-, h⟩ | ⟨rfl, -⟩, hb⟩
    · exact absurd h hg
    · exact ⟨rfl, hb⟩)
end Go.Proofs.YtchcelodeepjdaaGreatDoor.Ln
