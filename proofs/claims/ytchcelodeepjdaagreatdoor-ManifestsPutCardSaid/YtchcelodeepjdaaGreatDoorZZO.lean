/- Appends of shelves. Condition: fewer than 1000000 shelves. · Rows of the call's own: what leaves them, appends of one element. Condition: fewer than 1000000 elements. · herbariumref20.files. Condition: at most 1000000 files. -/
import Derived.Test.YtchcelodeepjdaaGreatDoorZU
import Derived.Deep.RegionHeld3
import Derived.Test.YtchcelodeepjdaaGreatDoorZZ
namespace Go.Proofs.YtchcelodeepjdaaGreatDoor.Ln
open Go.RowKit Go.Shelf Go.Herb

theorem infoSh : (Tryz.prog.info? (57)).map (fun i => (i.zero, i.size, i.bytes)) = some (some (.agg #[.int .u64 0, .slice none 0 0, .slice none 0 0, .slice none 0 0]), 4, 80) := by kernel_rfl
/-- A slice of shelves of the call's own. -/
def OwnSh (B : Nat) (w : World) (v : Value) (ss : List Sv) : Prop := w.ownsRow B (57) 4 v ss.length (ss.flatMap shc)
theorem run_append_shs (w : World) (B : Nat) (v : Value) (ss : List Sv) (ab : Option Addr) (cb k : Nat) (bs : List Sv) (hk : bs.length = k) (ho : OwnSh B w v ss) (hT : Els shc 4 w ab bs) (hx : ss.length < 1000000) (hb : k < 1000000) (hn : ab = none → cb = 0) (hB : B ≤ w.heap.size) (ty : TypeId) :
    ∃ v' w', (Builtin.append_ #[(30), (30)] ty #[v, .slice ab k cb]).run Tryz.prog w = .ok v' w' ∧ OwnSh B w' v' (ss ++ bs) ∧ w.grownBy w' v.ownBlock := by
  subst hk
  obtain ⟨i0, hin, hz0, hz1, hz2⟩ := info_parts infoSh
  cases ab with
  | none =>
    have h0 : bs = [] := by
      cases bs with
      | nil => rfl
      | cons x xs => obtain ⟨b, o, h, _⟩ := hT.get 0 (by simp); cases h
    subst h0
    rw [hn rfl]
    obtain ⟨av, cv, rfl, -⟩ := Vx.own_parts ho
    have := run_append_owned_none (P := Tryz.prog) w B (30) ty (57) i0 4 Tryz.underlying30 hin _ _ _ ho
    exact ⟨_, w, this, by simpa using ho, grown_refl _ _⟩
  | some ad =>
    obtain ⟨v', w', hr, h2, h3, h4⟩ := run_append_own (P := Tryz.prog) w B (30) ty (57) i0 _ 4 80 Tryz.underlying30 hin hz0 hz1 hz2 rfl (by decide) v ss.length (ss.flatMap shc) ho ad bs.length cb (bs.flatMap shc) (flatMap_len shc_len _) (hT.flat shc_len (by decide)) (fun u hu => by
      obtain ⟨q, _, hq⟩ := List.mem_flatMap.1 hu
      exact shc_one q u hq) (by unfold maxLen; omega) (by omega) hB
    refine ⟨v', w', hr, ?_, h3⟩
    unfold OwnSh
    rw [List.length_append, List.flatMap_append]
    exact h2
theorem OwnSh.below {B : Nat} {w w' : World} {v : Value} {ts : List Sv} (h : OwnSh B w v ts) (hb : Below w.heap.size w w') : OwnSh B w' v ts := ownsRow_below h hb (Nat.le_refl _)
theorem OwnSh.parts {B : Nat} {w : World} {v : Value} {ts : List Sv} (h : OwnSh B w v ts) : ∃ a c, v = .slice a ts.length c ∧ Els shc 4 w a ts ∧ ts.length ≤ c ∧ c ≤ maxLen ∧ (a = none → c = 0) := by
  obtain ⟨a, c, h1, h2, h3, h4, -⟩ := Vx.own_parts h
  subst h1
  exact ⟨a, c, rfl, Vx.owns_els shc_len h, h3, h4, fun e => (h2 e).2⟩
theorem OwnSh.set {B : Nat} {w : World} {v : Value} {ts : List Sv} (h : OwnSh B w v ts) {a : Addr} (ha : a.block < B) (x : Value) : OwnSh B (w.setCell a x) v ts := by
  obtain ⟨h0, h1⟩ := h
  refine ⟨h0, ?_⟩
  rcases h1 with h1 | ⟨g, cap, cur, hv, hg, hh, hr⟩
  · exact .inl h1
  · exact .inr ⟨g, cap, cur, hv, hg, blk_setCell_other hh (by omega) x, hr⟩
end Go.Proofs.YtchcelodeepjdaaGreatDoor.Ln

namespace Go.Proofs.YtchcelodeepjdaaGreatDoor.Ln
open Go.RowKit Go.Shelf Go.Herb

theorem own_kept {u u' : World} {M e s n : Nat} {v : Value} {xs : List Value} (h : u.ownsRow M e s v n xs) (hk : ∀ g cs, u.heap[g]? = some (.cells cs e (0, 0)) → M ≤ g → u'.heap[g]? = some (.cells cs e (0, 0))) : u'.ownsRow M e s v n xs := by
  obtain ⟨h0, h1⟩ := h
  refine ⟨h0, ?_⟩
  rcases h1 with h1 | ⟨g, cap, cur, hv, hg, hh, hr⟩
  · exact .inl h1
  · exact .inr ⟨g, cap, cur, hv, hg, hk g cur hh hg, hr⟩
theorem own_turn {u u' : World} {p M e s n : Nat} {v : Value} {xs : List Value} (h : u.ownsRow M e s v n xs) (ht : TurnI p u u') (hp : p < M) : u'.ownsRow M e s v n xs :=
  own_kept h (fun g _ hh hg => ht.kept g _ hh (by omega))
/-- A store into a block of another type. -/
theorem own_set {u : World} {M e s n b j : Nat} {v : Value} {xs : List Value} {cs : Array Value} {t : TypeId} {fr : Nat × Nat} (h : u.ownsRow M e s v n xs) (hb : u.heap[b]? = some (.cells cs t fr)) (ht : t ≠ e) (x : Value) : (u.setCell ⟨b, j, none⟩ x).ownsRow M e s v n xs :=
  own_kept h (fun g cs' hh _ => blk_setCell_other hh (show g ≠ b from fun e2 => by rw [e2, hb] at hh; cases hh; exact ht rfl) x)
theorem own_alloc {u : World} {M e s n : Nat} {v : Value} {xs : List Value} (h : u.ownsRow M e s v n xs) (o : Obj) : (u.alloc o).ownsRow M e s v n xs := ownsRow_below h ((Below.refl _ _).alloc (Nat.le_refl _) o) (Nat.le_refl _)
/-- Another row grows. -/
theorem own_grown {u u' : World} {M M' e s n e' s' n' : Nat} {v v' : Value} {xs xs' : List Value} (h : u.ownsRow M e s v n xs) (h' : u.ownsRow M' e' s' v' n' xs') (hg : u.grownBy u' v'.ownBlock) (hne : e ≠ e') : u'.ownsRow M e s v n xs :=
  own_kept h (fun g cs hh _ => (hg.block g (lt_of_blk hh) (fun hk => by
    obtain ⟨-, ⟨h1, -⟩ | ⟨g', cap, cur, hv, -, hh', -⟩⟩ := h'
    · rw [h1] at hk; cases hk
    · rw [hv] at hk
      cases hk
      rw [hh] at hh'
      cases hh'
      exact hne rfl)).trans hh)
/-- A block of another type than a row that grows. -/
theorem blk_grown {u u' : World} {M' e' s' n' g : Nat} {v' : Value} {xs' : List Value} {cs : Array Value} {t : TypeId} {fr : Nat × Nat} (h : u.heap[g]? = some (.cells cs t fr)) (h' : u.ownsRow M' e' s' v' n' xs') (hg : u.grownBy u' v'.ownBlock) (hne : t ≠ e') : u'.heap[g]? = some (.cells cs t fr) :=
  (hg.block g (lt_of_blk h) (fun hk => by
    obtain ⟨-, ⟨h1, -⟩ | ⟨g', cap, cur, hv, -, hh', -⟩⟩ := h'
    · rw [h1] at hk; cases hk
    · rw [hv] at hk
      cases hk
      rw [h] at hh'
      cases hh'
      exact hne rfl)).trans h
theorem own_row {u : World} {M e s n k : Nat} {v : Value} {xs : List Value} (h : u.ownsRow M e s v n xs) (hk : v.ownBlock = some k) : M ≤ k := by
  obtain ⟨-, ⟨h1, -⟩ | ⟨g', cap, cur, hv, hg, -⟩⟩ := h
  · rw [h1] at hk; cases hk
  · rw [hv] at hk
    cases hk
    exact hg
theorem RS.alloc {p B bx : Nat} {w u : World} {ys : List Int} {cs : Array Value} {t : TypeId} (h : RS p B w u ys bx cs t) (o : Obj) : RS p B w (u.alloc o) ys bx cs t := by
  have hb : Below u.heap.size u (u.alloc o) := (Below.refl _ _).alloc (Nat.le_refl _) o
  exact ⟨h.read.ext hb, blk_below h.box hb (lt_of_blk h.box), h.turn.trans (TurnI.of_below hb), h.hp, h.hb⟩
theorem turn_grown {p M : Nat} {w u u' : World} {row : Option Nat} (h : TurnI p w u) (hg : u.grownBy u' row) (hr : ∀ k, row = some k → w.heap.size ≤ k) : TurnI p w u' :=
  ⟨hg.os.trans h.os, hg.tape.trans h.tape, hg.output.trans h.output, Nat.le_trans h.size hg.size, fun k o ho hk => by
    have h1 := h.kept k o ho hk
    exact (hg.block k (lt_of_blk h1) (fun e => by have := hr k e.symm; have := lt_of_blk ho; omega)).trans h1⟩
/-- A row of another type than the box's grows. -/
theorem RS.grown {p B bx M e s n : Nat} {w u u' : World} {ys : List Int} {cs : Array Value} {t : TypeId} {v : Value} {xs : List Value} (h : RS p B w u ys bx cs t) (ho : u.ownsRow M e s v n xs) (hM : w.heap.size ≤ M) (hg : u.grownBy u' v.ownBlock) (hne : t ≠ e) : RS p B w u' ys bx cs t := by
  have hr : ∀ k, v.ownBlock = some k → w.heap.size ≤ k := fun k hk => Nat.le_trans hM (own_row ho hk)
  have hlow := h.read.low
  have hp := h.hp
  refine ⟨h.read.kept (fun b o hb hlt => (hg.block b (lt_of_blk hb) (fun e => by have := hr b e.symm; omega)).trans hb), blk_grown h.box ho hg hne, ?_, h.hp, h.hb⟩
  exact ⟨hg.os.trans h.turn.os, hg.tape.trans h.turn.tape, hg.output.trans h.turn.output, Nat.le_trans h.turn.size hg.size, fun k o ho hk => by
    have h1 := h.turn.kept k o ho hk
    exact (hg.block k (lt_of_blk h1) (fun e => by have := hr k e.symm; have := lt_of_blk ho; omega)).trans h1⟩
/-- An append of one element, out of a row just made. -/
theorem run_append_one {α : Type} {enc : α → List Value} {s by_ : Nat} (T E : TypeId) (z : Value) (hlen : ∀ x, (enc x).length = s) (hone : ∀ x, ∀ u ∈ enc x, u.oneCell' = true) (hu : Tryz.prog.underlying T = some (.slice E)) (hi : (Tryz.prog.info? E).map (fun i => (i.zero, i.size, i.bytes)) = some (some z, s, by_)) (hz : z.cells.size = s) (hb0 : by_ ≤ 1000)
    (w : World) (M : Nat) (v : Value) (ss : List α) (g : Nat) (x : α) (cs : Array Value) (ho : w.ownsRow M E s v ss.length (ss.flatMap enc)) (hg : w.heap[g]? = some (.cells cs E (0, 0))) (hc : cs.toList = enc x) (hs : 0 < s) (hx : ss.length < 1000000) (hB : M ≤ w.heap.size) (ty : TypeId) :
    ∃ v' w', (Builtin.append_ #[T, T] ty #[v, .slice (some ⟨g, 0, none⟩) 1 1]).run Tryz.prog w = .ok v' w' ∧ w'.ownsRow M E s v' (ss ++ [x]).length ((ss ++ [x]).flatMap enc) ∧ w.grownBy w' v.ownBlock := by
  obtain ⟨i0, hin, hz0, hz1, hz2⟩ := info_parts hi
  have hE : Els enc s w (some ⟨g, 0, none⟩) [x] := els_one x hg hc
  have hl : ([x].flatMap enc).length = 1 * s := flatMap_len hlen [x]
  obtain ⟨v', w', hr, h2, h3, h4⟩ := run_append_own (P := Tryz.prog) w M T ty E i0 z s by_ hu hin hz0 hz1 hz2 hz hs v ss.length (ss.flatMap enc) ho ⟨g, 0, none⟩ 1 1 ([x].flatMap enc) hl (hE.flat hlen hs) (fun u hu => by
    obtain ⟨q, _, hq⟩ := List.mem_flatMap.1 hu
    exact hone q u hq) (by unfold maxLen; omega) (by
      have : (ss.length + 1) * by_ ≤ 1000000 * 1000 := Nat.mul_le_mul (by omega) hb0
      omega) hB
  refine ⟨v', w', hr, ?_, h3⟩
  rw [List.length_append, List.flatMap_append]
  exact h2
end Go.Proofs.YtchcelodeepjdaaGreatDoor.Ln

namespace Go.Proofs.YtchcelodeepjdaaGreatDoor.Ln
open Go.RowKit Go.Shelf Go.Herb

theorem push_u1 {wr : World} {B : Nat} {v : Value} {ys : List Int} (x : Int) (hB : B ≤ wr.heap.size) (ho : Vx.OwnU B wr v ys) (hl : ys.length < 1000000) :
    ∃ v' w', (Builtin.append_ #[(88), (88)] (88) #[v, .slice (some ⟨wr.heap.size, 0, none⟩) 1 1]).run Tryz.prog (wr.alloc (.cells #[.int .u64 x] (26))) = .ok v' w' ∧ Vx.OwnU B w' v' (ys ++ [x]) ∧ Below B wr w' := by
  have hb1 : Below wr.heap.size wr (wr.alloc (.cells #[.int .u64 x] (26))) := (Below.refl _ _).alloc (Nat.le_refl _) _
  have ho2 : Vx.OwnU B (wr.alloc (.cells #[.int .u64 x] (26))) v ys := ownsRow_below ho hb1 (Nat.le_refl _)
  obtain ⟨v', w', hrun, h2, h3⟩ := run_append_one (enc := Vx.nu) (88) (26) (.int .u64 0) Vx.nu_len (fun x u hu => by simp [Vx.nu] at hu; subst hu; rfl) Tryz.underlying88 (by kernel_rfl : (Tryz.prog.info? (26)).map (fun i => (i.zero, i.size, i.bytes)) = some (some (.int .u64 0), 1, 8)) rfl (by decide) (wr.alloc (.cells #[.int .u64 x] (26))) B v ys wr.heap.size x _ ho2 (blk_new_at rfl _) rfl (by decide) hl (Nat.le_trans hB hb1.size) (88)
  exact ⟨v', w', hrun, h2, Below.appended (hb1.mono hB) ho2 (Nat.le_refl _) (Nat.le_trans hB hb1.size) h3⟩
def fileV (l : Lv) : List Int := l.ts.map (fun t => t.file)
theorem filesS_lv (s : Sv) : filesS s.says = s.lv.flatMap fileV := by
  unfold filesS
  rw [Sv.lv_says, List.map_flatten, List.map_map]
  rfl
theorem filesL_sv (xs : List Sv) : filesL (xs.map Sv.says) = xs.flatMap (fun s => s.lv.flatMap fileV) := by
  unfold filesL
  rw [List.flatMap_map]
  show xs.flatMap (fun s => filesS (Sv.says s)) = _
  rw [show (fun s => filesS (Sv.says s)) = (fun s => s.lv.flatMap fileV) from funext filesS_lv]
theorem flat_pre {α : Type} (f : α → List Int) (l : List α) (i : Nat) (h : i < l.length) : ((l.take i).flatMap f).length + (f l[i]).length ≤ (l.flatMap f).length := by
  have e : l.flatMap f = (l.take i).flatMap f ++ (f l[i] ++ (l.drop (i + 1)).flatMap f) := by
    conv => lhs; rw [← List.take_append_drop i l, List.drop_eq_getElem_cons h, List.flatMap_append, List.flatMap_cons]
  rw [e, List.length_append, List.length_append]
  omega
theorem flat_snoc {α : Type} (f : α → List Int) (l : List α) (i : Nat) (h : i < l.length) : (l.take (i + 1)).flatMap f = (l.take i).flatMap f ++ f l[i] := by
  rw [List.take_succ_eq_append_getElem h, List.flatMap_append]
  simp
def FilesPost (xs : List Sv) (w : World) (e : Ending) (w' : World) : Prop := ∃ (a : Option Addr) (n c : Nat), e = .returned (.slice a n c) ∧ n = (filesL (xs.map Sv.says)).length ∧ Vx.OwnU w.heap.size w' (.slice a n c) (filesL (xs.map Sv.says)) ∧ Below w.heap.size w w'
set_option maxRecDepth 100000 in
set_option maxHeartbeats 4000000 in
theorem refFiles_any (sa : Option Addr) (sc n : Nat) (xs : List Sv) (w : World) (hS : ShIn w sa xs) (hn : xs.length = n) (hl : n ≤ 1000000) (ht : (filesL (xs.map Sv.says)).length ≤ 1000000) :
    Calls Tryz.prog (59) #[.slice sa n sc] w (FilesPost xs w) := by
  have HS := Lib.hid hS
  have HN := Lib.hid hn
  have HL := Lib.hid hl
  have HT := Lib.hid (show (xs.flatMap (fun s => s.lv.flatMap fileV)).length ≤ 1000000 from by rw [← filesL_sv]; exact ht)
  clear hS hn hl ht
  go_enter Tryz.func59, Tryz.ntmps59
  go_upto_region 3 with fail
  go_loopg [4, 3] n (fun gk iv v3 wr => ∃ (i : Nat) (a : Option Addr) (m c : Nat), i + gk = n ∧ iv = .int .i64 i ∧ v3 = .slice a m c ∧ Hid (Vx.OwnU w.heap.size wr (.slice a m c) ((xs.take i).flatMap (fun s => s.lv.flatMap fileV))) ∧ Hid (Below w.heap.size w wr))
  case atStart => exact ⟨0, none, 0, 0, by omega, rfl, rfl, Lib.hid (World.ownsRow_nil _ _ _ _), Lib.hid (Below.refl _ _)⟩
  case round =>
    obtain ⟨i, a, m, c, hi, rfl, rfl, HO, HB⟩ := hrel
    by_cases hlt : i < n
    case neg =>
      have i1 : ¬ (i : Int) < (n : Int) := by omega
      have HE := Lib.hid (show FilesPost xs w (.returned (.slice a m c)) wr from by
        have h1 := HO.out
        rw [List.take_of_length_le (by have := HN.out; omega), ← filesL_sv] at h1
        obtain ⟨a', c', h2, -, -⟩ := els_of_owns Vx.nu_len h1
        injection h2 with h2 h3 h4
        exact ⟨a, m, c, rfl, h3, h1, HB.out⟩)
      clear HO
      go_wp2_with fail
      go_ret
      exact HE.out
    have hil : i < xs.length := by have := HN.out; omega
    obtain ⟨sb, so, hsa, hlb, hcx⟩ := HS.out.els.get i hil
    have HTK := Lib.hid (flat_snoc (fun s : Sv => s.lv.flatMap fileV) xs i hil)
    have HPR := Lib.hid (flat_pre (fun s : Sv => s.lv.flatMap fileV) xs i hil)
    have HOK := Lib.hid (HS.out.ok _ (List.getElem_mem hil))
    generalize xs[i] = s at hcx HTK HPR HOK
    have HLC := Lib.hid (show ∀ (k : Nat) l, s.lv[k]? = some l → ∀ u, Below w.heap.size w u → u.cell? ⟨sb, so + i * 4 + 1 + k, none⟩ = some (lvV l) from fun k l hk u hu => by
      refine (hu.cell (p := ⟨sb, _, none⟩) hlb).trans ?_
      rw [Nat.add_assoc (so + i * 4) 1 k]
      refine hcx (1 + k) _ ?_
      have h3 : s.lv = [s.l0, s.l1, s.l2] := rfl
      rw [h3] at hk
      match k, hk with
      | 0, hk => cases hk; rfl
      | 1, hk => cases hk; rfl
      | 2, hk => cases hk; rfl)
    have i0 : (0 : Int) ≤ (i : Int) := by omega
    have i1 : (i : Int) < (n : Int) := by omega
    have HW1 := Lib.hid (show IntKind.i64.wrap ((i : Int) + 1) = (i : Int) + 1 from IntWalk.i64_in _ (by have := HL.out; omega))
    subst hsa
    clear hcx
    go_upto_region 6 with fail
    obtain ⟨g1, hg1⟩ : ∃ x, x = gk := ⟨_, rfl⟩
    subst hg1
    obtain ⟨ys, hys⟩ : ∃ l, l = (xs.take i).flatMap (fun s => s.lv.flatMap fileV) := ⟨_, rfl⟩
    rw [← hys] at HO HTK HPR
    clear hys
    go_loopg [5, 3] 3 (fun gk kv v3 wr => ∃ (k : Nat) (a : Option Addr) (m c : Nat), k + gk = 3 ∧ kv = .int .i64 k ∧ v3 = .slice a m c ∧ Hid (Vx.OwnU w.heap.size wr (.slice a m c) (ys ++ (s.lv.take k).flatMap fileV)) ∧ Hid (Below w.heap.size w wr))
    case atStart => exact ⟨0, a, m, c, rfl, rfl, rfl, by simpa using HO, HB⟩
    case round =>
      obtain ⟨k, a2, m2, c2, hk, rfl, rfl, HO2, HB2⟩ := hrel
      have hs3 : s.lv.length = 3 := rfl
      by_cases hk3 : k < 3
      case neg =>
        have k1 : ¬ (k : Int) < 3 := by omega
        have HO3 := Lib.hid (show Vx.OwnU w.heap.size wr (.slice a2 m2 c2) ((xs.take (i + 1)).flatMap (fun s => s.lv.flatMap fileV)) from by
          have h1 := HO2.out
          rw [List.take_of_length_le (by omega)] at h1
          rw [HTK.out]
          exact h1)
        have hw1 := HW1.out
        clear HO2
        go_wp2_with fail
        go_roundg (g1 - 1)
        case measure => omega
        case rel => exact ⟨i + 1, a2, m2, c2, by omega, by go_num, rfl, HO3, HB2⟩
      have k0 : (0 : Int) ≤ (k : Int) := by omega
      have k1 : (k : Int) < 3 := by omega
      have hks : k < s.lv.length := by omega
      obtain ⟨l, hl⟩ : ∃ l, s.lv[k]? = some l := ⟨_, List.getElem?_eq_getElem hks⟩
      have hlg : s.lv[k] = l := by rw [List.getElem?_eq_getElem hks] at hl; exact Option.some.inj hl
      have HSN := Lib.hid (show (s.lv.take (k + 1)).flatMap fileV = (s.lv.take k).flatMap fileV ++ fileV l from by rw [flat_snoc fileV s.lv k hks, hlg])
      have HPL := Lib.hid (show ((s.lv.take k).flatMap fileV).length + (fileV l).length ≤ (s.lv.flatMap fileV).length from by rw [← hlg]; exact flat_pre fileV s.lv k hks)
      have HLK := Lib.hid (show LvOk w l from by
        have hm := List.mem_of_getElem? hl
        have h3 : s.lv = [s.l0, s.l1, s.l2] := rfl
        rw [h3] at hm
        simp only [List.mem_cons, List.not_mem_nil, or_false] at hm
        rcases hm with rfl | rfl | rfl
        · exact HOK.out.l0
        · exact HOK.out.l1
        · exact HOK.out.l2)
      obtain ⟨nt, hnt⟩ : ∃ n, n = l.ts.length := ⟨_, rfl⟩
      obtain ⟨ta, hta⟩ : ∃ x, x = l.a := ⟨_, rfl⟩
      have HLV := Lib.hid (show ∀ u, Below w.heap.size w u → u.cell? ⟨sb, so + i * 4 + 1 + k, none⟩ = some (.slice ta nt l.cap) from fun u hu => by rw [hnt, hta]; exact HLC.out k l hl u hu)
      have HNT := Lib.hid hnt
      have HTA := Lib.hid hta
      have HW2 := Lib.hid (show IntKind.i64.wrap ((k : Int) + 1) = (k : Int) + 1 from IntWalk.i64_in _ (by omega))
      clear hl hlg hnt hta hks hs3
      have d1 := HLV.out wr HB2.out
      go_upto_region 9 with fail
      clear d1
      obtain ⟨g2, hg2⟩ : ∃ x, x = gk := ⟨_, rfl⟩
      subst hg2
      obtain ⟨zs, hzs⟩ : ∃ z, z = ys ++ (s.lv.take k).flatMap fileV := ⟨_, rfl⟩
      rw [← hzs] at HO2
      have HZS := Lib.hid hzs
      clear hzs
      go_loopg [6, 3] nt (fun gk tv v3 wr => ∃ (t : Nat) (a : Option Addr) (m c : Nat), t + gk = nt ∧ tv = .int .i64 t ∧ v3 = .slice a m c ∧ Hid (Vx.OwnU w.heap.size wr (.slice a m c) (zs ++ (l.ts.take t).map (fun t => t.file))) ∧ Hid (Below w.heap.size w wr))
      case atStart => exact ⟨0, a2, m2, c2, by omega, rfl, rfl, by simpa using HO2, HB2⟩
      case round =>
        obtain ⟨t, a3, m3, c3, hgt, rfl, rfl, HO3, HB3⟩ := hrel
        have d1 := HLV.out wr HB3.out
        by_cases htt : t < nt
        case neg =>
          have t1 : ¬ (t : Int) < (nt : Int) := by omega
          have HO4 := Lib.hid (show Vx.OwnU w.heap.size wr (.slice a3 m3 c3) (ys ++ (s.lv.take (k + 1)).flatMap fileV) from by
            have h1 := HO3.out
            rw [List.take_of_length_le (by have := HNT.out; omega)] at h1
            rw [HSN.out, ← List.append_assoc, ← HZS.out]
            exact h1)
          have hw2 := HW2.out
          clear HO3
          go_wp2_with fail
          go_roundg (g2 - 1)
          case measure => omega
          case rel => exact ⟨k + 1, a3, m3, c3, by omega, by go_num, rfl, HO4, HB3⟩
        have htl : t < l.ts.length := by have := HNT.out; omega
        obtain ⟨b, o, ha, hlb2, hcx⟩ := HLK.out.tabs.get t htl
        have HTT := Lib.hid (List.take_succ_eq_append_getElem htl)
        generalize l.ts[t] = x at hcx HTT
        have g0 := (HB3.out.cell (p := ⟨b, _, none⟩) hlb2).trans (hcx 0 _ rfl)
        simp only [Nat.add_zero] at g0
        have ha := HTA.out.trans ha
        subst ha
        have t0 : (0 : Int) ≤ (t : Int) := by omega
        have t1 : (t : Int) < (nt : Int) := by omega
        have hw3 : IntKind.i64.wrap ((t : Int) + 1) = (t : Int) + 1 := IntWalk.i64_in _ (by have := HLK.out.le; have := HLK.out.max; have := HNT.out; unfold maxLen at *; omega)
        have hsum : (zs ++ (l.ts.take t).map (fun t => t.file)).length < 1000000 := by
          have h1 := HPR.out
          have h2 := HPL.out
          have h3 := HT.out
          have h4 : (fileV l).length = nt := by unfold fileV; rw [List.length_map, HNT.out]
          have h5 : ((l.ts.take t).map (fun t => t.file)).length = t := by rw [List.length_map, List.length_take]; omega
          rw [List.length_append, h5, HZS.out, List.length_append]
          omega
        obtain ⟨v', w', hr, ho', hb'⟩ := push_u1 x.file HB3.out.size HO3.out hsum
        have HON := Lib.hid (show Vx.OwnU w.heap.size w' v' (zs ++ (l.ts.take (t + 1)).map (fun t => t.file)) from by
          rw [HTT.out, List.map_append, ← List.append_assoc]
          exact ho')
        have HBN := Lib.hid (HB3.out.trans hb')
        obtain ⟨a', c', hv', -, -⟩ := els_of_owns Vx.nu_len HON.out
        obtain ⟨q, hq⟩ : ∃ q, q = (zs ++ (l.ts.take (t + 1)).map (fun t => t.file)).length := ⟨_, rfl⟩
        rw [← hq] at hv'
        clear hq
        subst hv'
        clear hcx hsum ho' hb'
        go_wp2_with (at_builtin; refine Lib.wpList_append_run _ rfl _ _ _ _ rfl _ _ rfl rfl _ _ hr ?_)
        go_roundg (gk - 1)
        case measure => omega
        case rel => exact ⟨t + 1, a', _, c', by omega, by go_num, rfl, HON, HBN⟩
end Go.Proofs.YtchcelodeepjdaaGreatDoor.Ln
