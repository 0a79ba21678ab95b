/- Numbers, texts and roots in bytes, as plain lists. No condition. · varints.groups: its iterator. No condition. · varints.Put. Condition: fewer than 1000000000 bytes. · How tables, shelves and roots are read. No condition. -/
import Derived.Test.YtchcelodeepjdaaGreatDoorU2a
import Derived.Test.YtchcelodeepjdaaGreatDoorLP9
import Derived.Test.YtchcelodeepjdaaGreatDoorOR
namespace Go.Herb
open Go

/-- A number's groups of seven bits, and whether others follow. -/
def grpN (n : Nat) : List (Int × Bool) := if n < 128 then [((n : Int), false)] else (((n % 128 : Nat) : Int), true) :: grpN (n / 128)
termination_by n
decreasing_by omega
theorem grpN_small {n : Nat} (h : n < 128) : grpN n = [((n : Int), false)] := by rw [grpN, if_pos h]
theorem grpN_big {n : Nat} (h : ¬ n < 128) : grpN n = (((n % 128 : Nat) : Int), true) :: grpN (n / 128) := by rw [grpN, if_neg h]
def laidG (x : Int × Bool) : Int := if x.2 then x.1 + 128 else x.1
def putN (n : Nat) : List Int := (grpN n).map laidG
theorem putN_small {n : Nat} (h : n < 128) : putN n = [(n : Int)] := by rw [putN, grpN_small h]; rfl
theorem putN_big {n : Nat} (h : ¬ n < 128) : putN n = (((n % 128 : Nat) : Int) + 128) :: putN (n / 128) := by rw [putN, grpN_big h]; rfl
theorem grpN_mem : ∀ (n : Nat), ∀ x ∈ grpN n, 0 ≤ x.1 ∧ x.1 < 128 := by
  intro n
  induction n using Nat.strongRecOn with
  | ind n ih =>
    intro x hx
    by_cases h : n < 128
    · rw [grpN_small h, List.mem_singleton] at hx
      subst hx
      constructor <;> (dsimp only; omega)
    · rw [grpN_big h] at hx
      rcases List.mem_cons.1 hx with rfl | hx
      · constructor <;> (dsimp only; omega)
      · exact ih _ (by omega) x hx
theorem grpN_len : ∀ (k n : Nat), n < 128 ^ (k + 1) → (grpN n).length ≤ k + 1 := by
  intro k
  induction k with
  | zero =>
    intro n hn
    rw [grpN_small (Nat.lt_of_lt_of_le hn (by decide))]
    simp
  | succ k ih =>
    intro n hn
    by_cases h : n < 128
    · rw [grpN_small h]; simp
    · rw [grpN_big h, List.length_cons]
      have := ih (n / 128) (by rw [Nat.div_lt_iff_lt_mul (by omega)]; rw [Nat.pow_succ] at hn; exact hn)
      omega
theorem grpN_pos (n : Nat) : 0 < (grpN n).length := by
  by_cases h : n < 128
  · rw [grpN_small h]; simp
  · rw [grpN_big h]; simp
theorem putN_len (n : Nat) (h : n < 18446744073709551616) : (putN n).length ≤ 10 := by
  rw [putN, List.length_map]
  exact grpN_len 9 n (Nat.lt_of_lt_of_le h (by decide +kernel))
theorem putN_pos (n : Nat) : 0 < (putN n).length := by rw [putN, List.length_map]; exact grpN_pos n
def strL (s : ByteArray) : List Int := s.data.toList.map (fun b => (b.toNat : Int))
theorem strL_len (s : ByteArray) : (strL s).length = s.size := by unfold strL; rw [List.length_map, Array.length_toList]; rfl
def putT (s : ByteArray) : List Int := putN s.size ++ strL s
def numsL (l : List Int) : List Int := l.flatMap (fun x => putN x.toNat)
def brL (b : Br) : List Int := putT b.1 ++ numsL [b.2.1, b.2.2]
def lnL (l : Ln) : List Int := numsL [l.1, l.2]
def ptL (p : Int × Int) : List Int := numsL [p.1, p.2]
def vcL (v : Int × Bh) : List Int := numsL [v.1, (v.2.length : Int)] ++ v.2.flatMap ptL
def headL (r : Rt) : List Int := numsL [r.seq, r.log, r.next, (r.bs.length : Int)] ++ r.bs.flatMap brL ++ numsL [(r.ls.length : Int)] ++ r.ls.flatMap lnL ++ numsL [(r.vs.length : Int)] ++ r.vs.flatMap vcL
def tbL (t : Tb) : List Int := numsL [t.file, t.bytes] ++ putT t.low ++ putT t.high
def levL (l : List Tb) : List Int := numsL [(l.length : Int)] ++ l.flatMap tbL
def sdL (s : Sd) : List Int := numsL [s.line] ++ s.lv.flatMap levL
def shL (l : List Sd) : List Int := numsL [(l.length : Int)] ++ l.flatMap sdL
def wholeL (r : Rt) : List Int := 1 :: (headL r ++ shL r.sh)
end Go.Herb

namespace Go.Proofs.YtchcelodeepjdaaGreatDoor.Ln
open Go.RowKit Go.Shelf Go.Herb

abbrev encG (x : Int × Bool) : Array Value := #[.int .u8 x.1, .bool x.2]
set_option maxRecDepth 100000 in
set_option maxHeartbeats 1000000 in
theorem groups_kp (n : Nat) (hn : 1 ≤ n) {w : World} {b : Nat} {x : Nat} (hx : x < 18446744073709551616) (hb : w.heap[b]? = some (.cells #[.int .u64 (x : Int)] (26) (0, 0))) :
    SeqKp n Tryz.prog (128) #[.pointer (some ⟨b, 0, none⟩)] b (fun k => k = b) encG (grpN x) w := fun l J W hW hJ hY h0 => by
  refine callsIn_wide.2 ?_
  have hbl := lt_of_blk hb
  have HW := Lib.hid (blk_below hb hW hbl)
  have HJ := Lib.hid hJ
  have HY := Lib.hid hY
  have H0 := Lib.hid h0
  have HSZ := Lib.hid hW.size
  clear hW hJ hY h0 hb
  have hgoal : (#[Value.func (.yield l) #[] #[]] ++ #[.pointer (some ⟨b, 0, none⟩)] : Array Value) = #[Value.func (.yield l) #[] #[], .pointer (some ⟨b, 0, none⟩)] := rfl
  rw [hgoal]
  clear hgoal
  go_enter Tryz.func128, Tryz.ntmps128
  go_wp2_with fail
  go_loopg [13] x (fun y _ wr => ∃ (pre : List (Int × Bool)), y ≤ x ∧ Hid (grpN x = pre ++ grpN y) ∧ Hid (wr.heap[b]? = some (.cells #[.int .u64 (y : Int)] (26) (0, 0))) ∧ Hid (J pre wr) ∧ Hid (w.heap.size ≤ wr.heap.size))
  case atStart => exact ⟨[], Nat.le_refl _, Lib.hid rfl, HW, H0, HSZ⟩
  case round =>
    clear HW H0 HSZ
    obtain ⟨y, rfl⟩ : ∃ y, y = gk := ⟨_, rfl⟩
    obtain ⟨pre, hyx, HG, HB, HJP, HSZ⟩ := hrel
    have hcb := cell_of_blk HB.out 0
    simp at hcb
    have hpre : (pre ++ [((y : Int) % 128, decide ((128 : Int) ≤ (y : Int)))]) <+: grpN x := by
      rw [HG.out]
      by_cases h : y < 128
      · rw [grpN_small h, show decide ((128 : Int) ≤ (y : Int)) = false from decide_eq_false (by omega), show (y : Int) % 128 = (y : Int) from by omega]
        exact List.prefix_refl _
      · rw [grpN_big h, show decide ((128 : Int) ≤ (y : Int)) = true from decide_eq_true (by omega), show (y : Int) % 128 = ((y % 128 : Nat) : Int) from by omega]
        exact ⟨grpN (y / 128), by simp⟩
    have HPRE := Lib.hid hpre
    obtain ⟨fn, tmps, assign, body, hy, hR⟩ := HY.out pre ((y : Int) % 128, decide ((128 : Int) ≤ (y : Int))) wr HJP.out hpre
    dsimp only [encG] at hy
    clear hpre
    refine (wpIn_wide (n := n)).1 ?_
    gi_wp2
    refine hR.mono ?_
    rintro e W3 ⟨rfl, hJ3, hK3⟩
    have hB3 : W3.heap[b]? = some (.cells #[.int .u64 (y : Int)] (26) (0, 0)) := (hK3.kept b rfl).trans HB.out
    have hc3 := cell_of_blk hB3 0
    have hf3 := frozen_of_blk hB3 0
    simp at hc3
    have HB3 := Lib.hid hB3
    have HJ3 := Lib.hid hJ3
    have HZ3 := Lib.hid (Nat.le_trans HSZ.out hK3.size)
    clear hy hR hcb hB3 hJ3 hK3
    by_cases hlt : y < 128
    · have hd : decide ((128 : Int) ≤ (y : Int)) = false := decide_eq_false (by omega)
      have hd2 : ¬ (128 : Int) ≤ (y : Int) := by omega
      have HE := Lib.hid (show J (grpN x) W3 from by
        have h := HJ3.out
        rw [hd, show (y : Int) % 128 = (y : Int) from by omega] at h
        rw [HG.out, grpN_small hlt]
        exact h)
      clear hlt
      gi_wp2
      go_end0
      exact ⟨⟨_, rfl⟩, HE.out⟩
    · have hd : decide ((128 : Int) ≤ (y : Int)) = true := decide_eq_true (by omega)
      have hd2 : (128 : Int) ≤ (y : Int) := by omega
      have HG2 := Lib.hid (show grpN x = (pre ++ [((y : Int) % 128, decide ((128 : Int) ≤ (y : Int)))]) ++ grpN (y / 128) from by
        rw [HG.out, grpN_big hlt, hd, show (y : Int) % 128 = ((y % 128 : Nat) : Int) from by omega]
        simp)
      have HB4 := Lib.hid (show (W3.setCell ⟨b, 0, none⟩ (.int .u64 ((y : Int) / 128))).heap[b]? = some (.cells #[.int .u64 ((y / 128 : Nat) : Int)] (26) (0, 0)) from by
        have h := blk_setCell (j := 0) HB3.out (.int .u64 ((y : Int) / 128))
        rw [show ((y / 128 : Nat) : Int) = (y : Int) / 128 from by omega]
        exact h)
      have HJ4 := Lib.hid (HJ.out _ _ _ HJ3.out (TurnI.setCell (j := 0) (.int .u64 ((y : Int) / 128))))
      have HZ4 := Lib.hid (show w.heap.size ≤ (W3.setCell ⟨b, 0, none⟩ (.int .u64 ((y : Int) / 128))).heap.size from by rw [World.size_setCell]; exact HZ3.out)
      gi_wp2
      go_roundg (y / 128)
      case measure => omega
      case rel => exact ⟨_, by omega, HG2, HB4, HJ4, HZ4⟩
theorem groups_any (x : Int) (w : World) : Calls Tryz.prog 105 #[.int .u64 x] w fun e w' => e = .returned (.func (.func 128) #[] #[.pointer (some ⟨w.heap.size, 0, none⟩)]) ∧ w' = w.alloc (.cells #[.int .u64 x] (26)) := by
  go_enter Tryz.func105, Tryz.ntmps105
  go_wp2
  go_ret
  exact ⟨rfl, rfl⟩
theorem clipB_any (a : Option Addr) (cap n : Nat) (w : World) (hn : a = none → n = 0 ∧ cap = 0) (hl : n < 1000000000) (hle : n ≤ cap) (hm : cap ≤ maxLen) :
    Calls Tryz.prog 106 #[.slice a n cap] w fun e w' => e = .returned (.slice a n n) ∧ w = w' := by
  cases a with
  | none =>
    obtain ⟨rfl, rfl⟩ := hn rfl
    clear hn
    go_enter Tryz.func106, Tryz.ntmps106
    go_wp2
    go_ret
    exact ⟨rfl, rfl⟩
  | some ad =>
    clear hn
    unfold maxLen at hm
    go_enter Tryz.func106, Tryz.ntmps106
    go_wp2
    go_ret
    exact ⟨rfl, rfl⟩
def nb (x : Int) : List Value := [.int .u8 x]
theorem nb_len (x : Int) : (nb x).length = 1 := rfl
theorem infoB8 : (Tryz.prog.info? (5)).map (fun i => (i.zero, i.size, i.bytes)) = some (some (.int .u8 0), 1, 1) := by kernel_rfl
/-- Bytes of one's own. -/
abbrev OwnB (B : Nat) (w : World) (v : Value) (ys : List Int) : Prop := w.ownsRow B (5) 1 v ys.length (ys.flatMap nb)
abbrev Byt (w : World) (a : Option Addr) (xs : List Int) : Prop := Els nb 1 w a xs
theorem run_append_b (w : World) (B : Nat) (v : Value) (ys : List Int) (ad : Addr) (n c : Nat) (xs : List Int) (hn : xs.length = n) (ho : OwnB B w v ys) (hb : Byt w (some ad) xs) (hx : ys.length + n < 1000000000) (hB : B ≤ w.heap.size) (ty : TypeId) :
    ∃ v' w', (Builtin.append_ #[(24), (24)] ty #[v, .slice (some ad) n c]).run Tryz.prog w = .ok v' w' ∧ OwnB B w' v' (ys ++ xs) ∧ w.grownBy w' v.ownBlock := by
  obtain ⟨i0, hin, hz0, hz1, hz2⟩ := info_parts infoB8
  obtain ⟨v', w', hr, h2, h3, h4⟩ := run_append_own (P := Tryz.prog) w B (24) ty (5) i0 _ 1 1 Tryz.underlying24 hin hz0 hz1 hz2 rfl (by decide) v ys.length (ys.flatMap nb) ho ad n c (xs.flatMap nb) (by rw [flatMap_len nb_len, hn, Nat.mul_one]) (hb.flat nb_len (by decide)) (by intro v hv; obtain ⟨x, -, hx⟩ := List.mem_flatMap.1 hv; simp [nb] at hx; subst hx; rfl) (by unfold maxLen; omega) (by omega) hB
  refine ⟨v', w', hr, ?_, h3⟩
  unfold OwnB
  rw [List.length_append, List.flatMap_append, hn]
  exact h2
theorem nb_flat_one (xs : List Int) : ∀ u ∈ xs.flatMap nb, u.oneCell' = true := by
  intro u hu
  obtain ⟨x, -, hx⟩ := List.mem_flatMap.1 hu
  simp [nb] at hx
  subst hx
  rfl
set_option maxHeartbeats 400000 in
theorem cloneB_any (a : Option Addr) (cap n : Nat) (xs : List Int) (w : World) (hx : Byt w a xs) (hn : xs.length = n) (hl : n < 1000000000) (h0 : a = none → cap = 0) :
    Calls Tryz.prog (104) #[.slice a n cap] w fun e w' => ∃ v, e = .returned v ∧ OwnB w.heap.size w' v xs ∧ Below w.heap.size w w' := by
  obtain ⟨i0, hi, hz0, hz1, hz2⟩ := info_parts infoB8
  have hqn := @Lib.run_eql_slice_nil Tryz.prog
  have HN := Lib.hid hn
  cases a with
  | none =>
    have h1 : xs = [] := by
      cases xs with
      | nil => rfl
      | cons x xs => obtain ⟨b, o, h, _⟩ := hx.get 0 (by simp); cases h
    subst h1
    subst hn
    clear hx h0 HN
    go_enter Tryz.func104, Tryz.ntmps104
    go_wp2
    go_ret
    exact ⟨_, rfl, World.ownsRow_nil _ _ _ _, Below.refl _ _⟩
  | some ad =>
    have hfl := Els.flat hx nb_len (by decide)
    have HF := Lib.hid hfl
    clear h0 hx hfl hn
    go_enter Tryz.func104, Tryz.ntmps104
    go_wp2_with ((at_builtin; refine wpList_append_own _ rfl _ _ (24) rfl w.heap.size (5) i0 _ 1 1 Tryz.underlying24 hi hz0 hz1 hz2 rfl (by decide) _ _ _ rfl (World.ownsRow_made w #[] 0 (Nat.le_refl _) (by decide) rfl) ad n cap (xs.flatMap nb) rfl ((flatMap_len nb_len xs).trans (by rw [HN.out])) ?c1 ?c2 ?c3 ?c4 ?c5 ?_))
    case c1 => exact fun j u hu => cell_past (HF.out j u hu)
    case c2 => exact nb_flat_one xs
    case c3 => unfold maxLen; omega
    case c4 => omega
    case c5 => simp
    intro v' w2 hO2 hg _
    have hB2 : Below w.heap.size w w2 := ((Below.refl _ _).alloc (Nat.le_refl _) _).grown hg (by simp) (fun k hk => by simp [Value.ownBlock] at hk; omega)
    clear hg HF
    go_wp2
    go_ret
    exact ⟨_, rfl, by unfold OwnB; rw [HN.out]; simpa using hO2, hB2⟩
end Go.Proofs.YtchcelodeepjdaaGreatDoor.Ln

namespace Go.Proofs.YtchcelodeepjdaaGreatDoor.Ln
open Go.RowKit Go.Shelf Go.Herb
attribute [local go_sem] Oper.semAt_some

theorem append_block {w w' : World} {B : Nat} {v v' : Value} {ys xs : List Int} {ad : Addr} {n c : Nat} {ty : TypeId} (hr : (Builtin.append_ #[(24), (24)] ty #[v, .slice (some ad) n c]).run Tryz.prog w = .ok v' w') (hn : xs.length = n) (ho : OwnB B w v ys) (hb : Byt w (some ad) xs) (hx : ys.length + n < 1000000000) (h0 : 0 < n) :
    ∀ k, v'.ownBlock = some k → v.ownBlock = some k ∨ w.heap.size ≤ k := by
  obtain ⟨i0, hin, hz0, hz1, hz2⟩ := info_parts infoB8
  have hfl := hb.flat nb_len (by decide)
  have hxl : (xs.flatMap nb).length = n * i0.size := by rw [flatMap_len nb_len, hn, hz1]
  have hyl : (ys.flatMap nb).length = ys.length * i0.size := by rw [flatMap_len nb_len, hz1]
  obtain ⟨hl1, h | ⟨g, cap, cur, rfl, hbg, hg, hle, hcm, hcs, htk⟩⟩ := ho
  · obtain ⟨rfl, hl⟩ := h
    have hr2 := run_append_nil (P := Tryz.prog) w (24) ty (5) i0 _ Tryz.underlying24 hin hz0 ad n c (xs.flatMap nb) hxl hfl h0 (by omega) (by rw [hz2]; omega)
    rw [hr] at hr2
    injection hr2 with e1 e2
    intro k hk
    rw [e1] at hk
    simp [Value.ownBlock] at hk
    exact .inr (by omega)
  · by_cases hroom : ys.length + n ≤ cap
    · have hr2 := run_append_room (P := Tryz.prog) w (24) ty (5) i0 Tryz.underlying24 hin g ys.length cap cur hg ad n c (xs.flatMap nb) hxl hfl (nb_flat_one xs) hroom (by rw [hxl, hcs, hz1, Nat.mul_one, Nat.mul_one, Nat.mul_one]; omega)
      rw [hr] at hr2
      injection hr2 with e1 e2
      intro k hk
      rw [e1] at hk
      exact .inl hk
    · have holds : ∀ j u, (ys.flatMap nb)[j]? = some u → w.cell? ((⟨g, 0, none⟩ : Addr).add j) = some u := World.ownsRow.cells (g := g) (show OwnB B w (.slice (some ⟨g, 0, none⟩) ys.length cap) ys from ⟨hl1, .inr ⟨g, cap, cur, rfl, hbg, hg, hle, hcm, hcs, htk⟩⟩) rfl
      have hr2 := run_append_grow (P := Tryz.prog) w (24) ty (5) i0 _ Tryz.underlying24 hin hz0 ⟨g, 0, none⟩ ys.length cap (ys.flatMap nb) hyl holds ad n c (xs.flatMap nb) hxl hfl (by omega) (by omega) (growslice_fits (by omega) (by rw [hz2]; omega))
      rw [hr] at hr2
      injection hr2 with e1 e2
      intro k hk
      rw [e1] at hk
      simp [Value.ownBlock] at hk
      exact .inr (by omega)

theorem or128 (y : Int) (h : 0 ≤ y ∧ y < 128) : bits BinOp.or IntKind.u8 y 128 = y + 128 := by
  obtain ⟨k, rfl⟩ : ∃ k : Nat, y = k := ⟨y.toNat, by omega⟩
  have hall : ∀ k : Fin 128, bits BinOp.or IntKind.u8 (k.val : Int) 128 = (k.val : Int) + 128 := by decide +kernel
  exact hall ⟨k, by omega⟩
/-- New bytes, in a block that may be written. -/
def FreshB (a : Option Addr) (B : Nat) (w : World) : Prop := ∀ ad, a = some ad → B ≤ ad.block ∧ ∃ cs, w.heap[ad.block]? = some (.cells cs (5) (0, 0))
theorem own_fresh {B B' n c : Nat} {w : World} {a : Option Addr} {xs : List Int} (h : OwnB B w (.slice a n c) xs) (hB : B' ≤ B) : FreshB a B' w := fun ad had => by
  obtain ⟨_, h2 | ⟨g, c', cur, hv, hg, hh, _⟩⟩ := h
  · obtain ⟨h3, -⟩ := h2
    rw [had] at h3
    cases h3
  · rw [had] at hv
    cases hv
    exact ⟨Nat.le_trans hB hg, _, hh⟩
/-- What Put answers: bytes in new memory, no room behind them. -/
def BytPost (ys : List Int) (w : World) (e : Ending) (w' : World) : Prop := ∃ a, e = .returned (.slice a ys.length ys.length) ∧ Byt w' a ys ∧ (a = none → ys = []) ∧ FreshB a w.heap.size w' ∧ Below w.heap.size w w'
theorem ownB_turn {B b N : Nat} {A C : World} {v : Value} {xs : List Int} (h : OwnB B A v xs) (ht : Turn b N A C) (hb : v.ownBlock ≠ some b) : OwnB B C v xs := by
  obtain ⟨h1, h2⟩ := h
  refine ⟨h1, ?_⟩
  rcases h2 with h2 | ⟨g, cap, cur, hv, hg, hh, hr⟩
  · exact .inl h2
  · exact .inr ⟨g, cap, cur, hv, hg, ht.kept g _ hh (fun e => hb (by rw [hv, ← e]; rfl)) (.inr rfl), hr⟩
theorem ownB_cells {B k : Nat} {w : World} {v : Value} {xs : List Int} {o : Obj} (h : OwnB B w v xs) (hk : w.heap[k]? = some o) (ho : o.isCells = false) : some k ≠ v.ownBlock := by
  intro e
  obtain ⟨_, h2 | ⟨g, cap, cur, hv, hg, hh, _⟩⟩ := h
  · rw [h2.1] at e; cases e
  · rw [hv] at e
    injection e with e
    have e : k = g := e
    subst e
    rw [hk] at hh
    injection hh with hh
    rw [hh] at ho
    cases ho
set_option maxRecDepth 100000 in
set_option maxHeartbeats 1000000 in
theorem put_in (a : Option Addr) (cap n : Nat) (xs : List Int) (x : Nat) (w : World) (hb : Byt w a xs) (hn : xs.length = n) (hl : n < 900000000) (h0 : a = none → cap = 0) (hx : x < 18446744073709551616) :
    CallsIn Fence.wide 5 Tryz.prog (79) #[.slice a n cap, .int .u64 (x : Int)] w (BytPost (xs ++ putN x) w) := by
  obtain ⟨w1, hw1⟩ : ∃ w1 : World, w1 = w.alloc (.cells #[.slice a n cap] (24)) := ⟨_, rfl⟩
  have hB1 : Below w.heap.size w w1 := by rw [hw1]; exact balc (Below.refl _ _)
  have hs1 : w1.heap.size = w.heap.size + 1 := by rw [hw1]; simp
  have hp1 : w1.heap[w.heap.size]? = some (.cells #[.slice a n cap] (24) (0, 0)) := by rw [hw1]; exact blk_new_at rfl _
  have HCL := Lib.hid (cloneB_any a cap n xs w1 (hb.ext hB1) hn (by omega) h0)
  rw [hw1] at HCL
  refine callsIn_of_wp_marks Tryz.func79 rfl trivial ?_ rfl
  simp only [Tryz.ntmps79, List.size_toArray, List.length_cons, List.length_nil, Nat.reduceAdd, Nat.reduceSub, Array.replicate_succ, Array.replicate_zero, List.push_toArray, List.append_toArray, List.nil_append, List.cons_append]
  have c0 := cell_of_blk hp1 0
  have f0 := frozen_of_blk hp1 0
  rw [hw1] at c0 f0
  simp at c0 f0
  gi_wp2_with (refine ⟨trivial, ?_⟩; gi_at_call 104; refine (callsIn_wide.2 HCL.out).mono ?_; rintro e w2 ⟨v0, rfl, hO2, hB2⟩; rw [← hw1] at hO2 hB2; obtain ⟨a9, c9, hv9, -, -⟩ := els_of_owns nb_len hO2; rw [hn] at hv9; subst hv9; have hp2 := blk_below hp1 hB2 (lt_of_blk hp1); have c2 := cell_of_blk hp2 0; have f2 := frozen_of_blk hp2 0; simp at c2)
  gi_wp2_with (refine ⟨trivial, ?_⟩; gi_at_call 105; refine (callsIn_wide.2 (groups_any _ _)).mono ?_; rintro e w' ⟨rfl, rfl⟩)
  clear c0 f0 c2 f2 HCL
  obtain ⟨w3, hw3⟩ : ∃ w3 : World, w3 = w2.setCell ⟨w.heap.size, 0, none⟩ (.slice a9 n c9) := ⟨_, rfl⟩
  have hz3 : w3.heap.size = w2.heap.size := by rw [hw3, World.size_setCell]
  have hp3 : w3.heap[w.heap.size]? = some (.cells #[.slice a9 n c9] (24) (0, 0)) := by rw [hw3]; exact blk_setCell hp2 _
  have hO3 : OwnB w1.heap.size w3 (.slice a9 n c9) xs := by rw [hw3]; exact ownsRow_setCell_below (a := ⟨w.heap.size, 0, none⟩) hO2 (by show w.heap.size < w1.heap.size; omega) _
  have hB3 : Below w.heap.size w w3 := by rw [hw3]; exact (hB1.trans (hB2.mono hB1.size)).setCell (Nat.le_refl _) _
  have hne3 : (Value.slice a9 n c9).ownBlock ≠ some w2.heap.size := fun e => by have := (World.ownsRow.lt hO2 _ e).2; omega
  have hs2 : w1.heap.size ≤ w2.heap.size := hB2.size
  rw [← hw3]
  clear hw3 hp2 hO2 hB2 hp1
  obtain ⟨w4, hw4⟩ : ∃ w4 : World, w4 = w3.alloc (.cells #[.int .u64 (x : Int)] (26)) := ⟨_, rfl⟩
  have hz4 : w4.heap.size = w2.heap.size + 1 := by rw [hw4]; simp [hz3]
  have hB34 : Below w3.heap.size w3 w4 := by rw [hw4]; exact balc (Below.refl _ _)
  have hx4 : w4.heap[w2.heap.size]? = some (.cells #[.int .u64 (x : Int)] (26) (0, 0)) := by rw [hw4]; exact blk_new_at hz3.symm _
  have hp4 := blk_below hp3 hB34 (lt_of_blk hp3)
  have hO4 : OwnB w1.heap.size w4 (.slice a9 n c9) xs := ownsRow_below hO3 hB34 (Nat.le_refl _)
  have hB4 : Below w.heap.size w w4 := hB3.trans (hB34.mono hB3.size)
  have HSQ := Lib.hid (groups_kp 4 (by omega) hx hx4)
  have HGL := Lib.hid (show (grpN x).length ≤ 10 from grpN_len 9 x (Nat.lt_of_lt_of_le hx (by decide +kernel)))
  rw [← hw4]
  clear hw4 hB34 hx4 hp3 hO3 hB3
  refine wpIn_range_kp (n := 5) (gf := 128) (lb := #[.pointer (some ⟨w2.heap.size, 0, none⟩)]) rfl (enters_of Tryz.func128 (by kernel_rfl) rfl) (encs := encG) (fun _ => rfl) (grpN x) (b := w2.heap.size) (kp := fun k => k = w2.heap.size) (fun k hk => by rw [hk]; omega) (by omega) HSQ.out
    (fun pre W => ∃ v, W.heap[w.heap.size]? = some (.cells #[v] (24) (0, 0)) ∧ OwnB w1.heap.size W v (xs ++ pre.map laidG) ∧ v.ownBlock ≠ some w2.heap.size ∧ Below w.heap.size w W ∧ w4.heap.size ≤ W.heap.size)
    (fun pre A B hi ht => by
      obtain ⟨v, hv, hO, hne, hb, hsz⟩ := hi
      exact ⟨v, ht.kept _ _ hv (by omega) (.inl (by omega)), ownB_turn hO ht hne, hne, ht.below hb (by omega) (by omega) (Nat.le_refl _), Nat.le_trans hsz ht.size⟩)
    ⟨_, hp4, by simpa using hO4, hne3, hB4, Nat.le_refl _⟩
    (fun y => { tmps := #[.slice a n cap, .int .u64 (x : Int), .pointer (some ⟨w.heap.size, 0, none⟩), undef, .slice none 0 0, .int .u8 y.1, .bool y.2, .slice a n cap, .slice a9 n c9, .int .u64 (x : Int), .func (.func 128) #[] #[.pointer (some ⟨w2.heap.size, 0, none⟩)], .int .u8 y.1, .bool y.2, undef, undef, undef, undef, undef, undef, undef, undef, undef], defers := [] }) ?assign ?body ?done
  case assign =>
    intro l x W K hK
    gi_wp2
    exact hK
  case body =>
    rintro l pre y W ⟨v, hv, hO, hne, hB, hNW⟩ hpre
    have hc := cell_of_blk hv 0
    simp at hc
    have hpl : pre.length ≤ 10 := by
      have h1 := hpre.length_le
      have h2 := HGL.out
      rw [List.length_append, List.length_singleton] at h1
      omega
    have hym := grpN_mem x y (hpre.subset (by simp))
    obtain ⟨y1, y2⟩ := y
    obtain ⟨z, hz⟩ : ∃ z, z = laidG (y1, y2) := ⟨_, rfl⟩
    obtain ⟨X, hX⟩ : ∃ X : World, X = W.alloc (.cells #[.int .u8 z] (5)) := ⟨_, rfl⟩
    have hBX : Below W.heap.size W X := by rw [hX]; exact (Below.refl _ _).alloc (Nat.le_refl _) _
    have hXs : X.heap.size = W.heap.size + 1 := by rw [hX]; simp
    have hOX := ownsRow_below hO hBX (Nat.le_refl _)
    have hEz : Byt X (some ⟨W.heap.size, 0, none⟩) [z] := ⟨fun i hi => by
      have hi0 : i = 0 := by simp at hi; omega
      subst hi0
      refine ⟨W.heap.size, 0, rfl, by omega, fun j c hj => ?_⟩
      rw [hX, cell_new]
      simpa [nb] using hj⟩
    have hlen : (xs ++ pre.map laidG).length + 1 < 1000000000 := by rw [List.length_append, List.length_map]; omega
    obtain ⟨v', w', hr, hO', hg⟩ := run_append_b X w1.heap.size v (xs ++ pre.map laidG) ⟨W.heap.size, 0, none⟩ 1 1 [z] rfl hOX hEz hlen (by omega) (24)
    have hblk := append_block hr rfl hOX hEz hlen (by omega)
    have hne' : v'.ownBlock ≠ some w2.heap.size := fun e => by
      rcases hblk _ e with h | h
      · exact hne h
      · omega
    have hown : ∀ k, v.ownBlock = some k → w1.heap.size ≤ k := fun k e => (World.ownsRow.lt hO _ e).1
    have hv' : w'.heap[w.heap.size]? = some (.cells #[v] (24) (0, 0)) := (hg.block _ (lt_of_blk (blk_below hv hBX (lt_of_blk hv))) (fun e => by have := hown _ e.symm; omega)).trans (blk_below hv hBX (lt_of_blk hv))
    have hcw := cell_of_blk hv' 0
    have hfw := frozen_of_blk hv' 0
    simp at hcw
    have hsX := hBX.size
    have hsg := hg.size
    obtain ⟨a', cap', hvv, -, -⟩ := els_of_owns nb_len hO'
    have HE := Lib.hid (show ∀ u : Value, (w'.setCell ⟨w.heap.size, 0, none⟩ u).heap[w2.heap.size]? = W.heap[w2.heap.size]? ∧ (∀ (k : Nat) (o : Obj), w4.heap.size ≤ k → W.heap[k]? = some o → o.isCells = false → (w'.setCell ⟨w.heap.size, 0, none⟩ u).heap[k]? = some o) ∧ Below w.heap.size w (w'.setCell ⟨w.heap.size, 0, none⟩ u) from fun u => by
      refine ⟨?_, fun k o hk ho hoc => ?_, ?_⟩
      · rw [Below.heap_setCell _ _ _ _ (by show w2.heap.size ≠ w.heap.size; omega), hg.block w2.heap.size (by omega) (fun e => hne e.symm), hBX.block w2.heap.size (by omega)]
      · exact blk_setCell_other ((hg.block k (by have := lt_of_blk ho; omega) (ownB_cells hO ho hoc)).trans (blk_below ho hBX (lt_of_blk ho))) (by show k ≠ w.heap.size; omega) _
      · exact ((hB.trans (hBX.mono hB.size)).grown hg (by have := hB.size; omega) (fun k e => by have := hown _ e; omega)).setCell (Nat.le_refl _) _)
    have HO2 := Lib.hid (show ∀ u : Value, OwnB w1.heap.size (w'.setCell ⟨w.heap.size, 0, none⟩ u) v' (xs ++ (pre ++ [(y1, y2)]).map laidG) from fun u => by
      have h := ownsRow_setCell_below (a := ⟨w.heap.size, 0, none⟩) hO' (by show w.heap.size < w1.heap.size; omega) u
      rw [List.map_append, ← List.append_assoc]
      rw [hz] at h
      exact h)
    have HV' := Lib.hid hv'
    have HNE := Lib.hid hne'
    have HFIN := Lib.hid (show w'.heap.size ≥ w4.heap.size ∧ W.heap.size ≤ w'.heap.size from ⟨by omega, by omega⟩)
    rw [hX] at hr
    subst hvv
    clear hX hO' hO hg hB hown hblk hOX hEz hne hne' hv'
    have hfin : ∀ (ac : Act) (u : Value), u = .slice a' (xs ++ pre.map laidG ++ [z]).length cap' → kpPost w4.heap.size (fun k => k = w2.heap.size) (fun pre W => ∃ v, W.heap[w.heap.size]? = some (.cells #[v] (24) (0, 0)) ∧ OwnB w1.heap.size W v (xs ++ pre.map laidG) ∧ v.ownBlock ≠ some w2.heap.size ∧ Below w.heap.size w W ∧ w4.heap.size ≤ W.heap.size) (pre ++ [(y1, y2)]) W .normal ac (w'.setCell ⟨w.heap.size, 0, none⟩ u) := fun ac u hu => by
      obtain ⟨e1, e2, e3⟩ := HE.out u
      have hh := HFIN.out
      rw [← hu] at HO2 HNE
      exact ⟨⟨by rw [World.size_setCell]; exact hh.2, fun k hk => by rw [hk]; exact e1⟩, e2, u, blk_setCell HV'.out _, HO2.out u, HNE.out, e3, by rw [World.size_setCell]; exact hh.1⟩
    have HEND := Lib.hid hfin
    clear hfin HE HO2 HNE HFIN hz4 hs1 hXs hz3 hw1
    obtain ⟨Lz, hLz⟩ : ∃ Lz, Lz = (xs ++ pre.map laidG ++ [z]).length := ⟨_, rfl⟩
    rw [← hLz] at HEND hr
    have HLZ := Lib.hid hLz
    clear hLz
    cases y2
    · have hzy : z = y1 := hz
      subst hzy
      clear hz
      gi_wp2_with (gi_at_builtin; refine wpListIn_append_run _ rfl _ _ _ _ rfl _ _ rfl rfl _ _ hr ?_)
      exact HEND.out _ _ rfl
    · have hor : bits BinOp.or IntKind.u8 y1 128 = z := by rw [or128 _ hym, hz]; rfl
      clear hz
      gi_wp2_with (gi_at_builtin; refine wpListIn_append_run _ rfl _ _ _ _ rfl _ _ rfl rfl _ _ hr ?_)
      exact HEND.out _ _ rfl
  case done =>
    rintro W ⟨v, hv, hO, hne, hB, hNW⟩ hK
    have HGL2 := Lib.hid (show (xs ++ putN x).length ≤ n + 10 from by rw [List.length_append, hn]; have := putN_len x hx; omega)
    have hO' : OwnB w1.heap.size W v (xs ++ putN x) := hO
    obtain ⟨k, hk⟩ : ∃ k, k = xs ++ putN x := ⟨_, rfl⟩
    rw [← hk] at hO' HGL2 ⊢
    obtain ⟨q, hq⟩ : ∃ q, q = k.length := ⟨_, rfl⟩
    obtain ⟨a8, c8, hv8, hle, hE⟩ := els_of_owns nb_len hO'
    have hform : (a8 = none → k.length = 0 ∧ c8 = 0) ∧ c8 ≤ maxLen := by
      obtain ⟨_, h2 | ⟨g, c, cur, hv, hg, hh, _, hm, _⟩⟩ := hO'
      · obtain ⟨h3, h4⟩ := h2
        rw [hv8] at h3
        injection h3 with h3 h5 h6
        exact ⟨fun _ => ⟨h5, h6⟩, by rw [h6]; unfold maxLen; omega⟩
      · rw [hv8] at hv
        injection hv with h3 h5 h6
        subst h6
        exact ⟨fun h => by rw [h3] at h; (cases h), hm⟩
    rw [← hq] at hv8 hform hle
    subst hv8
    have hc := cell_of_blk hv 0
    have hf := frozen_of_blk hv 0
    simp at hc
    have HQ := Lib.hid hq
    have HCLP := Lib.hid (clipB_any a8 c8 q W hform.1 (by have := HGL2.out; omega) hle hform.2)
    have HKK := Lib.hid hk
    have HOO := Lib.hid (show OwnB w1.heap.size W (.slice a8 q c8) k from hO')
    have HEN := Lib.hid (show a8 = none → k = [] from fun h => List.length_eq_zero_iff.1 (by rw [← hq]; exact (hform.1 h).1))
    clear hO hO' hv hk hform hle hq
    gi_wp2_with (refine ⟨trivial, ?_⟩; gi_at_call 106; refine (callsIn_wide.2 HCLP.out).mono ?_; rintro e w5 ⟨rfl, rfl⟩)
    rw [hz4] at hK
    refine ⟨by simp, .inl ⟨_, _, rfl, run_takeDeferred hK, ?_⟩⟩
    have hB5 := belowK_b (w := w) (Nat.le_refl _) W (w2.heap.size + 1) _ (.deferred none) (by omega) hK rfl rfl
    have hO3 := ownsRow_putObj HOO.out (.deferred none) hK rfl
    refine ⟨_, results_tmp rfl _ _ _, ?_⟩
    rw [← HKK.out]
    obtain ⟨a7, c7, hv7, -, hE7⟩ := els_of_owns nb_len hO3
    rw [← HQ.out] at hv7
    cases hv7
    have HQQ := HQ.out
    exact ⟨a8, by rw [← HQQ]; rfl, hE7, HEN.out, own_fresh hO3 (by omega), hB.trans hB5⟩
theorem put_any (a : Option Addr) (cap n : Nat) (xs : List Int) (x : Nat) (w : World) (hb : Byt w a xs) (hn : xs.length = n) (hl : n < 900000000) (h0 : a = none → cap = 0) (hx : x < 18446744073709551616) :
    Calls Tryz.prog (79) #[.slice a n cap, .int .u64 (x : Int)] w (BytPost (xs ++ putN x) w) :=
  (callsIn_wide (n := 5)).1 (put_in a cap n xs x w hb hn hl h0 hx)
end Go.Proofs.YtchcelodeepjdaaGreatDoor.Ln

namespace Go.Proofs.YtchcelodeepjdaaGreatDoor.Ln
open Go.ChangeShapes Go.WideShapes Go.ChangeAt Go.RowKit Go.Herb Go.Deep

section
variable {H : Type} {enc : TypeId × Value → H} {w : World}
theorem u32_wf {x : Int} (h : (Lit.int .u32 x).wf = true) : 0 ≤ x ∧ x < 4294967296 := by
  simp [Lit.wf, IntKind.min, IntKind.max, IntKind.signed, IntKind.bits] at h
  omega
set_option maxRecDepth 100000 in
theorem rd_tables {fuel : Nat} {cs : List Value} {x : DataW H × List MemPlace} (h : DataW.trod enc Tryz.prog w 0 (fun _ => true) true fuel (54) cs = some x) :
    ∃ l : Lv, cs = [lvV l] ∧ LvOk w l := by
  have hfs : Tryz.prog.underlying (51) = some (.struct (Tryz.prog.fieldsOf (51))) := by kernel_rfl
  rcases open_slice_fields Tryz.underlying54 hfs (by kernel_rfl) (by kernel_rfl) h with h0 | ⟨a, len, cap, hcs, hl, hm, hi⟩
  · exact ⟨⟨none, 0, []⟩, h0, ⟨Els.nil _ _ _ _, fun _ => rfl, Nat.le_refl _, by unfold maxLen; decide, by simp⟩⟩
  · obtain ⟨xs, hlen, hq, hE⟩ := els_of_cells (enc := tbc) (s := 4) (w := w) (a := a) (Q := fun t : Tb => TbW t) len (fun _ => by simp [tbc]) (fun i hil => by
      obtain ⟨n, hj⟩ := hi i hil
      have hsz : (Tryz.prog.fieldsOf (51)).size = 4 := by kernel_rfl
      rw [hsz] at hj
      obtain ⟨v0, y0, c0, e0⟩ := fieldAt (Q := fun j t => ∃ v y, w.cell? (a.add (i * 4 + j)) = some v ∧ DataW.trod enc Tryz.prog w 0 (fun _ => true) true n t [v] = some y) hj 0 (26) (by kernel_rfl)
      obtain ⟨v1, y1, c1, e1⟩ := fieldAt (Q := fun j t => ∃ v y, w.cell? (a.add (i * 4 + j)) = some v ∧ DataW.trod enc Tryz.prog w 0 (fun _ => true) true n t [v] = some y) hj 1 (49) (by kernel_rfl)
      obtain ⟨v2, y2, c2, e2⟩ := fieldAt (Q := fun j t => ∃ v y, w.cell? (a.add (i * 4 + j)) = some v ∧ DataW.trod enc Tryz.prog w 0 (fun _ => true) true n t [v] = some y) hj 2 (9) (by kernel_rfl)
      obtain ⟨v3, y3, c3, e3⟩ := fieldAt (Q := fun j t => ∃ v y, w.cell? (a.add (i * 4 + j)) = some v ∧ DataW.trod enc Tryz.prog w 0 (fun _ => true) true n t [v] = some y) hj 3 (9) (by kernel_rfl)
      obtain ⟨n0, hn0, _, w0⟩ := DataW.trod_int Tryz.underlying26 e0
      obtain ⟨n1, hn1, _, w1⟩ := DataW.trod_int Tryz.underlying49 e1
      obtain ⟨n2, hn2, _, w2⟩ := DataW.trod_string Tryz.underlying9 e2
      obtain ⟨n3, hn3, _, w3⟩ := DataW.trod_string Tryz.underlying9 e3
      simp only [List.cons.injEq, and_true] at hn0 hn1 hn2 hn3
      subst hn0 hn1 hn2 hn3
      refine ⟨⟨n0, n1, n2, n3⟩, ⟨w0, u32_wf w1, w2, w3⟩, fun j c hj => ?_⟩
      match j, hj with
      | 0, hj => simp [tbc] at hj; subst hj; exact c0
      | 1, hj => simp [tbc] at hj; subst hj; exact c1
      | 2, hj => simp [tbc] at hj; subst hj; exact c2
      | 3, hj => simp [tbc] at hj; subst hj; exact c3
      | j + 4, hj => simp [tbc] at hj)
    subst hlen
    exact ⟨⟨some a, cap, xs⟩, hcs, ⟨hE, (fun h => by cases h), hl, hm, hq⟩⟩
set_option maxRecDepth 100000 in
theorem rd_shelf {fuel : Nat} {cs : List Value} {x : DataW H × List MemPlace} (h : DataW.trod enc Tryz.prog w 0 (fun _ => true) true fuel (57) cs = some x) :
    ∃ s : Sv, cs = shc s ∧ SvOk w s := by
  have k0 : Tryz.prog.cellsOf (57) = 4 := by kernel_rfl
  have k1 : Tryz.prog.cellsOf (26) = 1 := by kernel_rfl
  have k2 : Tryz.prog.cellsOf (55) = 3 := by kernel_rfl
  have k3 : Tryz.prog.cellsOf (54) = 1 := by kernel_rfl
  obtain ⟨hlen, n, hf⟩ := rd_struct (t := (57)) (by kernel_rfl) h
  rw [k0] at hlen
  match cs, hlen with
  | [c0, c1, c2, c3], _ =>
    obtain ⟨y0, e0⟩ := hf 0 0 (26) (by kernel_rfl)
    obtain ⟨y1, e1⟩ := hf 1 1 (55) (by kernel_rfl)
    rw [k1] at e0
    rw [k2] at e1
    simp only [List.drop_zero, List.take_succ_cons, List.take_zero, List.drop_succ_cons] at e0 e1
    obtain ⟨n0, hn0, _, w0⟩ := DataW.trod_int Tryz.underlying26 e0
    obtain ⟨ys, m, _, _, _, hyl, ha⟩ := DataW.trod_array Tryz.underlying55 e1
    have a0 := ha 0 (by omega)
    have a1 := ha 1 (by omega)
    have a2 := ha 2 (by omega)
    rw [k3] at a0 a1 a2
    simp only [Nat.mul_one, List.drop_zero, List.take_succ_cons, List.take_zero, List.drop_succ_cons] at a0 a1 a2
    obtain ⟨l0, h0, i0⟩ := rd_tables (a0.trans (List.getElem?_eq_getElem (by omega)))
    obtain ⟨l1, h1, i1⟩ := rd_tables (a1.trans (List.getElem?_eq_getElem (by omega)))
    obtain ⟨l2, h2, i2⟩ := rd_tables (a2.trans (List.getElem?_eq_getElem (by omega)))
    simp only [List.cons.injEq, and_true] at hn0 h0 h1 h2
    subst hn0 h0 h1 h2
    exact ⟨⟨n0, l0, l1, l2⟩, rfl, i0, i1, i2, w0⟩
set_option maxRecDepth 100000 in
theorem rd_shelves {fuel : Nat} {cs : List Value} {x : DataW H × List MemPlace} (h : DataW.trod enc Tryz.prog w 0 (fun _ => true) true fuel (30) cs = some x) :
    ∃ (a : Option Addr) (cap : Nat) (xs : List Sv), cs = [.slice a xs.length cap] ∧ ShIn w a xs ∧ xs.length ≤ cap ∧ cap ≤ maxLen ∧ (a = none → cap = 0) := by
  have k0 : Tryz.prog.cellsOf (57) = 4 := by kernel_rfl
  rcases open_slice Tryz.underlying30 h with h0 | ⟨a, len, cap, m, n, D, Pl, hcs, hb, hl, hm, hmm, hx, hD⟩
  · exact ⟨none, 0, [], h0.1, ⟨Els.nil _ _ _ _, by simp⟩, Nat.le_refl _, by unfold maxLen; decide, fun _ => rfl⟩
  · obtain ⟨xs, hlen, hq, hE⟩ := els_of_cells (enc := shc) (s := 4) (w := w) (a := a) (Q := fun s : Sv => SvOk w s) len (fun _ => by simp [shc]) (fun i hil => by
      obtain ⟨cs', hc, ht'⟩ := hD i (by rw [hmm]; split <;> omega)
      rw [k0] at hc
      obtain ⟨s, rfl, hs⟩ := rd_shelf ht'
      obtain ⟨-, hcl, hat⟩ := World.cells?_some hc
      refine ⟨s, hs, fun j c hj => ?_⟩
      have hj4 : j < 4 := by
        rcases Nat.lt_or_ge j 4 with h' | h'
        · exact h'
        · rw [List.getElem?_eq_none (by rw [shc_len]; exact h')] at hj; cases hj
      have := (hat j hj4).trans hj
      rw [← this]
      congr 1
      simp only [Addr.add_add])
    subst hlen
    exact ⟨some a, cap, xs, hcs, ⟨hE, hq⟩, hl, hm, fun h => by cases h⟩
/-- A root, and where its lists lie. -/
structure Rv where
  seq : Int
  log : Int
  next : Int
  ba : Option Addr
  bc : Nat
  bs : List Br
  la : Option Addr
  lc : Nat
  ls : List Ln
  va : Option Addr
  vc : Nat
  vs : List Vx.Vc
  sa : Option Addr
  sc : Nat
  sh : List Sv
def rtc (r : Rv) : List Value := [.int .u64 r.seq, .int .u64 r.log, .int .u64 r.next, .slice r.ba r.bs.length r.bc, .slice r.la r.ls.length r.lc, .slice r.va r.vs.length r.vc, .slice r.sa r.sh.length r.sc]
abbrev rtV (r : Rv) : Value := .agg #[.int .u64 r.seq, .int .u64 r.log, .int .u64 r.next, .slice r.ba r.bs.length r.bc, .slice r.la r.ls.length r.lc, .slice r.va r.vs.length r.vc, .slice r.sa r.sh.length r.sc]
def Rv.says (r : Rv) : Rt := ⟨r.seq, r.log, r.next, r.bs, r.ls, Vx.vsOf r.vs, r.sh.map Sv.says⟩
structure RtIn (w : World) (r : Rv) : Prop where
  seq : U64 r.seq
  log : U64 r.log
  next : U64 r.next
  brs : SIn brc 3 (fun q : Br => q.1.size ≤ maxLen ∧ U64 q.2.1 ∧ U64 q.2.2) w r.ba r.bc r.bs
  lns : SIn lnc 2 (fun q : Ln => U64 q.1 ∧ U64 q.2) w r.la r.lc r.ls
  vcs : Vx.VIn w r.va r.vs
  shs : ShIn w r.sa r.sh
  sl : r.sh.length ≤ r.sc
  sm : r.sc ≤ maxLen
  sn : r.sa = none → r.sc = 0
  vl : r.vs.length ≤ r.vc ∧ r.vc ≤ maxLen
set_option maxRecDepth 100000 in
theorem rd_root {fuel : Nat} {cs : List Value} {x : DataW H × List MemPlace} (h : DataW.trod enc Tryz.prog w 0 (fun _ => true) true fuel (32) cs = some x) :
    ∃ r : Rv, cs = rtc r ∧ RtIn w r := by
  have k0 : Tryz.prog.cellsOf (32) = 7 := by kernel_rfl
  have k1 : Tryz.prog.cellsOf (26) = 1 := by kernel_rfl
  have k2 : Tryz.prog.cellsOf (27) = 1 := by kernel_rfl
  have k3 : Tryz.prog.cellsOf (28) = 1 := by kernel_rfl
  have k4 : Tryz.prog.cellsOf (29) = 1 := by kernel_rfl
  have k5 : Tryz.prog.cellsOf (30) = 1 := by kernel_rfl
  obtain ⟨hlen, n, hf⟩ := rd_struct (t := (32)) (by kernel_rfl) h
  rw [k0] at hlen
  match cs, hlen with
  | [c0, c1, c2, c3, c4, c5, c6], _ =>
    obtain ⟨y0, e0⟩ := hf 0 0 (26) (by kernel_rfl)
    obtain ⟨y1, e1⟩ := hf 1 1 (26) (by kernel_rfl)
    obtain ⟨y2, e2⟩ := hf 2 2 (26) (by kernel_rfl)
    obtain ⟨y3, e3⟩ := hf 3 3 (27) (by kernel_rfl)
    obtain ⟨y4, e4⟩ := hf 4 4 (28) (by kernel_rfl)
    obtain ⟨y5, e5⟩ := hf 5 5 (29) (by kernel_rfl)
    obtain ⟨y6, e6⟩ := hf 6 6 (30) (by kernel_rfl)
    rw [k1] at e0 e1 e2
    rw [k2] at e3
    rw [k3] at e4
    rw [k4] at e5
    rw [k5] at e6
    simp only [List.drop_zero, List.take_succ_cons, List.take_zero, List.drop_succ_cons] at e0 e1 e2 e3 e4 e5 e6
    obtain ⟨n0, hn0, _, w0⟩ := DataW.trod_int Tryz.underlying26 e0
    obtain ⟨n1, hn1, _, w1⟩ := DataW.trod_int Tryz.underlying26 e1
    obtain ⟨n2, hn2, _, w2⟩ := DataW.trod_int Tryz.underlying26 e2
    obtain ⟨ba, bc, bs, hn3, w3⟩ := rd_branches e3
    obtain ⟨la, lc, ls, hn4, w4⟩ := rd_lines e4
    obtain ⟨va, vc, vs, hn5, w5⟩ := Vx.rd_vectors e5
    obtain ⟨sa, sc, sh, hn6, w6, w7, w8, w9⟩ := rd_shelves e6
    have hvl : vs.length ≤ vc ∧ vc ≤ maxLen := by
      rcases open_slice Tryz.underlying29 e5 with h0 | ⟨a, len, cap, m, n, D, Pl, hcs, hb, hl, hm, -⟩
      · have h1 := hn5.symm.trans h0.1
        simp only [List.cons.injEq, and_true, Value.slice.injEq] at h1
        obtain ⟨-, h2, h3⟩ := h1
        rw [h2, h3]
        exact ⟨Nat.le_refl _, Nat.zero_le _⟩
      · have h1 := hn5.symm.trans hcs
        simp only [List.cons.injEq, and_true, Value.slice.injEq] at h1
        obtain ⟨-, h2, h3⟩ := h1
        rw [h2, h3]
        exact ⟨hl, hm⟩
    simp only [List.cons.injEq, and_true] at hn0 hn1 hn2 hn3 hn4 hn5 hn6
    subst hn0 hn1 hn2 hn3 hn4 hn5 hn6
    exact ⟨⟨n0, n1, n2, ba, bc, bs, la, lc, ls, va, vc, vs, sa, sc, sh⟩, rfl, ⟨w0, w1, w2, w3, w4, w5, w6, w7, w8, w9, hvl⟩⟩
end
end Go.Proofs.YtchcelodeepjdaaGreatDoor.Ln
