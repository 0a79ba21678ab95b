/- reading's shelves. Condition: fewer than 1000000 bytes. · Records back: how many parts there may be; which bytes are a whole record's. No condition. · herbariumref01: Bytes, Put, PutText; herbariumref20: num. Condition: fewer than 900000000 bytes. -/
import Derived.Test.YtchcelodeepjdaaGreatDoorZZd
import Derived.Deep.RegionLaw
namespace Go.Herb
open Go

theorem tbP_len {l r : List Int} {t : Tb} (h : tbP l = some (t, r)) : r.length + 1 ≤ l.length := by
  unfold tbP at h
  cases h1 : getN l with
  | none => rw [h1] at h; cases h
  | some q1 =>
    obtain ⟨f, l1⟩ := q1
    rw [h1] at h
    simp only at h
    cases h2 : getN l1 with
    | none => rw [h2] at h; cases h
    | some q2 =>
      obtain ⟨b, l2⟩ := q2
      rw [h2] at h
      simp only at h
      split at h
      · cases h3 : getT l2 with
        | none => rw [h3] at h; cases h
        | some q3 =>
          obtain ⟨lo, l3⟩ := q3
          rw [h3] at h
          simp only at h
          cases h4 : getT l3 with
          | none => rw [h4] at h; cases h
          | some q4 =>
            obtain ⟨hi, l4⟩ := q4
            rw [h4] at h
            cases h
            have e1 := getN_len h1
            have e2 := getN_len h2
            have e3 := getT_len h3
            have e4 := getT_len h4
            omega
      · cases h
end Go.Herb
namespace Go.Proofs.YtchcelodeepjdaaGreatDoor.Ln
open Go.RowKit Go.Shelf Go.Herb

/-- Shelves that are being read. -/
structure RdS (p B : Nat) (w u : World) (zs : List Int) (a : Option Addr) (c k : Nat) (xs : List Sv) : Prop where
  read : ReadAt u p B zs
  turn : TurnI p w u
  hp : p < w.heap.size
  len : xs.length = k
  own : OwnSh w.heap.size u (.slice a k c) xs
  lev : ∀ s ∈ xs, ∀ l ∈ s.lv, OwnT w.heap.size u (lvV l) l.ts
  wf : ∀ s ∈ xs, U64 s.line ∧ ∀ l ∈ s.lv, ∀ t ∈ l.ts, TbW t
theorem RdS.next {p B c k : Nat} {w u u' : World} {zs zs' : List Int} {a : Option Addr} {xs : List Sv} (h : RdS p B w u zs a c k xs) (ht : TurnI p u u') (hr : ReadAt u' p B zs') : RdS p B w u' zs' a c k xs :=
  ⟨hr, h.turn.trans ht, h.hp, h.len, own_turn h.own ht h.hp, fun s hs l hl => own_turn (h.lev s hs l hl) ht h.hp, h.wf⟩
theorem RdS.push {p B c k : Nat} {w u : World} {zs : List Int} {a : Option Addr} {xs : List Sv} (h : RdS p B w u zs a c k xs) (x : Sv) (hx : U64 x.line ∧ ∀ l ∈ x.lv, ∀ t ∈ l.ts, TbW t) (hl : ∀ l ∈ x.lv, OwnT w.heap.size u (lvV l) l.ts) (hk : k < 1000000) :
    ∃ (a' : Option Addr) (c' : Nat) (w8 : World), (Builtin.append_ #[(30), (30)] (30) #[.slice a k c, .slice (some ⟨u.heap.size, 0, none⟩) 1 1]).run Tryz.prog (u.alloc (.cells #[.int .u64 x.line, lvV x.l0, lvV x.l1, lvV x.l2] (57))) = .ok (.slice a' (k + 1) c') w8 ∧ RdS p B w w8 zs a' c' (k + 1) (xs ++ [x]) := by
  obtain ⟨U, hU⟩ : ∃ U : World, U = u.alloc (.cells #[.int .u64 x.line, lvV x.l0, lvV x.l1, lvV x.l2] (57)) := ⟨_, rfl⟩
  have hb : Below u.heap.size u U := by rw [hU]; exact (Below.refl _ _).alloc (Nat.le_refl _) _
  have hA : RdS p B w U zs a c k xs := h.next (TurnI.of_below hb) (h.read.ext hb)
  obtain ⟨v', w8, hr, hO, hgr⟩ := run_append_one (30) (57) _ shc_len shc_one Tryz.underlying30 infoSh rfl (by decide) U w.heap.size (.slice a k c) xs u.heap.size x #[.int .u64 x.line, lvV x.l0, lvV x.l1, lvV x.l2] hA.own (by rw [hU]; exact blk_new_at rfl _) rfl (by decide) (by rw [h.len]; exact hk) hA.turn.size (30)
  rw [← hU]
  obtain ⟨a', c', hv', -, -, -, -⟩ := Vx.own_parts hO
  have hl2 : (xs ++ [x]).length = k + 1 := by rw [List.length_append, h.len]; rfl
  rw [hl2] at hv'
  subst hv'
  have hrow : ∀ b, (Value.slice a k c).ownBlock = some b → w.heap.size ≤ b := fun b hb => own_row hA.own hb
  have hlow := h.read.low
  have hp := h.hp
  refine ⟨a', c', w8, hr, ⟨hA.read.kept (fun b o hb hlt => (hgr.block b (lt_of_blk hb) (fun e => by have := hrow b e.symm; omega)).trans hb), turn_grown (M := 0) hA.turn hgr hrow, h.hp, hl2, hO, fun s hs l hl' => ?_, fun s hs => ?_⟩⟩
  · rcases List.mem_append.1 hs with h1 | h1
    · exact own_grown (hA.lev s h1 l hl') hA.own hgr (by decide)
    · rw [List.mem_singleton.1 h1] at hl'
      exact own_grown (own_turn (hl l hl') (TurnI.of_below hb) h.hp) hA.own hgr (by decide)
  · rcases List.mem_append.1 hs with h1 | h1
    · exact h.wf s h1
    · rw [List.mem_singleton.1 h1]; exact hx
/-- A shelf that is being read: its levels. -/
structure LvS (p B : Nat) (w5 u : World) (zs : List Int) (bb : Nat) (s : Sv) (i : Nat) : Prop where
  rs : RS p B w5 u zs bb (shc s).toArray (57)
  own : ∀ l ∈ s.lv, OwnT w5.heap.size u (lvV l) l.ts
  wf : ∀ l ∈ s.lv, ∀ t ∈ l.ts, TbW t
  rest : ∀ j, i ≤ j → j < 3 → s.lv[j]? = some ⟨none, 0, []⟩
theorem LvS.next {p B bb i : Nat} {w5 u u' : World} {zs zs' : List Int} {s : Sv} (h : LvS p B w5 u zs bb s i) (ht : TurnI p u u') (hr : ReadAt u' p B zs') : LvS p B w5 u' zs' bb s i :=
  ⟨h.rs.next ht hr, fun l hl => own_turn (h.own l hl) ht h.rs.hp, h.wf, h.rest⟩
theorem LvS.level {p B bb i k c : Nat} {w5 w6 u : World} {zs zs6 : List Int} {s : Sv} {a : Option Addr} {ts : List Tb} (h6 : LvS p B w5 w6 zs6 bb s i) (hi : i < 3) (h : RS p B w5 u zs bb (shc (s.set i ⟨a, c, ts⟩)).toArray (57)) (ho : OwnT w6.heap.size u (.slice a k c) ts) (hl : ts.length = k) (ht : T2 p bb w6 u) (hw : ∀ t ∈ ts, TbW t) : LvS p B w5 u zs bb (s.set i ⟨a, c, ts⟩) (i + 1) := by
  have hm : ∀ l ∈ (s.set i ⟨a, c, ts⟩).lv, l = ⟨a, c, ts⟩ ∨ l ∈ s.lv := fun l hl => by
    rw [Sv.set_lv s i hi] at hl
    exact (List.mem_or_eq_of_mem_set hl).symm
  refine ⟨h, fun l hl' => ?_, fun l hl' => ?_, fun j h1 h2 => ?_⟩
  · rcases hm l hl' with rfl | h1
    · show OwnT w5.heap.size u (.slice a ts.length c) ts
      rw [hl]
      exact ownsRow_mono ho h6.rs.turn.size
    · exact own_t2 (h6.own l h1) ht h6.rs.hp h6.rs.box (by decide)
  · rcases hm l hl' with rfl | h1
    · exact hw
    · exact h6.wf l h1
  · rw [Sv.set_other s i j hi _ (by omega)]
    exact h6.rest j (by omega) h2
end Go.Proofs.YtchcelodeepjdaaGreatDoor.Ln

namespace Go.Herb
open Go

theorem repP_w {α : Type} {p : Ps α} {μ : α → Nat} (h : ∀ l x r, p l = some (x, r) → μ x + r.length ≤ l.length) : ∀ (n : Nat) (l : List Int) (xs : List α) (r : List Int), repP p n l = some (xs, r) → (xs.map μ).sum + r.length ≤ l.length
  | 0, l, xs, r, e => by cases e; simp
  | n + 1, l, xs, r, e => by
    rw [repP_succ] at e
    cases h1 : p l with
    | none => rw [h1] at e; cases e
    | some q =>
      obtain ⟨x, r1⟩ := q
      rw [h1] at e
      simp only at e
      cases h2 : repP p n r1 with
      | none => rw [h2] at e; cases e
      | some q2 =>
        obtain ⟨ys, r2⟩ := q2
        rw [h2] at e
        cases e
        have e1 := h _ _ _ h1
        have e2 := repP_w h n r1 ys r h2
        simp only [List.map_cons, List.sum_cons]
        omega
theorem manyP_w {α : Type} {p : Ps α} {μ : α → Nat} (h : ∀ l x r, p l = some (x, r) → μ x + r.length ≤ l.length) (l : List Int) (xs : List α) (r : List Int) (e : manyP p l = some (xs, r)) : (xs.map μ).sum + r.length + 1 ≤ l.length := by
  unfold manyP at e
  cases h1 : getN l with
  | none => rw [h1] at e; cases e
  | some q =>
    obtain ⟨n, r1⟩ := q
    rw [h1] at e
    simp only at e
    split at e
    · have e1 := getN_len h1
      have e2 := repP_w h n r1 xs r e
      omega
    · cases e
theorem sum_ones {α : Type} (l : List α) : (l.map (fun _ => 1)).sum = l.length := by
  induction l with
  | nil => rfl
  | cons a l ih => simp only [List.map_cons, List.sum_cons, List.length_cons]; omega
theorem brP_w (l : List Int) (x : Br) (r : List Int) (h : brP l = some (x, r)) : 1 + r.length ≤ l.length := by
  unfold brP at h
  cases h1 : getT l with
  | none => rw [h1] at h; cases h
  | some q =>
    obtain ⟨s, l1⟩ := q
    rw [h1] at h
    simp only at h
    cases h2 : getN l1 with
    | none => rw [h2] at h; cases h
    | some q =>
      obtain ⟨a, l2⟩ := q
      rw [h2] at h
      simp only at h
      cases h3 : getN l2 with
      | none => rw [h3] at h; cases h
      | some q =>
        obtain ⟨b, l3⟩ := q
        rw [h3] at h
        cases h
        have e1 := getT_len h1
        have e2 := getN_len h2
        have e3 := getN_len h3
        omega
theorem lnP_w (l : List Int) (x : Ln) (r : List Int) (h : lnP l = some (x, r)) : 1 + r.length ≤ l.length := by
  unfold lnP at h
  cases h1 : getN l with
  | none => rw [h1] at h; cases h
  | some q =>
    obtain ⟨s, l1⟩ := q
    rw [h1] at h
    simp only at h
    cases h2 : getN l1 with
    | none => rw [h2] at h; cases h
    | some q =>
      obtain ⟨a, l2⟩ := q
      rw [h2] at h
      cases h
      have e1 := getN_len h1
      have e2 := getN_len h2
      omega
theorem vcP_w (l : List Int) (x : Int × Bh) (r : List Int) (h : vcP l = some (x, r)) : (1 + x.2.length) + r.length ≤ l.length := by
  unfold vcP at h
  cases h1 : getN l with
  | none => rw [h1] at h; cases h
  | some q =>
    obtain ⟨s, l1⟩ := q
    rw [h1] at h
    simp only at h
    cases h2 : manyP ptP l1 with
    | none => rw [h2] at h; cases h
    | some q =>
      obtain ⟨ps, l2⟩ := q
      rw [h2] at h
      cases h
      have e1 := getN_len h1
      have e2 := manyP_w (μ := fun _ => 1) lnP_w l1 ps r h2
      rw [sum_ones] at e2
      show 1 + ps.length + r.length ≤ l.length
      omega
theorem levP_w (l : List Int) (ts : List Tb) (r : List Int) (h : levP l = some (ts, r)) : ts.length + r.length ≤ l.length := by
  have e2 := manyP_w (μ := fun _ => 1) (fun l x r h => by have := tbP_len h; omega) l ts r h
  rw [sum_ones] at e2
  omega
theorem sdP_w (l : List Int) (x : Sd) (r : List Int) (h : sdP l = some (x, r)) : (1 + (x.lv.map List.length).sum) + r.length ≤ l.length := by
  unfold sdP at h
  cases h1 : getN l with
  | none => rw [h1] at h; cases h
  | some q =>
    obtain ⟨s, l1⟩ := q
    rw [h1] at h
    simp only at h
    cases h2 : repP levP 3 l1 with
    | none => rw [h2] at h; cases h
    | some q =>
      obtain ⟨lv, l2⟩ := q
      rw [h2] at h
      cases h
      have e1 := getN_len h1
      have e2 := repP_w (μ := List.length) levP_w 3 l1 lv r h2
      show 1 + (lv.map List.length).sum + r.length ≤ l.length
      omega
theorem shP_w (l : List Int) (xs : List Sd) (r : List Int) (h : shP l = some (xs, r)) : (xs.map (fun x => 1 + (x.lv.map List.length).sum)).sum + r.length ≤ l.length := by
  have := manyP_w sdP_w l xs r h
  omega
theorem rtP_w (l : List Int) (x : Rt) (r : List Int) (h : rtP l = some (x, r)) : x.bs.length + x.ls.length + (x.vs.map (fun v => 1 + v.2.length)).sum + r.length ≤ l.length := by
  unfold rtP at h
  cases h1 : getN l with
  | none => rw [h1] at h; cases h
  | some q =>
    obtain ⟨a1, l1⟩ := q
    rw [h1] at h
    simp only at h
    cases h2 : getN l1 with
    | none => rw [h2] at h; cases h
    | some q =>
      obtain ⟨a2, l2⟩ := q
      rw [h2] at h
      simp only at h
      cases h3 : getN l2 with
      | none => rw [h3] at h; cases h
      | some q =>
        obtain ⟨a3, l3⟩ := q
        rw [h3] at h
        simp only at h
        cases h4 : manyP brP l3 with
        | none => rw [h4] at h; cases h
        | some q =>
          obtain ⟨bs, l4⟩ := q
          rw [h4] at h
          simp only at h
          cases h5 : manyP lnP l4 with
          | none => rw [h5] at h; cases h
          | some q =>
            obtain ⟨ls, l5⟩ := q
            rw [h5] at h
            simp only at h
            cases h6 : manyP vcP l5 with
            | none => rw [h6] at h; cases h
            | some q =>
              obtain ⟨vs, l6⟩ := q
              rw [h6] at h
              cases h
              have e1 := getN_len h1
              have e2 := getN_len h2
              have e3 := getN_len h3
              have e4 := manyP_w (μ := fun _ => 1) brP_w l3 bs l4 h4
              have e5 := manyP_w (μ := fun _ => 1) lnP_w l4 ls l5 h5
              have e6 := manyP_w vcP_w l5 vs r h6
              rw [sum_ones] at e4 e5
              show bs.length + ls.length + (vs.map (fun v => 1 + v.2.length)).sum + r.length ≤ l.length
              omega
theorem flat_sum {α β : Type} (f : α → List β) (l : List α) : (l.flatMap f).length = (l.map (fun x => (f x).length)).sum := by
  induction l with
  | nil => rfl
  | cons a l ih => simp only [List.flatMap_cons, List.length_append, List.map_cons, List.sum_cons, ih]
theorem sum_le {α : Type} {f g : α → Nat} (l : List α) (h : ∀ x ∈ l, f x ≤ g x) : (l.map f).sum ≤ (l.map g).sum := by
  induction l with
  | nil => exact Nat.le_refl _
  | cons a l ih =>
    have h1 := h a List.mem_cons_self
    have h2 := ih (fun x hx => h x (List.mem_cons_of_mem _ hx))
    simp only [List.map_cons, List.sum_cons]
    omega
theorem mem_sum {α : Type} {f : α → Nat} {l : List α} {x : α} (h : x ∈ l) : f x ≤ (l.map f).sum := by
  induction l with
  | nil => cases h
  | cons a l ih =>
    simp only [List.map_cons, List.sum_cons]
    rcases List.mem_cons.1 h with rfl | h
    · omega
    · have := ih h; omega
end Go.Herb

namespace Go.Proofs.YtchcelodeepjdaaGreatDoor.Ln
open Go.RowKit Go.Shelf Go.Herb

theorem u64_b {x : Int} (h : U64 x) : 0 ≤ x ∧ x < 18446744073709551616 := by
  unfold U64 at h
  simp [Lit.wf, IntKind.min, IntKind.max, IntKind.signed, IntKind.bits] at h
  omega
def RowPost (ys : List Int) (w : World) (e : Ending) (w' : World) : Prop := ∃ (a : Option Addr) (n c : Nat), e = .returned (.slice a n c) ∧ n = ys.length ∧ Byt w' a ys ∧ Below w.heap.size w w'
def OwnPost (ys : List Int) (w : World) (e : Ending) (w' : World) : Prop := ∃ (a : Option Addr) (n c : Nat), e = .returned (.slice a n c) ∧ n = ys.length ∧ OwnB w.heap.size w' (.slice a n c) ys ∧ Below w.heap.size w w'
theorem ownPost_of {ys : List Int} {w w' : World} {v : Value} (ho : OwnB w.heap.size w' v ys) (hb : Below w.heap.size w w') : OwnPost ys w (.returned v) w' := by
  obtain ⟨a, c, rfl, -, -⟩ := els_of_owns nb_len ho
  exact ⟨a, _, c, rfl, rfl, ho, hb⟩
theorem byt_some {w : World} {a : Option Addr} {ys : List Int} (h : Byt w a ys) (h0 : 0 < ys.length) : ∃ ad : Addr, a = some ad := by
  obtain ⟨b, o, h1, -⟩ := h.get 0 h0
  exact ⟨_, h1⟩
set_option maxRecDepth 100000 in
theorem refBytes_any (k : Nat) : ∀ (w : World), k < 18446744073709551616 → Calls Tryz.prog (107) #[.int .u64 (k : Int)] w (OwnPost (putN k) w) := by
  induction k using Nat.strongRecOn with
  | ind k ih =>
    intro w hk
    by_cases h : k < 128
    · obtain ⟨A, hA⟩ : ∃ A : World, A = w.alloc (.cells #[.int .u8 (k : Int)] (5)) := ⟨_, rfl⟩
      have hB : Below w.heap.size w A := by rw [hA]; exact (Below.refl _ _).alloc (Nat.le_refl _) _
      have hx : A.heap[w.heap.size]? = some (.cells #[.int .u8 (k : Int)] (5) (0, 0)) := by rw [hA]; exact blk_new_at rfl _
      have HF := Lib.hid (show OwnPost (putN k) w (.returned (.slice (some ⟨w.heap.size, 0, none⟩) 1 1)) A from by
        rw [putN_small h]
        exact ⟨_, _, _, rfl, rfl, own_lit hx rfl rfl (Nat.le_refl _) (by unfold maxLen; decide), hB⟩)
      have d1 : (k : Int) < 128 := by omega
      have d2 : decide ((k : Int) < 128) = true := decide_eq_true d1
      have hcv : IntKind.u8.wrap (k : Int) = (k : Int) := by rw [IntKind.wrap_u8]; omega
      have HA := Lib.hid hA
      clear ih hB hx hA h hk
      go_enter Tryz.func107, Tryz.ntmps107
      go_wp2_with fail
      rw [← HA.out]
      go_ret
      exact HF.out
    · obtain ⟨q, hq⟩ : ∃ q, q = k / 128 := ⟨_, rfl⟩
      obtain ⟨m, hm⟩ : ∃ m, m = k % 128 := ⟨_, rfl⟩
      have hm1 : m < 128 := by rw [hm]; exact Nat.mod_lt _ (by decide)
      obtain ⟨A, hA⟩ : ∃ A : World, A = w.alloc (.cells #[.int .u8 ((m : Int) + 128)] (5)) := ⟨_, rfl⟩
      have hB : Below w.heap.size w A := by rw [hA]; exact (Below.refl _ _).alloc (Nat.le_refl _) _
      have hx : A.heap[w.heap.size]? = some (.cells #[.int .u8 ((m : Int) + 128)] (5) (0, 0)) := by rw [hA]; exact blk_new_at rfl _
      have HO := Lib.hid (own_lit (xs := [(m : Int) + 128]) hx rfl rfl (Nat.le_refl _) (show 1 ≤ maxLen by unfold maxLen; decide))
      have HI := Lib.hid (ih q (by rw [hq]; omega) A (by omega))
      have HP := Lib.hid (show putN k = [(m : Int) + 128] ++ putN q from by rw [putN_big h, hm, hq]; rfl)
      have HL := Lib.hid (show 0 < (putN q).length ∧ (putN q).length ≤ 10 from ⟨putN_pos q, putN_len q (by omega)⟩)
      have d1 : ¬ (k : Int) < 128 := by omega
      have d2 : decide ((k : Int) < 128) = false := decide_eq_false d1
      have r1 : (k : Int).tmod 128 = (m : Int) := by rw [Int.tmod_eq_emod_of_nonneg (by omega), hm]; omega
      have r2 : (k : Int) % 128 = (m : Int) := by rw [hm]; omega
      have q1 : (k : Int).tdiv 128 = (q : Int) := by rw [Int.tdiv_eq_ediv_of_nonneg (by omega), hq]; omega
      have q2 : (k : Int) / 128 = (q : Int) := by rw [hq]; omega
      have c1 : IntKind.u8.wrap (m : Int) = (m : Int) := by rw [IntKind.wrap_u8]; omega
      have c2 : IntKind.u8.wrap ((m : Int) + 128) = (m : Int) + 128 := by rw [IntKind.wrap_u8]; omega
      have c3 : IntKind.u64.wrap (q : Int) = (q : Int) := by rw [IntKind.wrap_u64]; omega
      have c4 : IntKind.u64.wrap (m : Int) = (m : Int) := by rw [IntKind.wrap_u64]; omega
      have HA := Lib.hid hA
      have HB := Lib.hid hB
      rw [hA] at HI
      clear ih hB hx hA h hk hq hm hm1
      go_enter Tryz.func107, Tryz.ntmps107
      go_wp2_with fail
      refine HI.out.mono ?_
      rw [← HA.out]
      rintro e w2 ⟨a, n, c, rfl, hn, ho, hb⟩
      obtain ⟨a', c', e1, -, hel⟩ := els_of_owns nb_len ho
      injection e1 with e1 e2 e3
      subst e1
      obtain ⟨ad, rfl⟩ := byt_some hel HL.out.1
      obtain ⟨v', w3, hr, h2, h3⟩ := run_append_b w2 w.heap.size (.slice (some ⟨w.heap.size, 0, none⟩) 1 1) [(m : Int) + 128] ad n c (putN q) hn.symm (ownsRow_below HO.out hb (Nat.le_refl _)) hel (by have := HL.out.2; simp; omega) (Nat.le_trans HB.out.size hb.size) (24)
      have HF := Lib.hid (show OwnPost (putN k) w (.returned v') w3 from by
        rw [HP.out]
        exact ownPost_of h2 (Below.appended (HB.out.trans (hb.mono HB.out.size)) (ownsRow_below HO.out hb (Nat.le_refl _)) (Nat.le_refl _) (Nat.le_trans HB.out.size hb.size) h3))
      clear hn ho hb e2 e3 hel h2 h3
      go_wp2_with (at_builtin; refine Lib.wpList_append_run _ rfl _ _ _ _ rfl _ _ rfl rfl _ _ hr ?_)
      go_ret
      exact HF.out
set_option maxRecDepth 100000 in
theorem refPut01_any (a : Option Addr) (n c : Nat) (ys : List Int) (k : Nat) (w : World) (hb : Byt w a ys) (hn : ys.length = n) (h0 : 0 < n) (hl : n < 900000000) (hk : k < 18446744073709551616) :
    Calls Tryz.prog (83) #[.slice a n c, .int .u64 (k : Int)] w (OwnPost (ys ++ putN k) w) := by
  obtain ⟨ad, rfl⟩ := byt_some hb (by omega)
  obtain ⟨v1, w1, hr1, hP1, hg1⟩ := run_append_b w w.heap.size (.slice none 0 0) [] ad n c ys hn (World.ownsRow_nil _ _ _ _) hb (by simp; omega) (Nat.le_refl _) (24)
  rw [List.nil_append] at hP1
  have hb1 : Below w.heap.size w w1 := (Below.refl _ _).grown hg1 (Nat.le_refl _) (fun k e => by simp [Value.ownBlock] at e)
  obtain ⟨a1, c1, hv1, -, -⟩ := els_of_owns nb_len hP1
  rw [hn] at hv1
  subst hv1
  have HI := Lib.hid (refBytes_any k w1 hk)
  have HO := Lib.hid hP1
  have HB := Lib.hid hb1
  have HN := Lib.hid (show ys.length = n ∧ n < 900000000 from ⟨hn, hl⟩)
  have HL := Lib.hid (show 0 < (putN k).length ∧ (putN k).length ≤ 10 from ⟨putN_pos k, putN_len k (by omega)⟩)
  clear hb hn h0 hl hk hP1 hg1 hb1
  go_enter Tryz.func83, Tryz.ntmps83
  go_wp2_with (at_builtin; refine Lib.wpList_append_run _ rfl _ _ _ _ rfl _ _ rfl rfl _ _ hr1 ?_)
  refine HI.out.mono ?_
  rintro e w2 ⟨a, m, c, rfl, hm, ho, hb⟩
  obtain ⟨a', c', e1, -, hel⟩ := els_of_owns nb_len ho
  injection e1 with e1 e2 e3
  subst e1
  obtain ⟨ad2, rfl⟩ := byt_some hel HL.out.1
  obtain ⟨v', w3, hr, h2, h3⟩ := run_append_b w2 w.heap.size (.slice a1 n c1) ys ad2 m c (putN k) hm.symm (ownsRow_below HO.out hb (Nat.le_refl _)) hel (by have := HL.out.2; have := HN.out; omega) (Nat.le_trans HB.out.size hb.size) (24)
  have HF := Lib.hid (show OwnPost (ys ++ putN k) w (.returned v') w3 from ownPost_of h2 (Below.appended (HB.out.trans (hb.mono HB.out.size)) (ownsRow_below HO.out hb (Nat.le_refl _)) (Nat.le_refl _) (Nat.le_trans HB.out.size hb.size) h3))
  clear hm ho hb e2 e3 hel h2 h3 hr1
  go_wp2_with (at_builtin; refine Lib.wpList_append_run _ rfl _ _ _ _ rfl _ _ rfl rfl _ _ hr ?_)
  go_ret
  exact HF.out
set_option maxRecDepth 100000 in
theorem refPutText_any (a : Option Addr) (n c : Nat) (ys : List Int) (s : ByteArray) (w : World) (hb : Byt w a ys) (hn : ys.length = n) (h0 : 0 < n) (hl : n + s.size < 800000000) :
    Calls Tryz.prog (82) #[.slice a n c, .string s] w (OwnPost (ys ++ putT s) w) := by
  have HP := Lib.hid (refPut01_any a n c ys s.size w hb hn h0 (by omega) (by omega))
  have hcv : IntKind.u64.wrap (s.size : Int) = (s.size : Int) := by rw [IntKind.wrap_u64]; omega
  have HN := Lib.hid (show ys.length = n ∧ n + s.size < 800000000 from ⟨hn, hl⟩)
  have HL := Lib.hid (show (putN s.size).length ≤ 10 from putN_len s.size (by omega))
  clear hb hn h0 hl
  go_enter Tryz.func82, Tryz.ntmps82
  go_wp2_with fail
  refine HP.out.mono ?_
  rintro e w2 ⟨a, m, c, rfl, hm, ho, hb⟩
  obtain ⟨i0, hin, hz0, hz1, hz2⟩ := info_parts infoB8
  have hml : m + s.size < 900000000 := by
    have h1 := HN.out
    have h2 := HL.out
    rw [hm, List.length_append]
    omega
  have ho2 : w2.ownsRow w.heap.size (5) 1 (.slice a m c) m ((ys ++ putN s.size).flatMap nb) := by unfold OwnB at ho; rw [← hm] at ho; exact ho
  obtain ⟨v', w3, hr, h2, h3, -⟩ := Lib.run_append_own_string (P := Tryz.prog) w2 w.heap.size (24) (9) (24) (5) i0 Tryz.underlying24 Tryz.underlying9 hin hz0 hz1 hz2 (.slice a m c) m _ ho2 s (by unfold maxLen; omega) (by omega) hb.size
  have HF := Lib.hid (show OwnPost (ys ++ putT s) w (.returned v') w3 from by
    have hbb := Below.appended hb ho2 (Nat.le_refl _) hb.size h3
    rw [show ys ++ putT s = (ys ++ putN s.size) ++ strL s from by rw [putT, List.append_assoc]]
    generalize ys ++ putN s.size = kl at h2 hm
    refine ownPost_of ?_ hbb
    unfold OwnB
    rw [List.length_append, strL_len, ← hm, List.flatMap_append, ← strCells_nb]
    exact h2)
  clear hm ho hb hml ho2 h2 h3 hin hz0 hz1 hz2
  go_wp2_with (at_builtin; refine Lib.wpList_append_run _ rfl _ _ _ _ rfl _ _ rfl rfl _ _ hr ?_)
  go_ret
  exact HF.out
theorem OwnPost.row {ys : List Int} {w w' : World} {e : Ending} (h : OwnPost ys w e w') : RowPost ys w e w' := by
  obtain ⟨a, n, c, rfl, hn, ho, hb⟩ := h
  obtain ⟨a', c', e1, -, hel⟩ := els_of_owns nb_len ho
  injection e1 with e1 e2 e3
  subst e1
  exact ⟨a, n, c, rfl, hn, hel, hb⟩
set_option maxRecDepth 100000 in
theorem refNum_any (a : Option Addr) (n c : Nat) (ys : List Int) (la : Option Addr) (m lc : Nat) (xs : List Int) (w : World) (hb : Byt w a ys) (hn : ys.length = n) (h0 : 0 < n) (hx : Els Vx.nu 1 w la xs) (hm : xs.length = m) (hu : ∀ x ∈ xs, U64 x) (hl : n + 10 * m < 800000000) :
    Calls Tryz.prog (51) #[.slice a n c, .slice la m lc] w (RowPost (ys ++ numsL xs) w) := by
  have HX := Lib.hid hx
  have HU := Lib.hid hu
  have HM := Lib.hid hm
  have HN := Lib.hid (show ys.length = n ∧ 0 < n ∧ n + 10 * m < 800000000 from ⟨hn, h0, hl⟩)
  have HB := Lib.hid hb
  clear hx hu hm hn h0 hl hb
  go_enter Tryz.func51, Tryz.ntmps51
  go_upto_region 2 with fail
  go_loopg [5, 0] m (fun gk iv v0 wr => ∃ (i : Nat) (a : Option Addr) (q c : Nat), i + gk = m ∧ iv = .int .i64 i ∧ v0 = .slice a q c ∧ Hid (q = (ys ++ numsL (xs.take i)).length) ∧ Hid (Byt wr a (ys ++ numsL (xs.take i))) ∧ Hid (Below w.heap.size w wr))
  case atStart => exact ⟨0, a, n, c, by omega, rfl, rfl, Lib.hid (by rw [List.take_zero]; show n = (ys ++ []).length; rw [List.append_nil]; exact HN.out.1.symm), Lib.hid (by rw [List.take_zero]; show Byt w a (ys ++ []); rw [List.append_nil]; exact HB.out), Lib.hid (Below.refl _ _)⟩
  case round =>
    obtain ⟨i, a, q, c, hi, rfl, rfl, HQ, HE, HBw⟩ := hrel
    by_cases hlt : i < m
    case neg =>
      have i1 : ¬ (i : Int) < (m : Int) := by omega
      have HF := Lib.hid (show RowPost (ys ++ numsL xs) w (.returned (.slice a q c)) wr from by
        have h1 := HQ.out
        have h2 := HE.out
        rw [List.take_of_length_le (by have := HM.out; omega)] at h1 h2
        exact ⟨a, q, c, rfl, h1, h2, HBw.out⟩)
      clear HQ HE
      go_wp2_with fail
      go_ret
      exact HF.out
    have hil : i < xs.length := by have := HM.out; omega
    obtain ⟨b, o, hla, hlb, hcx⟩ := (HX.out.ext HBw.out).get i hil
    have HTK := Lib.hid (List.take_succ_eq_append_getElem hil)
    have HUX := Lib.hid (HU.out _ (List.getElem_mem hil))
    have HTL := Lib.hid (numsL_len (xs.take i) (fun y hy => HU.out y (List.mem_of_mem_take hy)))
    generalize xs[i] = x at hcx HTK HUX
    have g0 := hcx 0 _ rfl
    simp only [Nat.mul_one, Nat.add_zero] at g0
    obtain ⟨k, hk⟩ : ∃ k : Nat, x = (k : Int) := ⟨x.toNat, by have := u64_b HUX.out; omega⟩
    subst hk
    have hk64 : k < 18446744073709551616 := by have := u64_b HUX.out; omega
    subst hla
    have i0 : (0 : Int) ≤ (i : Int) := by omega
    have i1 : (i : Int) < (m : Int) := by omega
    have hw1 : IntKind.i64.wrap ((i : Int) + 1) = (i : Int) + 1 := IntWalk.i64_in _ (by have := HN.out; omega)
    have hq1 : 0 < q ∧ q < 900000000 := by
      have h1 := HQ.out
      have h2 := HTL.out
      have h3 := HN.out
      rw [List.length_append] at h1
      rw [List.length_take] at h2
      omega
    have HP := Lib.hid (refPut01_any a q c (ys ++ numsL (xs.take i)) k wr HE.out HQ.out.symm hq1.1 hq1.2 hk64)
    have HEQ := Lib.hid (show (ys ++ numsL (xs.take i)) ++ putN k = ys ++ numsL (xs.take (i + 1)) from by
      rw [HTK.out, List.append_assoc]
      unfold numsL
      rw [List.flatMap_append]
      simp)
    clear hcx hk64 hq1
    go_wp2_with fail
    refine HP.out.mono ?_
    intro e w2 hpost
    rw [HEQ.out] at hpost
    obtain ⟨a', q', c', rfl, hq', hE', hb'⟩ := hpost.row
    have HQ' := Lib.hid hq'
    have HE' := Lib.hid hE'
    have HB' := Lib.hid (HBw.out.trans (hb'.mono HBw.out.size))
    clear hq' hE' hb' hpost
    go_wp2_with fail
    go_roundg (gk - 1)
    case measure => omega
    case rel => exact ⟨i + 1, a', q', c', by omega, by go_num, rfl, HQ', HE', HB'⟩
end Go.Proofs.YtchcelodeepjdaaGreatDoor.Ln
