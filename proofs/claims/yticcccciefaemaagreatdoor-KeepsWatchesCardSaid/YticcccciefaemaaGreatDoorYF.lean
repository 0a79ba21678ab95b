/- Plain: points put in their place are the sorted ones without doubles. No condition. · ref16: Step. Condition: fewer than 100000 lines and points. · ref16: Fork. Condition: fewer than 100000 lines and points. · ref16: Drop. Condition: fewer than 100000 lines and points. · ref16: Of. Condition: fewer than 100000 lines and points. · ref16: Merge. Condition: fewer than 30000 lines and points. · ref16: appends and slices of points. Condition: fewer than 1000000 points. -/
import Derived.Test.YticcccciefaemaaGreatDoorY8
import Derived.Lib.AppendZeros
import Derived.Deep.RegionHeld3
namespace Go.Proofs.YticcccciefaemaaGreatDoor.Vx
open Go.RowKit Go.Shelf Go.Herb Go.Sort
theorem LtP.trans {a b c : Int × Int} (h : LtP a b) (k : LtP b c) : LtP a c := by unfold LtP at *; omega
theorem LtP.irr {a : Int × Int} (h : LtP a a) : False := by unfold LtP at h; omega
theorem LtP.total (a b : Int × Int) (h : ¬ LtP a b) (hne : a ≠ b) : LtP b a := by
  have : ¬ (a.1 = b.1 ∧ a.2 = b.2) := fun e => hne (Prod.ext e.1 e.2)
  unfold LtP at *
  omega
/-- Rising, with the members of a list. -/
structure RP (out S : List (Int × Int)) : Prop where
  srt : out.Pairwise LtP
  mem : ∀ q, q ∈ out ↔ q ∈ S
theorem RP.nil : RP [] [] := ⟨.nil, fun _ => Iff.rfl⟩
theorem RP.uniq {a b S : List (Int × Int)} (ha : RP a S) (hb : RP b S) : a = b := by
  have nd : ∀ {l : List (Int × Int)}, l.Pairwise LtP → l.Nodup := fun h => h.imp (fun h e => by subst e; exact h.irr)
  have hp : a.Perm b := (List.perm_ext_iff_of_nodup (nd ha.srt) (nd hb.srt)).2 (fun q => (ha.mem q).trans (hb.mem q).symm)
  exact hp.eq_of_pairwise (fun x y _ _ h1 h2 => (h1.trans h2).irr.elim) ha.srt hb.srt
theorem RP.put {out S : List (Int × Int)} (h : RP out S) {p : Int × Int} {i : Nat} (hlo : ∀ q ∈ out.take i, LtP q p) (hi : i ≤ out.length) (hx : ∀ x, out[i]? = some x → ¬ LtP x p ∧ x ≠ p) : RP (out.take i ++ p :: out.drop i) (S ++ [p]) := by
  have hs := h.srt
  rw [← List.take_append_drop i out, List.pairwise_append] at hs
  obtain ⟨s1, s2, s3⟩ := hs
  have hhi : ∀ q ∈ out.drop i, LtP p q := fun q hq => by
    rcases Nat.lt_or_eq_of_le hi with hlt | he
    · have hd := List.drop_eq_getElem_cons hlt
      rw [hd] at s2 hq
      have h0 := hx _ (List.getElem?_eq_getElem hlt)
      have h1 := LtP.total _ _ h0.1 h0.2
      rcases List.mem_cons.1 hq with rfl | hq
      · exact h1
      · exact h1.trans ((List.pairwise_cons.1 s2).1 q hq)
    · rw [he, List.drop_length] at hq
      simp at hq
  refine ⟨List.pairwise_append.2 ⟨s1, List.pairwise_cons.2 ⟨hhi, s2⟩, fun a ha b hb => ?_⟩, fun q => ?_⟩
  · rcases List.mem_cons.1 hb with rfl | hb
    · exact hlo a ha
    · exact s3 a ha b hb
  · rw [List.mem_append, List.mem_cons, List.mem_append, List.mem_singleton, ← h.mem q]
    have : q ∈ out ↔ q ∈ out.take i ∨ q ∈ out.drop i := by rw [← List.mem_append, List.take_append_drop]
    rw [this]
    constructor
    · rintro (h | h | h)
      · exact .inl (.inl h)
      · exact .inr h
      · exact .inl (.inr h)
    · rintro ((h | h) | h)
      · exact .inl h
      · exact .inr (.inr h)
      · exact .inr (.inl h)
theorem RP.has {out S : List (Int × Int)} (h : RP out S) {p : Int × Int} (hp : p ∈ out) : RP out (S ++ [p]) :=
  ⟨h.srt, fun q => by rw [List.mem_append, List.mem_singleton, ← h.mem q]; exact ⟨.inl, fun h => h.elim id (fun e => by rw [e]; exact hp)⟩⟩
theorem RP.perm {out S T : List (Int × Int)} (h : RP out S) (hp : S.Perm T) : RP out T := ⟨h.srt, fun q => (h.mem q).trans hp.mem_iff⟩
theorem dd_rp {ys : List (Int × Int)} (hs : ys.Pairwise (fun a b => ¬ LtP b a)) : ∀ k, k ≤ ys.length → RP (ddP ys k) (ys.take k)
  | 0, _ => by unfold ddP; exact RP.nil
  | k + 1, hk => by
    have ih := dd_rp hs k (by omega)
    have hk' : k < ys.length := by omega
    have hg : ∀ j, (h : j < ys.length) → ys.getD j (0, 0) = ys[j] := fun j h => by simp [List.getD, List.getElem?_eq_getElem h]
    have hw := List.pairwise_iff_getElem.1 hs
    rw [ddP_succ, List.take_succ_eq_append_getElem hk', hg k hk']
    split
    · rename_i hc
      have := ih.put (p := ys[k]) (i := (ddP ys k).length) (fun q hq => by
        rw [List.take_length] at hq
        obtain ⟨j, hj, he⟩ := List.getElem_of_mem ((ih.mem q).1 hq)
        rw [List.getElem_take] at he
        simp at hj
        rcases hc with hc | hc
        · omega
        · rw [hg (k - 1) (by omega)] at hc
          have h1 := hw j k (by omega) hk' (by omega)
          rw [he] at h1
          refine LtP.total _ _ h1 (fun e => hc ?_)
          have h2 := hw (k - 1) k (by omega) hk' (by omega)
          rcases Nat.lt_or_eq_of_le (show j ≤ k - 1 by omega) with h3 | h3
          · have h4 := hw j (k - 1) (by omega) (by omega) h3
            rw [he, ← e] at h4
            unfold LtP at h2 h4
            exact Prod.ext (by omega) (by omega)
          · subst h3
            rw [he, e]) (Nat.le_refl _) (fun x hx => by simp at hx)
      rw [List.take_length, List.drop_length] at this
      exact this
    · rename_i hc
      rw [List.append_nil]
      have h0 : k ≠ 0 := fun e => hc (.inl e)
      have h1 : ys.getD (k - 1) (0, 0) = ys[k] := Classical.not_not.1 (fun e => hc (.inr e))
      rw [hg (k - 1) (by omega)] at h1
      refine ih.has ((ih.mem _).2 ?_)
      rw [← h1]
      exact List.mem_take_iff_getElem.2 ⟨k - 1, by omega, rfl⟩
theorem PtsOf_rp {L : Vs} {ps out : Bh} (h : PtsOf L ps) (ho : RP out (pairsB L L.length)) : out = ps := by
  obtain ⟨ys, h1, h2, rfl⟩ := h
  have h3 := dd_rp h2 ys.length (Nat.le_refl _)
  rw [List.take_length] at h3
  exact ho.uniq (h3.perm h1)
end Go.Proofs.YticcccciefaemaaGreatDoor.Vx

namespace Go.Proofs.YticcccciefaemaaGreatDoor.Vx
open Go.RowKit Go.Shelf Go.Herb

end Go.Proofs.YticcccciefaemaaGreatDoor.Vx

namespace Go.Proofs.YticcccciefaemaaGreatDoor.Vx
open Go.RowKit Go.Shelf Go.Herb

/-- New vectors, to which lines are put. -/
structure FAt (q : Nat) (u : World) (v : Value) (zs : List Vc) : Prop where
  blk : u.heap[q]? = some (.cells #[v] (83) (0, 0))
  own : OwnV (q + 1) u v zs
theorem FAt.add {q : Nat} {wr : World} {v : Value} {zs : List Vc} (h : FAt q wr v zs) (y : Vc) (m : Nat) (hm : y.ps.length = m) (hl : zs.length < 1000000) :
    ∃ v' w9, (∀ ty, (Builtin.append_ #[(24), (24)] ty #[v, .slice (some ⟨wr.heap.size, 0, none⟩) 1 1]).run Tryz.prog (wr.alloc (.cells #[.int .u64 y.line, .slice y.a m y.c] (68))).drew = .ok v' w9) ∧ (w9.cell? ⟨q, 0, none⟩ = some v ∧ w9.frozen? ⟨q, 0, none⟩ = false) ∧
      (wr.drew.cell? ⟨q, 0, none⟩ = some v ∧ (wr.alloc (.cells #[.int .u64 y.line, .slice y.a m y.c] (68))).drew.cell? ⟨q, 0, none⟩ = some v) ∧ FAt q (w9.setCell ⟨q, 0, none⟩ v') v' (zs ++ [y]) ∧ ∀ W, Below q W wr → Below q W (w9.setCell ⟨q, 0, none⟩ v') := by
  subst hm
  obtain ⟨X, hX⟩ : ∃ X : World, X = (wr.alloc (.cells #[.int .u64 y.line, .slice y.a y.ps.length y.c] (68))).drew := ⟨_, rfl⟩
  have hXb : Below wr.heap.size wr X := by rw [hX]; exact ((Below.refl _ _).alloc (Nat.le_refl _) _).drew
  have hXx : X.heap[wr.heap.size]? = some (.cells #[.int .u64 y.line, .slice y.a y.ps.length y.c] (68) (0, 0)) := by rw [hX]; exact blk_new_at rfl _
  have hq := lt_of_blk h.blk
  have hXs := hXb.size
  have hq0 := blk_below h.blk hXb hq
  obtain ⟨v', w9, hr, hO, hg, -⟩ := run_append_v X (q + 1) v zs wr.heap.size y (ownsRow_below h.own hXb (Nat.le_refl _)) hXx hl (by omega) (24)
  have hlt : ∀ k, v.ownBlock = some k → q + 1 ≤ k := fun k e => (World.ownsRow.lt h.own k e).1
  have hlt' : ∀ k, v'.ownBlock = some k → q + 1 ≤ k := fun k e => (World.ownsRow.lt hO k e).1
  have hb9 := (hg.block q (by omega) (fun e => by have := hlt q e.symm; omega)).trans hq0
  have c9 := cell_of_blk hb9 0
  have cX := cell_of_blk hq0 0
  have cr := cell_of_blk h.blk 0
  have f9 := frozen_of_blk hb9 0
  simp at c9 cX cr
  rw [hX] at cX
  rw [← hX]
  have hg2 : w9.grownBy (w9.setCell ⟨q, 0, none⟩ v') (some q) := grown_set (grown_refl _ _) _ _
  refine ⟨v', w9, fun _ => hr, ⟨c9, f9⟩, ⟨cr, by rw [hX]; exact cX⟩, ⟨by have := blk_setCell (j := 0) hb9 v'; simpa using this, World.ownsRow.kept hO hg2 (.inr (fun e => by have := hlt' q e; omega))⟩, fun W hW => ?_⟩
  have h1 : Below q W w9 := (hW.trans (hXb.mono (by omega))).grown hg (by omega) (fun k e => by have := hlt k e; omega)
  exact h1.grown hg2 (by have := hg.size; omega) (fun k e => by injection e with e; omega)
theorem FAt.ref {B q : Nat} {u : World} {v : Value} {zs : List Vc} {L : Vs} (h : FAt q u v zs) (hz : ∀ z ∈ zs, VcO B u z) (hL : vsOf zs = L) (hG : GoodV L) : ∃ la lc, RefIs u q la lc zs L := by
  obtain ⟨la, lc, rfl, -, h1, h2, -⟩ := own_parts h.own
  have hm : ∀ x ∈ zs, (x.line, x.ps) ∈ L := fun x hx => by rw [← hL]; exact List.mem_map.2 ⟨x, hx, rfl⟩
  refine ⟨la, lc, h.blk, ⟨owns_els vc_len h.own, fun x hx => (hz x hx).pts, fun x h => ⟨hG.wf _ (hm x h), fun q hq => (hG.inn _ (hm x h)).wf q hq⟩, Nat.le_trans h1 h2, fun x hx => ?_⟩, hL⟩
  obtain ⟨c, hc⟩ := hz x hx
  obtain ⟨_, _, _, -, h3, h4, -⟩ := own_parts hc
  exact Nat.le_trans h3 h4
def lo_ (ys : List Vc) (line : Int) (k : Nat) : List Vc := (ys.take k).filter (fun y => decide (y.line < line))
def hi_ (bs ys : List Vc) (line : Int) (k : Nat) : List Vc := bs ++ (ys.take k).filter (fun y => decide (line < y.line))
theorem lo_step {ys : List Vc} {line : Int} {k : Nat} {y : Vc} (hy : ys[k]? = some y) : (y.line < line → lo_ ys line (k + 1) = lo_ ys line k ++ [y]) ∧ (¬ y.line < line → lo_ ys line (k + 1) = lo_ ys line k) := by
  obtain ⟨hi, rfl⟩ := List.getElem?_eq_some_iff.1 hy
  unfold lo_
  rw [List.take_succ_eq_append_getElem hi, List.filter_append]
  exact ⟨fun h => by simp [h], fun h => by simp [h]⟩
theorem hi_step {bs ys : List Vc} {line : Int} {k : Nat} {y : Vc} (hy : ys[k]? = some y) : (line < y.line → hi_ bs ys line (k + 1) = hi_ bs ys line k ++ [y]) ∧ (¬ line < y.line → hi_ bs ys line (k + 1) = hi_ bs ys line k) := by
  obtain ⟨hi, rfl⟩ := List.getElem?_eq_some_iff.1 hy
  unfold hi_
  rw [List.take_succ_eq_append_getElem hi, List.filter_append]
  exact ⟨fun h => by simp [h], fun h => by simp [h]⟩
theorem lo_len (ys : List Vc) (line : Int) (k : Nat) : (lo_ ys line k).length ≤ k := by
  unfold lo_
  have := List.length_filter_le (fun y : Vc => decide (y.line < line)) (ys.take k)
  simp at this
  simp
  omega
theorem hi_len (bs ys : List Vc) (line : Int) (k : Nat) : (hi_ bs ys line k).length ≤ bs.length + k := by
  unfold hi_
  have := List.length_filter_le (fun y : Vc => decide (line < y.line)) (ys.take k)
  simp at this
  simp
  omega
theorem vs_fork {ys : List Vc} {L : Vs} (h : vsOf ys = L) (line : Int) (x : Vc) (hx : x.line = line) : vsOf (hi_ (lo_ ys line ys.length ++ [x]) ys line ys.length) = putS L line x.ps := by
  subst h
  unfold hi_ lo_ vsOf putS
  rw [List.take_length, List.map_append, List.map_append, List.filter_map, List.filter_map, List.map_cons, List.map_nil, hx, List.append_assoc]
  rfl
theorem mem_fork {ys : List Vc} {line : Int} {x z : Vc} (h : z ∈ hi_ (lo_ ys line ys.length ++ [x]) ys line ys.length) : z ∈ ys ∨ z = x := by
  unfold hi_ lo_ at h
  rcases List.mem_append.1 h with h | h
  · rcases List.mem_append.1 h with h | h
    · exact .inl (List.mem_of_mem_take (List.mem_filter.1 h).1)
    · exact .inr (List.mem_singleton.1 h)
  · exact .inl (List.mem_of_mem_take (List.mem_filter.1 h).1)

end Go.Proofs.YticcccciefaemaaGreatDoor.Vx

namespace Go.Proofs.YticcccciefaemaaGreatDoor.Vx
open Go.RowKit Go.Shelf Go.Herb

theorem ref_of_own {B B' q : Nat} {u : World} {v : Value} {zs : List Vc} {L : Vs} (ho : OwnV B' u v zs) (hz : ∀ z ∈ zs, VcO B u z) (hb : u.heap[q]? = some (.cells #[v] (83) (0, 0))) (hL : vsOf zs = L) (hG : GoodV L) : ∃ la lc, RefIs u q la lc zs L := by
  obtain ⟨la, lc, rfl, -, h1, h2, -⟩ := own_parts ho
  have hm : ∀ x ∈ zs, (x.line, x.ps) ∈ L := fun x hx => by rw [← hL]; exact List.mem_map.2 ⟨x, hx, rfl⟩
  refine ⟨la, lc, hb, ⟨owns_els vc_len ho, fun x hx => (hz x hx).pts, fun x h => ⟨hG.wf _ (hm x h), fun q hq => (hG.inn _ (hm x h)).wf q hq⟩, Nat.le_trans h1 h2, fun x hx => ?_⟩, hL⟩
  obtain ⟨c, hc⟩ := hz x hx
  obtain ⟨_, _, _, -, h3, h4, -⟩ := own_parts hc
  exact Nat.le_trans h3 h4
theorem slice_loV {g n cap i : Nat} (hi : i ≤ cap) (h0 : 0 < cap) : ∀ W, (Instr.slice (24) (.slice (some ⟨g, 0, none⟩) n cap) none (some (.int .i64 i)) none).run Tryz.prog W = .ok (.slice (some ⟨g, 0, none⟩) i cap) W := fun W => by
  have h1 : cap ≠ 0 := by omega
  rw [run_slice_h (P := Tryz.prog) W (24) (some ⟨g, 0, none⟩) n cap (by kernel_rfl) .i64 i (by omega) (by omega)]
  rw [show Tryz.prog.elem (24) = (68) from by kernel_rfl, Tryz.sizeOf68]
  simp [sliced, Result.andThen, addr_add, h1]
theorem els_dropV {w : World} {b o : Nat} {ks : List Vc} (h : Els vc 2 w (some ⟨b, o, none⟩) ks) (k : Nat) : Els vc 2 w (some ⟨b, o + k * 2, none⟩) (ks.drop k) :=
  ⟨fun i hi => by
    obtain ⟨b', o', ha, hlt, hc⟩ := h.get (k + i) (by simp at hi; omega)
    injection ha with ha
    cases ha
    refine ⟨b, o + k * 2, rfl, hlt, fun j c hj => ?_⟩
    rw [List.getElem_drop] at hj
    have := hc j c hj
    rwa [show o + k * 2 + i * 2 + j = o + (k + i) * 2 + j by omega]⟩
theorem slice_hiV {w : World} {g n cap i : Nat} {ys : List Vc} (hE : Els vc 2 w (some ⟨g, 0, none⟩) ys) (hn : ys.length = n) (hle : n ≤ cap) (hi : i + 1 ≤ n) :
    ∃ a2, (∀ W, (Instr.slice (24) (.slice (some ⟨g, 0, none⟩) n cap) (some (.int .i64 ((i : Int) + 1))) none none).run Tryz.prog W = .ok (.slice (some a2) (n - (i + 1)) (cap - (i + 1))) W) ∧ Els vc 2 w (some a2) (ys.drop (i + 1)) := by
  refine ⟨if cap = i + 1 then ⟨g, 0, none⟩ else ⟨g, 0 + (i + 1) * 2, none⟩, fun W => ?_, ?_⟩
  · have := run_slice_l (P := Tryz.prog) W (24) (some ⟨g, 0, none⟩) n cap (by kernel_rfl) .i64 ((i : Int) + 1) (by omega) (by omega)
    rw [this]
    rw [show Tryz.prog.elem (24) = (68) from by kernel_rfl, Tryz.sizeOf68, show ((i : Int) + 1).toNat = i + 1 by omega]
    by_cases h0 : cap = i + 1 <;> simp [sliced, Result.andThen, addr_add, h0]
  · by_cases h0 : cap = i + 1
    · have : ys.drop (i + 1) = [] := List.drop_eq_nil_of_le (by omega)
      rw [this]
      exact Els.nil _ _ _ _
    · rw [if_neg h0]
      exact els_dropV hE (i + 1)
theorem vc_one (x : Vc) : ∀ v ∈ vc x, v.oneCell' = true := by
  intro v hv
  simp [vc] at hv
  rcases hv with rfl | rfl <;> rfl

end Go.Proofs.YticcccciefaemaaGreatDoor.Vx

namespace Go.Proofs.YticcccciefaemaaGreatDoor.Vx
open Go.RowKit Go.Shelf Go.Herb

def RefOfPost (L : Vs) (w : World) (e : Ending) (w' : World) : Prop :=
  ∃ v er, e = .returned (.tuple #[v, .int .i64 er]) ∧ Below w.heap.size w w' ∧ ((er = 0 ∧ okV L ∧ ∃ p la lc xs, v = .pointer (some ⟨p, 0, none⟩) ∧ RefIs w' p la lc xs L) ∨ (er = 4 ∧ ¬ okV L ∧ v = .pointer none))

theorem vin_ext2 {w0 w' : World} {a : Option Addr} {xs : List Vc} (h : VIn w0 a xs) (hb : Below w0.heap.size w0 w') : VIn w' a xs := vin_ext h hb
set_option maxRecDepth 100000 in
set_option maxHeartbeats 2000000 in
theorem refOfL_any (a : Option Addr) (cap : Nat) (xs : List Vc) (w : World) (h : VIn w a xs) (hS : Small (vsOf xs)) :
    Calls Tryz.prog (8) #[.slice a xs.length cap] w (RefOfPost (vsOf xs) w) := by
  have H := Lib.hid h
  have HS := Lib.hid hS
  obtain ⟨N, hN⟩ : ∃ N, N = xs.length := ⟨_, rfl⟩
  have HN := Lib.hid hN
  have hlen : N < 100000 := by have := hS.len; rw [vsOf_len] at this; omega
  rw [← hN]
  clear h hS hN
  go_enter Tryz.func8, Tryz.ntmps8
  go_wp2_with fail
  go_loopg [4] N (fun gk iv wr => ∃ i : Nat, i + gk = N ∧ iv = .int .i64 i ∧ Hid (okV ((vsOf xs).take i)) ∧ Hid (Below w.heap.size w wr))
  case atStart => exact ⟨0, by omega, rfl, Lib.hid ⟨.nil, by simp⟩, Lib.hid (Below.refl _ w)⟩
  case round =>
    obtain ⟨i, hi, rfl, HO, HBW⟩ := hrel
    by_cases hltN : i < N
    · have hlt : i < xs.length := by have := HN.out; omega
      obtain ⟨b, o, rfl, hlb, hcell⟩ := H.out.els.get i hlt
      have x0 := (HBW.out.cell (p := ⟨b, _, none⟩) hlb).trans (hcell 0 _ rfl)
      have x1 := (HBW.out.cell (p := ⟨b, _, none⟩) hlb).trans (hcell 1 _ rfl)
      simp only [Nat.add_zero] at x0 x1
      have hi0 : (0 : Int) ≤ (i : Int) := by omega
      have hi1 : (i : Int) < (N : Int) := by omega
      have hli : i < (vsOf xs).length := by rw [vsOf_len]; exact hlt
      have hgi := vsOf_get xs i hlt
      have HX := Lib.hid (List.getElem_mem hlt)
      have HTI := Lib.hid (show (vsOf xs).take (i + 1) = (vsOf xs).take i ++ [(xs[i].line, xs[i].ps)] from by rw [List.take_succ_eq_append_getElem hli, hgi])
      have hprev : ∀ h0 : 0 < i, ∃ pl, wr.cell? ⟨b, o + (i - 1) * 2, none⟩ = some (.int .u64 pl) ∧ (vsOf xs)[i - 1].1 = pl := fun h0 => by
        obtain ⟨b', o', ha', hlb', hcell'⟩ := H.out.els.get (i - 1) (by omega)
        injection ha' with ha'
        cases ha'
        have := (HBW.out.cell (p := ⟨b, _, none⟩) hlb').trans (hcell' 0 _ rfl)
        simp only [Nat.add_zero] at this
        exact ⟨_, this, by rw [vsOf_get xs (i - 1) (by omega)]⟩
      have HPV := Lib.hid hprev
      have HGI := Lib.hid hgi
      have HLI := Lib.hid hli
      have hpl := HS.out.inn (xs[i].line, xs[i].ps) (by unfold vsOf; exact List.mem_map.2 ⟨xs[i], List.getElem_mem hlt, rfl⟩)
      simp only at hpl
      obtain ⟨x, hxe⟩ : ∃ x, x = xs[i] := ⟨_, rfl⟩
      rw [← hxe] at x0 x1 HTI HGI hpl HX
      have HXE := Lib.hid hxe.symm
      clear hcell hgi hprev hxe
      obtain ⟨xl, xa, xc, xp⟩ := x
      simp only at x0 x1 HTI HGI hpl
      have HXP : Hid (Pts w xa xp) := Lib.hid (H.out.inn _ HX.out)
      obtain ⟨M, hM⟩ : ∃ M, M = xp.length := ⟨_, rfl⟩
      have HM := Lib.hid hM
      rw [← hM] at x1 hpl
      clear hM
      go_upto_region 5 with (fail)
      go_cut [28] (fun v wx => ∃ (c : Bool) (n : Nat), v = .bool c ∧ Hid (c = true → ¬ okV (vsOf xs)) ∧ Hid (c = false → SrtK ((vsOf xs).take (i + 1))) ∧ wx = wr.drewN n)
      case first =>
        by_cases h0 : 0 < i
        · obtain ⟨pl, hpc, hpl2⟩ := HPV.out h0
          have h0' : (0 : Int) < (i : Int) := by omega
          have h0d : decide ((0 : Int) < (i : Int)) = true := decide_eq_true h0'
          have h0e : decide (0 < i) = true := decide_eq_true h0
          have w1 : IntKind.i64.wrap ((i : Int) - 1) = (i : Int) - 1 := IntWalk.i64_in _ (by omega)
          have p1 : (0 : Int) ≤ (i : Int) - 1 := by omega
          have p1' : (1 : Int) ≤ (i : Int) := by omega
          have q1 : ((i : Int) - 1).toNat = i - 1 := by omega
          have r1 : (i : Int) - 1 < (N : Int) := by omega
          have HPL := Lib.hid hpl2
          clear hpl2
          by_cases hle : xl ≤ pl
          · have hled : decide (xl ≤ pl) = true := decide_eq_true hle
            have HB : Hid (¬ okV (vsOf xs)) := Lib.hid (fun hok => by
              have h1 := SrtK.get hok.1 (i := i - 1) (j := i) (by omega) HLI.out
              rw [HPL.out, HGI.out] at h1
              simp only at h1
              omega)
            go_wp2_with fail
            go_quiet (fail)
            go_wp2_with fail
            go_meet
            exact ⟨true, nq, rfl, Lib.hid (fun _ => HB.out), Lib.hid (fun h => by cases h), rfl⟩
          · have hled : decide (xl ≤ pl) = false := decide_eq_false hle
            have HB : Hid (SrtK ((vsOf xs).take (i + 1))) := Lib.hid (HO.out.1.snoc HLI.out (.inr ⟨by have := HLI.out; omega, by rw [HPL.out, HGI.out]; simp only; omega⟩))
            go_wp2_with fail
            go_quiet (fail)
            go_wp2_with fail
            go_meet
            exact ⟨false, nq, rfl, Lib.hid (fun h => by cases h), Lib.hid (fun _ => HB.out), rfl⟩
        · have h0' : ¬ (0 : Int) < (i : Int) := by omega
          have h0d : decide ((0 : Int) < (i : Int)) = false := decide_eq_false h0'
          have h0e : decide (0 < i) = false := decide_eq_false h0
          have HB : Hid (SrtK ((vsOf xs).take (i + 1))) := Lib.hid (HO.out.1.snoc HLI.out (.inl (by omega)))
          go_wp2_with fail
          go_quiet (fail)
          go_wp2_with fail
          go_meet
          exact ⟨false, nq, rfl, Lib.hid (fun h => by cases h), Lib.hid (fun _ => HB.out), rfl⟩
      case rest =>
      obtain ⟨c, n, rfl, HC1, HC2, rfl⟩ := hcut
      obtain ⟨Y, hY⟩ : ∃ Y : World, Y = wr.drewN n := ⟨_, rfl⟩
      have HYB := Lib.hid (show Below w.heap.size w Y by rw [hY]; exact below_drN HBW.out n)
      rw [← hY]
      clear hY x0 x1 HPV
      cases c with
      | true =>
        have HE : Hid (RefOfPost (vsOf xs) w (.returned (.tuple #[.pointer none, .int .i64 4])) Y) := Lib.hid ⟨_, 4, rfl, HYB.out, .inr ⟨rfl, HC1.out rfl, rfl⟩⟩
        go_wp2_with fail
        go_ret2
        exact HE.out
      | false =>
        have HSO := Lib.hid (HC2.out rfl)
        clear HC1 HC2
        go_wp2_with fail
        obtain ⟨g1, rfl⟩ : ∃ g1 : Nat, g1 = gk := ⟨_, rfl⟩
        obtain ⟨wo, rfl⟩ : ∃ wo : World, wo = wr := ⟨_, rfl⟩
        go_loopg [5] M (fun gk kv wr => ∃ k : Nat, k + gk = M ∧ kv = .int .i64 k ∧ Hid (okB (xp.take k)) ∧ Hid (Below w.heap.size w wr))
        case atStart => exact ⟨0, by omega, rfl, Lib.hid ⟨.nil, by simp⟩, HYB⟩
        case round =>
          obtain ⟨k, hk, rfl, HOB, HWW⟩ := hrel
          have hbx : b < w.heap.size := hlb
          obtain ⟨b', o', he', -, hcell⟩ := H.out.els.get i (by have := HN.out; omega)
          injection he' with he'
          cases he'
          have x1 := (HWW.out.cell (p := ⟨b, _, none⟩) hlb).trans (hcell 1 _ rfl)
          have hxe : xs[i]'(by have := HN.out; omega) = ⟨xl, xa, xc, xp⟩ := HXE.out
          rw [hxe] at x1
          clear hcell hxe
          simp only [← HM.out] at x1
          by_cases hkl : k < M
          · have hkx : k < xp.length := by have := HM.out; omega
            obtain ⟨b2, o2, rfl, hlb2, hcell2⟩ := HXP.out.get k hkx
            have z0 : wr.cell? ⟨b2, o2 + k * 2, none⟩ = some (.int .u64 (xp[k]'hkx).1) := (HWW.out.cell (p := ⟨b2, _, none⟩) hlb2).trans (hcell2 0 _ rfl)
            have z1 : wr.cell? ⟨b2, o2 + k * 2 + 1, none⟩ = some (.int .u64 (xp[k]'hkx).2) := (HWW.out.cell (p := ⟨b2, _, none⟩) hlb2).trans (hcell2 1 _ rfl)
            have hk0 : (0 : Int) ≤ (k : Int) := by omega
            have hk1 : (k : Int) < (M : Int) := by omega
            have hprev : ∀ h0 : 0 < k, ∃ pl, (∀ u, Below w.heap.size w u → u.cell? ⟨b2, o2 + (k - 1) * 2, none⟩ = some (.int .u64 pl)) ∧ xp[k - 1].1 = pl := fun h0 => by
              obtain ⟨b', o', ha', hlb', hcell'⟩ := HXP.out.get (k - 1) (by omega)
              injection ha' with ha'
              cases ha'
              exact ⟨_, fun u hu => by
                have := (hu.cell (p := ⟨b2, _, none⟩) hlb').trans (hcell' 0 _ rfl)
                simpa only [Nat.add_zero] using this, rfl⟩
            have HPV2 := Lib.hid hprev
            have HTK := Lib.hid (show xp.take (k + 1) = xp.take k ++ [xp[k]'hkx] from List.take_succ_eq_append_getElem hkx)
            have HQM := Lib.hid (List.getElem_mem hkx)
            have HKX := Lib.hid hkx
            obtain ⟨q, hq⟩ : ∃ q, q = xp[k]'hkx := ⟨_, rfl⟩
            rw [← hq] at z0 z1 HTK HQM
            have HQ := Lib.hid hq
            clear hcell2 hprev hq
            obtain ⟨q1, q2⟩ := q
            simp only at z0 z1
            obtain ⟨P, hP⟩ : ∃ P : World, P = wr.alloc (.cells #[.int .u64 q1, .int .u64 q2] (72)) := ⟨_, rfl⟩
            have hPb : Below wr.heap.size wr P := by rw [hP]; exact (Below.refl _ _).alloc (Nat.le_refl _) _
            have hPx : P.heap[wr.heap.size]? = some (.cells #[.int .u64 q1, .int .u64 q2] (72) (0, 0)) := by rw [hP]; exact blk_new_at rfl _
            have HPB := Lib.hid (HWW.out.trans (hPb.mono HWW.out.size))
            have HPX := Lib.hid hPx
            have P1x := (HPB.out.cell (p := ⟨b, _, none⟩) hlb).trans ((HWW.out.cell (p := ⟨b, _, none⟩) hlb).symm.trans x1)
            clear hPb hPx
            go_upto_region 11 with (fail)
            rw [← hP]
            clear hP z0 z1 x1
            go_cut [68] (fun v wx => ∃ (c : Bool) (n : Nat), v = .bool c ∧ Hid (c = true → ¬ okB xp) ∧ Hid (c = false → okB (xp.take (k + 1))) ∧ wx = P.drewN n)
            case first =>
              have P0 := cell_of_blk HPX.out 0
              have P1 := cell_of_blk HPX.out 1
              simp at P0 P1
              by_cases hq0 : q2 = 0
              · subst hq0
                have HB : Hid (¬ okB xp) := Lib.hid (fun hok => hok.2 _ HQM.out rfl)
                go_wp2_with fail
                go_quiet (fail)
                go_wp2_with fail
                go_meet
                exact ⟨true, nq, rfl, Lib.hid (fun _ => HB.out), Lib.hid (fun h => by cases h), rfl⟩
              · have hq0' : (q2 == 0) = false := by simpa using hq0
                have hq0d : decide (q2 = 0) = false := decide_eq_false hq0
                by_cases h0 : 0 < k
                · obtain ⟨pl, hpc0, hpl2⟩ := HPV2.out h0
                  have hpX := hpc0 P HPB.out
                  have h0' : (0 : Int) < (k : Int) := by omega
                  have h0d : decide ((0 : Int) < (k : Int)) = true := decide_eq_true h0'
                  have h0e : decide (0 < k) = true := decide_eq_true h0
                  have w1 : IntKind.i64.wrap ((k : Int) - 1) = (k : Int) - 1 := IntWalk.i64_in _ (by omega)
                  have p1 : (0 : Int) ≤ (k : Int) - 1 := by omega
                  have p1' : (1 : Int) ≤ (k : Int) := by omega
                  have e1 : ((k : Int) - 1).toNat = k - 1 := by omega
                  have r1 : (k : Int) - 1 < (M : Int) := by omega
                  have HPL := Lib.hid hpl2
                  clear hpc0 hpl2
                  by_cases hle : q1 ≤ pl
                  · have hled : decide (q1 ≤ pl) = true := decide_eq_true hle
                    have HB : Hid (¬ okB xp) := Lib.hid (fun hok => by
                      have h1 := SrtK.get hok.1 (i := k - 1) (j := k) (by omega) HKX.out
                      rw [HPL.out, ← HQ.out] at h1
                      simp only at h1
                      omega)
                    go_wp2_with fail
                    go_quiet (fail)
                    go_wp2_with fail
                    go_meet
                    exact ⟨true, nq, rfl, Lib.hid (fun _ => HB.out), Lib.hid (fun h => by cases h), rfl⟩
                  · have hled : decide (q1 ≤ pl) = false := decide_eq_false hle
                    have HB : Hid (okB (xp.take (k + 1))) := Lib.hid ⟨HOB.out.1.snoc HKX.out (.inr ⟨by have := HKX.out; omega, by rw [HPL.out, ← HQ.out]; simp only; omega⟩), fun r hr => by
                      rw [HTK.out] at hr
                      rcases List.mem_append.1 hr with hr | hr
                      · exact HOB.out.2 r hr
                      · rw [List.mem_singleton.1 hr]; exact hq0⟩
                    go_wp2_with fail
                    go_quiet (fail)
                    go_wp2_with fail
                    go_meet
                    exact ⟨false, nq, rfl, Lib.hid (fun h => by cases h), Lib.hid (fun _ => HB.out), rfl⟩
                · have h0' : ¬ (0 : Int) < (k : Int) := by omega
                  have h0d : decide ((0 : Int) < (k : Int)) = false := decide_eq_false h0'
                  have h0e : decide (0 < k) = false := decide_eq_false h0
                  have HB : Hid (okB (xp.take (k + 1))) := Lib.hid ⟨HOB.out.1.snoc HKX.out (.inl (by omega)), fun r hr => by
                      rw [HTK.out] at hr
                      rcases List.mem_append.1 hr with hr | hr
                      · exact HOB.out.2 r hr
                      · rw [List.mem_singleton.1 hr]; exact hq0⟩
                  go_wp2_with fail
                  go_quiet (fail)
                  go_wp2_with fail
                  go_meet
                  exact ⟨false, nq, rfl, Lib.hid (fun h => by cases h), Lib.hid (fun _ => HB.out), rfl⟩
            case rest =>
            obtain ⟨c, n2, rfl, HC1, HC2, rfl⟩ := hcut
            obtain ⟨Z, hZ⟩ : ∃ Z : World, Z = P.drewN n2 := ⟨_, rfl⟩
            have HZB := Lib.hid (show Below w.heap.size w Z by rw [hZ]; exact below_drN HPB.out n2)
            rw [← hZ]
            clear hZ P1x HPV2
            cases c with
            | true =>
              have HE : Hid (RefOfPost (vsOf xs) w (.returned (.tuple #[.pointer none, .int .i64 4])) Z) := Lib.hid ⟨_, 4, rfl, HZB.out, .inr ⟨rfl, fun hok => HC1.out rfl (hok.2 (xl, xp) (by unfold vsOf; exact List.mem_map.2 ⟨_, HX.out, rfl⟩)), rfl⟩⟩
              go_wp2_with fail
              go_ret2
              exact HE.out
            | false =>
              have HOK6 := Lib.hid (HC2.out rfl)
              clear HC1 HC2
              go_wp2_with fail
              go_roundg (gk - 1)
              case measure => omega
              case rel => exact ⟨k + 1, by omega, by go_num, HOK6, HZB⟩
          · have hke : k = xp.length := by have := HM.out; omega
            have hOB : okB xp := by have := HOB.out; rwa [hke, List.take_length] at this
            have HO6 := Lib.hid (show okV ((vsOf xs).take (i + 1)) from ⟨HSO.out, fun r hr => by
              rw [HTI.out] at hr
              rcases List.mem_append.1 hr with hr | hr
              · exact HO.out.2 r hr
              · rw [List.mem_singleton.1 hr]; exact hOB⟩)
            clear hOB hke
            go_wp2_with fail
            go_roundg (g1 - 1)
            case measure => omega
            case rel => exact ⟨i + 1, by omega, by go_num, HO6, HWW⟩
    · have hok : okV (vsOf xs) := by
        have h1 := HO.out
        rwa [List.take_of_length_le (by rw [vsOf_len]; have := HN.out; omega)] at h1
      have HG := Lib.hid (okV.good hok (fun p hp => by
        obtain ⟨x, hx, rfl⟩ := List.mem_map.1 hp
        exact H.out.wf x hx))
      have HOK := Lib.hid hok
      clear hok
      go_wp2_with fail
      refine (refCopied_any a cap N xs wr (vin_ext2 H.out HBW.out) HN.out.symm HS.out).mono ?_
      rintro e w3 ⟨v, ys, rfl, hC, hb3⟩
      obtain ⟨va, vn, vc', rfl⟩ : ∃ va vn vc', v = .slice va vn vc' := by
        obtain ⟨a', c', e, -⟩ := own_parts hC.own
        exact ⟨_, _, _, e⟩
      have hbZ : Below w3.heap.size w3 (w3.alloc (.cells #[.slice va vn vc'] (83))) := (Below.refl _ _).alloc (Nat.le_refl _) _
      have HE := Lib.hid (show RefOfPost (vsOf xs) w (.returned (.tuple #[.pointer (some ⟨w3.heap.size, 0, none⟩), .int .i64 0])) (w3.alloc (.cells #[.slice va vn vc'] (83))) from
        ⟨_, 0, rfl, HBW.out.trans ((hb3.trans (hbZ.mono hb3.size)).mono HBW.out.size), .inl ⟨rfl, HOK.out, _, _, _, _, rfl, (hC.below hbZ).ref HG.out (blk_new_at rfl _)⟩⟩)
      clear hC hb3 hbZ
      go_wp2_with fail
      go_ret2
      exact HE.out
end Go.Proofs.YticcccciefaemaaGreatDoor.Vx

namespace Go.Herb
theorem mixB_len (l : Bh) : ∀ b : Bh, (mixB b l).length ≤ b.length + l.length := by
  unfold mixB
  induction l with
  | nil => intro b; simp
  | cons p l ih =>
    intro b
    rw [List.foldl_cons]
    have h1 := ih (mxB b p.1 p.2)
    have h2 : (mxB b p.1 p.2).length ≤ b.length + 1 := putS_len
    simp only [List.length_cons]
    omega
theorem Good.take {b : Bh} (h : Good b) (k : Nat) : Good (b.take k) := ⟨h.srt.take k, fun p hp => h.pos p (List.mem_of_mem_take hp), fun p hp => h.wf p (List.mem_of_mem_take hp)⟩
end Go.Herb
namespace Go.Proofs.YticcccciefaemaaGreatDoor.Vx
open Go.RowKit Go.Shelf Go.Herb

theorem NAt.get {B q g n cap i : Nat} {u : World} {ys : List Vc} {L : Vs} {p : Int × Bh} (h : NAt B q g n cap u ys L) (hp : L[i]? = some p) : ∃ y, ys[i]? = some y ∧ y.line = p.1 ∧ y.ps = p.2 := by
  have h1 := hp
  rw [← h.cp.vs] at h1
  unfold vsOf at h1
  rw [List.getElem?_map] at h1
  obtain ⟨y, h2, h3⟩ := Option.map_eq_some_iff.1 h1
  exact ⟨y, h2, by rw [← h3], by rw [← h3]⟩
end Go.Proofs.YticcccciefaemaaGreatDoor.Vx

namespace Go.Proofs.YticcccciefaemaaGreatDoor.Vx
open Go.RowKit Go.Shelf Go.Herb

theorem OwnP.none0 {B : Nat} {w : World} {a : Option Addr} {n c : Nat} {ps : Bh} (h : OwnP B w (.slice a n c) ps) : a = none → c = 0 := by
  intro ha
  rcases h with ⟨_, ⟨h1, _⟩ | ⟨g, cap, cur, hv, _⟩⟩
  · cases h1; rfl
  · cases hv; cases ha
theorem run_append_pts (w : World) (B : Nat) (v : Value) (ss : Bh) (ab : Option Addr) (cb k : Nat) (bs : Bh) (hk : bs.length = k) (ho : OwnP B w v ss) (hT : Pts w ab bs) (hx : ss.length < 1000000) (hb : k < 1000000) (hn : ab = none → cb = 0) (hB : B ≤ w.heap.size) (ty : TypeId) :
    ∃ v' w', (Builtin.append_ #[(66), (66)] ty #[v, .slice ab k cb]).run Tryz.prog w = .ok v' w' ∧ OwnP B w' v' (ss ++ bs) ∧ w.grownBy w' v.ownBlock := by
  subst hk
  obtain ⟨i0, hin, hz0, hz1, hz2⟩ := info_parts infoP
  cases ab with
  | none =>
    have h0 : bs = [] := by
      cases bs with
      | nil => rfl
      | cons x xs => obtain ⟨b, o, h, _⟩ := hT.get 0 (by simp); cases h
    subst h0
    rw [hn rfl]
    obtain ⟨av, cv, rfl, -⟩ := own_parts ho
    have := run_append_owned_none (P := Tryz.prog) w B (66) ty (72) i0 2 Tryz.underlying66 hin _ _ _ ho
    exact ⟨_, w, this, by simpa using ho, grown_refl _ _⟩
  | some ad =>
    obtain ⟨v', w', hr, h2, h3, h4⟩ := run_append_own (P := Tryz.prog) w B (66) ty (72) i0 _ 2 16 Tryz.underlying66 hin hz0 hz1 hz2 rfl (by decide) v ss.length (ss.flatMap pc) ho ad bs.length cb (bs.flatMap pc) (flatMap_len pc_len _) (hT.flat pc_len (by decide)) (fun u hu => by
      obtain ⟨q, _, hq⟩ := List.mem_flatMap.1 hu
      exact pc_one q u hq) (by unfold maxLen; omega) (by omega) hB
    refine ⟨v', w', hr, ?_, h3⟩
    unfold OwnP
    rw [List.length_append, List.flatMap_append]
    exact h2
theorem wp_append_pts {w : World} {o : Oper} {a : Act} {K : Act → World → Prop} {Q : Exit → Act → World → Prop} (s x : Operand) (ho : o.op = .call { callee := .builtin .append, args := #[s, x], argTypes := #[(66), (66)] })
    (B : Nat) (v : Value) (ss : Bh) (ab : Option Addr) (cb k : Nat) (bs : Bh) (hk : bs.length = k) (hs : a.eval s = v) (hx : a.eval x = .slice ab k cb) (hown : OwnP B w v ss) (hT : Pts w ab bs) (hl : ss.length < 1000000) (hb : k < 1000000) (hn : ab = none → cb = 0) (hB : B ≤ w.heap.size)
    (h : ∀ v' w', OwnP B w' v' (ss ++ bs) → w.grownBy w' v.ownBlock → K (a.put o.dst v') w') : o.wp Tryz.prog a w K Q := by
  obtain ⟨v', w', hr, h2, h3⟩ := run_append_pts w B v ss ab cb k bs hk hown hT hl hb hn hB o.type
  unfold Oper.wp execOp
  simp only [ho, resolve, invoke, builtin, Sem.run_bind, Sem.run_pure, Result.andThen_ok, List.map_toArray, List.map_cons, List.map_nil, hs, hx, hr]
  exact h v' w' h2 h3
theorem els_dropP {w : World} {b o : Nat} {ks : Bh} (h : Els pc 2 w (some ⟨b, o, none⟩) ks) (k : Nat) : Els pc 2 w (some ⟨b, o + k * 2, none⟩) (ks.drop k) :=
  ⟨fun i hi => by
    obtain ⟨b', o', ha, hlt, hc⟩ := h.get (k + i) (by simp at hi; omega)
    injection ha with ha
    cases ha
    refine ⟨b, o + k * 2, rfl, hlt, fun j c hj => ?_⟩
    rw [List.getElem_drop] at hj
    have := hc j c hj
    rwa [show o + k * 2 + i * 2 + j = o + (k + i) * 2 + j by omega]⟩
/-- 's[:k]' of points. -/
theorem slice_loP {w : World} {ka : Option Addr} {kc k n : Nat} {ks : Bh} (hE : Pts w ka ks) (_ : ks.length = n) (hle : n ≤ kc) (hk : k ≤ n) (h0 : ka = none → kc = 0) :
    ∃ a1, (∀ W, (Instr.slice (66) (.slice ka n kc) none (some (.int .i64 k)) none).run Tryz.prog W = .ok (.slice a1 k kc) W) ∧ Pts w a1 (ks.take k) ∧ (a1 = none → kc = 0) := by
  refine ⟨if kc = 0 then ka else ka.map (·.add (0 * 2)), fun W => ?_, ?_, ?_⟩
  · rw [run_slice_h (P := Tryz.prog) W (66) ka n kc (by kernel_rfl) .i64 k (by omega) (by omega)]
    rw [show Tryz.prog.elem (66) = (72) from by kernel_rfl, Tryz.sizeOf72]
    simp [sliced, Result.andThen]
  · by_cases hz : kc = 0
    · have : ks.take k = [] := List.length_eq_zero_iff.1 (by simp; omega)
      rw [this]
      exact Els.nil _ _ _ _
    · rw [if_neg hz]
      cases ka with
      | none => exact absurd (h0 rfl) hz
      | some ad =>
        have : ad.add (0 * 2) = ad := by unfold Addr.add; simp
        rw [Option.map_some, this]
        exact hE.take k
  · intro h
    by_cases hz : kc = 0
    · exact hz
    · rw [if_neg hz] at h
      cases ka with
      | none => exact h0 rfl
      | some ad => cases h
/-- 's[k:]' of points. -/
theorem slice_hiP {w : World} {ka : Option Addr} {kc k n : Nat} {ks : Bh} (hE : Pts w ka ks) (hn : ks.length = n) (hle : n ≤ kc) (hk : k ≤ n) (h0 : ka = none → kc = 0) :
    ∃ a2, (∀ W, (Instr.slice (66) (.slice ka n kc) (some (.int .i64 k)) none none).run Tryz.prog W = .ok (.slice a2 (n - k) (kc - k)) W) ∧ Pts w a2 (ks.drop k) ∧ (a2 = none → kc - k = 0) := by
  refine ⟨if kc = k then ka else ka.map (·.add (k * 2)), fun W => ?_, ?_, ?_⟩
  · rw [run_slice_l (P := Tryz.prog) W (66) ka n kc (by kernel_rfl) .i64 k (by omega) (by omega)]
    rw [show Tryz.prog.elem (66) = (72) from by kernel_rfl, Tryz.sizeOf72]
    simp [sliced, Result.andThen]
  · by_cases hz : kc = k
    · have : ks.drop k = [] := List.length_eq_zero_iff.1 (by simp; omega)
      rw [this]
      exact Els.nil _ _ _ _
    · rw [if_neg hz]
      cases ka with
      | none => exact absurd (h0 rfl) (by intro h; omega)
      | some ad =>
        rw [Option.map_some]
        by_cases hd : ks.drop k = []
        · rw [hd]; exact Els.nil _ _ _ _
        · obtain ⟨b, o, ha, _⟩ := hE.get 0 (by
            rcases Nat.eq_zero_or_pos ks.length with h | h
            · exact absurd (List.length_eq_zero_iff.1 (by simp; omega)) hd
            · exact h)
          injection ha with ha
          subst ha
          rw [addr_add]
          exact els_dropP hE k
  · intro h
    by_cases hz : kc = k
    · omega
    · rw [if_neg hz] at h
      cases ka with
      | none => have := h0 rfl; omega
      | some ad => cases h
theorem pts_of_one {w : World} {b : Nat} {x y : Int} (h : w.heap[b]? = some (.cells #[.int .u64 x, .int .u64 y] (72) (0, 0))) : Pts w (some ⟨b, 0, none⟩) [(x, y)] := by
  refine ⟨fun i hi => ⟨b, 0, rfl, lt_of_blk h, fun j c hj => ?_⟩⟩
  have : i = 0 := by simpa using hi
  subst this
  rw [cell_of_blk h]
  simp only [List.getElem_cons_zero, pc] at hj
  simpa using hj
end Go.Proofs.YticcccciefaemaaGreatDoor.Vx
