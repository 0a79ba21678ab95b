/- views.sorted and views.Of. Condition: fewer than 1000000 facts. -/
import Derived.Test.YtenocakpipppiaaGreatDoorK7
import Derived.Laws.OwnMore
import Derived.Lib.AppendZeros
namespace Go.Proofs.YtenocakpipppiaaGreatDoor
open Go.RowKit Go.Shelf Go.Herb

theorem Tryz.info50 : (Tryz.prog.info? 50).map (fun i => (i.zero, i.size, i.bytes)) = some (some (.agg #[.string .empty, .int .u32 0, .int .u64 0, .int .u64 0, .int .u8 0, .string .empty]), 6, 64) := by kernel_rfl

theorem clipF_any (a : Option Addr) (cap n : Nat) (w : World) (hn : a = none → n = 0 ∧ cap = 0) (hl : n < 1000000) (hle : n ≤ cap) (hm : cap ≤ maxLen) :
    Calls Tryz.prog 39 #[.slice a n cap] w fun e w' => e = .returned (.slice a n n) ∧ w = w' := by
  cases a with
  | none =>
    obtain ⟨rfl, rfl⟩ := hn rfl
    clear hn
    go_enter Tryz.func39, Tryz.ntmps39
    go_wp2
    go_ret
    exact ⟨rfl, rfl⟩
  | some ad =>
    clear hn
    unfold maxLen at hm
    go_enter Tryz.func39, Tryz.ntmps39
    go_wp2
    go_ret
    exact ⟨rfl, rfl⟩

/-- Facts that a call owns. -/
def OwnF (B : Nat) (w : World) (v : Value) (xs : List Fc) : Prop := w.ownsRow B 50 6 v xs.length (xs.flatMap fc)

theorem fc_flat_one (xs : List Fc) : ∀ v ∈ xs.flatMap fc, v.oneCell' = true := by
  intro v hv
  obtain ⟨x, _, hx⟩ := List.mem_flatMap.1 hv
  exact fc_one x v hx

theorem els_of_one {w : World} {vb : Nat} {x : Fc} (hb : w.heap[vb]? = some (.cells (fc x).toArray 50 (0, 0))) : Facts w (some ⟨vb, 0, none⟩) [x] := by
  refine ⟨fun i hi => ⟨vb, 0, rfl, lt_of_blk hb, fun j c hj => ?_⟩⟩
  have : i = 0 := by simpa using hi
  subst this
  rw [cell_of_blk hb]
  simpa using hj

theorem run_append_facts (w : World) (B : Nat) (v : Value) (xs : List Fc) (ab : Option Addr) (cb : Nat) (bs : List Fc) (ho : OwnF B w v xs) (hT : Facts w ab bs) (hx : xs.length < 1000000) (hb : bs.length < 1000000) (hn : ab = none → cb = 0) (hB : B ≤ w.heap.size) (ty : TypeId) :
    ∃ v' w', (Builtin.append_ #[22, 22] ty #[v, .slice ab bs.length cb]).run Tryz.prog w = .ok v' w' ∧ OwnF B w' v' (xs ++ bs) ∧ w.grownBy w' v.ownBlock := by
  obtain ⟨i0, hin, hz0, hz1, hz2⟩ := info_parts Tryz.info50
  cases ab with
  | none =>
    have h0 : bs = [] := by
      cases bs with
      | nil => rfl
      | cons x xs => obtain ⟨b, o, h, _⟩ := hT.get 0 (by simp); cases h
    subst h0
    rw [hn rfl]
    obtain ⟨av, cv, rfl, hle, -⟩ := els_of_owns fc_len ho
    have := run_append_owned_none (P := Tryz.prog) w B 22 ty 50 i0 6 Tryz.underlying22 hin _ _ _ ho
    exact ⟨_, w, this, by simpa using ho, grown_refl _ _⟩
  | some ad =>
    obtain ⟨v', w', hr, h2, h3, h4⟩ := run_append_own (P := Tryz.prog) w B 22 ty 50 i0 _ 6 64 Tryz.underlying22 hin hz0 hz1 hz2 rfl (by decide) v xs.length (xs.flatMap fc) ho ad bs.length cb (bs.flatMap fc) (flatMap_len fc_len _) (hT.flat fc_len (by decide)) (fc_flat_one _) (by unfold maxLen; omega) (by omega) hB
    refine ⟨v', w', hr, ?_, h3⟩
    unfold OwnF
    rw [List.length_append, List.flatMap_append]
    exact h2

theorem OwnF.below {B : Nat} {w w' : World} {v : Value} {ts : List Fc} (h : OwnF B w v ts) (hb : Below w.heap.size w w') : OwnF B w' v ts := ownsRow_below h hb (Nat.le_refl _)

def SortedPost (zs : List Fc) (w : World) (e : Ending) (w' : World) : Prop :=
  ∃ (a : Option Addr) (ys : List Fc), e = .returned (.slice a ys.length ys.length) ∧ ys.Perm zs ∧ ys.Pairwise (fun x y => ¬ LtF y x) ∧ Facts w' a ys ∧ (a = none → ys = []) ∧ Below w.heap.size w w'

set_option maxRecDepth 100000 in
set_option maxHeartbeats 1000000 in
theorem sortedV_any (b : Nat) (m : List (Spot × Fc)) (w : World) (hM : MapS w b m) (hlen : m.length < 1000000) : Calls Tryz.prog 22 #[.map (some b)] w (SortedPost (m.map (·.2)) w) := by
  obtain ⟨i0, hi, hz0, hz1, hz2⟩ := info_parts Tryz.info50
  have hbw := hM.lt
  obtain ⟨w1, hrun, hIt, hB1, hs1⟩ := hM.range Tryz.underlying55
  have HIT := Lib.hid hIt
  have HB1 := Lib.hid hB1
  have HS1 := Lib.hid hs1
  clear hIt hB1 hs1 hM
  go_enter Tryz.func22, Tryz.ntmps22
  go_wp2_with fail
  go_loopg [3] m.length (fun gk v wr => ∃ done todo : List (Spot × Fc), todo.length = gk ∧ m.Perm (done ++ todo) ∧ IterIs Tryz.prog 87 eS fv wr b w.heap.size m todo ∧ OwnF (w.heap.size + 1) wr v (done.map (·.2)) ∧ Below w.heap.size w wr ∧ w.heap.size < wr.heap.size)
  case atStart => exact ⟨[], m, rfl, List.Perm.refl _, HIT.out, World.ownsRow_nil _ _ _ _, HB1.out, by have := HS1.out; omega⟩
  case round =>
    obtain ⟨done, todo, htl, hpm, hit, hown, hBw, hws⟩ := hrel
    have hdl : done.length + todo.length = m.length := by have := hpm.length_eq; simp at this; omega
    have HPM := Lib.hid hpm
    have HBW := Lib.hid hBw
    clear hpm hBw
    rcases hit.next 0 with ⟨ht0, hnx⟩ | ⟨p, todo', w2, htp, hpm2, hnx, hit2, hg2, hs2, hen⟩
    · subst ht0
      have hfin : (done.map (·.2)).Perm (m.map (·.2)) := by
        have := HPM.out
        rw [List.append_nil] at this
        exact (this.map _).symm
      have HFIN := Lib.hid hfin
      clear hit hfin
      rcases row_of_owns hown with ⟨rfl, hnil⟩ | ⟨g, cap, rfl, hg, hR⟩
      · have HNIL := Lib.hid hnil
        clear hown hnil
        go_wp2_with (first | (go_at_call 33; refine (sortFunc_none none 0 _ _).mono ?_; rintro e w3 ⟨rfl, rfl⟩) | (go_at_call 39; refine (clipF_any none 0 0 _ (fun _ => ⟨rfl, rfl⟩) (by decide) (Nat.le_refl _) (Nat.zero_le _)).mono ?_; rintro e w4 ⟨rfl, rfl⟩))
        go_ret
        have hnil := HNIL.out
        have hz := HFIN.out
        rw [hnil] at hz
        exact ⟨none, [], rfl, hz, List.Pairwise.nil, Els.nil _ _ _ _, fun _ => rfl, HBW.out⟩
      · have hcon := sortFunc_any g cap (done.map (·.2)) wr hR (by simp; omega)
        have hdz : (done.map (·.2)).length < 1000000 := by simp; omega
        have hmx := hR.max
        generalize done.map (·.2) = zs at *
        have HR := Lib.hid hR
        clear hown hR
        go_wp2_with fail
        refine hcon.mono ?_
        rintro e w3 ⟨rfl, ys, hyp, hys, hR3, hg3⟩
        have hyl : ys.length = zs.length := hyp.length_eq
        have hle3 := hR3.le
        rw [← hyl]
        have HYP := Lib.hid hyp
        have HYS := Lib.hid hys
        have HR3 := Lib.hid hR3
        have HG3 := Lib.hid hg3
        have hyz : ys.length < 1000000 := by omega
        clear hyp hys hR3 hg3 hyl hcon
        go_wp2_with (go_at_call 39; refine (clipF_any (some ⟨g, 0, none⟩) cap ys.length w3 (fun h => by cases h) hyz hle3 hmx).mono ?_; rintro e w4 ⟨rfl, rfl⟩)
        go_ret
        exact ⟨some ⟨g, 0, none⟩, ys, rfl, HYP.out.trans HFIN.out, HYS.out, HR3.out.els fc_len, fun h => (by cases h), HBW.out.grown HG3.out HBW.out.size (fun k e => by cases e; omega)⟩
    · have hB2 : Below w.heap.size w w2 := HBW.out.grown hg2 HBW.out.size (fun k e => by cases e; exact Nat.le_refl _)
      have hrow : ∀ k, u3.ownBlock = some k → w.heap.size + 1 ≤ k := fun k hk => (World.ownsRow.lt hown k hk).1
      have hown2 : OwnF (w.heap.size + 1) w2 u3 (done.map (·.2)) := by
        refine World.ownsRow.kept hown hg2 (.inr (fun h => ?_))
        have := hrow _ h
        omega
      have hw2 : w.heap.size + 1 ≤ w2.heap.size := by omega
      obtain ⟨X, hX⟩ : ∃ X : World, X = (w2.alloc (.cells (fc p.2).toArray 50)).alloc (.cells (fc p.2).toArray 50) := ⟨_, rfl⟩
      have hBX : Below w2.heap.size w2 X := by rw [hX]; exact ((Below.refl _ _).alloc (Nat.le_refl _) _).alloc (by simp) _
      have hXs : X.heap.size = w2.heap.size + 2 := by rw [hX]; simp
      have hzX : X.heap[w2.heap.size + 1]? = some (.cells (fc p.2).toArray 50 (0, 0)) := by rw [hX]; exact blk_new_at (by simp) _
      obtain ⟨v', w', hrunA, hO', hg'⟩ := run_append_facts X (w.heap.size + 1) u3 (done.map (·.2)) (some ⟨w2.heap.size + 1, 0, none⟩) 1 [p.2] (hown2.below hBX) (els_of_one hzX) (by simp; omega) (by simp) (fun h => by cases h) (by omega) 22
      have hrunA' : (Builtin.append_ #[22, 22] 22 #[u3, .slice (some ⟨w2.heap.size + 1, 0, none⟩) 1 1]).run Tryz.prog X = .ok v' w' := hrunA
      rw [hX] at hrunA'
      have hblk : ∀ c, c < w.heap.size + 1 → w'.heap[c]? = w2.heap[c]? := fun c hc => (hg'.block c (by omega) (fun e => by have := hrow c e.symm; omega)).trans (hBX.block c (by omega))
      have hB' : Below w.heap.size w w' := (hB2.trans (hBX.mono (by omega))).grown hg' (by omega) (fun k e => by have := hrow k e; omega)
      have hs' : X.heap.size ≤ w'.heap.size := hg'.size
      have hO'' : OwnF (w.heap.size + 1) w' v' ((done ++ [p]).map (·.2)) := by rw [List.map_append]; exact hO'
      have hpm' : m.Perm ((done ++ [p]) ++ todo') := by
        refine HPM.out.trans ?_
        rw [List.append_assoc]
        exact htp.append_left done
      have hit' : IterIs Tryz.prog 87 eS fv w' b w.heap.size m todo' := hit2.same (hblk b (by omega)) (hblk _ (by omega))
      have htl' : todo.length = todo'.length + 1 := by have := htp.length_eq; simpa using this
      have HRUN := Lib.hid hrunA'
      have HO := Lib.hid hO''
      have HP' := Lib.hid hpm'
      have HI' := Lib.hid hit'
      have HB' := Lib.hid hB'
      have hws' : w.heap.size < w'.heap.size := by omega
      clear hrunA hrunA' hO' hO'' hpm' hit' hB' hblk hg' hBX hzX hX hown2 hown hit hit2 hg2 hB2 htp hpm2 HPM HBW hrow hXs hs' hs2
      simp only [fc] at HRUN
      go_wp2_with (at_builtin; refine Lib.wpList_append_run _ rfl _ _ _ _ rfl _ _ rfl rfl _ _ (HRUN.out) ?_)
      go_roundg (gk - 1)
      case measure => omega
      case rel => exact ⟨done ++ [p], todo', by omega, HP'.out, HI'.out, HO.out, HB'.out, hws'⟩

/-- The facts that are seen. -/
abbrev seenL (xs : List Fc) (cs : List Lk) (at_ : Int) : List Fc := xs.filter (seenB (uptoM (backs cs cs.length)) at_)
/-- The last of each key and time. -/
abbrev lastL (xs : List Fc) : List Fc := (lastM xs).map (·.2)

set_option maxHeartbeats 1000000 in
theorem viewsOf_any (al : Option Addr) (cl : Nat) (xs : List Fc) (ac : Option Addr) (cc : Nat) (cs : List Lk) (at_ : Int) (w : World) (hL : Facts w al xs) (hC : Links w ac cs) (hx : xs.length < 1000000) (hc : cs.length < 1000000) :
    Calls Tryz.prog 7 #[.slice al xs.length cl, .slice ac cs.length cc, .int .u64 at_] w (SortedPost (lastL (seenL xs cs at_)) w) := by
  have HL := Lib.hid hL
  have HC := Lib.hid hC
  clear hL hC
  go_enter Tryz.func7, Tryz.ntmps7
  go_wp2_with fail
  refine (seen_any al xs.length cl ac cc cs at_ w HC.out hc).mono ?_
  rintro e w1 ⟨bl, bu, ba, bm, rfl, hB1, hV⟩
  have HB1 := Lib.hid hB1
  have HV := Lib.hid hV
  clear hB1 hV
  go_wp2_with fail
  refine (last_any 41 _ (seenL xs cs at_) (fun pre => pre <+: seenL xs cs at_) xs.length w1.heap.size hx w1 (Nat.le_refl _) (enters_of Tryz.func41 (by kernel_rfl) rfl) (seen1_stops 2 (by omega) bl bu ba bm al cl xs hx _ at_ w1 HV.out (HL.out.ext HB1.out))).mono ?_
  rintro e w2 ⟨b, rfl, hb, hB2, hM⟩
  have HB2 := Lib.hid hB2
  have HM := Lib.hid hM
  clear hB2 hM
  go_wp2_with fail
  refine (sortedV_any b _ w2 HM.out (by
    have h1 := lastM_len (seenL xs cs at_)
    have h2 : (seenL xs cs at_).length ≤ xs.length := List.length_filter_le _ _
    omega)).mono ?_
  rintro e w3 ⟨a, ys, rfl, hp, hs, hF, hn, hB3⟩
  have HP := Lib.hid hp
  have HS := Lib.hid hs
  have HF := Lib.hid hF
  have HN := Lib.hid hn
  have HB3 := Lib.hid hB3
  clear hp hs hF hn hB3
  go_wp2
  go_ret
  exact ⟨a, ys, rfl, HP.out, HS.out, HF.out, HN.out, HB1.out.trans ((HB2.out.trans (HB3.out.mono HB2.out.size)).mono HB1.out.size)⟩
end Go.Proofs.YtenocakpipppiaaGreatDoor
