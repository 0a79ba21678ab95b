/- lines: Prune. Condition: the lines are formed, at most 48; at most 12 branches, 100 numbers. -/
import Derived.Test.YtacibennmcegfaaDoorLT2
import Derived.Test.YtacibennmcegfaaDoorLT3
import Derived.Test.YtacibennmcegfaaDoorLP9
import Derived.Test.YtacibennmcegfaaDoorLT4
namespace Go.Herb
open Go.RowKit
def markOf (k : Nat) : Deferred := { target := .collected k, args := #[] }
/-- The marks of loops over functions that have ended. -/
structure Marks (B : Nat) (ds : List Deferred) (W : World) : Prop where
  out : ∃ ks : List Nat, ds = ks.map markOf ∧ ks.Nodup ∧ ∀ k ∈ ks, B ≤ k ∧ W.heap[k]? = some (.deferred (some []))
theorem Marks.nil (B : Nat) (W : World) : Marks B [] W := ⟨[], rfl, List.nodup_nil, fun _ h => by cases h⟩
theorem Marks.cons {B k : Nat} {ds : List Deferred} {A W : World} (h : Marks B ds A) (hk : W.heap[k]? = some (.deferred (some []))) (hB : B ≤ k) (hn : A.heap.size ≤ k) (hs : ∀ (j : Nat), A.heap[j]? = some (.deferred (some [])) → W.heap[j]? = some (.deferred (some []))) : Marks B (markOf k :: ds) W := by
  obtain ⟨ks, rfl, h2, h3⟩ := h.out
  refine ⟨k :: ks, rfl, List.nodup_cons.2 ⟨fun hm => ?_, h2⟩, fun j hj => ?_⟩
  · have := lt_of_blk (h3 k hm).2
    omega
  · rcases List.mem_cons.1 hj with rfl | hj
    · exact ⟨hB, hk⟩
    · exact ⟨(h3 j hj).1, hs j (h3 j hj).2⟩
theorem Marks.keep {B : Nat} {ds : List Deferred} {A W : World} (h : Marks B ds A) (hs : ∀ (j : Nat), A.heap[j]? = some (.deferred (some [])) → W.heap[j]? = some (.deferred (some []))) : Marks B ds W := by
  obtain ⟨ks, h1, h2, h3⟩ := h.out
  exact ⟨ks, h1, h2, fun j hj => ⟨(h3 j hj).1, hs j (h3 j hj).2⟩⟩
/-- What the marks' taking over leaves as it was. -/
structure MarksOff (B : Nat) (A W : World) : Prop where
  below : Below B A W
  cells : ∀ (k : Nat) (o : Obj), A.heap[k]? = some o → o.isCells = true → W.heap[k]? = some o
  size : W.heap.size = A.heap.size
theorem leaves_marks {F : Fence} {n : Nat} {P : Program} {fn : Func} {tmps : Array Value} {R : Ending → World → Prop} {B : Nat} : ∀ (ds : List Deferred) (W : World), Marks B ds W →
    (∀ W', MarksOff B W W' → LeavesInM F n P fn tmps R [] .returning W') → LeavesInM F n P fn tmps R ds .returning W := by
  intro ds
  induction ds with
  | nil => exact fun W _ h => h W ⟨Below.refl _ _, fun _ _ h _ => h, rfl⟩
  | cons d ds ih =>
    intro W hM h
    obtain ⟨ks, h1, h2, h3⟩ := hM.out
    cases ks with
    | nil => cases h1
    | cons k ks =>
      rw [List.map_cons] at h1
      injection h1 with h1 h4
      obtain ⟨hBk, hk⟩ := h3 k List.mem_cons_self
      refine ⟨by simp, .inl ⟨k, W.putObj k (.deferred none), by rw [h1]; rfl, run_takeDeferred hk, ih _ ⟨ks, h4, (List.nodup_cons.1 h2).2, fun j hj => ⟨(h3 j (List.mem_cons_of_mem _ hj)).1, ?_⟩⟩ (fun W' hW' => h W' ?_)⟩⟩
      · rw [World.putObj_heap_other (by rintro rfl; exact (List.nodup_cons.1 h2).1 hj)]
        exact (h3 j (List.mem_cons_of_mem _ hj)).2
      · have hb : Below B W (W.putObj k (.deferred none)) := ⟨rfl, rfl, rfl, by simp [World.putObj], fun j hj => World.putObj_heap_other (by omega)⟩
        refine ⟨hb.trans hW'.below, fun j o ho hc => hW'.cells j o ?_ hc, hW'.size.trans (by simp [World.putObj])⟩
        rw [World.putObj_heap_other (by rintro rfl; rw [hk] at ho; cases ho; cases hc)]
        exact ho
theorem els_turn {α : Type} {enc : α → List Value} {s b : Nat} {w u : World} {a : Option Addr} {xs : List α} (h : Els enc s w a xs) (ht : TurnI b w u) (hne : ∀ ad, a = some ad → ad.block ≠ b) : Els enc s u a xs :=
  ⟨fun i hi => by
    obtain ⟨g, o, ha, hlt, hc⟩ := h.get i hi
    have e : u.heap[g]? = w.heap[g]? := by
      rw [Array.getElem?_eq_getElem hlt]
      exact ht.kept g _ (Array.getElem?_eq_getElem hlt) (hne _ ha)
    refine ⟨g, o, ha, Nat.lt_of_lt_of_le hlt ht.size, fun j c hj => ?_⟩
    have h1 := hc j c hj
    unfold World.cell? at h1 ⊢
    simp only at h1 ⊢
    rw [e]
    exact h1⟩
theorem keepL_snoc (ls : List Ln) (fr : List Int) (id : Int) : keepL ls (fr ++ [id]) = keepL ls fr ++ (chainF ls ls.length id 0).map (·.1) := by
  unfold keepL
  rw [List.flatMap_append]
  simp
end Go.Herb
namespace Go.Proofs.YtacibennmcegfaaDoor
open Go.RowKit Go.Shelf Go.Herb
attribute [local go_sem] Oper.semAt_some

theorem keepL_len {ls : List Ln} (hl : ls.length ≤ 48) (zs : List Int) : (keepL ls zs).length ≤ zs.length * 48 := by
  unfold keepL
  rw [List.length_flatMap]
  induction zs with
  | nil => simp
  | cons z zs ih =>
    rw [List.map_cons, List.sum_cons, List.length_cons, List.length_map]
    have := chain_len (ls := ls) ls.length z 0
    omega
/-- From which lines on it is kept. -/
def fromL (ns : List Int) (bs : List Br) : List Int := ns ++ bs.map (·.2.1)
def PrunePost (bs : List Br) (ls : List Ln) (ns : List Int) (w : World) (e : Ending) (w' : World) : Prop :=
  ((e = .returned (.tuple #[.pointer none, .int .i64 7]) ∧ ¬ ∀ id ∈ fromL ns bs, ∃ q, parL ls id = some q) ∨
    (∃ p : Nat, e = .returned (.tuple #[.pointer (some ⟨p, 0, none⟩), .int .i64 0]) ∧ (∀ id ∈ fromL ns bs, ∃ q, parL ls id = some q) ∧ TreeIs w' p bs (prunedL ls (fromL ns bs)))) ∧ Below w.heap.size w w'
/-- The second loop, ahead of its i-th round. -/
structure PruneAt (B kb : Nat) (X : World) (ls : List Ln) (fr : List Int) (i : Nat) (ds : List Deferred) (W : World) : Prop where
  marks : Marks B ds W
  good : ∀ id ∈ fr.take i, ∃ q, parL ls id = some q
  box : ∃ v, W.heap[kb]? = some (.cells #[v] (46) (0, 0)) ∧ OwnU X.heap.size W v (keepL ls (fr.take i))
  turn : TurnI kb X W
theorem ownU_cells {B k : Nat} {w : World} {v : Value} {xs : List Int} {o : Obj} (h : OwnU B w v xs) (hk : w.heap[k]? = some o) (ho : o.isCells = false) : some k ≠ v.ownBlock := by
  obtain ⟨_, ⟨rfl, _⟩ | ⟨g, cap, cur, rfl, _, hh, _⟩⟩ := h
  · intro e; cases e
  · intro e
    injection e with e
    have e : k = g := e
    rw [e, hh] at hk
    cases hk
    cases ho
/-- The inner loop: what holds behind some lines of a chain. -/
structure PruneIn (kb b0 : Nat) (X Y : World) (L : List Int) (pre : List (Int × Int)) (W : World) : Prop where
  box : ∃ v, W.heap[kb]? = some (.cells #[v] (46) (0, 0)) ∧ OwnU X.heap.size W v (L ++ pre.map (·.1)) ∧ ∀ k, v.ownBlock = some k → k < b0 ∨ Y.heap.size ≤ k
  os : W.os = Y.os
  tape : W.tape = Y.tape
  output : W.output = Y.output
  size : Y.heap.size ≤ W.heap.size
  kept : ∀ (k : Nat) (o : Obj), Y.heap[k]? = some o → k ≠ kb → k ≠ b0 + 1 → (k < X.heap.size ∨ o.isCells = false) → W.heap[k]? = some o
theorem PruneIn.turn {kb b0 : Nat} {X Y A B : World} {L : List Int} {pre : List (Int × Int)} (h : PruneIn kb b0 X Y L pre A) (ht : Turn (b0 + 1) Y.heap.size A B) (hkb : kb < b0) (hb : b0 + 2 = Y.heap.size) : PruneIn kb b0 X Y L pre B := by
  obtain ⟨v, hv, hO, hw⟩ := h.box
  refine ⟨⟨v, ht.kept _ _ hv (by omega) (.inl (by omega)), ?_, hw⟩, ht.os.trans h.os, ht.tape.trans h.tape, ht.output.trans h.output, Nat.le_trans h.size ht.size, fun k o ho h1 h2 h3 => ht.kept k o (h.kept k o ho h1 h2 h3) h2 (.inl (lt_of_blk ho))⟩
  obtain ⟨q1, q2 | ⟨g, cap, cur, rfl, hg, hh, r⟩⟩ := hO
  · exact ⟨q1, .inl q2⟩
  · exact ⟨q1, .inr ⟨g, cap, cur, rfl, hg, ht.kept _ _ hh (by have := hw g rfl; omega) (.inr rfl), r⟩⟩
set_option maxRecDepth 100000 in
set_option maxHeartbeats 4000000 in
theorem prune_in {bs : List Br} {ls : List Ln} (p : Nat) (a : Option Addr) (cap n : Nat) (ns : List Int) (w : World) (h : TreeIs w p bs ls) (hf : FormedL ls) (hl48 : ls.length ≤ 48) (hb0 : 0 < bs.length) (hb12 : bs.length ≤ 12) (hE : Nums w a ns) (hn : ns.length = n) (hz : a = none → cap = 0) (hn1 : n ≤ 100) :
    CallsIn Fence.wide 5 Tryd.prog 20 #[.pointer (some ⟨p, 0, none⟩), .slice a n cap] w (PrunePost bs ls ns w) := by
  have HT := Lib.hid (there_any p w h)
  have HCL := Lib.hid (cloneU_any a cap n ns w hE hn hz (by omega))
  have HTR := Lib.hid h
  have HL := Lib.hid (show FormedL ls ∧ 0 < ls.length ∧ ls.length ≤ 48 ∧ 0 < bs.length ∧ bs.length ≤ 12 ∧ ns.length = n ∧ n ≤ 100 from ⟨hf, by obtain ⟨h1, _⟩ := List.getElem?_eq_some_iff.1 hf.first; exact h1, hl48, hb0, hb12, hn, hn1⟩)
  obtain ⟨ba, bc, la, lc, h1, h2, h3⟩ := h.blk
  obtain ⟨nb, hnb⟩ : ∃ nb, bs.length = nb := ⟨_, rfl⟩
  obtain ⟨nl, hnl⟩ : ∃ nl, ls.length = nl := ⟨_, rfl⟩
  rw [hnb, hnl] at h1
  have HC : Hid (∀ u, Below w.heap.size w u → u.cell? ⟨p, 0, none⟩ = some (.slice ba nb bc) ∧ u.cell? ⟨p, 1, none⟩ = some (.slice la nl lc)) := Lib.hid (fun u hu => by
    have g0 := cell_of_blk (blk_below h1 hu h.lt) 0
    have g1 := cell_of_blk (blk_below h1 hu h.lt) 1
    simp at g0 g1
    exact ⟨g0, g1⟩)
  have HBS := Lib.hid (fun u (hu : Below w.heap.size w u) => h2.ext hu)
  have HLS := Lib.hid (fun u (hu : Below w.heap.size w u) => h3.ext hu)
  have HNN := Lib.hid (show bs.length = nb ∧ ls.length = nl from ⟨hnb, hnl⟩)
  clear h hf hl48 hb0 hb12 hE hn hz hn1 h1 h2 h3 hnb hnl
  refine callsIn_of_wp_marks Tryd.func20 rfl trivial ?_ rfl
  simp only [Tryd.ntmps20, List.size_toArray, List.length_cons, List.length_nil, Nat.reduceAdd, Nat.reduceSub, Array.replicate_succ, Array.replicate_zero, List.push_toArray, List.append_toArray, List.nil_append, List.cons_append]
  refine (wpIn_wide (n := 5)).2 ?_
  go_wp2_with (go_at_call 27; refine HT.out.mono ?_; rintro e w' ⟨rfl, rfl⟩)
  refine HCL.out.mono ?_
  rintro e w1 ⟨v, rfl, hO, hB1⟩
  have HO1 := Lib.hid hO
  have HB1 := Lib.hid hB1
  obtain ⟨c0, -⟩ := HC.out w1 hB1
  clear HT HCL hO hB1
  go_wp2_with fail
  go_loopg [6, 25] nb (fun gk fv iv wr => ∃ i : Nat, i + gk = nb ∧ iv = .int .i64 i ∧ Hid (OwnU w.heap.size wr fv (ns ++ (bs.take i).map (·.2.1))) ∧ Hid (Below w.heap.size w wr))
  case atStart => exact ⟨0, by omega, rfl, Lib.hid (by simpa using HO1.out), HB1⟩
  case round =>
    obtain ⟨i, hi, rfl, HO, HB⟩ := hrel
    by_cases hlt : i < nb
    · have hil : i < bs.length := by have := HNN.out; omega
      obtain ⟨b, o, rfl, hlb, hcx⟩ := (HBS.out wr HB.out).get i hil
      have HTK := Lib.hid (List.take_succ_eq_append_getElem hil)
      generalize bs[i] = x at hcx HTK
      have g0 := hcx 0 _ rfl
      have g1 := hcx 1 _ rfl
      have g2 := hcx 2 _ rfl
      simp only [Nat.add_zero] at g0 g1 g2
      have i0 : (0 : Int) ≤ (i : Int) := by omega
      have i1 : (i : Int) < (nb : Int) := by omega
      have iw : IntKind.i64.wrap ((i : Int) + 1) = (i : Int) + 1 := IntWalk.i64_in _ (by have := HL.out; have := HNN.out; omega)
      obtain ⟨X, hX⟩ : ∃ X : World, X = (wr.alloc (.cells #[.string x.1, .int .u64 x.2.1, .int .u64 x.2.2] (45))).alloc (.cells #[.int .u64 x.2.1] (34)) := ⟨_, rfl⟩
      have hBX : Below wr.heap.size wr X := by rw [hX]; exact balc (balc (Below.refl _ _))
      obtain ⟨v', w', hr, hO', hg⟩ := run_append_u1 X w.heap.size _ _ (wr.heap.size + 1) x.2.1 (ownsRow_below HO.out hBX (Nat.le_refl _)) (by rw [hX]; exact blk_new_at (by simp) _) (by have := HL.out; have := HNN.out; simp only [List.length_append, List.length_map, List.length_take]; omega) (Nat.le_trans HB.out.size hBX.size) (46)
      have HO2 := Lib.hid (show OwnU w.heap.size w' v' (ns ++ (bs.take (i + 1)).map (·.2.1)) from by rw [HTK.out, List.map_append, ← List.append_assoc]; exact hO')
      have HB2 := Lib.hid ((HB.out.trans (hBX.mono HB.out.size)).grown hg (Nat.le_trans HB.out.size hBX.size) (fun k e => (World.ownsRow.lt HO.out k e).1))
      rw [hX] at hr
      clear hX hBX hO' hg hcx
      go_wp2_with (at_builtin; refine Lib.wpList_append_run _ rfl _ _ _ _ rfl _ _ rfl rfl _ _ hr ?_)
      go_roundg (gk - 1)
      case measure => omega
      case rel => exact ⟨i + 1, by omega, by go_num, HO2, HB2⟩
    have hin : i = nb := by omega
    have h1 : ¬ (i : Int) < (nb : Int) := by omega
    have HFR := Lib.hid (show OwnU w.heap.size wr u6 (fromL ns bs) from by have := HO.out; rwa [List.take_of_length_le (by have := HNN.out; omega)] at this)
    obtain ⟨fa, fc, hfv, hfn, hfle, hfm, hfb⟩ := own_parts HFR.out
    subst hfv
    obtain ⟨m, hm⟩ : ∃ m, (fromL ns bs).length = m := ⟨_, rfl⟩
    have HOE := Lib.hid (show Nums wr fa (fromL ns bs) from owns_els uc_len HFR.out)
    rw [hm] at hfn hfle HFR
    have HM := Lib.hid (show (fromL ns bs).length = m ∧ m ≤ 112 from ⟨hm, by rw [← hm]; unfold fromL; rw [List.length_append, List.length_map]; have := HL.out; omega⟩)
    have HFB := Lib.hid hfb
    rw [hm]
    clear hin HO HO1 HB1 c0 hm hfle hfm hfb hfn hi
    go_wp2_with fail
    obtain ⟨X, hX⟩ : ∃ X : World, X = wr.alloc (.cells #[.slice none 0 0] (46)) := ⟨_, rfl⟩
    obtain ⟨kb, hkb⟩ : ∃ kb, kb = wr.heap.size := ⟨_, rfl⟩
    rw [← hX, ← hkb]
    have HBX := Lib.hid (show Below w.heap.size w X from by rw [hX]; exact HB.out.alloc HB.out.size _)
    have HBOX := Lib.hid (show X.heap[kb]? = some (.cells #[.slice none 0 0] (46) (0, 0)) from by rw [hX, hkb]; exact blk_new_at rfl _)
    have HKB := Lib.hid (show w.heap.size ≤ kb ∧ kb < X.heap.size from ⟨by rw [hkb]; exact HB.out.size, by rw [hX, hkb, World.size_alloc]; exact Nat.lt_succ_self _⟩)
    have HFE : Hid (∀ u, TurnI kb X u → Nums u fa (fromL ns bs)) := Lib.hid (fun u hu => els_turn (w := X) (Els.ext (w := wr) HOE.out (by rw [hX]; exact (Below.refl _ _).alloc (Nat.le_refl _) _)) hu (fun ad had => by have := (HFB.out ad had).2; omega))
    clear hX hkb HB HFR HFB HOE hlt h1
    refine wp_loop_ghost_k (fun k a' w' => ∃ (ds : List Deferred) (y2 y3 y7 y8 y10 y11 y12 y13 y14 y15 y16 y17 y18 y19 y20 y21 y22 y23 y24 y25 y26 y27 y28 y29 y30 y31 y32 y33 y34 y38 y39 y40 y41 y42 y43 y44 y45 y46 y47 y48 y49 y50 y51 y52 y53 y54 y55 y56 y57 y58 y59 y60 y61 y62 y63 y64 y65 y66 y67 y68 y69 iv : Value), (∃ i : Nat, i + k = m ∧ iv = .int .i64 i ∧ Hid (PruneAt w.heap.size kb X ls (fromL ns bs) i ds w')) ∧ a' = ⟨#[.pointer (some ⟨p, 0, none⟩), .slice a n cap, y2, y3, .pointer none, .int .i64 0, .slice fa m fc, y7, y8, .pointer (some ⟨kb, 0, none⟩), y10, y11, y12, y13, y14, y15, y16, y17, y18, y19, y20, y21, y22, y23, y24, y25, y26, y27, y28, y29, y30, y31, y32, y33, y34, .slice fa m fc, .int .i64 (m : Int), iv, y38, y39, y40, y41, y42, y43, y44, y45, y46, y47, y48, y49, y50, y51, y52, y53, y54, y55, y56, y57, y58, y59, y60, y61, y62, y63, y64, y65, y66, y67, y68, y69], ds⟩) m ?_ ?_
    · (repeat apply Exists.intro)
      refine ⟨?_, rfl⟩
      exact ⟨0, by omega, rfl, Lib.hid ⟨Marks.nil _ _, (fun _ h => by cases h), ⟨_, HBOX.out, World.ownsRow_nil _ _ _ _⟩, TurnI.of_below (Below.refl _ _)⟩⟩
    intro gk a0 wr hinv
    obtain ⟨ds, y2, y3, y7, y8, y10, y11, y12, y13, y14, y15, y16, y17, y18, y19, y20, y21, y22, y23, y24, y25, y26, y27, y28, y29, y30, y31, y32, y33, y34, y38, y39, y40, y41, y42, y43, y44, y45, y46, y47, y48, y49, y50, y51, y52, y53, y54, y55, y56, y57, y58, y59, y60, y61, y62, y63, y64, y65, y66, y67, y68, y69, iv, ⟨i, hi, rfl, HPA⟩, rfl⟩ := hinv
    intro J K hJ hK
    have HBR := Lib.hid (HPA.out.turn.below HBX.out HKB.out.1 (Nat.le_refl _))
    by_cases hlt : i < m
    · have hil : i < (fromL ns bs).length := by have := HM.out; omega
      obtain ⟨b, o, rfl, hlb, hcx⟩ := (HFE.out wr HPA.out.turn).get i hil
      have HTK := Lib.hid (List.take_succ_eq_append_getElem hil)
      generalize (fromL ns bs)[i] = id at hcx HTK
      have g0 := hcx 0 _ rfl
      simp only [Nat.mul_one, Nat.add_zero] at g0
      obtain ⟨c0, c1⟩ := HC.out wr HBR.out
      have i0 : (0 : Int) ≤ (i : Int) := by omega
      have i1 : (i : Int) < (m : Int) := by omega
      have iw : IntKind.i64.wrap ((i : Int) + 1) = (i : Int) + 1 := IntWalk.i64_in _ (by have := HM.out; omega)
      have HLN := Lib.hid (line_any ba nb bc la lc nl ls id wr (HLS.out wr HBR.out) HNN.out.2 (by have := HL.out; have := HNN.out; omega) HL.out.1.srt)
      clear hcx
      go_wp2_with fail
      refine HLN.out.mono ?_
      rintro e w5 ⟨r, rfl, hr, hB5⟩
      have HB5 := Lib.hid hB5
      clear HLN hB5 c0 c1 g0
      rcases hr with ⟨j, q, rfl, hj, hq⟩ | ⟨rfl, hno⟩
      case inr =>
        have HE := Lib.hid (show ¬ ∀ z ∈ fromL ns bs, ∃ q, parL ls z = some q from fun hz => by
          obtain ⟨q, hq⟩ := hz id (by
            have : id ∈ (fromL ns bs).take (i + 1) := by rw [HTK.out]; exact List.mem_append_right _ (List.mem_singleton.2 rfl)
            exact List.mem_of_mem_take this)
          rw [hno] at hq
          cases hq)
        clear hno HTK HFE hJ hK
        go_wp2_with fail
        exact leaves_marks ds w5 (HPA.out.marks.keep (fun j hj => blk_below hj HB5.out (lt_of_blk hj))) (fun W' hW' => ⟨.tuple #[.pointer none, .int .i64 7], by simp [results, Tryd.results20, go_sem], .inl ⟨rfl, HE.out⟩, (HBR.out.trans (HB5.out.mono HBR.out.size)).trans hW'.below⟩)
      have HGD := Lib.hid (show ∀ z ∈ (fromL ns bs).take (i + 1), ∃ q, parL ls z = some q from fun z hz => by
        rw [HTK.out] at hz
        rcases List.mem_append.1 hz with h1 | h1
        · exact HPA.out.good z h1
        · rw [List.mem_singleton.1 h1]; exact ⟨q, hq⟩)
      have hjj : ¬ (j : Int) < 0 := by omega
      have HKE := Lib.hid (show keepL ls ((fromL ns bs).take (i + 1)) = keepL ls ((fromL ns bs).take i) ++ (chainF ls ls.length id 18446744073709551615).map (·.1) from by rw [HTK.out, keepL_snoc, chainF_ahead ls ls.length id 0 18446744073709551615])
      clear hj hq HTK
      obtain ⟨Y, hY⟩ : ∃ Y : World, Y = (w5.alloc (.cells #[.pointer (some ⟨p, 0, none⟩)] (28))).alloc (.cells #[.int .u64 id] (34)) := ⟨_, rfl⟩
      obtain ⟨b0, hb0⟩ : ∃ b0, b0 = w5.heap.size := ⟨_, rfl⟩
      go_wp2_with (go_at_call 28; refine (up_any _ _ _).mono ?_; rintro e w' ⟨rfl, rfl⟩)
      rw [← hY, ← hb0]
      have hYs : b0 + 2 = Y.heap.size := by rw [hY, hb0, World.size_alloc, World.size_alloc]
      have hBY : Below wr.heap.size wr Y := by rw [hY]; exact (HB5.out.alloc HB5.out.size _).alloc (by rw [World.size_alloc]; have := HB5.out.size; omega) _
      have hwr : wr.heap.size ≤ b0 := by rw [hb0]; exact HB5.out.size
      have hXr := HPA.out.turn.size
      have HBWY := Lib.hid (HBR.out.trans (hBY.mono HBR.out.size))
      have hu : UpW w p b0 (b0 + 1) id Y := ⟨HBWY.out.size, fun k hk => HBWY.out.block k hk, by rw [hY, hb0]; exact blk_alloc (blk_new_at rfl _), by rw [hY, hb0]; exact blk_new_at (by simp) _⟩
      obtain ⟨k1, k2⟩ := HKB.out
      have hww := HBR.out.size
      have HSQ := Lib.hid (up1_kp 4 (by omega) (kp := fun k => k < w.heap.size ∨ k = b0 ∨ k = b0 + 1) HTR.out HL.out.1 (by have := HL.out; omega) hu (by omega) (by omega) (by omega) (by omega) (by omega) (fun k hk => .inl hk) (.inr (.inl rfl)) (.inr (.inr rfl)))
      obtain ⟨v, hv, hO⟩ := HPA.out.box
      have HI0 := Lib.hid (show PruneIn kb b0 X Y (keepL ls ((fromL ns bs).take i)) [] Y from ⟨⟨v, blk_below hv hBY (lt_of_blk hv), by simpa using ownsRow_below hO hBY (Nat.le_refl _), fun k hk => .inl (by have := (World.ownsRow.lt hO k hk).2; omega)⟩, rfl, rfl, rfl, Nat.le_refl _, fun _ _ ho _ _ _ => ho⟩)
      have HLL := Lib.hid (show (keepL ls ((fromL ns bs).take i)).length ≤ 112 * 48 from by
        have h1 := keepL_len HL.out.2.2.1 ((fromL ns bs).take i)
        have h2 : ((fromL ns bs).take i).length ≤ 112 := by rw [List.length_take]; have := HM.out; omega
        omega)
      clear hv hO hY hjj
      refine (wpIn_wide (n := 5)).1 ?_
      refine wpIn_range_kp (n := 5) (gf := 45) (lb := #[.pointer (some ⟨b0, 0, none⟩), .pointer (some ⟨b0 + 1, 0, none⟩)]) rfl (enters_of Tryd.func45 (by kernel_rfl) rfl) (encs := encL) (fun _ => rfl) (chainF ls ls.length id 18446744073709551615) (b := b0 + 1) (kp := fun k => k < w.heap.size ∨ k = b0 ∨ k = b0 + 1) (fun k hk => by omega) (by omega) HSQ.out
        (PruneIn kb b0 X Y (keepL ls ((fromL ns bs).take i))) (fun pre A B hi ht => hi.turn ht (by omega) hYs) HI0.out ?a1 ?assign ?body ?done
      case assign =>
        intro l x W K hK
        gi_wp2
        exact hK
      case body =>
        rintro l pre x W ⟨⟨v, hv, hO, hw⟩, hos, htp, hou, hsz, hkp⟩ hpre
        have hc := cell_of_blk hv 0
        simp at hc
        have hpl : (keepL ls ((fromL ns bs).take i) ++ pre.map (·.1)).length < 1000000 := by
          have h1 := hpre.length_le
          have h2 := chain_len (ls := ls) ls.length id 18446744073709551615
          rw [List.length_append, List.length_singleton] at h1
          rw [List.length_append, List.length_map]
          have := HLL.out
          have := HL.out
          omega
        obtain ⟨Z, hZ⟩ : ∃ Z : World, Z = W.alloc (.cells #[.int .u64 x.1] (34)) := ⟨_, rfl⟩
        have hBZ : Below W.heap.size W Z := by rw [hZ]; exact (Below.refl _ _).alloc (Nat.le_refl _) _
        have hZs : Z.heap.size = W.heap.size + 1 := by rw [hZ, World.size_alloc]
        obtain ⟨v', w', hr, hO', hg, hown⟩ := run_append_u1x Z X.heap.size v _ W.heap.size x.1 (ownsRow_below hO hBZ (Nat.le_refl _)) (by rw [hZ]; exact blk_new_at rfl _) hpl (by omega) (46)
        have hrow : ∀ k, v.ownBlock = some k → X.heap.size ≤ k := fun k e => (World.ownsRow.lt hO k e).1
        obtain ⟨na, nc, rfl, -⟩ := own_parts hO'
        obtain ⟨NL, hNL⟩ : ∃ NL, NL = (keepL ls ((fromL ns bs).take i) ++ pre.map (·.1) ++ [x.1]).length := ⟨_, rfl⟩
        rw [← hNL] at hr hown
        have hO2 : X.heap.size ≤ X.heap.size ∧ w'.ownsRow X.heap.size (34) 1 (.slice na NL nc) (keepL ls ((fromL ns bs).take i) ++ pre.map (·.1) ++ [x.1]).length ((keepL ls ((fromL ns bs).take i) ++ pre.map (·.1) ++ [x.1]).flatMap uc) := ⟨Nat.le_refl _, by rw [hNL]; exact hO'⟩
        have hv' : w'.heap[kb]? = some (.cells #[v] (46) (0, 0)) := (hg.block _ (lt_of_blk (blk_below hv hBZ (lt_of_blk hv))) (fun e => by have := hrow _ e.symm; omega)).trans (blk_below hv hBZ (lt_of_blk hv))
        have hcw := cell_of_blk hv' 0
        have hfw := frozen_of_blk hv' 0
        simp at hcw
        have hgs := hg.size
        have HE := Lib.hid (show KeepP (fun k => k < w.heap.size ∨ k = b0 ∨ k = b0 + 1) W (w'.setCell ⟨kb, 0, none⟩ (.slice na NL nc)) ∧ (∀ (k : Nat) (o : Obj), Y.heap.size ≤ k → W.heap[k]? = some o → o.isCells = false → (w'.setCell ⟨kb, 0, none⟩ (.slice na NL nc)).heap[k]? = some o) ∧ PruneIn kb b0 X Y (keepL ls ((fromL ns bs).take i)) (pre ++ [x]) (w'.setCell ⟨kb, 0, none⟩ (.slice na NL nc)) from by
          refine ⟨⟨by rw [World.size_setCell]; omega, fun k hk => ?_⟩, fun k o hk ho hoc => ?_, ⟨⟨_, blk_setCell hv' _, ?_, ?_⟩, hg.os.trans (hBZ.os.trans hos), hg.tape.trans (hBZ.tape.trans htp), hg.output.trans (hBZ.output.trans hou), by rw [World.size_setCell]; omega, fun k o ho h1 h2 h3 => ?_⟩⟩
          · rw [Below.heap_setCell _ _ _ _ (by show k ≠ kb; omega), hg.block k (by omega) (fun e => by have := hrow _ e.symm; have := hw _ e.symm; omega), hBZ.block k (by omega)]
          · exact blk_setCell_other ((hg.block k (by have := lt_of_blk ho; omega) (ownU_cells hO ho hoc)).trans (blk_below ho hBZ (lt_of_blk ho))) (by show k ≠ kb; omega) _
          · rw [List.map_append, List.map_singleton, ← List.append_assoc]
            exact ownsRow_setCell_below (a := ⟨kb, 0, none⟩) hO2.2 (by show kb < X.heap.size; omega) _
          · intro k hk
            rcases hown with h1 | h1
            · rw [h1] at hk
              exact hw k hk
            · rw [h1] at hk
              injection hk with hk
              omega
          · have h4 := hkp k o ho h1 h2 h3
            refine blk_setCell_other ((hg.block k (by have := lt_of_blk h4; omega) (fun e => ?_)).trans (blk_below h4 hBZ (lt_of_blk h4))) h1 _
            rcases h3 with h5 | h5
            · have := hrow _ e.symm; omega
            · exact ownU_cells hO h4 h5 e)
        rw [hZ] at hr
        clear hZ hBZ hO' hO2 hNL hO hg hown hw hrow hkp hos htp hou hv hv' hpre hpl HFE hJ hK HSQ
        gi_wp2_with (gi_at_builtin; refine wpListIn_append_run _ rfl _ _ _ _ rfl _ _ rfl rfl _ _ hr ?_)
        exact HE.out
      case done =>
        rintro W hI hMk
        have HPN := Lib.hid (show PruneAt w.heap.size kb X ls (fromL ns bs) (i + 1) (markOf Y.heap.size :: ds) W from by
          obtain ⟨v, hv, hO, -⟩ := hI.box
          refine ⟨HPA.out.marks.cons hMk HBWY.out.size (by omega) (fun j hj => ?_), HGD.out, ⟨v, hv, by rw [HKE.out]; exact hO⟩, ⟨?_, ?_, ?_, by have := hI.size; omega, fun k o ho hk => ?_⟩⟩
          · have hjl := lt_of_blk hj
            refine hI.kept j _ (blk_below hj hBY hjl) (fun e => ?_) (by omega) (.inr rfl)
            obtain ⟨v, hv, -⟩ := HPA.out.box
            rw [e, hv] at hj
            cases hj
          · exact hI.os.trans (hBY.os.trans HPA.out.turn.os)
          · exact hI.tape.trans (hBY.tape.trans HPA.out.turn.tape)
          · exact hI.output.trans (hBY.output.trans HPA.out.turn.output)
          · have hkl := lt_of_blk ho
            exact hI.kept k o (blk_below (HPA.out.turn.kept k o ho hk) hBY (by omega)) hk (by omega) (.inl hkl))
        clear hI hMk HSQ HI0 hu hBY HGD HKE HFE
        go_wp2_with fail
        go_roundg (gk - 1)
        case measure => omega
        case rel => exact ⟨i + 1, by omega, by go_num, HPN⟩
    have him : i = m := by omega
    have h1 : ¬ (i : Int) < (m : Int) := by omega
    have HGD := Lib.hid (show ∀ z ∈ fromL ns bs, ∃ q, parL ls z = some q from by have := HPA.out.good; rwa [List.take_of_length_le (by have := HM.out; omega)] at this)
    obtain ⟨v, hv, hO⟩ := HPA.out.box
    rw [List.take_of_length_le (by have := HM.out; omega)] at hO
    obtain ⟨ka, kc, rfl, hkn, -, -, hkr⟩ := own_parts hO
    obtain ⟨kn, hkl⟩ : ∃ kn, kn = (keepL ls (fromL ns bs)).length := ⟨_, rfl⟩
    have HKV := Lib.hid hv
    have HKO := Lib.hid (show Nums wr ka (keepL ls (fromL ns bs)) from owns_els uc_len hO)
    have HKR := Lib.hid hkr
    have HMK := Lib.hid HPA.out.marks
    have HCP := Lib.hid (copied_any ba bc nb la lc nl bs ls wr (HBS.out wr HBR.out) (HLS.out wr HBR.out) HNN.out.1 HNN.out.2 (by have := HL.out; have := HNN.out; omega) (by have := HL.out; have := HNN.out; omega) (by have := HL.out; have := HNN.out; omega) (by have := HL.out; have := HNN.out; omega))
    obtain ⟨c0, c1⟩ := HC.out wr HBR.out
    clear hv hO hkn hkr him hJ hK HFE hi
    have hkn : kn ≤ 112 * 48 := by
      have h2 := keepL_len HL.out.2.2.1 (fromL ns bs)
      have := HM.out
      omega
    rw [← hkl] at HKV
    have HKL := Lib.hid hkl
    clear hkl
    go_wp2_with fail
    refine HCP.out.mono ?_
    rintro e w5 ⟨g, h, rfl, hg, hh, hg0, hh0, hgh, hB5⟩
    have HB5 := Lib.hid hB5
    obtain ⟨W6, hW6⟩ : ∃ W6 : World, W6 = w5.alloc (.cells #[.slice (some ⟨g, 0, none⟩) nb nb, .slice (some ⟨h, 0, none⟩) nl nl] (59)) := ⟨_, rfl⟩
    have hp6 : W6.heap[w5.heap.size]? = some (.cells #[.slice (some ⟨g, 0, none⟩) nb nb, .slice (some ⟨h, 0, none⟩) nl nl] (59) (0, 0)) := by rw [hW6]; exact blk_new_at rfl _
    have hg6 : W6.heap[g]? = some (.cells (bs.flatMap brc).toArray (45) (0, 0)) := by rw [hW6]; exact blk_alloc hg
    have hh6 : W6.heap[h]? = some (.cells (ls.flatMap lnc).toArray (36) (0, 0)) := by rw [hW6]; exact blk_alloc hh
    have hB6 : Below wr.heap.size wr W6 := by rw [hW6]; exact hB5.alloc hB5.size _
    have HG := Lib.hid (show wr.heap.size ≤ g ∧ wr.heap.size ≤ h ∧ g ≠ h ∧ g < w5.heap.size ∧ h < w5.heap.size ∧ wr.heap.size ≤ w5.heap.size ∧ w.heap.size ≤ wr.heap.size ∧ kb < wr.heap.size from ⟨hg0, hh0, hgh, lt_of_blk hg, lt_of_blk hh, hB5.size, HBR.out.size, lt_of_blk HKV.out⟩)
    have HPR : Hid (PredL h kb (fun x => !decide (x.1 ∈ keepL ls (fromL ns bs))) W6) := Lib.hid (fun u x hu => by
      have h1 := hu.kept kb _ (blk_below HKV.out hB6 (lt_of_blk HKV.out)) (by have := HG.out; omega)
      have h2 := cell_of_blk h1 0
      simp at h2
      exact closure_any kb ka kc kn _ x u h2 (els_turn (HKO.out.ext hB6) hu (fun ad had => by have := (HKR.out ad had).2; have := HG.out; omega)) HKL.out.symm (by omega))
    have HDEL := Lib.hid (deleteFunc_any h kb nl _ ls W6 hh6 HNN.out.2 (by have := HL.out; have := HNN.out; omega) HPR.out)
    have HP6 := Lib.hid hp6
    have HG6 := Lib.hid hg6
    have HB6 := Lib.hid hB6
    have c61 := cell_of_blk hp6 1
    simp at c61
    clear hg hh hg0 hh0 hgh hB5 hp6 hg6 hh6 hB6 HCP c0 c1 HPR HKO HKV HKR hkn HKL
    go_upto_region 20 with fail
    rw [← hW6]
    have HW6 := Lib.hid hW6
    clear hW6
    go_wp2_with fail
    refine HDEL.out.mono ?_
    rintro e w7 ⟨R, rfl, hh7, ht7⟩
    have HPL := Lib.hid (show ls.filter (fun x => !(!decide (x.1 ∈ keepL ls (fromL ns bs)))) = prunedL ls (fromL ns bs) from by unfold prunedL; congr 1; funext x; rw [Bool.not_not])
    rw [HPL.out] at hh7 ⊢
    obtain ⟨kl, hkl⟩ : ∃ kl, kl = (prunedL ls (fromL ns bs)).length := ⟨_, rfl⟩
    rw [← hkl]
    have HKL := Lib.hid hkl
    have hp7 : w7.heap[w5.heap.size]? = some (.cells #[.slice (some ⟨g, 0, none⟩) nb nb, .slice (some ⟨h, 0, none⟩) nl nl] (59) (0, 0)) := ht7.kept _ _ HP6.out (by have := HG.out; omega)
    have hg7 : w7.heap[g]? = some (.cells (bs.flatMap brc).toArray (45) (0, 0)) := ht7.kept _ _ HG6.out HG.out.2.2.1
    have hB7 : Below wr.heap.size wr w7 := ht7.below HB6.out HG.out.2.1 (Nat.le_refl _)
    obtain ⟨W8, hW8⟩ : ∃ W8 : World, W8 = w7.setCell ⟨w5.heap.size, 1, none⟩ (.slice (some ⟨h, 0, none⟩) kl nl) := ⟨_, rfl⟩
    have hp8 : W8.heap[w5.heap.size]? = some (.cells #[.slice (some ⟨g, 0, none⟩) nb nb, .slice (some ⟨h, 0, none⟩) kl nl] (59) (0, 0)) := by rw [hW8]; exact blk_setCell hp7 _
    have hg8 : W8.heap[g]? = some (.cells (bs.flatMap brc).toArray (45) (0, 0)) := by rw [hW8]; exact blk_setCell_other hg7 (by show g ≠ w5.heap.size; have := HG.out; omega) _
    have hh8 : W8.heap[h]? = some (.cells ((prunedL ls (fromL ns bs)).flatMap lnc ++ R).toArray (36) (0, 0)) := by rw [hW8]; exact blk_setCell_other hh7 (by show h ≠ w5.heap.size; have := HG.out; omega) _
    have HB8 := Lib.hid (show Below wr.heap.size wr W8 from by rw [hW8]; exact hB7.setCell (by show wr.heap.size ≤ w5.heap.size; exact HG.out.2.2.2.2.2.1) _)
    have HFIN : Hid (∀ (q : Nat) (u : World), u.heap[q]? = some (.cells #[.slice (some ⟨g, 0, none⟩) nb nb, .slice (some ⟨h, 0, none⟩) kl nl, .int .i64 1] (61) (0, 0)) → Below W8.heap.size W8 u → Marks w.heap.size ds u ∧ ∀ W', MarksOff w.heap.size u W' → PrunePost bs ls ns w (.returned (.tuple #[.pointer (some ⟨q, 0, none⟩), .int .i64 0])) W') := Lib.hid (fun q u hu hb => by
      have hBu := HB8.out.trans (hb.mono HB8.out.size)
      refine ⟨HMK.out.keep (fun j hj => blk_below hj hBu (lt_of_blk hj)), fun W' hW' => ⟨.inr ⟨q, rfl, HGD.out, ⟨some ⟨g, 0, none⟩, nb, some ⟨h, 0, none⟩, nl, ?_, els_of_blk brc_len (hW'.cells _ _ (blk_below hg8 hb (lt_of_blk hg8)) rfl), els_of_pre (R := R) lnc_len (hW'.cells _ _ (blk_below hh8 hb (lt_of_blk hh8)) rfl) (by simp)⟩⟩, (HBR.out.trans (hBu.mono HBR.out.size)).trans hW'.below⟩⟩
      rw [HNN.out.1, ← HKL.out]
      exact hW'.cells _ _ hu rfl)
    have HMD := Lib.hid (made_any (some ⟨g, 0, none⟩) nb nb (some ⟨h, 0, none⟩) kl nl W8)
    have e71 := cell_of_blk hp7 1
    have f71 := frozen_of_blk hp7 1
    have e80 := cell_of_blk hp8 0
    have e81 := cell_of_blk hp8 1
    simp at e71 e80 e81
    clear hh7 ht7 hp7 hg7 hB7 hp8 hg8 hh8 hkl HDEL HP6 HG6 HB6 HB8 HMK HG HGD HPL c61
    subst hW8
    go_wp2_with (go_at_call 25; refine (HMD.out).mono ?_; rintro e w11 ⟨rfl, hx11, hB11⟩)
    obtain ⟨m1, m2⟩ := HFIN.out _ w11 (by simpa only [World.size_setCell] using hx11) hB11
    exact leaves_marks ds w11 m1 (fun W' hW' => ⟨_, by simp [results, Tryd.results20, go_sem], m2 W' hW'⟩)
theorem prune_any {bs : List Br} {ls : List Ln} (p : Nat) (a : Option Addr) (cap n : Nat) (ns : List Int) (w : World) (h : TreeIs w p bs ls) (hf : FormedL ls) (hl48 : ls.length ≤ 48) (hb0 : 0 < bs.length) (hb12 : bs.length ≤ 12) (hE : Nums w a ns) (hn : ns.length = n) (hz : a = none → cap = 0) (hn1 : n ≤ 100) :
    Calls Tryd.prog 20 #[.pointer (some ⟨p, 0, none⟩), .slice a n cap] w (PrunePost bs ls ns w) :=
  (callsIn_wide (n := 5)).1 (prune_in p a cap n ns w h hf hl48 hb0 hb12 hE hn hz hn1)
end Go.Proofs.YtacibennmcegfaaDoor
