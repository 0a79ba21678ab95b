/- The reference's Chain of lines. Condition: the lines are formed, at most 48. · Watches in a row that a call owns; what the chapter's watches are. No condition. · The reference's Watches. Condition: the lines are formed, at most 48; at most 100 branches, 2000 points. · Vectors and trees that no call made; keeps.there; Watches without a tree, without vectors. Condition: fewer than 1000000 lines. -/
import Derived.Test.YticcccciefaemaaGreatDoorU2
import Derived.Test.YticcccciefaemaaGreatDoorLPA
import Derived.Test.YticcccciefaemaaGreatDoorOH
namespace Go.Herb
theorem srtL_uniq {ls : List Ln} (h : SrtL ls) {i j : Nat} {x y : Ln} (hx : ls[i]? = some x) (hy : ls[j]? = some y) (e : x.1 = y.1) : i = j := by
  obtain ⟨hi, rfl⟩ := List.getElem?_eq_some_iff.1 hx
  obtain ⟨hj, rfl⟩ := List.getElem?_eq_some_iff.1 hy
  have hp := List.pairwise_iff_getElem.1 h
  rcases Nat.lt_trichotomy i j with hl | hl | hl
  · have := hp i j hi hj hl; omega
  · exact hl
  · have := hp j i hj hi hl; omega
end Go.Herb
namespace Go.Proofs.YticcccciefaemaaGreatDoor.Ln
open Go.RowKit Go.Shelf Go.Herb
def ChainRPost (xs : List (Int × Int)) (w : World) (e : Ending) (w' : World) : Prop := ∃ a cap, e = .returned (.slice a xs.length cap) ∧ OwnK w.heap.size w' (.slice a xs.length cap) xs ∧ Below w.heap.size w w'
set_option maxRecDepth 100000 in
set_option maxHeartbeats 1000000 in
theorem chainR_any {bs : List Br} {ls : List Ln} (p : Nat) (line : Int) (w : World) (h : RTreeIs w p bs ls) (hf : FormedL ls) (hl48 : ls.length ≤ 48) :
    Calls Tryz.prog (27) #[.pointer (some ⟨p, 0, none⟩), .int .u64 line] w (ChainRPost (chainF ls ls.length line 18446744073709551615) w) := by
  obtain ⟨ba, bc, la, lc, hblk, hBs, hLs⟩ := h.blk
  obtain ⟨m, hm⟩ : ∃ m, ls.length = m := ⟨_, rfl⟩
  rw [hm] at hblk
  have HC : Hid (∀ u, Below w.heap.size w u → u.cell? ⟨p, 1, none⟩ = some (.slice la m lc)) := Lib.hid (fun u hu => by
    have c1 := cell_of_blk (blk_below hblk hu (lt_of_blk hblk)) 1
    simp at c1
    exact c1)
  have HL := Lib.hid hLs
  have HF := Lib.hid hf
  have HM := Lib.hid (show ls.length = m ∧ m ≤ 48 from ⟨hm, by omega⟩)
  have HHS := Lib.hid (hasR_any la lc m ls line w hLs hm (by omega))
  have HB0 := Lib.hid (Below.refl w.heap.size w)
  have c1 := HC.out w HB0.out
  clear h hf hblk hBs hLs hm hl48
  go_enter Tryz.func27, Tryz.ntmps27
  go_wp2_with fail
  refine HHS.out.mono ?_
  rintro e w' ⟨rfl, rfl⟩
  cases hh : hasL ls line with
  | false =>
    have hnp : parL ls line = none := by
      cases hp : parL ls line with
      | none => rfl
      | some q =>
        have := hasL_par.2 ⟨q, hp⟩
        rw [hh] at this
        cases this
    have HE := Lib.hid (chain_none (ls := ls) (line := line) (ahead := 18446744073709551615) hnp)
    clear hh hnp c1
    go_wp2_with fail
    go_ret
    rw [HE.out]
    exact ⟨none, 0, rfl, World.ownsRow_nil _ _ _ _, HB0.out⟩
  | true =>
    obtain ⟨q0, hq0⟩ := hasL_par.1 hh
    obtain ⟨i0, hi0⟩ := parL_some hq0
    have HI0 := Lib.hid hi0
    have HK : Hid (OwnK w.heap.size (w.alloc (.cells #[.int .u64 line, .int .u64 18446744073709551615] (58))) (.slice (some ⟨w.heap.size, 0, none⟩) 1 1) [(line, 18446744073709551615)]) := Lib.hid ⟨rfl, .inr ⟨w.heap.size, 1, _, rfl, Nat.le_refl _, blk_new_at rfl _, Nat.le_refl _, by unfold maxLen; decide, rfl, rfl⟩⟩
    clear hh hq0 hi0 c1
    go_wp2_with fail
    go_loopg [1, 5] m (fun gk lv ov wr => ∃ (line' : Int), lv = .int .u64 line' ∧ Hid (∃ (i : Nat) (q : Int), ls[i]? = some (line', q) ∧ i ≤ gk) ∧ Hid (∃ pre a', chainF ls ls.length line 18446744073709551615 = pre ++ chainF ls ls.length line' a' ∧ OwnK w.heap.size wr ov (pre ++ [(line', a')])) ∧ Hid (Below w.heap.size w wr))
    case atStart =>
      refine ⟨line, rfl, Lib.hid ⟨i0, q0, HI0.out, ?_⟩, Lib.hid ⟨[], 18446744073709551615, rfl, HK.out⟩, Lib.hid ((Below.refl _ _).alloc (Nat.le_refl _) _)⟩
      obtain ⟨h, _⟩ := List.getElem?_eq_some_iff.1 HI0.out
      have := HM.out
      omega
    case round =>
      obtain ⟨line', rfl, HIX, HCH, HB⟩ := hrel
      by_cases h0 : line' = 0
      · have hd : (line' == 0) = true := by rw [h0]; rfl
        have HE : Hid (∃ a cap, u5 = .slice a (chainF ls ls.length line 18446744073709551615).length cap ∧ OwnK w.heap.size wr (.slice a (chainF ls ls.length line 18446744073709551615).length cap) (chainF ls ls.length line 18446744073709551615)) := Lib.hid (by
          obtain ⟨pre, a', h1, h2⟩ := HCH.out
          obtain ⟨i, q, hi, -⟩ := HIX.out
          rw [h0] at h1 h2 hi
          rw [chain_zero HF.out hi] at h1
          rw [← h1] at h2
          obtain ⟨a, cap, h3, -, -⟩ := els_of_owns lnc_len h2
          exact ⟨a, cap, h3, by rw [← h3]; exact h2⟩)
        clear h0
        go_wp2_with fail
        go_ret
        obtain ⟨a, cap, h3, h4⟩ := HE.out
        exact ⟨a, cap, by rw [← h3]; rfl, h4, HB.out⟩
      have hd : (line' == 0) = false := beq_eq_false_iff_ne.2 h0
      have hdn : (line' != 0) = true := by unfold bne; rw [hd]; rfl
      obtain ⟨i, q, hi, hig⟩ := HIX.out
      have HI := Lib.hid hi
      have HQG := Lib.hid hig
      have H0 := Lib.hid h0
      obtain ⟨gi, hgi⟩ : ∃ gi, gi = gk := ⟨_, rfl⟩
      have HGI := Lib.hid hgi
      clear HIX hi hig h0 hgi
      go_wp2_with fail
      go_loopg [6, 7] m (fun gj uv kv wz => ∃ (k : Nat) (uo : Int), k + gj = m ∧ kv = .int .i64 k ∧ uv = .int .u64 uo ∧ Hid (uo = if i < k then q else 0) ∧ Hid (wr = wz))
      case atStart => exact ⟨0, 0, by omega, rfl, rfl, Lib.hid (by rw [if_neg (Nat.not_lt_zero _)]), Lib.hid rfl⟩
      case round =>
        obtain ⟨wo, hwo⟩ : ∃ wo : World, wo = wr := ⟨_, rfl⟩
        obtain ⟨k, uo, hk, rfl, rfl, HUO, HW⟩ := hrel
        have hwr := HW.out
        subst hwr
        have c1 := HC.out _ HB.out
        by_cases hkm : k < m
        · have hkl : k < ls.length := by have := HM.out; omega
          obtain ⟨b, o, rfl, hlb, hcx⟩ := (HL.out.ext HB.out).get k hkl
          have HY := Lib.hid (List.getElem?_eq_getElem hkl)
          generalize ls[k] = y at hcx HY
          have y0 := hcx 0 _ rfl
          have y1 := hcx 1 _ rfl
          simp only [Nat.add_zero] at y0 y1
          have k0 : (0 : Int) ≤ (k : Int) := by omega
          have k1 : (k : Int) < (m : Int) := by omega
          have kw : IntKind.i64.wrap ((k : Int) + 1) = (k : Int) + 1 := IntWalk.i64_in _ (by have := HM.out; omega)
          clear hcx hwo
          by_cases hky : k = i
          · have hyy : y.1 = line' ∧ y.2 = q := by
              have := HY.out
              rw [hky, HI.out] at this
              injection this with this
              rw [← this]
              exact ⟨rfl, rfl⟩
            have hd2 : (y.1 == line') = true := by rw [hyy.1]; exact beq_self_eq_true _
            have HV := Lib.hid (show y.2 = (if i < k + 1 then q else 0) from by rw [if_pos (by omega)]; exact hyy.2)
            clear hyy hky
            go_wp2_with fail
            go_roundg (gk - 1)
            case measure => omega
            case rel => exact ⟨k + 1, _, by omega, by go_num, rfl, HV, Lib.hid rfl⟩
          · have hyn : y.1 ≠ line' := fun e => hky (srtL_uniq HF.out.srt HY.out HI.out e)
            have hd2 : (y.1 == line') = false := beq_eq_false_iff_ne.2 hyn
            have HV := Lib.hid (show uo = (if i < k + 1 then q else (0 : Int)) from by
              rw [HUO.out]
              by_cases hik : i < k
              · rw [if_pos hik, if_pos (by omega)]
              · rw [if_neg hik, if_neg (by omega)])
            clear hyn hky
            go_wp2_with fail
            go_roundg (gk - 1)
            case measure => omega
            case rel => exact ⟨k + 1, _, by omega, by go_num, rfl, HV, Lib.hid rfl⟩
        · have h1 : ¬ (k : Int) < (m : Int) := by omega
          have hiq : uo = q := by
            rw [HUO.out, if_pos]
            obtain ⟨h, _⟩ := List.getElem?_eq_some_iff.1 HI.out
            have := HM.out
            omega
          subst hiq
          obtain ⟨pre, a', hc1, hc2⟩ := HCH.out
          have hpl : (pre ++ [(line', a')]).length ≤ 48 := by
            have h2 := chain_len (ls := ls) ls.length line 18446744073709551615
            obtain ⟨j, -, -, he⟩ := chain_next (ahead := a') HF.out HI.out H0.out
            rw [hc1, he, List.length_append, List.length_cons] at h2
            rw [List.length_append, List.length_singleton]
            have := HM.out
            omega
          subst hwo
          obtain ⟨Z, hZ⟩ : ∃ Z : World, Z = wo.alloc (.cells #[.int .u64 uo, .int .u64 line'] (58)) := ⟨_, rfl⟩
          have hBZ : Below wo.heap.size wo Z := by rw [hZ]; exact balc (Below.refl _ _)
          obtain ⟨v', w', hr, hO', hg⟩ := run_append_link Z w.heap.size _ _ wo.heap.size (uo, line') (ownsRow_below hc2 hBZ (Nat.le_refl _)) (by rw [hZ]; exact blk_new_at rfl _) (by omega) (Nat.le_trans HB.out.size hBZ.size) (59)
          have HC2 : Hid (∃ pre a', chainF ls ls.length line 18446744073709551615 = pre ++ chainF ls ls.length uo a' ∧ OwnK w.heap.size w' v' (pre ++ [(uo, a')])) := Lib.hid (by
            obtain ⟨j, -, -, he⟩ := chain_next (ahead := a') HF.out HI.out H0.out
            exact ⟨pre ++ [(line', a')], line', by rw [hc1, he]; simp, by simpa using hO'⟩)
          have HI2 : Hid (∃ (j : Nat) (r : Int), ls[j]? = some (uo, r) ∧ j ≤ gi - 1 ∧ 0 < gi) := Lib.hid (by
            obtain ⟨j, hj, ⟨r, hr⟩, -⟩ := chain_next (ahead := a') HF.out HI.out H0.out
            have := HQG.out
            have := HGI.out
            exact ⟨j, r, hr, by omega, by omega⟩)
          have HB2 := Lib.hid ((HB.out.trans (hBZ.mono HB.out.size)).grown hg (Nat.le_trans HB.out.size hBZ.size) (fun k e => (World.ownsRow.lt hc2 k e).1))
          rw [hZ] at hr
          clear hZ hBZ hO' hg hc1 hc2 hpl HCH
          go_wp2_with (at_builtin; refine Lib.wpList_append_run _ rfl _ _ _ _ rfl _ _ rfl rfl _ _ hr ?_)
          go_roundg (gi - 1)
          case measure => have := HGI.out; obtain ⟨_, _, _, _, h⟩ := HI2.out; omega
          case rel => exact ⟨uo, rfl, Lib.hid (by obtain ⟨j, r, h1, h2, -⟩ := HI2.out; exact ⟨j, r, h1, h2⟩), HC2, HB2⟩
end Go.Proofs.YticcccciefaemaaGreatDoor.Ln

namespace Go.Proofs.YticcccciefaemaaGreatDoor.Ln
open Go.RowKit Go.Shelf Go.Herb

/-- A watch, and where its chain lies. -/
structure Wv where
  a : Option Addr
  c : Nat
  cs : List (Int × Int)
  at_ : Int
  on : Bool
def wvc (x : Wv) : List Value := [.slice x.a x.cs.length x.c, .int .u64 x.at_, .bool x.on]
theorem wvc_len (x : Wv) : (wvc x).length = 3 := rfl
/-- What a watch says. -/
abbrev Ws := List (Int × Int) × Int × Bool
def Wv.says (x : Wv) : Ws := (x.cs, x.at_, x.on)
def OwnW (B : Nat) (w : World) (v : Value) (ws : List Wv) : Prop := w.ownsRow B (63) 3 v ws.length (ws.flatMap wvc)
def ChainsOk (w : World) (ws : List Wv) : Prop := ∀ x ∈ ws, ∃ cap, OwnK 0 w (.slice x.a x.cs.length cap) x.cs
theorem infoW : (Tryz.prog.info? (63)).map (fun i => (i.zero, i.size, i.bytes)) = some (some (.agg #[.slice none 0 0, .int .u64 0, .bool false]), 3, 40) := by kernel_rfl
theorem ownK_below {B : Nat} {w w' : World} {v : Value} {xs : List (Int × Int)} (h : OwnK B w v xs) (hb : Below w.heap.size w w') : OwnK B w' v xs := ownsRow_below h hb (Nat.le_refl _)
theorem ChainsOk.below {w w' : World} {ws : List Wv} (h : ChainsOk w ws) (hb : Below w.heap.size w w') : ChainsOk w' ws := fun x hx => by
  obtain ⟨c, hc⟩ := h x hx
  exact ⟨c, ownK_below hc hb⟩
theorem ownK_grown {B C : Nat} {w w' : World} {k v : Value} {xs : List (Int × Int)} {ws : List Wv} (h : OwnK B w k xs) (hr : OwnW C w v ws) (hg : w.grownBy w' v.ownBlock) : OwnK B w' k xs := by
  obtain ⟨h1, h2⟩ := h
  refine ⟨h1, h2.imp id ?_⟩
  rintro ⟨g, cap, cur, hv, hg0, hh, r⟩
  refine ⟨g, cap, cur, hv, hg0, (hg.block g (lt_of_blk hh) (fun e => ?_)).trans hh, r⟩
  obtain ⟨_, h | ⟨g', cap', cur', hv', _, hh', _⟩⟩ := hr
  · rw [h.1] at e; cases e
  · rw [hv'] at e
    have e : g = g' := by injection e
    subst e
    rw [hh] at hh'
    injection hh' with hh'
    injection hh' with _ h3
    exact absurd h3 (by decide)
theorem ChainsOk.grown {C : Nat} {w w' : World} {v : Value} {ws vs : List Wv} (h : ChainsOk w ws) (hr : OwnW C w v vs) (hg : w.grownBy w' v.ownBlock) : ChainsOk w' ws := fun x hx => by
  obtain ⟨c, hc⟩ := h x hx
  exact ⟨c, ownK_grown hc hr hg⟩
theorem run_append_w (w : World) (B : Nat) (v : Value) (ws : List Wv) (b : Nat) (x : Wv) (ho : OwnW B w v ws) (hb : w.heap[b]? = some (.cells #[.slice x.a x.cs.length x.c, .int .u64 x.at_, .bool x.on] (63) (0, 0))) (hx : ws.length < 1000000) (hB : B ≤ w.heap.size) (ty : TypeId) :
    ∃ v' w', (Builtin.append_ #[(39), (39)] ty #[v, .slice (some ⟨b, 0, none⟩) 1 1]).run Tryz.prog w = .ok v' w' ∧ OwnW B w' v' (ws ++ [x]) ∧ w.grownBy w' v.ownBlock := by
  obtain ⟨i0, hin, hz0, hz1, hz2⟩ := info_parts infoW
  obtain ⟨v', w', hr, h2, h3, h4⟩ := run_append_own (P := Tryz.prog) w B (39) ty (63) i0 _ 3 40 Tryz.underlying39 hin hz0 hz1 hz2 rfl (by decide) v ws.length (ws.flatMap wvc) ho ⟨b, 0, none⟩ 1 1 (wvc x) rfl (fun j u hj => by
      have : ((⟨b, 0, none⟩ : Addr).add j) = ⟨b, 0 + j, none⟩ := addr_add _ _ _
      rw [this, Nat.zero_add, cell_of_blk hb]
      simpa [wvc] using hj) (by intro v hv; simp [wvc] at hv; rcases hv with rfl | rfl | rfl <;> rfl) (by unfold maxLen; omega) (by omega) hB
  refine ⟨v', w', hr, ?_, h3⟩
  unfold OwnW
  rw [List.length_append, List.flatMap_append]
  simpa using h2
/-- Blocks of cells that are no watches stay. -/
def Same (w w' : World) : Prop := ∀ (g : Nat) (cur : Array Value) (e : Nat), e ≠ (63) → w.heap[g]? = some (.cells cur e (0, 0)) → w'.heap[g]? = some (.cells cur e (0, 0))
theorem Same.of_below {w w' : World} (h : Below w.heap.size w w') : Same w w' := fun _ _ _ _ hg => blk_below hg h (lt_of_blk hg)
theorem Same.trans {a b c : World} (h : Same a b) (k : Same b c) : Same a c := fun g cur e he hg => k g cur e he (h g cur e he hg)
theorem Same.grown {C : Nat} {w w' : World} {v : Value} {ws : List Wv} (hr : OwnW C w v ws) (hg : w.grownBy w' v.ownBlock) : Same w w' := fun g cur e he hh => by
  refine (hg.block g (lt_of_blk hh) (fun x => ?_)).trans hh
  obtain ⟨_, h | ⟨g', cap', cur', hv', _, hh', _⟩⟩ := hr
  · rw [h.1] at x; cases x
  · rw [hv'] at x
    have x : g = g' := by injection x
    subst x
    rw [hh] at hh'
    injection hh' with hh'
    injection hh' with _ h3
    exact he h3
theorem Same.owns {w w' : World} (h : Same w w') {B e s n : Nat} {v : Value} {xs : List Value} (he : e ≠ (63)) (ho : w.ownsRow B e s v n xs) : w'.ownsRow B e s v n xs := by
  obtain ⟨h1, h2⟩ := ho
  refine ⟨h1, h2.imp id ?_⟩
  rintro ⟨g, cap, cur, hv, hg0, hh, r⟩
  exact ⟨g, cap, cur, hv, hg0, h g cur e he hh, r⟩
/-- Points in a row of their own. -/
def OwnPt (w : World) (va : Option Addr) (ps : List (Int × Int)) : Prop := ∃ cap, w.ownsRow 0 (72) 2 (.slice va ps.length cap) ps.length (ps.flatMap lnc)
theorem OwnPt.same {w w' : World} {va : Option Addr} {ps : List (Int × Int)} (h : OwnPt w va ps) (hs : Same w w') : OwnPt w' va ps := by
  obtain ⟨c, hc⟩ := h
  exact ⟨c, hs.owns (by decide) hc⟩
theorem OwnPt.els {w : World} {va : Option Addr} {ps : List (Int × Int)} (h : OwnPt w va ps) : Lns w va ps := by
  obtain ⟨c, hc⟩ := h
  obtain ⟨a, c', he, -, hE⟩ := els_of_owns lnc_len hc
  injection he with he
  subst he
  exact hE
/-- A row of watches that a call has laid, saying S. -/
structure WR (w0 w : World) (v : Value) (S : List Ws) : Prop where
  row : ∃ ws, OwnW w0.heap.size w v ws ∧ ChainsOk w ws ∧ ws.map Wv.says = S
  below : Below w0.heap.size w0 w
theorem WR.nil (w : World) : WR w w (.slice none 0 0) [] := ⟨⟨[], World.ownsRow_nil _ _ _ _, (fun _ h => absurd h (by simp)), rfl⟩, Below.refl _ _⟩
theorem WR.ext {w0 w w' : World} {v : Value} {S : List Ws} (h : WR w0 w v S) (hb : Below w.heap.size w w') : WR w0 w' v S := by
  obtain ⟨ws, h1, h2, h3⟩ := h.row
  exact ⟨⟨ws, ownsRow_below h1 hb (Nat.le_refl _), h2.below hb, h3⟩, h.below.trans (hb.mono h.below.size)⟩
theorem WR.app {w0 w : World} {v : Value} {S : List Ws} (h : WR w0 w v S) {b n c cap : Nat} {a : Option Addr} {cs : List (Int × Int)} {at_ : Int} {on : Bool} (hb : w.heap[b]? = some (.cells #[.slice a n c, .int .u64 at_, .bool on] (63) (0, 0)))
    (hn : n = cs.length) (hk : OwnK 0 w (.slice a cs.length cap) cs) (hl : S.length < 1000000) (ty : TypeId) :
    ∃ v' w', (Builtin.append_ #[(39), (39)] ty #[v, .slice (some ⟨b, 0, none⟩) 1 1]).run Tryz.prog w = .ok v' w' ∧ WR w0 w' v' (S ++ [(cs, at_, on)]) ∧ Same w w' := by
  obtain ⟨ws, h1, h2, h3⟩ := h.row
  subst hn
  obtain ⟨v', w', hr, hO, hg⟩ := run_append_w w w0.heap.size v ws b ⟨a, c, cs, at_, on⟩ h1 hb (by rw [← h3, List.length_map] at hl; exact hl) h.below.size ty
  refine ⟨v', w', hr, ⟨⟨ws ++ [⟨a, c, cs, at_, on⟩], hO, fun x hx => ?_, by rw [List.map_append, h3]; rfl⟩, h.below.grown hg h.below.size (fun k e => (World.ownsRow.lt h1 k e).1)⟩, Same.grown h1 hg⟩
  rcases List.mem_append.1 hx with hx | hx
  · exact (h2.grown h1 hg) x hx
  · rw [List.mem_singleton.1 hx]
    exact ⟨cap, ownK_grown hk h1 hg⟩
theorem wp_append_w {w : World} {o : Oper} {a : Act} {K : Act → World → Prop} {Q : Exit → Act → World → Prop} (s x : Operand) (ho : o.op = .call { callee := .builtin .append, args := #[s, x], argTypes := #[(39), (39)] })
    {w0 : World} {v : Value} {S : List Ws} (h : WR w0 w v S) {b n c cap : Nat} {ad : Option Addr} {cs : List (Int × Int)} {at_ : Int} {on : Bool} (hs : a.eval s = v) (hx : a.eval x = .slice (some ⟨b, 0, none⟩) 1 1)
    (hb : w.heap[b]? = some (.cells #[.slice ad n c, .int .u64 at_, .bool on] (63) (0, 0))) (hn : n = cs.length) (hk : OwnK 0 w (.slice ad cs.length cap) cs) (hl : S.length < 1000000)
    (hK : ∀ v' w', WR w0 w' v' (S ++ [(cs, at_, on)]) → Same w w' → K (a.put o.dst v') w') : o.wp Tryz.prog a w K Q := by
  obtain ⟨v', w', hr, h2, h3⟩ := h.app hb hn hk hl o.type
  unfold Oper.wp execOp
  simp only [ho, resolve, invoke, builtin, Sem.run_bind, Sem.run_pure, Result.andThen_ok, List.map_toArray, List.map_cons, List.map_nil, hs, hx, hr]
  exact hK v' w' h2 h3

/-- Watches that say S, in a slice. -/
def WsPost (S : List Ws) (w : World) (e : Ending) (w' : World) : Prop := ∃ a cap ws, e = .returned (.slice a ws.length cap) ∧ Els wvc 3 w' a ws ∧ (∀ x ∈ ws, Lns w' x.a x.cs) ∧ ws.map Wv.says = S ∧ Below w.heap.size w w'
theorem ownK_els {B cap n : Nat} {w : World} {a : Option Addr} {xs : List (Int × Int)} (h : OwnK B w (.slice a n cap) xs) : Lns w a xs := by
  obtain ⟨a', c', he, -, hE⟩ := els_of_owns lnc_len h
  injection he with he
  subst he
  exact hE
theorem WR.post {w0 w : World} {v : Value} {S : List Ws} (h : WR w0 w v S) : WsPost S w0 (.returned v) w := by
  obtain ⟨ws, h1, h2, h3⟩ := h.row
  obtain ⟨a, c, rfl, -, hE⟩ := els_of_owns wvc_len h1
  exact ⟨a, c, ws, rfl, hE, fun x hx => by obtain ⟨_, hk⟩ := h2 x hx; exact ownK_els hk, h3, h.below⟩
/-- The chapter's watches: of branches; of points. -/
def wB (ls : List Ln) (b : Br) : Ws := (chainF ls ls.length b.2.1 18446744073709551615, b.2.2, true)
def wP (ls : List Ln) (p : Int × Int) : Ws := (chainF ls ls.length p.1 18446744073709551615, p.2, false)
def someW (x : Ws) : Bool := decide (0 < x.1.length)
def watchL (bs : List Br) (ls : List Ln) (ps : List (Int × Int)) : List Ws := bs.map (wB ls) ++ (ps.map (wP ls)).filter someW
theorem watchL_len (bs : List Br) (ls : List Ln) (ps : List (Int × Int)) : (watchL bs ls ps).length ≤ bs.length + ps.length := by
  unfold watchL
  have := List.length_filter_le someW (ps.map (wP ls))
  simp at this ⊢
  omega
theorem watchL_step {bs : List Br} {ls : List Ln} {ps : List (Int × Int)} {i : Nat} (h : i < ps.length) : watchL bs ls (ps.take (i + 1)) = watchL bs ls (ps.take i) ++ if someW (wP ls ps[i]) then [wP ls ps[i]] else [] := by
  unfold watchL
  rw [List.take_succ_eq_append_getElem h, List.map_append, List.filter_append, List.append_assoc]
  congr 2
  simp only [List.map_cons, List.map_nil, List.filter_cons, List.filter_nil]
theorem wB_step {bs : List Br} {ls : List Ln} {i : Nat} (h : i < bs.length) : (bs.take (i + 1)).map (wB ls) = (bs.take i).map (wB ls) ++ [wB ls bs[i]] := by
  rw [List.take_succ_eq_append_getElem h, List.map_append]
  rfl
end Go.Proofs.YticcccciefaemaaGreatDoor.Ln

namespace Go.Proofs.YticcccciefaemaaGreatDoor.Ln
open Go.RowKit Go.Shelf Go.Herb
set_option maxRecDepth 100000 in
set_option maxHeartbeats 1000000 in
theorem watchesR_any {bs : List Br} {ls : List Ln} (p q : Nat) (ps : List (Int × Int)) (w : World) (h : RTreeIs w p bs ls) (hf : FormedL ls) (hl48 : ls.length ≤ 48) (hb : bs.length ≤ 100) (hp : ps.length ≤ 2000)
    (hP : ∀ u, Below w.heap.size w u → Calls Tryz.prog (28) #[.pointer (some ⟨q, 0, none⟩)] u (fun e w' => ∃ va n vc, e = .returned (.slice va n vc) ∧ n = ps.length ∧ OwnPt w' va ps ∧ Below u.heap.size u w')) :
    Calls Tryz.prog (11) #[.pointer (some ⟨p, 0, none⟩), .pointer (some ⟨q, 0, none⟩)] w (WsPost (watchL bs ls ps) w) := by
  have HT := Lib.hid h
  have HPT := Lib.hid hP
  have HCH : Hid (∀ (line : Int) (cs : List (Int × Int)), cs = chainF ls ls.length line 18446744073709551615 → ∀ u, Below w.heap.size w u → Calls Tryz.prog (27) #[.pointer (some ⟨p, 0, none⟩), .int .u64 line] u (fun e w' => ∃ a n cap, e = .returned (.slice a n cap) ∧ n = cs.length ∧ OwnK 0 w' (.slice a cs.length cap) cs ∧ n ≤ 48 ∧ Below u.heap.size u w')) := Lib.hid (by
    rintro line cs rfl u hu
    refine (chainR_any p line u (h.ext hu) hf hl48).mono ?_
    rintro e w' ⟨a, cap, rfl, h1, h2⟩
    exact ⟨a, _, cap, rfl, rfl, ownK_le h1 (Nat.zero_le _), Nat.le_trans (chain_len _ _ _) hl48, h2⟩)
  obtain ⟨ba, bc, la, lc, hblk, hBs, -⟩ := h.blk
  obtain ⟨nb, hnb⟩ : ∃ nb, nb = bs.length := ⟨_, rfl⟩
  rw [← hnb] at hblk hb
  have HC : Hid (∀ u, Below w.heap.size w u → u.cell? ⟨p, 0, none⟩ = some (.slice ba nb bc)) := Lib.hid (fun u hu => by
    have c := cell_of_blk (blk_below hblk hu (lt_of_blk hblk)) 0
    simp at c
    exact c)
  have HBS := Lib.hid hBs
  have HNB := Lib.hid hnb
  have HLB := Lib.hid hb
  have HLP := Lib.hid hp
  clear h hP hf hl48 hblk hBs hnb hp
  go_enter Tryz.func11, Tryz.ntmps11
  go_wp2_with fail
  go_loopg [5, 6] nb (fun gk ov iv wr => ∃ i : Nat, i + gk = nb ∧ iv = .int .i64 i ∧ Hid (WR w wr ov ((bs.take i).map (wB ls))))
  case atStart => exact ⟨0, by omega, rfl, Lib.hid (WR.nil w)⟩
  case round =>
    obtain ⟨i, hi, rfl, HW⟩ := hrel
    have c0 := HC.out wr HW.out.below
    by_cases hlt : i < nb
    · have hil : i < bs.length := by have := HNB.out; omega
      obtain ⟨b, o, rfl, hlb, hcx⟩ := HBS.out.get i hil
      have HST := Lib.hid (wB_step (ls := ls) hil)
      generalize bs[i] = y at hcx HST
      have x1 := hcx 1 _ rfl
      have x2 := hcx 2 _ rfl
      obtain ⟨cs, hcs⟩ : ∃ cs, cs = chainF ls ls.length y.2.1 18446744073709551615 := ⟨_, rfl⟩
      obtain ⟨line, hline⟩ : ∃ l, l = y.2.1 := ⟨_, rfl⟩
      obtain ⟨mk, hmk⟩ : ∃ l, l = y.2.2 := ⟨_, rfl⟩
      have HST2 := Lib.hid (show (bs.take (i + 1)).map (wB ls) = (bs.take i).map (wB ls) ++ [(cs, mk, true)] by rw [HST.out, hcs, hmk]; rfl)
      have HSL := Lib.hid (show ((bs.take i).map (wB ls)).length < 1000000 by have := HLB.out; simp; omega)
      rw [← hline] at hcs x1
      rw [← hmk] at x2
      have HSA : Hid (∀ u, Below w.heap.size w u → u.cell? ⟨p, 0, none⟩ = some (.slice (some ⟨b, o, none⟩) nb bc) ∧ u.cell? ⟨b, o + i * 3 + 1, none⟩ = some (.int .u64 line) ∧ u.cell? ⟨b, o + i * 3 + 2, none⟩ = some (.int .u64 mk)) := Lib.hid (fun u hu => ⟨HC.out u hu, (hu.cell (p := ⟨b, _, none⟩) hlb).trans x1, (hu.cell (p := ⟨b, _, none⟩) hlb).trans x2⟩)
      have HCC := Lib.hid (HCH.out line cs hcs)
      have hk0 : (0 : Int) ≤ (i : Int) := by omega
      have hk1 : (i : Int) < (nb : Int) := by omega
      have kw : IntKind.i64.wrap ((i : Int) + 1) = (i : Int) + 1 := IntWalk.i64_in _ (by omega)
      have HWD := Lib.hid (show WR w wr.drew u5 ((bs.take i).map (wB ls)) from HW.out.ext (bdrw (Below.refl _ _)))
      clear hcx x1 x2 hline hmk hcs HST hlb
      go_wp2_with fail
      go_region_held3 (fun u => u.cell? ⟨p, 0, none⟩ = some (.slice (some ⟨b, o, none⟩) nb bc) ∧ u.cell? ⟨b, o + i * 3 + 1, none⟩ = some (.int .u64 line) ∧ u.cell? ⟨b, o + i * 3 + 2, none⟩ = some (.int .u64 mk)) (first | exact HSA.out _ HWD.out.below | exact HSA.out _ hbu | exact HSA.out _ (hbu.alloc hbu.size _))
        (first | (go_at_call 27; (with_reducible refine (HCC.out _ HWD.out.below).mono ?_); rintro e wc ⟨a, n, cap, rfl, hn, hO, -, hbc⟩; have HWC := Lib.hid (HWD.out.ext hbc); have hbu := HWC.out.below; have HN := Lib.hid hn; have HOC := Lib.hid hO; clear hO hbc hn)
               | (refine wp_append_w (.tmp 19) (.tmp 39) (by rfl) (HWC.out.ext ((Below.refl _ _).alloc (Nat.le_refl _) _)) (by rfl) (by rfl) (blk_new_at rfl _) HN.out (ownK_below HOC.out ((Below.refl _ _).alloc (Nat.le_refl _) _)) HSL.out ?_; intro v9 w9 hW9 _; have HW9 := Lib.hid hW9; have hbu := HW9.out.below; clear hW9))
      all_goals
        rw [← HST2.out] at HW9
        go_wp2_with fail
        go_roundg (gk - 1)
        case measure => omega
        case rel => exact ⟨i + 1, by omega, by go_num, HW9⟩
    · have hin : i = nb := by omega
      have HW2 := Lib.hid (show WR w wr u5 (watchL bs ls (ps.take 0)) from by
        have h1 := HW.out
        rw [hin, HNB.out, List.take_length] at h1
        simpa [watchL] using h1)
      have h1 : ¬ (i : Int) < (nb : Int) := by omega
      clear HW
      go_wp2_with fail
      (with_reducible refine (HPT.out _ HW2.out.below).mono ?_)
      rintro e w2 ⟨va, np, vc, rfl, hnp, hVP, hb2⟩
      have HW3 := Lib.hid (HW2.out.ext hb2)
      have HNP := Lib.hid hnp
      have HVP := Lib.hid hVP
      have hnp2 : np ≤ 2000 := by have := HLP.out; omega
      clear hnp hVP hb2 HW2 h1 hin hi hlt c0
      go_wp2_with fail
      go_loopg [5, 8] np (fun gk ov iv wr => ∃ i : Nat, i + gk = np ∧ iv = .int .i64 i ∧ Hid (WR w wr ov (watchL bs ls (ps.take i))) ∧ Hid (OwnPt wr va ps))
      case atStart => exact ⟨0, by omega, rfl, HW3, HVP⟩
      case round =>
        obtain ⟨i, hi, rfl, HW, HV⟩ := hrel
        by_cases hlt : i < np
        · have hil : i < ps.length := by have := HNP.out; omega
          obtain ⟨b, o, hva, hlb, hcx⟩ := HV.out.els.get i hil
          have HST := Lib.hid (watchL_step (bs := bs) (ls := ls) hil)
          generalize ps[i] = y at hcx HST
          have x0 := hcx 0 _ rfl
          have x1 := hcx 1 _ rfl
          simp only [Nat.add_zero] at x0 x1
          obtain ⟨cs, hcs⟩ : ∃ cs, cs = chainF ls ls.length y.1 18446744073709551615 := ⟨_, rfl⟩
          obtain ⟨line, hline⟩ : ∃ l, l = y.1 := ⟨_, rfl⟩
          obtain ⟨sq, hsq⟩ : ∃ l, l = y.2 := ⟨_, rfl⟩
          have HST2 := Lib.hid (show watchL bs ls (ps.take (i + 1)) = watchL bs ls (ps.take i) ++ if decide (0 < cs.length) then [(cs, sq, false)] else [] by rw [HST.out, hcs, hsq]; rfl)
          have HSL := Lib.hid (show (watchL bs ls (ps.take i)).length < 1000000 by
            have h1 := watchL_len bs ls (ps.take i)
            have h2 := HLB.out
            have h3 := HNB.out
            simp only [List.length_take] at h1
            omega)
          rw [← hline] at hcs x0
          rw [← hsq] at x1
          have HCC := Lib.hid (HCH.out line cs hcs)
          have hk0 : (0 : Int) ≤ (i : Int) := by omega
          have hk1 : (i : Int) < (np : Int) := by omega
          have kw : IntKind.i64.wrap ((i : Int) + 1) = (i : Int) + 1 := IntWalk.i64_in _ (by omega)
          have HX1 := Lib.hid x1
          have HLT := Lib.hid hlb
          subst hva
          clear hcx x1 hline hsq hcs HST hlb
          go_wp2_with fail
          (with_reducible refine (HCC.out _ HW.out.below).mono ?_)
          rintro e wc ⟨a, n, cap, rfl, hn, hO, hn48, hbc⟩
          have HWC := Lib.hid (HW.out.ext hbc)
          have HVC := Lib.hid (HV.out.same (Same.of_below hbc))
          have y1 := (hbc.cell (p := ⟨b, _, none⟩) HLT.out).trans HX1.out
          by_cases h0 : 0 < n
          · obtain ⟨v9, w9, hr, hW9, hs9⟩ := (HWC.out.ext (w' := wc.alloc (.cells #[.slice a n cap, .int .u64 sq, .bool false] (63))) ((Below.refl _ _).alloc (Nat.le_refl _) _)).app (blk_new_at rfl _) hn (ownK_below hO ((Below.refl _ _).alloc (Nat.le_refl _) _)) HSL.out (39)
            have HR := Lib.hid hr
            have HW9 := Lib.hid (show WR w w9 v9 (watchL bs ls (ps.take (i + 1))) by
              rw [HST2.out, if_pos (decide_eq_true (by omega))]
              exact hW9)
            have HV9 := Lib.hid ((HVC.out.same (Same.of_below ((Below.refl _ _).alloc (Nat.le_refl _) _))).same hs9)
            have h0' : (0 : Int) < (n : Int) := by omega
            clear hr hW9 hs9 hO hbc hn h0
            go_wp2_with (at_builtin; refine Lib.wpList_append_run _ rfl _ _ _ _ rfl _ _ rfl rfl _ _ HR.out ?_)
            go_roundg (gk - 1)
            case measure => omega
            case rel => exact ⟨i + 1, by omega, by go_num, HW9, HV9⟩
          · have HW9 := Lib.hid (show WR w wc u5 (watchL bs ls (ps.take (i + 1))) by
              rw [HST2.out, if_neg (by rw [decide_eq_true_eq]; omega), List.append_nil]
              exact HWC.out)
            have h0' : ¬ (0 : Int) < (n : Int) := by omega
            clear hO hbc hn h0 y1
            go_wp2_with fail
            go_roundg (gk - 1)
            case measure => omega
            case rel => exact ⟨i + 1, by omega, by go_num, HW9, HVC⟩
        · have HE := Lib.hid (show WR w wr u5 (watchL bs ls ps) by
            have h1 := HW.out
            rwa [List.take_of_length_le (by have := HNP.out; omega)] at h1)
          go_wp2_with fail
          go_ret
          exact HE.out.post
end Go.Proofs.YticcccciefaemaaGreatDoor.Ln

namespace Go.Proofs.YticcccciefaemaaGreatDoor.Ln
open Go.RowKit Go.Shelf Go.Herb

/-- A pointer to vectors that no call made. -/
def NoneP (w : World) (po : Option Addr) : Prop := po = none ∨ ∃ p, po = some ⟨p, 0, none⟩ ∧ w.heap[p]? = some (.cells #[.map none, .int .i64 0] (47) (0, 0))
theorem NoneP.below {w w' : World} {po : Option Addr} (h : NoneP w po) (hb : Below w.heap.size w w') : NoneP w' po := by
  rcases h with h | ⟨p, h1, h2⟩
  · exact .inl h
  · exact .inr ⟨p, h1, blk_below h2 hb (lt_of_blk h2)⟩
theorem thereNone_any (po : Option Addr) (w : World) (h : NoneP w po) : Calls Tryz.prog (43) #[.pointer po] w fun e w' => e = .returned (.bool false) ∧ w = w' := by
  rcases h with rfl | ⟨p, rfl, hp⟩
  · go_enter Tryz.func43, Tryz.ntmps43
    go_wp2
    go_ret
    exact ⟨rfl, rfl⟩
  · have c1 := cell_of_blk hp 1
    simp at c1
    clear hp
    go_enter Tryz.func43, Tryz.ntmps43
    go_wp2
    go_ret
    exact ⟨rfl, rfl⟩
theorem needsNone_any (po : Option Addr) (v : Value) (w : World) (h : NoneP w po) : Calls Tryz.prog (64) #[.pointer po, v] w fun e w' => e = .returned (.int .i64 2) ∧ w = w' := by
  have H := Lib.hid h
  clear h
  go_enter Tryz.func64, Tryz.ntmps64
  go_wp2_with fail
  refine (thereNone_any po w H.out).mono ?_
  rintro e w' ⟨rfl, rfl⟩
  go_wp2
  go_ret
  exact ⟨rfl, rfl⟩
theorem dropNone_any (po : Option Addr) (line : Int) (w : World) (h : NoneP w po) : Calls Tryz.prog (38) #[.pointer po, .int .u64 line] w fun e w' => e = .returned (.tuple #[.pointer none, .int .i64 2]) ∧ Below w.heap.size w w' := by
  have hb : Below w.heap.size w (w.alloc (.cells #[.int .u64 line] (52))) := (Below.refl _ _).alloc (Nat.le_refl _) _
  have HN := Lib.hid (fun v => needsNone_any po v _ (h.below hb))
  have HB := Lib.hid hb
  clear h hb
  go_enter Tryz.func38, Tryz.ntmps38
  go_wp2_with fail
  refine (HN.out _).mono ?_
  rintro e w' ⟨rfl, rfl⟩
  go_wp2
  go_ret2
  exact ⟨rfl, HB.out⟩
theorem thereV_none (po : Option Addr) (w : World) (h : NoneP w po) : Calls Tryz.prog (22) #[.pointer po] w fun e w' => e = .returned (.bool false) ∧ Below w.heap.size w w' := by
  have H := Lib.hid h
  clear h
  go_enter Tryz.func22, Tryz.ntmps22
  go_wp2_with fail
  refine (dropNone_any po 18446744073709551615 w H.out).mono ?_
  rintro e w' ⟨rfl, hb⟩
  have HB := Lib.hid hb
  clear hb
  go_wp2
  go_ret
  exact ⟨rfl, HB.out⟩
theorem thereV_any (p mb : Nat) (M : List (Int × Nat)) (L : Vs) (w : World) (h : Vx.VecIs w p mb M L) (hG : GoodV L) (hS : Vx.Small L) : Calls Tryz.prog (22) #[.pointer (some ⟨p, 0, none⟩)] w fun e w' => e = .returned (.bool true) ∧ Below w.heap.size w w' := by
  have HC := Lib.hid (Vx.drop_any p mb M L 18446744073709551615 w h hG hS rfl)
  have hr2 : (dropV L 18446744073709551615).1 ≠ 2 := by
    unfold dropV
    split <;> simp
  obtain ⟨r, hr⟩ : ∃ r, r = dropV L 18446744073709551615 := ⟨_, rfl⟩
  rw [← hr] at HC hr2
  obtain ⟨x, hx⟩ : ∃ x, x = r.1 := ⟨_, rfl⟩
  rw [← hx] at hr2
  have HX := Lib.hid hx
  have hd : (x == 2) = false := beq_eq_false_iff_ne.2 hr2
  have hdn : (x != 2) = true := by unfold bne; rw [hd]; rfl
  clear h hG hS hr hr2 hx
  go_enter Tryz.func22, Tryz.ntmps22
  go_wp2_with fail
  refine HC.out.mono ?_
  rintro e w' ⟨v, rfl, -, -, hb⟩
  rw [← HX.out]
  have HB := Lib.hid hb
  clear hb
  go_wp2_with fail
  go_ret
  exact ⟨rfl, HB.out⟩
/-- A pointer to a tree that no call made. -/
def NoneT (w : World) (po : Option Addr) : Prop := po = none ∨ ∃ p x y, po = some ⟨p, 0, none⟩ ∧ w.heap[p]? = some (.cells #[x, y, .int .i64 0] (44) (0, 0))
theorem thereT_none (po : Option Addr) (w : World) (h : NoneT w po) : Calls Tryz.prog (35) #[.pointer po] w fun e w' => e = .returned (.bool false) ∧ w = w' := by
  rcases h with rfl | ⟨p, x, y, rfl, hp⟩
  · exact there_nil w
  · exact (there_raw p w hp).mono (by rintro e w' ⟨rfl, rfl⟩; exact ⟨rfl, rfl⟩)
theorem watches_noT (po : Option Addr) (v : Value) (w : World) (h : NoneT w po) : Calls Tryz.prog (9) #[.pointer po, v] w fun e w' => e = .returned (.slice none 0 0) ∧ Below w.heap.size w w' := by
  have HL := Lib.hid (allL_none w (thereT_none po w h))
  have HB := Lib.hid (Below.refl w.heap.size w)
  clear h
  go_enter Tryz.func9, Tryz.ntmps9
  go_wp2_with (go_at_call 21; refine HL.out.mono ?_; rintro e w' ⟨rfl, rfl⟩)
  go_ret
  exact ⟨rfl, HB.out⟩
theorem watches_noV {bs : List Br} {ls : List Ln} (p : Nat) (po : Option Addr) (w : World) (hT : TreeIs w p bs ls) (h0 : 0 < ls.length) (h1 : ls.length < 1000000) (h : NoneP w po) : Calls Tryz.prog (9) #[.pointer (some ⟨p, 0, none⟩), .pointer po] w fun e w' => e = .returned (.slice none 0 0) ∧ Below w.heap.size w w' := by
  have HL := Lib.hid (allL_any p w hT h0 h1)
  have HN := Lib.hid h
  obtain ⟨n, hn⟩ : ∃ n, n = ls.length := ⟨_, rfl⟩
  have HNN := Lib.hid hn
  have hd : ((n : Int) == 0) = false := beq_eq_false_iff_ne.2 (by omega)
  clear hT h0 h1 h hn
  go_enter Tryz.func9, Tryz.ntmps9
  go_wp2_with (first
    | (go_at_call 21; refine HL.out.mono ?_; rintro e w1 ⟨g, R, rfl, -, -, hb1⟩; have HB1 := Lib.hid hb1; clear hb1; rw [← HNN.out])
    | (go_at_call 22; refine (thereV_none po w1 (HN.out.below HB1.out)).mono ?_; rintro e w2 ⟨rfl, hb2⟩; have HB2 := Lib.hid (HB1.out.trans (hb2.mono HB1.out.size)); clear hb2))
  go_ret
  exact ⟨rfl, HB2.out⟩
end Go.Proofs.YticcccciefaemaaGreatDoor.Ln
