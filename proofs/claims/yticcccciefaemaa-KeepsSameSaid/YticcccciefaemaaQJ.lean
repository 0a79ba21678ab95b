/- KeepsMore's walk. No condition. -/
import Derived.Test.YticcccciefaemaaQI
import Derived.Test.YticcccciefaemaaVr
import Derived.Outline
namespace Go.Proofs.Yticcccciefaemaa
open Go.RowKit Go.Shelf Go.Herb
attribute [local go_sem ↓] Go.wp_at_zero Go.wp_at_succ

theorem keptL_mono (xs : List Fc) (f g : Nat → Bool) : ∀ n, n ≤ xs.length → (∀ i, i < n → f i = true → g i = true) → (keptL xs f n).Sublist (keptL xs g n)
  | 0, _, _ => by simp [keptL]
  | n + 1, hn, h => by
    rw [keptL_succ xs f n (by omega), keptL_succ xs g n (by omega)]
    refine List.Sublist.append (keptL_mono xs f g n (by omega) (fun i hi => h i (by omega))) ?_
    cases hf : f n with
    | true => rw [h n (by omega) hf]; exact List.Sublist.refl _
    | false => exact List.nil_sublist _
theorem keepIs_sub {xs : List Fc} {ws vs : List Wt} {ys zs : List Fc} (h1 : KeepIs xs ws ys) (h2 : KeepIs xs vs zs) (h : ∀ i, KeptP xs ws i → KeptP xs vs i) : ys.Sublist zs := by
  obtain ⟨f, hf, rfl⟩ := h1
  obtain ⟨g, hg, rfl⟩ := h2
  exact keptL_mono xs f g _ (Nat.le_refl _) (fun i hi hfi => (hg i hi).2 (h i ((hf i hi).1 hfi)))
theorem kept_more {xs : List Fc} {ws vs : List Wt} (h : ∀ x ∈ ws, x ∈ vs) (i : Nat) (hk : KeptP xs ws i) : KeptP xs vs i := by
  obtain ⟨s, x, hx, hl⟩ := hk
  exact ⟨s, x, h x hx, hl⟩
theorem kept_later {xs : List Fc} {x y : Wt} (hc : y.cs = x.cs) (hx : x.on = true) (hat : x.at_ ≤ y.at_) (i : Nat) (hk : KeptP xs [y] i) : KeptP xs [x] i := by
  obtain ⟨s, z, hz, hl⟩ := hk
  rw [List.mem_singleton] at hz
  subst hz
  refine ⟨s, x, by simp, ?_⟩
  unfold LooksAt LookB at hl ⊢
  rw [hc] at hl
  obtain ⟨h1, h2, _, h4⟩ := hl
  exact ⟨h1, h2, .inl hx, fun y hy hlt => by have := h4 y hy hlt; omega⟩

abbrev OwnWt (B : Nat) (w : World) (v : Value) (ws : List Wt) : Prop := w.ownsRow B (27) 3 v ws.length (ws.flatMap wc)
theorem info27 : (Try.prog.info? (27)).map (fun i => (i.zero, i.size, i.bytes)) = some (some (.agg #[.slice none 0 0, .int .u64 0, .bool false]), 3, 40) := by kernel_rfl
theorem wts_flat_one (ws : List Wt) : ∀ v ∈ ws.flatMap wc, v.oneCell' = true := by
  intro v hv
  obtain ⟨x, _, hx⟩ := List.mem_flatMap.1 hv
  simp [wc] at hx
  rcases hx with rfl | rfl | rfl <;> rfl
theorem run_append_wts (w : World) (B : Nat) (v : Value) (ws : List Wt) (ab : Option Addr) (cb : Nat) (bs : List Wt) (ho : OwnWt B w v ws) (hT : Els wc 3 w ab bs) (hx : ws.length < 1000000) (hb : bs.length < 1000000) (hn : ab = none → cb = 0) (hB : B ≤ w.heap.size) (ty : TypeId) :
    ∃ v' w', (Builtin.append_ #[(23), (23)] ty #[v, .slice ab bs.length cb]).run Try.prog w = .ok v' w' ∧ OwnWt B w' v' (ws ++ bs) ∧ w.grownBy w' v.ownBlock := by
  obtain ⟨i0, hin, hz0, hz1, hz2⟩ := info_parts info27
  cases ab with
  | none =>
    have h0 : bs = [] := by
      cases bs with
      | nil => rfl
      | cons x xs => obtain ⟨b, o, h, _⟩ := hT.get 0 (by simp); cases h
    subst h0
    rw [hn rfl]
    obtain ⟨av, cv, rfl, hle, -⟩ := els_of_owns wc_len ho
    have := run_append_owned_none (P := Try.prog) w B (23) ty (27) i0 3 Try.underlying23 hin _ _ _ ho
    exact ⟨_, w, this, by simpa using ho, grown_refl _ _⟩
  | some ad =>
    obtain ⟨v', w', hr, h2, h3, h4⟩ := run_append_own (P := Try.prog) w B (23) ty (27) i0 _ 3 40 Try.underlying23 hin hz0 hz1 hz2 rfl (by decide) v ws.length (ws.flatMap wc) ho ad bs.length cb (bs.flatMap wc) (flatMap_len wc_len _) (hT.flat wc_len (by decide)) (wts_flat_one _) (by unfold maxLen; omega) (by omega) hB
    refine ⟨v', w', hr, ?_, h3⟩
    show w'.ownsRow B (27) 3 v' (ws ++ bs).length ((ws ++ bs).flatMap wc)
    rw [List.length_append, List.flatMap_append]
    exact h2
theorem wp_append_wts {w : World} {o : Oper} {a : Act} {K : Act → World → Prop} {Q : Exit → Act → World → Prop} (s x : Operand) (ho : o.op = .call { callee := .builtin .append, args := #[s, x], argTypes := #[(23), (23)] })
    (B : Nat) (v : Value) (ws : List Wt) (ab : Option Addr) (cb : Nat) (bs : List Wt) (hs : a.eval s = v) (hx : a.eval x = .slice ab bs.length cb) (hown : OwnWt B w v ws) (hT : Els wc 3 w ab bs) (hl : ws.length < 1000000) (hb : bs.length < 1000000) (hn : ab = none → cb = 0) (hB : B ≤ w.heap.size)
    (h : ∀ v' w', OwnWt B w' v' (ws ++ bs) → w.grownBy w' v.ownBlock → K (a.put o.dst v') w') : o.wp Try.prog a w K Q := by
  obtain ⟨v', w', hr, h2, h3⟩ := run_append_wts w B v ws ab cb bs hown hT hl hb hn hB o.type
  unfold Oper.wp execOp
  simp only [ho, resolve, invoke, builtin, Sem.run_bind, Sem.run_pure, Result.andThen_ok, List.map_toArray, List.map_cons, List.map_nil, hs, hx, hr]
  exact h v' w' h2 h3

theorem wts_of_one {w : World} {b : Nat} {x : Wt} (h : w.heap[b]? = some (.cells #[.slice x.a x.cs.length x.c, .int .u64 x.at_, .bool x.on] (27) (0, 0))) : Els wc 3 w (some ⟨b, 0, none⟩) [x] := ⟨fun i hi => ⟨b, 0, rfl, lt_of_blk h, fun j c hj => by
    have hi0 : i = 0 := by simp at hi; exact hi
    subst hi0
    rw [cell_of_blk h]
    simpa [wc] using hj⟩⟩

theorem greatB_one (n : Nat) (x : Wt) : greatB n [x] = ((decide (120 < n) || decide (40 < x.cs.length)) || decide (80 < n)) := by simp [greatB]

set_option maxRecDepth 100000 in
set_option maxHeartbeats 2000000 in
theorem keepsMore_great (al : Option Addr) (cl : Nat) (xs : List Fc) (aw : Option Addr) (cw : Nat) (ws : List Wt) (x : Wt) (w : World) (hxl : xs.length ≤ maxLen) (hwl : ws.length ≤ maxLen) (hW : Els wc 3 w aw ws) (hcs : ∀ x ∈ ws, x.cs.length ≤ maxLen) (hxc : x.cs.length ≤ maxLen)
    (hg : greatB xs.length ws = true ∨ greatB xs.length ws = false ∧ (greatB xs.length [x] = true ∨ greatB xs.length [x] = false ∧ 20 < ws.length)) :
    Calls Try.prog (3) #[.slice al xs.length cl, .slice aw ws.length cw, .agg #[.slice x.a x.cs.length x.c, .int .u64 x.at_, .bool x.on]] w fun e w' => e = .returned (.bool true) ∧ Below w.heap.size w w' := by
  have HXL := Lib.hid hxl
  have HWL := Lib.hid hwl
  have HW := Lib.hid hW
  have HCS := Lib.hid hcs
  have HXC := Lib.hid hxc
  unfold maxLen at hwl
  clear hxl hW hcs hxc
  have hbx : Below w.heap.size w (w.alloc (.cells #[.slice x.a x.cs.length x.c, .int .u64 x.at_, .bool x.on] (27))) := (Below.refl _ _).alloc (Nat.le_refl _) _
  have HBX := Lib.hid hbx
  clear hbx
  rcases hg with hg | ⟨hg, hg2⟩
  · have HG := Lib.hid hg
    clear hg
    go_enter Try.func3, Try.ntmps3
    go_wp2_with fail
    refine (greatK_any al xs.length cl aw cw ws _ HXL.out HWL.out (HW.out.ext HBX.out) HCS.out).mono ?_
    rintro e w1 ⟨rfl, rfl⟩
    rw [HG.out]
    go_wp2_with fail
    refine (livesK_any _).mono ?_
    rintro e w2 ⟨rfl, hB⟩
    have HB := Lib.hid hB
    clear hB
    go_wp2
    go_ret
    exact ⟨rfl, HBX.out.trans (HB.out.mono HBX.out.size)⟩
  · have HG := Lib.hid hg
    clear hg
    have hone : Calls Try.prog (6) #[.slice al xs.length cl, .slice (some ⟨w.heap.size + 1, 0, none⟩) 1 1] ((w.alloc (.cells #[.slice x.a x.cs.length x.c, .int .u64 x.at_, .bool x.on] (27))).alloc (.cells #[.slice x.a x.cs.length x.c, .int .u64 x.at_, .bool x.on] (27))) fun e w' => e = .returned (.bool (greatB xs.length [x])) ∧ ((w.alloc (.cells #[.slice x.a x.cs.length x.c, .int .u64 x.at_, .bool x.on] (27))).alloc (.cells #[.slice x.a x.cs.length x.c, .int .u64 x.at_, .bool x.on] (27))) = w' :=
      greatK_any al xs.length cl _ 1 [x] _ HXL.out (show 1 ≤ maxLen by unfold maxLen; decide) (wts_of_one (blk_new_at (by simp) _)) (fun y hy => by rw [List.mem_singleton.1 hy]; exact HXC.out)
    have HONE := Lib.hid hone
    clear hone
    rcases hg2 with hg2 | ⟨hg2, h20⟩
    · have HG2 := Lib.hid hg2
      clear hg2
      go_enter Try.func3, Try.ntmps3
      go_wp2_with fail
      refine (greatK_any al xs.length cl aw cw ws _ HXL.out HWL.out (HW.out.ext HBX.out) HCS.out).mono ?_
      rintro e w1 ⟨rfl, rfl⟩
      rw [HG.out]
      go_wp2_with fail
      refine (HONE.out).mono ?_
      rintro e w1 ⟨rfl, rfl⟩
      rw [HG2.out]
      go_wp2_with fail
      refine (livesK_any _).mono ?_
      rintro e w2 ⟨rfl, hB⟩
      have HB := Lib.hid hB
      clear hB
      go_wp2
      go_ret
      exact ⟨rfl, (HBX.out.alloc HBX.out.size _).trans (HB.out.mono (by simp; omega))⟩
    · have HG2 := Lib.hid hg2
      clear hg2
      go_enter Try.func3, Try.ntmps3
      go_wp2_with fail
      refine (greatK_any al xs.length cl aw cw ws _ HXL.out HWL.out (HW.out.ext HBX.out) HCS.out).mono ?_
      rintro e w1 ⟨rfl, rfl⟩
      rw [HG.out]
      go_wp2_with fail
      refine (HONE.out).mono ?_
      rintro e w1 ⟨rfl, rfl⟩
      rw [HG2.out]
      go_wp2_with fail
      refine (livesK_any _).mono ?_
      rintro e w2 ⟨rfl, hB⟩
      have HB := Lib.hid hB
      clear hB
      go_wp2
      go_ret
      exact ⟨rfl, (HBX.out.alloc HBX.out.size _).trans (HB.out.mono (by simp; omega))⟩
end Go.Proofs.Yticcccciefaemaa
