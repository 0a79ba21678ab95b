/- ref16: Drop. Condition: fewer than 100000 lines and points. -/
import Derived.Test.YtnnpheklgdbohaaYB
namespace Go.Proofs.Ytnnpheklgdbohaa
open Go.RowKit Go.Shelf Go.Herb

theorem ref_of_own {B B' q : Nat} {u : World} {v : Value} {zs : List Vc} {L : Vs} (ho : OwnV B' u v zs) (hz : ∀ z ∈ zs, VcO B u z) (hb : u.heap[q]? = some (.cells #[v] (57) (0, 0))) (hL : vsOf zs = L) (hG : GoodV L) : ∃ la lc, RefIs u q la lc zs L := by
  obtain ⟨la, lc, rfl, -, h1, h2, -⟩ := own_parts ho
  have hm : ∀ x ∈ zs, (x.line, x.ps) ∈ L := fun x hx => by rw [← hL]; exact List.mem_map.2 ⟨x, hx, rfl⟩
  refine ⟨la, lc, hb, ⟨owns_els vc_len ho, fun x hx => (hz x hx).pts, fun x h => ⟨hG.wf _ (hm x h), fun q hq => (hG.inn _ (hm x h)).wf q hq⟩, Nat.le_trans h1 h2, fun x hx => ?_⟩, hL⟩
  obtain ⟨c, hc⟩ := hz x hx
  obtain ⟨_, _, _, -, h3, h4, -⟩ := own_parts hc
  exact Nat.le_trans h3 h4
theorem slice_loV {g n cap i : Nat} (hi : i ≤ cap) (h0 : 0 < cap) : ∀ W, (Instr.slice (22) (.slice (some ⟨g, 0, none⟩) n cap) none (some (.int .i64 i)) none).run Try.prog W = .ok (.slice (some ⟨g, 0, none⟩) i cap) W := fun W => by
  have h1 : cap ≠ 0 := by omega
  rw [run_slice_h (P := Try.prog) W (22) (some ⟨g, 0, none⟩) n cap (by kernel_rfl) .i64 i (by omega) (by omega)]
  rw [show Try.prog.elem (22) = (32) from by kernel_rfl, Try.sizeOf32]
  simp [sliced, Result.andThen, addr_add, h1]
theorem els_dropV {w : World} {b o : Nat} {ks : List Vc} (h : Els vc 2 w (some ⟨b, o, none⟩) ks) (k : Nat) : Els vc 2 w (some ⟨b, o + k * 2, none⟩) (ks.drop k) :=
  ⟨fun i hi => by
    obtain ⟨b', o', ha, hlt, hc⟩ := h.get (k + i) (by simp at hi; omega)
    injection ha with ha
    cases ha
    refine ⟨b, o + k * 2, rfl, hlt, fun j c hj => ?_⟩
    rw [List.getElem_drop] at hj
    have := hc j c hj
    rwa [show o + k * 2 + i * 2 + j = o + (k + i) * 2 + j by omega]⟩
theorem slice_hiV {w : World} {g n cap i : Nat} {ys : List Vc} (hE : Els vc 2 w (some ⟨g, 0, none⟩) ys) (hn : ys.length = n) (hle : n ≤ cap) (hi : i + 1 ≤ n) :
    ∃ a2, (∀ W, (Instr.slice (22) (.slice (some ⟨g, 0, none⟩) n cap) (some (.int .i64 ((i : Int) + 1))) none none).run Try.prog W = .ok (.slice (some a2) (n - (i + 1)) (cap - (i + 1))) W) ∧ Els vc 2 w (some a2) (ys.drop (i + 1)) := by
  refine ⟨if cap = i + 1 then ⟨g, 0, none⟩ else ⟨g, 0 + (i + 1) * 2, none⟩, fun W => ?_, ?_⟩
  · have := run_slice_l (P := Try.prog) W (22) (some ⟨g, 0, none⟩) n cap (by kernel_rfl) .i64 ((i : Int) + 1) (by omega) (by omega)
    rw [this]
    rw [show Try.prog.elem (22) = (32) from by kernel_rfl, Try.sizeOf32, show ((i : Int) + 1).toNat = i + 1 by omega]
    by_cases h0 : cap = i + 1 <;> simp [sliced, Result.andThen, addr_add, h0]
  · by_cases h0 : cap = i + 1
    · have : ys.drop (i + 1) = [] := List.drop_eq_nil_of_le (by omega)
      rw [this]
      exact Els.nil _ _ _ _
    · rw [if_neg h0]
      exact els_dropV hE (i + 1)
theorem vc_one (x : Vc) : ∀ v ∈ vc x, v.oneCell' = true := by
  intro v hv
  simp [vc] at hv
  rcases hv with rfl | rfl <;> rfl

set_option maxRecDepth 100000 in
set_option maxHeartbeats 2000000 in
theorem refDrop_any (p : Nat) (la : Option Addr) (lc : Nat) (xs : List Vc) (L : Vs) (line : Int) (w : World) (h : RefIs w p la lc xs L) (hG : GoodV L) (hS : Small L) :
    Calls Try.prog (26) #[.pointer (some ⟨p, 0, none⟩), .int .u64 line] w (RefPost (dropV L line) w) := by
  have H := Lib.hid h
  have HG := Lib.hid hG
  have HS := Lib.hid hS
  have c0 := cell_of_blk h.blk 0
  simp at c0
  obtain ⟨n, hn⟩ : ∃ n, n = xs.length := ⟨_, rfl⟩
  rw [← hn] at c0
  have HN := Lib.hid hn
  have hLn : L.length = n := by rw [hn, ← h.vs, vsOf_len]
  have hnl : n < 100000 := by have := hS.len; omega
  clear h hG hS hn
  go_enter Try.func26, Try.ntmps26
  go_wp2_with fail
  refine (at_any p la lc xs L line w H.out).mono ?_
  rintro e w1 ⟨rfl, hcase⟩
  rcases hcase with ⟨i, x, rfl, hx, hxl, hg⟩ | ⟨rfl, hg⟩
  rotate_left
  · have HE := Lib.hid (show RefPost (dropV L line) w1 (.returned (.tuple #[.pointer none, .int .i64 7])) w1 from by
      have hr : dropV L line = (7, []) := by unfold dropV; rw [hg]
      rw [hr]
      exact refErr (by decide) (Below.refl _ _))
    clear hg
    go_wp2_with fail
    go_ret2
    exact HE.out
  · have hi0 : (0 : Int) ≤ (i : Int) := by omega
    have hi2 : ¬ (i : Int) < 0 := by omega
    have hil : i < n := by have := (List.getElem?_eq_some_iff.1 hx).1; have := HN.out; omega
    have HR := Lib.hid (show dropV L line = (0, L.filter (fun p => decide (p.1 ≠ line))) by unfold dropV; rw [hg])
    have HLX := Lib.hid (show L[i]? = some (line, x.ps) by rw [← H.out.vs]; unfold vsOf; rw [List.getElem?_map, hx]; rw [← hxl]; rfl)
    clear hx hg hxl
    go_wp2_with fail
    refine (refCopied_any la lc n xs w1 H.out.inn HN.out.symm (by rw [H.out.vs]; exact HS.out)).mono ?_
    rintro e w3 ⟨v, ys, rfl, hC, hb3⟩
    rw [H.out.vs] at hC
    obtain ⟨g, cap, rfl, hgB, hgr⟩ : ∃ g cap, v = .slice (some ⟨g, 0, none⟩) n cap ∧ w1.heap.size ≤ g ∧ Row vc 2 (32) w3 g cap ys := by
      have hl := hC.len
      rcases row_of_owns hC.own with ⟨_, h0⟩ | ⟨g, cap, hv, hg, hr⟩
      · rw [h0] at hl; simp at hl; omega
      · exact ⟨g, cap, by rw [hv, hl, hLn], hg, hr⟩
    have hyn : ys.length = n := by rw [hC.len, hLn]
    have hle : n ≤ cap := by rw [← hyn]; exact hgr.le
    obtain ⟨a2, hs2, hE2⟩ := slice_hiV (i := i) (hgr.els vc_len) hyn hle (by omega)
    have hs1 := slice_loV (g := g) (n := n) (cap := cap) (i := i) (by omega) (by omega)
    have hown : OwnV w1.heap.size w3.drew (.slice (some ⟨g, 0, none⟩) i cap) (ys.take i) := by
      have := owns_of_rowV (hgr.take vc_len i) hgB
      rwa [show (ys.take i).length = i by simp; omega] at this
    obtain ⟨i0, hin, hz0, hz1, hz2⟩ := info_parts infoV
    obtain ⟨v', w9, hr9, ho9, hg9, -⟩ := run_append_own (P := Try.prog) w3.drew w1.heap.size (22) (22) (32) i0 _ 2 32 Try.underlying22 hin hz0 hz1 hz2 rfl (by decide) (.slice (some ⟨g, 0, none⟩) i cap) (ys.take i).length ((ys.take i).flatMap vc) hown a2 (n - (i + 1)) (cap - (i + 1)) ((ys.drop (i + 1)).flatMap vc) (by rw [flatMap_len vc_len, List.length_drop, hyn]) (Els.flat (w := w3.drew) ⟨hE2.get⟩ vc_len (by decide)) (fun u hu => by
      obtain ⟨q, _, hq⟩ := List.mem_flatMap.1 hu
      exact vc_one q u hq) (by unfold maxLen; simp; omega) (by simp; omega) hb3.size
    obtain ⟨va', vn', vc', rfl⟩ : ∃ va vn vc, v' = .slice va vn vc := by obtain ⟨a0, c0, e0, -⟩ := own_parts ho9; exact ⟨_, _, _, e0⟩
    have ho9' : OwnV w1.heap.size w9 (.slice va' vn' vc') (ys.take i ++ ys.drop (i + 1)) := by
      have e1 : (ys.take i ++ ys.drop (i + 1)).length = (ys.take i).length + (n - (i + 1)) := by rw [List.length_append, List.length_drop, hyn]
      unfold OwnV
      rw [e1, List.flatMap_append]
      exact ho9
    have hbk : ∀ k, (Value.slice (some ⟨g, 0, none⟩) i cap).ownBlock = some k → w1.heap.size ≤ k := fun k e => (World.ownsRow.lt hown k e).1
    have hb9 : Below w1.heap.size w1 w9 := (hb3.drew).grown hg9 hb3.size hbk
    have HE : Hid (∀ q, q = w9.heap.size → RefPost (dropV L line) w1 (.returned (.tuple #[.pointer (some ⟨q, 0, none⟩), .int .i64 0])) (w9.alloc (.cells #[.slice va' vn' vc'] (57)))) := Lib.hid (fun q hq => by
      subst hq
      have hbZ : Below w9.heap.size w9 (w9.alloc (.cells #[.slice va' vn' vc'] (57))) := (Below.refl _ _).alloc (Nat.le_refl _) _
      have hgood := (show (dropV L line).1 = 0 → GoodV (dropV L line).2 from fun e => dropV_good HG.out e) (by rw [HR.out])
      rw [HR.out] at hgood
      have hvs : vsOf (ys.take i ++ ys.drop (i + 1)) = L.filter (fun p => decide (p.1 ≠ line)) := by
        have := drop_filter HG.out.srt HLX.out
        simp only at this
        rw [this, ← hC.vs]
        unfold vsOf
        rw [List.map_append, List.map_take, List.map_drop]
      obtain ⟨la', lc', h2⟩ := ref_of_own (B := w1.heap.size) (q := w9.heap.size) (u := w9.alloc (.cells #[.slice va' vn' vc'] (57))) (ownsRow_below ho9' hbZ (Nat.le_refl _)) (fun z hz => by
        have hz' : z ∈ ys := by
          rcases List.mem_append.1 hz with hz | hz
          · exact List.mem_of_mem_take hz
          · exact List.mem_of_mem_drop hz
        obtain ⟨g1, g2⟩ := hC.at_ z hz'
        exact (VcO.kept (w := w3.drew) (g1.below (Below.refl _ _).drew) hg9 (fun r e => g2 r (by rw [← e]; rfl))).below hbZ) (blk_new_at rfl _) hvs hgood
      have := refOk (r := dropV L line) (w := w1) (by rw [HR.out]) (by rw [HR.out]; exact h2) (hb9.trans (hbZ.mono hb9.size))
      rw [HR.out] at this ⊢
      exact this)
    have HR9 := Lib.hid hr9
    have hw1 : IntKind.i64.wrap ((i : Int) + 1) = (i : Int) + 1 := IntWalk.i64_in _ (by omega)
    clear hr9 ho9 ho9' hb9 hg9 hbk hown hE2 hgr hC hb3 hle hgB hin hz0 hz1 hz2
    go_wp2_with fail
    go_region_law (refine step_append_run rfl (.tmp 20) (.tmp 24) (22) (22) rfl (.slice (some ⟨g, 0, none⟩) i cap) (.slice (some a2) (n - (i + 1)) (cap - (i + 1))) (by simp [Act.eval, Act.put]) (by simp [Act.eval, Act.put]) _ _ (HR9.out) ?_)
    all_goals
      go_wp2_with fail
      go_ret2
      exact HE.out _ rfl
end Go.Proofs.Ytnnpheklgdbohaa
