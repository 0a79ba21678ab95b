/- ref16: Step. Condition: fewer than 100000 lines and points. -/
import Derived.Test.YtnnpheklgdbohaaY9
namespace Go.Proofs.Ytnnpheklgdbohaa
open Go.RowKit Go.Shelf Go.Herb

set_option maxRecDepth 100000 in
set_option maxHeartbeats 2000000 in
theorem refStep_any (p : Nat) (la : Option Addr) (lc : Nat) (xs : List Vc) (L : Vs) (line s : Int) (w : World) (h : RefIs w p la lc xs L) (hG : GoodV L) (hS : Small L) (hs : U64 s) :
    Calls Try.prog (22) #[.pointer (some ⟨p, 0, none⟩), .int .u64 line, .int .u64 s] w (RefPost (stepV L line s) w) := by
  have H := Lib.hid h
  have HG := Lib.hid hG
  have HS := Lib.hid hS
  have c0 := cell_of_blk h.blk 0
  simp at c0
  obtain ⟨n, hn⟩ : ∃ n, n = xs.length := ⟨_, rfl⟩
  rw [← hn] at c0
  have HN := Lib.hid hn
  have hLn : L.length = n := by rw [hn, ← h.vs, vsOf_len]
  have hnl : n < 100000 := by have := hS.len; omega
  clear h hG hS hn
  go_enter Try.func22, Try.ntmps22
  go_wp2_with fail
  refine (at_any p la lc xs L line w H.out).mono ?_
  rintro e w1 ⟨rfl, hcase⟩
  rcases hcase with ⟨i, x, rfl, hx, hxl, hg⟩ | ⟨rfl, hg⟩
  rotate_left
  · have HE := Lib.hid (show RefPost (stepV L line s) w1 (.returned (.tuple #[.pointer none, .int .i64 7])) w1 from by
      have hr : stepV L line s = (7, []) := by unfold stepV; rw [hg]
      rw [hr]
      exact refErr (by decide) (Below.refl _ _))
    clear hg
    go_wp2_with fail
    go_ret2
    exact HE.out
  · obtain ⟨hil, hxe⟩ := List.getElem?_eq_some_iff.1 hx
    obtain ⟨lb, lo, rfl, hlb, hc⟩ := H.out.inn.els.get i hil
    have HP := Lib.hid (H.out.inn.inn _ (List.getElem_mem hil))
    have x1 := hc 1 _ rfl
    rw [hxe] at HP x1
    have HX := Lib.hid hx
    have hpl : x.ps.length < 100000 := HS.out.get hg
    have HGX := Lib.hid (HG.out.get hg)
    have HGL := Lib.hid hg
    have hin : i < n := by have := HN.out; omega
    have HLX := Lib.hid (show L[i]? = some (line, x.ps) by rw [← H.out.vs]; unfold vsOf; rw [List.getElem?_map, hx]; rw [← hxl]; rfl)
    have HXL := Lib.hid hxl
    clear hc hx hxe hil hg hxl
    obtain ⟨xl, xa, xc, xp⟩ := x
    simp only at HP x1 HXL HGX HGL HLX hpl
    obtain ⟨pn, hpn⟩ : ∃ pn, pn = xp.length := ⟨_, rfl⟩
    rw [← hpn] at x1 hpl
    have HPN := Lib.hid hpn
    clear hpn
    have hi0 : (0 : Int) ≤ (i : Int) := by omega
    have hi1 : (i : Int) < (n : Int) := by omega
    have hi2 : ¬ (i : Int) < 0 := by omega
    have hmx : pn ≤ maxLen := by unfold maxLen; omega
    have hr1 : aboveB xp s = false → stepV L line s = (1, []) := fun e => by unfold stepV; rw [HGL.out]; simp [e]
    have hr2 : aboveB xp s = true → stepV L line s = (0, putS L line (putS xp line s)) := fun e => by unfold stepV; rw [HGL.out]; simp [e, laid_step HGX.out.1 e]
    have HR1 := Lib.hid hr1
    have HR2 := Lib.hid hr2
    clear hr1 hr2
    go_wp2_with fail
    refine (refAbove_any xa xc pn xp s w1 HP.out HPN.out.symm hmx).mono ?_
    rintro e w2 ⟨rfl, rfl⟩
    cases hab : aboveB xp s with
    | false =>
      have HE := Lib.hid (show RefPost (stepV L line s) w2 (.returned (.tuple #[.pointer none, .int .i64 1])) w2 from by
        rw [HR1.out hab]
        exact refErr (by decide) (Below.refl _ _))
      clear hab
      go_wp2_with fail
      go_ret2
      exact HE.out
    | true =>
      have HR3 := Lib.hid (HR2.out hab)
      clear hab
      go_wp2_with fail
      refine (refCopied_any (some ⟨lb, lo, none⟩) lc n xs w2 H.out.inn HN.out.symm (by rw [H.out.vs]; exact HS.out)).mono ?_
      rintro e w3 ⟨v, ys, rfl, hC, hb3⟩
      obtain ⟨y, hy, hyl, hyp⟩ := hC.get HX.out
      simp only at hyl hyp
      rw [H.out.vs] at hC
      obtain ⟨g, cap, rfl, hgB, hgr⟩ : ∃ g cap, v = .slice (some ⟨g, 0, none⟩) n cap ∧ w2.heap.size ≤ g ∧ Row vc 2 (32) w3 g cap ys := by
        have hl := hC.len
        rcases row_of_owns hC.own with ⟨_, h0⟩ | ⟨g, cap, hv, hg, hr⟩
        · rw [h0] at hl; simp at hl; omega
        · exact ⟨g, cap, by rw [hv, hl, hLn], hg, hr⟩
      have hgl : g < w3.heap.size := by obtain ⟨cur, hcur, _⟩ := hgr.blk; exact lt_of_blk hcur
      obtain ⟨W, hW⟩ : ∃ W : World, W = w3.alloc (.cells #[.slice (some ⟨g, 0, none⟩) n cap] (57)) := ⟨_, rfl⟩
      have hWb : Below w3.heap.size w3 W := by rw [hW]; exact (Below.refl _ _).alloc (Nat.le_refl _) _
      have hN : NAt w2.heap.size w3.heap.size g n cap W ys L := ⟨hC.below hWb, by rw [hW]; exact blk_new_at rfl _, hgl, hgB⟩
      have hbW : Below w2.heap.size w2 W := hb3.trans (hWb.mono hb3.size)
      obtain ⟨d0, d1, d2, d3⟩ := (hN.below (Below.refl W.heap.size W).drew).cells hy
      rw [hyp, ← HPN.out] at d1
      rw [hyp] at d3
      obtain ⟨K, hK⟩ : ∃ K, K = (putS xp line s).length := ⟨_, rfl⟩
      have hw := with_any y.a y.c pn xp line s W.drew d3 HPN.out.symm hpl HGX.out.1.srt
      rw [← hK] at hw
      have HW := Lib.hid hw
      have HF : Hid (∀ (u : World) (va : Option Addr) (vcap : Nat), OwnP W.drew.heap.size u (.slice va K vcap) (putS xp line s) → Below W.drew.heap.size W.drew u → u.cell? ⟨w3.heap.size, 0, none⟩ = some (.slice (some ⟨g, 0, none⟩) n cap) ∧ (∃ z, u.cell? ⟨g, i * 2 + 1, none⟩ = some z) ∧ u.frozen? ⟨g, i * 2 + 1, none⟩ = false ∧ RefPost (stepV L line s) w2 (.returned (.tuple #[.pointer (some ⟨w3.heap.size, 0, none⟩), .int .i64 0])) (u.setCell ⟨g, i * 2 + 1, none⟩ (.slice va K vcap))) := Lib.hid (fun u va vcap ho hb => by
        have hND : NAt w2.heap.size w3.heap.size g n cap W.drew ys L := hN.below (Below.refl W.heap.size W).drew
        obtain ⟨e0, e1, e2, _⟩ := (hND.below hb).cells hy
        refine ⟨e0, ⟨_, e1⟩, e2, ?_⟩
        obtain ⟨f1, f2⟩ := hND.put hy hb ho hK hbW.size
        rw [hyl, HXL.out] at f1
        have f3 : L.set i (line, putS xp line s) = putS L line (putS xp line s) := set_putS HG.out.srt HLX.out _
        rw [f3] at f1
        have hgood : GoodV (putS L line (putS xp line s)) := by
          have := stepV_good HG.out (line := line) hs (by rw [HR3.out])
          rw [HR3.out] at this
          exact this
        have := refOk (r := stepV L line s) (w := w2) (by rw [HR3.out]) (by rw [HR3.out]; exact f1.ref hgood) (f2 w2 (Nat.le_refl _) hbW.drew)
        rw [HR3.out] at this ⊢
        exact this)
      clear hN hbW hWb hC hb3 hgr hw hy hyl hyp d3 hK
      go_wp2_with fail
      rw [← hW]
      clear hW
      go_region_law (first | (go_simp; go_at_call 44; refine (HW.out).mono ?_; rintro e u ⟨va, vcap, rfl, ho, hb⟩; obtain ⟨k0, ⟨z, k1⟩, k2, k3⟩ := HF.out u va vcap ho hb; clear ho hb))
      all_goals
        go_wp2_with fail
        go_ret2
        exact k3
end Go.Proofs.Ytnnpheklgdbohaa
