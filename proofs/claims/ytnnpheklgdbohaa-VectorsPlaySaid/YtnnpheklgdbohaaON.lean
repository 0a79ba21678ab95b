/- law16.lives. No condition. -/
import Derived.Test.YtnnpheklgdbohaaOM
import Derived.Laws.StructEq
namespace Go.Proofs.Ytnnpheklgdbohaa
open Go.RowKit Go.Shelf Go.Herb

theorem run_eqIP (a b c d : Int) (w : World) : (Op.equalIn 10000 (34) (.agg #[.int .u64 a, .int .u64 b]) (.agg #[.int .u64 c, .int .u64 d])).run Try.prog w = .ok (decide (a = c ∧ b = d)) w := by
  have hS : Try.prog.underlying (34) = some (.struct (Try.prog.fieldsOf (34))) := by kernel_rfl
  have hp : Try.prog.stoodInHeld (34) = false := by kernel_rfl
  rw [show (10000 : Nat) = 9999 + 1 from rfl, run_equalIn_agg w 9999 (34) _ _ hS hp]
  simp only [Program.fieldsOf, Try.underlying34]
  have u9 := Try.underlying29
  go_simp
  by_cases h1 : a = c <;> by_cases h2 : b = d <;> simp [h1, h2]
theorem run_eqlP (a b c d : Int) (w : World) : (binOp .eql (34) (.agg #[.int .u64 a, .int .u64 b]) (.agg #[.int .u64 c, .int .u64 d])).run Try.prog w = .ok (.bool (decide (a = c ∧ b = d))) w := by
  rw [run_eql_struct, run_eqIP]; rfl
theorem run_neqP (a b c d : Int) (w : World) : (binOp .neq (34) (.agg #[.int .u64 a, .int .u64 b]) (.agg #[.int .u64 c, .int .u64 d])).run Try.prog w = .ok (.bool (!decide (a = c ∧ b = d))) w := by
  rw [run_neq_struct, run_eqIP]; rfl
theorem guardP : Try.prog.eqGuardType Try.prog.depth (34) = false := by kernel_rfl

theorem row_lit {α : Type} {enc : α → List Value} {s e : Nat} {w : World} {g : Nat} {xs : List α} (hs : ∀ x, (enc x).length = s) (hb : w.heap[g]? = some (.cells (xs.flatMap enc).toArray e (0, 0))) (hl : xs.length ≤ maxLen) : Row enc s e w g xs.length xs :=
  ⟨⟨_, hb, by simp only [List.size_toArray]; exact flatMap_len hs xs, by rw [← flatMap_len hs xs, List.take_length]⟩, Nat.le_refl _, hl⟩

theorem owns_els {α : Type} {enc : α → List Value} {s B e n cap : Nat} {w : World} {a : Option Addr} {xs : List α} (hs : ∀ x, (enc x).length = s) (h : w.ownsRow B e s (.slice a n cap) xs.length (xs.flatMap enc)) : Els enc s w a xs := by
  rcases row_of_owns h with ⟨h1, rfl⟩ | ⟨g, c, h1, _, hR⟩
  · exact Els.nil _ _ _ _
  · injection h1 with h1
    rw [h1]
    exact hR.els hs
theorem VcAt.pts {B : Nat} {w : World} {x : Vc} (h : VcAt B w x) : Pts w x.a x.ps := by
  obtain ⟨cap, ho⟩ := h.own
  exact owns_els pc_len ho
/-- What All answers, as a list that may come in. -/
theorem vin_of {B B' : Nat} {w : World} {va : Option Addr} {vcap : Nat} {xs : List Vc} {L : Vs} (hL : xs.map (fun x => (x.line, x.ps)) = L) (ho : OwnV B w (.slice va xs.length vcap) xs) (hx : ∀ x ∈ xs, VcAt B' w x) (hG : GoodV L) (hS : Small L) : VIn w va xs := by
  have hm : ∀ x ∈ xs, (x.line, x.ps) ∈ L := fun x hx => by rw [← hL]; exact List.mem_map.2 ⟨x, hx, rfl⟩
  have hl : xs.length = L.length := by rw [← hL]; simp
  refine ⟨owns_els vc_len ho, fun x h => (hx x h).pts, fun x h => ⟨hG.wf _ (hm x h), fun q hq => (hG.inn _ (hm x h)).wf q hq⟩, ?_, fun x h => ?_⟩
  · have := hS.len; unfold maxLen; omega
  · have := hS.inn _ (hm x h); simp only at this; unfold maxLen; omega

def ac (k l o n : Int) (h : (Lit.int .u8 k).wf = true ∧ U64 l ∧ U64 o ∧ U64 n) : Ac := ⟨k, l, o, n, h.1, h.2.1, h.2.2.1, h.2.2.2⟩
def livesActs : List Ac := [ac 0 0 0 1 ⟨rfl, rfl, rfl, rfl⟩, ac 1 2 0 0 ⟨rfl, rfl, rfl, rfl⟩, ac 0 2 0 3 ⟨rfl, rfl, rfl, rfl⟩, ac 0 0 0 4 ⟨rfl, rfl, rfl, rfl⟩]
theorem lives_made : madeV [(0, [])] livesActs = [(0, [(0, 4)]), (2, [(0, 1), (2, 3)])] := by decide
theorem lives_merge : mergeV [(0, [(0, 4)]), (2, [(0, 1), (2, 3)])] 0 2 5 = (0, [(0, [(0, 5), (2, 3)]), (2, [(0, 1), (2, 3)])]) := by decide
theorem okm_of {b : Bh} (h : Herb.Good b) : Okm b := h.ok
theorem good1 : Herb.Good [(0, 4)] := ⟨by unfold SrtK; decide, by decide, by intro p hp; rw [List.mem_singleton.1 hp]; exact ⟨rfl, rfl⟩⟩
theorem good2 : Herb.Good [(0, 1), (2, 3)] := ⟨by unfold SrtK; decide, by decide, by intro p hp; simp only [List.mem_cons, List.not_mem_nil, or_false] at hp; rcases hp with rfl | rfl <;> exact ⟨rfl, rfl⟩⟩
theorem good3 : Herb.Good [(0, 5), (2, 3)] := ⟨by unfold SrtK; decide, by decide, by intro p hp; simp only [List.mem_cons, List.not_mem_nil, or_false] at hp; rcases hp with rfl | rfl <;> exact ⟨rfl, rfl⟩⟩
theorem base1 : IsBase [(0, 4)] [(0, 1), (2, 3)] (0, 1) :=
  (((BaseSt.start [(0, 1), (2, 3)]).take (q := (0, 4)) (by decide) (by decide)).done (a := [(0, 4)]) good1.ok good2.ok (List.Perm.refl _))
theorem base2 : IsBase [(0, 5), (2, 3)] [(0, 1), (2, 3)] (2, 3) :=
  ((((BaseSt.start [(0, 1), (2, 3)]).take (q := (0, 5)) (by decide) (by decide)).take (q := (2, 3)) (by decide) (by decide)).done (a := [(0, 5), (2, 3)]) good3.ok good2.ok (List.Perm.refl _))
theorem goodL0 : GoodV [(0, [])] := ⟨List.pairwise_singleton _ _, by intro p hp; rw [List.mem_singleton.1 hp]; exact nil_good, by intro p hp; rw [List.mem_singleton.1 hp]; exact rfl⟩
theorem goodL3 : GoodV [(0, [(0, 5), (2, 3)]), (2, [(0, 1), (2, 3)])] := ⟨by unfold SrtK; decide, by intro p hp; simp only [List.mem_cons, List.not_mem_nil, or_false] at hp; rcases hp with rfl | rfl; exact good3; exact good2, by intro p hp; simp only [List.mem_cons, List.not_mem_nil, or_false] at hp; rcases hp with rfl | rfl <;> exact rfl⟩

set_option maxRecDepth 100000 in
set_option maxHeartbeats 2000000 in
theorem lives_any (w : World) : Calls Try.prog (10) #[] w fun e w' => e = .returned (.bool true) ∧ Below w.heap.size w w' := by
  have hneq := run_neqP
  have heql := run_eqlP
  have hgt := guardP
  go_enter Try.func10, Try.ntmps10
  go_wp2_with fail
  refine (first_any w).mono ?_
  rintro e w1 ⟨p, mb, M, rfl, hv, hb1⟩
  obtain ⟨X, hX⟩ : ∃ X : World, X = w1.alloc (.cells (livesActs.flatMap acc).toArray (40)) := ⟨_, rfl⟩
  have hXb : Below w1.heap.size w1 X := by rw [hX]; exact (Below.refl _ _).alloc (Nat.le_refl _) _
  have hR : Row acc 4 (40) X w1.heap.size 4 livesActs := row_lit (xs := livesActs) acc_len (by rw [hX]; exact blk_new_at rfl _) (by decide)
  have HX1 := Lib.hid (hb1.trans (hXb.mono hb1.size))
  have HR := Lib.hid hR
  have HVX := Lib.hid (hv.below hXb)
  have hX' : X = w1.alloc (.cells #[.int .u8 0, .int .u64 0, .int .u64 0, .int .u64 1, .int .u8 1, .int .u64 2, .int .u64 0, .int .u64 0, .int .u8 0, .int .u64 2, .int .u64 0, .int .u64 3, .int .u8 0, .int .u64 0, .int .u64 0, .int .u64 4] (40)) := hX
  clear hv hb1 hXb hR hX
  go_wp2_with fail
  rw [← hX']
  clear hX'
  refine (all_any p mb M [(0, [])] X HVX.out goodL0 ⟨by simp, by intro p hp; rw [List.mem_singleton.1 hp]; simp⟩).mono ?_
  rintro e w2 ⟨va, vcap, ys, rfl, hys, hyo, hya, hb2⟩
  have hvin := vin_of hys hyo (fun x hx => (hya x hx).1) goodL0 ⟨by simp, by intro p hp; rw [List.mem_singleton.1 hp]; simp⟩
  have HM := Lib.hid (made_any va ys.length ys (some ⟨w1.heap.size, 0, none⟩) 4 livesActs w2 hvin ((HR.out.els acc_len).ext hb2) (by decide))
  have hyv : vsOf ys = [(0, [])] := hys
  have hgr : greatB ys livesActs = false := by
    have hl : ys.length = 1 := by have := congrArg List.length hys; simpa using this
    unfold greatB
    have h2 : ys.any (fun x => decide (60 < x.ps.length)) = false := by
      rw [List.any_eq_false]
      intro x hx
      have : (x.line, x.ps) ∈ [((0 : Int), ([] : Bh))] := by rw [← hys]; exact List.mem_map.2 ⟨x, hx, rfl⟩
      have h3 := List.mem_singleton.1 this
      injection h3 with _ h4
      simp [h4]
    rw [h2, hl]
    decide
  have HYV := Lib.hid hyv
  have HGR := Lib.hid hgr
  have HB2 := Lib.hid (HX1.out.trans (hb2.mono HX1.out.size))
  clear hys hyo hya hb2 hvin hyv hgr
  go_wp2_with fail
  refine (HM.out).mono ?_
  rintro e w3 ⟨v3, c3, rfl, hb3, ht3, hf3⟩
  have hc : c3 = true := by
    cases c3 with
    | true => rfl
    | false =>
      rcases hf3 rfl with h | h
      · rw [HGR.out] at h; cases h
      · exact absurd (by rw [HYV.out]; exact ⟨List.pairwise_singleton _ _, by intro p hp; rw [List.mem_singleton.1 hp]; exact ⟨.nil, by simp⟩⟩) h
  subst hc
  obtain ⟨_, _, hg3, hs3, _, p3, mb3, M3, rfl, hv3⟩ := ht3 rfl
  rw [HYV.out, lives_made] at hg3 hs3 hv3
  have HV3 := Lib.hid hv3
  have HG3 := Lib.hid hg3
  have HS3 := Lib.hid hs3
  have HB3 := Lib.hid (HB2.out.trans (hb3.mono HB2.out.size))
  clear hv3 hg3 hs3 hb3 ht3 hf3 HM
  go_wp2_with fail
  refine (base_any p3 mb3 M3 _ 0 2 w3 HV3.out HG3.out HS3.out rfl rfl).mono ?_
  rintro e w4 ⟨⟨q1, q2⟩, er, rfl, hb4, hor⟩
  have hq : er = 0 ∧ (q1, q2) = ((0 : Int), (1 : Int)) := by
    rcases hor with ⟨h1, x, y, hx, hy, hB⟩ | ⟨_, _, h⟩
    · have e1 : getL [((0 : Int), [((0 : Int), (4 : Int))]), (2, [(0, 1), (2, 3)])] 0 = some [(0, 4)] := by decide
      have e2 : getL [((0 : Int), [((0 : Int), (4 : Int))]), (2, [(0, 1), (2, 3)])] 2 = some [(0, 1), (2, 3)] := by decide
      rw [e1] at hx
      rw [e2] at hy
      cases hx
      cases hy
      exact ⟨h1, hB.uniq base1⟩
    · exact absurd h (by decide)
  obtain ⟨rfl, hq2⟩ := hq
  cases hq2
  have HB4 := Lib.hid (HB3.out.trans (hb4.mono HB3.out.size))
  have HV4 := Lib.hid (HV3.out.below (hb4.alloc hb4.size (.cells #[.int .u64 0, .int .u64 1] (34))))
  obtain ⟨Y, hY⟩ : ∃ Y : World, Y = w4.alloc (.cells #[.int .u64 0, .int .u64 1] (34)) := ⟨_, rfl⟩
  have hYb : Below w4.heap.size w4 Y := by rw [hY]; exact (Below.refl _ _).alloc (Nat.le_refl _) _
  have hYx : Y.heap[w4.heap.size]? = some (.cells #[.int .u64 0, .int .u64 1] (34) (0, 0)) := by rw [hY]; exact blk_new_at rfl _
  rw [← hY] at HV4
  have HYB := Lib.hid (HB4.out.trans (hYb.mono HB4.out.size))
  have HYX := Lib.hid hYx
  clear hb4 hor hYb hYx
  go_wp2_with fail
  rw [← hY]
  clear hY
  refine (merge_any p3 mb3 M3 _ 0 2 5 Y HV4.out HG3.out HS3.out rfl rfl rfl).mono ?_
  rintro e w5 ⟨v5, rfl, h5, _, hb5⟩
  rw [lives_merge] at h5
  obtain ⟨p5, mb5, M5, rfl, hv5⟩ := h5 rfl
  rw [lives_merge]
  have hyx5 := blk_below HYX.out hb5 (lt_of_blk HYX.out)
  have y0 := cell_of_blk hyx5 0
  have y1 := cell_of_blk hyx5 1
  simp at y0 y1
  have HV5 := Lib.hid hv5
  have HB5 := Lib.hid (HYB.out.trans (hb5.mono HYB.out.size))
  clear hv5 hb5 h5 hyx5
  go_wp2_with fail
  refine (base_any p5 mb5 M5 _ 0 2 w5 HV5.out goodL3 ⟨by simp, by intro p hp; simp only [List.mem_cons, List.not_mem_nil, or_false] at hp; rcases hp with rfl | rfl <;> simp⟩ rfl rfl).mono ?_
  rintro e w6 ⟨⟨q1, q2⟩, er, rfl, hb6, hor⟩
  have hq : er = 0 ∧ (q1, q2) = ((2 : Int), (3 : Int)) := by
    rcases hor with ⟨h1, x, y, hx, hy, hB⟩ | ⟨_, _, h⟩
    · have e1 : getL [((0 : Int), [((0 : Int), (5 : Int)), (2, 3)]), (2, [(0, 1), (2, 3)])] 0 = some [(0, 5), (2, 3)] := by decide
      have e2 : getL [((0 : Int), [((0 : Int), (5 : Int)), (2, 3)]), (2, [(0, 1), (2, 3)])] 2 = some [(0, 1), (2, 3)] := by decide
      rw [e1] at hx
      rw [e2] at hy
      cases hx
      cases hy
      exact ⟨h1, hB.uniq base2⟩
    · exact absurd h (by decide)
  obtain ⟨rfl, hq2⟩ := hq
  cases hq2
  have HB6 := Lib.hid (HB5.out.trans (hb6.mono HB5.out.size))
  clear hb6 hor y0 y1
  go_wp2_with fail
  go_ret
  exact ⟨rfl, HB6.out.alloc HB6.out.size _⟩
end Go.Proofs.Ytnnpheklgdbohaa
