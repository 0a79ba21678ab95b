/- KeepsOf's walk. No condition. -/
import Derived.Test.YticcccciefaemaaDoorRC
import Derived.Test.YticcccciefaemaaDoorR9
import Derived.Test.YticcccciefaemaaDoorQI
import Derived.Test.YticcccciefaemaaDoorQH
namespace Go.Proofs.YticcccciefaemaaDoor
open Go.RowKit Go.Shelf Go.Herb

theorem fm_congr {α β : Type} {f g : α → Option β} : ∀ (l : List α), (∀ x ∈ l, f x = g x) → l.filterMap f = l.filterMap g
  | [], _ => rfl
  | x :: l, h => by rw [List.filterMap_cons, List.filterMap_cons, h x (by simp), fm_congr l (fun y hy => h y (List.mem_cons_of_mem _ hy))]
theorem keepIs_one {xs : List Fc} {ws : List Wt} {ys zs : List Fc} (h1 : KeepIs xs ws ys) (h2 : KeepIs xs ws zs) : ys = zs := by
  obtain ⟨f, hf, rfl⟩ := h1
  obtain ⟨g, hg, rfl⟩ := h2
  unfold keptL
  apply fm_congr
  intro i hi
  have hi := List.mem_range.1 hi
  have : f i = g i := Bool.eq_iff_iff.2 ((hf i hi).trans (hg i hi).symm)
  rw [this]

theorem SlIn.below {α : Type} {enc : α → List Value} {s : Nat} {w w' : World} {a : Option Addr} {cap : Nat} {xs : List α} {B : Nat} (h : SlIn enc s w a cap xs) (hb : Below B w w') (hB : w.heap.size ≤ B) : SlIn enc s w' a cap xs := ⟨h.els.below hb hB, h.none, h.le, h.max⟩

set_option maxRecDepth 100000 in
set_option maxHeartbeats 4000000 in
theorem keepsOf_any (al : Option Addr) (cl : Nat) (xs : List Fc) (aw : Option Addr) (cw : Nat) (ws : List Wt) (w : World) (hL : SlIn fc 6 w al cl xs) (hW : SlIn wc 3 w aw cw ws) (hWs : ∀ y ∈ ws, SlIn lc 2 w y.a y.c y.cs) :
    Calls Tryd.prog (3) #[.slice al xs.length cl, .slice aw ws.length cw] w fun e w' => e = .returned (.bool true) ∧ Below w.heap.size w w' := by
  have HXL := Lib.hid hL.lenle
  have HWL := Lib.hid hW.lenle
  have HCS := Lib.hid (show ∀ y ∈ ws, y.cs.length ≤ maxLen from fun y hy => (hWs y hy).lenle)
  have HWE := Lib.hid hW.els
  have HL := Lib.hid hL
  cases hg : greatB xs.length ws with
  | true =>
    have HG := Lib.hid hg
    clear hg hL hW hWs
    go_enter Tryd.func3, Tryd.ntmps3
    go_wp2_with fail
    refine (greatK_any al xs.length cl aw cw ws _ HXL.out HWL.out HWE.out HCS.out).mono ?_
    rintro e w1 ⟨rfl, rfl⟩
    rw [HG.out]
    go_wp2_with fail
    refine (livesK_any _).mono ?_
    rintro e w2 ⟨rfl, hb⟩
    have HB := Lib.hid hb
    clear hb
    go_wp2
    go_ret
    exact ⟨rfl, HB.out⟩
  | false =>
    have hxl : xs.length ≤ 80 := by
      unfold greatB at hg
      simp at hg
      omega
    have hwl : ws.length ≤ 30 := by
      unfold greatB at hg
      simp at hg
      omega
    have hwc : ∀ y ∈ ws, y.cs.length < 1000000 := by
      intro y hy
      unfold greatB at hg
      simp at hg
      have := hg.2.1 y hy
      omega
    have HW := Lib.hid (⟨hW.els, fun y hy => (hWs y hy).els, hwc⟩ : Watches w aw ws)
    have HG := Lib.hid hg
    clear hg hL hW hWs hwc
    go_enter Tryd.func3, Tryd.ntmps3
    go_wp2_with fail
    refine (greatK_any al xs.length cl aw cw ws _ HXL.out HWL.out HWE.out HCS.out).mono ?_
    rintro e w1 ⟨rfl, rfl⟩
    rw [HG.out]
    go_wp2_with fail
    refine (twin_any al cl xs _ HL.out.els (by omega)).mono ?_
    rintro e w1 ⟨gt, rfl, hgt, hR1, hB1⟩
    have hgl := hR1.lt
    have hF1 : Facts w1 (some ⟨gt, 0, none⟩) xs := by
      have := (hR1.els fc_len).take xs.length
      rwa [List.take_left] at this
    have HF1 := Lib.hid hF1
    have HR1 := Lib.hid hR1
    have HB1 := Lib.hid hB1
    clear hF1 hR1 hB1
    go_wp2_with fail
    refine (keep_any (some ⟨gt, 0, none⟩) (xs.length + 2) xs aw cw ws w1 HF1.out (HW.out.ext HB1.out) (by omega) (by omega)).mono ?_
    rintro e w2 ⟨ak, ys, rfl, hK, hF2, hfr, hyl, hB2⟩
    have hb2l : gt < w2.heap.size := Nat.lt_of_lt_of_le hgl hB2.size
    have HK := Lib.hid hK
    have HF2 := Lib.hid hF2
    have HFR := Lib.hid hfr
    have HB2 := Lib.hid (HB1.out.trans (hB2.mono HB1.out.size))
    have HR2 := Lib.hid (HR1.out.below hB2)
    have hs12 := hB2.size
    clear hK hF2 hfr hB2 HF1
    go_wp2_with fail
    obtain ⟨W, hW⟩ : ∃ W : World, W = w2.alloc (.cells #[.slice none 0 0] (30)) := ⟨_, rfl⟩
    have hb0 : W.heap[w2.heap.size]? = some (.cells #[.slice none 0 0] (30) (0, 0)) := by rw [hW]; exact blk_new_at rfl _
    have hBW : Below w2.heap.size w2 W := by rw [hW]; exact (Below.refl _ _).alloc (Nat.le_refl _) _
    have hWs : w2.heap.size + 1 = W.heap.size := by rw [hW]; simp
    have hbk : BookIs W w2.heap.size W.heap.size [] := ⟨⟨_, hb0, World.ownsRow_nil _ _ _ _⟩, by omega, Nat.le_refl _⟩
    rw [← hW]
    have HBK := Lib.hid hbk
    have HBW := Lib.hid hBW
    have HLW := Lib.hid (HL.out.below (HB2.out.trans (hBW.mono HB2.out.size)) (Nat.le_refl _))
    have HWW := Lib.hid (HW.out.ext (HB2.out.trans (hBW.mono HB2.out.size)))
    have hWle : W.heap.size = w2.heap.size + 1 := hWs.symm
    have HWS := Lib.hid hWle
    clear hW hb0 hBW hWs hbk hWle
    refine (refKeep_any al cl xs aw cw ws W HLW.out HWW.out (by omega) (by omega)).mono ?_
    rintro e w3 ⟨ar, cr, zs, rfl, hKz, hFz, hzl, hB3⟩
    obtain rfl := keepIs_one HK.out hKz
    have HFz := Lib.hid hFz
    have HB3 := Lib.hid hB3
    have HFk := Lib.hid ((HF2.out.ext HBW.out).ext hB3)
    clear hKz hFz hB3
    go_wp2_with fail
    refine (sameFacts_any ak ar ys.length cr ys w3 HFk.out HFz.out (by omega)).mono ?_
    rintro e w4 ⟨rfl, n4, rfl⟩
    have HB4 := Lib.hid (below_drewN HB3.out n4)
    generalize w3.drewN n4 = w4 at *
    clear HFk HFz HB3
    have HRW := Lib.hid ((HR2.out.below HBW.out).below HB4.out)
    have HLL := Lib.hid (HLW.out.els.ext HB4.out)
    go_wp2_with fail
    refine (left_any gt al cl xs w4 (HRW.out.els fc_len) HLL.out (by omega)).mono ?_
    rintro e w5 ⟨rfl, hB5⟩
    have hs4 := HB4.out.size
    have HB5 := Lib.hid (HB4.out.trans (hB5.mono hs4))
    clear hB5 HB4 HRW HLL HLW HWW
    have HBK5 := Lib.hid (HBK.out.below HB5.out)
    go_wp2_with fail
    refine (bookFacts_1 w2.heap.size W.heap.size [] (some ⟨gt, 0, none⟩) xs.length (xs.length + 2) w5 HBK5.out rfl).mono ?_
    rintro e w6 ⟨⟨v6, rfl⟩, hbk6, hB6⟩
    have HBK6 := Lib.hid hbk6
    have HB6 := Lib.hid (Below.trans (HB5.out.mono (by have := HWS.out; omega)) hB6)
    clear hbk6 hB6 HBK5 HBK
    go_wp2_with fail
    refine (bookFacts_2 w2.heap.size W.heap.size _ ak ys.length ys.length w6 HBK6.out rfl).mono ?_
    rintro e w7 ⟨⟨v7, rfl⟩, hbk7, hB7⟩
    have HBK7 := Lib.hid hbk7
    have HB7 := Lib.hid (HBW.out.trans (HB6.out.trans hB7))
    have hwle : w.heap.size ≤ w2.heap.size := HB2.out.size
    have hs7 : w2.heap.size ≤ w7.heap.size := HB7.out.size
    have HSt : Hid (Sh w.heap.size w2.heap.size w7 (some ⟨gt, 0, none⟩) xs.length (xs.length + 2) (xs ++ [twinMk, twinMk])) := Lib.hid (.inr ⟨gt, xs.length + 2, rfl, hgt, hb2l, HR2.out.same (HB7.out.block gt hb2l), by omega, by simp, by simp; omega⟩)
    have HSk : Hid (Sh w.heap.size w2.heap.size w7 ak ys.length ys.length ys) := Lib.hid (by
      rcases HFR.out with ⟨rfl, rfl⟩ | ⟨g, cap, rfl, h1, h2⟩
      · exact .inl ⟨rfl, rfl, rfl, rfl⟩
      · have hgl2 := h2.lt
        exact .inr ⟨g, cap, rfl, by have := HB1.out.size; omega, hgl2, h2.same (HB7.out.block g hgl2), Nat.le_refl _, Nat.le_refl _, by omega⟩)
    have HNE : Hid (∀ g, blkOf (some ⟨gt, 0, none⟩) = some g → blkOf ak ≠ some g) := Lib.hid (by
      intro g hg hg2
      cases hg
      rcases HFR.out with ⟨rfl, _⟩ | ⟨g', cap, rfl, h1, h2⟩
      · cases hg2
      · simp only [blkOf, Option.map_some, Option.some.injEq] at hg2
        omega)
    have HBA := Lib.hid (HB2.out.trans (HB7.out.mono hwle))
    clear hbk7 hB7 HBK6 HB6
    go_wp2_with fail
    refine (apart_any w.heap.size w2.heap.size W.heap.size (some ⟨gt, 0, none⟩) xs.length (xs.length + 2) mk1 (xs ++ [twinMk, twinMk]) ak ys.length ys.length mk2 ys w7 HBK7.out HSt.out HSk.out HNE.out (by omega)).mono ?_
    rintro e w8 ⟨rfl, hB8⟩
    have HB8 := Lib.hid (HBA.out.trans hB8)
    clear hB8
    go_wp2_with fail
    refine (livesK_any _).mono ?_
    rintro e w9 ⟨rfl, hB9⟩
    have HB9 := Lib.hid (HB8.out.trans (hB9.mono HB8.out.size))
    clear hB9
    go_wp2
    go_ret
    exact ⟨rfl, HB9.out⟩
end Go.Proofs.YticcccciefaemaaDoor
