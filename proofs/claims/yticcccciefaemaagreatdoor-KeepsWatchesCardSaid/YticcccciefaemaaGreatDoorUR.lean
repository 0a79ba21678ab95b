/- The form's reach, of what lies behind a line. No condition. -/
import Derived.Test.YticcccciefaemaaGreatDoorU9
import Derived.Test.YticcccciefaemaaGreatDoorOX
import Derived.SizedLaws
namespace Go.Proofs.YticcccciefaemaaGreatDoor.Ln
open Go.ChangeShapes Go.WideShapes Go.ChangeAt Go.RowKit Go.Herb Go.Deep

theorem weights_mem_all {H : Type} {P : Program} {e : TypeId} : ∀ {ds : List (DataW H)} {d : DataW H}, d ∈ ds → ∀ n ∈ d.weights P e, n ∈ DataW.weightsAll P e ds
  | d0 :: ds, d, hd, n, hn => by
    simp only [DataW.weightsAll, List.mem_append]
    rcases List.mem_cons.1 hd with rfl | hd
    · exact .inl hn
    · exact .inr (weights_mem_all hd n hn)
section
variable {H : Type} {enc : TypeId × Value → H} {w : World}
theorem vectors_sized {fuel : Nat} {cs : List Value} {x : DataW H × List MemPlace} (h : DataW.trod enc Tryz.prog w 0 (fun _ => true) true fuel (24) cs = some x) (hz : ∀ n ∈ x.1.weights Tryz.prog (24), n ≤ reachBytes)
    {a : Option Addr} {cap : Nat} {xs : List Vx.Vc} (hcs : cs = [.slice a xs.length cap]) (hV : Vx.VIn w a xs) : ∀ y ∈ xs, y.ps.length < 8796093022208 := by
  have hb16 : Tryz.prog.bytesOf (72) = 16 := by kernel_rfl
  have hc2 : Tryz.prog.cellsOf (68) = 2 := by kernel_rfl
  have hst : Tryz.prog.underlying (68) = some (.struct (Tryz.prog.fieldsOf (68))) := by kernel_rfl
  intro y hy
  obtain ⟨i, hi, rfl⟩ := List.getElem_of_mem hy
  rcases open_slice Tryz.underlying24 h with ⟨h0, -⟩ | ⟨a', len, cap', m, n, D, Pl, hcs', hb, hl, hm, hmm, hx, hD⟩
  · rw [hcs] at h0
    simp only [List.cons.injEq, and_true, Value.slice.injEq] at h0
    omega
  · rw [hcs] at hcs'
    simp only [List.cons.injEq, and_true, Value.slice.injEq] at hcs'
    obtain ⟨rfl, hlen, rfl⟩ := hcs'
    obtain ⟨cs', hc, ht'⟩ := hD i (by rw [hmm]; simp; omega)
    rw [hc2] at hc
    obtain ⟨-, hcl, hat⟩ := World.cells?_some hc
    obtain ⟨b, o, hab, hlb, hcell⟩ := hV.els.get i hi
    injection hab with hab
    subst hab
    obtain ⟨ys, n', -, hya, -, hyl, hf⟩ := DataW.trod_struct hst ht'
    have hv1 : cs'[1]? = some (.slice xs[i].a xs[i].ps.length xs[i].c) := by
      rw [← hat 1 (by omega), addr_add, addr_add]
      exact hcell 1 _ rfl
    have hfs : ((Tryz.prog.fieldsOf (68))[1]?).map (fun f => (f.offset, f.type)) = some (1, (66)) := by kernel_rfl
    obtain ⟨f, hf1, hfe⟩ := Option.map_eq_some_iff.1 hfs
    simp only [Prod.mk.injEq] at hfe
    obtain ⟨hfo, hft⟩ := hfe
    have h1 := hf 1 f hf1
    have hc1 : Tryz.prog.cellsOf (66) = 1 := by kernel_rfl
    rw [hfo, hft, hc1] at h1
    have hcd : (cs'.drop 1).take 1 = [.slice xs[i].a xs[i].ps.length xs[i].c] := by
      obtain ⟨hl1, he1⟩ := List.getElem?_eq_some_iff.1 hv1
      rw [List.drop_eq_getElem_cons hl1, he1]
      rfl
    rw [hcd] at h1
    have hsz : (Tryz.prog.fieldsOf (68)).size = 2 := by kernel_rfl
    have hy1 : ys[1]? = some (ys[1]'(by omega)) := List.getElem?_eq_getElem (by omega)
    rw [hy1] at h1
    generalize ys[1]'(by omega) = z at h1 hy1
    rcases open_slice Tryz.underlying66 h1 with ⟨h0, -⟩ | ⟨a2, len2, cap2, m2, n2, D2, Pl2, hcs2, hb2, hl2, hm2, hmm2, hx2, -⟩
    · simp only [List.cons.injEq, and_true, Value.slice.injEq] at h0
      omega
    · simp only [List.cons.injEq, and_true, Value.slice.injEq] at hcs2
      have hw : (len2 + (m2 - len2)) * 16 ∈ z.1.weights Tryz.prog (66) := by
        rw [hx2]
        simp only [DataW.weights, Tryz.underlying66, hb16, List.length_map, List.length_range, List.mem_cons, true_or]
      have hDi : D i = .agg (ys.map (·.1)) := by
        have := congrArg Prod.fst hya
        exact this
      have hw2 : (len2 + (m2 - len2)) * 16 ∈ (D i).weights Tryz.prog (68) := by
        rw [hDi]
        simp only [DataW.weights, hst]
        exact DataW.weights_mem_each (j := 1) (t := (66)) (d := z.1) (by rw [List.getElem?_map, Array.getElem?_toList, hf1]; simp [hft]) (by rw [List.getElem?_map, hy1]; rfl) _ hw
      have hw3 : (len2 + (m2 - len2)) * 16 ∈ x.1.weights Tryz.prog (24) := by
        rw [hx]
        simp only [DataW.weights, Tryz.underlying24, List.mem_cons, List.mem_append]
        exact .inr (.inl (weights_mem_all (List.mem_map.2 ⟨i, List.mem_range.2 (by omega), rfl⟩) _ hw2))
      have := hz _ hw3
      unfold reachBytes at this
      omega
end
end Go.Proofs.YticcccciefaemaaGreatDoor.Ln
