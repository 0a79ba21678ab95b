/- vectors: Step, Fork, Merge, Drop, First. Condition: fewer than 1000000 lines. -/
import Derived.Test.YtnnpheklgdbohaaOF
import Derived.Maps.Range
namespace Go.Herb
open Go.ChangeMaps Go.MapKept
open Go.WideElems (Fit rd rg pl rd_key rd_val rg_of other_key rd_mk)
open Go.Maps (Keyed)
/-- 'delete(m, k)'. -/
theorem MapIs.drop {α β : Type} [DecidableEq α] {P : Program} {k : TypeId} {encK : α → Value} {encV : β → Value} {w : World} {b : Nat} {m : List (α × β)} (h : MapIs P k encK encV w b m) (K : Keyed P k) (hinj : ∀ a a', encK a = encK a' → a = a') {t e : TypeId} (ht : P.underlying t = some (.map k e)) {a : α} {kl : Lit} (hkey : keyOf P k (encK a) = some kl) (ty : TypeId) :
    ∃ w' m', (Builtin.delete_ #[t, k] ty #[.map (some b), encK a]).run P w = .ok (.tuple #[]) w' ∧ MapIs P k encK encV w' b m' ∧ w.grownBy w' (some b) ∧ w'.heap.size = w.heap.size ∧ m'.Sublist m ∧ ∀ p, p ∈ m' ↔ p ∈ m ∧ p.1 ≠ a := by
  have hh := h
  have hnd := h.nodup
  obtain ⟨es, clock, hb, F, he⟩ := h.blk
  obtain ⟨es', hrun, F', _, _, hsub, hmem⟩ := fit_drop_who (ty := ty) K ht hb F hkey
  have hs2 : (es'.toList.map kvOf).Sublist (m.map (fun p => (encK p.1, encV p.2))) := by rw [← he]; exact hsub.map _
  obtain ⟨m', hm1, hm2⟩ := List.sublist_map_iff.1 hs2
  refine ⟨_, m', hrun, ⟨es', clock, heap_setBlock_same hb _, F', hm2⟩, ⟨rfl, rfl, rfl, by simp [setBlock], fun i _ hi => heap_setBlock_other hb _ (fun e => hi (by rw [e]))⟩, by simp [setBlock], hm1, fun p => ?_⟩
  constructor
  · intro hp
    refine ⟨hm1.subset hp, fun e => ?_⟩
    have : (encK p.1, encV p.2) ∈ es'.toList.map kvOf := by rw [hm2]; exact List.mem_map.2 ⟨p, hp, rfl⟩
    obtain ⟨x, hx, ex⟩ := List.mem_map.1 this
    exact ((hmem x).1 hx).2 ((congrArg Prod.fst ex).trans (by rw [← e]))
  · rintro ⟨hp, hne⟩
    have : (encK p.1, encV p.2) ∈ es.toList.map kvOf := by rw [he]; exact List.mem_map.2 ⟨p, hp, rfl⟩
    obtain ⟨x, hx, ex⟩ := List.mem_map.1 this
    have hxk : x.key = encK p.1 := congrArg Prod.fst ex
    have hx' : x ∈ es'.toList := (hmem x).2 ⟨hx, fun e => hne (hinj _ _ (hxk.symm.trans e))⟩
    have h2 : (encK p.1, encV p.2) ∈ es'.toList.map kvOf := List.mem_map.2 ⟨x, hx', ex⟩
    rw [hm2] at h2
    obtain ⟨y, hy, ey⟩ := List.mem_map.1 h2
    have hk : y.1 = p.1 := hinj _ _ (congrArg Prod.fst ey)
    have h3 := (getL_some hnd).2 (show (y.1, y.2) ∈ m from hm1.subset hy)
    have h4 := (getL_some hnd).2 (show (p.1, p.2) ∈ m from hp)
    rw [hk, h4] at h3
    injection h3 with h3
    rw [show p = y from Prod.ext hk.symm h3]
    exact hy
end Go.Herb
namespace Go.Proofs.Ytnnpheklgdbohaa
open Go.RowKit Go.Shelf Go.Herb

theorem elsU_lit (xs : List Int) {w : World} {g : Nat} {t : TypeId} (hb : w.heap[g]? = some (.cells (xs.map (fun x => Value.int .u64 x)).toArray t (0, 0))) : Els nu 1 w (some ⟨g, 0, none⟩) xs := by
  refine ⟨fun i hi => ⟨g, 0, rfl, lt_of_blk hb, fun j c hj => ?_⟩⟩
  have hj0 : j = 0 := by
    rcases Nat.eq_zero_or_pos j with h | h
    · exact h
    · rw [List.getElem?_eq_none (by simp [nu]; omega)] at hj; cases hj
  subst hj0
  rw [cell_of_blk hb]
  simp [nu] at hj ⊢
  rw [List.getElem?_eq_getElem hi]
  simp [hj]
theorem elsM_lit (xs : List (Nat × Bh)) {w : World} {g : Nat} {t : TypeId} (hb : w.heap[g]? = some (.cells (xs.map (fun x => Value.map (some x.1))).toArray t (0, 0))) : Els mc 1 w (some ⟨g, 0, none⟩) xs := by
  refine ⟨fun i hi => ⟨g, 0, rfl, lt_of_blk hb, fun j c hj => ?_⟩⟩
  have hj0 : j = 0 := by
    rcases Nat.eq_zero_or_pos j with h | h
    · exact h
    · rw [List.getElem?_eq_none (by simp [mc]; omega)] at hj; cases hj
  subst hj0
  rw [cell_of_blk hb]
  simp [mc] at hj ⊢
  rw [List.getElem?_eq_getElem hi]
  exact ⟨_, ⟨_, rfl⟩, hj⟩

/-- What a call that makes vectors answers. -/
def OpPost (r : Int × Vs) (w : World) (e : Ending) (w' : World) : Prop :=
  ∃ v, e = .returned (.tuple #[v, .int .i64 r.1]) ∧ (r.1 = 0 → ∃ p' mb' M', v = .pointer (some ⟨p', 0, none⟩) ∧ VecIs w' p' mb' M' r.2) ∧ (r.1 ≠ 0 → v = .pointer none) ∧ Below w.heap.size w w'
/-- Vectors with at most so many lines, each with so many behind it. -/
structure Small (L : Vs) : Prop where
  len : L.length < 100000
  inn : ∀ p ∈ L, p.2.length < 100000
theorem Small.get {L : Vs} (h : Small L) {k : Int} {b : Bh} (hg : getL L k = some b) : b.length < 100000 := h.inn _ (getL_mem hg)
theorem opErr {r : Int × Vs} {w w' : World} (h : r.1 ≠ 0) (hb : Below w.heap.size w w') : OpPost r w (.returned (.tuple #[.pointer none, .int .i64 r.1])) w' := ⟨_, rfl, fun h0 => absurd h0 h, fun _ => rfl, hb⟩
theorem laid_perm {xs ys : List Bh} (hx : ∀ b ∈ xs, Okm b) (hy : ∀ b ∈ ys, Okm b) (hp : xs.flatten.Perm ys.flatten) : laidB xs = laidB ys :=
  good_ext (laid_good hx) (laid_good hy) (fun k => by rw [g0_laid, g0_laid]; exact supF_perm hp k 0)

theorem needsE_of {L : Vs} {ls : List Int} (h : ∀ x ∈ ls, (getL L x).isSome = true) : needsE L ls = 0 := by unfold needsE; rw [if_pos]; exact List.all_eq_true.2 h
theorem needsE_not {L : Vs} {ls : List Int} {x : Int} (hx : x ∈ ls) (h : getL L x = none) : needsE L ls = 7 := by
  unfold needsE; rw [if_neg]; intro ha
  have := List.all_eq_true.1 ha x hx
  rw [h] at this
  cases this

set_option maxRecDepth 100000 in
set_option maxHeartbeats 4000000 in
theorem step_any (p mb : Nat) (M : List (Int × Nat)) (L : Vs) (line s : Int) (w : World) (h : VecIs w p mb M L) (hG : GoodV L) (hS : Small L) (hl : U64 line) (hs : U64 s) :
    Calls Try.prog (13) #[.pointer (some ⟨p, 0, none⟩), .int .u64 line, .int .u64 s] w (OpPost (stepV L line s) w) := by
  have H := Lib.hid h
  have HG := Lib.hid hG
  have HS := Lib.hid hS
  have hmm := @run_makeMap Try.prog
  clear h hG hS
  obtain ⟨W1, hW1⟩ : ∃ W1 : World, W1 = w.alloc (.cells #[.int .u64 line] (29)) := ⟨_, rfl⟩
  have hb1 : Below w.heap.size w W1 := by rw [hW1]; exact (Below.refl _ _).alloc (Nat.le_refl _) _
  have hn := needs_any p mb M L (some ⟨w.heap.size, 0, none⟩) 1 [line] W1 (H.out.below hb1) (elsU_lit [line] (t := (29)) (by rw [hW1]; exact blk_new_at rfl _)) (by simp; exact hl) (by simp)
  have HN := Lib.hid hn
  have HB1 := Lib.hid hb1
  have HV1 := Lib.hid (H.out.below hb1)
  have c0 := cell_of_blk HV1.out.blk 0
  simp at c0
  clear hn hb1
  cases hg : getL L line with
  | none =>
    have hr : stepV L line s = (7, []) := by unfold stepV; rw [hg]
    have hne := needsE_not (ls := [line]) (by simp) hg
    have HR := Lib.hid hr
    clear hr hg hmm
    go_enter Try.func13, Try.ntmps13
    go_wp2_with fail
    rw [← hW1]
    clear hW1
    refine (HN.out).mono ?_
    rintro e w' ⟨rfl, rfl⟩
    rw [hne]
    clear hne c0
    go_wp2
    go_ret2
    rw [HR.out]
    exact opErr (by simp) HB1.out
  | some b =>
    have hne : needsE L [line] = 0 := needsE_of (by simp [hg])
    obtain ⟨ib, m, hg2, hM, hpm⟩ := HV1.out.has hg
    have hbG := HG.out.get hg
    have hbl := HS.out.get hg
    have hml : m.length < 1000000 := by have := hpm.length_eq; omega
    obtain ⟨kl, hkl⟩ := keyU hl
    have hlook := (HV1.out.out.look lawU eU_inj Try.underlying58 (zeroB _) hkl).1
    rw [hg2] at hlook
    simp only at hlook
    have hA := above_any ib m s W1 hM hml
    rw [aboveB_perm hpm] at hA
    have HA := Lib.hid hA
    have HM := Lib.hid hM
    have HPM := Lib.hid hpm
    clear hA hM hpm hml
    cases hab : aboveB b s with
    | false =>
      have hr : stepV L line s = (1, []) := by unfold stepV; rw [hg]; simp [hab]
      have HR := Lib.hid hr
      have HAB := Lib.hid hab
      clear hr hg hg2 hmm hab
      go_enter Try.func13, Try.ntmps13
      go_wp2_with fail
      rw [← hW1]
      clear hW1
      refine (HN.out).mono ?_
      rintro e w' ⟨rfl, rfl⟩
      rw [hne]
      clear hne
      go_wp2_with fail
      refine (HA.out).mono ?_
      rintro e w2 ⟨rfl, hb2⟩
      rw [HAB.out]
      have HB2 := Lib.hid (HB1.out.trans (hb2.mono HB1.out.size))
      clear hb2 hlook c0
      go_wp2
      go_ret2
      rw [HR.out]
      exact opErr (by simp) HB2.out
    | true =>
      have hr : stepV L line s = (0, putS L line (laidB [b, [(line, s)]])) := by unfold stepV; rw [hg]; simp [hab]
      have hs0 := (aboveB_iff.1 hab).1
      have HR := Lib.hid hr
      have HAB := Lib.hid hab
      have HBG := Lib.hid hbG
      have HGL := Lib.hid hg
      clear hr hg hg2 hab hbG
      go_enter Try.func13, Try.ntmps13
      go_wp2_with fail
      rw [← hW1]
      clear hW1
      refine (HN.out).mono ?_
      rintro e w' ⟨rfl, rfl⟩
      rw [hne]
      clear hne
      go_wp2_with fail
      refine (HA.out).mono ?_
      rintro e w2 ⟨rfl, hb2⟩
      rw [HAB.out]
      have HV2 := Lib.hid (HV1.out.below hb2)
      have HM2 := Lib.hid (HM.out.same (hb2.block _ HM.out.lt))
      have HB2 := Lib.hid (HB1.out.trans (hb2.mono HB1.out.size))
      clear hb2 hlook c0 HA
      have c0 := cell_of_blk HV2.out.blk 0
      simp at c0
      obtain ⟨ib2, m2, hg2, hM2, hpm2⟩ := HV2.out.has HGL.out
      have hlook := (HV2.out.out.look lawU eU_inj Try.underlying58 (zeroB _) hkl).1
      rw [hg2] at hlook
      simp only at hlook
      have hN := MapIs.made (P := Try.prog) (k := (29)) (encK := eU) (encV := eU) (α := Int) (β := Int) w2
      obtain ⟨w3, hst, hM3, hg3, hs3⟩ := hN.store lawU eU_inj Try.underlying72 (by simp [maxLen]) s hkl
      have hput : putL ([] : List (Int × Int)) line s = [(line, s)] := by simp [putL]
      rw [hput] at hM3
      have hb3 : Below w2.heap.size w2 w3 := ((Below.refl _ _).alloc (Nat.le_refl _) _).grown hg3 (by simp) (fun k e => by injection e with e; omega)
      obtain ⟨W4, hW4⟩ : ∃ W4 : World, W4 = w3.alloc (.cells #[.map (some ib2), .map (some w2.heap.size)] (72)) := ⟨_, rfl⟩
      have hb4 : Below w3.heap.size w3 W4 := by rw [hW4]; exact (Below.refl _ _).alloc (Nat.le_refl _) _
      have hbb : Below w2.heap.size w2 W4 := hb3.trans (hb4.mono hb3.size)
      have hla := laid_any p mb M L line (some ⟨w3.heap.size, 0, none⟩) 2 [(ib2, m2), (w2.heap.size, [(line, s)])] W4 (HV2.out.below hbb) HG.out.srt (elsM_lit _ (t := (72)) (by rw [hW4]; exact blk_new_at rfl _)) (by
        intro q hq
        simp only [List.mem_cons, List.not_mem_nil, or_false] at hq
        rcases hq with rfl | rfl
        · exact ⟨hM2.same (hbb.block _ hM2.lt), HBG.out.1.ok.perm hpm2.symm⟩
        · exact ⟨hM3.same (hb4.block _ hM3.lt), one_ok hs0 HBG.out.2 hs⟩) (by simp [flatU]; have := hpm2.length_eq; omega) (by simp) hl (by have := HS.out.len; omega)
      have hle : laidB ([((ib2, m2) : Nat × Bh), (w2.heap.size, [(line, s)])].map (·.2)) = laidB [b, [(line, s)]] := laid_perm (by
        intro c hc
        simp at hc
        rcases hc with rfl | rfl
        · exact HBG.out.1.ok.perm hpm2.symm
        · exact one_ok hs0 HBG.out.2 hs) (by
        intro c hc
        simp at hc
        rcases hc with rfl | rfl
        · exact HBG.out.1.ok
        · exact one_ok hs0 HBG.out.2 hs) (by simpa using hpm2.append_right _)
      rw [hle] at hla
      have HLA := Lib.hid hla
      have HB4 := Lib.hid (HB2.out.trans (hbb.mono HB2.out.size))
      clear hla hle hM2 hpm2 hM3 hg3 hs3 hN hb3 hb4 hbb hg2 hput
      go_wp2_with fail
      rw [← hW4]
      refine (HLA.out).mono ?_
      rintro e w5 ⟨p', mb', M', rfl, hv5, hb5⟩
      have HE := Lib.hid (show OpPost (stepV L line s) w (.returned (.tuple #[.pointer (some ⟨p', 0, none⟩), .int .i64 0])) w5 from by
        rw [HR.out]
        exact ⟨_, rfl, fun _ => ⟨p', mb', M', rfl, hv5⟩, fun h => absurd rfl h, HB4.out.trans (hb5.mono HB4.out.size)⟩)
      clear hv5 hb5 hlook c0 hst
      go_wp2
      go_ret2
      exact HE.out
end Go.Proofs.Ytnnpheklgdbohaa
