/- Plain: points put in their place are the sorted ones without doubles. No condition. -/
import Derived.Test.YtnnpheklgdbohaaY8
namespace Go.Proofs.Ytnnpheklgdbohaa
open Go.RowKit Go.Shelf Go.Herb Go.Sort
theorem LtP.trans {a b c : Int × Int} (h : LtP a b) (k : LtP b c) : LtP a c := by unfold LtP at *; omega
theorem LtP.irr {a : Int × Int} (h : LtP a a) : False := by unfold LtP at h; omega
theorem LtP.total (a b : Int × Int) (h : ¬ LtP a b) (hne : a ≠ b) : LtP b a := by
  have : ¬ (a.1 = b.1 ∧ a.2 = b.2) := fun e => hne (Prod.ext e.1 e.2)
  unfold LtP at *
  omega
/-- Rising, with the members of a list. -/
structure RP (out S : List (Int × Int)) : Prop where
  srt : out.Pairwise LtP
  mem : ∀ q, q ∈ out ↔ q ∈ S
theorem RP.nil : RP [] [] := ⟨.nil, fun _ => Iff.rfl⟩
theorem RP.uniq {a b S : List (Int × Int)} (ha : RP a S) (hb : RP b S) : a = b := by
  have nd : ∀ {l : List (Int × Int)}, l.Pairwise LtP → l.Nodup := fun h => h.imp (fun h e => by subst e; exact h.irr)
  have hp : a.Perm b := (List.perm_ext_iff_of_nodup (nd ha.srt) (nd hb.srt)).2 (fun q => (ha.mem q).trans (hb.mem q).symm)
  exact hp.eq_of_pairwise (fun x y _ _ h1 h2 => (h1.trans h2).irr.elim) ha.srt hb.srt
theorem RP.put {out S : List (Int × Int)} (h : RP out S) {p : Int × Int} {i : Nat} (hlo : ∀ q ∈ out.take i, LtP q p) (hi : i ≤ out.length) (hx : ∀ x, out[i]? = some x → ¬ LtP x p ∧ x ≠ p) : RP (out.take i ++ p :: out.drop i) (S ++ [p]) := by
  have hs := h.srt
  rw [← List.take_append_drop i out, List.pairwise_append] at hs
  obtain ⟨s1, s2, s3⟩ := hs
  have hhi : ∀ q ∈ out.drop i, LtP p q := fun q hq => by
    rcases Nat.lt_or_eq_of_le hi with hlt | he
    · have hd := List.drop_eq_getElem_cons hlt
      rw [hd] at s2 hq
      have h0 := hx _ (List.getElem?_eq_getElem hlt)
      have h1 := LtP.total _ _ h0.1 h0.2
      rcases List.mem_cons.1 hq with rfl | hq
      · exact h1
      · exact h1.trans ((List.pairwise_cons.1 s2).1 q hq)
    · rw [he, List.drop_length] at hq
      simp at hq
  refine ⟨List.pairwise_append.2 ⟨s1, List.pairwise_cons.2 ⟨hhi, s2⟩, fun a ha b hb => ?_⟩, fun q => ?_⟩
  · rcases List.mem_cons.1 hb with rfl | hb
    · exact hlo a ha
    · exact s3 a ha b hb
  · rw [List.mem_append, List.mem_cons, List.mem_append, List.mem_singleton, ← h.mem q]
    have : q ∈ out ↔ q ∈ out.take i ∨ q ∈ out.drop i := by rw [← List.mem_append, List.take_append_drop]
    rw [this]
    constructor
    · rintro (h | h | h)
      · exact .inl (.inl h)
      · exact .inr h
      · exact .inl (.inr h)
    · rintro ((h | h) | h)
      · exact .inl h
      · exact .inr (.inr h)
      · exact .inr (.inl h)
theorem RP.has {out S : List (Int × Int)} (h : RP out S) {p : Int × Int} (hp : p ∈ out) : RP out (S ++ [p]) :=
  ⟨h.srt, fun q => by rw [List.mem_append, List.mem_singleton, ← h.mem q]; exact ⟨.inl, fun h => h.elim id (fun e => by rw [e]; exact hp)⟩⟩
theorem RP.perm {out S T : List (Int × Int)} (h : RP out S) (hp : S.Perm T) : RP out T := ⟨h.srt, fun q => (h.mem q).trans hp.mem_iff⟩
theorem dd_rp {ys : List (Int × Int)} (hs : ys.Pairwise (fun a b => ¬ LtP b a)) : ∀ k, k ≤ ys.length → RP (ddP ys k) (ys.take k)
  | 0, _ => by unfold ddP; exact RP.nil
  | k + 1, hk => by
    have ih := dd_rp hs k (by omega)
    have hk' : k < ys.length := by omega
    have hg : ∀ j, (h : j < ys.length) → ys.getD j (0, 0) = ys[j] := fun j h => by simp [List.getD, List.getElem?_eq_getElem h]
    have hw := List.pairwise_iff_getElem.1 hs
    rw [ddP_succ, List.take_succ_eq_append_getElem hk', hg k hk']
    split
    · rename_i hc
      have := ih.put (p := ys[k]) (i := (ddP ys k).length) (fun q hq => by
        rw [List.take_length] at hq
        obtain ⟨j, hj, he⟩ := List.getElem_of_mem ((ih.mem q).1 hq)
        rw [List.getElem_take] at he
        simp at hj
        rcases hc with hc | hc
        · omega
        · rw [hg (k - 1) (by omega)] at hc
          have h1 := hw j k (by omega) hk' (by omega)
          rw [he] at h1
          refine LtP.total _ _ h1 (fun e => hc ?_)
          have h2 := hw (k - 1) k (by omega) hk' (by omega)
          rcases Nat.lt_or_eq_of_le (show j ≤ k - 1 by omega) with h3 | h3
          · have h4 := hw j (k - 1) (by omega) (by omega) h3
            rw [he, ← e] at h4
            unfold LtP at h2 h4
            exact Prod.ext (by omega) (by omega)
          · subst h3
            rw [he, e]) (Nat.le_refl _) (fun x hx => by simp at hx)
      rw [List.take_length, List.drop_length] at this
      exact this
    · rename_i hc
      rw [List.append_nil]
      have h0 : k ≠ 0 := fun e => hc (.inl e)
      have h1 : ys.getD (k - 1) (0, 0) = ys[k] := Classical.not_not.1 (fun e => hc (.inr e))
      rw [hg (k - 1) (by omega)] at h1
      refine ih.has ((ih.mem _).2 ?_)
      rw [← h1]
      exact List.mem_take_iff_getElem.2 ⟨k - 1, by omega, rfl⟩
theorem PtsOf_rp {L : Vs} {ps out : Bh} (h : PtsOf L ps) (ho : RP out (pairsB L L.length)) : out = ps := by
  obtain ⟨ys, h1, h2, rfl⟩ := h
  have h3 := dd_rp h2 ys.length (Nat.le_refl _)
  rw [List.take_length] at h3
  exact ho.uniq (h3.perm h1)
end Go.Proofs.Ytnnpheklgdbohaa
