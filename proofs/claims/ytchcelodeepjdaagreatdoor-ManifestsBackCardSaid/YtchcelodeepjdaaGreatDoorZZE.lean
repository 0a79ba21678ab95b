/- Plain: an edit of a root, read behind that root, tells the edited one. No condition. -/
import Derived.Test.YtchcelodeepjdaaGreatDoorZZC
namespace Go.Herb
open Go
def RiseL (l : List Sd) : Prop := l.Pairwise (fun a b => a.line < b.line)
theorem rise_ext : ∀ {x y : List Sd}, RiseL x → RiseL y → (∀ s, s ∈ x ↔ s ∈ y) → x = y
  | [], [], _, _, _ => rfl
  | [], b :: y, _, _, h => by have := (h b).2 List.mem_cons_self; cases this
  | a :: x, [], _, _, h => by have := (h a).1 List.mem_cons_self; cases this
  | a :: x, b :: y, hx, hy, h => by
    obtain ⟨ha, hx⟩ := List.pairwise_cons.1 hx
    obtain ⟨hb, hy2⟩ := List.pairwise_cons.1 hy
    have e : a = b := by
      rcases List.mem_cons.1 ((h a).1 List.mem_cons_self) with e | h1
      · exact e
      · rcases List.mem_cons.1 ((h b).2 List.mem_cons_self) with e | h2
        · exact e.symm
        · have h3 := hb a h1
          have h4 := ha b h2
          omega
    subst e
    have e : x = y := rise_ext (x := x) (y := y) hx hy2 (fun s => ⟨fun hs => by
      rcases List.mem_cons.1 ((h s).1 (List.mem_cons_of_mem _ hs)) with rfl | h1
      · exact absurd (ha s hs) (Int.lt_irrefl _)
      · exact h1, fun hs => by
      rcases List.mem_cons.1 ((h s).2 (List.mem_cons_of_mem _ hs)) with rfl | h1
      · exact absurd (hb s hs) (Int.lt_irrefl _)
      · exact h1⟩)
    rw [e]
theorem RiseL.nodup {l : List Sd} (h : RiseL l) : (l.map Sd.line).Nodup := by
  unfold RiseL at h
  unfold List.Nodup
  rw [List.pairwise_map]
  exact h.imp (fun h e => absurd h (by rw [e]; exact Int.lt_irrefl _))
theorem RiseL.one {l : List Sd} (h : RiseL l) {a b : Sd} (ha : a ∈ l) (hb : b ∈ l) (e : a.line = b.line) : a = b := by
  induction l with
  | nil => cases ha
  | cons c l ih =>
    obtain ⟨h1, h2⟩ := List.pairwise_cons.1 h
    rcases List.mem_cons.1 ha with e1 | h3
    · rcases List.mem_cons.1 hb with e2 | h4
      · rw [e1, e2]
      · rw [e1] at e; exact absurd (h1 b h4) (by rw [e]; exact Int.lt_irrefl _)
    · rcases List.mem_cons.1 hb with e2 | h4
      · rw [e2] at e; exact absurd (h1 a h3) (by rw [e]; exact Int.lt_irrefl _)
      · exact ih h2 h3 h4
theorem Sd.same {a b : Sd} (h1 : a.line = b.line) (h2 : a.lv = b.lv) : a = b := by
  cases a; cases b; cases h1; cases h2; rfl
theorem edit_mem {x q : List Sd} (hx : RiseL x) (hq : RiseL q) (s : Sd) : s ∈ x ↔ s ∈ newL x q ∨ (s ∈ q ∧ s.line ∉ goneL x q ∧ s.line ∉ (newL x q).map Sd.line) := by
  have hw : ∀ y, asWas q y = true ↔ y ∈ q := fun y => by
    unfold asWas
    rw [decide_eq_true_eq]
    exact ⟨fun ⟨z, h1, h2, h3⟩ => by rw [← Sd.same h2 h3]; exact h1, fun h => ⟨y, h, rfl, rfl⟩⟩
  have hn : ∀ y, y ∈ newL x q ↔ y ∈ x ∧ y ∉ q := fun y => by
    unfold newL
    rw [List.mem_filter]
    cases h : asWas q y with
    | true => simp [(hw y).1 h]
    | false =>
      have : y ∉ q := fun h1 => by rw [(hw y).2 h1] at h; cases h
      simp [this]
  have hg : ∀ k, k ∈ goneL x q ↔ ∃ z ∈ q, z.line = k ∧ k ∉ x.map Sd.line := fun k => by
    unfold goneL
    rw [List.mem_map]
    constructor
    · rintro ⟨z, h1, rfl⟩
      obtain ⟨h1, h2⟩ := List.mem_filter.1 h1
      exact ⟨z, h1, rfl, of_decide_eq_true h2⟩
    · rintro ⟨z, h1, rfl, h2⟩
      exact ⟨z, List.mem_filter.2 ⟨h1, decide_eq_true h2⟩, rfl⟩
  constructor
  · intro h
    by_cases hs : s ∈ q
    · refine .inr ⟨hs, fun h1 => ?_, fun h1 => ?_⟩
      · obtain ⟨z, _, _, h2⟩ := (hg _).1 h1
        exact h2 (List.mem_map_of_mem h)
      · obtain ⟨y, h2, h3⟩ := List.mem_map.1 h1
        obtain ⟨h4, h5⟩ := (hn y).1 h2
        rw [hx.one h4 h h3] at h5
        exact h5 hs
    · exact .inl ((hn s).2 ⟨h, hs⟩)
  · rintro (h | ⟨h1, h2, h3⟩)
    · exact ((hn s).1 h).1
    · have h4 : s.line ∈ x.map Sd.line := Classical.byContradiction (fun h4 => h2 ((hg _).2 ⟨s, h1, rfl, h4⟩))
      obtain ⟨y, h5, h6⟩ := List.mem_map.1 h4
      have h7 : y ∈ q := Classical.byContradiction (fun h7 => h3 (by rw [← h6]; exact List.mem_map_of_mem ((hn y).2 ⟨h5, h7⟩)))
      rw [← hq.one h7 h1 h6]
      exact h5
end Go.Herb
namespace Go.Proofs.YtchcelodeepjdaaGreatDoor.Ln
open Go.RowKit Go.Shelf Go.Herb

theorem mem_delsL {gs : List Int} : ∀ {m : List (Int × Sv)} {p : Int × Sv}, p ∈ delsL m gs ↔ p ∈ m ∧ p.1 ∉ gs := by
  induction gs with
  | nil => intro m p; exact ⟨fun h => ⟨h, by simp⟩, fun h => h.1⟩
  | cons g gs ih =>
    intro m p
    show p ∈ delsL (delL m g) gs ↔ _
    rw [ih]
    unfold delL
    rw [List.mem_filter, decide_eq_true_eq, List.mem_cons, not_or]
    exact ⟨fun ⟨⟨h1, h2⟩, h3⟩ => ⟨h1, h2, h3⟩, fun ⟨h1, h2, h3⟩ => ⟨⟨h1, h2⟩, h3⟩⟩
theorem mem_edited {q : List Sv} {gs : List Int} {ss os : List Sv} (hq : (q.map Sv.line).Nodup) (hs : (ss.map Sv.line).Nodup) (hp : os.Perm ((putS (delsL (putS [] q) gs) ss).map (·.2))) (s : Sv) : s ∈ os ↔ s ∈ ss ∨ (s ∈ q ∧ s.line ∉ gs ∧ s.line ∉ ss.map Sv.line) := by
  have n1 : ((putS [] q).map (·.1)).Nodup := putS_nodup List.nodup_nil
  have n2 : ((delsL (putS [] q) gs).map (·.1)).Nodup := delsL_nodup n1
  have n3 : ((putS (delsL (putS [] q) gs) ss).map (·.1)).Nodup := putS_nodup n2
  have hk0 : ∀ p ∈ putS [] q, p.1 = p.2.line := fun p hp => by
    rcases putS_mem hp with h | h
    · cases h
    · exact h.2
  have hk : ∀ p ∈ putS (delsL (putS [] q) gs) ss, p.1 = p.2.line := fun p hp => by
    rcases putS_mem hp with h | h
    · exact hk0 p (mem_delsL.1 h).1
    · exact h.2
  have h1 : s ∈ os ↔ getL (putS (delsL (putS [] q) gs) ss) s.line = some s := by
    rw [hp.mem_iff, getL_some n3, List.mem_map]
    exact ⟨fun ⟨p, h2, h3⟩ => by have := hk p h2; rw [← h3, ← this]; exact h2, fun h => ⟨_, h, rfl⟩⟩
  rw [h1]
  by_cases h : s.line ∈ ss.map Sv.line
  · obtain ⟨y, h2, h3⟩ := List.mem_map.1 h
    have h4 := getL_putS_some h2 hs (delsL (putS [] q) gs)
    rw [h3] at h4
    rw [h4]
    constructor
    · intro e; injection e with e; rw [← e]; exact .inl h2
    · rintro (h5 | ⟨_, _, h5⟩)
      · have h6 := getL_putS_some h5 hs (delsL (putS [] q) gs)
        rw [h4] at h6
        exact h6
      · exact absurd h h5
  · rw [getL_putS_none h, getL_some n2, mem_delsL]
    constructor
    · rintro ⟨h2, h3⟩
      rcases putS_mem h2 with h4 | ⟨h4, _⟩
      · cases h4
      · exact .inr ⟨h4, h3, h⟩
    · rintro (h2 | ⟨h2, h3, _⟩)
      · exact absurd (List.mem_map_of_mem h2) h
      · exact ⟨(getL_some n1).1 (getL_putS_some h2 hq []), h3⟩
theorem edited_says {q ss os : List Sv} {x : List Sd} (hq : RiseL (q.map Sv.says)) (hx : RiseL x) (hss : ss.map Sv.says = newL x (q.map Sv.says)) (hp : os.Perm ((putS (delsL (putS [] q) (goneL x (q.map Sv.says))) ss).map (·.2))) (hso : os.Pairwise (fun a b => ¬ b.line < a.line)) : os.map Sv.says = x := by
  have hqn : (q.map Sv.line).Nodup := by rw [← lines_says]; exact hq.nodup
  have hsn : (ss.map Sv.line).Nodup := by
    rw [← lines_says, hss]
    refine List.Nodup.sublist (List.Sublist.map _ ?_) hx.nodup
    unfold newL
    exact List.filter_sublist
  have n3 : ((putS (delsL (putS [] q) (goneL x (q.map Sv.says))) ss).map (·.1)).Nodup := putS_nodup (delsL_nodup (putS_nodup List.nodup_nil))
  have hk : ∀ p ∈ putS (delsL (putS [] q) (goneL x (q.map Sv.says))) ss, p.1 = p.2.line := fun p hp => by
    rcases putS_mem hp with h | h
    · rcases putS_mem (mem_delsL.1 h).1 with h | h
      · cases h
      · exact h.2
    · exact h.2
  have hon : (os.map Sv.line).Nodup := by
    refine (hp.map Sv.line).nodup_iff.2 ?_
    rw [List.map_map]
    have : (putS (delsL (putS [] q) (goneL x (q.map Sv.says))) ss).map (Sv.line ∘ (fun p => p.2)) = (putS (delsL (putS [] q) (goneL x (q.map Sv.says))) ss).map (·.1) := List.map_congr_left (fun p hp => (hk p hp).symm)
    rw [this]
    exact n3
  have hor : RiseL (os.map Sv.says) := by
    unfold RiseL
    rw [List.pairwise_map]
    unfold List.Nodup at hon
    rw [List.pairwise_map] at hon
    exact (hso.and hon).imp (fun ⟨h1, h2⟩ => by
      show Sv.line _ < Sv.line _
      omega)
  refine rise_ext hor hx (fun s => ?_)
  rw [edit_mem hx hq s, List.mem_map]
  constructor
  · rintro ⟨y, h1, rfl⟩
    rcases (mem_edited hqn hsn hp y).1 h1 with h | ⟨h2, h3, h4⟩
    · exact .inl (by rw [← hss]; exact List.mem_map_of_mem h)
    · refine .inr ⟨List.mem_map_of_mem h2, h3, ?_⟩
      rw [← hss, lines_says]
      exact h4
  · rintro (h | ⟨h1, h2, h3⟩)
    · rw [← hss] at h
      obtain ⟨y, h4, rfl⟩ := List.mem_map.1 h
      exact ⟨y, (mem_edited hqn hsn hp y).2 (.inl h4), rfl⟩
    · obtain ⟨y, h4, rfl⟩ := List.mem_map.1 h1
      rw [← hss, lines_says] at h3
      exact ⟨y, (mem_edited hqn hsn hp y).2 (.inr ⟨h4, h2, h3⟩), rfl⟩
/-- An edit's record: what it tells behind a root. -/
structure EdIs (ys : List Int) (q x : Rt) : Prop where
  num : EdN x q
  good : GoodX x
  again : editL x q = ys
theorem EdIs.read {ys : List Int} {q x : Rt} (h : EdIs ys q x) : ∃ l l1, ys = 2 :: l ∧ rtP l = some ({ x with sh := [] }, l1) ∧ egP l1 = some ((goneL x.sh q.sh, newL x.sh q.sh), []) := by
  obtain ⟨l, e1, e2⟩ := edP_put h.num []
  rw [List.append_nil, h.again] at e1
  unfold edP at e2
  cases h1 : rtP l with
  | none => rw [h1] at e2; cases e2
  | some r1 =>
    obtain ⟨r, l1⟩ := r1
    rw [h1] at e2
    simp only at e2
    refine ⟨l, l1, e1, ?_⟩
    unfold egP
    cases h2 : manyP nmP l1 with
    | none => rw [h2] at e2; cases e2
    | some r2 =>
      obtain ⟨gs, l2⟩ := r2
      rw [h2] at e2
      simp only at e2
      cases h3 : shP l2 with
      | none => rw [h3] at e2; cases e2
      | some r3 =>
        obtain ⟨sh, l3⟩ := r3
        rw [h3] at e2
        simp only [Option.some.injEq, Prod.mk.injEq] at e2
        obtain ⟨⟨rfl, rfl, rfl⟩, rfl⟩ := e2
        exact ⟨h1, by simp [h3]⟩
theorem EdIs.uniq {ys : List Int} {q x y : Rt} (hq : GoodX q) (h : EdIs ys q x) (k : EdIs ys q y) : x = y := by
  obtain ⟨l, l1, e1, e2, e3⟩ := h.read
  obtain ⟨l', l1', f1, f2, f3⟩ := k.read
  rw [e1] at f1
  cases f1
  rw [e2] at f2
  simp only [Option.some.injEq, Prod.mk.injEq] at f2
  obtain ⟨f2, rfl⟩ := f2
  rw [e3] at f3
  simp only [Option.some.injEq, Prod.mk.injEq, and_true] at f3
  have hs : x.sh = y.sh := rise_ext h.good.2.shelved.rise k.good.2.shelved.rise (fun s => by
    rw [edit_mem h.good.2.shelved.rise hq.2.shelved.rise s, edit_mem k.good.2.shelved.rise hq.2.shelved.rise s, f3.1, f3.2])
  cases x
  cases y
  simp only [Rt.mk.injEq] at f2 hs ⊢
  obtain ⟨a1, a2, a3, a4, a5, a6, _⟩ := f2
  exact ⟨a1, a2, a3, a4, a5, a6, hs⟩
end Go.Proofs.YtchcelodeepjdaaGreatDoor.Ln
