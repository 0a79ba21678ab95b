/- Vectors as plain lists. No condition. · vectors: there, needs, above. Condition: fewer than 1000000 lines. · vectors: copied, laid. Condition: fewer than 1000000 lines. · vectors: Step, Fork, Merge, Drop, First. Condition: fewer than 1000000 lines. · vectors: All. Condition: fewer than 100000 lines. -/
import Derived.Test.YtchcelodeepjdaaGreatDoorMp
import Derived.Test.YtchcelodeepjdaaGreatDoorOC
import Derived.Shelf.SlMaps.Clone
import Derived.Maps.Range
import Derived.Deep.RegionLaw
import Derived.Lib.AppendZeros
import Derived.Maps.AppendAt
namespace Go.Herb
open Go

abbrev Bh := List (Int × Int)
abbrev Vs := List (Int × Bh)
def U64 (x : Int) : Prop := (Lit.int .u64 x).wf = true

/-- A line's commit; 0: none. -/
def g0 (b : Bh) (k : Int) : Int := (getL b k).getD 0
def SrtK {β : Type} (b : List (Int × β)) : Prop := b.Pairwise (fun p q => p.1 < q.1)
structure Good (b : Bh) : Prop where
  srt : SrtK b
  pos : ∀ p ∈ b, 0 < p.2
  wf : ∀ p ∈ b, U64 p.1 ∧ U64 p.2
/-- As it lies in a map. -/
structure Okm (m : Bh) : Prop where
  nodup : (m.map (·.1)).Nodup
  pos : ∀ p ∈ m, 0 < p.2
  wf : ∀ p ∈ m, U64 p.1 ∧ U64 p.2

theorem SrtK.nodup {β : Type} {b : List (Int × β)} (h : SrtK b) : (b.map (·.1)).Nodup := by
  unfold List.Nodup
  rw [List.pairwise_map]
  exact h.imp (fun h e => by omega)
theorem Good.ok {b : Bh} (h : Good b) : Okm b := ⟨h.srt.nodup, h.pos, h.wf⟩
theorem Okm.perm {a b : Bh} (h : Okm a) (hp : a.Perm b) : Okm b := ⟨(hp.map _).nodup_iff.1 h.nodup, fun p m => h.pos p (hp.mem_iff.2 m), fun p m => h.wf p (hp.mem_iff.2 m)⟩

theorem getL_mem {β : Type} {b : List (Int × β)} {k : Int} {v : β} (h : getL b k = some v) : (k, v) ∈ b := by
  unfold getL at h
  obtain ⟨p, h1, h2⟩ := Option.map_eq_some_iff.1 h
  have h3 := List.find?_some h1
  simp at h3
  have h4 := List.mem_of_find?_eq_some h1
  rw [← h2, ← h3]
  exact h4
theorem g0_mem {b : Bh} (hn : (b.map (·.1)).Nodup) {p : Int × Int} (hp : p ∈ b) : g0 b p.1 = p.2 := by
  unfold g0; rw [(getL_some hn).2 (show (p.1, p.2) ∈ b from hp)]; rfl
theorem g0_of_none {b : Bh} {k : Int} (h : getL b k = none) : g0 b k = 0 := by unfold g0; rw [h]; rfl
theorem g0_of_some {b : Bh} {k v : Int} (h : getL b k = some v) : g0 b k = v := by unfold g0; rw [h]; rfl
theorem Okm.mem_of {b : Bh} (_ : Okm b) {k : Int} (h : g0 b k ≠ 0) : (k, g0 b k) ∈ b := by
  cases e : getL b k with
  | none => exact absurd (g0_of_none e) h
  | some v => rw [g0_of_some e]; exact getL_mem e
theorem Okm.nn {b : Bh} (hb : Okm b) (k : Int) : 0 ≤ g0 b k := by
  by_cases h : g0 b k = 0
  · omega
  · exact Int.le_of_lt (hb.pos _ (hb.mem_of h))
theorem Okm.iff {b : Bh} (hb : Okm b) {p : Int × Int} : p ∈ b ↔ g0 b p.1 = p.2 ∧ 0 < p.2 := by
  constructor
  · intro h; exact ⟨g0_mem hb.nodup h, hb.pos p h⟩
  · rintro ⟨h1, h2⟩
    have := hb.mem_of (k := p.1) (by omega)
    rwa [h1] at this
theorem Okm.some_iff {b : Bh} (hb : Okm b) {k : Int} : (getL b k).isSome = true ↔ 0 < g0 b k := by
  cases e : getL b k with
  | none => simp [g0_of_none e]
  | some v => simp [g0_of_some e]; exact hb.pos _ (getL_mem e)
theorem nodup_of_keys {a : Bh} (h : (a.map (·.1)).Nodup) : a.Nodup := by
  unfold List.Nodup at h ⊢
  rw [List.pairwise_map] at h
  exact h.imp (fun h e => h (by rw [e]))
theorem nodup_of_keysN {β : Type} {a : List (Int × β)} (h : (a.map (·.1)).Nodup) : a.Nodup := by
  unfold List.Nodup at h ⊢
  rw [List.pairwise_map] at h
  exact h.imp (fun h e => h (by rw [e]))
theorem perm_of_g0 {a b : Bh} (ha : Okm a) (hb : Okm b) (h : ∀ k, g0 a k = g0 b k) : a.Perm b := by
  refine (List.perm_ext_iff_of_nodup (nodup_of_keys ha.nodup) (nodup_of_keys hb.nodup)).2 fun p => ?_
  rw [ha.iff, hb.iff, h]
theorem getL_perm {β : Type} {a b : List (Int × β)} (ha : (a.map (·.1)).Nodup) (hp : a.Perm b) (k : Int) : getL a k = getL b k := by
  have hb := (hp.map (·.1)).nodup_iff.1 ha
  cases e : getL a k with
  | some v => exact ((getL_some hb).2 (hp.mem_iff.1 (getL_mem e))).symm
  | none =>
    rw [getL_none] at e
    symm
    rw [getL_none]
    exact fun h => e ((hp.map (·.1)).mem_iff.2 h)
theorem g0_perm {a b : Bh} (ha : Okm a) (hp : a.Perm b) (k : Int) : g0 a k = g0 b k := by unfold g0; rw [getL_perm ha.nodup hp]
theorem srt_perm_eq {β : Type} {a b : List (Int × β)} (ha : SrtK a) (hb : SrtK b) (hp : a.Perm b) : a = b := by
  refine hp.eq_of_pairwise (fun p q _ _ h1 h2 => ?_) ha hb
  omega
theorem good_ext {a b : Bh} (ha : Good a) (hb : Good b) (h : ∀ k, g0 a k = g0 b k) : a = b := srt_perm_eq ha.srt hb.srt (perm_of_g0 ha.ok hb.ok h)

/-- In its place, in the place of an old one. -/
def putS {β : Type} (b : List (Int × β)) (k : Int) (v : β) : List (Int × β) := b.filter (fun p => decide (p.1 < k)) ++ (k, v) :: b.filter (fun p => decide (k < p.1))
section
variable {β : Type} {b : List (Int × β)} {k k' : Int} {v : β}
theorem mem_putS {p : Int × β} : p ∈ putS b k v ↔ p = (k, v) ∨ p ∈ b ∧ p.1 ≠ k := by
  unfold putS
  simp only [List.mem_append, List.mem_filter, List.mem_cons, decide_eq_true_eq]
  constructor
  · rintro (⟨h1, h2⟩ | h | ⟨h1, h2⟩)
    · exact .inr ⟨h1, by omega⟩
    · exact .inl h
    · exact .inr ⟨h1, by omega⟩
  · rintro (h | ⟨h1, h2⟩)
    · exact .inr (.inl h)
    · rcases Int.lt_or_gt_of_ne h2 with h | h
      · exact .inl ⟨h1, h⟩
      · exact .inr (.inr ⟨h1, h⟩)
theorem putS_srt (h : SrtK b) : SrtK (putS b k v) := by
  unfold putS SrtK
  rw [List.pairwise_append]
  refine ⟨h.filter _, List.pairwise_cons.2 ⟨fun q hq => ?_, h.filter _⟩, fun p hp q hq => ?_⟩
  · simp at hq; exact hq.2
  · simp at hp hq
    rcases hq with rfl | hq
    · exact hp.2
    · omega
theorem getL_putS (h : SrtK b) : getL (putS b k v) k' = if k' = k then some v else getL b k' := by
  have hs := (putS_srt (k := k) (v := v) h).nodup
  by_cases e : k' = k
  · rw [if_pos e, e]
    exact (getL_some hs).2 (mem_putS.2 (.inl rfl))
  · rw [if_neg e]
    cases e2 : getL b k' with
    | some u => exact (getL_some hs).2 (mem_putS.2 (.inr ⟨getL_mem e2, e⟩))
    | none =>
      rw [getL_none] at e2 ⊢
      intro hm
      obtain ⟨p, hp, rfl⟩ := List.mem_map.1 hm
      rcases mem_putS.1 hp with rfl | ⟨h1, h2⟩
      · exact e rfl
      · exact e2 (List.mem_map.2 ⟨p, h1, rfl⟩)
theorem mem_keys_putS {x : Int} : x ∈ (putS b k v).map (·.1) ↔ x = k ∨ x ∈ b.map (·.1) := by
  simp only [List.mem_map]
  constructor
  · rintro ⟨p, hp, rfl⟩
    rcases mem_putS.1 hp with rfl | ⟨h1, h2⟩
    · exact .inl rfl
    · exact .inr ⟨p, h1, rfl⟩
  · rintro (rfl | ⟨p, hp, rfl⟩)
    · exact ⟨_, mem_putS.2 (.inl rfl), rfl⟩
    · by_cases e : p.1 = k
      · exact ⟨(k, v), mem_putS.2 (.inl rfl), e.symm⟩
      · exact ⟨p, mem_putS.2 (.inr ⟨hp, e⟩), rfl⟩
theorem putS_len : (putS b k v).length ≤ b.length + 1 := by
  unfold putS
  rw [List.length_append, List.length_cons]
  have h : (b.filter (fun p => decide (p.1 < k))).length + (b.filter (fun p => decide (k < p.1))).length ≤ b.length := by
    induction b with
    | nil => simp
    | cons p b ih =>
      rw [List.filter_cons, List.filter_cons]
      by_cases h1 : p.1 < k
      · have h2 : ¬ k < p.1 := by omega
        simp only [h1, h2, decide_true, decide_false, if_true, List.length_cons]
        simp; omega
      · by_cases h2 : k < p.1
        · simp only [h1, h2, decide_true, decide_false, if_true, List.length_cons]
          simp; omega
        · simp only [h1, h2, decide_false, List.length_cons]
          simp; omega
  omega
end

/-- The greatest commit of a line in a list, or z. -/
def supF (l : Bh) (k z : Int) : Int := l.foldl (fun a p => if p.1 = k then max a p.2 else a) z
theorem supF_nil (k z : Int) : supF [] k z = z := rfl
theorem supF_append (l l' : Bh) (k z : Int) : supF (l ++ l') k z = supF l' k (supF l k z) := by simp [supF]
theorem supF_snoc (l : Bh) (p : Int × Int) (k z : Int) : supF (l ++ [p]) k z = if p.1 = k then max (supF l k z) p.2 else supF l k z := by simp [supF]
theorem supF_cons (l : Bh) (p : Int × Int) (k z : Int) : supF (p :: l) k z = supF l k (if p.1 = k then max z p.2 else z) := by simp [supF]
theorem supF_perm {l l' : Bh} (h : l.Perm l') (k z : Int) : supF l k z = supF l' k z := by
  induction h generalizing z with
  | nil => rfl
  | cons p _ ih => rw [supF_cons, supF_cons]; exact ih _
  | swap p q l =>
    rw [supF_cons, supF_cons, supF_cons, supF_cons]
    congr 1
    by_cases h1 : p.1 = k <;> by_cases h2 : q.1 = k <;> simp [h1, h2]
    omega
  | trans _ _ ih1 ih2 => exact (ih1 z).trans (ih2 z)
theorem supF_max (l : Bh) (k z y : Int) : supF l k (max z y) = max (supF l k z) y := by
  induction l generalizing z with
  | nil => rfl
  | cons p l ih =>
    rw [supF_cons, supF_cons]
    split
    · rw [show max (max z y) p.2 = max (max z p.2) y by omega, ih]
    · exact ih z
theorem supF_one {l : Bh} (h : Okm l) (k z : Int) (hz : 0 ≤ z) : supF l k z = max z (g0 l k) := by
  induction l generalizing z with
  | nil => simp [supF, g0, getL]; omega
  | cons p l ih =>
    have hn := List.nodup_cons.1 h.nodup
    have hl : Okm l := ⟨hn.2, fun q hq => h.pos q (by simp [hq]), fun q hq => h.wf q (by simp [hq])⟩
    have hp := h.pos p (by simp)
    rw [supF_cons]
    by_cases e : p.1 = k
    · have h0 : g0 l k = 0 := g0_of_none (getL_none.2 (by rw [← e]; exact hn.1))
      have h1 : g0 (p :: l) k = p.2 := by rw [← e]; exact g0_mem h.nodup (by simp)
      rw [if_pos e, ih hl _ (by omega), h0, h1]
      omega
    · have h1 : g0 (p :: l) k = g0 l k := by unfold g0 getL; rw [List.find?_cons]; simp [e]
      rw [if_neg e, ih hl z hz, h1]

/-- One commit more of a line, if it is greater. -/
def mxB (b : Bh) (k s : Int) : Bh := putS b k (max (g0 b k) s)
def mixB (b l : Bh) : Bh := l.foldl (fun b p => mxB b p.1 p.2) b
theorem g0_mxB {b : Bh} (h : SrtK b) (k s k' : Int) : g0 (mxB b k s) k' = if k' = k then max (g0 b k) s else g0 b k' := by
  unfold mxB
  show (getL (putS b k _) k').getD 0 = _
  rw [getL_putS h]
  split <;> rfl
theorem mxB_good {b : Bh} (h : Good b) {k s : Int} (hs : 0 < s) (hk : U64 k) (hu : U64 s) : Good (mxB b k s) := by
  have hmax : U64 (max (g0 b k) s) := by
    by_cases e : g0 b k ≤ s
    · rw [show max (g0 b k) s = s by omega]; exact hu
    · rw [show max (g0 b k) s = g0 b k by omega]; exact (h.wf _ (h.ok.mem_of (k := k) (by omega))).2
  refine ⟨putS_srt h.srt, fun p hp => ?_, fun p hp => ?_⟩
  · rcases mem_putS.1 hp with rfl | ⟨h1, _⟩
    · simp only; omega
    · exact h.pos p h1
  · rcases mem_putS.1 hp with rfl | ⟨h1, _⟩
    · exact ⟨hk, hmax⟩
    · exact h.wf p h1
theorem mixB_good {l : Bh} (hl : Okm l) : ∀ {b : Bh}, Good b → Good (mixB b l) := by
  unfold mixB
  have h1 := hl.pos
  have h2 := hl.wf
  clear hl
  induction l with
  | nil => intro b h; exact h
  | cons p l ih =>
    intro b h
    rw [List.foldl_cons]
    exact ih (fun q hq => h1 q (by simp [hq])) (fun q hq => h2 q (by simp [hq])) (mxB_good h (h1 p (by simp)) (h2 p (by simp)).1 (h2 p (by simp)).2)
theorem mixB_srt {l : Bh} : ∀ {b : Bh}, SrtK b → SrtK (mixB b l) := by
  unfold mixB
  induction l with
  | nil => intro b h; exact h
  | cons p l ih => intro b h; rw [List.foldl_cons]; exact ih (putS_srt h)
theorem g0_mixB {l : Bh} : ∀ {b : Bh}, SrtK b → ∀ k, g0 (mixB b l) k = supF l k (g0 b k) := by
  induction l with
  | nil => intro b h k; rfl
  | cons p l ih =>
    intro b h k
    have h1 : SrtK (mxB b p.1 p.2) := putS_srt h
    have := ih h1 k
    unfold mixB at this ⊢
    rw [List.foldl_cons, this, g0_mxB h, supF_cons]
    congr 1
    by_cases e : k = p.1
    · rw [if_pos e, if_pos e.symm, e]
    · rw [if_neg e, if_neg (fun h => e h.symm)]
def laidB (bs : List Bh) : Bh := bs.foldl mixB []
theorem nil_good : Good [] := ⟨.nil, fun p h => by simp at h, fun p h => by simp at h⟩
theorem laid_good {bs : List Bh} (h : ∀ b ∈ bs, Okm b) : Good (laidB bs) := by
  unfold laidB
  suffices g : ∀ z, Good z → Good (bs.foldl mixB z) from g [] nil_good
  induction bs with
  | nil => intro z hz; exact hz
  | cons b bs ih => intro z hz; rw [List.foldl_cons]; exact ih (fun c hc => h c (by simp [hc])) _ (mixB_good (h b (by simp)) hz)
theorem g0_laid {bs : List Bh} (k : Int) : g0 (laidB bs) k = supF bs.flatten k 0 := by
  unfold laidB
  suffices g : ∀ z, SrtK z → g0 (bs.foldl mixB z) k = supF bs.flatten k (g0 z k) from g [] .nil
  induction bs with
  | nil => intro z hz; rfl
  | cons b bs ih =>
    intro z hz
    rw [List.foldl_cons, ih _ (mixB_srt hz), g0_mixB hz, List.flatten_cons, supF_append]
theorem laid_one {b : Bh} (h : Good b) : laidB [b] = b := good_ext (laid_good (by simp; exact h.ok)) h (fun k => by
  rw [g0_laid]; simp only [List.flatten_cons, List.flatten_nil, List.append_nil]
  rw [supF_one h.ok k 0 (Int.le_refl _)]; have := h.ok.nn k; omega)
theorem one_ok {k s : Int} (hs : 0 < s) (hk : U64 k) (hu : U64 s) : Okm [(k, s)] := ⟨by simp, by simp [hs], by simp; exact ⟨hk, hu⟩⟩
theorem mem_laid_key {bs : List Bh} {K : List Int} (hK : ∀ b ∈ bs, ∀ p ∈ b, p.1 ∈ K) : ∀ p ∈ laidB bs, p.1 ∈ K := by
  have key : ∀ (l z : Bh), (∀ p ∈ z, p.1 ∈ K) → (∀ p ∈ l, p.1 ∈ K) → ∀ p ∈ mixB z l, p.1 ∈ K := by
    intro l
    induction l with
    | nil => intro z hz _; exact hz
    | cons q l ih =>
      intro z hz hl
      refine ih (mxB z q.1 q.2) (fun p hp => ?_) (fun p hp => hl p (by simp [hp]))
      rcases mem_putS.1 hp with rfl | ⟨h1, _⟩
      · exact hl q (by simp)
      · exact hz p h1
  unfold laidB
  suffices g : ∀ z, (∀ p ∈ z, p.1 ∈ K) → ∀ p ∈ bs.foldl mixB z, p.1 ∈ K from g [] (by simp)
  induction bs with
  | nil => intro z hz; exact hz
  | cons b bs ih => intro z hz; rw [List.foldl_cons]; exact ih (fun c hc => hK c (by simp [hc])) _ (key b z hz (hK b (by simp)))

def aboveB (b : Bh) (s : Int) : Bool := decide (0 < s) && b.all (fun p => decide (p.2 < s))
theorem aboveB_iff {b : Bh} {s : Int} : aboveB b s = true ↔ 0 < s ∧ ∀ p ∈ b, p.2 < s := by simp [aboveB]
theorem aboveB_perm {a b : Bh} (h : a.Perm b) (s : Int) : aboveB a s = aboveB b s := by
  rw [Bool.eq_iff_iff, aboveB_iff, aboveB_iff]
  exact and_congr Iff.rfl ⟨fun g p hp => g p (h.mem_iff.2 hp), fun g p hp => g p (h.mem_iff.1 hp)⟩

/-- The base of two lines. -/
structure IsBase (a b : Bh) (p : Int × Int) : Prop where
  top : ∀ k, min (g0 a k) (g0 b k) ≤ p.2
  none : p.2 = 0 → p.1 = 0
  nn : 0 ≤ p.2
  at_ : 0 < p.2 → min (g0 a p.1) (g0 b p.1) = p.2
  low : ∀ k, 0 < p.2 → min (g0 a k) (g0 b k) = p.2 → p.1 ≤ k
theorem IsBase.symm {a b : Bh} {p : Int × Int} (h : IsBase a b p) : IsBase b a p :=
  ⟨fun k => by rw [Int.min_comm]; exact h.top k, h.none, h.nn, fun h0 => by rw [Int.min_comm]; exact h.at_ h0, fun k h0 hk => h.low k h0 (by rw [Int.min_comm]; exact hk)⟩
theorem IsBase.uniq {a b : Bh} {p q : Int × Int} (h : IsBase a b p) (k : IsBase a b q) : p = q := by
  have e2 : p.2 = q.2 := by
    have hp := h.nn
    have hq := k.nn
    rcases Int.lt_trichotomy p.2 q.2 with e | e | e
    · have := h.top q.1; have := k.at_ (by omega); omega
    · exact e
    · have := k.top p.1; have := h.at_ (by omega); omega
  have e1 : p.1 = q.1 := by
    rcases Int.lt_or_eq_of_le h.nn with h0 | h0
    · have h1 := h.low q.1 h0 (by rw [k.at_ (by omega), e2])
      have h2 := k.low p.1 (by omega) (by rw [h.at_ h0, e2])
      omega
    · rw [h.none h0.symm, k.none (by omega)]
  exact Prod.ext e1 e2
/-- What of it has been gone through. -/
structure BaseSt (b : Bh) (done : Bh) (p : Int × Int) : Prop where
  top : ∀ q ∈ done, min q.2 (g0 b q.1) ≤ p.2
  none : p.2 = 0 → p.1 = 0
  nn : 0 ≤ p.2
  at_ : 0 < p.2 → ∃ q ∈ done, q.1 = p.1 ∧ min q.2 (g0 b q.1) = p.2
  low : ∀ q ∈ done, 0 < p.2 → min q.2 (g0 b q.1) = p.2 → p.1 ≤ q.1
theorem BaseSt.start (b : Bh) : BaseSt b [] (0, 0) := ⟨by simp, fun _ => rfl, Int.le_refl _, fun h => by simp at h, by simp⟩
theorem BaseSt.keep {b done : Bh} {p q : Int × Int} (h : BaseSt b done p) (hq : min q.2 (g0 b q.1) < p.2 ∨ min q.2 (g0 b q.1) ≤ 0 ∨ (min q.2 (g0 b q.1) = p.2 ∧ p.1 ≤ q.1)) : BaseSt b (done ++ [q]) p := by
  have hnn := h.nn
  refine ⟨fun r hr => ?_, h.none, h.nn, fun h0 => ?_, fun r hr h0 he => ?_⟩
  · rcases List.mem_append.1 hr with hr | hr
    · exact h.top r hr
    · rw [List.mem_singleton.1 hr]; omega
  · obtain ⟨r, h1, h2⟩ := h.at_ h0
    exact ⟨r, by simp [h1], h2⟩
  · rcases List.mem_append.1 hr with hr | hr
    · exact h.low r hr h0 he
    · rw [List.mem_singleton.1 hr] at he ⊢; omega
theorem BaseSt.take {b done : Bh} {p q : Int × Int} (h : BaseSt b done p) (h0 : 0 < min q.2 (g0 b q.1)) (hq : p.2 < min q.2 (g0 b q.1) ∨ (min q.2 (g0 b q.1) = p.2 ∧ q.1 < p.1)) : BaseSt b (done ++ [q]) (q.1, min q.2 (g0 b q.1)) := by
  refine ⟨fun r hr => ?_, fun h => by simp only at h; omega, by simp only; omega, fun _ => ⟨q, by simp, rfl, rfl⟩, fun r hr _ he => ?_⟩
  · rcases List.mem_append.1 hr with hr | hr
    · have := h.top r hr; simp only; omega
    · rw [List.mem_singleton.1 hr]; exact Int.le_refl _
  · rcases List.mem_append.1 hr with hr | hr
    · have h1 := h.top r hr
      simp only at he ⊢
      rcases hq with hq | ⟨hq, hlt⟩
      · omega
      · have := h.low r hr (by omega) (by omega); omega
    · rw [List.mem_singleton.1 hr]; exact Int.le_refl _
theorem BaseSt.done {a b done : Bh} {p : Int × Int} (h : BaseSt b done p) (ha : Okm a) (hb : Okm b) (hp : a.Perm done) : IsBase a b p := by
  refine ⟨fun k => ?_, h.none, h.nn, fun h0 => ?_, fun k h0 he => ?_⟩
  · have hn := hb.nn k
    by_cases e : g0 a k = 0
    · have := h.nn; omega
    · have hm := ha.mem_of e
      exact h.top _ (hp.mem_iff.1 hm)
  · obtain ⟨q, h1, h2, h3⟩ := h.at_ h0
    have hm := g0_mem ha.nodup (hp.mem_iff.2 h1)
    rw [← h2, hm]
    exact h3
  · have hn := hb.nn k
    have e : g0 a k ≠ 0 := by omega
    have hm := ha.mem_of e
    exact h.low _ (hp.mem_iff.1 hm) h0 he

/- Vectors of lines. -/
structure GoodV (L : Vs) : Prop where
  srt : SrtK L
  inn : ∀ p ∈ L, Good p.2
  wf : ∀ p ∈ L, U64 p.1
def stepV (L : Vs) (line s : Int) : Int × Vs := match getL L line with
  | none => (7, [])
  | some b => if aboveB b s then (0, putS L line (laidB [b, [(line, s)]])) else (1, [])
def forkV (L : Vs) (line from_ : Int) : Int × Vs := match getL L from_ with
  | none => (7, [])
  | some b => if (getL L line).isSome then (8, []) else (0, putS L line (laidB [b]))
def mergeV (L : Vs) (line other s : Int) : Int × Vs := match getL L line, getL L other with
  | some b, some c => if line ≠ other ∧ aboveB b s = true ∧ aboveB c s = true then (0, putS L line (laidB [b, c, [(line, s)]])) else (1, [])
  | _, _ => (7, [])
def dropV (L : Vs) (line : Int) : Int × Vs := match getL L line with
  | none => (7, [])
  | some _ => (0, L.filter (fun p => decide (p.1 ≠ line)))
theorem GoodV.put {L : Vs} (h : GoodV L) {k : Int} {b : Bh} (hk : U64 k) (hb : Good b) : GoodV (putS L k b) := by
  refine ⟨putS_srt h.srt, fun p hp => ?_, fun p hp => ?_⟩
  · rcases mem_putS.1 hp with rfl | ⟨h1, _⟩
    · exact hb
    · exact h.inn p h1
  · rcases mem_putS.1 hp with rfl | ⟨h1, _⟩
    · exact hk
    · exact h.wf p h1
theorem GoodV.get {L : Vs} (h : GoodV L) {k : Int} {b : Bh} (hg : getL L k = some b) : Good b ∧ U64 k := ⟨h.inn _ (getL_mem hg), h.wf _ (getL_mem hg)⟩
theorem stepV_good {L : Vs} (h : GoodV L) {line s : Int} (hs : U64 s) (e : (stepV L line s).1 = 0) : GoodV (stepV L line s).2 := by
  unfold stepV at e ⊢
  cases hg : getL L line with
  | none => rw [hg] at e; simp at e
  | some b =>
    rw [hg] at e
    simp only at e ⊢
    split
    · rename_i ha
      exact h.put (h.get hg).2 (laid_good (by
        intro c hc
        simp only [List.mem_cons, List.not_mem_nil, or_false] at hc
        rcases hc with rfl | rfl
        · exact (h.get hg).1.ok
        · exact one_ok (aboveB_iff.1 ha).1 (h.get hg).2 hs))
    · rename_i ha; rw [if_neg ha] at e; simp at e
theorem forkV_good {L : Vs} (h : GoodV L) {line from_ : Int} (hs : U64 line) (e : (forkV L line from_).1 = 0) : GoodV (forkV L line from_).2 := by
  unfold forkV at e ⊢
  cases hg : getL L from_ with
  | none => rw [hg] at e; simp at e
  | some b =>
    rw [hg] at e
    simp only at e ⊢
    split
    · rename_i ha; rw [if_pos ha] at e; simp at e
    · exact h.put hs (laid_good (by
        intro c hc
        simp only [List.mem_cons, List.not_mem_nil, or_false] at hc
        rw [hc]
        exact (h.get hg).1.ok))
theorem mergeV_good {L : Vs} (h : GoodV L) {line other s : Int} (hs : U64 s) (e : (mergeV L line other s).1 = 0) : GoodV (mergeV L line other s).2 := by
  unfold mergeV at e ⊢
  cases hg : getL L line with
  | none => rw [hg] at e; simp at e
  | some b =>
    cases hg2 : getL L other with
    | none => rw [hg, hg2] at e; simp at e
    | some c =>
      rw [hg, hg2] at e
      simp only at e ⊢
      split
      · rename_i ha
        exact h.put (h.get hg).2 (laid_good (by
          intro d hd
          simp only [List.mem_cons, List.not_mem_nil, or_false] at hd
          rcases hd with rfl | rfl | rfl
          · exact (h.get hg).1.ok
          · exact (h.get hg2).1.ok
          · exact one_ok (aboveB_iff.1 ha.2.1).1 (h.get hg).2 hs))
      · rename_i ha; rw [if_neg ha] at e; simp at e
theorem dropV_good {L : Vs} (h : GoodV L) {line : Int} (e : (dropV L line).1 = 0) : GoodV (dropV L line).2 := by
  unfold dropV at e ⊢
  cases hg : getL L line with
  | none => rw [hg] at e; simp at e
  | some b => exact ⟨h.srt.filter _, fun p hp => h.inn p (List.mem_filter.1 hp).1, fun p hp => h.wf p (List.mem_filter.1 hp).1⟩
end Go.Herb

namespace Go.Proofs.YtchcelodeepjdaaGreatDoor.Vx
open Go.RowKit Go.Shelf Go.Herb

theorem zeroU (w : World) : (zeroValue (26)).run Tryz.prog w = .ok (.int .u64 0) w := by kernel_rfl
theorem zeroB (w : World) : (zeroValue (140)).run Tryz.prog w = .ok (.map none) w := by kernel_rfl
theorem keyU {x : Int} (h : U64 x) : ∃ kl, keyOf Tryz.prog (26) (.int .u64 x) = some kl := ⟨_, Maps.keyOf_int_mk Tryz.underlying26 h⟩

/-- What a pointer to vectors leads to. -/
structure VecIs (w : World) (p mb : Nat) (M : List (Int × Nat)) (L : Vs) : Prop where
  blk : w.heap[p]? = some (.cells #[.map (some mb), .int .i64 1] (138) (0, 0))
  out : MapM w mb M
  keys : (M.map (·.1)).Perm (L.map (·.1))
  inn : ∀ q ∈ M, ∃ m b, MapU w q.2 m ∧ getL L q.1 = some b ∧ m.Perm b
theorem VecIs.same {w w' : World} {p mb : Nat} {M : List (Int × Nat)} {L : Vs} (h : VecIs w p mb M L) (hb : ∀ b, b < w.heap.size → w'.heap[b]? = w.heap[b]?) : VecIs w' p mb M L :=
  ⟨(hb _ (lt_of_blk h.blk)).trans h.blk, h.out.same (hb _ h.out.lt), h.keys, fun q hq => by obtain ⟨m, b, h1, h2⟩ := h.inn q hq; exact ⟨m, b, h1.same (hb _ h1.lt), h2⟩⟩
theorem VecIs.below {w w' : World} {p mb : Nat} {M : List (Int × Nat)} {L : Vs} (h : VecIs w p mb M L) (hb : Below w.heap.size w w') : VecIs w' p mb M L := h.same (fun b hl => hb.block b hl)
theorem VecIs.drewN {w : World} {p mb : Nat} {M : List (Int × Nat)} {L : Vs} (h : VecIs w p mb M L) (n : Nat) : VecIs (w.drewN n) p mb M L := h.same (fun _ _ => rfl)
theorem VecIs.has {w : World} {p mb : Nat} {M : List (Int × Nat)} {L : Vs} (h : VecIs w p mb M L) {k : Int} {b : Bh} (hg : getL L k = some b) : ∃ ib m, getL M k = some ib ∧ MapU w ib m ∧ m.Perm b := by
  have hk : k ∈ M.map (·.1) := h.keys.mem_iff.2 (List.mem_map.2 ⟨_, getL_mem hg, rfl⟩)
  obtain ⟨q, hq, rfl⟩ := List.mem_map.1 hk
  obtain ⟨m, b', h1, h2, h3⟩ := h.inn q hq
  rw [hg] at h2
  cases h2
  exact ⟨q.2, m, (getL_some h.out.nodup).2 hq, h1, h3⟩
theorem VecIs.hasNot {w : World} {p mb : Nat} {M : List (Int × Nat)} {L : Vs} (h : VecIs w p mb M L) {k : Int} (hg : getL L k = none) : getL M k = none := by
  rw [getL_none] at hg ⊢
  exact fun hm => hg (h.keys.mem_iff.1 hm)
theorem VecIs.len {w : World} {p mb : Nat} {M : List (Int × Nat)} {L : Vs} (h : VecIs w p mb M L) : M.length = L.length := by have := h.keys.length_eq; simpa using this

def needsE (L : Vs) (ls : List Int) : Int := if ls.all (fun l => (getL L l).isSome) then 0 else 7
end Go.Proofs.YtchcelodeepjdaaGreatDoor.Vx

namespace Go.Proofs.YtchcelodeepjdaaGreatDoor.Vx
open Go.RowKit Go.Shelf Go.Herb

/-- New vectors with a line laid anew. -/
theorem VecIs.put {w w' : World} {p0 mb0 p mb ib : Nat} {M : List (Int × Nat)} {L : Vs} {line : Int} {m B : Bh} (h : VecIs w p0 mb0 M L) (hL : SrtK L) (hb : Below w.heap.size w w') (blk : w'.heap[p]? = some (.cells #[.map (some mb), .int .i64 1] (138) (0, 0)))
    (out : MapM w' mb (putL M line ib)) (hi : MapU w' ib m) (hp : m.Perm B) : VecIs w' p mb (putL M line ib) (putS L line B) := by
  have hn := out.nodup
  refine ⟨blk, out, ?_, fun q hq => ?_⟩
  · refine (List.perm_ext_iff_of_nodup hn (putS_srt hL).nodup).2 fun k => ?_
    rw [mem_keys_putS, putL_keys, ← h.keys.mem_iff]
    split
    · rename_i hm
      constructor
      · exact .inr
      · rintro (rfl | h)
        · exact hm
        · exact h
    · rw [List.mem_append, List.mem_singleton]
      exact or_comm
  · have hg := (getL_some hn).2 (show (q.1, q.2) ∈ putL M line ib from hq)
    by_cases e : q.1 = line
    · rw [e, getL_put_same] at hg
      cases hg
      exact ⟨m, B, hi, by rw [getL_putS hL, if_pos e], hp⟩
    · rw [getL_put_other _ _ _ e] at hg
      obtain ⟨m2, b2, h1, h2, h3⟩ := h.inn _ (getL_mem hg)
      exact ⟨m2, b2, h1.same (hb.block _ h1.lt), by rw [getL_putS hL, if_neg e]; exact h2, h3⟩

/-- A map, as it stands in a row. -/
abbrev mc (q : Nat × Bh) : List Value := [.map (some q.1)]
def flatU (xs : List (Nat × Bh)) : Bh := (xs.map (·.2)).flatten
theorem flatU_succ (xs : List (Nat × Bh)) (k : Nat) (h : k < xs.length) : flatU (xs.take (k + 1)) = flatU (xs.take k) ++ xs[k].2 := by
  unfold flatU; rw [List.take_succ_eq_append_getElem h, List.map_append, List.flatten_append]; simp only [List.map_cons, List.map_nil, List.flatten_cons, List.flatten_nil, List.append_nil]
def LaidPost (_p _mb : Nat) (_M : List (Int × Nat)) (L : Vs) (line : Int) (B : Bh) (w : World) (e : Ending) (w' : World) : Prop :=
  ∃ p' mb' M', e = .returned (.pointer (some ⟨p', 0, none⟩)) ∧ VecIs w' p' mb' M' (putS L line B) ∧ Below w.heap.size w w'
end Go.Proofs.YtchcelodeepjdaaGreatDoor.Vx

namespace Go.Herb
open Go.ChangeMaps Go.MapKept
open Go.WideElems (Fit rd rg pl rd_key rd_val rg_of other_key rd_mk)
open Go.Maps (Keyed)
/-- 'delete(m, k)'. -/
theorem MapIs.drop {α β : Type} [DecidableEq α] {P : Program} {k : TypeId} {encK : α → Value} {encV : β → Value} {w : World} {b : Nat} {m : List (α × β)} (h : MapIs P k encK encV w b m) (K : Keyed P k) (hinj : ∀ a a', encK a = encK a' → a = a') {t e : TypeId} (ht : P.underlying t = some (.map k e)) {a : α} {kl : Lit} (hkey : keyOf P k (encK a) = some kl) (ty : TypeId) :
    ∃ w' m', (Builtin.delete_ #[t, k] ty #[.map (some b), encK a]).run P w = .ok (.tuple #[]) w' ∧ MapIs P k encK encV w' b m' ∧ w.grownBy w' (some b) ∧ w'.heap.size = w.heap.size ∧ m'.Sublist m ∧ ∀ p, p ∈ m' ↔ p ∈ m ∧ p.1 ≠ a := by
  have hh := h
  have hnd := h.nodup
  obtain ⟨es, clock, hb, F, he⟩ := h.blk
  obtain ⟨es', hrun, F', _, _, hsub, hmem⟩ := fit_drop_who (ty := ty) K ht hb F hkey
  have hs2 : (es'.toList.map kvOf).Sublist (m.map (fun p => (encK p.1, encV p.2))) := by rw [← he]; exact hsub.map _
  obtain ⟨m', hm1, hm2⟩ := List.sublist_map_iff.1 hs2
  refine ⟨_, m', hrun, ⟨es', clock, heap_setBlock_same hb _, F', hm2⟩, ⟨rfl, rfl, rfl, by simp [setBlock], fun i _ hi => heap_setBlock_other hb _ (fun e => hi (by rw [e]))⟩, by simp [setBlock], hm1, fun p => ?_⟩
  constructor
  · intro hp
    refine ⟨hm1.subset hp, fun e => ?_⟩
    have : (encK p.1, encV p.2) ∈ es'.toList.map kvOf := by rw [hm2]; exact List.mem_map.2 ⟨p, hp, rfl⟩
    obtain ⟨x, hx, ex⟩ := List.mem_map.1 this
    exact ((hmem x).1 hx).2 ((congrArg Prod.fst ex).trans (by rw [← e]))
  · rintro ⟨hp, hne⟩
    have : (encK p.1, encV p.2) ∈ es.toList.map kvOf := by rw [he]; exact List.mem_map.2 ⟨p, hp, rfl⟩
    obtain ⟨x, hx, ex⟩ := List.mem_map.1 this
    have hxk : x.key = encK p.1 := congrArg Prod.fst ex
    have hx' : x ∈ es'.toList := (hmem x).2 ⟨hx, fun e => hne (hinj _ _ (hxk.symm.trans e))⟩
    have h2 : (encK p.1, encV p.2) ∈ es'.toList.map kvOf := List.mem_map.2 ⟨x, hx', ex⟩
    rw [hm2] at h2
    obtain ⟨y, hy, ey⟩ := List.mem_map.1 h2
    have hk : y.1 = p.1 := hinj _ _ (congrArg Prod.fst ey)
    have h3 := (getL_some hnd).2 (show (y.1, y.2) ∈ m from hm1.subset hy)
    have h4 := (getL_some hnd).2 (show (p.1, p.2) ∈ m from hp)
    rw [hk, h4] at h3
    injection h3 with h3
    rw [show p = y from Prod.ext hk.symm h3]
    exact hy
end Go.Herb
namespace Go.Proofs.YtchcelodeepjdaaGreatDoor.Vx
open Go.RowKit Go.Shelf Go.Herb

theorem elsU_lit (xs : List Int) {w : World} {g : Nat} {t : TypeId} (hb : w.heap[g]? = some (.cells (xs.map (fun x => Value.int .u64 x)).toArray t (0, 0))) : Els nu 1 w (some ⟨g, 0, none⟩) xs := by
  refine ⟨fun i hi => ⟨g, 0, rfl, lt_of_blk hb, fun j c hj => ?_⟩⟩
  have hj0 : j = 0 := by
    rcases Nat.eq_zero_or_pos j with h | h
    · exact h
    · rw [List.getElem?_eq_none (by simp [nu]; omega)] at hj; cases hj
  subst hj0
  rw [cell_of_blk hb]
  simp [nu] at hj ⊢
  rw [List.getElem?_eq_getElem hi]
  simp [hj]
theorem elsM_lit (xs : List (Nat × Bh)) {w : World} {g : Nat} {t : TypeId} (hb : w.heap[g]? = some (.cells (xs.map (fun x => Value.map (some x.1))).toArray t (0, 0))) : Els mc 1 w (some ⟨g, 0, none⟩) xs := by
  refine ⟨fun i hi => ⟨g, 0, rfl, lt_of_blk hb, fun j c hj => ?_⟩⟩
  have hj0 : j = 0 := by
    rcases Nat.eq_zero_or_pos j with h | h
    · exact h
    · rw [List.getElem?_eq_none (by simp [mc]; omega)] at hj; cases hj
  subst hj0
  rw [cell_of_blk hb]
  simp [mc] at hj ⊢
  rw [List.getElem?_eq_getElem hi]
  exact ⟨_, ⟨_, rfl⟩, hj⟩

/-- What a call that makes vectors answers. -/
def OpPost (r : Int × Vs) (w : World) (e : Ending) (w' : World) : Prop :=
  ∃ v, e = .returned (.tuple #[v, .int .i64 r.1]) ∧ (r.1 = 0 → ∃ p' mb' M', v = .pointer (some ⟨p', 0, none⟩) ∧ VecIs w' p' mb' M' r.2) ∧ (r.1 ≠ 0 → v = .pointer none) ∧ Below w.heap.size w w'
/-- Vectors with at most so many lines, each with so many behind it. -/
structure Small (L : Vs) : Prop where
  len : L.length < 100000
  inn : ∀ p ∈ L, p.2.length < 100000
theorem Small.get {L : Vs} (h : Small L) {k : Int} {b : Bh} (hg : getL L k = some b) : b.length < 100000 := h.inn _ (getL_mem hg)
theorem opErr {r : Int × Vs} {w w' : World} (h : r.1 ≠ 0) (hb : Below w.heap.size w w') : OpPost r w (.returned (.tuple #[.pointer none, .int .i64 r.1])) w' := ⟨_, rfl, fun h0 => absurd h0 h, fun _ => rfl, hb⟩
theorem laid_perm {xs ys : List Bh} (hx : ∀ b ∈ xs, Okm b) (hy : ∀ b ∈ ys, Okm b) (hp : xs.flatten.Perm ys.flatten) : laidB xs = laidB ys :=
  good_ext (laid_good hx) (laid_good hy) (fun k => by rw [g0_laid, g0_laid]; exact supF_perm hp k 0)

theorem needsE_of {L : Vs} {ls : List Int} (h : ∀ x ∈ ls, (getL L x).isSome = true) : needsE L ls = 0 := by unfold needsE; rw [if_pos]; exact List.all_eq_true.2 h
theorem needsE_not {L : Vs} {ls : List Int} {x : Int} (hx : x ∈ ls) (h : getL L x = none) : needsE L ls = 7 := by
  unfold needsE; rw [if_neg]; intro ha
  have := List.all_eq_true.1 ha x hx
  rw [h] at this
  cases this

end Go.Proofs.YtchcelodeepjdaaGreatDoor.Vx

namespace Go.Proofs.YtchcelodeepjdaaGreatDoor.Vx
open Go.RowKit Go.Shelf Go.Herb

/-- A point, a vector as it lies. -/
def pc (q : Int × Int) : List Value := [.int .u64 q.1, .int .u64 q.2]
theorem pc_len (q : Int × Int) : (pc q).length = 2 := rfl
structure Vc where
  line : Int
  a : Option Addr
  c : Nat
  ps : Bh
def vc (x : Vc) : List Value := [.int .u64 x.line, .slice x.a x.ps.length x.c]
theorem vc_len (x : Vc) : (vc x).length = 2 := rfl
abbrev Pts (w : World) (a : Option Addr) (ps : Bh) : Prop := Els pc 2 w a ps
abbrev OwnP (B : Nat) (w : World) (v : Value) (ps : Bh) : Prop := w.ownsRow B (78) 2 v ps.length (ps.flatMap pc)
abbrev OwnV (B : Nat) (w : World) (v : Value) (xs : List Vc) : Prop := w.ownsRow B (76) 2 v xs.length (xs.flatMap vc)

theorem wp_append_run {P : Program} {w : World} {o : Oper} {a : Act} {K : Act → World → Prop} {Q : Exit → Act → World → Prop} (s x : Operand) (t tn : TypeId) (ho : o.op = .call { callee := .builtin .append, args := #[s, x], argTypes := #[t, tn] })
    (vs vx : Value) (hs : a.eval s = vs) (hx : a.eval x = vx) (v' : Value) (w' : World) (hr : (Builtin.append_ #[t, tn] o.type #[vs, vx]).run P w = .ok v' w') (h : K (a.put o.dst v') w') : o.wp P a w K Q := by
  unfold Oper.wp execOp
  simp only [ho, resolve, invoke, builtin, Sem.run_bind, Sem.run_pure, Result.andThen_ok, List.map_toArray, List.map_cons, List.map_nil, hs, hx, hr]
  exact h
theorem step_append_run {P : Program} {w : World} {ops : Array Oper} {o : Oper} {a : Act} {K : Act → World → Prop} {Q : Exit → Act → World → Prop} {E : Prop} (hgd : o.guard = none) (s x : Operand) (t tn : TypeId) (ho : o.op = .call { callee := .builtin .append, args := #[s, x], argTypes := #[t, tn] })
    (vs vx : Value) (hs : a.eval s = vs) (hx : a.eval x = vx) (v' : Value) (w' : World) (hr : (Builtin.append_ #[t, tn] o.type #[vs, vx]).run P w = .ok v' w') (h : K (a.put o.dst v') w') :
    if Region.wanted o (yielded ops a.tmps) = true then Oper.wp P o a w K Q else E := by
  have hw : Region.wanted o (yielded ops a.tmps) = true := by simp [Region.wanted, hgd]
  rw [if_pos hw]
  exact wp_append_run s x t tn ho vs vx hs hx v' w' hr h
theorem infoP : (Tryz.prog.info? (78)).map (fun i => (i.zero, i.size, i.bytes)) = some (some (.agg #[.int .u64 0, .int .u64 0]), 2, 16) := by kernel_rfl
theorem infoV : (Tryz.prog.info? (76)).map (fun i => (i.zero, i.size, i.bytes)) = some (some (.agg #[.int .u64 0, .slice none 0 0]), 2, 32) := by kernel_rfl
theorem run_append_p (w : World) (B : Nat) (v : Value) (ys : Bh) (vb : Nat) (x : Int × Int) (ho : OwnP B w v ys) (hb : w.heap[vb]? = some (.cells #[.int .u64 x.1, .int .u64 x.2] (78) (0, 0))) (hx : ys.length < 1000000) (hB : B ≤ w.heap.size) (ty : TypeId) :
    ∃ v' w', (Builtin.append_ #[(74), (74)] ty #[v, .slice (some ⟨vb, 0, none⟩) 1 1]).run Tryz.prog w = .ok v' w' ∧ OwnP B w' v' (ys ++ [x]) ∧ w.grownBy w' v.ownBlock := by
  obtain ⟨i0, hin, hz0, hz1, hz2⟩ := info_parts infoP
  obtain ⟨v', w', hr, h2, h3, h4⟩ := run_append_own (P := Tryz.prog) w B (74) ty (78) i0 _ 2 16 Tryz.underlying74 hin hz0 hz1 hz2 rfl (by decide) v ys.length (ys.flatMap pc) ho ⟨vb, 0, none⟩ 1 1 (pc x) rfl (fun j u hj => by
      have : ((⟨vb, 0, none⟩ : Addr).add j) = ⟨vb, 0 + j, none⟩ := addr_add _ _ _
      rw [this, Nat.zero_add, cell_of_blk hb]
      simpa [pc] using hj) (by intro v hv; simp [pc] at hv; rcases hv with rfl | rfl <;> rfl) (by unfold maxLen; omega) (by omega) hB
  refine ⟨v', w', hr, ?_, h3⟩
  unfold OwnP
  rw [List.length_append, List.flatMap_append]
  simpa using h2
theorem run_append_v (w : World) (B : Nat) (v : Value) (ys : List Vc) (vb : Nat) (x : Vc) (ho : OwnV B w v ys) (hb : w.heap[vb]? = some (.cells #[.int .u64 x.line, .slice x.a x.ps.length x.c] (76) (0, 0))) (hx : ys.length < 1000000) (hB : B ≤ w.heap.size) (ty : TypeId) :
    ∃ v' w', (Builtin.append_ #[(29), (29)] ty #[v, .slice (some ⟨vb, 0, none⟩) 1 1]).run Tryz.prog w = .ok v' w' ∧ OwnV B w' v' (ys ++ [x]) ∧ w.grownBy w' v.ownBlock ∧ (v'.ownBlock = v.ownBlock ∨ v'.ownBlock = some w.heap.size) := by
  obtain ⟨i0, hin, hz0, hz1, hz2⟩ := info_parts infoV
  obtain ⟨v', w', hr, h2, h3, _, h5⟩ := run_append_own_at (P := Tryz.prog) (w := w) B (29) ty (76) i0 _ 2 32 Tryz.underlying29 hin hz0 hz1 hz2 rfl (by decide) v ys.length (ys.flatMap vc) ho ⟨vb, 0, none⟩ 1 1 (vc x) rfl (fun j u hj => by
      have : ((⟨vb, 0, none⟩ : Addr).add j) = ⟨vb, 0 + j, none⟩ := addr_add _ _ _
      rw [this, Nat.zero_add, cell_of_blk hb]
      simpa [vc] using hj) (by intro v hv; simp [vc] at hv; rcases hv with rfl | rfl <;> rfl) (by unfold maxLen; omega) (by omega) hB
  refine ⟨v', w', hr, ?_, h3, h5⟩
  unfold OwnV
  rw [List.length_append, List.flatMap_append]
  simpa using h2
theorem grown_own {a b c : World} {row r2 : Option Nat} (h : a.grownBy b row) (hg : b.grownBy c r2) (hr : ∀ k, r2 = some k → a.heap.size ≤ k) : a.grownBy c row :=
  ⟨hg.os.trans h.os, hg.tape.trans h.tape, hg.output.trans h.output, Nat.le_trans h.size hg.size, fun i hi hne => (hg.block i (Nat.lt_of_lt_of_le hi h.size) (fun e => by have := hr i e.symm; omega)).trans (h.block i hi hne)⟩
/-- A slice that a call owns: where it lies. -/
theorem own_parts {B e s n : Nat} {w : World} {v : Value} {xs : List Value} (h : w.ownsRow B e s v n xs) : ∃ a cap, v = .slice a n cap ∧ (a = none → n = 0 ∧ cap = 0) ∧ n ≤ cap ∧ cap ≤ maxLen ∧ ∀ ad, a = some ad → B ≤ ad.block ∧ ad.block < w.heap.size := by
  obtain ⟨h1, ⟨rfl, h2⟩ | ⟨g, cap, cur, rfl, hg, hh, hle, hm, _⟩⟩ := h
  · subst h2
    exact ⟨none, 0, rfl, fun _ => ⟨rfl, rfl⟩, Nat.le_refl _, Nat.zero_le _, fun ad h => by cases h⟩
  · exact ⟨some ⟨g, 0, none⟩, cap, rfl, (fun h => by cases h), hle, hm, fun ad h => by cases h; exact ⟨hg, lt_of_blk hh⟩⟩
/-- One line of the answer: its points lie in a block of their own, or there are none. -/
structure VcAt (B : Nat) (w : World) (x : Vc) : Prop where
  own : ∃ cap, OwnP B w (.slice x.a x.ps.length cap) x.ps
  cap : x.c = x.ps.length
theorem VcAt.kept {B : Nat} {w w' : World} {x : Vc} {row : Option Nat} (h : VcAt B w x) (hg : w.grownBy w' row) (hr : ∀ r, row = some r → x.a ≠ some ⟨r, 0, none⟩) : VcAt B w' x := by
  obtain ⟨cap, ho⟩ := h.own
  refine ⟨⟨cap, World.ownsRow.kept ho hg ?_⟩, h.cap⟩
  rcases row_of_owns ho with ⟨h1, _⟩ | ⟨g, cap, h1, _, _⟩
  · rw [h1]; exact .inl rfl
  · refine .inr (fun e => ?_)
    rw [h1] at e
    have h2 : x.a = some ⟨g, 0, none⟩ := by injection h1
    exact hr g e.symm h2
theorem VcAt.below {B : Nat} {w w' : World} {x : Vc} (h : VcAt B w x) (hb : Below w.heap.size w w') : VcAt B w' x := by
  obtain ⟨cap, ho⟩ := h.own
  exact ⟨⟨cap, ownsRow_below ho hb (Nat.le_refl _)⟩, h.cap⟩
theorem VcAt.mono {B B' : Nat} {w : World} {x : Vc} (h : VcAt B w x) (hb : B' ≤ B) : VcAt B' w x := by
  obtain ⟨cap, ho⟩ := h.own
  exact ⟨⟨cap, ownsRow_mono ho hb⟩, h.cap⟩
/-- What All answers. -/
def AllPost (L : Vs) (w : World) (e : Ending) (w' : World) : Prop :=
  ∃ (va : Option Addr) (vcap : Nat) (xs : List Vc), e = .returned (.slice va xs.length xs.length) ∧ xs.map (fun x => (x.line, x.ps)) = L ∧ OwnV w.heap.size w' (.slice va xs.length vcap) xs ∧ (∀ x ∈ xs, VcAt w.heap.size w' x ∧ ∀ r, va = some ⟨r, 0, none⟩ → x.a ≠ some ⟨r, 0, none⟩) ∧ Below w.heap.size w w'
theorem sorted_keys {β : Type} {L : List (Int × β)} (h : SrtK L) {ks : List Int} (hp : ks.Perm (L.map (·.1))) (hs : ks.Pairwise (· ≤ ·)) : ks = L.map (·.1) := by
  refine hp.eq_of_pairwise (fun _ _ _ _ h3 h4 => Int.le_antisymm h3 h4) hs ?_
  rw [List.pairwise_map]
  exact h.imp (fun h => Int.le_of_lt h)

end Go.Proofs.YtchcelodeepjdaaGreatDoor.Vx
