/- Maps whose elements are maps: what views.spoken makes. No condition. -/
import Derived.Test.YtenocakpipppiaaS3
import Derived.Laws.IdiomRangeMap
import Derived.Maps.OwnSet
namespace Go.Proofs.Ytenocakpipppiaa
open Go.RowKit Go.Shelf Go.Herb

/-- What a key is, from a time on: a kind, and a value. -/
abbrev Sd := Int × ByteArray
abbrev eSd (s : Sd) : Value := .agg #[.int .u8 s.1, .string s.2]
abbrev eV (v : Int) : Value := .int .u32 v
abbrev eM (b : Nat) : Value := .map (some b)
abbrev eK (k : ByteArray) : Value := .string k
theorem eV_inj : ∀ a a', eV a = eV a' → a = a' := fun a a' h => by injection h
theorem eK_inj : ∀ a a', eK a = eK a' → a = a' := fun a a' h => by injection h
theorem lawK : Maps.Keyed Try.prog 9 := Maps.string_keyed Try.underlying9
theorem lawV : Maps.Keyed Try.prog 31 := Maps.int_keyed Try.underlying31
theorem keyK (s : ByteArray) (h : s.size ≤ maxLen) : ∃ kl, keyOf Try.prog 9 (.string s) = some kl :=
  ⟨.string s.data.toList, by rw [keyOf_string Try.underlying9]; simp [mapKey, Try.underlying9, h]⟩
theorem zero75 (w : World) : (zeroValue 75).run Try.prog w = .ok (.map none) w := by kernel_rfl
theorem zero77 (w : World) : (zeroValue 77).run Try.prog w = .ok (.agg #[.int .u8 0, .string .empty]) w := by kernel_rfl

abbrev MapV (w : World) (b : Nat) (m : List (Int × Sd)) : Prop := MapIs Try.prog (31) eV eSd w b m
abbrev MapM (w : World) (b : Nat) (m : List (ByteArray × Nat)) : Prop := MapIs Try.prog (9) eK eM w b m

/-- A map of maps: of each key that is there what F says of it. -/
structure Spk (w : World) (mb B : Nat) (M : List (ByteArray × Nat)) (F : ByteArray → List (Int × Sd)) : Prop where
  out : MapM w mb M
  inn : ∀ p ∈ M, MapV w p.2 (F p.1)
  lo : B ≤ mb
  low : ∀ p ∈ M, B ≤ p.2 ∧ p.2 ≠ mb
  inj : ∀ p ∈ M, ∀ q ∈ M, p.2 = q.2 → p = q

theorem Spk.same {w w' : World} {mb B : Nat} {M : List (ByteArray × Nat)} {F : ByteArray → List (Int × Sd)} (h : Spk w mb B M F) (hb : ∀ b, b < w.heap.size → w'.heap[b]? = w.heap[b]?) : Spk w' mb B M F :=
  ⟨h.out.same (hb _ h.out.lt), fun p hp => (h.inn p hp).same (hb _ (h.inn p hp).lt), h.lo, h.low, h.inj⟩
theorem Spk.below {w w' : World} {mb B : Nat} {M : List (ByteArray × Nat)} {F : ByteArray → List (Int × Sd)} (h : Spk w mb B M F) (hb : Below w.heap.size w w') : Spk w' mb B M F := h.same (fun b hl => hb.block b hl)

/-- A key more, whose map is new. -/
theorem Spk.more {w w1 w2 : World} {mb B : Nat} {M : List (ByteArray × Nat)} {F : ByteArray → List (Int × Sd)} (h : Spk w mb B M F) {k : ByteArray} {nb : Nat} (hk : k ∉ M.map (·.1)) (hF : F k = []) (hB : B ≤ w.heap.size) (hnb : w.heap.size ≤ nb)
    (hb : Below w.heap.size w w1) (hn : MapV w1 nb []) (hM : MapM w2 mb (putL M k nb)) (hg : w1.grownBy w2 (some mb)) : Spk w2 mb B (putL M k nb) F := by
  have hmbl := h.out.lt
  have hput : putL M k nb = M ++ [(k, nb)] := by unfold putL; rw [if_neg hk]
  have hne : ∀ b, b < w1.heap.size → b ≠ mb → w2.heap[b]? = w1.heap[b]? := fun b hl hn => hg.block b hl (fun e => hn (by cases e; rfl))
  have hold : ∀ p ∈ M, p.2 < w.heap.size := fun p hp => (h.inn p hp).lt
  rw [hput] at hM ⊢
  refine ⟨hM, ?_, h.lo, ?_, ?_⟩
  · intro p hp
    rcases List.mem_append.1 hp with hp | hp
    · have hl := hold p hp
      exact ((h.inn p hp).same (hb.block _ hl)).same (hne _ (Nat.lt_of_lt_of_le hl hb.size) (h.low p hp).2)
    · rw [List.mem_singleton.1 hp]
      simp only [hF]
      exact hn.same (hne _ hn.lt (by omega))
  · intro p hp
    rcases List.mem_append.1 hp with hp | hp
    · exact h.low p hp
    · rw [List.mem_singleton.1 hp]; exact ⟨by simp only; omega, by simp only; omega⟩
  · intro p hp q hq e
    rcases List.mem_append.1 hp with hp | hp <;> rcases List.mem_append.1 hq with hq | hq
    · exact h.inj p hp q hq e
    · rw [List.mem_singleton.1 hq] at e; have := hold p hp; simp only at e; omega
    · rw [List.mem_singleton.1 hp] at e; have := hold q hq; simp only at e; omega
    · rw [List.mem_singleton.1 hp, List.mem_singleton.1 hq]

/-- What is said of a key, put in. -/
theorem Spk.put {w w2 : World} {mb B : Nat} {M : List (ByteArray × Nat)} {F F' : ByteArray → List (Int × Sd)} (h : Spk w mb B M F) {k : ByteArray} {b : Nat} (hk : (k, b) ∈ M) (hF : ∀ k', k' ≠ k → F' k' = F k')
    (hM : MapV w2 b (F' k)) (hg : w.grownBy w2 (some b)) : Spk w2 mb B M F' := by
  have hne : ∀ c, c < w.heap.size → c ≠ b → w2.heap[c]? = w.heap[c]? := fun c hl hn => hg.block c hl (fun e => hn (by cases e; rfl))
  have hbm := (h.low _ hk).2
  refine ⟨h.out.same (hne _ h.out.lt (fun e => hbm e.symm)), ?_, h.lo, h.low, h.inj⟩
  intro p hp
  by_cases e : p.2 = b
  · have := h.inj p hp (k, b) hk e
    rw [this]
    exact hM
  · have hpk : p.1 ≠ k := by
      intro e2
      have hn := h.out.nodup
      have h1 := (getL_some hn).2 (show (p.1, p.2) ∈ M from hp)
      have h2 := (getL_some hn).2 hk
      rw [e2, h2] at h1
      injection h1 with h1
      exact e h1.symm
    rw [hF _ hpk]
    exact (h.inn p hp).same (hne _ (h.inn p hp).lt e)

/-- One fact more of a key. -/
def insV (l : List (Int × Sd)) (x : Fc) : List (Int × Sd) := if x.valid ∈ l.map (·.1) then l else putL l x.valid (x.kind, x.val)
def innL (k : ByteArray) (xs : List Fc) : List (Int × Sd) := xs.foldl (fun l x => if x.key.toList = k.toList then insV l x else l) []
theorem innL_succ (k : ByteArray) (xs : List Fc) (i : Nat) (h : i < xs.length) : innL k (xs.take (i + 1)) = if xs[i].key.toList = k.toList then insV (innL k (xs.take i)) xs[i] else innL k (xs.take i) := by
  unfold innL
  rw [List.take_succ_eq_append_getElem h, List.foldl_append]
  rfl
theorem insV_len (l : List (Int × Sd)) (x : Fc) : (insV l x).length ≤ l.length + 1 := by
  unfold insV
  split
  · omega
  · exact putL_length _ _ _
theorem innL_len (k : ByteArray) (xs : List Fc) : (innL k xs).length ≤ xs.length := by
  unfold innL
  suffices h : ∀ l : List (Int × Sd), (xs.foldl (fun l x => if x.key.toList = k.toList then insV l x else l) l).length ≤ l.length + xs.length by
    have := h []; simpa using this
  induction xs with
  | nil => intro l; simp
  | cons x xs ih =>
    intro l
    rw [List.foldl_cons, List.length_cons]
    split
    · have := ih (insV l x); have := insV_len l x; omega
    · have := ih l; omega
theorem innL_none {k : ByteArray} {xs : List Fc} (h : ∀ x ∈ xs, x.key.toList ≠ k.toList) : innL k xs = [] := by
  unfold innL
  suffices g : ∀ l : List (Int × Sd), xs.foldl (fun l x => if x.key.toList = k.toList then insV l x else l) l = l from g []
  induction xs with
  | nil => intro l; rfl
  | cons x xs ih =>
    intro l
    rw [List.foldl_cons, if_neg (h x (by simp))]
    exact ih (fun y hy => h y (by simp [hy])) l
theorem insV_nodup {l : List (Int × Sd)} (h : (l.map (·.1)).Nodup) (x : Fc) : ((insV l x).map (·.1)).Nodup := by
  unfold insV
  split
  · exact h
  · exact putL_nodup h _ _
theorem innL_nodup (k : ByteArray) (xs : List Fc) : ((innL k xs).map (·.1)).Nodup := by
  unfold innL
  suffices g : ∀ l : List (Int × Sd), (l.map (·.1)).Nodup → ((xs.foldl (fun l x => if x.key.toList = k.toList then insV l x else l) l).map (·.1)).Nodup from g [] (by simp)
  induction xs with
  | nil => intro l h; exact h
  | cons x xs ih =>
    intro l h
    rw [List.foldl_cons]
    split
    · exact ih _ (insV_nodup h x)
    · exact ih _ h

/-- What views.spoken has made of facts. -/
def Spoken (w : World) (mb B : Nat) (xs : List Fc) : Prop := ∃ M, Spk w mb B M (fun k => innL k xs) ∧ ∀ k, k ∈ M.map (·.1) ↔ ∃ x ∈ xs, x.key = k

/-- The value of 'x[k]'. -/
def InnV (w : World) (v : Value) (l : List (Int × Sd)) : Prop := (v = .map none ∧ l = []) ∨ ∃ b, v = .map (some b) ∧ MapV w b l
end Go.Proofs.Ytenocakpipppiaa
