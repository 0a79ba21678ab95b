/- Plain facts for views.Diff; lookups in maps of maps. No condition. -/
import Derived.Test.YtenocakpipppiaaM2
import Derived.Test.YtenocakpipppiaaS6
namespace Go.Proofs.Ytenocakpipppiaa
open Go.RowKit Go.Shelf Go.Herb

/-- Is one list of what a key is the same as another one? -/
def sameB (l m : List (Int × Sd)) : Bool := decide (l.length = m.length) && l.all (fun p => decide (getL m p.1 = some p.2))
def sameK (xs ys : List Fc) (k : Str) : Bool := sameB (innL ⟨k.toArray⟩ xs) (innL ⟨k.toArray⟩ ys)
def diffOf (xs ys : List Fc) (ks : List Str) : List Str := ks.filter (fun k => !sameK xs ys k)
def diffL (xs ys : List Fc) : List Str := diffOf xs ys (namedL (keysOf xs ++ keysOf ys))
theorem diffOf_succ (xs ys : List Fc) (ks : List Str) (i : Nat) (h : i < ks.length) : diffOf xs ys (ks.take (i + 1)) = diffOf xs ys (ks.take i) ++ if sameK xs ys ks[i] then [] else [ks[i]] := by
  unfold diffOf
  rw [List.take_succ_eq_append_getElem h, List.filter_append]
  congr 1
  cases hs : sameK xs ys ks[i] <;> simp [hs]

theorem Spoken.below {w w' : World} {mb B : Nat} {xs : List Fc} (h : Spoken w mb B xs) (hb : Below w.heap.size w w') : Spoken w' mb B xs := by
  obtain ⟨M, hS, hK⟩ := h
  exact ⟨M, hS.below hb, hK⟩

theorem InnV.below {w w' : World} {v : Value} {l : List (Int × Sd)} (h : InnV w v l) (hb : Below w.heap.size w w') : InnV w' v l := by
  rcases h with ⟨h1, h2⟩ | ⟨b, h1, h2⟩
  · exact .inl ⟨h1, h2⟩
  · exact .inr ⟨b, h1, h2.same (hb.block _ h2.lt)⟩

/-- 'x[k]'. -/
theorem Spoken.look {w : World} {mb B : Nat} {xs : List Fc} (h : Spoken w mb B xs) (k : ByteArray) (hk : k.size ≤ maxLen) : ∃ v, InnV w v (innL k xs) ∧ ∀ w', Below w.heap.size w w' → (Instr.lookup (73) (.map (some mb)) (.string k) false).run Try.prog w' = .ok v w' := by
  obtain ⟨M, hS, hK⟩ := h
  obtain ⟨kl, hkl⟩ := keyK k hk
  cases hg : getL M k with
  | none =>
    refine ⟨.map none, .inl ⟨rfl, innL_none (fun x hx e => ?_)⟩, fun w' hb => ?_⟩
    · exact (getL_none.1 hg) ((hK k).2 ⟨x, hx, bytes_ext e⟩)
    · have := ((hS.below hb).out.look lawK eK_inj Try.underlying73 (zero75 _) hkl).1
      rw [hg] at this
      exact this
  | some b =>
    have hin : (k, b) ∈ M := (getL_some hS.out.nodup).1 hg
    refine ⟨.map (some b), .inr ⟨b, rfl, hS.inn _ hin⟩, fun w' hb => ?_⟩
    have := ((hS.below hb).out.look lawK eK_inj Try.underlying73 (zero75 _) hkl).1
    rw [hg] at this
    exact this

theorem InnV.len {w : World} {v : Value} {l : List (Int × Sd)} (h : InnV w v l) : (Builtin.len_ #[75] (3) #[v]).run Try.prog w = .ok (.int .i64 l.length) w := by
  rcases h with ⟨rfl, rfl⟩ | ⟨b, rfl, h⟩
  · rw [run_len_nilMap w (75) (3) (by kernel_rfl)]
    rfl
  · obtain ⟨es, c, hb, _, he⟩ := h.blk
    rw [run_len_map w (75) (3) b es c (by kernel_rfl) hb]
    have : es.size = l.length := by
      have := congrArg List.length he
      simpa using this
    rw [this]
    rfl

def tupV (o : Option Sd) : Value := match o with | some sd => .tuple #[eSd sd, .bool true] | none => .tuple #[.agg #[.int .u8 0, .string .empty], .bool false]
theorem InnV.look {w : World} {v : Value} {l : List (Int × Sd)} (h : InnV w v l) (t : Int) (ht : (Lit.int .u32 t).wf = true) : (Instr.lookup (75) v (.int .u32 t) true).run Try.prog w = .ok (tupV (getL l t)) w := by
  have hvl : keyOf Try.prog (31) (eV t) = some _ := Maps.keyOf_int_mk Try.underlying31 ht
  rcases h with ⟨rfl, rfl⟩ | ⟨b, rfl, h⟩
  · have := Maps.look_nil (P := Try.prog) (w := w) true lawV Try.underlying75 (zero77 w) hvl
    rw [getL_nil]
    exact this
  · have := (h.look lawV eV_inj Try.underlying75 (zero77 w) hvl).2
    rw [this]
    cases getL l t <;> rfl

theorem run_eqlS (s t : Sd) (w : World) : (binOp .eql (77) (.agg #[.int .u8 s.1, .string s.2]) (.agg #[.int .u8 t.1, .string t.2])).run Try.prog w = .ok (.bool (decide (s = t))) w := by
  have hS : Try.prog.underlying 77 = some (.struct (Try.prog.fieldsOf 77)) := by kernel_rfl
  have hp : Try.prog.stoodInHeld 77 = false := by kernel_rfl
  rw [run_eql_struct, show (10000 : Nat) = 9999 + 1 from rfl, run_equalIn_agg w 9999 (77) _ _ hS hp]
  simp only [Program.fieldsOf, Try.underlying77]
  have u9 := Try.underlying9
  have u32 := Try.underlying32
  go_simp
  have hb : ∀ a b : ByteArray, (a.toList = b.toList) ↔ a = b := fun a b => ⟨bytes_ext, fun e => by rw [e]⟩
  by_cases h1 : s.1 = t.1 <;> by_cases h2 : s.2.toList = t.2.toList <;> simp [h1, h2, Prod.ext_iff, ← hb]
theorem guardS : Try.prog.eqGuardType Try.prog.depth 77 = false := by kernel_rfl

theorem innL_wf {k : ByteArray} {xs : List Fc} : ∀ p ∈ innL k xs, (Lit.int .u32 p.1).wf = true := by
  unfold innL
  suffices g : ∀ l : List (Int × Sd), (∀ p ∈ l, (Lit.int .u32 p.1).wf = true) → ∀ p ∈ xs.foldl (fun l x => if x.key.toList = k.toList then insV l x else l) l, (Lit.int .u32 p.1).wf = true from g [] (by simp)
  induction xs with
  | nil => intro l h; exact h
  | cons x xs ih =>
    intro l h
    rw [List.foldl_cons]
    split
    · apply ih
      intro p hp
      unfold insV at hp
      split at hp
      · exact h p hp
      · rename_i hno
        unfold putL at hp
        rw [if_neg hno] at hp
        rcases List.mem_append.1 hp with hp | hp
        · exact h p hp
        · rw [List.mem_singleton.1 hp]; exact x.wv
    · exact ih l h

theorem all_perm {l done : List (Int × Sd)} {f : Int × Sd → Bool} (h : l.Perm done) : done.all f = l.all f := by
  rw [Bool.eq_iff_iff, List.all_eq_true, List.all_eq_true]
  exact ⟨fun g x hx => g x (h.mem_iff.1 hx), fun g x hx => g x (h.mem_iff.2 hx)⟩
end Go.Proofs.Ytenocakpipppiaa
