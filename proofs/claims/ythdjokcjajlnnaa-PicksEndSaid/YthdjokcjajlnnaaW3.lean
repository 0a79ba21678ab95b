import Derived.Test.YthdjokcjajlnnaaW2
namespace Go.Proofs.Ythdjokcjajlnnaa
open Go.RowKit Go.Herb

theorem tc_flat_one (xs : List T) : ∀ u ∈ xs.flatMap tc, u.oneCell' = true := by
  intro u hu
  obtain ⟨x, _, hx⟩ := List.mem_flatMap.1 hu
  exact tc_one x u hx

set_option maxHeartbeats 400000 in
theorem clone_any (a : Option Addr) (cap : Nat) (xs : List T) (w : World) (hx : Tabs w a xs) (hl : xs.length < 1000000) (hn : a = none → cap = 0) :
    Calls Try.prog 19 #[.slice a xs.length cap] w fun e w' => ∃ v, e = .returned v ∧ w'.ownsRow w.heap.size 45 4 v xs.length (xs.flatMap tc) ∧ Below w.heap.size w w' := by
  obtain ⟨i0, hi, hz0, hz1, hz2⟩ := info_parts Try.info45
  have hqn := @Lib.run_eql_slice_nil Try.prog
  cases a with
  | none =>
    have h0 : xs = [] := by
      cases xs with
      | nil => rfl
      | cons x xs => obtain ⟨b, o, h, _⟩ := hx.get 0 (by simp); cases h
    subst h0
    clear hx hn
    go_enter Try.func19, Try.ntmps19
    go_wp2
    go_ret
    exact ⟨_, rfl, World.ownsRow_nil _ _ _ _, Below.refl _ _⟩
  | some ad =>
    have hfl := Els.flat hx tc_len (by decide)
    have HF := Lib.hid hfl
    clear hn hx hfl
    go_enter Try.func19, Try.ntmps19
    go_wp2_with ((at_builtin; refine wpList_append_own _ rfl _ _ 23 rfl w.heap.size 45 i0 _ 4 48 Try.underlying23 hi hz0 hz1 hz2 rfl (by decide) _ _ _ rfl (World.ownsRow_made w #[] 0 (Nat.le_refl _) (by decide) rfl) ad xs.length cap (xs.flatMap tc) rfl (flatMap_len tc_len xs) ?c1 ?c2 ?c3 ?c4 ?c5 ?_))
    case c1 => exact fun j u hu => cell_past (HF.out j u hu)
    case c2 => exact tc_flat_one xs
    case c3 => unfold maxLen; omega
    case c4 => omega
    case c5 => simp
    intro v' w2 hO2 hg _
    have hB2 : Below w.heap.size w w2 := ((Below.refl _ _).alloc (Nat.le_refl _) _).grown hg (by simp) (fun k hk => by simp [Value.ownBlock] at hk; omega)
    clear hg HF
    go_wp2
    go_ret
    exact ⟨_, rfl, by simpa using hO2, hB2⟩
end Go.Proofs.Ythdjokcjajlnnaa
