/- slices.Sort and slices.Compact at strings that a call owns. Condition: fewer than 1000000 strings. -/
import Derived.Test.YtenocakpipppiaaS1
import Derived.Test.YtenocakpipppiaaShl
namespace Go.Proofs.Ytenocakpipppiaa
open Go.RowKit Go.Shelf Go.Herb Go.Sort Go.Lib Go.Proofs

theorem sortStr_any (B : Nat) (v : Value) (ss : List Str) (w : World) (ho : OwnS B w v ss) (hlen : ss.length < 1000000) :
    Calls Try.prog 47 #[v] w fun e w' => e = .returned (.tuple #[]) ∧ OwnS B w' v (sortS ss) ∧ w.grownBy w' v.ownBlock := by
  rcases ho with ⟨hl, ⟨rfl, hn⟩ | ⟨g, cap, cur, rfl, hbase, hb, h1, h2, h3, h4⟩⟩
  · have hss : ss = [] := List.length_eq_zero_iff.1 hn
    subst hss
    refine (Try.slices_Sort_string_none none 0 w).mono ?_
    rintro e w' ⟨rfl, rfl⟩
    exact ⟨rfl, by simpa [sortS, OwnS] using World.ownsRow_nil _ _ _ _, grown_refl _ _⟩
  · refine (Try.slices_Sort_string g 0 cap ss w (holds_of_block hb (by simpa using h4)) (lt_of_blk hb) (by omega)).mono ?_
    rintro e w' ⟨rfl, n, os, rfl⟩
    refine ⟨rfl, ?_, grownBy_sorted _⟩
    unfold OwnS
    rw [sortS_len]
    exact ownsRow_sorted (sortS_len ss) hbase hb h1 h2 h3

theorem compactStr_any (B : Nat) (v : Value) (ss : List Str) (w : World) (ho : OwnS B w v ss) (hlen : ss.length < 1000000) :
    Calls Try.prog 48 #[v] w fun e w' => ∃ v', e = .returned v' ∧ OwnS B w' v' (compact ss) ∧ w.grownBy w' v.ownBlock := by
  rcases ho with ⟨hl, ⟨rfl, hn⟩ | ⟨g, cap, cur, rfl, hbase, hb, h1, h2, h3, h4⟩⟩
  · have hss : ss = [] := List.length_eq_zero_iff.1 hn
    subst hss
    refine (Try.slices_Compact_string_empty none 0 w).mono ?_
    rintro e w' ⟨rfl, rfl⟩
    exact ⟨_, rfl, World.ownsRow_nil _ _ _ _, grown_refl _ _⟩
  · refine (Try.slices_Compact_string g 0 cap ss w (holds_of_block hb (by simpa using h4)) (by omega) h1).mono ?_
    rintro e w' ⟨rfl, q, rfl⟩
    have hg := grownBy_sorted (w := w) (g := g) (n := q) (os := #[]) (compact ss ++ List.replicate (ss.length - (compact ss).length) []).toArray
    have hw : grow (putRow encStr (Sort.ahead w q) g 0 (compact ss ++ List.replicate (ss.length - (compact ss).length) []).toArray) #[] = putRow encStr (Sort.ahead w q) g 0 (compact ss ++ List.replicate (ss.length - (compact ss).length) []).toArray := by
      show World.mk _ _ _ _ _ = _
      simp only [Array.append_empty]
    have hcl := compact_length_le ss
    have hlen2 : (compact ss ++ List.replicate (ss.length - (compact ss).length) []).length = ss.length := by simp; omega
    have ho2 := ownsRow_sorted (w := w) (base := B) (g := g) (cap := cap) (n := q) (e := 9) (os := #[]) (cur := cur) (ss := ss) (ts := compact ss ++ List.replicate (ss.length - (compact ss).length) []) hlen2 hbase hb h1 h2 h3
    rw [hw] at hg ho2
    refine ⟨_, rfl, ?_, hg⟩
    obtain ⟨hl2, ⟨hx, _⟩ | ⟨g', cap', cur', hv, hb', hh', hle', hm', hsz', htk'⟩⟩ := ho2
    · cases hx
    · injection hv with e1 e2 e3
      injection e1 with e1
      injection e1 with e1
      subst e1 e3
      refine ⟨by simp, .inr ⟨g, cap, cur', rfl, hb', hh', by omega, hm', hsz', ?_⟩⟩
      rw [Nat.mul_one] at htk' ⊢
      have : cur'.toList.take (compact ss).length = (cur'.toList.take ss.length).take (compact ss).length := by
        rw [List.take_take, Nat.min_eq_left hcl]
      rw [this, htk', List.map_append, List.take_append_of_le_length (by simp), List.take_of_length_le (by simp)]
end Go.Proofs.Ytenocakpipppiaa
