/- LinesFork: its walk. No condition. -/
import Derived.Test.YtacibennmcegfaaDoorLS4a
import Derived.Test.YtacibennmcegfaaDoorLS3
import Derived.Test.YtacibennmcegfaaDoorLQ1
import Derived.Test.YtacibennmcegfaaDoorLQ4
namespace Go.Herb
theorem srtB_uniq {bs : List Br} (h : SrtB bs) {i j : Nat} {x y : Br} (hx : bs[i]? = some x) (hy : bs[j]? = some y) (e : x.1 = y.1) : i = j := by
  obtain ⟨hi, rfl⟩ := List.getElem?_eq_some_iff.1 hx
  obtain ⟨hj, rfl⟩ := List.getElem?_eq_some_iff.1 hy
  have hp := List.pairwise_iff_getElem.1 h
  rcases Nat.lt_trichotomy i j with hl | hl | hl
  · have := hp i j hi hj hl
    rw [e] at this
    exact absurd this (List.lt_irrefl _)
  · exact hl
  · have := hp j i hj hi hl
    rw [e] at this
    exact absurd this (List.lt_irrefl _)
theorem ins_at {α : Type} {bs : List α} {i : Nat} (y : α) (hi : i ≤ bs.length) : (bs.take i ++ y :: bs.drop i)[i]? = some y := by
  have hl : (bs.take i).length = i := by rw [List.length_take]; omega
  rw [List.getElem?_append_right (by omega), hl, Nat.sub_self]
  rfl
theorem ins_del {bs : List Br} {i j : Nat} {y z : Br} (hi : i ≤ bs.length) (hs : SrtB (bs.take i ++ y :: bs.drop i)) (hz : (bs.take i ++ y :: bs.drop i)[j]? = some z) (e : z.1 = y.1) : z = y ∧ (bs.take i ++ y :: bs.drop i).take j ++ (bs.take i ++ y :: bs.drop i).drop (j + 1) = bs := by
  have hij := srtB_uniq hs hz (ins_at y hi) e
  subst hij
  have hl : (bs.take j).length = j := by rw [List.length_take]; omega
  refine ⟨Option.some.inj (hz.symm.trans (ins_at y hi)), ?_⟩
  rw [List.take_append_of_le_length (by omega), List.take_of_length_le (by omega), List.drop_append, hl, List.drop_eq_nil_of_le (by omega), Nat.add_sub_cancel_left]
  simp
theorem chain_cons (l : List Ln) (n : Nat) (line p : Int) (h : parL l line = some p) : ∃ rest, ∀ a, chainF l (n + 1) line a = (line, a) :: rest :=
  ⟨if line = 0 then [] else chainF l n p line, fun a => by rw [chainF_succ, h]⟩
end Go.Herb
namespace Go.Proofs.YtacibennmcegfaaDoor
open Go.RowKit Go.Shelf Go.Herb
theorem blk_new_below {w u : World} {t : TypeId} {cs : Array Value} (h : Below (w.alloc (.cells cs t)).drew.heap.size (w.alloc (.cells cs t)).drew u) : u.heap[w.heap.size]? = some (.cells cs t (0, 0)) := blk_below (blk_drew (blk_new_at rfl _)) h (lt_of_blk (blk_drew (blk_new_at rfl _)))
/-- Of a fork: what is known of both trees. -/
structure ForkedOk (bs : List Br) (ls : List Ln) (xa : ByteArray) (N : Int) (i : Nat) (old : Br) (rest : List (Int × Int)) : Prop where
  le : i ≤ bs.length
  srt : SrtB (bs.take i ++ (xa, N, old.2.2) :: bs.drop i)
  form : FormedL (ls ++ [(N, old.2.1)])
  c1 : chainF ls ls.length old.2.1 18446744073709551615 = (old.2.1, 18446744073709551615) :: rest
  c2 : chainF (ls ++ [(N, old.2.1)]) (ls ++ [(N, old.2.1)]).length N 18446744073709551615 = (N, 18446744073709551615) :: (old.2.1, N) :: rest
  short : rest.length < 48
theorem forkedOk {bs : List Br} {ls : List Ln} {xa xb : ByteArray} {N : Int} {i : Nat} {old : Br} (g : GoodT bs ls) (h : ForkOk bs ls xa xb N) (hold : old ∈ bs) (hp : PlaceB bs xa i) : ∃ rest, ForkedOk bs ls xa N i old rest := by
  obtain ⟨q, hq⟩ := g.named.lines old hold
  obtain ⟨m, hm⟩ : ∃ m, ls.length = m + 1 := ⟨ls.length - 1, by have := g.l1; omega⟩
  obtain ⟨rest, hr⟩ := chain_cons ls m old.2.1 q hq
  have h0 : 0 < N := h.rise (0, 0) (List.mem_of_getElem? g.formed.first)
  have hc := fork_chain g.formed h.rise h0 hq 18446744073709551615
  rw [← hm] at hr
  refine ⟨rest, hp.le, hp.srt g.named.srt _ _, g.formed.snoc h.rise ⟨q, hq⟩, hr _, by rw [hc, hr], ?_⟩
  have h1 := chain_len (ls := ls) ls.length old.2.1 18446744073709551615
  rw [hr, List.length_cons] at h1
  have := g.nl
  omega
set_option maxRecDepth 100000 in
set_option maxHeartbeats 2000000 in
theorem lawFork_any (ba : Option Addr) (bc : Nat) (bs : List Br) (la : Option Addr) (lc : Nat) (ls : List Ln) (k : Int) (xa xb : ByteArray) (N : Int) (ad : Option Addr) (an ac : Nat) (w : World) (sB : SIn brc 3 (fun q : Br => q.1.size ≤ maxLen ∧ U64 q.2.1 ∧ U64 q.2.2) w ba bc bs) (sL : SIn lnc 2 (fun q : Ln => U64 q.1 ∧ U64 q.2) w la lc ls) (hxa : xa.size ≤ maxLen) (_ : xb.size ≤ maxLen) (_ : U64 N) :
    Calls Tryd.prog (5) #[.agg #[.slice ba bs.length bc, .slice la ls.length lc], .agg #[.int .u8 k, .string xa, .string xb, .int .u64 N, .slice ad an ac]] w fun e w' => e = .returned (.bool true) ∧ Below w.heap.size w w' := by
  obtain ⟨nb, hnb⟩ : ∃ nb, nb = bs.length := ⟨_, rfl⟩
  obtain ⟨n, hn⟩ : ∃ n, n = ls.length := ⟨_, rfl⟩
  rw [← hnb, ← hn]
  obtain ⟨W, hW⟩ : ∃ W : World, W = (w.alloc (.cells #[.slice ba nb bc, .slice la n lc] (25))).alloc (.cells #[.int .u8 k, .string xa, .string xb, .int .u64 N, .slice ad an ac] (48)) := ⟨_, rfl⟩
  have hB : Below w.heap.size w W := by rw [hW]; exact balc (balc (Below.refl _ _))
  have hx0 : W.heap[w.heap.size]? = some (.cells #[.slice ba nb bc, .slice la n lc] (25) (0, 0)) := by rw [hW]; exact blk_alloc (blk_new_at rfl _)
  have hx1 : W.heap[w.heap.size + 1]? = some (.cells #[.int .u8 k, .string xa, .string xb, .int .u64 N, .slice ad an ac] (48) (0, 0)) := by rw [hW]; exact blk_new_at (by simp) _
  have HC : Hid (∀ u, Below W.heap.size W u → u.cell? ⟨w.heap.size, 0, none⟩ = some (.slice ba nb bc) ∧ u.cell? ⟨w.heap.size, 1, none⟩ = some (.slice la n lc) ∧ u.cell? ⟨w.heap.size + 1, 1, none⟩ = some (.string xa) ∧ u.cell? ⟨w.heap.size + 1, 2, none⟩ = some (.string xb) ∧ u.cell? ⟨w.heap.size + 1, 3, none⟩ = some (.int .u64 N)) := Lib.hid (fun u hu => by
    have h0 := cell_of_blk (blk_below hx0 hu (lt_of_blk hx0)) 0
    have h1 := cell_of_blk (blk_below hx0 hu (lt_of_blk hx0)) 1
    have h2 := cell_of_blk (blk_below hx1 hu (lt_of_blk hx1)) 1
    have h3 := cell_of_blk (blk_below hx1 hu (lt_of_blk hx1)) 2
    have h4 := cell_of_blk (blk_below hx1 hu (lt_of_blk hx1)) 3
    simp at h0 h1 h2 h3 h4
    exact ⟨h0, h1, h2, h3, h4⟩)
  have HOF := Lib.hid (fun (u : World) (hu : Below W.heap.size W u) (h1 : nb ≤ 100) (h2 : n ≤ 100) => of_any ba bc nb la lc n bs ls u (sB.els.ext (hB.trans (hu.mono hB.size))) hnb.symm (sL.els.ext (hB.trans (hu.mono hB.size))) hn.symm (by rw [hn]; exact sL.le) sL.max h1 h2 (fun x hx => (sB.all x hx).2.1) (fun x hx => by have := (sB.all x hx).1; unfold maxLen at this; omega))
  have HBS := Lib.hid (fun (u : World) (hu : Below W.heap.size W u) => sB.els.ext (hB.trans (hu.mono hB.size)))
  have HXA := Lib.hid (show xa.size ≤ 9223372036854775807 from by unfold maxLen at hxa; omega)
  have HNB := Lib.hid hnb
  have HB := Lib.hid hB
  have HW := Lib.hid hW
  have HN := Lib.hid hn
  clear hB hx0 hx1 sB sL hnb hn hW hxa
  go_enter Tryd.func5, Tryd.ntmps5
  go_upto_region 1 with fail
  rw [← HW.out]
  obtain ⟨c0, c1, -⟩ := HC.out W (Below.refl _ _)
  go_wp2_with fail
  refine (great_any ba la none nb bc n lc 0 0 W).mono ?_
  rintro e w1 ⟨r, rfl, hr, hB1⟩
  clear c0 c1
  obtain ⟨c0, c1, -⟩ := HC.out w1 hB1
  cases r with
  | true =>
    have HB1 := Lib.hid (HB.out.trans (hB1.mono HB.out.size))
    clear hr HOF hB1
    go_wp2_with (go_at_call 9; refine (lives_any _).mono ?_; rintro e w9 ⟨rfl, hb9⟩)
    go_ret
    exact ⟨rfl, HB1.out.trans (hb9.mono HB1.out.size)⟩
  | false =>
  obtain ⟨g1, g2⟩ := hr rfl
  have HO := Lib.hid (HOF.out w1 hB1 g1 g2)
  have HBW := Lib.hid hB1
  have HG2 := Lib.hid g2
  clear hr HOF hB1 g1 g2
  go_wp2_with fail
  refine HO.out.mono ?_
  clear HO c0 c1
  rintro e w2 ⟨⟨-, rfl⟩ | ⟨hG, p, rfl, ht⟩, hB2⟩
  · have HB2 := Lib.hid (HB.out.trans ((HBW.out.trans (hB2.mono HBW.out.size)).mono HB.out.size))
    clear hB2
    go_wp2_with (go_at_call 9; refine (lives_any _).mono ?_; rintro e w9 ⟨rfl, hb9⟩)
    go_ret
    exact ⟨rfl, HB2.out.trans (hb9.mono HB2.out.size)⟩
  have HG := Lib.hid hG
  have HT := Lib.hid ht
  have HBW2 := Lib.hid (HBW.out.trans (hB2.mono HBW.out.size))
  have HL := Lib.hid (show 0 < bs.length ∧ bs.length ≤ 12 ∧ 0 < ls.length ∧ ls.length ≤ 48 from ⟨hG.b1, hG.b12, hG.l1, hG.nl⟩)
  clear hG ht hB2 HBW
  obtain ⟨-, -, d1, d2, d3⟩ := HC.out w2 HBW2.out
  go_wp2_with fail
  refine (fork_any p xa xb N w2 HT.out HG.out.named.srt HG.out.formed.srt HL.out.1 (by have := HL.out; omega) HL.out.2.2.1 (by have := HL.out; omega) HXA.out).mono ?_
  rintro e w3 ⟨⟨-, er, her, rfl⟩ | ⟨hok, p2, i, old, rfl, hold, hob, hpl, ht2⟩, hB3⟩
  · have HB3 := Lib.hid (HB.out.trans ((HBW2.out.trans (hB3.mono HBW2.out.size)).mono HB.out.size))
    have q1 : (er == 0) = false := beq_eq_false_iff_ne.2 her
    clear hB3 her d1 d2 d3
    go_wp2_with (go_at_call 9; refine (lives_any _).mono ?_; rintro e w9 ⟨rfl, hb9⟩)
    go_ret
    exact ⟨rfl, HB3.out.trans (hb9.mono HB3.out.size)⟩
  obtain ⟨rest, hfk⟩ := forkedOk HG.out hok hold hpl
  have HFK := Lib.hid hfk
  have HOLD := Lib.hid (show old ∈ bs ∧ old.1 = xb from ⟨hold, hob⟩)
  have HT2 := Lib.hid ht2
  have HB3 := Lib.hid hB3
  have HBW3 := Lib.hid (HBW2.out.trans (hB3.mono HBW2.out.size))
  clear hok hold hob hpl ht2 hB3 hfk d1 d2 d3
  have HFB : Hid (Calls Tryd.prog 17 #[.pointer (some ⟨p, 0, none⟩), .string xb] w3 fun e w' => e = .returned (.tuple #[brV old, .int .i64 0]) ∧ Below w3.heap.size w3 w') := Lib.hid ((find_any p xb w3 (HT.out.ext HB3.out) HG.out.named.srt (by have := HL.out; omega)).mono (by
    rintro e w' ⟨⟨j, x, rfl, hx, hk⟩ | ⟨rfl, hno⟩, hB⟩
    · obtain ⟨j2, hj2⟩ := List.getElem?_of_mem HOLD.out.1
      have := srtB_uniq HG.out.named.srt hx hj2 (hk.trans HOLD.out.2.symm)
      subst this
      rw [Option.some.inj (hx.symm.trans hj2)]
      exact ⟨rfl, hB⟩
    · exact absurd HOLD.out.2 (hno old HOLD.out.1)))
  obtain ⟨-, -, -, d2, -⟩ := HC.out w3 HBW3.out
  go_upto_region 10 with (go_at_call 17; refine HFB.out.mono ?_; rintro e w4 ⟨rfl, hB4⟩)
  obtain ⟨W5, hW5⟩ : ∃ W5 : World, W5 = w4.alloc (.cells #[.string old.1, .int .u64 old.2.1, .int .u64 old.2.2] (45)) := ⟨_, rfl⟩
  rw [← hW5]
  have HF := Lib.hid (show W5.heap[w4.heap.size]? = some (.cells #[.string old.1, .int .u64 old.2.1, .int .u64 old.2.2] (45) (0, 0)) from by rw [hW5]; exact blk_new_at rfl _)
  have HB5 := Lib.hid (show Below w3.heap.size w3 W5 from by rw [hW5]; exact hB4.alloc hB4.size _)
  have HBW5 := Lib.hid (HBW3.out.trans (HB5.out.mono HBW3.out.size))
  obtain ⟨F, hF⟩ : ∃ F, F = w4.heap.size := ⟨_, rfl⟩
  rw [← hF] at HF ⊢
  clear hB4 hW5 hF HFB d2
  have HFA : Hid (Calls Tryd.prog 17 #[.pointer (some ⟨p2, 0, none⟩), .string xa] W5 fun e w' => e = .returned (.tuple #[brV (xa, N, old.2.2), .int .i64 0]) ∧ Below W5.heap.size W5 w') := Lib.hid ((find_any p2 xa W5 (HT2.out.ext HB5.out) HFK.out.srt (by have := HL.out; simp only [List.length_append, List.length_cons, List.length_take, List.length_drop]; omega)).mono (by
    rintro e w' ⟨⟨j, x, rfl, hx, hk⟩ | ⟨rfl, hno⟩, hB⟩
    · rw [(ins_del HFK.out.le HFK.out.srt hx hk).1]
      exact ⟨rfl, hB⟩
    · exact absurd rfl (hno _ (List.mem_of_getElem? (ins_at _ HFK.out.le)))))
  obtain ⟨-, -, d1, -, -⟩ := HC.out W5 HBW5.out
  go_upto_region 11 with (go_at_call 17; refine HFA.out.mono ?_; rintro e w6 ⟨rfl, hB6⟩)
  obtain ⟨W7, hW7⟩ : ∃ W7 : World, W7 = w6.alloc (.cells #[.string xa, .int .u64 N, .int .u64 old.2.2] (45)) := ⟨_, rfl⟩
  rw [← hW7]
  have HTO := Lib.hid (show W7.heap[w6.heap.size]? = some (.cells #[.string xa, .int .u64 N, .int .u64 old.2.2] (45) (0, 0)) from by rw [hW7]; exact blk_new_at rfl _)
  have hB57 : Below W5.heap.size W5 W7 := by rw [hW7]; exact hB6.alloc hB6.size _
  have HF7 := Lib.hid (blk_below HF.out hB57 (lt_of_blk HF.out))
  have HB7 := Lib.hid (HB5.out.trans (hB57.mono HB5.out.size))
  have HBW7 := Lib.hid (HBW3.out.trans (HB7.out.mono HBW3.out.size))
  obtain ⟨T, hT⟩ : ∃ T, T = w6.heap.size := ⟨_, rfl⟩
  rw [← hT] at HTO ⊢
  clear hB6 hW7 hT hB57 HFA d1 HF HB5 HBW5
  have hnn : n ≤ 48 := by have := HL.out; have := HN.out; omega
  have HDR : Hid (Calls Tryd.prog 18 #[.pointer (some ⟨p2, 0, none⟩), .string xa] W7 fun e w' => ∃ d, e = .returned (.tuple #[.pointer (some ⟨d, 0, none⟩), .int .i64 0]) ∧ TreeIs w' d bs (ls ++ [(N, old.2.1)]) ∧ Below W7.heap.size W7 w') := by
    have hl : (bs.take i ++ (xa, N, old.2.2) :: bs.drop i).length = bs.length + 1 := by
      have := HFK.out.le
      simp only [List.length_append, List.length_cons, List.length_take, List.length_drop]; omega
    exact Lib.hid ((drop_any p2 xa W7 (HT2.out.ext HB7.out) HFK.out.srt (by rw [hl]; omega) (by rw [hl]; have := HL.out; omega) (by rw [List.length_append]; have := HL.out; omega) (by rw [List.length_append]; have := HL.out; simp only [List.length_cons, List.length_nil]; omega)).mono (by
      rintro e w' ⟨⟨er, her, rfl, h | h⟩ | ⟨d, j, x, hx, hk, -, rfl, ht⟩, hB⟩
      · exact absurd rfl (h _ (List.mem_of_getElem? (ins_at _ HFK.out.le)))
      · rw [hl] at h; have := HL.out; omega
      · rw [(ins_del HFK.out.le HFK.out.srt hx hk).2] at ht
        exact ⟨d, rfl, ht, hB⟩))
  obtain ⟨-, -, d1, -, -⟩ := HC.out W7 HBW7.out
  go_upto_region 12 with (go_at_call 18; refine HDR.out.mono ?_; rintro e w8 ⟨d, rfl, htd, hB8⟩)
  have HTD := Lib.hid htd
  have HF8 := Lib.hid (blk_below HF7.out hB8 (lt_of_blk HF7.out))
  have HTO8 := Lib.hid (blk_below HTO.out hB8 (lt_of_blk HTO.out))
  have HB8 := Lib.hid (HB7.out.trans (hB8.mono HB7.out.size))
  have HBW8 := Lib.hid (HBW3.out.trans (HB8.out.mono HBW3.out.size))
  clear htd hB8 HDR d1 HF7 HTO HB7 HBW7
  have HKP : Hid (∀ u, Below w8.heap.size w8 u → u.cell? ⟨w.heap.size, 0, none⟩ = some (.slice ba nb bc) ∧ u.cell? ⟨w.heap.size, 1, none⟩ = some (.slice la n lc) ∧ u.cell? ⟨w.heap.size + 1, 1, none⟩ = some (.string xa) ∧ u.cell? ⟨w.heap.size + 1, 3, none⟩ = some (.int .u64 N) ∧ u.cell? ⟨F, 2, none⟩ = some (.int .u64 old.2.2) ∧ u.cell? ⟨T, 0, none⟩ = some (.string xa) ∧ u.cell? ⟨T, 1, none⟩ = some (.int .u64 N) ∧ u.cell? ⟨T, 2, none⟩ = some (.int .u64 old.2.2)) := Lib.hid (fun u hu => by
    obtain ⟨c0, c1, c2, -, c4⟩ := HC.out u (HBW8.out.trans (hu.mono HBW8.out.size))
    have f2 := cell_of_blk (blk_below HF8.out hu (lt_of_blk HF8.out)) 2
    have t0 := cell_of_blk (blk_below HTO8.out hu (lt_of_blk HTO8.out)) 0
    have t1 := cell_of_blk (blk_below HTO8.out hu (lt_of_blk HTO8.out)) 1
    have t2 := cell_of_blk (blk_below HTO8.out hu (lt_of_blk HTO8.out)) 2
    simp at f2 t0 t1 t2
    exact ⟨c0, c1, c2, c4, f2, t0, t1, t2⟩)
  have HA1 : Hid (∀ u, Below w8.heap.size w8 u → Calls Tryd.prog (12) #[.pointer (some ⟨d, 0, none⟩)] u fun e w' => ∃ (g : Nat) (R : List Value), e = .returned (.slice (some ⟨g, 0, none⟩) nb nb) ∧ w'.heap[g]? = some (.cells (bs.flatMap brc ++ R).toArray (45) (0, 0)) ∧ Below u.heap.size u w') := Lib.hid (fun u hu => (allB_n d nb u (HTD.out.ext hu) HNB.out.symm (by have := HL.out; have := HNB.out; omega) (by have := HL.out; have := HNB.out; omega)).mono (by
    rintro e w' ⟨g, R, rfl, -, hh, hb⟩
    exact ⟨g, R, rfl, hh, hb⟩))
  have HA2 : Hid (∀ u, Below w8.heap.size w8 u → Calls Tryd.prog (13) #[.pointer (some ⟨d, 0, none⟩)] u fun e w' => ∃ (g : Nat), e = .returned (.slice (some ⟨g, 0, none⟩) (n + 1) (n + 1)) ∧ Below u.heap.size u w') := Lib.hid (fun u hu => (allL_n d (n + 1) u (HTD.out.ext hu) (by rw [List.length_append, ← HN.out]; rfl) (by omega) (by omega)).mono (by
    rintro e w' ⟨g, R, rfl, -, hh, hb⟩
    exact ⟨g, rfl, hb⟩))
  have HS1 := Lib.hid (fun (u : World) (g : Nat) (R : List Value) (hu : Below w8.heap.size w8 u) (hx : u.heap[g]? = some (.cells (bs.flatMap brc ++ R).toArray (45) (0, 0))) => sameB_any (some ⟨g, 0, none⟩) ba nb bc nb bs u (els_pre brc_len hx) (HBS.out u (HBW8.out.trans (hu.mono HBW8.out.size))) HNB.out.symm (by have := HL.out; have := HNB.out; omega))
  have HCH1 : Hid (∀ u, Below w8.heap.size w8 u → Calls Tryd.prog (11) #[.pointer (some ⟨p, 0, none⟩), .int .u64 old.2.1] u fun e w' => ∃ a, e = .returned (.slice a (rest.length + 1) (rest.length + 1)) ∧ Lns w' a ((old.2.1, 18446744073709551615) :: rest) ∧ Below u.heap.size u w') := Lib.hid (fun u hu => (chain_any p old.2.1 u (HT.out.ext (HB3.out.trans ((HB8.out.trans (hu.mono HB8.out.size)).mono HB3.out.size))) HG.out.formed (by have := HL.out; omega)).mono (by
    rintro e w' ⟨a, rfl, hE, hb⟩
    rw [HFK.out.c1] at hE ⊢
    exact ⟨a, rfl, hE, hb⟩))
  have HCH2 : Hid (∀ u, Below w8.heap.size w8 u → Calls Tryd.prog (11) #[.pointer (some ⟨p2, 0, none⟩), .int .u64 N] u fun e w' => ∃ a, e = .returned (.slice a (1 + (rest.length + 1)) (1 + (rest.length + 1))) ∧ Lns w' a ((N, 18446744073709551615) :: (old.2.1, N) :: rest) ∧ Below u.heap.size u w') := Lib.hid (fun u hu => (chain_any p2 N u (HT2.out.ext (HB8.out.trans (hu.mono HB8.out.size))) HFK.out.form (by rw [List.length_append]; have := HL.out; simp only [List.length_cons, List.length_nil]; omega)).mono (by
    rintro e w' ⟨a, rfl, hE, hb⟩
    rw [HFK.out.c2] at hE ⊢
    refine ⟨a, ?_, hE, hb⟩
    rw [show ((N, (18446744073709551615 : Int)) :: (old.2.1, N) :: rest).length = 1 + (rest.length + 1) from by simp only [List.length_cons]; omega]))
  have HKQ : Hid (∀ u, Below w8.heap.size w8 u → u.cell? ⟨w.heap.size + 1, 3, none⟩ = some (.int .u64 N) ∧ u.cell? ⟨F, 1, none⟩ = some (.int .u64 old.2.1)) := Lib.hid (fun u hu => by
    obtain ⟨-, -, -, -, c4⟩ := HC.out u (HBW8.out.trans (hu.mono HBW8.out.size))
    have f1 := cell_of_blk (blk_below HF8.out hu (lt_of_blk HF8.out)) 1
    simp at f1
    exact ⟨c4, f1⟩)
  have HFIN := Lib.hid (fun u (hu : Below w8.heap.size w8 u) => HB.out.trans ((HBW8.out.trans (hu.mono HBW8.out.size)).mono HB.out.size))
  have HRL := Lib.hid HFK.out.short
  have hn1 : n < 1000000 := by omega
  clear HF8 HTO8 HTD HG HT HT2 HFK HOLD HBS HXA HC HBW2 HBW3 HBW8 HB3 HB8 HNB HN HW HL HG2 hnn
  refine r12_any hn1 HKP HA1 HA2 HS1 (by rintro ch ⟨t, d⟩ ⟨t', d'⟩ w' rfl h; exact h) ?_
  intro v69 v70 v71 v72 v73 v74 v75 v76 v77 v78 v79 v80 v81 v82 v83 v84 v85 v86 v87 v88 v89 v90 v91 v92 v93 v94 v95 v96 v97 v98 v99 v100 v101 v102 v103 v104 v105 v106 wq hbq
  have HBQ := Lib.hid hbq
  have HKQ := Lib.hid (fun u (hu : Below wq.heap.size wq u) => HKQ.out u (HBQ.out.trans (hu.mono HBQ.out.size)))
  have HCH1 := Lib.hid (fun u (hu : Below wq.heap.size wq u) => HCH1.out u (HBQ.out.trans (hu.mono HBQ.out.size)))
  obtain ⟨r, hr⟩ : ∃ r, r = rest.length := ⟨_, rfl⟩
  rw [← hr] at HCH1 HCH2 HRL
  have HR := Lib.hid hr
  clear hbq HKP HA1 HA2 HS1 hr
  have HDA := Lib.hid (show Below wq.heap.size wq wq.drew from bdrw (Below.refl _ _))
  have HDB := Lib.hid (fun o => show Below wq.heap.size wq (wq.alloc o).drew from bdrw ((Below.refl _ _).alloc (Nat.le_refl _) _))
  have r48 := HRL.out
  have HLEN := Lib.hid (show ((old.2.1, (18446744073709551615 : Int)) :: rest).length = r + 1 from by rw [List.length_cons, ← HR.out])
  have HR1 := Lib.hid (show 1 < 1 + (r + 1) from by omega)
  have HR2 := Lib.hid (show 1 + (r + 1) < 1000000 from by omega)
  go_upto_region 14 with fail
  go_region_held3 (fun u => u.cell? ⟨w.heap.size + 1, 3, none⟩ = some (.int .u64 N) ∧ u.cell? ⟨F, 1, none⟩ = some (.int .u64 old.2.1)) (first | exact HKQ.out _ HDA.out | exact HKQ.out _ (HDB.out _) | exact HKQ.out _ HB9.out | exact HKQ.out _ hbu | exact HKQ.out _ (hbu.alloc hbu.size _))
    (first | (go_at_call 11; (with_reducible refine (HCH1.out _ HDA.out).mono ?_); rintro e wc ⟨a, rfl, hE, hbc⟩; have hbu := HDA.out.trans (hbc.mono HDA.out.size); have HE := Lib.hid hE; clear hE hbc)
           | (go_at_call 11; (with_reducible refine (HCH1.out _ (HDB.out _)).mono ?_); rintro e wc ⟨a, rfl, hE, hbc⟩; have hbu := (HDB.out _).trans (hbc.mono (HDB.out _).size); have HE := Lib.hid hE; have HXB := Lib.hid (blk_new_below hbc); clear hE hbc)
           | (refine wp_append_links (.tmp 111) (.tmp 115) (by rfl) (some ⟨wq.heap.size, 0, none⟩) a 1 1 (r + 1) (r + 1) [(N, 18446744073709551615)] ((old.2.1, 18446744073709551615) :: rest) (by rfl) (by rfl) (els_of_blk lnc_len HXB.out) HE.out rfl HLEN.out Nat.one_pos (Nat.succ_pos _) HR1.out HR2.out ?_; intro g9 c9 w9 R9 hx9 hg9 hb9; have HB9 := Lib.hid (hbu.trans (hb9.mono hbu.size)); have HG9 := Lib.hid (Nat.le_trans hbu.size hg9); have HX9 := Lib.hid hx9; clear hx9 hg9 hb9)
           | (refine wp_append_links (.tmp 111) (.tmp 115) (by rfl) (some ⟨wc.heap.size, 0, none⟩) a 1 1 (r + 1) (r + 1) [(N, 18446744073709551615)] ((old.2.1, 18446744073709551615) :: rest) (by rfl) (by rfl) (els_of_blk lnc_len (blk_new_at rfl _)) (HE.out.ext ((Below.refl _ _).alloc (Nat.le_refl _) _)) rfl HLEN.out Nat.one_pos (Nat.succ_pos _) HR1.out HR2.out ?_; intro g9 c9 w9 R9 hx9 hg9 hb9; have hbu2 : Below wq.heap.size wq (wc.alloc (.cells #[.int .u64 N, .int .u64 18446744073709551615] (38))) := hbu.alloc hbu.size _; have HB9 := Lib.hid (hbu2.trans (hb9.mono hbu2.size)); have HG9 := Lib.hid (Nat.le_trans hbu2.size hg9); have HX9 := Lib.hid hx9; clear hx9 hg9 hb9 hbu2))
  all_goals
    have g3 : w9.cell? ⟨g9, 3, none⟩ = some (.int .u64 18446744073709551615) := by rw [cell_of_blk HX9.out]; rfl
    have f3 := frozen_of_blk HX9.out 3
    obtain ⟨k3, -⟩ := HKQ.out w9 HB9.out
    obtain ⟨W10, hW10⟩ : ∃ W10 : World, W10 = w9.setCell ⟨g9, 3, none⟩ (.int .u64 N) := ⟨_, rfl⟩
    have HB10 := Lib.hid (show Below wq.heap.size wq W10 from by rw [hW10]; exact HB9.out.setCell (by exact HG9.out) _)
    have HE10 := Lib.hid (show Lns W10 (some ⟨g9, 0, none⟩) ((N, 18446744073709551615) :: (old.2.1, N) :: rest) from by rw [hW10]; exact els_of_pre (R := R9) lnc_len (blk_setCell HX9.out _) (by simp [lnc]))
    have HCX := Lib.hid (HCH2.out W10 (HBQ.out.trans (HB10.out.mono HBQ.out.size)))
    obtain ⟨k4, -⟩ := HKQ.out W10 HB10.out
    have HW10 := Lib.hid hW10
    have r1 : (1 : Int) < ((1 + (r + 1) : Nat) : Int) := by omega
    clear HX9 HCH1 HCH2 hW10 HKQ HDA HDB
    go_upto_region 16 with fail
    rw [← HW10.out]
    clear g3 f3 k3
    go_wp2_with fail
    refine HCX.out.mono ?_
    rintro e w11 ⟨a, rfl, hE11, hB11⟩
    have HSK := Lib.hid (sameK_any a (some ⟨g9, 0, none⟩) (1 + (r + 1)) c9 (1 + (r + 1)) ((N, 18446744073709551615) :: (old.2.1, N) :: rest) w11 hE11 (HE10.out.ext hB11) (by rw [List.length_cons, List.length_cons, ← HR.out]; omega) (by omega))
    have HB11 := Lib.hid (HB10.out.trans (hB11.mono HB10.out.size))
    clear hE11 hB11 HCX HE10
    go_wp2_with fail
    refine HSK.out.mono ?_
    rintro e w12 ⟨rfl, hB12⟩
    have HB12 := Lib.hid (HBQ.out.trans ((HB11.out.trans (hB12.mono HB11.out.size)).mono HBQ.out.size))
    clear hB12 HSK
    go_wp2_with (go_at_call 9; refine (lives_any _).mono ?_; rintro e w13 ⟨rfl, hb13⟩)
    go_ret
    exact ⟨rfl, HFIN.out _ (HB12.out.trans (hb13.mono HB12.out.size))⟩
end Go.Proofs.YtacibennmcegfaaDoor
