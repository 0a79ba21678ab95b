/- LinesChain: its walk. No condition. -/
import Derived.Test.YtacibennmcegfaaDoorLQ1
import Derived.Test.YtacibennmcegfaaDoorLQ2
import Derived.Test.YtacibennmcegfaaDoorLR
namespace Go.Herb
theorem side_get {l : List Ln} : ∀ {c : List (Int × Int)} {j : Nat} {a b : Int × Int}, Side l c → c[j]? = some a → c[j + 1]? = some b → (a.1, b.1) ∈ l ∧ b.2 = a.1 ∧ b.1 < a.1
  | [], _, _, _, _, h, _ => by simp at h
  | [_], j, _, _, _, _, h => by simp at h
  | x :: y :: c, 0, a, b, hs, ha, hb => by
    simp at ha hb
    subst ha hb
    exact hs.1
  | x :: y :: c, j + 1, a, b, hs, ha, hb => side_get (j := j) hs.2 (by simpa using ha) (by simpa using hb)
end Go.Herb
namespace Go.Proofs.YtacibennmcegfaaDoor
open Go.RowKit Go.Shelf Go.Herb

/-- Chain of a line that is there. -/
structure ChainOk (ls : List Ln) (x : Ln) (k : List (Int × Int)) (kl m : Nat) : Prop where
  len : k.length = kl
  m1 : m + 1 = kl
  first : k[0]? = some (x.1, 18446744073709551615)
  last : ∃ z, k[m]? = some z ∧ z.1 = 0
  side : Side ls k
  small : kl ≤ ls.length
  eq : k = chainF ls ls.length x.1 18446744073709551615
def KCells (d o : Nat) (k : List (Int × Int)) (X : World) : Prop := ∀ u, Below X.heap.size X u → ∀ (j : Nat) (z : Int × Int), k[j]? = some z → u.cell? ⟨d, o + j * 2, none⟩ = some (.int .u64 z.1) ∧ u.cell? ⟨d, o + j * 2 + 1, none⟩ = some (.int .u64 z.2)
theorem chainOk_any {bs : List Br} {ls : List Ln} (p : Nat) {i : Nat} {x : Ln} (w : World) (h : TreeIs w p bs ls) (hf : FormedL ls) (hl1 : ls.length < 1000000) (hx : ls[i]? = some x) :
    Calls Tryd.prog (11) #[.pointer (some ⟨p, 0, none⟩), .int .u64 x.1] w fun e w' => ∃ (d o kl m : Nat) (k : List (Int × Int)), e = .returned (.slice (some ⟨d, o, none⟩) kl kl) ∧ Hid (ChainOk ls x k kl m) ∧ Hid (KCells d o k w') ∧ Below w.heap.size w w' := by
  refine (chain_any p x.1 w h hf hl1).mono ?_
  rintro e w' ⟨a, rfl, hE, hB⟩
  obtain ⟨hil, _⟩ := List.getElem?_eq_some_iff.1 hx
  obtain ⟨c, hc, hlast, hside⟩ := chain_law hf ls.length i x 18446744073709551615 hx hil
  have hsm := chain_len (ls := ls) ls.length x.1 18446744073709551615
  obtain ⟨k, hk⟩ : ∃ k, k = chainF ls ls.length x.1 18446744073709551615 := ⟨_, rfl⟩
  rw [← hk] at hE hc hsm ⊢
  rw [← hc] at hlast hside
  have hpos : 0 < k.length := by rw [hc]; simp
  obtain ⟨d, o, rfl, hlt, -⟩ := hE.get 0 hpos
  refine ⟨d, o, k.length, k.length - 1, k, rfl, Lib.hid ⟨rfl, by omega, by rw [hc]; rfl, ?_, hside, hsm, hk⟩, Lib.hid (fun u hu j z hz => ?_), hB⟩
  · rw [List.getLast?_eq_getElem?] at hlast
    obtain ⟨z, hz, he⟩ := Option.map_eq_some_iff.1 hlast
    exact ⟨z, hz, he⟩
  · obtain ⟨hj, hje⟩ := List.getElem?_eq_some_iff.1 hz
    obtain ⟨d', o', he, hlt', hcz⟩ := hE.get j hj
    injection he with he
    injection he with e1 e2
    subst e1 e2
    rw [hje] at hcz
    exact ⟨(hu.cell (p := ⟨d, _, none⟩) hlt').trans (hcz 0 _ rfl), (hu.cell (p := ⟨d, _, none⟩) hlt').trans (hcz 1 _ rfl)⟩
set_option maxRecDepth 100000 in
set_option maxHeartbeats 2000000 in
theorem lawChain_any (ba : Option Addr) (bc : Nat) (bs : List Br) (la : Option Addr) (lc : Nat) (ls : List Ln) (w : World) (sB : SIn brc 3 (fun q : Br => q.1.size ≤ maxLen ∧ U64 q.2.1 ∧ U64 q.2.2) w ba bc bs) (sL : SIn lnc 2 (fun q : Ln => U64 q.1 ∧ U64 q.2) w la lc ls) :
    Calls Tryd.prog (3) #[.agg #[.slice ba bs.length bc, .slice la ls.length lc]] w fun e w' => e = .returned (.bool true) ∧ Below w.heap.size w w' := by
  obtain ⟨nb, hnb⟩ : ∃ nb, nb = bs.length := ⟨_, rfl⟩
  obtain ⟨n, hn⟩ : ∃ n, n = ls.length := ⟨_, rfl⟩
  rw [← hnb, ← hn]
  obtain ⟨W, hW⟩ : ∃ W : World, W = w.alloc (.cells #[.slice ba nb bc, .slice la n lc] (25)) := ⟨_, rfl⟩
  have hB : Below w.heap.size w W := by rw [hW]; exact balc (Below.refl _ _)
  have hx0 : W.heap[w.heap.size]? = some (.cells #[.slice ba nb bc, .slice la n lc] (25) (0, 0)) := by rw [hW]; exact blk_new_at rfl _
  have HC : Hid (∀ u, Below W.heap.size W u → u.cell? ⟨w.heap.size, 0, none⟩ = some (.slice ba nb bc) ∧ u.cell? ⟨w.heap.size, 1, none⟩ = some (.slice la n lc)) := Lib.hid (fun u hu => by
    have h0 := cell_of_blk (blk_below hx0 hu (lt_of_blk hx0)) 0
    have h1 := cell_of_blk (blk_below hx0 hu (lt_of_blk hx0)) 1
    simp at h0 h1
    exact ⟨h0, h1⟩)
  have HOF := Lib.hid (fun (u : World) (hu : Below W.heap.size W u) (h1 : nb ≤ 100) (h2 : n ≤ 100) => of_any ba bc nb la lc n bs ls u (sB.els.ext (hB.trans (hu.mono hB.size))) hnb.symm (sL.els.ext (hB.trans (hu.mono hB.size))) hn.symm (by rw [hn]; exact sL.le) sL.max h1 h2 (fun x hx => (sB.all x hx).2.1) (fun x hx => by have := (sB.all x hx).1; unfold maxLen at this; omega))
  have HLS := Lib.hid (fun (u : World) (hu : Below W.heap.size W u) => sL.els.ext (hB.trans (hu.mono hB.size)))
  have HB := Lib.hid hB
  have HW := Lib.hid hW
  have HN := Lib.hid hn
  have hWs : w.heap.size + 1 = W.heap.size := by rw [hW]; simp
  clear hB hx0 sB sL hnb hn hW
  go_enter Tryd.func3, Tryd.ntmps3
  go_upto_region 1 with fail
  rw [← HW.out]
  obtain ⟨c0, c1⟩ := HC.out W (Below.refl _ _)
  go_wp2_with fail
  refine (great_any ba la none nb bc n lc 0 0 W).mono ?_
  rintro e w1 ⟨r, rfl, hr, hB1⟩
  clear c0 c1
  obtain ⟨c0, c1⟩ := HC.out w1 hB1
  cases r with
  | true =>
    have HB1 := Lib.hid (HB.out.trans (hB1.mono HB.out.size))
    clear hr HOF hB1
    go_wp2_with (go_at_call 9; refine (lives_any _).mono ?_; rintro e w9 ⟨rfl, hb9⟩)
    go_ret
    exact ⟨rfl, HB1.out.trans (hb9.mono HB1.out.size)⟩
  | false =>
  obtain ⟨g1, g2⟩ := hr rfl
  have HO := Lib.hid (HOF.out w1 hB1 g1 g2)
  have HBW := Lib.hid hB1
  have HG2 := Lib.hid g2
  clear hr HOF hB1 g1 g2
  go_wp2_with fail
  refine HO.out.mono ?_
  clear HO c0 c1
  rintro e w2 ⟨⟨-, rfl⟩ | ⟨hG, p, rfl, ht⟩, hB2⟩
  · have HB2 := Lib.hid (HB.out.trans ((HBW.out.trans (hB2.mono HBW.out.size)).mono HB.out.size))
    clear hB2
    go_wp2_with (go_at_call 9; refine (lives_any _).mono ?_; rintro e w9 ⟨rfl, hb9⟩)
    go_ret
    exact ⟨rfl, HB2.out.trans (hb9.mono HB2.out.size)⟩
  have HG := Lib.hid hG
  have HT := Lib.hid ht
  have HBW2 := Lib.hid (HBW.out.trans (hB2.mono HBW.out.size))
  clear hG ht hB2 HBW
  go_wp2_with fail
  go_loopg [5] n (fun gk iv wr => ∃ i : Nat, i + gk = n ∧ iv = .int .i64 i ∧ Hid (Below w2.heap.size w2 wr))
  case atStart => exact ⟨0, by omega, rfl, Lib.hid (Below.refl _ _)⟩
  case round =>
    obtain ⟨i, hi, rfl, HBR⟩ := hrel
    have HWR := Lib.hid (HBW2.out.trans (HBR.out.mono HBW2.out.size))
    obtain ⟨c0, c1⟩ := HC.out wr HWR.out
    by_cases hlt : i < n
    case neg =>
      have h1 : ¬ (i : Int) < (n : Int) := by omega
      have HBE := Lib.hid (HB.out.trans (HWR.out.mono HB.out.size))
      go_wp2_with (go_at_call 9; refine (lives_any _).mono ?_; rintro e w9 ⟨rfl, hb9⟩)
      go_ret
      exact ⟨rfl, HBE.out.trans (hb9.mono HBE.out.size)⟩
    have hil : i < ls.length := by have := HN.out; omega
    obtain ⟨b, o, rfl, hlb, hcx⟩ := (HLS.out wr HWR.out).get i hil
    have HX := Lib.hid (List.getElem?_eq_getElem hil)
    generalize ls[i] = x at HX hcx
    have hx1 := hcx 0 _ rfl
    simp only [Nat.add_zero] at hx1
    have i0 : (0 : Int) ≤ (i : Int) := by omega
    have i1 : (i : Int) < (n : Int) := by omega
    have iw : IntKind.i64.wrap ((i : Int) + 1) = (i : Int) + 1 := IntWalk.i64_in _ (by have := HG2.out; omega)
    have HCH := Lib.hid (chainOk_any p wr (HT.out.ext HBR.out) HG.out.formed (by have := HG.out.nl; omega) HX.out)
    go_upto_region 10 with (go_at_call 11; refine HCH.out.mono ?_; rintro e w3 ⟨d, q, kl, m, k, rfl, HK, HKC, hB3⟩)
    have HB3 := Lib.hid (HBR.out.trans (hB3.mono HBR.out.size))
    have HW3 := Lib.hid (HWR.out.trans (hB3.mono HWR.out.size))
    obtain ⟨d0, d1⟩ := HC.out w3 HW3.out
    have hx3 := (hB3.cell (p := ⟨b, _, none⟩) hlb).trans hx1
    obtain ⟨k0, k1⟩ := HKC.out w3 (Below.refl _ _) 0 _ HK.out.first
    obtain ⟨z, hz, hz0⟩ := HK.out.last
    obtain ⟨k2, -⟩ := HKC.out w3 (Below.refl _ _) m z hz
    rw [hz0] at k2
    simp only [Nat.zero_mul, Nat.add_zero] at k0 k1
    have km := HK.out.m1
    have m0 : ((kl : Int) == 0) = false := beq_eq_false_iff_ne.2 (by omega)
    have m1 : IntKind.i64.wrap ((kl : Int) - 1) = (m : Int) := by
      have := HK.out.small
      have := HG2.out
      have := HN.out
      rw [IntWalk.i64_in _ (by omega)]
      omega
    have m2 : (0 : Int) ≤ (m : Int) := by omega
    have m3 : (m : Int) < (kl : Int) := by omega
    have m4 : 0 < kl := by omega
    have qn := run_neqLk
    have qg := guardLk
    clear hB3 hx1 hz hz0 c0 c1 hcx
    go_quiet (fail)
    have HB4 := Lib.hid (show Below w2.heap.size w2 (w3.drewN nq) from ⟨HB3.out.os, HB3.out.tape, HB3.out.output, HB3.out.size, HB3.out.block⟩)
    have HKD := Lib.hid (show KCells d q k (w3.drewN nq) from fun u hu => HKC.out u ⟨hu.os, hu.tape, hu.output, hu.size, hu.block⟩)
    clear HB3 HKC HW3 HWR d0 d1 hx3 k0 k1 k2 m0 m1 m2 m3 qn qg i0 i1 HX HCH
    generalize w3.drewN nq = w4 at *
    go_wp2_with fail
    obtain ⟨gi, hgi⟩ : ∃ gi, gi = gk := ⟨_, rfl⟩
    rw [← hgi] at hi
    have HGI := Lib.hid hgi
    clear hgi
    go_loopg [7] m (fun gj jv wr => ∃ j : Nat, 1 ≤ j ∧ j + gj = kl ∧ jv = .int .i64 j ∧ Hid (Below w4.heap.size w4 wr))
    case atStart => exact ⟨1, by omega, by omega, rfl, Lib.hid (Below.refl _ _)⟩
    case round =>
      obtain ⟨j, hj1, hjk, rfl, HBQ⟩ := hrel
      have HBz := Lib.hid (HB4.out.trans (HBQ.out.mono HB4.out.size))
      by_cases hjl : j < kl
      case neg =>
        have h1 : ¬ (j : Int) < (kl : Int) := by omega
        go_wp2_with fail
        go_roundg (gi - 1)
        case measure => have := HGI.out; omega
        case rel => exact ⟨i + 1, by omega, by go_num, HBz⟩
      obtain ⟨y, hy⟩ : ∃ y, k[j - 1]? = some y := ⟨_, List.getElem?_eq_getElem (by have := HK.out.len; omega)⟩
      obtain ⟨z, hz⟩ : ∃ z, k[j]? = some z := ⟨_, List.getElem?_eq_getElem (by have := HK.out.len; omega)⟩
      obtain ⟨s1, s2, s3⟩ := side_get (j := j - 1) HK.out.side hy (by rw [show j - 1 + 1 = j by omega]; exact hz)
      obtain ⟨h, hh⟩ : ∃ h, h = j - 1 := ⟨_, rfl⟩
      rw [← hh] at hy
      have HM := Lib.hid s1
      have hkl : kl ≤ 100 := by have := HK.out.small; have := HG2.out; have := HN.out; omega
      have j0 : IntKind.i64.wrap ((j : Int) - 1) = (h : Int) := by rw [IntWalk.i64_in _ (by omega)]; omega
      have j1 : (0 : Int) ≤ (h : Int) := by omega
      have j2 : (h : Int) < (kl : Int) := by omega
      have j3 : (0 : Int) ≤ (j : Int) := by omega
      have j4 : (j : Int) < (kl : Int) := by omega
      have j5 : IntKind.i64.wrap ((j : Int) + 1) = (j : Int) + 1 := IntWalk.i64_in _ (by omega)
      obtain ⟨y0, -⟩ := HKD.out wr HBQ.out h y hy
      obtain ⟨z0, z1⟩ := HKD.out wr HBQ.out j z hz
      rw [s2] at z1
      have HKY := Lib.hid (show ∀ u, Below wr.heap.size wr u → u.cell? ⟨d, q + h * 2, none⟩ = some (.int .u64 y.1) ∧ u.cell? ⟨d, q + j * 2, none⟩ = some (.int .u64 z.1) ∧ u.cell? ⟨d, q + j * 2 + 1, none⟩ = some (.int .u64 y.1) from fun u hu => by
        obtain ⟨a0, -⟩ := HKD.out u (HBQ.out.trans (hu.mono HBQ.out.size)) h y hy
        obtain ⟨a1, a2⟩ := HKD.out u (HBQ.out.trans (hu.mono HBQ.out.size)) j z hz
        rw [s2] at a2
        exact ⟨a0, a1, a2⟩)
      have HLT := Lib.hid s3
      have HH := Lib.hid hh
      clear hy hz s1 s2 s3 hh hkl
      obtain ⟨X, hX⟩ : ∃ X : World, X = wr.alloc (.cells #[.int .u64 0, .int .u64 0] (36)) := ⟨_, rfl⟩
      have hBX : Below wr.heap.size wr X := by rw [hX]; exact balc (Below.refl _ _)
      obtain ⟨y3, z3, z4⟩ := HKY.out X hBX
      rw [hX] at y3 z3 z4
      clear hX hBX
      go_upto_region 15 with fail
      go_region
      have HB5 := Lib.hid (show Below wr.heap.size wr (wr.alloc (.cells #[.int .u64 y.1, .int .u64 z.1] (36))).drew from bdrw (balc (Below.refl _ _)))
      have HU := Lib.hid (show (wr.alloc (.cells #[.int .u64 y.1, .int .u64 z.1] (36))).drew.heap[wr.heap.size]? = some (.cells #[.int .u64 y.1, .int .u64 z.1] (36) (0, 0)) from blk_drew (blk_new_at rfl _))
      clear y0 z0 z1 y3 z3 z4
      generalize (wr.alloc (.cells #[.int .u64 y.1, .int .u64 z.1] (36))).drew = w5 at *
      have HK5 := Lib.hid (fun u (hu : Below w5.heap.size w5 u) => HKY.out u (HB5.out.trans (hu.mono HB5.out.size)))
      have HBA := Lib.hid (HB4.out.trans ((HBQ.out.trans (HB5.out.mono HBQ.out.size)).mono HB4.out.size))
      have HBQ5 := Lib.hid (HBQ.out.trans (HB5.out.mono HBQ.out.size))
      have HW5 := Lib.hid (HBW2.out.trans (HBA.out.mono HBW2.out.size))
      obtain ⟨U, hU⟩ : ∃ U, U = wr.heap.size := ⟨_, rfl⟩
      rw [← hU] at HU ⊢
      have HUU := Lib.hid hU
      obtain ⟨gj, hgj⟩ : ∃ gj, gj = gk := ⟨_, rfl⟩
      rw [← hgj] at hjk
      have HGJ := Lib.hid hgj
      clear hgj hU HKY HBQ HBz HB5
      go_wp2_with fail
      go_loopg [9, 10] n (fun gt fv tv wq => ∃ (t : Nat) (f : Bool), t + gt = n ∧ fv = .bool f ∧ tv = .int .i64 t ∧ Hid (f = true ↔ (y.1, z.1) ∈ ls.take t) ∧ Hid (Below w5.heap.size w5 wq))
      case atStart => exact ⟨0, false, by omega, rfl, rfl, Lib.hid (by simp), Lib.hid (Below.refl _ _)⟩
      case round =>
        obtain ⟨t, f, ht, rfl, rfl, HF, HBT⟩ := hrel
        have HWT := Lib.hid (HW5.out.trans (HBT.out.mono HW5.out.size))
        obtain ⟨-, c1⟩ := HC.out wr HWT.out
        by_cases htn : t < n
        case pos =>
          have htl : t < ls.length := by have := HN.out; omega
          obtain ⟨b', o', he, hlb', hcv⟩ := (HLS.out wr HWT.out).get t htl
          injection he with he
          injection he with e1 e2
          subst e1 e2
          have HTK := Lib.hid (List.take_succ_eq_append_getElem htl)
          generalize ls[t] = v at hcv HTK
          have v0 := hcv 0 _ rfl
          have v1 := hcv 1 _ rfl
          simp only [Nat.add_zero] at v0 v1
          have hxu := blk_below HU.out HBT.out (lt_of_blk HU.out)
          have u0 := cell_of_blk hxu 0
          have u1 := cell_of_blk hxu 1
          simp at u0 u1
          have t0 : (0 : Int) ≤ (t : Int) := by omega
          have t1 : (t : Int) < (n : Int) := by omega
          have t2 : IntKind.i64.wrap ((t : Int) + 1) = (t : Int) + 1 := IntWalk.i64_in _ (by have := HG2.out; omega)
          have qn := run_eqlLn
          have qg := guardLn
          clear hcv hxu
          cases f with
          | true =>
            have HF2 := Lib.hid (show (true = true ↔ (y.1, z.1) ∈ ls.take (t + 1)) from ⟨fun _ => by rw [HTK.out]; exact List.mem_append_left _ (HF.out.1 rfl), fun _ => rfl⟩)
            go_wp2_with fail
            go_quiet (fail)
            have HBU := Lib.hid (show Below w5.heap.size w5 (wr.drewN nq) from ⟨HBT.out.os, HBT.out.tape, HBT.out.output, HBT.out.size, HBT.out.block⟩)
            clear qn qg
            go_wp2
            go_roundg (gk - 1)
            case measure => omega
            case rel => exact ⟨t + 1, true, by omega, rfl, by go_num, Lib.hid ⟨fun _ => HF2.out.1 trivial, fun _ => rfl⟩, HBU⟩
          | false =>
            have HF2 := Lib.hid (show (decide (v.1 = y.1 ∧ v.2 = z.1) = true ↔ (y.1, z.1) ∈ ls.take (t + 1)) from by
              rw [HTK.out, List.mem_append, decide_eq_true_iff]
              constructor
              · intro h
                exact .inr (by rw [List.mem_singleton, ← h.1, ← h.2])
              · rintro (h | h)
                · have := HF.out.2 h
                  cases this
                · rw [List.mem_singleton] at h
                  rw [← h]
                  exact ⟨rfl, rfl⟩)
            obtain ⟨fq, hfq⟩ : ∃ fq, fq = decide (v.1 = y.1 ∧ v.2 = z.1) := ⟨_, rfl⟩
            rw [← hfq] at HF2
            have qn' : ∀ w, (binOp .eql (36) (.agg #[.int .u64 v.1, .int .u64 v.2]) (.agg #[.int .u64 y.1, .int .u64 z.1])).run Tryd.prog w = .ok (.bool fq) w := fun w => by rw [qn, hfq]
            clear qn hfq
            go_wp2_with fail
            go_quiet (fail)
            have HBU := Lib.hid (show Below w5.heap.size w5 (wr.drewN nq) from ⟨HBT.out.os, HBT.out.tape, HBT.out.output, HBT.out.size, HBT.out.block⟩)
            clear qn' qg
            go_wp2
            go_roundg (gk - 1)
            case measure => omega
            case rel => exact ⟨t + 1, fq, by omega, rfl, by go_num, HF2, HBU⟩
        case neg =>
          have htn2 : t = n := by omega
          subst htn2
          obtain rfl : f = true := HF.out.2 (by rw [HN.out, List.take_length]; exact HM.out)
          obtain ⟨y0, z0, z1⟩ := HK5.out wr HBT.out
          have hge : ¬ y.1 ≤ z.1 := by have := HLT.out; omega
          go_wp2_with fail
          go_quiet (fail)
          have HBU := Lib.hid (show Below w4.heap.size w4 (wr.drewN nq) from HBQ5.out.trans ((show Below w5.heap.size w5 (wr.drewN nq) from ⟨HBT.out.os, HBT.out.tape, HBT.out.output, HBT.out.size, HBT.out.block⟩).mono HBQ5.out.size))
          go_wp2
          go_roundg (gj - 1)
          case measure => have := HGJ.out; omega
          case rel => exact ⟨j + 1, by omega, by omega, by go_num, HBU⟩
end Go.Proofs.YtacibennmcegfaaDoor
