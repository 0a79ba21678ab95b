/- vectors: All. Condition: fewer than 100000 lines. -/
import Derived.Test.YtnnpheklgdbohaaOG
import Derived.Deep.RegionLaw
import Derived.Lib.AppendZeros
import Derived.Maps.AppendAt
namespace Go.Proofs.Ytnnpheklgdbohaa
open Go.RowKit Go.Shelf Go.Herb

/-- A point, a vector as it lies. -/
def pc (q : Int × Int) : List Value := [.int .u64 q.1, .int .u64 q.2]
theorem pc_len (q : Int × Int) : (pc q).length = 2 := rfl
structure Vc where
  line : Int
  a : Option Addr
  c : Nat
  ps : Bh
def vc (x : Vc) : List Value := [.int .u64 x.line, .slice x.a x.ps.length x.c]
theorem vc_len (x : Vc) : (vc x).length = 2 := rfl
abbrev Pts (w : World) (a : Option Addr) (ps : Bh) : Prop := Els pc 2 w a ps
abbrev OwnP (B : Nat) (w : World) (v : Value) (ps : Bh) : Prop := w.ownsRow B (34) 2 v ps.length (ps.flatMap pc)
abbrev OwnV (B : Nat) (w : World) (v : Value) (xs : List Vc) : Prop := w.ownsRow B (32) 2 v xs.length (xs.flatMap vc)

theorem wp_append_run {P : Program} {w : World} {o : Oper} {a : Act} {K : Act → World → Prop} {Q : Exit → Act → World → Prop} (s x : Operand) (t tn : TypeId) (ho : o.op = .call { callee := .builtin .append, args := #[s, x], argTypes := #[t, tn] })
    (vs vx : Value) (hs : a.eval s = vs) (hx : a.eval x = vx) (v' : Value) (w' : World) (hr : (Builtin.append_ #[t, tn] o.type #[vs, vx]).run P w = .ok v' w') (h : K (a.put o.dst v') w') : o.wp P a w K Q := by
  unfold Oper.wp execOp
  simp only [ho, resolve, invoke, builtin, Sem.run_bind, Sem.run_pure, Result.andThen_ok, List.map_toArray, List.map_cons, List.map_nil, hs, hx, hr]
  exact h
theorem step_append_run {P : Program} {w : World} {ops : Array Oper} {o : Oper} {a : Act} {K : Act → World → Prop} {Q : Exit → Act → World → Prop} {E : Prop} (hgd : o.guard = none) (s x : Operand) (t tn : TypeId) (ho : o.op = .call { callee := .builtin .append, args := #[s, x], argTypes := #[t, tn] })
    (vs vx : Value) (hs : a.eval s = vs) (hx : a.eval x = vx) (v' : Value) (w' : World) (hr : (Builtin.append_ #[t, tn] o.type #[vs, vx]).run P w = .ok v' w') (h : K (a.put o.dst v') w') :
    if Region.wanted o (yielded ops a.tmps) = true then Oper.wp P o a w K Q else E := by
  have hw : Region.wanted o (yielded ops a.tmps) = true := by simp [Region.wanted, hgd]
  rw [if_pos hw]
  exact wp_append_run s x t tn ho vs vx hs hx v' w' hr h
theorem infoP : (Try.prog.info? (34)).map (fun i => (i.zero, i.size, i.bytes)) = some (some (.agg #[.int .u64 0, .int .u64 0]), 2, 16) := by kernel_rfl
theorem infoV : (Try.prog.info? (32)).map (fun i => (i.zero, i.size, i.bytes)) = some (some (.agg #[.int .u64 0, .slice none 0 0]), 2, 32) := by kernel_rfl
theorem run_append_p (w : World) (B : Nat) (v : Value) (ys : Bh) (vb : Nat) (x : Int × Int) (ho : OwnP B w v ys) (hb : w.heap[vb]? = some (.cells #[.int .u64 x.1, .int .u64 x.2] (34) (0, 0))) (hx : ys.length < 1000000) (hB : B ≤ w.heap.size) (ty : TypeId) :
    ∃ v' w', (Builtin.append_ #[(30), (30)] ty #[v, .slice (some ⟨vb, 0, none⟩) 1 1]).run Try.prog w = .ok v' w' ∧ OwnP B w' v' (ys ++ [x]) ∧ w.grownBy w' v.ownBlock := by
  obtain ⟨i0, hin, hz0, hz1, hz2⟩ := info_parts infoP
  obtain ⟨v', w', hr, h2, h3, h4⟩ := run_append_own (P := Try.prog) w B (30) ty (34) i0 _ 2 16 Try.underlying30 hin hz0 hz1 hz2 rfl (by decide) v ys.length (ys.flatMap pc) ho ⟨vb, 0, none⟩ 1 1 (pc x) rfl (fun j u hj => by
      have : ((⟨vb, 0, none⟩ : Addr).add j) = ⟨vb, 0 + j, none⟩ := addr_add _ _ _
      rw [this, Nat.zero_add, cell_of_blk hb]
      simpa [pc] using hj) (by intro v hv; simp [pc] at hv; rcases hv with rfl | rfl <;> rfl) (by unfold maxLen; omega) (by omega) hB
  refine ⟨v', w', hr, ?_, h3⟩
  unfold OwnP
  rw [List.length_append, List.flatMap_append]
  simpa using h2
theorem run_append_v (w : World) (B : Nat) (v : Value) (ys : List Vc) (vb : Nat) (x : Vc) (ho : OwnV B w v ys) (hb : w.heap[vb]? = some (.cells #[.int .u64 x.line, .slice x.a x.ps.length x.c] (32) (0, 0))) (hx : ys.length < 1000000) (hB : B ≤ w.heap.size) (ty : TypeId) :
    ∃ v' w', (Builtin.append_ #[(22), (22)] ty #[v, .slice (some ⟨vb, 0, none⟩) 1 1]).run Try.prog w = .ok v' w' ∧ OwnV B w' v' (ys ++ [x]) ∧ w.grownBy w' v.ownBlock ∧ (v'.ownBlock = v.ownBlock ∨ v'.ownBlock = some w.heap.size) := by
  obtain ⟨i0, hin, hz0, hz1, hz2⟩ := info_parts infoV
  obtain ⟨v', w', hr, h2, h3, _, h5⟩ := run_append_own_at (P := Try.prog) (w := w) B (22) ty (32) i0 _ 2 32 Try.underlying22 hin hz0 hz1 hz2 rfl (by decide) v ys.length (ys.flatMap vc) ho ⟨vb, 0, none⟩ 1 1 (vc x) rfl (fun j u hj => by
      have : ((⟨vb, 0, none⟩ : Addr).add j) = ⟨vb, 0 + j, none⟩ := addr_add _ _ _
      rw [this, Nat.zero_add, cell_of_blk hb]
      simpa [vc] using hj) (by intro v hv; simp [vc] at hv; rcases hv with rfl | rfl <;> rfl) (by unfold maxLen; omega) (by omega) hB
  refine ⟨v', w', hr, ?_, h3, h5⟩
  unfold OwnV
  rw [List.length_append, List.flatMap_append]
  simpa using h2
theorem grown_own {a b c : World} {row r2 : Option Nat} (h : a.grownBy b row) (hg : b.grownBy c r2) (hr : ∀ k, r2 = some k → a.heap.size ≤ k) : a.grownBy c row :=
  ⟨hg.os.trans h.os, hg.tape.trans h.tape, hg.output.trans h.output, Nat.le_trans h.size hg.size, fun i hi hne => (hg.block i (Nat.lt_of_lt_of_le hi h.size) (fun e => by have := hr i e.symm; omega)).trans (h.block i hi hne)⟩
theorem clipP_any (a : Option Addr) (cap n : Nat) (w : World) (hn : a = none → n = 0 ∧ cap = 0) (hl : n < 1000000) (hle : n ≤ cap) (hm : cap ≤ maxLen) :
    Calls Try.prog (34) #[.slice a n cap] w fun e w' => e = .returned (.slice a n n) ∧ w = w' := by
  cases a with
  | none =>
    obtain ⟨rfl, rfl⟩ := hn rfl
    clear hn
    go_enter Try.func34, Try.ntmps34
    go_wp2
    go_ret
    exact ⟨rfl, rfl⟩
  | some ad =>
    clear hn
    unfold maxLen at hm
    go_enter Try.func34, Try.ntmps34
    go_wp2
    go_ret
    exact ⟨rfl, rfl⟩
theorem clipW_any (a : Option Addr) (cap n : Nat) (w : World) (hn : a = none → n = 0 ∧ cap = 0) (hl : n < 1000000) (hle : n ≤ cap) (hm : cap ≤ maxLen) :
    Calls Try.prog (35) #[.slice a n cap] w fun e w' => e = .returned (.slice a n n) ∧ w = w' := by
  cases a with
  | none =>
    obtain ⟨rfl, rfl⟩ := hn rfl
    clear hn
    go_enter Try.func35, Try.ntmps35
    go_wp2
    go_ret
    exact ⟨rfl, rfl⟩
  | some ad =>
    clear hn
    unfold maxLen at hm
    go_enter Try.func35, Try.ntmps35
    go_wp2
    go_ret
    exact ⟨rfl, rfl⟩

/-- A slice that a call owns: where it lies. -/
theorem own_parts {B e s n : Nat} {w : World} {v : Value} {xs : List Value} (h : w.ownsRow B e s v n xs) : ∃ a cap, v = .slice a n cap ∧ (a = none → n = 0 ∧ cap = 0) ∧ n ≤ cap ∧ cap ≤ maxLen ∧ ∀ ad, a = some ad → B ≤ ad.block ∧ ad.block < w.heap.size := by
  obtain ⟨h1, ⟨rfl, h2⟩ | ⟨g, cap, cur, rfl, hg, hh, hle, hm, _⟩⟩ := h
  · subst h2
    exact ⟨none, 0, rfl, fun _ => ⟨rfl, rfl⟩, Nat.le_refl _, Nat.zero_le _, fun ad h => by cases h⟩
  · exact ⟨some ⟨g, 0, none⟩, cap, rfl, (fun h => by cases h), hle, hm, fun ad h => by cases h; exact ⟨hg, lt_of_blk hh⟩⟩
/-- One line of the answer: its points lie in a block of their own, or there are none. -/
structure VcAt (B : Nat) (w : World) (x : Vc) : Prop where
  own : ∃ cap, OwnP B w (.slice x.a x.ps.length cap) x.ps
  cap : x.c = x.ps.length
theorem VcAt.kept {B : Nat} {w w' : World} {x : Vc} {row : Option Nat} (h : VcAt B w x) (hg : w.grownBy w' row) (hr : ∀ r, row = some r → x.a ≠ some ⟨r, 0, none⟩) : VcAt B w' x := by
  obtain ⟨cap, ho⟩ := h.own
  refine ⟨⟨cap, World.ownsRow.kept ho hg ?_⟩, h.cap⟩
  rcases row_of_owns ho with ⟨h1, _⟩ | ⟨g, cap, h1, _, _⟩
  · rw [h1]; exact .inl rfl
  · refine .inr (fun e => ?_)
    rw [h1] at e
    have h2 : x.a = some ⟨g, 0, none⟩ := by injection h1
    exact hr g e.symm h2
theorem VcAt.below {B : Nat} {w w' : World} {x : Vc} (h : VcAt B w x) (hb : Below w.heap.size w w') : VcAt B w' x := by
  obtain ⟨cap, ho⟩ := h.own
  exact ⟨⟨cap, ownsRow_below ho hb (Nat.le_refl _)⟩, h.cap⟩
theorem VcAt.mono {B B' : Nat} {w : World} {x : Vc} (h : VcAt B w x) (hb : B' ≤ B) : VcAt B' w x := by
  obtain ⟨cap, ho⟩ := h.own
  exact ⟨⟨cap, ownsRow_mono ho hb⟩, h.cap⟩
/-- What All answers. -/
def AllPost (L : Vs) (w : World) (e : Ending) (w' : World) : Prop :=
  ∃ (va : Option Addr) (vcap : Nat) (xs : List Vc), e = .returned (.slice va xs.length xs.length) ∧ xs.map (fun x => (x.line, x.ps)) = L ∧ OwnV w.heap.size w' (.slice va xs.length vcap) xs ∧ (∀ x ∈ xs, VcAt w.heap.size w' x ∧ ∀ r, va = some ⟨r, 0, none⟩ → x.a ≠ some ⟨r, 0, none⟩) ∧ Below w.heap.size w w'
theorem sorted_keys {β : Type} {L : List (Int × β)} (h : SrtK L) {ks : List Int} (hp : ks.Perm (L.map (·.1))) (hs : ks.Pairwise (· ≤ ·)) : ks = L.map (·.1) := by
  refine hp.eq_of_pairwise (fun _ _ _ _ h3 h4 => Int.le_antisymm h3 h4) hs ?_
  rw [List.pairwise_map]
  exact h.imp (fun h => Int.le_of_lt h)

set_option maxRecDepth 100000 in
set_option maxHeartbeats 1000000 in
theorem all_any (p mb : Nat) (M : List (Int × Nat)) (L : Vs) (w : World) (h : VecIs w p mb M L) (hG : GoodV L) (hS : Small L) :
    Calls Try.prog (11) #[.pointer (some ⟨p, 0, none⟩)] w (AllPost L w) := by
  have H := Lib.hid h
  have HG := Lib.hid hG
  have HS := Lib.hid hS
  have c0 := cell_of_blk h.blk 0
  simp at c0
  have HML := Lib.hid (show M.length < 1000000 by have := h.len; have := hS.len; omega)
  clear h hG hS
  go_enter Try.func11, Try.ntmps11
  go_wp2_with fail
  refine (there_any p mb w H.out.blk).mono ?_
  rintro e w' ⟨rfl, rfl⟩
  go_wp2_with fail
  refine (keysM_any mb w).mono ?_
  rintro e w1 ⟨bl, rfl, hb1, hbl⟩
  have HB1 := Lib.hid hb1
  have HBL := Lib.hid hbl
  clear hb1 hbl c0
  go_wp2_with fail
  refine (sortedM_any bl mb M HML.out w1 HBL.out (H.out.below HB1.out).out).mono ?_
  rintro e w2 ⟨ka, kc, ks, rfl, hkl, hkp, hks, hke, hkn, hb2, hkb⟩
  have hkk := sorted_keys HG.out.srt (hkp.trans H.out.keys) hks
  have hML : M.length = L.length := H.out.len
  have HB2 := Lib.hid (HB1.out.trans (hb2.mono HB1.out.size))
  have HKE := Lib.hid hke
  have HKK := Lib.hid hkk
  have HKL := Lib.hid hkl
  rw [hML]
  clear hkl hkp hks hke hkn hb2 hkk hML hkb HB1 HBL
  go_wp2_with fail
  go_loopg [2, 18] L.length (fun gk ov iv wr => ∃ (k : Nat) (xs : List Vc), k + gk = L.length ∧ iv = .int .i64 k ∧ Hid (xs.map (fun x => (x.line, x.ps)) = L.take k) ∧ OwnV w2.heap.size wr ov xs ∧ Hid (∀ x ∈ xs, VcAt w2.heap.size wr x ∧ ∀ r, ov.ownBlock = some r → x.a ≠ some ⟨r, 0, none⟩) ∧ Below w2.heap.size w2 wr)
  case atStart => exact ⟨0, [], by omega, rfl, Lib.hid rfl, World.ownsRow_nil _ _ _ _, Lib.hid (by simp), Below.refl _ _⟩
  case round =>
    obtain ⟨k, xs, hk, rfl, HXS, hown, HAT, hbk⟩ := hrel
    have HBK := Lib.hid hbk
    have hsk := hbk.size
    obtain ⟨va, vcap, rfl, hvn, hvle, hvm, hvb⟩ := own_parts hown
    have hxl : xs.length = k := by have := congrArg List.length HXS.out; simp at this; omega
    have HOWN := Lib.hid hown
    have HVP := Lib.hid (show (va = none → xs.length = 0 ∧ vcap = 0) ∧ xs.length ≤ vcap ∧ vcap ≤ maxLen ∧ ∀ ad, va = some ad → w2.heap.size ≤ ad.block ∧ ad.block < wr.heap.size from ⟨hvn, hvle, hvm, hvb⟩)
    have HXL := Lib.hid hxl
    clear hbk hown hvn hvle hvm hvb hxl
    by_cases hlt : k < L.length
    · obtain ⟨b, o, rfl, hlb, hcell⟩ := HKE.out.get k (by have := HKL.out; have := H.out.len; omega)
      have hkx : ks[k]'(by have := HKL.out; have := H.out.len; omega) = L[k].1 := by
        have := HKK.out
        subst this
        simp
      have hx0 := (HBK.out.cell (p := ⟨b, _, none⟩) hlb).trans (hcell 0 _ rfl)
      rw [hkx] at hx0
      simp only [Nat.add_zero, Nat.mul_one] at hx0
      have hk0 : (0 : Int) ≤ (k : Int) := by omega
      have hk1 : (k : Int) < (L.length : Int) := by omega
      have HTK := Lib.hid (show L.take (k + 1) = L.take k ++ [L[k]] from List.take_succ_eq_append_getElem hlt)
      have HMEM := Lib.hid (List.getElem_mem hlt)
      clear hcell hkx
      generalize L[k] = lb at *
      obtain ⟨line, bh⟩ := lb
      have hgL : getL L line = some bh := (getL_some HG.out.srt.nodup).2 HMEM.out
      have hbG := HG.out.get hgL
      have hbS := HS.out.get hgL
      have hv5 : VecIs wr p mb M L := H.out.below (HB2.out.trans (HBK.out.mono HB2.out.size))
      obtain ⟨ib, m, hg2, hM, hpm⟩ := H.out.has hgL
      obtain ⟨kl, hkl⟩ := keyU hbG.2
      have W0B : Hid (∀ u, Below w.heap.size w u → VecIs u p mb M L ∧ MapU u ib m ∧ u.cell? ⟨p, 0, none⟩ = some (.map (some mb)) ∧ (Instr.lookup (58) (.map (some mb)) (eU line) false).run Try.prog u = .ok (.map (some ib)) u) := Lib.hid (fun u hu => by
        have h1 := H.out.below hu
        have h2 := cell_of_blk h1.blk 0
        have h3 := (h1.out.look lawU eU_inj Try.underlying58 (zeroB _) hkl).1
        rw [hg2] at h3
        exact ⟨h1, hM.same (hu.block _ hM.lt), by simpa using h2, h3⟩)
      have HBG := Lib.hid hbG
      have HPM := Lib.hid hpm
      have hml : m.length < 1000000 := by have := hpm.length_eq; omega
      have HBL := Lib.hid (show m.length = bh.length from hpm.length_eq)
      obtain ⟨X, hX⟩ : ∃ X : World, X = wr.alloc (.cells #[.int .u64 line, .slice none 0 0] (32)) := ⟨_, rfl⟩
      have hXB : Below wr.heap.size wr X := by rw [hX]; exact (Below.refl _ _).alloc (Nat.le_refl _) _
      have hXs : X.heap.size = wr.heap.size + 1 := by rw [hX]; simp
      have hXx : X.heap[wr.heap.size]? = some (.cells #[.int .u64 line, .slice none 0 0] (32) (0, 0)) := by rw [hX]; exact blk_new_at rfl _
      have HXB := Lib.hid (HB2.out.trans ((HBK.out.trans (hXB.mono hsk)).mono HB2.out.size))
      obtain ⟨hx1, hx2, hx3, hx4⟩ := W0B.out X HXB.out
      rw [hX] at hx3 hx4
      have HXB2 := Lib.hid hXB
      have HXX := Lib.hid hXx
      have HXS2 := Lib.hid hXs
      clear hgL hbG hv5 hg2 hM hpm hkl hx1 hx2 hXB hXx hXs
      go_wp2_with fail
      rw [← hX] at hx3 hx4 ⊢
      clear hX
      refine (keysB_any ib X).mono ?_
      rintro e w5 ⟨bl2, rfl, hb5, hbl2⟩
      have HB5 := Lib.hid hb5
      have HBL2 := Lib.hid hbl2
      clear hb5 hbl2 hx3 hx4 hx0 hk0 hk1
      go_wp2_with fail
      refine (sortedB_any bl2 ib m hml w5 HBL2.out ((W0B.out w5 (HXB.out.trans (HB5.out.mono HXB.out.size))).2.1)).mono ?_
      rintro e w6 ⟨ja, jc, js, rfl, hjl, hjp, hjs, hje, hjn, hb6, hjb⟩
      have hjk := sorted_keys HBG.out.1.srt (hjp.trans (HPM.out.map _)) hjs
      have hmb : m.length = bh.length := HBL.out
      have HX6 := Lib.hid (HB5.out.trans (hb6.mono HB5.out.size))
      have HJE := Lib.hid hje
      have HJK := Lib.hid hjk
      have HJL := Lib.hid hjl
      have HJB := Lib.hid (show ∀ ad, ja = some ad → X.heap.size ≤ ad.block from fun ad h => Nat.le_trans HB5.out.size (hjb ad h))
      rw [hmb]
      clear hjl hjp hjs hje hjn hb6 hjk hmb hjb HB5 HBL2 hml
      have hXW : X.heap.size ≤ w6.heap.size := HX6.out.size
      have hwX : wr.heap.size < X.heap.size := by rw [HXS2.out]; omega
      go_wp2_with fail
      obtain ⟨g1, rfl⟩ : ∃ g1 : Nat, g1 = gk := ⟨_, rfl⟩
      obtain ⟨wo, rfl⟩ : ∃ wo : World, wo = wr := ⟨_, rfl⟩
      go_loopg [33] bh.length (fun gk jv wr => ∃ (j : Nat) (pa : Option Addr) (pn pcap : Nat), j + gk = bh.length ∧ jv = .int .i64 j ∧ wr.heap[wo.heap.size]? = some (.cells #[.int .u64 line, .slice pa pn pcap] (32) (0, 0)) ∧ Hid (OwnP w6.heap.size wr (.slice pa pn pcap) (bh.take j)) ∧ Hid (w6.grownBy wr (some wo.heap.size)) ∧ w6.heap.size ≤ wr.heap.size)
      case atStart => exact ⟨0, none, 0, 0, by omega, rfl, blk_below HXX.out HX6.out (by omega), Lib.hid (World.ownsRow_nil _ _ _ _), Lib.hid (grown_refl _ _), Nat.le_refl _⟩
      case round =>
        obtain ⟨j, pa, pn, pcap, hj, rfl, hbx, HPO, HGW, hw6⟩ := hrel
        have HWB := Lib.hid (show Below wo.heap.size wo wr from (HXB2.out.trans (HX6.out.mono (by omega))).grown HGW.out (by omega) (fun k e => by injection e with e; omega))
        have HWW := Lib.hid (HB2.out.trans ((HBK.out.trans (HWB.out.mono hsk)).mono HB2.out.size))
        by_cases hjl : j < bh.length
        · obtain ⟨b, o, rfl, hlb, hcell⟩ := HJE.out.get j (by have := HJL.out; have := HBL.out; omega)
          have hjx : js[j]'(by have := HJL.out; have := HBL.out; omega) = bh[j].1 := by
            have := HJK.out
            subst this
            simp
          have hbne : b ≠ wo.heap.size := by have := HJB.out _ rfl; simp only at this; omega
          have hx0 := (World.cell?_of_block (w := w6) (w' := wr) (a := ⟨b, _, none⟩) (HGW.out.block b hlb (fun e => by injection e with e; exact hbne e))).trans (hcell 0 _ rfl)
          rw [hjx] at hx0
          simp only [Nat.add_zero, Nat.mul_one] at hx0
          have hj0 : (0 : Int) ≤ (j : Int) := by omega
          have hj1 : (j : Int) < (bh.length : Int) := by omega
          have HTJ := Lib.hid (show bh.take (j + 1) = bh.take j ++ [bh[j]] from List.take_succ_eq_append_getElem hjl)
          have HJM := Lib.hid (List.getElem_mem hjl)
          clear hcell hjx hbne
          generalize bh[j] = q at *
          obtain ⟨kk, s⟩ := q
          have hqw := HBG.out.1.wf _ HJM.out
          obtain ⟨klk, hklk⟩ := keyU hqw.1
          have hmem : (kk, s) ∈ m := HPM.out.mem_iff.2 HJM.out
          have WL : ∀ u, Below w.heap.size w u → u.cell? ⟨p, 0, none⟩ = some (.map (some mb)) ∧ (Instr.lookup (58) (.map (some mb)) (eU line) false).run Try.prog u = .ok (.map (some ib)) u ∧ (Instr.lookup (72) (.map (some ib)) (eU kk) false).run Try.prog u = .ok (.int .u64 s) u := fun u hu => by
            obtain ⟨_, h2, h3, h4⟩ := W0B.out u hu
            have h5 := (h2.look lawU eU_inj Try.underlying72 (zeroU _) hklk).1
            rw [(getL_some h2.nodup).2 hmem] at h5
            exact ⟨h3, h4, h5⟩
          obtain ⟨X1, hX1⟩ : ∃ X1 : World, X1 = (wr.alloc (.cells #[.int .u64 kk, .int .u64 s] (34))).drew := ⟨_, rfl⟩
          have hX1b : Below wr.heap.size wr X1 := by rw [hX1]; exact ((Below.refl _ _).alloc (Nat.le_refl _) _).drew
          have hX1s : X1.heap.size = wr.heap.size + 1 := by rw [hX1]; show (wr.alloc _).heap.size = _; simp
          have hX1p : X1.heap[wr.heap.size]? = some (.cells #[.int .u64 kk, .int .u64 s] (34) (0, 0)) := by rw [hX1]; exact blk_new_at rfl _
          obtain ⟨a1, a2, a3⟩ := WL wr.drew HWW.out.drew
          obtain ⟨e1, e2, e3⟩ := WL X1 (HWW.out.trans (hX1b.mono HWW.out.size))
          have hbx1 := blk_below hbx hX1b (lt_of_blk hbx)
          have hOX := ownsRow_below HPO.out hX1b (Nat.le_refl _)
          have htl : (bh.take j).length < 1000000 := by simp; omega
          obtain ⟨v', w7, hrun, hO7, hg7⟩ := run_append_p X1 w6.heap.size (.slice pa pn pcap) (bh.take j) wr.heap.size (kk, s) hOX hX1p htl (by omega) (30)
          obtain ⟨na, ncap, rfl, hn1, hn2, hn3, hn4⟩ := own_parts hO7
          have hbxne : some wo.heap.size ≠ (Value.slice pa pn pcap).ownBlock := fun e => by have := (World.ownsRow.lt hOX _ e.symm).1; omega
          have hbx7 := (hg7.block _ (by have := lt_of_blk hbx; omega) hbxne).trans hbx1
          have b0 := cell_of_blk (show wr.drew.heap[wo.heap.size]? = _ from hbx) 1
          have b1 := cell_of_blk hbx1 1
          have b7 := cell_of_blk hbx7 1
          have f7 := frozen_of_blk hbx7 1
          simp at b0 b1 b7
          have hs1 : wo.heap.size < wr.heap.size := lt_of_blk hbx
          have hgr : w6.grownBy w7 (some wo.heap.size) := grown_own (grown_trans HGW.out (grown_of_below hX1b)) hg7 (fun k e => (World.ownsRow.lt hOX k e).1)
          have HGR := Lib.hid (show w6.grownBy (w7.setCell ⟨wo.heap.size, 1, none⟩ (.slice na (bh.take j ++ [(kk, s)]).length ncap)) (some wo.heap.size) from grown_set hgr 1 _)
          have HNX := Lib.hid (show (w7.setCell ⟨wo.heap.size, 1, none⟩ (.slice na (bh.take j ++ [(kk, s)]).length ncap)).heap[wo.heap.size]? = some (.cells #[.int .u64 line, .slice na (bh.take j ++ [(kk, s)]).length ncap] (32) (0, 0)) from by have := blk_setCell (j := 1) hbx7 (.slice na (bh.take j ++ [(kk, s)]).length ncap); simpa using this)
          have HNO := Lib.hid (show OwnP w6.heap.size (w7.setCell ⟨wo.heap.size, 1, none⟩ (.slice na (bh.take j ++ [(kk, s)]).length ncap)) (.slice na (bh.take j ++ [(kk, s)]).length ncap) (bh.take j ++ [(kk, s)]) from World.ownsRow.kept hO7 (grown_set (grown_refl _ _) 1 _) (.inr (fun e => by have := (World.ownsRow.lt hO7 _ e).1; omega)))
          have HNS := Lib.hid (show w6.heap.size ≤ (w7.setCell ⟨wo.heap.size, 1, none⟩ (.slice na (bh.take j ++ [(kk, s)]).length ncap)).heap.size from by have := hg7.size; simp; omega)
          obtain ⟨nl, hnl⟩ : ∃ nl, nl = (bh.take j ++ [(kk, s)]).length := ⟨_, rfl⟩
          rw [← hnl] at hrun HGR HNX HNO HNS
          rw [hX1] at hrun
          have HRUN := Lib.hid hrun
          rw [hX1] at e1 e2 e3 b1
          clear hX1 hX1b hX1s hX1p hbx1 hOX htl hO7 hg7 hbxne hbx7 hgr hn1 hn2 hn3 hn4 WL hmem hklk hqw hnl hbx hrun
          go_wp2_with fail
          go_region_law (refine step_append_run rfl (.tmp 38) (.tmp 49) (30) (30) rfl (.slice pa pn pcap) (.slice (some ⟨wr.heap.size, 0, none⟩) 1 1) (by simp [Act.eval]) (by simp [Act.eval]) _ _ (HRUN.out) ?_)
          all_goals
            clear a1 a2 a3 e1 e2 e3 b0 b1 b7 f7
            go_wp2
            go_roundg (gk - 1)
            case measure => omega
            case rel => exact ⟨j + 1, na, nl, ncap, by omega, by go_num, HNX.out, Lib.hid (by rw [HTJ.out]; exact HNO.out), HGR, HNS.out⟩
        · have hje : j = bh.length := by omega
          have hO6 : OwnP w6.heap.size wr (.slice pa pn pcap) bh := by have := HPO.out; rwa [hje, List.take_length] at this
          obtain ⟨pa', pcap', hpe, hn1, hn2, hn3, hn4⟩ := own_parts hO6
          injection hpe with hpe1 hpe2 hpe3
          subst hpe1 hpe2 hpe3
          have b1 := cell_of_blk hbx 1
          have b0 := cell_of_blk hbx 0
          have f1 := frozen_of_blk hbx 1
          simp at b0 b1
          have hs1 : wo.heap.size < wr.heap.size := lt_of_blk hbx
          obtain ⟨Y, hY⟩ : ∃ Y : World, Y = wr.setCell ⟨wo.heap.size, 1, none⟩ (.slice pa bh.length bh.length) := ⟨_, rfl⟩
          have hYs : Y.heap.size = wr.heap.size := by rw [hY]; simp
          have hYx : Y.heap[wo.heap.size]? = some (.cells #[.int .u64 line, .slice pa bh.length bh.length] (32) (0, 0)) := by rw [hY]; have := blk_setCell (j := 1) hbx (.slice pa bh.length bh.length); simpa using this
          have hYg : wr.grownBy Y (some wo.heap.size) := by rw [hY]; exact grown_set (grown_refl _ _) 1 _
          have hYo : OwnP w6.heap.size Y (.slice pa bh.length pcap) bh := World.ownsRow.kept hO6 hYg (.inr (fun e => by have := (World.ownsRow.lt hO6 _ e).1; omega))
          have hYb : Below wo.heap.size wo Y := HWB.out.grown hYg (by omega) (fun k e => by injection e with e; omega)
          obtain ⟨Z, hZ⟩ : ∃ Z : World, Z = Y.alloc (.cells #[.int .u64 line, .slice pa bh.length bh.length] (32)) := ⟨_, rfl⟩
          have hZb : Below Y.heap.size Y Z := by rw [hZ]; exact (Below.refl _ _).alloc (Nat.le_refl _) _
          have hZs : Z.heap.size = Y.heap.size + 1 := by rw [hZ]; simp
          have hZx : Z.heap[Y.heap.size]? = some (.cells #[.int .u64 line, .slice pa bh.length bh.length] (32) (0, 0)) := by rw [hZ]; exact blk_new_at rfl _
          have hwZ : Below wo.heap.size wo Z := hYb.trans (hZb.mono (by omega))
          obtain ⟨v'', w9, hrun, hO9, hg9, hown9⟩ := run_append_v Z w2.heap.size (.slice va xs.length vcap) xs Y.heap.size ⟨line, pa, bh.length, bh⟩ (ownsRow_below HOWN.out hwZ (Nat.le_refl _)) hZx (by have := HXL.out; have := HS.out.len; omega) (by omega) (22)
          have hvb : ∀ k, (Value.slice va xs.length vcap).ownBlock = some k → w2.heap.size ≤ k ∧ k < wo.heap.size := fun k e => World.ownsRow.lt HOWN.out k e
          have hbn : Below w2.heap.size w2 w9 := (HBK.out.trans (hwZ.mono hsk)).grown hg9 (by omega) (fun k e => (hvb k e).1)
          have hnew : VcAt w2.heap.size w9 ⟨line, pa, bh.length, bh⟩ := VcAt.kept (row := (Value.slice va xs.length vcap).ownBlock) ⟨⟨pcap, ownsRow_mono (ownsRow_below hYo hZb (Nat.le_refl _)) (by omega)⟩, rfl⟩ hg9 (fun r e h => by have := (hvb r e).2; have := (hn4 _ h).1; simp only at this; omega)
          have hat9 : ∀ x ∈ xs ++ [⟨line, pa, bh.length, bh⟩], VcAt w2.heap.size w9 x ∧ ∀ r, v''.ownBlock = some r → x.a ≠ some ⟨r, 0, none⟩ := fun x hx => by
            rcases List.mem_append.1 hx with hx | hx
            · obtain ⟨h1, h2⟩ := HAT.out x hx
              refine ⟨(h1.below hwZ).kept hg9 h2, fun r e => ?_⟩
              rcases hown9 with h | h
              · exact h2 r (by rw [← h]; exact e)
              · rw [h] at e
                injection e with e
                obtain ⟨cp, ho⟩ := h1.own
                intro ha
                have := (World.ownsRow.lt ho r (by rw [ha]; rfl)).2
                omega
            · rw [List.mem_singleton.1 hx]
              refine ⟨hnew, fun r e ha => ?_⟩
              simp only at ha
              have h3 := hn4 _ ha
              simp only at h3
              rcases hown9 with h | h
              · have := (hvb r (by rw [← h]; exact e)).2; omega
              · rw [h] at e; injection e with e; omega
          have HO9 := Lib.hid hO9
          have HBN := Lib.hid hbn
          have HAT9 := Lib.hid hat9
          have HXN := Lib.hid (show (xs ++ [(⟨line, pa, bh.length, bh⟩ : Vc)]).map (fun x => (x.line, x.ps)) = L.take (k + 1) from by rw [List.map_append, HXS.out, HTK.out]; rfl)
          have hk2 : k + 1 + (g1 - 1) = L.length := by omega
          have hgk : 0 < g1 := by omega
          have hkb : k < 1000000 := by have := HS.out.len; omega
          rw [hZ] at hrun
          rw [hYs] at hrun
          rw [hY] at hrun
          have HRUN := Lib.hid hrun
          have hdl : bh.length < 1000000 := by omega
          have HCL := Lib.hid (clipP_any pa pcap bh.length wr hn1 hdl hn2 hn3)
          clear hO6 hn1 hn2 hn3 hn4 hY hYs hYx hYg hYo hYb hZ hZb hZs hZx hwZ hrun hO9 hg9 hown9 hvb hbn hnew hat9 hbx hdl hje
          go_wp2_with fail
          refine (HCL.out).mono ?_
          rintro e w' ⟨rfl, rfl⟩
          go_wp2_with (at_builtin; refine Lib.wpList_append_run _ rfl _ _ _ _ rfl _ _ rfl rfl _ _ (HRUN.out) ?_)
          go_roundg (g1 - 1)
          case measure => omega
          case rel => exact ⟨k + 1, xs ++ [⟨line, pa, bh.length, bh⟩], hk2, by go_num, HXN.out |> Lib.hid, HO9.out, HAT9, HBN.out⟩
    · have hke : k = L.length := by omega
      have HE : Hid (AllPost L w (.returned (.slice va xs.length xs.length)) wr) := Lib.hid ⟨va, vcap, xs, rfl, by rw [HXS.out, hke, List.take_length], ownsRow_mono HOWN.out HB2.out.size, fun x hx => by
        obtain ⟨h1, h2⟩ := HAT.out x hx
        exact ⟨h1.mono HB2.out.size, fun r e => h2 r (by rw [e]; rfl)⟩, HB2.out.trans (HBK.out.mono HB2.out.size)⟩
      have HCL := Lib.hid (clipW_any va vcap xs.length wr HVP.out.1 (by have := HXL.out; have := HS.out.len; omega) HVP.out.2.1 HVP.out.2.2.1)
      clear hke
      go_wp2_with fail
      refine (HCL.out).mono ?_
      rintro e w' ⟨rfl, rfl⟩
      go_wp2
      go_ret
      exact HE.out
end Go.Proofs.Ytnnpheklgdbohaa
