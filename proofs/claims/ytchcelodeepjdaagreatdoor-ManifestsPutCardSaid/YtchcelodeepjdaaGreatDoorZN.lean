/- manifests: laying's root. Condition: a small root, its names not empty. · manifests: laying's shelves of no shelves; Put of a root, whole. Condition: a small root. -/
import Derived.Test.YtchcelodeepjdaaGreatDoorZL
import Derived.Test.YtchcelodeepjdaaGreatDoorZI
namespace Go.Proofs.YtchcelodeepjdaaGreatDoor.Ln
open Go.RowKit Go.Shelf Go.Herb

theorem els_lit {w : World} {g : Nat} (ns : List Int) (h : w.heap[g]? = some (.cells (ns.flatMap Vx.nu).toArray (26) (0, 0))) : Els Vx.nu 1 w (some ⟨g, 0, none⟩) ns := els_of_blk Vx.nu_len h
/-- Numbers that stand in a row just made. -/
theorem nums_lit (p : Nat) (bs : List Int) (ns : List Int) (n : Nat) (cs : Array Value) (w : World) (hL : LayAt w p bs) (hcs : cs = (ns.flatMap Vx.nu).toArray) (hn : ns.length = n) (hw : ∀ x ∈ ns, U64 x) (hl : bs.length + 10 * n < 800000000) :
    Calls Tryz.prog (41) #[.pointer (some ⟨p, 0, none⟩), .slice (some ⟨w.heap.size, 0, none⟩) n n] (w.alloc (.cells cs (26))) (LayPost p (bs ++ numsL ns) w) := by
  have hb : Below w.heap.size w (w.alloc (.cells cs (26))) := (Below.refl _ _).alloc (Nat.le_refl _) _
  have hlt := hL.lt
  refine (nums_any p bs (some ⟨w.heap.size, 0, none⟩) n n ns _ (hL.ext hb) (els_lit ns (by rw [hcs]; exact blk_new_at rfl _)) hn (fun ad h => by cases h; show w.heap.size ≠ p; omega) hw hl).mono ?_
  rintro e w' ⟨rfl, h1, h2⟩
  exact ⟨rfl, h1, (TurnI.of_below hb).trans h2⟩
theorem nums4 (p g : Nat) (bs : List Int) (a b c d : Int) (w : World) (hg : g = w.heap.size) (hL : LayAt w p bs) (ha : U64 a) (hb : U64 b) (hc : U64 c) (hd : U64 d) (hl : bs.length < 700000000) :
    Calls Tryz.prog (41) #[.pointer (some ⟨p, 0, none⟩), .slice (some ⟨g, 0, none⟩) 4 4] (w.alloc (.cells #[.int .u64 a, .int .u64 b, .int .u64 c, .int .u64 d] (26))) (LayPost p (bs ++ numsL [a, b, c, d]) w) := by
  subst hg
  exact nums_lit p bs [a, b, c, d] 4 _ w hL rfl rfl (by intro x hx; simp only [List.mem_cons, List.not_mem_nil, or_false] at hx; rcases hx with rfl | rfl | rfl | rfl <;> assumption) (by omega)
theorem nums2 (p g : Nat) (bs : List Int) (a b : Int) (w : World) (hg : g = w.heap.size) (hL : LayAt w p bs) (ha : U64 a) (hb : U64 b) (hl : bs.length < 700000000) :
    Calls Tryz.prog (41) #[.pointer (some ⟨p, 0, none⟩), .slice (some ⟨g, 0, none⟩) 2 2] (w.alloc (.cells #[.int .u64 a, .int .u64 b] (26))) (LayPost p (bs ++ numsL [a, b]) w) := by
  subst hg
  exact nums_lit p bs [a, b] 2 _ w hL rfl rfl (by intro x hx; simp only [List.mem_cons, List.not_mem_nil, or_false] at hx; rcases hx with rfl | rfl <;> assumption) (by omega)
theorem nums1 (p g : Nat) (bs : List Int) (a : Int) (w : World) (hg : g = w.heap.size) (hL : LayAt w p bs) (ha : U64 a) (hl : bs.length < 700000000) :
    Calls Tryz.prog (41) #[.pointer (some ⟨p, 0, none⟩), .slice (some ⟨g, 0, none⟩) 1 1] (w.alloc (.cells #[.int .u64 a] (26))) (LayPost p (bs ++ numsL [a]) w) := by
  subst hg
  exact nums_lit p bs [a] 1 _ w hL rfl rfl (by intro x hx; rw [List.mem_singleton.1 hx]; exact ha) (by omega)
theorem text_at (p : Nat) (bs : List Int) (s : ByteArray) (w : World) (hL : LayAt w p bs) (hl : bs.length + s.size < 800000000) (hs : 0 < s.size) :
    Calls Tryz.prog (78) #[.pointer (some ⟨p, 0, none⟩), .string s] w (LayPost p (bs ++ putT s) w) := text_any p bs s w hL hl hs
theorem putT_len (s : ByteArray) (h : s.size < 1000000) : (putT s).length ≤ 10 + s.size := by
  unfold putT
  rw [List.length_append, strL_len]
  have := putN_len s.size (by omega)
  omega
theorem u64_len {n : Nat} (h : n < 1000000000) : U64 (n : Int) := by
  unfold U64
  simp [Lit.wf, IntKind.min, IntKind.max, IntKind.signed, IntKind.bits]
  omega
theorem wrap_len {n : Nat} (h : n < 1000000000) : IntKind.u64.wrap (n : Int) = (n : Int) := by rw [IntKind.wrap_u64]; omega
theorem flat_len {α : Type} {f : α → List Int} {M : Nat} {l : List α} (h : ∀ x ∈ l, (f x).length ≤ M) : (l.flatMap f).length ≤ l.length * M := by
  induction l with
  | nil => simp
  | cons a l ih =>
    have h1 := ih (fun x hx => h x (List.mem_cons_of_mem _ hx))
    have h2 := h a List.mem_cons_self
    rw [List.flatMap_cons, List.length_append, List.length_cons, Nat.succ_mul]
    omega
theorem numsL_two (a b : Int) : numsL [a, b] = putN a.toNat ++ putN b.toNat := by simp [numsL]
theorem num_len {x : Int} (h : U64 x) : (putN x.toNat).length ≤ 10 := putN_len _ (by have := u64_nat h; omega)
/-- A root whose record is no great one. -/
structure LaidR (w : World) (r : Rv) : Prop where
  inn : RtIn w r
  bs : r.bs.length ≤ 100
  ls : r.ls.length ≤ 100
  vs : r.vs.length ≤ 12
  names : ∀ x ∈ r.bs, 0 < x.1.size ∧ x.1.size ≤ 1000
  pts : ∀ x ∈ r.vs, x.ps.length ≤ 1000000
theorem brL_len {x : Br} (h : x.1.size ≤ 1000) (h1 : U64 x.2.1) (h2 : U64 x.2.2) : (brL x).length ≤ 2000 := by
  have e1 := putT_len x.1 (by omega)
  have e2 := num_len h1
  have e3 := num_len h2
  unfold brL
  rw [List.length_append, numsL_two, List.length_append]
  omega
theorem two_len {a b : Int} (h1 : U64 a) (h2 : U64 b) : (numsL [a, b]).length ≤ 20 := by
  have e2 := num_len h1
  have e3 := num_len h2
  rw [numsL_two, List.length_append]
  omega
theorem vcL_len {x : Vx.Vc} (h : x.ps.length ≤ 1000000) (h1 : U64 x.line) (h2 : ∀ q ∈ x.ps, U64 q.1 ∧ U64 q.2) : (vcL (x.line, x.ps)).length ≤ 20000020 := by
  have e1 := two_len h1 (u64_len (n := x.ps.length) (by omega))
  have e2 := flat_len (f := ptL) (M := 20) (l := x.ps) (fun q hq => two_len (h2 q hq).1 (h2 q hq).2)
  unfold vcL
  rw [List.length_append]
  have e3 : x.ps.length * 20 ≤ 20000000 := by omega
  have e4 : (numsL [((x.line, x.ps) : Int × Bh).1, (((x.line, x.ps) : Int × Bh).2.length : Int)]).length ≤ 20 := e1
  have e5 : (((x.line, x.ps) : Int × Bh).2.flatMap ptL).length ≤ x.ps.length * 20 := e2
  omega
/-- The blocks that the record's laying leaves. -/
theorem blk_turn {p g : Nat} {A B : World} {o : Obj} (h : A.heap[g]? = some o) (ht : TurnI p A B) (hg : g ≠ p) : B.heap[g]? = some o := ht.kept g o h hg
set_option maxRecDepth 100000 in
set_option maxHeartbeats 4000000 in
theorem root_any (p : Nat) (bs : List Int) (r : Rv) (w0 w : World) (hL : LayAt w p bs) (h : LaidR w0 r) (hB : Below w0.heap.size w0 w) (hp : w0.heap.size ≤ p) (hl : bs.length ≤ 1000) :
    Calls Tryz.prog (37) #[.pointer (some ⟨p, 0, none⟩), rtV r] w (LayPost p (bs ++ headL r.says) w) := by
  obtain ⟨nb, hnb⟩ : ∃ n, n = r.bs.length := ⟨_, rfl⟩
  obtain ⟨nl, hnl⟩ : ∃ n, n = r.ls.length := ⟨_, rfl⟩
  obtain ⟨nv, hnv⟩ : ∃ n, n = r.vs.length := ⟨_, rfl⟩
  obtain ⟨v6, hv6⟩ : ∃ v, v = Value.slice r.sa r.sh.length r.sc := ⟨_, rfl⟩
  have hrt : rtV r = .agg #[.int .u64 r.seq, .int .u64 r.log, .int .u64 r.next, .slice r.ba nb r.bc, .slice r.la nl r.lc, .slice r.va nv r.vc, v6] := by rw [hv6, hnb, hnl, hnv]
  have o6 : v6.oneCell' = true := by rw [hv6]; rfl
  have hnb1 : nb ≤ 100 := by rw [hnb]; exact h.bs
  have hnl1 : nl ≤ 100 := by rw [hnl]; exact h.ls
  have hnv1 : nv ≤ 12 := by rw [hnv]; exact h.vs
  obtain ⟨W, hW⟩ : ∃ W : World, W = w.alloc (.cells #[.int .u64 r.seq, .int .u64 r.log, .int .u64 r.next, .slice r.ba nb r.bc, .slice r.la nl r.lc, .slice r.va nv r.vc, v6] (32)) := ⟨_, rfl⟩
  have hBW : Below w.heap.size w W := by rw [hW]; exact (Below.refl _ _).alloc (Nat.le_refl _) _
  have hx0 : W.heap[w.heap.size]? = some (.cells #[.int .u64 r.seq, .int .u64 r.log, .int .u64 r.next, .slice r.ba nb r.bc, .slice r.la nl r.lc, .slice r.va nv r.vc, v6] (32) (0, 0)) := by rw [hW]; exact blk_new_at rfl _
  have hpw := hL.lt
  have hWs : W.heap.size = w.heap.size + 1 := by rw [hW]; simp
  have HC : Hid (∀ u, TurnI p W u → u.cell? ⟨w.heap.size, 0, none⟩ = some (.int .u64 r.seq) ∧ u.cell? ⟨w.heap.size, 1, none⟩ = some (.int .u64 r.log) ∧ u.cell? ⟨w.heap.size, 2, none⟩ = some (.int .u64 r.next) ∧ u.cell? ⟨w.heap.size, 3, none⟩ = some (.slice r.ba nb r.bc) ∧ u.cell? ⟨w.heap.size, 4, none⟩ = some (.slice r.la nl r.lc) ∧ u.cell? ⟨w.heap.size, 5, none⟩ = some (.slice r.va nv r.vc)) := Lib.hid (fun u hu => by
    have hq := blk_turn hx0 hu (by omega)
    have q0 := cell_of_blk hq 0
    have q1 := cell_of_blk hq 1
    have q2 := cell_of_blk hq 2
    have q3 := cell_of_blk hq 3
    have q4 := cell_of_blk hq 4
    have q5 := cell_of_blk hq 5
    simp at q0 q1 q2 q3 q4 q5
    exact ⟨q0, q1, q2, q3, q4, q5⟩)
  have HLW := Lib.hid (hL.ext hBW)
  have HT0 := Lib.hid (show TurnI p w W from TurnI.of_below hBW)
  have HB0 := Lib.hid (show ∀ u, TurnI p W u → Below w0.heap.size w0 u from fun u hu => hu.below (hB.trans (hBW.mono hB.size)) hp (Nat.le_refl _))
  have HR := Lib.hid h
  have HNB := Lib.hid hnb
  have HNL := Lib.hid hnl
  have HNV := Lib.hid hnv
  have HW := Lib.hid hW
  have hsq := h.inn.seq
  have hlg := h.inn.log
  have hnx := h.inn.next
  have hub := u64_len (n := nb) (by omega)
  have hul := u64_len (n := nl) (by omega)
  have huv := u64_len (n := nv) (by omega)
  have wb := wrap_len (n := nb) (by omega)
  have wl := wrap_len (n := nl) (by omega)
  have wv := wrap_len (n := nv) (by omega)
  obtain ⟨D1, hD1⟩ : ∃ D, D = bs ++ numsL [r.seq, r.log, r.next, (nb : Int)] := ⟨_, rfl⟩
  have HN1 := Lib.hid (show Calls Tryz.prog (41) #[.pointer (some ⟨p, 0, none⟩), .slice (some ⟨w.heap.size + 1, 0, none⟩) 4 4] (W.alloc (.cells #[.int .u64 r.seq, .int .u64 r.log, .int .u64 r.next, .int .u64 (nb : Int)] (26))) (LayPost p D1 W) from by
    rw [hD1]
    exact nums4 p (w.heap.size + 1) bs r.seq r.log r.next (nb : Int) W hWs.symm HLW.out hsq hlg hnx hub (by omega))
  have HD1 := Lib.hid hD1
  have HL1 := Lib.hid (show D1.length ≤ 1040 from by
    rw [hD1, List.length_append]
    have e := numsL_len [r.seq, r.log, r.next, (nb : Int)] (by
      intro x hx
      simp only [List.mem_cons, List.not_mem_nil, or_false] at hx
      rcases hx with rfl | rfl | rfl | rfl <;> assumption)
    have e2 : [r.seq, r.log, r.next, (nb : Int)].length = 4 := rfl
    omega)
  rw [hrt]
  obtain ⟨c0, c1, c2, c3, c4, c5⟩ := HC.out W (TurnI.refl _)
  rw [hW] at HN1
  clear hL h hB hnb hnl hnv hrt hBW hx0 hD1 hsq hlg hnx hW hv6
  clear hWs
  go_enter Tryz.func37, Tryz.ntmps37
  go_upto_region 3 with (go_at_call 41; refine HN1.out.mono ?_; rw [← HW.out]; rintro e w1 ⟨rfl, hL1, hT1⟩; have HLa := Lib.hid hL1; have HTa := Lib.hid hT1; clear c0 c1 c2 c3 c4 c5; obtain ⟨c0, c1, c2, c3, c4, c5⟩ := HC.out w1 hT1; clear hL1 hT1)
  go_loopg [28] nb (fun gk iv wr => ∃ k : Nat, k + gk = nb ∧ iv = .int .i64 k ∧ Hid (LayAt wr p (D1 ++ (r.bs.take k).flatMap brL)) ∧ Hid (TurnI p W wr))
  case atStart => exact ⟨0, by omega, rfl, Lib.hid (by simpa using HLa.out), HTa⟩
  case round =>
    obtain ⟨k, hk, rfl, HLk, HTk⟩ := hrel
    by_cases hlt : k < nb
    · have hkl : k < r.bs.length := by have := HNB.out; omega
      obtain ⟨bk, ok, hak, hblk, hbck⟩ := (HR.out.inn.brs.els.ext (HB0.out wr HTk.out)).get k hkl
      have HTKk := Lib.hid (List.take_succ_eq_append_getElem hkl)
      have HXW := Lib.hid (HR.out.inn.brs.all _ (List.getElem_mem hkl))
      have HXN := Lib.hid (HR.out.names _ (List.getElem_mem hkl))
      have hpl : ((r.bs.take k).flatMap brL).length ≤ 100 * 2000 := Nat.le_trans (flat_len (M := 2000) (fun x hx => brL_len (HR.out.names x (List.mem_of_mem_take hx)).2 (HR.out.inn.brs.all x (List.mem_of_mem_take hx)).2.1 (HR.out.inn.brs.all x (List.mem_of_mem_take hx)).2.2)) (Nat.mul_le_mul_right _ (by rw [List.length_take]; omega))
      generalize r.bs[k] = xk at *
      have g0 := hbck 0 _ rfl
      have g1 := hbck 1 _ rfl
      have g2 := hbck 2 _ rfl
      simp only [Nat.add_zero] at g0
      obtain ⟨Ak, hAk⟩ : ∃ A : World, A = wr.alloc (.cells #[.string xk.1, .int .u64 xk.2.1, .int .u64 xk.2.2] (73)) := ⟨_, rfl⟩
      have hBAk : Below wr.heap.size wr Ak := by rw [hAk]; exact (Below.refl _ _).alloc (Nat.le_refl _) _
      have HXAk := Lib.hid (show Ak.heap[wr.heap.size]? = some (.cells #[.string xk.1, .int .u64 xk.2.1, .int .u64 xk.2.2] (73) (0, 0)) from by rw [hAk]; exact blk_new_at rfl _)
      have hprk := HLk.out.lt
      obtain ⟨Ek, hEk⟩ : ∃ E, E = D1 ++ (r.bs.take k).flatMap brL := ⟨_, rfl⟩
      have hElk : Ek.length ≤ 300000 := by
        rw [hEk, List.length_append]
        have := HL1.out
        omega
      rw [← hEk] at HLk
      have HLAk := Lib.hid (HLk.out.ext hBAk)
      have HTAk := Lib.hid (HTk.out.trans (TurnI.of_below hBAk))
      have HAAk := Lib.hid hAk
      have HTX := Lib.hid (text_at p Ek xk.1 Ak HLAk.out (by have := HXN.out; omega) HXN.out.1)
      obtain ⟨F, hF⟩ : ∃ F, F = Ek ++ putT xk.1 := ⟨_, rfl⟩
      have hFl : F.length ≤ 400000 := by rw [hF, List.length_append]; have h1 := putT_len xk.1 (by have := HXN.out; omega); have := HXN.out; omega
      rw [← hF] at HTX
      have HNM := Lib.hid (fun (u : World) (hu : LayAt u p F) => nums2 p u.heap.size F xk.2.1 xk.2.2 u rfl hu HXW.out.2.1 HXW.out.2.2 (by omega))
      have HFE := Lib.hid (show D1 ++ (r.bs.take (k + 1)).flatMap brL = F ++ numsL [xk.2.1, xk.2.2] from by rw [HTKk.out, List.flatMap_append, ← List.append_assoc, ← hEk, hF]; simp [brL])
      have i0 : (0 : Int) ≤ (k : Int) := by omega
      have i1 : (k : Int) < (nb : Int) := by omega
      have hw1 : IntKind.i64.wrap ((k : Int) + 1) = (k : Int) + 1 := IntWalk.i64_in _ (by omega)
      rw [hAk] at HTX
      clear hbck hBAk hAk hEk hF hFl hElk hpl
      rw [hak]
      go_wp2_with (first | (go_at_call 78; refine HTX.out.mono ?_; rw [← HAAk.out]; rintro e w1 ⟨rfl, hL1, hT1⟩; have HL1 := Lib.hid hL1; have hx1 := blk_turn HXAk.out hT1 (by omega); have d1 := cell_of_blk hx1 1; have d2 := cell_of_blk hx1 2; simp at d1 d2; have HT1 := Lib.hid (HTAk.out.trans hT1); clear hL1 hT1 hx1) | (go_at_call 41; refine (HNM.out _ HL1.out).mono ?_; rintro e w2 ⟨rfl, hL2, hT2⟩; have HL2 := Lib.hid hL2; have HT2 := Lib.hid (HT1.out.trans hT2); clear hL2 hT2))
      rw [← hak]
      go_roundg (gk - 1)
      case measure => omega
      case rel => exact ⟨k + 1, by omega, by go_num, Lib.hid (by rw [HFE.out]; exact HL2.out), HT2⟩
    have hkn : ¬ (k : Int) < (nb : Int) := by omega
    obtain ⟨D2, hD2⟩ : ∃ D, D = D1 ++ r.bs.flatMap brL := ⟨_, rfl⟩
    have HD2 := Lib.hid hD2
    have HM2 := Lib.hid (show D2.length ≤ 300000 from by
      have e := flat_len (f := brL) (M := 2000) (l := r.bs) (fun x hx => brL_len (HR.out.names x hx).2 (HR.out.inn.brs.all x hx).2.1 (HR.out.inn.brs.all x hx).2.2)
      have := HL1.out
      have := HNB.out
      rw [hD2, List.length_append]
      omega)
    have HLb := Lib.hid (show LayAt wr p D2 from by
      have := HLk.out
      rw [List.take_of_length_le (by have := HNB.out; omega), ← hD2] at this
      exact this)
    clear hD2 hlt HLk
    obtain ⟨e0, e1, e2, e3, e4, e5⟩ := HC.out wr HTk.out
    obtain ⟨D3, hD3⟩ : ∃ D, D = D2 ++ numsL [(nl : Int)] := ⟨_, rfl⟩
    have HN2 := Lib.hid (nums1 p wr.heap.size D2 (nl : Int) wr rfl HLb.out hul (by have := HM2.out; omega))
    rw [← hD3] at HN2
    have HD3 := Lib.hid hD3
    have HM3 := Lib.hid (show D3.length ≤ 300010 from by rw [hD3, List.length_append]; have := HM2.out; have h1 := numsL_len [(nl : Int)] (by intro x hx; rw [List.mem_singleton.1 hx]; exact hul); have h2 : [(nl : Int)].length = 1 := rfl; omega)
    clear hD3 c0 c1 c2 c3 c4 c5
    go_upto_region 10 with (go_at_call 41; refine HN2.out.mono ?_; rintro e w1 ⟨rfl, hL1, hT1⟩; have HLc := Lib.hid hL1; have HTc := Lib.hid (HTk.out.trans hT1); clear e0 e1 e2 e3 e4 e5; obtain ⟨e0, e1, e2, e3, e4, e5⟩ := HC.out w1 HTc.out; clear hL1 hT1)
    go_loopg [54] nl (fun gk iv wr => ∃ l : Nat, l + gk = nl ∧ iv = .int .i64 l ∧ Hid (LayAt wr p (D3 ++ (r.ls.take l).flatMap lnL)) ∧ Hid (TurnI p W wr))
    case atStart => exact ⟨0, by omega, rfl, Lib.hid (by simpa using HLc.out), HTc⟩
    case round =>
      clear HLc HTc e0 e1 e2 e3 e4 e5
      obtain ⟨l, hk, rfl, HLl, HTl⟩ := hrel
      by_cases hlt : l < nl
      · have hkl : l < r.ls.length := by have := HNL.out; omega
        obtain ⟨bl, ol, hal, hbll, hbcl⟩ := (HR.out.inn.lns.els.ext (HB0.out wr HTl.out)).get l hkl
        have HTKl := Lib.hid (List.take_succ_eq_append_getElem hkl)
        have HXW := Lib.hid (HR.out.inn.lns.all _ (List.getElem_mem hkl))
        have hpl : ((r.ls.take l).flatMap lnL).length ≤ 100 * 20 := Nat.le_trans (flat_len (M := 20) (fun x hx => two_len (HR.out.inn.lns.all x (List.mem_of_mem_take hx)).1 (HR.out.inn.lns.all x (List.mem_of_mem_take hx)).2)) (Nat.mul_le_mul_right _ (by rw [List.length_take]; omega))
        generalize r.ls[l] = xl at *
        have g0 := hbcl 0 _ rfl
        have g1 := hbcl 1 _ rfl
        simp only [Nat.add_zero] at g0
        obtain ⟨Al, hAl⟩ : ∃ A : World, A = wr.alloc (.cells #[.int .u64 xl.1, .int .u64 xl.2] (53)) := ⟨_, rfl⟩
        have hBAl : Below wr.heap.size wr Al := by rw [hAl]; exact (Below.refl _ _).alloc (Nat.le_refl _) _
        have HXAl := Lib.hid (show Al.heap[wr.heap.size]? = some (.cells #[.int .u64 xl.1, .int .u64 xl.2] (53) (0, 0)) from by rw [hAl]; exact blk_new_at rfl _)
        have hprl := HLl.out.lt
        obtain ⟨El, hEl⟩ : ∃ E, E = D3 ++ (r.ls.take l).flatMap lnL := ⟨_, rfl⟩
        have hEll : El.length ≤ 400000 := by
          rw [hEl, List.length_append]
          have := HM3.out
          omega
        rw [← hEl] at HLl
        have HLAl := Lib.hid (HLl.out.ext hBAl)
        have HTAl := Lib.hid (HTl.out.trans (TurnI.of_below hBAl))
        have HAAl := Lib.hid hAl
        have d1 := cell_of_blk HXAl.out 0
        have d2 := cell_of_blk HXAl.out 1
        simp at d1 d2
        have HNM := Lib.hid (nums2 p Al.heap.size El xl.1 xl.2 Al rfl HLAl.out HXW.out.1 HXW.out.2 (by omega))
        have hAs : Al.heap.size = wr.heap.size + 1 := by rw [hAl]; simp
        rw [hAs] at HNM
        have HFE := Lib.hid (show D3 ++ (r.ls.take (l + 1)).flatMap lnL = El ++ numsL [xl.1, xl.2] from by rw [HTKl.out, List.flatMap_append, ← List.append_assoc, ← hEl]; simp [lnL])
        have i0 : (0 : Int) ≤ (l : Int) := by omega
        have i1 : (l : Int) < (nl : Int) := by omega
        have hw1 : IntKind.i64.wrap ((l : Int) + 1) = (l : Int) + 1 := IntWalk.i64_in _ (by omega)
        rw [hAl] at HNM d1 d2
        clear hbcl hBAl hAl hEl hEll hpl hAs
        rw [hal]
        go_wp2_with (go_at_call 41; refine HNM.out.mono ?_; rw [← HAAl.out]; rintro e w2 ⟨rfl, hL2, hT2⟩; have HL2 := Lib.hid hL2; have HT2 := Lib.hid (HTAl.out.trans hT2); clear hL2 hT2)
        rw [← hal]
        go_roundg (gk - 1)
        case measure => omega
        case rel => exact ⟨l + 1, by omega, by go_num, Lib.hid (by rw [HFE.out]; exact HL2.out), HT2⟩
      have hkn : ¬ (l : Int) < (nl : Int) := by omega
      obtain ⟨D4, hD4⟩ : ∃ D, D = D3 ++ r.ls.flatMap lnL := ⟨_, rfl⟩
      have HD4 := Lib.hid hD4
      have HM4 := Lib.hid (show D4.length ≤ 310000 from by
        have e := flat_len (f := lnL) (M := 20) (l := r.ls) (fun x hx => two_len (HR.out.inn.lns.all x hx).1 (HR.out.inn.lns.all x hx).2)
        have := HM3.out
        have := HNL.out
        rw [hD4, List.length_append]
        omega)
      have HLb := Lib.hid (show LayAt wr p D4 from by
        have := HLl.out
        rw [List.take_of_length_le (by have := HNL.out; omega), ← hD4] at this
        exact this)
      clear hD4 hlt HLl
      obtain ⟨e0, e1, e2, e3, e4, e5⟩ := HC.out wr HTl.out
      obtain ⟨D5, hD5⟩ : ∃ D, D = D4 ++ numsL [(nv : Int)] := ⟨_, rfl⟩
      have HN2 := Lib.hid (nums1 p wr.heap.size D4 (nv : Int) wr rfl HLb.out huv (by have := HM4.out; omega))
      rw [← hD5] at HN2
      have HD5 := Lib.hid hD5
      have HM5 := Lib.hid (show D5.length ≤ 310010 from by rw [hD5, List.length_append]; have := HM4.out; have h1 := numsL_len [(nv : Int)] (by intro x hx; rw [List.mem_singleton.1 hx]; exact huv); have h2 : [(nv : Int)].length = 1 := rfl; omega)
      clear hD5
      go_upto_region 16 with (go_at_call 41; refine HN2.out.mono ?_; rintro e w1 ⟨rfl, hL1, hT1⟩; have HLc := Lib.hid hL1; have HTc := Lib.hid (HTl.out.trans hT1); clear e0 e1 e2 e3 e4 e5; obtain ⟨e0, e1, e2, e3, e4, e5⟩ := HC.out w1 HTc.out; clear hL1 hT1)
      go_loopg [76] nv (fun gk iv wr => ∃ m : Nat, m + gk = nv ∧ iv = .int .i64 m ∧ Hid (LayAt wr p (D5 ++ ((Vx.vsOf r.vs).take m).flatMap vcL)) ∧ Hid (TurnI p W wr))
      case atStart => exact ⟨0, by omega, rfl, Lib.hid (by simpa using HLc.out), HTc⟩
      case round =>
        clear HLc HTc e0 e1 e2 e3 e4 e5
        obtain ⟨m, hk, rfl, HLm, HTm⟩ := hrel
        by_cases hlt : m < nv
        · have hkl : m < r.vs.length := by have := HNV.out; omega
          obtain ⟨bm, om, ham, hblm, hbcm⟩ := ((vinE HR.out.inn.vcs (HB0.out wr HTm.out)).els).get m hkl
          have HTKm := Lib.hid (List.take_succ_eq_append_getElem hkl)
          have HXW := Lib.hid (HR.out.inn.vcs.wf _ (List.getElem_mem hkl))
          have HXP := Lib.hid (HR.out.inn.vcs.inn _ (List.getElem_mem hkl))
          have HXL := Lib.hid (HR.out.pts _ (List.getElem_mem hkl))
          have HTV := Lib.hid (show (Vx.vsOf r.vs).take (m + 1) = (Vx.vsOf r.vs).take m ++ [(r.vs[m].line, r.vs[m].ps)] from by unfold Vx.vsOf; rw [← List.map_take, ← List.map_take, HTKm.out, List.map_append]; rfl)
          have hpl : (((Vx.vsOf r.vs).take m).flatMap vcL).length ≤ 12 * 20000020 := Nat.le_trans (flat_len (M := 20000020) (fun x hx => by obtain ⟨y, hy, rfl⟩ := List.mem_map.1 (List.mem_of_mem_take hx); exact vcL_len (HR.out.pts y hy) (HR.out.inn.vcs.wf y hy).1 (HR.out.inn.vcs.wf y hy).2)) (Nat.mul_le_mul_right _ (by rw [List.length_take]; omega))
          generalize r.vs[m] = xm at *
          have g0 := hbcm 0 _ rfl
          have g1 := hbcm 1 _ rfl
          simp only [Nat.add_zero] at g0
          obtain ⟨np, hnp⟩ : ∃ n, n = xm.ps.length := ⟨_, rfl⟩
          rw [← hnp] at g1
          have HNP := Lib.hid hnp
          have hnp1 : np ≤ 1000000 := by rw [hnp]; exact HXL.out
          have hup := u64_len (n := np) (by omega)
          have wp := wrap_len (n := np) (by omega)
          obtain ⟨Am, hAm⟩ : ∃ A : World, A = wr.alloc (.cells #[.int .u64 xm.line, .slice xm.a np xm.c] (76)) := ⟨_, rfl⟩
          have hBAm : Below wr.heap.size wr Am := by rw [hAm]; exact (Below.refl _ _).alloc (Nat.le_refl _) _
          have HXAm := Lib.hid (show Am.heap[wr.heap.size]? = some (.cells #[.int .u64 xm.line, .slice xm.a np xm.c] (76) (0, 0)) from by rw [hAm]; exact blk_new_at rfl _)
          have hprm := HLm.out.lt
          obtain ⟨Em, hEm⟩ : ∃ E, E = D5 ++ ((Vx.vsOf r.vs).take m).flatMap vcL := ⟨_, rfl⟩
          have hElm : Em.length ≤ 300000000 := by
            rw [hEm, List.length_append]
            have := HM5.out
            omega
          rw [← hEm] at HLm
          have HLAm := Lib.hid (HLm.out.ext hBAm)
          have HTAm := Lib.hid (HTm.out.trans (TurnI.of_below hBAm))
          have HAAm := Lib.hid hAm
          have d1 := cell_of_blk HXAm.out 0
          have d2 := cell_of_blk HXAm.out 1
          simp at d1 d2
          obtain ⟨F, hF⟩ : ∃ F, F = Em ++ numsL [xm.line, (np : Int)] := ⟨_, rfl⟩
          have hFl : F.length ≤ 300000020 := by rw [hF, List.length_append]; have h1 := two_len HXW.out.1 hup; omega
          have HNM := Lib.hid (nums2 p Am.heap.size Em xm.line (np : Int) Am rfl HLAm.out HXW.out.1 hup (by omega))
          rw [← hF] at HNM
          have hAs : Am.heap.size = wr.heap.size + 1 := by rw [hAm]; simp
          rw [hAs] at HNM
          have HFE := Lib.hid (show D5 ++ ((Vx.vsOf r.vs).take (m + 1)).flatMap vcL = F ++ xm.ps.flatMap ptL from by rw [HTV.out, List.flatMap_append, ← List.append_assoc, ← hEm, hF, HNP.out]; simp [vcL])
          have i0 : (0 : Int) ≤ (m : Int) := by omega
          have i1 : (m : Int) < (nv : Int) := by omega
          have hw1 : IntKind.i64.wrap ((m : Int) + 1) = (m : Int) + 1 := IntWalk.i64_in _ (by omega)
          rw [hAm] at HNM d1 d2
          clear hbcm hBAm hAm hEm hElm hpl hAs hF hnp
          rw [ham]
          go_upto_region 20 with (go_at_call 41; refine HNM.out.mono ?_; rw [← HAAm.out]; rintro e w2 ⟨rfl, hL2, hT2⟩; have HL2 := Lib.hid hL2; have HT2 := Lib.hid (HTAm.out.trans hT2); have hx1 := blk_turn HXAm.out hT2 (by omega); clear d1 d2; have d2 := cell_of_blk hx1 1; simp at d2; clear hL2 hT2 hx1)
          clear d2
          obtain ⟨g9, hg9⟩ : ∃ g9, g9 = gk := ⟨_, rfl⟩
          rw [← hg9] at hk
          have HG9 := Lib.hid hg9
          clear hg9
          go_loopg [92] np (fun gk iv wr => ∃ j : Nat, j + gk = np ∧ iv = .int .i64 j ∧ Hid (LayAt wr p (F ++ (xm.ps.take j).flatMap ptL)) ∧ Hid (TurnI p W wr))
          case atStart => exact ⟨0, by omega, rfl, Lib.hid (by simpa using HL2.out), HT2⟩
          case round =>
            clear HL2 HT2 HLAm HTAm HLm HTm g0 g1
            obtain ⟨j, hj, rfl, HLj, HTj⟩ := hrel
            by_cases hltj : j < np
            · have hkl : j < xm.ps.length := by have := HNP.out; omega
              obtain ⟨bj, oj, haj, hblj, hbcj⟩ := (HXP.out.ext (HB0.out wr HTj.out)).get j hkl
              have HTKj := Lib.hid (List.take_succ_eq_append_getElem hkl)
              have HXJ := Lib.hid (HXW.out.2 _ (List.getElem_mem hkl))
              have hpl : ((xm.ps.take j).flatMap ptL).length ≤ 1000000 * 20 := Nat.le_trans (flat_len (M := 20) (fun x hx => two_len (HXW.out.2 x (List.mem_of_mem_take hx)).1 (HXW.out.2 x (List.mem_of_mem_take hx)).2)) (Nat.mul_le_mul_right _ (by rw [List.length_take]; omega))
              generalize xm.ps[j] = xj at *
              have g0 := hbcj 0 _ rfl
              have g1 := hbcj 1 _ rfl
              simp only [Nat.add_zero] at g0
              obtain ⟨Aj, hAj⟩ : ∃ A : World, A = wr.alloc (.cells #[.int .u64 xj.1, .int .u64 xj.2] (78)) := ⟨_, rfl⟩
              have hBAj : Below wr.heap.size wr Aj := by rw [hAj]; exact (Below.refl _ _).alloc (Nat.le_refl _) _
              have HXAj := Lib.hid (show Aj.heap[wr.heap.size]? = some (.cells #[.int .u64 xj.1, .int .u64 xj.2] (78) (0, 0)) from by rw [hAj]; exact blk_new_at rfl _)
              have hprj := HLj.out.lt
              obtain ⟨Ej, hEj⟩ : ∃ E, E = F ++ (xm.ps.take j).flatMap ptL := ⟨_, rfl⟩
              have hElj : Ej.length ≤ 400000000 := by
                rw [hEj, List.length_append]
                omega
              rw [← hEj] at HLj
              have HLAj := Lib.hid (HLj.out.ext hBAj)
              have HTAj := Lib.hid (HTj.out.trans (TurnI.of_below hBAj))
              have HAAj := Lib.hid hAj
              have d1 := cell_of_blk HXAj.out 0
              have d2 := cell_of_blk HXAj.out 1
              simp at d1 d2
              have HNM := Lib.hid (nums2 p Aj.heap.size Ej xj.1 xj.2 Aj rfl HLAj.out HXJ.out.1 HXJ.out.2 (by omega))
              have hAs : Aj.heap.size = wr.heap.size + 1 := by rw [hAj]; simp
              rw [hAs] at HNM
              have HFJ := Lib.hid (show F ++ (xm.ps.take (j + 1)).flatMap ptL = Ej ++ numsL [xj.1, xj.2] from by rw [HTKj.out, List.flatMap_append, ← List.append_assoc, ← hEj]; simp [ptL])
              have j0 : (0 : Int) ≤ (j : Int) := by omega
              have j1 : (j : Int) < (np : Int) := by omega
              have hw2 : IntKind.i64.wrap ((j : Int) + 1) = (j : Int) + 1 := IntWalk.i64_in _ (by omega)
              rw [hAj] at HNM d1 d2
              clear hbcj hBAj hAj hEj hElj hpl hAs
              rw [haj]
              go_wp2_with (go_at_call 41; refine HNM.out.mono ?_; rw [← HAAj.out]; rintro e w2 ⟨rfl, hL2, hT2⟩; have HL2 := Lib.hid hL2; have HT2 := Lib.hid (HTAj.out.trans hT2); clear hL2 hT2)
              rw [← haj]
              go_roundg (gk - 1)
              case measure => omega
              case rel => exact ⟨j + 1, by omega, by go_num, Lib.hid (by rw [HFJ.out]; exact HL2.out), HT2⟩
            · have HE := Lib.hid (show LayAt wr p (D5 ++ ((Vx.vsOf r.vs).take (m + 1)).flatMap vcL) from by
                rw [HFE.out]
                have := HLj.out
                rwa [List.take_of_length_le (by have := HNP.out; omega)] at this)
              have hjn : ¬ (j : Int) < (np : Int) := by omega
              go_wp2_with fail
              rw [← ham]
              go_roundg (g9 - 1)
              case measure => have := HG9.out; omega
              case rel => exact ⟨m + 1, by omega, by go_num, HE, HTj⟩
        have hkn : ¬ (m : Int) < (nv : Int) := by omega
        have HE := Lib.hid (show LayAt wr p (bs ++ headL r.says) from by
          have := HLm.out
          rw [List.take_of_length_le (by unfold Vx.vsOf; rw [List.length_map]; have := HNV.out; omega)] at this
          have e : bs ++ headL r.says = D5 ++ (Vx.vsOf r.vs).flatMap vcL := by
            rw [HD5.out, HD4.out, HD3.out, HD2.out, HD1.out, HNB.out, HNL.out, HNV.out]
            unfold headL Rv.says
            simp only [Vx.vsOf_len, List.append_assoc]
          rw [e]
          exact this)
        have HTF := Lib.hid (HT0.out.trans HTm.out)
        go_wp2_with fail
        go_end0
        exact ⟨rfl, HE.out, HTF.out⟩
end Go.Proofs.YtchcelodeepjdaaGreatDoor.Ln

namespace Go.Proofs.YtchcelodeepjdaaGreatDoor.Ln
open Go.RowKit Go.Shelf Go.Herb

set_option maxRecDepth 100000 in
theorem shelves_none (p : Nat) (bs : List Int) (w : World) (hL : LayAt w p bs) (hl : bs.length < 600000000) :
    Calls Tryz.prog (38) #[.pointer (some ⟨p, 0, none⟩), .slice none 0 0] w (LayPost p (bs ++ numsL [0]) w) := by
  have HN := Lib.hid (nums1 p w.heap.size bs 0 w rfl hL (u64_len (n := 0) (by decide)) (by omega))
  clear hL
  go_enter Tryz.func38, Tryz.ntmps38
  go_upto_region 2 with (go_at_call 41; refine HN.out.mono ?_; rintro e w1 ⟨rfl, hL1, hT1⟩; have HL1 := Lib.hid hL1; have HT1 := Lib.hid hT1; clear hL1 hT1)
  go_loopg [18] 0 (fun gk iv wr => gk = 0 ∧ iv = .int .i64 0 ∧ wr = w1)
  case atStart => exact ⟨rfl, rfl, rfl⟩
  case round =>
    obtain ⟨-, rfl, rfl⟩ := hrel
    go_wp2_with fail
    go_end0
    exact ⟨rfl, HL1.out, HT1.out⟩
theorem clipL_any (a : Option Addr) (cap n : Nat) (w : World) (hn : a = none → n = 0 ∧ cap = 0) (hl : n < 1000000000) (hle : n ≤ cap) (hm : cap ≤ maxLen) :
    Calls Tryz.prog 39 #[.slice a n cap] w fun e w' => e = .returned (.slice a n n) ∧ w = w' := by
  cases a with
  | none =>
    obtain ⟨rfl, rfl⟩ := hn rfl
    clear hn
    go_enter Tryz.func39, Tryz.ntmps39
    go_wp2
    go_ret
    exact ⟨rfl, rfl⟩
  | some ad =>
    clear hn
    unfold maxLen at hm
    go_enter Tryz.func39, Tryz.ntmps39
    go_wp2
    go_ret
    exact ⟨rfl, rfl⟩
/-- What Put answers of a root that may be. -/
def WholePost (ys : List Int) (w : World) (e : Ending) (w' : World) : Prop := ∃ (a : Option Addr) (n : Nat), e = .returned (.tuple #[.slice a n n, .int .i64 0]) ∧ n = ys.length ∧ Byt w' a ys ∧ Below w.heap.size w w' ∧ FreshB a w.heap.size w'
def shBound : Nat := 300000000
set_option maxRecDepth 100000 in
set_option maxHeartbeats 2000000 in
theorem putWhole_any (r : Rv) (w : World) (h : LaidR w r) (hs : SmallR r) (hg : GoodR r) (hlen : (wholeL r.says).length < 500000000)
    (hsh : ∀ (p : Nat) (acc : List Int) (u : World), LayAt u p acc → acc.length ≤ shBound → Below w.heap.size w u → w.heap.size ≤ p → Calls Tryz.prog (38) #[.pointer (some ⟨p, 0, none⟩), .slice r.sa r.sh.length r.sc] u (LayPost p (acc ++ shL r.says.sh) u))
    (hhd : (headL r.says).length < shBound) :
    Calls Tryz.prog (17) #[rtV r, .pointer none] w (WholePost (wholeL r.says) w) := by
  obtain ⟨nb, hnb⟩ : ∃ n, n = r.bs.length := ⟨_, rfl⟩
  obtain ⟨nl, hnl⟩ : ∃ n, n = r.ls.length := ⟨_, rfl⟩
  obtain ⟨nv, hnv⟩ : ∃ n, n = r.vs.length := ⟨_, rfl⟩
  obtain ⟨ns, hns⟩ : ∃ n, n = r.sh.length := ⟨_, rfl⟩
  have hrt : rtV r = .agg #[.int .u64 r.seq, .int .u64 r.log, .int .u64 r.next, .slice r.ba nb r.bc, .slice r.la nl r.lc, .slice r.va nv r.vc, .slice r.sa ns r.sc] := by rw [hnb, hnl, hnv, hns]
  obtain ⟨W, hW⟩ : ∃ W : World, W = w.alloc (.cells #[.int .u64 r.seq, .int .u64 r.log, .int .u64 r.next, .slice r.ba nb r.bc, .slice r.la nl r.lc, .slice r.va nv r.vc, .slice r.sa ns r.sc] (32)) := ⟨_, rfl⟩
  have hB : Below w.heap.size w W := by rw [hW]; exact (Below.refl _ _).alloc (Nat.le_refl _) _
  have hx0 : W.heap[w.heap.size]? = some (.cells #[.int .u64 r.seq, .int .u64 r.log, .int .u64 r.next, .slice r.ba nb r.bc, .slice r.la nl r.lc, .slice r.va nv r.vc, .slice r.sa ns r.sc] (32) (0, 0)) := by rw [hW]; exact blk_new_at rfl _
  have HX0 := Lib.hid hx0
  have HB := Lib.hid hB
  have HW := Lib.hid hW
  have HR := Lib.hid h
  have HCK := Lib.hid ((check_any r W ⟨h.inn.seq, h.inn.log, h.inn.next, ⟨h.inn.brs.els.ext hB, h.inn.brs.nil, h.inn.brs.le, h.inn.brs.max, h.inn.brs.all⟩, ⟨h.inn.lns.els.ext hB, h.inn.lns.nil, h.inn.lns.le, h.inn.lns.max, h.inn.lns.all⟩, vinE h.inn.vcs hB, h.inn.shs.ext hB, h.inn.sl, h.inn.sm, h.inn.sn, h.inn.vl⟩ hs).mono (show ∀ e w', CheckPost r W e w' → e = .returned (.int .i64 0) ∧ Below W.heap.size W w' from by
    rintro e w' ⟨n, rfl, ⟨rfl, -⟩ | ⟨-, hn⟩, hb⟩
    · exact ⟨rfl, hb⟩
    · exact absurd hg hn))
  have HSH := Lib.hid hsh
  have HHD := Lib.hid hhd
  have HLN := Lib.hid hlen
  have HC : Hid (∀ (A : World), (A.heap[w.heap.size]? = some (.cells #[.int .u64 r.seq, .int .u64 r.log, .int .u64 r.next, .slice r.ba nb r.bc, .slice r.la nl r.lc, .slice r.va nv r.vc, .slice r.sa ns r.sc] (32) (0, 0))) → A.cell? ⟨w.heap.size, 0, none⟩ = some (.int .u64 r.seq) ∧ A.cell? ⟨w.heap.size, 1, none⟩ = some (.int .u64 r.log) ∧ A.cell? ⟨w.heap.size, 2, none⟩ = some (.int .u64 r.next) ∧ A.cell? ⟨w.heap.size, 3, none⟩ = some (.slice r.ba nb r.bc) ∧ A.cell? ⟨w.heap.size, 4, none⟩ = some (.slice r.la nl r.lc) ∧ A.cell? ⟨w.heap.size, 5, none⟩ = some (.slice r.va nv r.vc) ∧ A.cell? ⟨w.heap.size, 6, none⟩ = some (.slice r.sa ns r.sc)) := Lib.hid (fun A hq => by
    have q0 := cell_of_blk hq 0
    have q1 := cell_of_blk hq 1
    have q2 := cell_of_blk hq 2
    have q3 := cell_of_blk hq 3
    have q4 := cell_of_blk hq 4
    have q5 := cell_of_blk hq 5
    have q6 := cell_of_blk hq 6
    simp at q0 q1 q2 q3 q4 q5 q6
    exact ⟨q0, q1, q2, q3, q4, q5, q6⟩)
  rw [hrt] at HCK
  rw [← hns] at HSH
  rw [hW] at HCK
  obtain ⟨c0, c1, c2, c3, c4, c5, c6⟩ := HC.out W hx0
  rw [hrt]
  clear h hs hg hlen hsh hhd hB hx0 hW
  have HRT := Lib.hid hrt
  clear hrt hnb hnl hnv hns
  go_enter Tryz.func17, Tryz.ntmps17
  go_upto_region 6 with (go_at_call 16; refine HCK.out.mono ?_; rw [← HW.out]; rintro e w1 ⟨rfl, hb1⟩; have HB1 := Lib.hid hb1; have hx1 := blk_below HX0.out hb1 (lt_of_blk HX0.out); have HX1 := Lib.hid hx1; clear hb1; clear c0 c1 c2 c3 c4 c5 c6; obtain ⟨c0, c1, c2, c3, c4, c5, c6⟩ := HC.out w1 hx1; clear hx1)
  clear HCK
  obtain ⟨V1, hV1⟩ : ∃ V : World, V = w1.alloc (.cells #[.int .u8 1] (5)) := ⟨_, rfl⟩
  obtain ⟨V, hV⟩ : ∃ V : World, V = V1.alloc (.cells #[.slice (some ⟨w1.heap.size, 0, none⟩) 1 1] (90)) := ⟨_, rfl⟩
  have hz1 : V1.heap.size = w1.heap.size + 1 := by rw [hV1]; simp
  have hBV1 : Below w1.heap.size w1 V1 := by rw [hV1]; exact (Below.refl _ _).alloc (Nat.le_refl _) _
  have hBV : Below V1.heap.size V1 V := by rw [hV]; exact (Below.refl _ _).alloc (Nat.le_refl _) _
  have hBw1 : Below w1.heap.size w1 V := hBV1.trans (hBV.mono hBV1.size)
  have hBwV : Below w.heap.size w V := (HB.out.trans (HB1.out.mono HB.out.size)).trans (hBw1.mono (Nat.le_trans HB.out.size HB1.out.size))
  have hws : w.heap.size ≤ w1.heap.size := Nat.le_trans HB.out.size HB1.out.size
  have hLV : LayAt V (w1.heap.size + 1) [1] := by
    refine ⟨some ⟨w1.heap.size, 0, none⟩, 1, by rw [hV]; exact blk_new_at hz1.symm _, ?_, (fun h => by cases h), rfl, (fun ad h => by
      cases h
      exact ⟨by show w1.heap.size + 1 - 1 ≤ w1.heap.size; omega, _, blk_below (by rw [hV1]; exact blk_new_at rfl _) hBV (show w1.heap.size < V1.heap.size by omega)⟩)⟩
    refine Els.ext ⟨fun i hi => ?_⟩ hBV
    have hi0 : i = 0 := by simp at hi; omega
    subst hi0
    refine ⟨w1.heap.size, 0, rfl, by omega, fun j c hj => ?_⟩
    rw [hV1, cell_new]
    simpa [Ln.nb] using hj
  have hwl : w.heap.size < w1.heap.size := Nat.lt_of_lt_of_le (lt_of_blk HX0.out) HB1.out.size
  have HXV := Lib.hid (blk_below HX1.out hBw1 (lt_of_blk HX1.out))
  obtain ⟨acc, hacc⟩ : ∃ acc, acc = [1] ++ headL r.says := ⟨_, rfl⟩
  have hal : acc.length ≤ shBound := by rw [hacc, List.length_append]; have := HHD.out; show 1 + _ ≤ _; omega
  have HRO := Lib.hid (root_any (w1.heap.size + 1) [1] r w V hLV HR.out hBwV (by omega) (by decide))
  rw [HRT.out, ← hacc] at HRO
  have HS2 := Lib.hid (show ∀ u, LayAt u (w1.heap.size + 1) acc → Below w.heap.size w u → Calls Tryz.prog (38) #[.pointer (some ⟨w1.heap.size + 1, 0, none⟩), .slice r.sa ns r.sc] u (LayPost (w1.heap.size + 1) (wholeL r.says) u) from fun u hu hb => by
    have e : wholeL r.says = acc ++ shL r.says.sh := by rw [hacc]; unfold wholeL; simp
    rw [e]
    exact HSH.out (w1.heap.size + 1) acc u hu hal hb (by omega))
  have HBV := Lib.hid hBwV
  have HPL := Lib.hid (show w.heap.size ≤ w1.heap.size + 1 ∧ w.heap.size ≠ w1.heap.size + 1 from ⟨by omega, by omega⟩)
  have HV := Lib.hid hV
  have HV1 := Lib.hid hV1
  have HZ1 := Lib.hid hz1
  rw [hV, hV1] at HRO
  obtain ⟨wl, hwl2⟩ : ∃ wl, wl = wholeL r.says := ⟨_, rfl⟩
  rw [← hwl2] at HS2 HLN
  have HWL := Lib.hid hwl2
  clear hV hV1 hz1 hBV1 hBV hBw1 hBwV hws hLV hacc hal hwl2 HSH HX1
  go_upto_region 8 with (first
    | (go_at_call 37; refine HRO.out.mono ?_; rw [← HV1.out, ← HV.out]; rintro e w2 ⟨rfl, hL2, hT2⟩; have HL2 := Lib.hid hL2; have HB2 := Lib.hid (hT2.below HBV.out HPL.out.1 (Nat.le_refl _)); have hx2 := blk_turn HXV.out hT2 HPL.out.2; have HX2 := Lib.hid hx2; clear c0 c1 c2 c3 c4 c5 c6; obtain ⟨c0, c1, c2, c3, c4, c5, c6⟩ := HC.out w2 hx2; clear hL2 hT2 hx2)
    | (go_at_call 38; refine (HS2.out _ HL2.out HB2.out).mono ?_; rintro e w3 ⟨rfl, hL3, hT3⟩; have HL3 := Lib.hid hL3; have HB3 := Lib.hid (hT3.below HB2.out HPL.out.1 (Nat.le_refl _)); clear hL3 hT3))
  obtain ⟨a, cap, h1, hE, h0, rfl, hfr⟩ := HL3.out.blk
  have HFR := Lib.hid hfr
  have HWW := Lib.hid (show w.heap.size ≤ w1.heap.size from by omega)
  clear hfr
  obtain ⟨q, hq⟩ : ∃ q, q = wl.length := ⟨_, rfl⟩
  rw [← hq] at h1 h0
  have HQ := Lib.hid hq
  have HE := Lib.hid hE
  have HCLP := Lib.hid (clipL_any a q q w3 (fun h => ⟨h0 h, h0 h⟩) (by have := HLN.out; omega) (Nat.le_refl _) (by have := HLN.out; unfold maxLen; omega))
  clear hE h0 hq
  have c9 := cell_of_blk h1 0
  simp at c9
  go_wp2_with (go_at_call 39; refine HCLP.out.mono ?_; rintro e w4 ⟨rfl, rfl⟩)
  go_ret2
  exact ⟨a, q, rfl, by rw [← HWL.out]; exact HQ.out, by rw [← HWL.out]; exact HE.out, HB3.out, fun ad had => ⟨by have := (HFR.out ad had).1; have := HWW.out; omega, (HFR.out ad had).2⟩⟩
end Go.Proofs.YtchcelodeepjdaaGreatDoor.Ln
