import Derived.Test.YthdjokcjajlnnaaWF
namespace Go.Proofs.Ythdjokcjajlnnaa
open Go.RowKit Go.Herb Go.Fl

/-- A level as it came in: of whatever length. -/
structure LvIn (w : World) (l : Lv) : Prop where
  tabs : Tabs w l.a l.ts
  nil0 : l.a = none → l.cap = 0
  le : l.ts.length ≤ l.cap
  wf : ∀ t ∈ l.ts, 0 ≤ t.bytes ∧ t.bytes < 4294967296

theorem LvIn.ok {w : World} {l : Lv} (h : LvIn w l) (hl : l.ts.length ≤ 40) : LvOk w l := ⟨h.tabs, h.nil0, h.le, by omega, h.wf⟩

set_option maxRecDepth 100000 in
set_option maxHeartbeats 1000000 in
theorem picksOf_any (line fr to : Int) (l0 l1 l2 li lb ll : Lv) (ad : Option Addr) (cd : Nat) (ds : List Int) (w : World) (h0 : LvIn w l0) (h1 : LvIn w l1) (h2 : LvIn w l2) (hd : U64s w ad ds) :
    Calls Try.prog 3 #[.agg #[.int .u64 line, sv l0, sv l1, sv l2, .slice ad ds.length cd, .int .i64 fr, .int .i64 to, sv li, sv lb, sv ll]] w
      fun e w' => e = .returned (.bool true) ∧ Below w.heap.size w w' := by
  have H0 := Lib.hid h0
  have H1 := Lib.hid h1
  have H2 := Lib.hid h2
  have HD := Lib.hid hd
  clear h0 h1 h2 hd
  go_enter Try.func3, Try.ntmps3
  go_wp2_with fail
  obtain ⟨W, hW⟩ : ∃ W : World, W = w.alloc (Obj.cells #[.int .u64 line, sv l0, sv l1, sv l2, .slice ad ds.length cd, .int .i64 fr, .int .i64 to, sv li, sv lb, sv ll] 31) := ⟨_, rfl⟩
  have hB : Below w.heap.size w W := by rw [hW]; go_grown
  have s : W.heap[w.heap.size]? = some (.cells #[.int .u64 line, sv l0, sv l1, sv l2, .slice ad ds.length cd, .int .i64 fr, .int .i64 to, sv li, sv lb, sv ll] 31 (0, 0)) := by rw [hW]; exact blk_new_at rfl _
  rw [← hW]
  clear hW
  refine (great_any line fr to _ _ _ _ _ _ _ _ _ _ _ _ _ _ _ _ _ _ _ _ _ W).mono ?_
  rintro e w1 ⟨rfl, hb1⟩
  have hB1 : Below w.heap.size w w1 := hB.trans (hb1.mono (by have := lt_of_blk s; omega))
  have s1 := blk_below s hb1 (lt_of_blk s)
  have hz1 := lt_of_blk s1
  clear hb1 s hB
  cases hg : greatB l0.ts.length l1.ts.length l2.ts.length ds.length li.ts.length lb.ts.length ll.ts.length
  · have hgn : l0.ts.length ≤ 40 ∧ l1.ts.length ≤ 40 ∧ l2.ts.length ≤ 40 ∧ ds.length ≤ 60 := by
      simp [greatB] at hg; omega
    obtain ⟨g0, g1, g2, gd⟩ := hgn
    clear hg
    have c0 := cell_of_blk s1 0
    have c1 := cell_of_blk s1 1
    have c2 := cell_of_blk s1 2
    have c3 := cell_of_blk s1 3
    have c4 := cell_of_blk s1 4
    simp at c0 c1 c2 c3 c4
    have S1 := Lib.hid s1
    clear s1
    go_wp2_with fail
    refine (of_any line l0 l1 l2 ad cd ds w1 ((H0.out.ok g0).ext hB1) ((H1.out.ok g1).ext hB1) ((H2.out.ok g2).ext hB1) (HD.out.ext hB1) (by omega)).mono ?_
    rintro e w2 ⟨pi, pb, rfl, hpi, hpb, hLi, hLb, hb2⟩
    obtain ⟨p, hp⟩ : ∃ p, p = ofP ds l0.ts l1.ts l2.ts := ⟨_, rfl⟩
    rw [← hp] at hpi hpb ⊢
    have HP := Lib.hid hp
    have HPI := Lib.hid hpi
    have HPB := Lib.hid hpb
    have HLi := Lib.hid hLi
    have HLb := Lib.hid hLb
    have hB2 : Below w.heap.size w w2 := hB1.trans (hb2.mono (by omega))
    have s2 := blk_below S1.out hb2 hz1
    have hz2 := lt_of_blk s2
    clear hp hpi hpb hLi hLb hb2 c0 c1 c2 c3 c4 S1
    have c0 := cell_of_blk s2 0
    have c1 := cell_of_blk s2 1
    have c2 := cell_of_blk s2 2
    have c3 := cell_of_blk s2 3
    have c4 := cell_of_blk s2 4
    simp at c0 c1 c2 c3 c4
    clear s2
    go_wp2_with fail
    obtain ⟨V, hV⟩ : ∃ V : World, V = w2.alloc (Obj.cells #[.int .i64 p.frm, .int .i64 p.to, sv pi, sv pb] 29) := ⟨_, rfl⟩
    have hBV : Below w2.heap.size w2 V := by rw [hV]; exact (Below.refl _ _).alloc (Nat.le_refl _) _
    have q : V.heap[w2.heap.size]? = some (.cells #[.int .i64 p.frm, .int .i64 p.to, sv pi, sv pb] 29 (0, 0)) := by rw [hV]; exact blk_new_at rfl _
    have hBwV : Below w.heap.size w V := hB2.trans (hBV.mono (by omega))
    rw [← hV]
    clear hV c0 c1 c2 c3 c4
    refine (rof_any line l0 l1 l2 ad cd ds V ((H0.out.ok g0).ext hBwV) ((H1.out.ok g1).ext hBwV) ((H2.out.ok g2).ext hBwV) (HD.out.ext hBwV) (by omega)).mono ?_
    rintro e w3 ⟨mi, mb, rfl, hmi, hmb, hMi, hMb, hb3⟩
    rw [← HP.out] at hmi hmb ⊢
    have q3 := blk_below q hb3 (lt_of_blk q)
    have hB3 : Below w.heap.size w w3 := hBwV.trans (hb3.mono (by have := lt_of_blk q; omega))
    have hLi3 := (HLi.out.ext hBV).ext hb3
    have hLb3 := (HLb.out.ext hBV).ext hb3
    have hq3 := lt_of_blk q3
    obtain ⟨d0, d1, d2, d3, -⟩ := blk_cells4 q3
    have csame1 : ∀ V', Below w3.heap.size w3 V' → Calls Try.prog 10 #[sv pi, sv mi] V' fun e w' => e = .returned (.bool true) ∧ Below V'.heap.size V' w' := fun V' h => same_any pi mi V' (hLi3.ext h) (hMi.ext h) (by rw [HPI.out, hmi])
    have csame2 : ∀ V', Below w3.heap.size w3 V' → Calls Try.prog 10 #[sv pb, sv mb] V' fun e w' => e = .returned (.bool true) ∧ Below V'.heap.size V' w' := fun V' h => same_any pb mb V' (hLb3.ext h) (hMb.ext h) (by rw [HPB.out, hmb])
    have CS1 := Lib.hid csame1
    have CS2 := Lib.hid csame2
    have Q3 := Lib.hid q3
    have hb1 : (p.is == p.is) = true := by simp
    have hb2 : ((p.frm : Int) == p.frm) = true := by simp
    have hb3' : ((p.to : Int) == p.to) = true := by simp
    clear hmi hmb hMi hMb hb3 hLi3 hLb3 csame1 csame2 HLi HLb q q3
    go_wp2_with fail
    obtain ⟨V5, hV5⟩ : ∃ V5 : World, V5 = w3.alloc (Obj.cells #[.int .i64 p.frm, .int .i64 p.to, .slice mi.a mi.ts.length mi.cap, .slice mb.a mb.ts.length mb.cap] 36) := ⟨_, rfl⟩
    have hBV5 : Below w3.heap.size w3 V5 := by rw [hV5]; exact (Below.refl _ _).alloc (Nat.le_refl _) _
    have r5 : V5.heap[w3.heap.size]? = some (.cells #[.int .i64 p.frm, .int .i64 p.to, .slice mi.a mi.ts.length mi.cap, .slice mb.a mb.ts.length mb.cap] 36 (0, 0)) := by rw [hV5]; exact blk_new_at rfl _
    have q5 := blk_below Q3.out hBV5 hq3
    rw [← hV5]
    clear hV5 d0 d1 d2 d3
    refine (CS1.out V5 hBV5).mono ?_
    rintro e w6 ⟨rfl, hb6⟩
    have hB36 : Below w3.heap.size w3 w6 := hBV5.trans (hb6.mono hBV5.size)
    have r6 := blk_below r5 hb6 (lt_of_blk r5)
    have q6 := blk_below q5 hb6 (lt_of_blk q5)
    obtain ⟨d0, d1, d2, d3, -⟩ := blk_cells4 q6
    obtain ⟨g0', g1', g2', g3', -⟩ := blk_cells4 r6
    have HB36 := Lib.hid hB36
    clear r5 q5 hb6 r6 q6 hBV5 hB36
    go_wp2_with fail
    refine (CS2.out w6 HB36.out).mono ?_
    rintro e w7 ⟨rfl, hb7⟩
    have hB7 : Below w.heap.size w w7 := hB3.trans ((HB36.out.mono (by omega)).trans (hb7.mono (by have := HB36.out.size; omega)))
    have hz7 : w.heap.size ≤ w7.heap.size := by have := HB36.out.size; have := hb7.size; omega
    clear d0 d1 d2 d3 g0' g1' g2' g3' hb7
    go_wp2_with fail
    refine (lives_any w7).mono ?_
    rintro e w8 ⟨rfl, hb8⟩
    have hB8 := hB7.trans (hb8.mono hz7)
    clear hb8
    go_wp2
    go_ret
    exact ⟨rfl, hB8⟩
  · clear hg s1
    go_wp2_with fail
    refine (lives_any w1).mono ?_
    rintro e w2 ⟨rfl, hb2⟩
    have hB2 := hB1.trans (hb2.mono (by omega))
    clear hb2
    go_wp2
    go_ret
    exact ⟨rfl, hB2⟩
end Go.Proofs.Ythdjokcjajlnnaa
