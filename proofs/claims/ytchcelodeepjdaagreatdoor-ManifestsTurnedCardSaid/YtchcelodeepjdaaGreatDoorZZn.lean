/- manifests.Fold of one record. Condition: fewer than 1000000 bytes. · herbariumlaw20.ManifestsTurned. No condition. · herbariumlaw20.ManifestsTurned: the walk. No condition. -/
import Derived.Test.YtchcelodeepjdaaGreatDoorZZi
import Derived.Test.YtchcelodeepjdaaGreatDoorZT
import Derived.Test.YtchcelodeepjdaaGreatDoorZZl
import Derived.Test.YtchcelodeepjdaaGreatDoorZZb
import Derived.Deep.DeepCutAuto
namespace Go.Proofs.YtchcelodeepjdaaGreatDoor.Ln
open Go.RowKit Go.Shelf Go.Herb

def zeroC : Array Value := #[.int .u64 0, .int .u64 0, .int .u64 0, .slice none 0 0, .slice none 0 0, .slice none 0 0, .slice none 0 0]
/-- Behind the deferred function where a reading gave up. -/
structure Caught (x e : Nat) (w w' : World) : Prop where
  root : w'.heap[x]? = some (.cells zeroC (32) (0, 0))
  errno : w'.heap[e]? = some (.cells #[.int .i64 4] (33) (0, 0))
  below : ∀ B, B ≤ x → B ≤ e → B ≤ w.heap.size → Below B w w'
/-- On the way there. -/
structure CX (x e : Nat) (w u : World) (cs es : Array Value) : Prop where
  root : u.heap[x]? = some (.cells cs (32) (0, 0))
  errno : u.heap[e]? = some (.cells es (33) (0, 0))
  below : ∀ B, B ≤ x → B ≤ e → B ≤ w.heap.size → Below B w u
  kept : ∀ k o, w.heap[k]? = some o → k ≠ x → k ≠ e → u.heap[k]? = some o
theorem CX.x {x e : Nat} {w u : World} {cs es : Array Value} (h : CX x e w u cs es) (hxe : x ≠ e) (j : Nat) (v : Value) (cs' : Array Value) (hc : cs.setIfInBounds j v = cs') : CX x e w (u.setCell ⟨x, j, none⟩ v) cs' es :=
  ⟨by rw [← hc]; exact blk_setCell h.root v, blk_setCell_other h.errno (show e ≠ x from fun e2 => hxe e2.symm) v, fun B h1 h2 h3 => Below.setCell (h.below B h1 h2 h3) (p := ⟨x, j, none⟩) h1 v, fun k o hk h1 h2 => blk_setCell_other (h.kept k o hk h1 h2) (show k ≠ x from h1) v⟩
theorem CX.e {x e : Nat} {w u : World} {cs es : Array Value} (h : CX x e w u cs es) (hxe : x ≠ e) (j : Nat) (v : Value) (es' : Array Value) (hc : es.setIfInBounds j v = es') : CX x e w (u.setCell ⟨e, j, none⟩ v) cs es' :=
  ⟨blk_setCell_other h.root (show x ≠ e from hxe) v, by rw [← hc]; exact blk_setCell h.errno v, fun B h1 h2 h3 => Below.setCell (h.below B h1 h2 h3) (p := ⟨e, j, none⟩) h2 v, fun k o hk h1 h2 => blk_setCell_other (h.kept k o hk h1 h2) (show k ≠ e from h2) v⟩
theorem CX.alloc {x e : Nat} {w u : World} {cs es : Array Value} (h : CX x e w u cs es) (hs : w.heap.size ≤ u.heap.size) (o : Obj) : CX x e w (u.alloc o) cs es :=
  ⟨blk_below h.root ((Below.refl _ _).alloc (Nat.le_refl _) o) (lt_of_blk h.root), blk_below h.errno ((Below.refl _ _).alloc (Nat.le_refl _) o) (lt_of_blk h.errno), fun B h1 h2 h3 => (h.below B h1 h2 h3).alloc (Nat.le_trans h3 hs) o, fun k o' hk h1 h2 => blk_below (h.kept k o' hk h1 h2) ((Below.refl _ _).alloc (Nat.le_refl _) o) (lt_of_blk (h.kept k o' hk h1 h2))⟩
theorem CX.name {x e : Nat} {w u : World} {cs es : Array Value} (_ : CX x e w u cs es) : ∃ Z, Z = u := ⟨u, rfl⟩
set_option maxRecDepth 100000 in
set_option maxHeartbeats 1000000 in
theorem catch_none (x e : Nat) (v0 v1 v2 v3 v4 v5 v6 v : Value) (w : World) (hx : w.heap[x]? = some (.cells #[v0, v1, v2, v3, v4, v5, v6] (32) (0, 0))) (he : w.heap[e]? = some (.cells #[v] (33) (0, 0))) (hxe : x ≠ e) :
    CallsD Tryz.prog (25) #[.pointer (some ⟨x, 0, none⟩), .pointer (some ⟨e, 0, none⟩)] (.panicking NONE) w fun en u' w' => en = .returned (.tuple #[]) ∧ u' = .panicking [{ v := .iface (66) (.agg #[]), recovered := true }] ∧ Caught x e w w' := by
  have c0 := cell_of_blk hx 0
  have c1 := cell_of_blk hx 1
  have c2 := cell_of_blk hx 2
  have c3 := cell_of_blk hx 3
  have c4 := cell_of_blk hx 4
  have c5 := cell_of_blk hx 5
  have c6 := cell_of_blk hx 6
  have f0 := frozen_of_blk hx 0
  have f1 := frozen_of_blk hx 1
  have f2 := frozen_of_blk hx 2
  have f3 := frozen_of_blk hx 3
  have f4 := frozen_of_blk hx 4
  have f5 := frozen_of_blk hx 5
  have f6 := frozen_of_blk hx 6
  have d0 := cell_of_blk he 0
  have k0 := frozen_of_blk he 0
  simp at c0 c1 c2 c3 c4 c5 c6 d0
  have hta : ∀ w : World, (Instr.typeAssert (.iface (66) (.agg #[])) (20) (66) true).run Tryz.prog w = .ok (.tuple #[.agg #[], .bool true]) w := fun _ => by kernel_rfl
  have hlx := lt_of_blk hx
  have hle := lt_of_blk he
  have HX := Lib.hid hx
  have HE := Lib.hid he
  refine callsD_of_wpS Tryz.func25 rfl fun c₀ cs₀ hu => ?_
  apply wpS_seq
  apply wpS_region
  simp [wpOpsS, go_sem, recoverD, hu, NONE, Tryz.ntmps25, Exit.thenS]
  apply wpS_seq
  apply wpS_region
  simp [wpOpsS, go_sem, Exit.thenS]
  refine wpS_cond (t := true) (by simp [Act.eval]) ?_
  simp only [if_true]
  refine wpS_of_wp ?_
  clear hx he
  change Code.wp _ _ _ { tmps := #[.pointer (some ⟨x, 0, none⟩), .pointer (some ⟨e, 0, none⟩), .iface (66) (.agg #[]), undef, undef, .iface (66) (.agg #[]), .iface (66) (.agg #[]), .bool true, undef, undef, undef, undef, undef, undef, undef, undef, undef], defers := [] } _
  go_wp2_with fail
  have HC0 := Lib.hid (show CX x e w w #[v0, v1, v2, v3, v4, v5, v6] #[v] from ⟨HX.out, HE.out, fun B _ _ _ => Below.refl _ _, fun _ _ hk _ _ => hk⟩)
  have HC := Lib.hid ((((((((HC0.out.x hxe 0 (.int .u64 0) _ rfl).x hxe 1 (.int .u64 0) _ rfl).x hxe 2 (.int .u64 0) _ rfl).x hxe 3 (.slice none 0 0) _ rfl).x hxe 4 (.slice none 0 0) _ rfl).x hxe 5 (.slice none 0 0) _ rfl).x hxe 6 (.slice none 0 0) zeroC rfl).e hxe 0 (.int .i64 4) #[.int .i64 4] rfl)
  have HC2 := Lib.hid (HC.out.alloc (by simp [World.setCell]) (.cells #[] (66)))
  obtain ⟨Z, hZ⟩ := HC2.out.name
  rw [← hZ] at HC2 ⊢
  clear hZ
  have HF := Lib.hid (show Caught x e w Z from ⟨HC2.out.root, HC2.out.errno, HC2.out.below⟩)
  simp [bodyPostS, results, Tryz.results25]
  exact HF.out
def Fold1Post (ys : List Int) (w : World) (e : Ending) (w' : World) : Prop := Below w.heap.size w w' ∧ (((¬ ∃ x, OneIs ys x) ∧ e = .returned (.tuple #[.agg zeroC, .int .i64 4])) ∨ ∃ r : Rv, OneIs ys r.says ∧ e = .returned (.tuple #[rtV r, .int .i64 0]) ∧ RtOwn w.heap.size w' r)
/-- A root that was read, in a box of Fold's. -/
def FoldAt (ys : List Int) (w W u : World) (v : Value) : Prop := ∃ (r : Rv) (b : Nat), v = .pointer (some ⟨b, 0, none⟩) ∧ u.heap[b]? = some (.cells #[.int .u64 r.seq, .int .u64 r.log, .int .u64 r.next, .slice r.ba r.bs.length r.bc, .slice r.la r.ls.length r.lc, .slice r.va r.vs.length r.vc, .slice r.sa r.sh.length r.sc] (32) (0, 0)) ∧ OneIs ys r.says ∧ RtOwn W.heap.size u r ∧ Below W.heap.size W u
set_option maxRecDepth 100000 in
set_option maxHeartbeats 2000000 in
theorem fold1_any (g go cl : Nat) (a : Option Addr) (cap n : Nat) (ys : List Int) (w : World) (hgc : w.cell? ⟨g, go, none⟩ = some (.slice a n cap)) (hgl : g < w.heap.size) (hb : Byt w a ys) (hn : ys.length = n) (hu : ∀ y ∈ ys, U8 y) (hl : n < 1000000) (hle : n ≤ cap) (h0 : a = none → cap = 0) :
    Calls Tryz.prog (11) #[.slice (some ⟨g, go, none⟩) 1 cl] w (Fold1Post ys w) := by
  have hmf : ∀ (fn : Fn) (first cap : Array Value) (w : World), (Instr.makeFunc fn first cap).run Tryz.prog w = .ok (.func fn first cap) w := fun _ _ _ _ => rfl
  obtain ⟨W1, hW1⟩ : ∃ W : World, W = w.alloc (.cells #[.int .u64 0, .int .u64 0, .int .u64 0, .slice none 0 0, .slice none 0 0, .slice none 0 0, .slice none 0 0] (32)) := ⟨_, rfl⟩
  obtain ⟨W, hW⟩ : ∃ W : World, W = W1.alloc (.cells #[.int .i64 0] (33)) := ⟨_, rfl⟩
  have hB1 : Below w.heap.size w W1 := by rw [hW1]; exact (Below.refl _ _).alloc (Nat.le_refl _) _
  have hz1 : W1.heap.size = w.heap.size + 1 := by rw [hW1]; simp
  have hB2 : Below W1.heap.size W1 W := by rw [hW]; exact (Below.refl _ _).alloc (Nat.le_refl _) _
  have hBW : Below w.heap.size w W := hB1.trans (hB2.mono hB1.size)
  have hx1 : W1.heap[w.heap.size]? = some (.cells zeroC (32) (0, 0)) := by rw [hW1]; exact blk_new_at rfl _
  have HX := Lib.hid (blk_below hx1 hB2 (lt_of_blk hx1))
  have HE := Lib.hid (show W.heap[w.heap.size + 1]? = some (.cells #[.int .i64 0] (33) (0, 0)) from by rw [hW]; exact blk_new_at (by rw [hW1]; simp) _)
  have HZ := Lib.hid (show W.heap.size = w.heap.size + 2 from by rw [hW]; simp [hz1])
  have g0 := (hBW.cell (p := ⟨g, go, none⟩) hgl).trans hgc
  have HO := Lib.hid (one_nil a cap n ys W (hb.ext hBW) hn hu hl hle h0)
  have HB := Lib.hid hBW
  have HW := Lib.hid hW
  have HW1 := Lib.hid hW1
  clear hgc hb hn hu hle h0 hB1 hz1 hB2 hBW hx1
  go_enter_defers Tryz.func11, Tryz.ntmps11
  go_upto_region 6 with fail
  rw [← hW1, ← hW]
  clear hW1 hW
  go_loopg [15, 4] 1 (fun gk iv v4 wr => ∃ k : Nat, k + gk = 1 ∧ iv = .int .i64 k ∧ Hid (k = 0 → v4 = .pointer none ∧ wr = W) ∧ Hid (k = 1 → FoldAt ys w W wr v4))
  case atStart => exact ⟨0, rfl, rfl, Lib.hid (fun _ => ⟨rfl, rfl⟩), Lib.hid (fun h => by cases h)⟩
  case round =>
    obtain ⟨k, hk, rfl, HK0, HK1⟩ := hrel
    by_cases hk0 : k = 0
    · obtain ⟨rfl, rfl⟩ := HK0.out hk0
      subst hk0
      go_wp2_with fail
      refine HO.out.mono ?_
      rintro e w2 ⟨hb, ⟨hno, rfl⟩ | ⟨r, hoi, rfl, ho⟩⟩
      · have HNO := Lib.hid hno
        have HB2 := Lib.hid (HB.out.trans (hb.mono HB.out.size))
        have HX2 := Lib.hid (blk_below HX.out hb (lt_of_blk HX.out))
        have HE2 := Lib.hid (blk_below HE.out hb (lt_of_blk HE.out))
        clear hno hb
        refine leaves_cons (f := 25) (args := #[.pointer (some ⟨w.heap.size, 0, none⟩), .pointer (some ⟨w.heap.size + 1, 0, none⟩)]) (by simp) (by simp [go_sem]) ?_
        refine (catch_none w.heap.size (w.heap.size + 1) _ _ _ _ _ _ _ _ w2 HX2.out HE2.out (by omega)).mono ?_
        rintro e u' w'' ⟨rfl, rfl, hC⟩
        have c0 := cell_of_blk hC.root 0
        have c1 := cell_of_blk hC.root 1
        have c2 := cell_of_blk hC.root 2
        have c3 := cell_of_blk hC.root 3
        have c4 := cell_of_blk hC.root 4
        have c5 := cell_of_blk hC.root 5
        have c6 := cell_of_blk hC.root 6
        have d0 := cell_of_blk hC.errno 0
        simp [zeroC] at c0 c1 c2 c3 c4 c5 c6 d0
        have HF := Lib.hid (show Fold1Post ys w (.returned (.tuple #[.agg zeroC, .int .i64 4])) w'' from ⟨HB2.out.trans (hC.below _ (Nat.le_refl _) (by omega) HB2.out.size), .inl ⟨HNO.out, rfl⟩⟩)
        clear hC
        simp [Leaves, settle, results, Tryz.results11, go_sem, c0, c1, c2, c3, c4, c5, c6, d0]
        exact HF.out
      · have HOI := Lib.hid hoi
        have HRO := Lib.hid ho
        have HB2 := Lib.hid hb
        clear hoi ho hb
        have HFA := Lib.hid (show FoldAt ys w wr (w2.alloc (.cells #[.int .u64 r.seq, .int .u64 r.log, .int .u64 r.next, .slice r.ba r.bs.length r.bc, .slice r.la r.ls.length r.lc, .slice r.va r.vs.length r.vc, .slice r.sa r.sh.length r.sc] (32))) (.pointer (some ⟨w2.heap.size, 0, none⟩)) from ⟨r, w2.heap.size, rfl, blk_new_at rfl _, HOI.out, HRO.out.ext ((Below.refl _ _).alloc (Nat.le_refl _) _), HB2.out.alloc HB2.out.size _⟩)
        go_wp2_with fail
        go_roundg (gk - 1)
        case measure => omega
        case rel => exact ⟨1, by omega, rfl, Lib.hid (fun h => by cases h), Lib.hid (fun _ => HFA.out)⟩
    · have hk1 : k = 1 := by omega
      subst hk1
      obtain ⟨r, b, rfl, hbk, hoi, ho, hB⟩ := HK1.out rfl
      obtain ⟨nb, hnb⟩ : ∃ n, n = r.bs.length := ⟨_, rfl⟩
      obtain ⟨nl, hnl⟩ : ∃ n, n = r.ls.length := ⟨_, rfl⟩
      obtain ⟨nv, hnv⟩ : ∃ n, n = r.vs.length := ⟨_, rfl⟩
      obtain ⟨ns, hns⟩ : ∃ n, n = r.sh.length := ⟨_, rfl⟩
      have hrt : rtV r = .agg #[.int .u64 r.seq, .int .u64 r.log, .int .u64 r.next, .slice r.ba nb r.bc, .slice r.la nl r.lc, .slice r.va nv r.vc, .slice r.sa ns r.sc] := by rw [hnb, hnl, hnv, hns]
      rw [← hnb, ← hnl, ← hnv, ← hns] at hbk
      have HRT := Lib.hid hrt
      have hxb := blk_below HX.out hB (lt_of_blk HX.out)
      have heb := blk_below HE.out hB (lt_of_blk HE.out)
      have HC0 := Lib.hid (show CX w.heap.size (w.heap.size + 1) wr wr zeroC #[.int .i64 0] from ⟨hxb, heb, fun B _ _ _ => Below.refl _ _, fun _ _ hk _ _ => hk⟩)
      have HOI := Lib.hid hoi
      have HRO := Lib.hid ho
      have HBk := Lib.hid hB
      have c0 := cell_of_blk hbk 0
      have c1 := cell_of_blk hbk 1
      have c2 := cell_of_blk hbk 2
      have c3 := cell_of_blk hbk 3
      have c4 := cell_of_blk hbk 4
      have c5 := cell_of_blk hbk 5
      have c6 := cell_of_blk hbk 6
      simp at c0 c1 c2 c3 c4 c5 c6
      have x0 := cell_of_blk hxb 0
      have x1 := cell_of_blk hxb 1
      have x2 := cell_of_blk hxb 2
      have x3 := cell_of_blk hxb 3
      have x4 := cell_of_blk hxb 4
      have x5 := cell_of_blk hxb 5
      have x6 := cell_of_blk hxb 6
      have e0 := cell_of_blk heb 0
      simp [zeroC] at x0 x1 x2 x3 x4 x5 x6 e0
      have f0 := frozen_of_blk hxb 0
      have f1 := frozen_of_blk hxb 1
      have f2 := frozen_of_blk hxb 2
      have f3 := frozen_of_blk hxb 3
      have f4 := frozen_of_blk hxb 4
      have f5 := frozen_of_blk hxb 5
      have f6 := frozen_of_blk hxb 6
      have k0 := frozen_of_blk heb 0
      clear hk0 HK0 HK1 hbk hoi ho hB hnb hnl hnv hns hrt hxb heb
      go_wp2_with fail
      have hxe : w.heap.size ≠ w.heap.size + 1 := by omega
      have HC := Lib.hid ((((((((HC0.out.x hxe 0 (.int .u64 r.seq) _ rfl).x hxe 1 (.int .u64 r.log) _ rfl).x hxe 2 (.int .u64 r.next) _ rfl).x hxe 3 (.slice r.ba nb r.bc) _ rfl).x hxe 4 (.slice r.la nl r.lc) _ rfl).x hxe 5 (.slice r.va nv r.vc) _ rfl).x hxe 6 (.slice r.sa ns r.sc) #[.int .u64 r.seq, .int .u64 r.log, .int .u64 r.next, .slice r.ba nb r.bc, .slice r.la nl r.lc, .slice r.va nv r.vc, .slice r.sa ns r.sc] rfl).e hxe 0 (.int .i64 0) #[.int .i64 0] rfl)
      obtain ⟨Z, hZ⟩ := HC.out.name
      rw [← hZ] at HC ⊢
      clear hZ x0 x1 x2 x3 x4 x5 x6 e0 c0 c1 c2 c3 c4 c5 c6 f0 f1 f2 f3 f4 f5 f6 k0
      refine leaves_cons (f := 25) (args := #[.pointer (some ⟨w.heap.size, 0, none⟩), .pointer (some ⟨w.heap.size + 1, 0, none⟩)]) (by simp) (by simp [go_sem]) ?_
      refine (catch_idle ⟨w.heap.size, 0, none⟩ ⟨w.heap.size + 1, 0, none⟩ _).mono ?_
      rintro e u' w'' ⟨rfl, rfl, rfl⟩
      have c0 := cell_of_blk HC.out.root 0
      have c1 := cell_of_blk HC.out.root 1
      have c2 := cell_of_blk HC.out.root 2
      have c3 := cell_of_blk HC.out.root 3
      have c4 := cell_of_blk HC.out.root 4
      have c5 := cell_of_blk HC.out.root 5
      have c6 := cell_of_blk HC.out.root 6
      have d0 := cell_of_blk HC.out.errno 0
      simp at c0 c1 c2 c3 c4 c5 c6 d0
      have HF := Lib.hid (show Fold1Post ys w (.returned (.tuple #[.agg #[.int .u64 r.seq, .int .u64 r.log, .int .u64 r.next, .slice r.ba nb r.bc, .slice r.la nl r.lc, .slice r.va nv r.vc, .slice r.sa ns r.sc], .int .i64 0])) w'' from ⟨(HB.out.trans (HBk.out.mono HB.out.size)).trans (HC.out.below _ (Nat.le_refl _) (by omega) (Nat.le_trans HB.out.size HBk.out.size)), .inr ⟨r, HOI.out, by rw [HRT.out], (HRO.out.kept (fun g _ _ hh hg _ => HC.out.kept g _ hh (by have := HZ.out; omega) (by have := HZ.out; omega))).mono HB.out.size⟩⟩)
      simp [Leaves, settle, results, Tryz.results11, go_sem, c0, c1, c2, c3, c4, c5, c6, d0]
      exact HF.out
end Go.Proofs.YtchcelodeepjdaaGreatDoor.Ln

namespace Go.Proofs.YtchcelodeepjdaaGreatDoor.Ln
open Go.RowKit Go.Shelf Go.Herb

theorem NotGreat.fewX {r : Rv} (h : NotGreat r) : FewX r.says := by
  have b := h.bs
  have l := h.ls
  have v := h.vs
  have s := h.sh
  have e0 : r.says.bs = r.bs := rfl
  have e1 : r.says.ls = r.ls := rfl
  have e2 : r.says.vs.length = r.vs.length := Vx.vsOf_len r.vs
  have e3 : (r.says.vs.map (fun v => 1 + v.2.length)).sum ≤ 61 * r.vs.length := by
    have h1 := sum_le (f := fun v : Int × Bh => 1 + v.2.length) (g := fun _ => 61 * 1) r.says.vs (fun x hx => by
      obtain ⟨y, hy, rfl⟩ := List.mem_map.1 hx
      have := h.pts y hy
      show 1 + y.ps.length ≤ 61
      omega)
    rw [sum_mul 61 (fun _ => 1), sum_ones, e2] at h1
    exact h1
  have e4 : (r.says.sh.map (fun s => 1 + (s.lv.map List.length).sum)).sum ≤ 91 * r.sh.length := by
    have h1 := sum_le (f := fun s : Sd => 1 + (s.lv.map List.length).sum) (g := fun _ => 91 * 1) r.says.sh (fun x hx => by
      obtain ⟨y, hy, rfl⟩ := List.mem_map.1 hx
      have h0 := h.lev y hy y.l0 (by simp [Sv.lv])
      have h1 := h.lev y hy y.l1 (by simp [Sv.lv])
      have h2 := h.lev y hy y.l2 (by simp [Sv.lv])
      show 1 + (y.l0.ts.length + (y.l1.ts.length + (y.l2.ts.length + 0))) ≤ 91
      omega)
    rw [sum_mul 91 (fun _ => 1), sum_ones] at h1
    have h2 : r.says.sh.length = r.sh.length := by show (r.sh.map Sv.says).length = _; rw [List.length_map]
    rw [h2] at h1
    exact h1
  refine ⟨by rw [e0]; omega, by rw [e1]; omega, by rw [e2]; omega, by rw [e0, e1]; omega, by omega⟩
theorem FewX.cmp {r : Rv} (h : FewX r.says) : Cmp r := by
  have hs := FewX.small h
  refine ⟨hs.bs, hs.ls, hs.vs, fun v hv => ?_, ?_, hs.lev⟩
  · have hn := h.nums
    have e2 : r.says.vs = Vx.vsOf r.vs := rfl
    have h1 := mem_sum (f := fun v : Int × Bh => 1 + v.2.length) (l := r.says.vs) (x := (v.line, v.ps)) (by rw [e2]; exact List.mem_map_of_mem (f := fun x : Vx.Vc => (x.line, x.ps)) hv)
    simp only at h1
    omega
  · have h1 := sum_le (f := fun _ => 1) (g := fun s : Sd => 1 + (s.lv.map List.length).sum) (r.sh.map Sv.says) (fun _ _ => by omega)
    rw [sum_ones, List.length_map] at h1
    have := h.sh
    have h3 : r.says.sh = r.sh.map Sv.says := rfl
    rw [h3] at this
    omega
theorem OneIs.few {ys : List Int} {x : Rt} (h : OneIs ys x) (hl : ys.length ≤ 1000000) : FewX x := by
  obtain ⟨l, r0, l1, l2, sh, rfl, h1, h2, rfl⟩ := h.read
  exact few_read h1 h2 (by rw [List.length_cons] at hl; omega)
theorem wholeL_len {w : World} {r : Rv} (hi : RtIn w r) (hg : GoodR r) (hn : NotGreat r) : (wholeL r.says).length < 1000000 := by
  have hf := hn.fewX
  have hl := laid_of hi hg hf
  have hk := keys_of hg hf
  have e1 := flat_len (f := brL) (M := 2000) (l := r.bs) (fun x hx => brL_len (hl.names x hx).2 (hl.inn.brs.all x hx).2.1 (hl.inn.brs.all x hx).2.2)
  have e2 := flat_len (f := lnL) (M := 20) (l := r.ls) (fun x hx => two_len (hl.inn.lns.all x hx).1 (hl.inn.lns.all x hx).2)
  have e3 := flat_len (f := vcL) (M := 1220) (l := Vx.vsOf r.vs) (fun x hx => by
    obtain ⟨y, hy, rfl⟩ := List.mem_map.1 hx
    have h0 := hn.pts y hy
    have h1 := two_len (hi.vcs.wf y hy).1 (u64_len (n := y.ps.length) (by omega))
    have h2 := flat_len (f := ptL) (M := 20) (l := y.ps) (fun q hq => two_len ((hi.vcs.wf y hy).2 q hq).1 ((hi.vcs.wf y hy).2 q hq).2)
    show (numsL [y.line, (y.ps.length : Int)] ++ y.ps.flatMap ptL).length ≤ 1220
    rw [List.length_append]
    omega)
  have e4 := flat_len (f := sdE) (M := 9464) (l := r.sh) (fun s hs => by
    have h1 := sdE_len (hi.shs.ok s hs) (hk s hs)
    have h0 := hn.lev s hs s.l0 (by simp [Sv.lv])
    have h2 := hn.lev s hs s.l1 (by simp [Sv.lv])
    have h3 := hn.lev s hs s.l2 (by simp [Sv.lv])
    have e : (s.lv.map (fun l => l.ts.length)).sum = s.l0.ts.length + (s.l1.ts.length + (s.l2.ts.length + 0)) := rfl
    rw [e] at h1
    omega)
  rw [Vx.vsOf_len] at e3
  have b1 := hg.1.b12
  have b2 := hn.ls
  have b3 := hn.vs
  have b4 := hn.sh
  have n1 := numsL_len [r.seq, r.log, r.next, (r.bs.length : Int)] (by
    intro x hx
    simp only [List.mem_cons, List.not_mem_nil, or_false] at hx
    rcases hx with rfl | rfl | rfl | rfl
    · exact hi.seq
    · exact hi.log
    · exact hi.next
    · exact u64_len (by omega))
  have m1 : [r.seq, r.log, r.next, (r.bs.length : Int)].length = 4 := rfl
  have n2 := num_len (u64_len (n := r.ls.length) (by omega))
  have n3 := num_len (u64_len (n := r.vs.length) (by omega))
  have n4 := num_len (u64_len (n := r.sh.length) (by omega))
  have f1 : r.bs.length * 2000 ≤ 12 * 2000 := Nat.mul_le_mul_right _ b1
  have f2 : r.ls.length * 20 ≤ 80 * 20 := Nat.mul_le_mul_right _ b2
  have f3 : r.vs.length * 1220 ≤ 30 * 1220 := Nat.mul_le_mul_right _ b3
  have f4 : r.sh.length * 9464 ≤ 30 * 9464 := Nat.mul_le_mul_right _ b4
  have es : r.says.sh = r.sh.map Sv.says := rfl
  unfold wholeL
  rw [es, shL_eq]
  unfold headL Rv.says
  simp only [List.length_cons, List.length_append, Vx.vsOf_len, numsL_one]
  omega
theorem xor_u8 (x y : Int) (hx : 0 ≤ x ∧ x < 256) (hy : 0 ≤ y ∧ y < 256) : ∃ z : Int, bits BinOp.xor IntKind.u8 x y = z ∧ 0 ≤ z ∧ z < 256 ∧ (y ≠ 0 → z ≠ x) := by
  obtain ⟨a, rfl⟩ : ∃ k : Nat, x = (k : Int) := ⟨x.toNat, by omega⟩
  obtain ⟨b, rfl⟩ : ∃ k : Nat, y = (k : Int) := ⟨y.toNat, by omega⟩
  have ha : a < 256 := by omega
  have hb : b < 256 := by omega
  have e : bits BinOp.xor IntKind.u8 (a : Int) (b : Int) = ((a ^^^ b : Nat) : Int) := by
    have h1 : a ^^^ b < 2 ^ 8 := Nat.xor_lt_two_pow (by omega) (by omega)
    show IntKind.u8.wrap ((BitVec.ofInt 8 (a : Int) ^^^ BitVec.ofInt 8 (b : Int)).toNat : Int) = _
    rw [BitVec.ofInt_natCast, BitVec.ofInt_natCast, BitVec.toNat_xor, BitVec.toNat_ofNat, BitVec.toNat_ofNat, Nat.mod_eq_of_lt (by omega), Nat.mod_eq_of_lt (by omega), IntKind.wrap_u8]
    omega
  have h1 : a ^^^ b < 2 ^ 8 := Nat.xor_lt_two_pow (by omega) (by omega)
  refine ⟨_, e, by omega, by omega, fun hb0 h => hb0 ?_⟩
  have h2 : a ^^^ b = a := by omega
  have h3 : a ^^^ (a ^^^ b) = a ^^^ a := by rw [h2]
  rw [← Nat.xor_assoc, Nat.xor_self, Nat.zero_xor] at h3
  omega
theorem byt_set {w : World} {ad : Addr} {ys : List Int} (h : Byt w (some ad) ys) (k : Nat) (_ : k < ys.length) (z : Int) {cs : Array Value} {t : TypeId} {fr : Nat × Nat} (hb : w.heap[ad.block]? = some (.cells cs t fr)) {b o : Nat} (he : ad = ⟨b, o, none⟩) (hc : o + k < cs.size) :
    Byt (w.setCell ⟨b, o + k, none⟩ (.int .u8 z)) (some ad) (ys.set k z) := by
  subst he
  have hb2 := blk_setCell (j := o + k) hb (.int .u8 z)
  refine ⟨fun i hi => ?_⟩
  rw [List.length_set] at hi
  obtain ⟨b', o', ha, hlt, hcc⟩ := h.get i hi
  cases ha
  refine ⟨b, o, rfl, lt_of_blk hb2, fun j c hj => ?_⟩
  have hj0 : j = 0 := by
    rcases Nat.eq_zero_or_pos j with h | h
    · exact h
    · rw [List.getElem?_eq_none (by rw [nb_len]; omega)] at hj; cases hj
  subst hj0
  rw [cell_of_blk hb2]
  by_cases hik : i = k
  · subst hik
    rw [List.getElem_set_self] at hj
    simp only [Nat.mul_one, Nat.add_zero]
    rw [Array.getElem?_setIfInBounds_self_of_lt hc]
    simpa [nb] using hj
  · rw [List.getElem_set_ne (fun e => hik e.symm)] at hj
    have h2 := hcc 0 c hj
    rw [cell_of_blk hb] at h2
    simp only [Nat.mul_one, Nat.add_zero] at h2 ⊢
    rw [Array.getElem?_setIfInBounds_ne (by omega)]
    exact h2
end Go.Proofs.YtchcelodeepjdaaGreatDoor.Ln

namespace Go.Proofs.YtchcelodeepjdaaGreatDoor.Ln
open Go.RowKit Go.Shelf Go.Herb

theorem u16_wf {x : Int} (h : (Lit.int .u16 x).wf = true) : 0 ≤ x ∧ x < 65536 := by
  simp [Lit.wf, IntKind.min, IntKind.max, IntKind.signed, IntKind.bits] at h
  omega
theorem u8_wf {x : Int} (h : (Lit.int .u8 x).wf = true) : 0 ≤ x ∧ x < 256 := by
  simp [Lit.wf, IntKind.min, IntKind.max, IntKind.signed, IntKind.bits] at h
  omega

set_option maxRecDepth 100000 in
set_option maxHeartbeats 4000000 in
theorem manifestsTurned_any (r : Rv) (at_ by_ : Int) (w : World) (h : RtIn w r) (hat : 0 ≤ at_ ∧ at_ < 65536) (hby : 0 ≤ by_ ∧ by_ < 256) :
    Calls Tryz.prog (6) #[rtV r, .int .u16 at_, .int .u8 by_] w (LivesPost w) := by
  obtain ⟨t, rfl⟩ : ∃ t : Nat, at_ = (t : Int) := ⟨at_.toNat, by omega⟩
  obtain ⟨nb, hnb⟩ : ∃ n, n = r.bs.length := ⟨_, rfl⟩
  obtain ⟨nl, hnl⟩ : ∃ n, n = r.ls.length := ⟨_, rfl⟩
  obtain ⟨nv, hnv⟩ : ∃ n, n = r.vs.length := ⟨_, rfl⟩
  obtain ⟨ns, hns⟩ : ∃ n, n = r.sh.length := ⟨_, rfl⟩
  have hrt : rtV r = .agg #[.int .u64 r.seq, .int .u64 r.log, .int .u64 r.next, .slice r.ba nb r.bc, .slice r.la nl r.lc, .slice r.va nv r.vc, .slice r.sa ns r.sc] := by rw [hnb, hnl, hnv, hns]
  obtain ⟨W, hW⟩ : ∃ W : World, W = w.alloc (.cells #[.int .u64 r.seq, .int .u64 r.log, .int .u64 r.next, .slice r.ba nb r.bc, .slice r.la nl r.lc, .slice r.va nv r.vc, .slice r.sa ns r.sc] (32)) := ⟨_, rfl⟩
  have hB : Below w.heap.size w W := by rw [hW]; exact (Below.refl _ _).alloc (Nat.le_refl _) _
  have hx1 : W.heap[w.heap.size]? = some (.cells #[.int .u64 r.seq, .int .u64 r.log, .int .u64 r.next, .slice r.ba nb r.bc, .slice r.la nl r.lc, .slice r.va nv r.vc, .slice r.sa ns r.sc] (32) (0, 0)) := by rw [hW]; exact blk_new_at rfl _
  have hzW : W.heap.size = w.heap.size + 1 := by rw [hW]; simp
  have HZW := Lib.hid hzW
  have HB := Lib.hid hB
  have HR := Lib.hid (h.ext hB)
  have HAT := Lib.hid hat
  have HBY := Lib.hid hby
  have HG := Lib.hid (greatR_any r W (h.ext hB))
  have HL := Lib.hid lives_any
  have HCK := Lib.hid (show NotGreat r → ∀ u, Below W.heap.size W u → Calls Tryz.prog (16) #[rtV r] u (CheckPost r u) from fun hn u hu => check_any r u ((h.ext hB).ext hu) hn.few.small)
  have HC : Hid (∀ u, Below W.heap.size W u → u.cell? ⟨w.heap.size, 0, none⟩ = some (.int .u64 r.seq) ∧ u.cell? ⟨w.heap.size, 1, none⟩ = some (.int .u64 r.log) ∧ u.cell? ⟨w.heap.size, 2, none⟩ = some (.int .u64 r.next) ∧ u.cell? ⟨w.heap.size, 3, none⟩ = some (.slice r.ba nb r.bc) ∧ u.cell? ⟨w.heap.size, 4, none⟩ = some (.slice r.la nl r.lc) ∧ u.cell? ⟨w.heap.size, 5, none⟩ = some (.slice r.va nv r.vc) ∧ u.cell? ⟨w.heap.size, 6, none⟩ = some (.slice r.sa ns r.sc)) := Lib.hid (fun u hu => by
    have q := cell_of_blk (blk_below hx1 hu (lt_of_blk hx1))
    have q0 := q 0
    have q1 := q 1
    have q2 := q 2
    have q3 := q 3
    have q4 := q 4
    have q5 := q 5
    have q6 := q 6
    simp at q0 q1 q2 q3 q4 q5 q6
    exact ⟨q0, q1, q2, q3, q4, q5, q6⟩)
  have HRT := Lib.hid hrt
  rw [hrt] at HG HCK
  have HW := Lib.hid hW
  rw [hrt]
  obtain ⟨c0, c1, c2, c3, c4, c5, c6⟩ := HC.out W (Below.refl _ _)
  rw [hW] at HG
  clear h hat hby hrt hB hx1 hW hnb hnl hnv hns hzW
  go_enter Tryz.func6, Tryz.ntmps6
  go_wp2_with fail
  refine HG.out.mono ?_
  rw [← HW.out]
  rintro e w1 ⟨q, rfl, hq, hb1⟩
  have HB1 := Lib.hid hb1
  have HNG := Lib.hid hq
  clear c0 c1 c2 c3 c4 c5 c6 hb1 hq HG
  obtain ⟨c0, c1, c2, c3, c4, c5, c6⟩ := HC.out w1 HB1.out
  cases q with
  | true =>
    clear HCK HNG
    go_wp2_with (go_at_call 9; refine (HL.out _).mono ?_; rintro e w2 ⟨rfl, hb2⟩; have HB2 := Lib.hid (HB1.out.trans (hb2.mono HB1.out.size)); clear hb2)
    go_ret
    exact ⟨rfl, HB.out.trans (HB2.out.mono HB.out.size)⟩
  | false =>
    have HNG2 := Lib.hid (HNG.out rfl)
    clear HNG
    go_wp2_with fail
    refine (HCK.out HNG2.out w1 HB1.out).mono ?_
    rintro e w2 ⟨n, rfl, hn, hb2⟩
    have HB2 := Lib.hid (HB1.out.trans (hb2.mono HB1.out.size))
    clear c0 c1 c2 c3 c4 c5 c6 hb2 HCK
    obtain ⟨c0, c1, c2, c3, c4, c5, c6⟩ := HC.out w2 HB2.out
    rcases hn with ⟨rfl, hg⟩ | ⟨rfl, hg⟩
    case inr =>
      clear hg
      go_wp2_with (go_at_call 9; refine (HL.out _).mono ?_; rintro e w3 ⟨rfl, hb3⟩; have HB3 := Lib.hid (HB2.out.trans (hb3.mono HB2.out.size)); clear hb3)
      go_ret
      exact ⟨rfl, HB.out.trans (HB3.out.mono HB.out.size)⟩
    have HGR := Lib.hid hg
    clear hg
    by_cases hby0 : by_ = 0
    case pos =>
      have t1 : (by_ == 0) = true := beq_iff_eq.2 hby0
      clear hby0
      go_wp2_with (go_at_call 9; refine (HL.out _).mono ?_; rintro e w3 ⟨rfl, hb3⟩; have HB3 := Lib.hid (HB2.out.trans (hb3.mono HB2.out.size)); clear hb3)
      go_ret
      exact ⟨rfl, HB.out.trans (HB3.out.mono HB.out.size)⟩
    have t1 : (by_ == 0) = false := beq_eq_false_iff_ne.2 hby0
    have HBY0 := Lib.hid hby0
    clear hby0
    have HPUT := Lib.hid (put_good r w2 (HR.out.ext HB2.out) HGR.out HNG2.out.fewX)
    rw [HRT.out] at HPUT
    obtain ⟨ys, hys⟩ : ∃ ys, ys = wholeL r.says := ⟨_, rfl⟩
    have HYL := Lib.hid (show ys.length < 1000000 ∧ 0 < ys.length from ⟨by rw [hys]; exact wholeL_len (HR.out.ext HB2.out) HGR.out HNG2.out, by rw [hys]; unfold wholeL; rw [List.length_cons]; omega⟩)
    rw [← hys] at HPUT
    have HYS := Lib.hid hys
    clear hys
    go_wp2_with fail
    refine HPUT.out.mono ?_
    rintro e w3 ⟨a, n, rfl, hn, hE, hb3, hfr⟩
    have HB3 := Lib.hid (HB2.out.trans (hb3.mono HB2.out.size))
    have hn1 : n < 1000000 := by rw [hn]; exact HYL.out.1
    have hn0 : 0 < n := by rw [hn]; exact HYL.out.2
    obtain ⟨k, hk⟩ : ∃ k : Nat, k = t % n := ⟨_, rfl⟩
    have hkn : k < n := by rw [hk]; exact Nat.mod_lt _ hn0
    obtain ⟨ab, ao, hab, hal, hac⟩ := hE.get k (by omega)
    subst hab
    obtain ⟨hfb, bcs, hbk⟩ := hfr _ rfl
    have hyk : ys[k]? = some (ys[k]'(by omega)) := List.getElem?_eq_getElem (by omega)
    have hu8 := wholeL_u8 r.says
    rw [← HYS.out] at hu8
    obtain ⟨z, hz, hz0, hz1, hz2⟩ := xor_u8 (ys[k]'(by omega)) by_ (hu8 _ (List.getElem_mem (by omega))) HBY.out
    have g0 := hac 0 _ rfl
    simp only [Nat.mul_one, Nat.add_zero] at g0
    have f0 := frozen_of_blk hbk (ao + k)
    have hsz : ao + k < bcs.size := by
      have h1 := cell_of_blk hbk (ao + k)
      have h1 : w3.cell? ⟨ab, ao + k, none⟩ = bcs[ao + k]? := h1
      rw [g0] at h1
      rcases Nat.lt_or_ge (ao + k) bcs.size with h | h
      · exact h
      · rw [Array.getElem?_eq_none h] at h1; cases h1
    have f0 : w3.frozen? ⟨ab, ao + k, none⟩ = false := f0
    obtain ⟨w4, hw4⟩ : ∃ u : World, u = w3.setCell ⟨ab, ao + k, none⟩ (.int .u8 z) := ⟨_, rfl⟩
    have HE4 := Lib.hid (show Byt w4 (some ⟨ab, ao, none⟩) (ys.set k z) from by rw [hw4]; exact byt_set hE k (by omega) z hbk rfl hsz)
    have hfb : w2.heap.size ≤ ab := hfb
    have HB4 := Lib.hid (show Below W.heap.size W w4 from by rw [hw4]; exact Below.setCell HB3.out (p := ⟨ab, ao + k, none⟩) (Nat.le_trans HB2.out.size hfb) _)
    have HNE := Lib.hid (show ys.set k z ≠ ys from fun e => by
      have h1 : (ys.set k z)[k]? = some z := by rw [List.getElem?_set_self (by omega)]
      rw [e, hyk] at h1
      exact hz2 HBY0.out (Option.some.inj h1).symm)
    have HU4 := Lib.hid (show ∀ y ∈ ys.set k z, U8 y from fun y hy => by
      rcases List.mem_or_eq_of_mem_set hy with h | h
      · exact hu8 y h
      · rw [h]; exact ⟨hz0, hz1⟩)
    have HN4 := Lib.hid (show (ys.set k z).length = n from by rw [List.length_set]; exact hn.symm)
    obtain ⟨ys', hys'⟩ : ∃ x, x = ys.set k z := ⟨_, rfl⟩
    rw [← hys'] at HE4 HNE HU4 HN4
    generalize ys[k]'(by omega) = y at g0 hz
    have i0 : (0 : Int) ≤ (k : Int) := by omega
    have i1 : (k : Int) < (n : Int) := by omega
    have n0 : ((n : Int) == 0) = false := beq_eq_false_iff_ne.2 (by omega)
    have n1 : (n == 0) = false := beq_eq_false_iff_ne.2 (by omega)
    have n2 : ¬ (n : Int) = 0 := by omega
    have a0 : (0 : Int) ≤ (t : Int) := by omega
    have hcv : IntKind.i64.wrap (t : Int) = (t : Int) := IntWalk.i64_in _ (by have := HAT.out; omega)
    have hrem : (t : Int) % (n : Int) = (k : Int) := by rw [hk]; exact (Int.natCast_emod t n).symm
    have hrem2 : (t : Int).tmod (n : Int) = (k : Int) := by rw [Int.tmod_eq_emod_of_nonneg a0]; exact hrem
    have HW4 := Lib.hid hw4
    clear hE hb3 hfr hac hbk hyk hu8 hz0 hz1 hz2 hsz hw4 hfb hys' hk hn c0 c1 c2 c3 c4 c5 c6 hal
    go_upto_region 8 with fail
    rw [← HW4.out]
    obtain ⟨c0, c1, c2, c3, c4, c5, c6⟩ := HC.out w4 HB4.out
    obtain ⟨W5, hW5⟩ : ∃ u : World, u = w4.alloc (.cells #[.slice (some ⟨ab, ao, none⟩) n n] (24)) := ⟨_, rfl⟩
    have hb5 : Below w4.heap.size w4 W5 := by rw [hW5]; exact (Below.refl _ _).alloc (Nat.le_refl _) _
    have HB5 := Lib.hid (HB4.out.trans (hb5.mono HB4.out.size))
    have HFO := Lib.hid (fold1_any w4.heap.size 0 1 (some ⟨ab, ao, none⟩) n n ys' W5 (by rw [hW5, cell_new]; rfl) (by rw [hW5]; simp) (HE4.out.ext hb5) HN4.out HU4.out hn1 (Nat.le_refl _) (fun e => by cases e))
    have HE5 := Lib.hid (HE4.out.ext hb5)
    have HW5 := Lib.hid hW5
    rw [hW5] at HFO
    clear hb5 hW5 g0 f0 hz hrem hrem2 hcv n0 n1 n2
    go_wp2_with fail
    refine HFO.out.mono ?_
    rw [← HW5.out]
    rintro e w6 ⟨hb6, ⟨hno, rfl⟩ | ⟨r2, hoi, rfl, hO⟩⟩
    · have HB6 := Lib.hid (HB5.out.trans (hb6.mono HB5.out.size))
      have HSR := Lib.hid (fun u => sameRoot_any zeroR zeroR u (zero_in u) (zero_in u) ⟨by show 0 < 1000000; decide, by show 0 < 1000000; decide, by show 0 < 1000000; decide, (fun v hv => by cases hv), by show 0 < 1000000; decide, (fun v hv => by cases hv)⟩ ⟨by show 0 < 1000000; decide, by show 0 < 1000000; decide, by show 0 < 1000000; decide, (fun v hv => by cases hv), by show 0 < 1000000; decide, (fun v hv => by cases hv)⟩)
      clear hno hb6 c0 c1 c2 c3 c4 c5 c6
      unfold zeroC
      have HX10 := Lib.hid (show Below W.heap.size W (w6.alloc (.cells #[.int .u64 0, .int .u64 0, .int .u64 0, .slice none 0 0, .slice none 0 0, .slice none 0 0, .slice none 0 0] (32))) from HB6.out.alloc HB6.out.size _)
      go_wp2_with fail
      refine (HSR.out _).mono ?_
      rintro e w7 ⟨q, rfl, hq, hb⟩
      have hq1 : q = true := hq.2 rfl
      subst hq1
      have HB7 := Lib.hid (HX10.out.trans (hb.mono HX10.out.size))
      clear hq hb
      go_wp2_with fail
      refine (HL.out _).mono ?_
      rintro e w8 ⟨rfl, hb⟩
      have HB8 := Lib.hid (HB.out.trans ((HB7.out.trans (hb.mono HB7.out.size)).mono HB.out.size))
      clear hb
      go_wp2_with fail
      go_ret
      exact ⟨rfl, HB8.out⟩
    · have HB6 := Lib.hid (HB5.out.trans (hb6.mono HB5.out.size))
      have HF2 := Lib.hid (hoi.few (by rw [HN4.out]; omega))
      have hs2 := hoi.again
      obtain ⟨nb2, hnb2⟩ : ∃ n, n = r2.bs.length := ⟨_, rfl⟩
      obtain ⟨nl2, hnl2⟩ : ∃ n, n = r2.ls.length := ⟨_, rfl⟩
      obtain ⟨nv2, hnv2⟩ : ∃ n, n = r2.vs.length := ⟨_, rfl⟩
      obtain ⟨ns2, hns2⟩ : ∃ n, n = r2.sh.length := ⟨_, rfl⟩
      have hrt2 : rtV r2 = .agg #[.int .u64 r2.seq, .int .u64 r2.log, .int .u64 r2.next, .slice r2.ba nb2 r2.bc, .slice r2.la nl2 r2.lc, .slice r2.va nv2 r2.vc, .slice r2.sa ns2 r2.sc] := by rw [hnb2, hnl2, hnv2, hns2]
      obtain ⟨W7, hW7⟩ : ∃ u : World, u = w6.alloc (.cells #[.int .u64 r2.seq, .int .u64 r2.log, .int .u64 r2.next, .slice r2.ba nb2 r2.bc, .slice r2.la nl2 r2.lc, .slice r2.va nv2 r2.vc, .slice r2.sa ns2 r2.sc] (32)) := ⟨_, rfl⟩
      have hb7 : Below w6.heap.size w6 W7 := by rw [hW7]; exact (Below.refl _ _).alloc (Nat.le_refl _) _
      have HB7 := Lib.hid (HB6.out.trans (hb7.mono HB6.out.size))
      have hx7 : W7.heap[w6.heap.size]? = some (.cells #[.int .u64 r2.seq, .int .u64 r2.log, .int .u64 r2.next, .slice r2.ba nb2 r2.bc, .slice r2.la nl2 r2.lc, .slice r2.va nv2 r2.vc, .slice r2.sa ns2 r2.sc] (32) (0, 0)) := by rw [hW7]; exact blk_new_at rfl _
      have HO7 := Lib.hid (hO.in_.ext hb7)
      have HC2 : Hid (∀ u, Below W7.heap.size W7 u → u.cell? ⟨w6.heap.size, 0, none⟩ = some (.int .u64 r2.seq) ∧ u.cell? ⟨w6.heap.size, 1, none⟩ = some (.int .u64 r2.log) ∧ u.cell? ⟨w6.heap.size, 2, none⟩ = some (.int .u64 r2.next) ∧ u.cell? ⟨w6.heap.size, 3, none⟩ = some (.slice r2.ba nb2 r2.bc) ∧ u.cell? ⟨w6.heap.size, 4, none⟩ = some (.slice r2.la nl2 r2.lc) ∧ u.cell? ⟨w6.heap.size, 5, none⟩ = some (.slice r2.va nv2 r2.vc) ∧ u.cell? ⟨w6.heap.size, 6, none⟩ = some (.slice r2.sa ns2 r2.sc)) := Lib.hid (fun u hu => by
        have q := cell_of_blk (blk_below hx7 hu (lt_of_blk hx7))
        have q0 := q 0
        have q1 := q 1
        have q2 := q 2
        have q3 := q 3
        have q4 := q 4
        have q5 := q 5
        have q6 := q 6
        simp at q0 q1 q2 q3 q4 q5 q6
        exact ⟨q0, q1, q2, q3, q4, q5, q6⟩)
      have HPUT2 := Lib.hid (put_good r2 W7 HO7.out hoi.good HF2.out)
      have HNR := Lib.hid (show ¬ r2.says = r.says from fun e => HNE.out (by rw [← hs2, e, ← HYS.out]))
      have HSR := Lib.hid (show ∀ u, Below W7.heap.size W7 u → Calls Tryz.prog (14) #[rtV r2, rtV r] u (SRPost r2.says r.says u) from fun u hu => sameRoot_any r2 r u (HO7.out.ext hu) (HR.out.ext (HB7.out.trans (hu.mono HB7.out.size))) HF2.out.cmp HNG2.out.fewX.cmp)
      rw [hs2, hrt2] at HPUT2
      rw [hrt2, HRT.out] at HSR
      rw [hrt2]
      have HW7 := Lib.hid hW7
      rw [hW7] at HPUT2
      have HE7 := Lib.hid ((HE5.out.ext hb6).ext hb7)
      clear hoi hO hb6 hb7 hx7 hrt2 hnb2 hnl2 hnv2 hns2 hs2 hW7 c0 c1 c2 c3 c4 c5 c6
      go_wp2_with fail
      refine HPUT2.out.mono ?_
      rw [← HW7.out]
      rintro e w8 ⟨a8, n8, rfl, hn8, hE8, hb8, hfr8⟩
      have HB8 := Lib.hid hb8
      have HEQ := Lib.hid (sameBytes_any (some ⟨ab, ao, none⟩) a8 n n8 n n8 ys' ys' w8 (HE7.out.ext hb8) hE8 HN4.out hn8.symm (by omega))
      clear hn8 hE8 hb8 hfr8
      go_wp2_with fail
      refine HEQ.out.mono ?_
      rintro e w9 ⟨q, rfl, hq, hb9⟩
      have hq1 : q = true := hq.2 rfl
      subst hq1
      have HB9 := Lib.hid (HB8.out.trans (hb9.mono HB8.out.size))
      have HB9w := Lib.hid (HB7.out.trans (HB9.out.mono HB7.out.size))
      clear hq hb9
      obtain ⟨c0, c1, c2, c3, c4, c5, c6⟩ := HC.out w9 HB9w.out
      obtain ⟨d0, d1, d2, d3, d4, d5, d6⟩ := HC2.out w9 HB9.out
      go_wp2_with fail
      refine (HSR.out _ HB9.out).mono ?_
      rintro e w10 ⟨q, rfl, hq, hb10⟩
      have hq1 : q = false := by
        cases q with
        | false => rfl
        | true => exact absurd (hq.1 rfl) HNR.out
      subst hq1
      have HB10 := Lib.hid (HB9w.out.trans (hb10.mono HB9w.out.size))
      clear hq hb10 c0 c1 c2 c3 c4 c5 c6 d0 d1 d2 d3 d4 d5 d6
      go_wp2_with fail
      refine (HL.out _).mono ?_
      rintro e w11 ⟨rfl, hb⟩
      have HB11 := Lib.hid (HB.out.trans ((HB10.out.trans (hb.mono HB10.out.size)).mono HB.out.size))
      clear hb
      go_wp2_with fail
      go_ret
      exact ⟨rfl, HB11.out⟩
end Go.Proofs.YtchcelodeepjdaaGreatDoor.Ln
