/- views.last: of each key and time the last fact. Condition: fewer than 1000000 facts. -/
import Derived.Test.YtenocakpipppiaaGreatDoorK3
namespace Go.Proofs.YtenocakpipppiaaGreatDoor
open Go.RowKit Go.Shelf Go.Herb
attribute [local go_sem] Oper.semAt_some

/-- A key, and a time. -/
abbrev Spot := ByteArray × Int
abbrev eS (s : Spot) : Value := .agg #[.string s.1, .int .u32 s.2]
theorem eS_inj : ∀ a a' : Spot, eS a = eS a' → a = a' := fun a a' h => by
  injection h with h
  injection h with h
  injection h with h1 h2
  injection h1 with h1
  injection h2 with h2 _
  injection h2 with _ h2
  exact Prod.ext h1 h2

theorem laidOut : laidOutB Tryz.prog = true := by kernel_rfl
theorem row116 : (87 : TypeId) < Tryz.prog.types.size := of_decide_eq_true (by kernel_rfl)
theorem wide116 : (match Tryz.prog.underlying 87 with | some (.array _ _) | some (.struct _) => true | _ => false) = true := by kernel_rfl
set_option maxRecDepth 100000 in
theorem law116 : Maps.Keyed Tryz.prog 87 := Maps.Keyed.of_law (deep_law_laid laidOut (m := 3) (by omega) row116 (by kernel_rfl) wide116)
theorem cells116 : Tryz.prog.cellsOf 87 = 2 := by kernel_rfl
theorem cells9 : Tryz.prog.cellsOf 9 = 1 := by kernel_rfl
theorem cells36 : Tryz.prog.cellsOf 27 = 1 := by kernel_rfl
theorem kt116 : Tryz.prog.keyType 87 = true := by kernel_rfl
theorem zero39 (w : World) : (zeroValue 50).run Tryz.prog w = .ok (.agg #[.string .empty, .int .u32 0, .int .u64 0, .int .u64 0, .int .u8 0, .string .empty]) w := by kernel_rfl

theorem key116 (k : ByteArray) (v : Int) (hk : k.size ≤ maxLen) (hv : (Lit.int .u32 v).wf = true) : ∃ kl, keyOf Tryz.prog 87 (eS (k, v)) = some kl := by
  obtain ⟨n, hn⟩ : ∃ n, Tryz.prog.types.size = n + 1 := ⟨Tryz.prog.types.size - 1, by have h : (87 : Nat) < Tryz.prog.types.size := row116; omega⟩
  have hlits : ∃ ls, Tryz.prog.keyLits (Tryz.prog.types.size + 1) 87 [.string k, .int .u32 v] = some ls := by
    rw [hn]
    simp [Program.keyLits, Tryz.underlying87, Tryz.underlying9, Tryz.underlying27, cells116, cells9, cells36, hk, hv]
  obtain ⟨ls, hls⟩ := hlits
  refine ⟨.string (keyBytes ls), ?_⟩
  have hf : (eS (k, v)).formed Tryz.prog 87 = true := by
    simp [Value.formed, Tryz.underlying87, cells116]
  unfold keyOf
  rw [Tryz.underlying87]
  simp only [kt116, hf, Bool.and_self, if_true]
  have : (eS (k, v)).cells.toList = [.string k, .int .u32 v] := rfl
  rw [this, hls]
  rfl

abbrev MapS (w : World) (b : Nat) (m : List (Spot × Fc)) : Prop := MapIs Tryz.prog 87 eS fv w b m

abbrev spotOf (x : Fc) : Spot := (x.key, x.valid)

/-- One fact more. -/
def lastStep (m : List (Spot × Fc)) (x : Fc) : List (Spot × Fc) :=
  match getL m (spotOf x) with
  | none => putL m (spotOf x) x
  | some y => if y.seq < x.seq then putL m (spotOf x) x else m
def lastM (xs : List Fc) : List (Spot × Fc) := xs.foldl lastStep []
theorem lastM_snoc (xs : List Fc) (x : Fc) : lastM (xs ++ [x]) = lastStep (lastM xs) x := by simp [lastM]
theorem lastStep_len (m : List (Spot × Fc)) (x : Fc) : (lastStep m x).length ≤ m.length + 1 := by
  unfold lastStep
  have := putL_length m (spotOf x) x
  split
  · exact this
  · split
    · exact this
    · omega
theorem lastM_len (xs : List Fc) : (lastM xs).length ≤ xs.length := by
  suffices h : ∀ (m : List (Spot × Fc)), (xs.foldl lastStep m).length ≤ m.length + xs.length by
    have := h []; simpa [lastM] using this
  induction xs with
  | nil => intro m; simp
  | cons p ps ih => intro m; have := ih (lastStep m p); have h2 := lastStep_len m p; simp only [List.foldl_cons, List.length_cons]; omega

theorem mapS_ownFrom {β : Type} (B b : Nat) (hb : b < B) (f : β → List (Spot × Fc)) : OwnFrom B (fun (s : β) W => MapS W b (f s)) := fun s X Y row hs hg hr =>
  hs.same (hg.block b hs.lt (fun e => by have := (hr b e.symm).1; omega))

/-- How a round of views.last leaves the world. -/
theorem last_two {B n₀ N0 : Nat} {w W : World} (o1 o2 : Obj) (hn₀ : n₀ ≤ w.heap.size) (hBi : Below w.heap.size w W) (hWs : N0 ≤ W.heap.size) {cs : Array Value} {t : TypeId} (i1 : W.heap[w.heap.size + 1]? = some (.cells cs t (0, 0))) :
    KeepsFrom B W ((W.alloc o1).alloc o2) ∧ Below n₀ W ((W.alloc o1).alloc o2) ∧ ((W.alloc o1).alloc o2).heap[w.heap.size + 1]? = some (.cells cs t (0, 0)) ∧ Below w.heap.size w ((W.alloc o1).alloc o2) ∧ N0 ≤ ((W.alloc o1).alloc o2).heap.size := by
  have := hBi.size
  exact ⟨((KeepsOthers.alloc _ _).trans (KeepsOthers.alloc _ _)).from _, ((Below.refl _ W).alloc (by omega) _).alloc (by simp; omega) _, blk_alloc (blk_alloc i1), (hBi.alloc hBi.size _).alloc (by simp; omega) _, by simp; omega⟩

theorem last_put {B n₀ N0 : Nat} {w W w1 : World} (hb : w.heap.size < B) (hn₀ : n₀ ≤ w.heap.size) {cs : Array Value} {t : TypeId} {W1 : World} (h : KeepsFrom B W W1 ∧ Below n₀ W W1 ∧ W1.heap[w.heap.size + 1]? = some (.cells cs t (0, 0)) ∧ Below w.heap.size w W1 ∧ N0 ≤ W1.heap.size) (hg : W1.grownBy w1 (some w.heap.size)) :
    KeepsFrom B W w1 ∧ Below n₀ W w1 ∧ w1.heap[w.heap.size + 1]? = some (.cells cs t (0, 0)) ∧ Below w.heap.size w w1 ∧ N0 ≤ w1.heap.size := by
  obtain ⟨h1, h2, h3, h4, h5⟩ := h
  have := h4.size
  exact ⟨h1.trans (KeepsFrom.of_grownBy hg (fun j e => by cases e; exact hb)), h2.grown hg (by omega) (fun k e => by cases e; exact hn₀), (hg.block _ (lt_of_blk h3) (fun e => by injection e with e; omega)).trans h3, h4.grown hg h4.size (fun k e => by cases e; exact Nat.le_refl _), Nat.le_trans h5 hg.size⟩

def LastPost (zs : List Fc) (w : World) (e : Ending) (w' : World) : Prop := ∃ b, e = .returned (.map (some b)) ∧ w.heap.size ≤ b ∧ Below w.heap.size w w' ∧ MapS w' b (lastM zs)

set_option maxRecDepth 100000 in
set_option maxHeartbeats 1000000 in
theorem last_in (n : Nat) (hn : 3 ≤ n) (gf : Nat) (lb : Array Value) (zs : List Fc) (Sp : List Fc → Prop) (N n₀ : Nat) (hN : N < 1000000) (w : World) (hn₀ : n₀ ≤ w.heap.size)
    (eg : ∀ args w, (callFunc gf args).run Tryz.prog w = .ok (.enter gf args) w)
    (hseq : SeqStopsK Fence.wide (n - 1) Tryz.prog gf lb (fun x : Fc => #[fv x]) (Below n₀) (fun ys => ys = zs) Sp N w) :
    CallsIn Fence.wide n Tryz.prog 23 #[.func (.func gf) #[] lb] w (LastPost zs w) := by
  have h1 : 1 ≤ n := by omega
  have hmm := @run_makeMap Tryz.prog
  refine callsIn_of_wp_marks Tryz.func23 rfl trivial ?_ rfl
  simp only [Tryz.ntmps23, List.size_toArray, List.length_cons, List.length_nil, Nat.reduceAdd, Nat.reduceSub, Array.replicate_succ, Array.replicate_zero, List.push_toArray, List.append_toArray, List.nil_append, List.cons_append]
  gi_wp2
  obtain ⟨W0, hW0⟩ : ∃ W0 : World, (w.alloc (.map #[] 0)).alloc (.cells #[.map (some w.heap.size)] 55) = W0 := ⟨_, rfl⟩
  have hsz : W0.heap.size = w.heap.size + 2 := by rw [← hW0]; simp
  have hB0 : Below w.heap.size w W0 := by
    rw [← hW0]
    exact ((Below.refl _ w).alloc (Nat.le_refl _) _).alloc (by simp) _
  have b0 : MapS W0 w.heap.size [] := by
    have h := MapIs.made (P := Tryz.prog) (k := 87) (encK := eS) (encV := fv) w
    refine h.same ?_
    rw [← hW0]
    rw [Below.heap_alloc _ _ _ (by simp)]
  have b1 : W0.heap[w.heap.size + 1]? = some (.cells #[.map (some w.heap.size)] 55 (0, 0)) := by
    rw [← hW0]
    exact blk_new_at (by simp) _
  rw [hW0]
  clear hW0
  refine wpIn_rangeFunc_ownH rfl h1 (gf := gf) (lb := lb) rfl trivial eg hseq
    belowK_t (belowK_b (by omega)) hB0 (fun _ => rfl)
    (fun pre W => (W.heap[w.heap.size + 1]? = some (.cells #[.map (some w.heap.size)] 55 (0, 0)) ∧ MapS W w.heap.size (lastM pre)) ∧ (Below w.heap.size w W ∧ W0.heap.size ≤ W.heap.size))
    (fun _ _ _ => False)
    (OwnFrom.and (OwnFrom.and (blk_ownFrom _ _ (fun _ => #[.map (some w.heap.size)]) 55) (mapS_ownFrom _ _ (by omega) _)) (OwnFrom.and (ownFrom_below (Nat.le_refl _) (by omega)) (size_ownFrom _ _)))
    (fun _ _ _ _ _ hs _ _ => hs)
    ⟨⟨b1, b0⟩, hB0, Nat.le_refl _⟩
    (fun x a' W => ∃ Bx, W0.heap.size ≤ Bx ∧ W.heap[Bx]? = some (.cells (fc x).toArray 50 (0, 0)) ∧ a' = { tmps := #[.func (.func gf) #[] lb, undef, .map none, .pointer (some ⟨w.heap.size + 1, 0, none⟩), .pointer (some ⟨Bx, 0, none⟩), undef, undef, undef, .map (some w.heap.size), .func (.func gf) #[] lb, fv x, undef, undef, undef, undef, undef, undef, undef, undef, undef, undef, undef, undef, undef, undef, undef, undef, undef, undef, undef, undef, undef, undef, undef, undef], defers := [] })
    (fun x a' _ X Y row hs hg hr => by obtain ⟨Bx, h1, h2, h3⟩ := hs; exact ⟨Bx, h1, blk_ownFrom W0.heap.size Bx (fun (_ : Unit) => (fc x).toArray) 50 () X Y row h2 hg hr, h3⟩)
    ?assign ?body ?done ?stop
  case assign =>
    rintro l pre x W K ⟨⟨i1, i0⟩, hBi, hWs⟩ hK
    gi_wp2
    exact hK _ _ ((KeepsOthers.alloc _ _).from _) ((Below.refl _ W).alloc (by omega) _) ⟨⟨blk_alloc i1, i0.same (Below.heap_alloc _ _ _ i0.lt)⟩, hBi.alloc hBi.size _, by simp; omega⟩ ⟨W.heap.size, hWs, blk_new_at rfl _, rfl⟩
  case body =>
    rintro l pre x a' W hl ⟨r, hr⟩ ⟨⟨i1, i0⟩, hBi, hWs⟩ ⟨Bx, hBx, bX, rfl⟩ hlt
    have hsz' : w.heap.size + 2 ≤ W0.heap.size := by omega
    clear hsz
    have c1 := cell_of_blk i1 0
    have x0 := cell_of_blk bX 0
    have x1 := cell_of_blk bX 1
    have x2 := cell_of_blk bX 2
    have x3 := cell_of_blk bX 3
    have x4 := cell_of_blk bX 4
    have x5 := cell_of_blk bX 5
    simp [fc] at c1 x0 x1 x2 x3 x4 x5
    have hBxW := lt_of_blk bX
    have h1W := lt_of_blk i1
    have hlt0 : w.heap.size < W.heap.size := by omega
    have hne0 : ¬ w.heap.size = W.heap.size := by omega
    have hne1 : ¬ W.heap.size + 1 = Bx := by omega
    obtain ⟨kl, hkl⟩ := key116 x.key x.valid x.wk x.wv
    have hM1 : MapS (W.alloc (.cells #[.string x.key, .int .u32 x.valid] 87)) w.heap.size (lastM pre) := i0.same (Below.heap_alloc _ _ _ i0.lt)
    have hlook := (hM1.look law116 eS_inj Tryz.underlying55 (zero39 _) (a := spotOf x) hkl).2
    have hroom : (lastM pre).length < maxLen := by have := lastM_len pre; unfold maxLen; omega
    have HI0 := Lib.hid i0
    have HI1 := Lib.hid i1
    have HBX := Lib.hid bX
    have HBI := Lib.hid hBi
    clear i0 i1 bX hBi hseq hr
    cases hg : getL (lastM pre) (spotOf x) with
    | none =>
      rw [hg] at hlook
      simp only at hlook
      have hM2 : MapS ((W.alloc (.cells #[.string x.key, .int .u32 x.valid] 87)).alloc (.cells #[.string .empty, .int .u32 0, .int .u64 0, .int .u64 0, .int .u8 0, .string .empty] 50)) w.heap.size (lastM pre) := hM1.same (Below.heap_alloc _ _ _ hM1.lt)
      obtain ⟨w1, hrun, hM3, hg3, hs3⟩ := hM2.store law116 eS_inj Tryz.underlying55 hroom x (a := spotOf x) hkl
      have HM3 := Lib.hid hM3
      have HG3 := Lib.hid hg3
      have HST := Lib.hid (show lastStep (lastM pre) x = putL (lastM pre) (spotOf x) x by simp [lastStep, hg])
      clear hM1 hM2 hM3 hg3 hs3 hg
      gi_wp2
      obtain ⟨k1, k2, k3, k4, k5⟩ := last_put (B := W0.heap.size) (by omega) hn₀ (last_two _ _ hn₀ HBI.out hWs HI1.out) HG3.out
      exact ⟨k1, k2, ⟨⟨k3, by rw [lastM_snoc, HST.out]; exact HM3.out⟩, k4, k5⟩⟩
    | some y =>
      rw [hg] at hlook
      simp only at hlook
      have hM2 : MapS ((W.alloc (.cells #[.string x.key, .int .u32 x.valid] 87)).alloc (.cells #[.string y.key, .int .u32 y.valid, .int .u64 y.seq, .int .u64 y.line, .int .u8 y.kind, .string y.val] 50)) w.heap.size (lastM pre) := hM1.same (Below.heap_alloc _ _ _ hM1.lt)
      by_cases hs : y.seq < x.seq
      · obtain ⟨w1, hrun, hM3, hg3, hs3⟩ := hM2.store law116 eS_inj Tryz.underlying55 hroom x (a := spotOf x) hkl
        have HM3 := Lib.hid hM3
        have HG3 := Lib.hid hg3
        have HST := Lib.hid (show lastStep (lastM pre) x = putL (lastM pre) (spotOf x) x by simp [lastStep, hg, hs])
        clear hM1 hM2 hM3 hg3 hs3 hg
        gi_wp2
        obtain ⟨k1, k2, k3, k4, k5⟩ := last_put (B := W0.heap.size) (by omega) hn₀ (last_two _ _ hn₀ HBI.out hWs HI1.out) HG3.out
        exact ⟨k1, k2, ⟨⟨k3, by rw [lastM_snoc, HST.out]; exact HM3.out⟩, k4, k5⟩⟩
      · have HM3 := Lib.hid hM2
        have HST := Lib.hid (show lastStep (lastM pre) x = lastM pre by simp [lastStep, hg, hs])
        clear hM1 hM2 hg
        gi_wp2
        obtain ⟨k1, k2, k3, k4, k5⟩ := last_two (B := W0.heap.size) (.cells #[.string x.key, .int .u32 x.valid] 87) (.cells #[.string y.key, .int .u32 y.valid, .int .u64 y.seq, .int .u64 y.line, .int .u8 y.kind, .string y.val] 50) hn₀ HBI.out hWs HI1.out
        exact ⟨k1, k2, ⟨⟨k3, by rw [lastM_snoc, HST.out]; exact HM3.out⟩, k4, k5⟩⟩
  case done =>
    rintro D ys W hD rfl ⟨⟨i1, i0⟩, hBi, hWs⟩ hK
    have c1 := cell_of_blk i1 0
    simp at c1
    gi_wp2
    refine ⟨by simp, .inl ⟨_, _, rfl, run_takeDeferred hK, ?_⟩⟩
    have keep : ∀ b, b < W0.heap.size → (W.putObj D (.deferred none)).heap[b]? = W.heap[b]? := fun b h => World.putObj_heap_other (fun e => by omega)
    exact ⟨_, results_tmp rfl _ _ _, ⟨w.heap.size, rfl, Nat.le_refl _, hBi.trans (belowK_b (w := w) (Nat.le_refl _) W D _ _ (by omega) hK rfl rfl), i0.same (keep _ (by omega))⟩⟩
  case stop =>
    rintro D c pre W _ _ h _
    exact h.elim

theorem last_any (gf : Nat) (lb : Array Value) (zs : List Fc) (Sp : List Fc → Prop) (N n₀ : Nat) (hN : N < 1000000) (w : World) (hn₀ : n₀ ≤ w.heap.size)
    (eg : ∀ args w, (callFunc gf args).run Tryz.prog w = .ok (.enter gf args) w)
    (hseq : SeqStopsK Fence.wide 2 Tryz.prog gf lb (fun x : Fc => #[fv x]) (Below n₀) (fun ys => ys = zs) Sp N w) :
    Calls Tryz.prog 23 #[.func (.func gf) #[] lb] w (LastPost zs w) :=
  (callsIn_wide (n := 3)).1 (last_in 3 (Nat.le_refl _) gf lb zs Sp N n₀ hN w hn₀ eg hseq)
end Go.Proofs.YtenocakpipppiaaGreatDoor
