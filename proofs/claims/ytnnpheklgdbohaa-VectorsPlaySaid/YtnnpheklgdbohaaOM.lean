/- law16.great, made. No condition. -/
import Derived.Test.YtnnpheklgdbohaaOH
import Derived.Test.YtnnpheklgdbohaaOI
import Derived.Test.YtnnpheklgdbohaaOJ
import Derived.Test.YtnnpheklgdbohaaOL
import Derived.Deep.Cut
import Derived.Deep.CutBlock
namespace Go.Herb
open Go
/-- What is done to vectors. -/
structure Ac where
  kind : Int
  line : Int
  other : Int
  n : Int
  wk : (Lit.int .u8 kind).wf = true
  wl : U64 line
  wo : U64 other
  wn : U64 n
def actV (L : Vs) (x : Ac) : Int × Vs := if x.kind % 4 = 0 then stepV L x.line x.n else if x.kind % 4 = 1 then forkV L x.line x.other else if x.kind % 4 = 2 then mergeV L x.line x.other x.n else dropV L x.line
def doneV (L : Vs) (x : Ac) : Vs := if (actV L x).1 = 0 ∧ (actV L x).2.length < 40 then (actV L x).2 else L
def madeV (L : Vs) (acts : List Ac) : Vs := (acts.take 40).foldl doneV L
theorem actV_good {L : Vs} (h : GoodV L) {x : Ac} (e : (actV L x).1 = 0) : GoodV (actV L x).2 := by
  unfold actV at e ⊢
  split
  · rename_i hk; rw [if_pos hk] at e; exact stepV_good h x.wn e
  · rename_i hk; rw [if_neg hk] at e
    split
    · rename_i hk2; rw [if_pos hk2] at e; exact forkV_good h x.wl e
    · rename_i hk2; rw [if_neg hk2] at e
      split
      · rename_i hk3; rw [if_pos hk3] at e; exact mergeV_good h x.wn e
      · rename_i hk3; rw [if_neg hk3] at e; exact dropV_good h e
/-- All that stands behind a line is one of these. -/
def InK (K : List Int) (L : Vs) : Prop := ∀ p ∈ L, ∀ q ∈ p.2, q.1 ∈ K
theorem InK.get {K : List Int} {L : Vs} (h : InK K L) {k : Int} {b : Bh} (hg : getL L k = some b) : ∀ q ∈ b, q.1 ∈ K := h _ (getL_mem hg)
theorem InK.put {K : List Int} {L : Vs} (h : InK K L) {k : Int} {b : Bh} (hb : ∀ q ∈ b, q.1 ∈ K) : InK K (putS L k b) := fun p hp q hq => by
  rcases mem_putS.1 hp with rfl | ⟨h1, _⟩
  · exact hb q hq
  · exact h p h1 q hq
theorem actV_key {K : List Int} {L : Vs} (h : InK K L) {x : Ac} (hx : x.line ∈ K) (e : (actV L x).1 = 0) : InK K (actV L x).2 := by
  have one : ∀ s : Int, ∀ q ∈ [(x.line, s)], q.1 ∈ K := fun s q hq => by rw [List.mem_singleton.1 hq]; exact hx
  unfold actV at e ⊢
  split
  · rename_i hk; rw [if_pos hk] at e
    unfold stepV at e ⊢
    cases hg : getL L x.line with
    | none => rw [hg] at e; simp at e
    | some b =>
      simp only [hg] at e ⊢
      split
      · exact h.put (mem_laid_key (by intro c hc; simp only [List.mem_cons, List.not_mem_nil, or_false] at hc; rcases hc with rfl | rfl; exact h.get hg; exact one _))
      · rename_i ha; rw [if_neg ha] at e; simp at e
  · rename_i hk; rw [if_neg hk] at e
    split
    · rename_i hk2; rw [if_pos hk2] at e
      unfold forkV at e ⊢
      cases hg : getL L x.other with
      | none => rw [hg] at e; simp at e
      | some b =>
        simp only [hg] at e ⊢
        split
        · rename_i ha; rw [if_pos ha] at e; simp at e
        · exact h.put (mem_laid_key (by intro c hc; simp only [List.mem_cons, List.not_mem_nil, or_false] at hc; rw [hc]; exact h.get hg))
    · rename_i hk2; rw [if_neg hk2] at e
      split
      · rename_i hk3; rw [if_pos hk3] at e
        unfold mergeV at e ⊢
        cases hg : getL L x.line with
        | none => rw [hg] at e; simp at e
        | some b =>
          cases hg2 : getL L x.other with
          | none => rw [hg, hg2] at e; simp at e
          | some c =>
            simp only [hg, hg2] at e ⊢
            split
            · exact h.put (mem_laid_key (by intro d hd; simp only [List.mem_cons, List.not_mem_nil, or_false] at hd; rcases hd with rfl | rfl | rfl; exact h.get hg; exact h.get hg2; exact one _))
            · rename_i ha; rw [if_neg ha] at e; simp at e
      · rename_i hk3; rw [if_neg hk3] at e
        unfold dropV at e ⊢
        cases hg : getL L x.line with
        | none => rw [hg] at e; simp at e
        | some b => exact fun p hp => h p (List.mem_filter.1 hp).1
theorem actV_len (L : Vs) (x : Ac) : (actV L x).2.length ≤ L.length + 1 := by
  have hp : ∀ k (b : Bh), (putS L k b).length ≤ L.length + 1 := fun k b => putS_len
  unfold actV stepV forkV mergeV dropV
  split
  · split
    · simp
    · split
      · exact hp _ _
      · simp
  · split
    · split
      · simp
      · split
        · simp
        · exact hp _ _
    · split
      · split
        · split
          · exact hp _ _
          · simp
        · simp
      · split
        · simp
        · have := List.length_filter_le (fun p : Int × Bh => decide (p.1 ≠ x.line)) L
          simp only at this ⊢; omega
theorem nodup_len {α : Type} [DecidableEq α] : ∀ (l K : List α), l.Nodup → (∀ x ∈ l, x ∈ K) → l.length ≤ K.length
  | [], _, _, _ => Nat.zero_le _
  | x :: l, K, hn, hs => by
    have h1 := List.nodup_cons.1 hn
    have hx := hs x (by simp)
    have h2 := nodup_len l (K.erase x) h1.2 (fun y hy => (List.mem_erase_of_ne (fun e => h1.1 (by rw [← e]; exact hy))).2 (hs y (by simp [hy])))
    have h3 := List.length_erase_of_mem hx
    have h4 := List.length_pos_of_mem hx
    simp only [List.length_cons]
    omega
theorem InK.lens {K : List Int} {L : Vs} (h : InK K L) (hG : GoodV L) : ∀ p ∈ L, p.2.length ≤ K.length := fun p hp => by
  have h1 := nodup_len (p.2.map (·.1)) K (hG.inn p hp).srt.nodup (fun x hx => by obtain ⟨q, hq, rfl⟩ := List.mem_map.1 hx; exact h p hp q hq)
  simpa using h1
end Go.Herb
namespace Go.Proofs.Ytnnpheklgdbohaa
open Go.RowKit Go.Shelf Go.Herb

def acc (x : Ac) : List Value := [.int .u8 x.kind, .int .u64 x.line, .int .u64 x.other, .int .u64 x.n]
theorem acc_len (x : Ac) : (acc x).length = 4 := rfl
def greatB (xs : List Vc) (acts : List Ac) : Bool := decide (40 < xs.length) || decide (200 < acts.length) || xs.any (fun x => decide (60 < x.ps.length))
set_option maxRecDepth 100000 in
theorem great_any (a : Option Addr) (cap : Nat) (xs : List Vc) (ab : Option Addr) (cb : Nat) (acts : List Ac) (w : World) (h : VIn w a xs) (_ : acts.length ≤ maxLen) :
    Calls Try.prog (16) #[.slice a xs.length cap, .slice ab acts.length cb] w fun e w' => e = .returned (.bool (greatB xs acts)) ∧ w = w' := by
  have H := Lib.hid h
  clear h
  by_cases h1 : 40 < xs.length
  · have h1' : (40 : Int) < (xs.length : Int) := by omega
    have HE := Lib.hid (show greatB xs acts = true by unfold greatB; simp [h1])
    go_enter Try.func16, Try.ntmps16
    go_wp2
    go_ret
    exact ⟨by rw [HE.out]; first | done | rfl, rfl⟩
  · have h1' : ¬ (40 : Int) < (xs.length : Int) := by omega
    by_cases h2 : 200 < acts.length
    · have h2' : (200 : Int) < (acts.length : Int) := by omega
      have HE := Lib.hid (show greatB xs acts = true by unfold greatB; simp [h2])
      go_enter Try.func16, Try.ntmps16
      go_wp2
      go_ret
      exact ⟨by rw [HE.out]; first | done | rfl, rfl⟩
    · have h2' : ¬ (200 : Int) < (acts.length : Int) := by omega
      go_enter Try.func16, Try.ntmps16
      go_wp2_with fail
      clear h1' h2'
      go_loopg [5] xs.length (fun gk iv wr => ∃ i : Nat, i + gk = xs.length ∧ iv = .int .i64 i ∧ Hid ((xs.take i).any (fun x => decide (60 < x.ps.length)) = false) ∧ wr = w)
      case atStart => exact ⟨0, by omega, rfl, Lib.hid rfl, rfl⟩
      case round =>
        obtain ⟨i, hi, rfl, HA, rfl⟩ := hrel
        by_cases hlt : i < xs.length
        · obtain ⟨b, o, rfl, hlb, hcell⟩ := H.out.els.get i hlt
          have x1 := hcell 1 _ rfl
          have hi0 : (0 : Int) ≤ (i : Int) := by omega
          have hi1 : (i : Int) < (xs.length : Int) := by omega
          have hx40 : xs.length ≤ 40 := by omega
          have HSN := Lib.hid (show (xs.take (i + 1)).any (fun x => decide (60 < x.ps.length)) = decide (60 < xs[i].ps.length) from by rw [List.take_succ_eq_append_getElem hlt, List.any_append, HA.out]; simp)
          have HM := Lib.hid (List.getElem_mem hlt)
          clear hcell h1 h2
          generalize xs[i] = x at *
          by_cases hp : 60 < x.ps.length
          · have hp' : (60 : Int) < (x.ps.length : Int) := by omega
            have HE := Lib.hid (show greatB xs acts = true by
              unfold greatB
              rw [Bool.or_eq_true]
              right
              exact List.any_eq_true.2 ⟨x, HM.out, by simpa using hp⟩)
            go_wp2_with fail
            go_ret
            exact ⟨by rw [HE.out]; first | done | rfl, rfl⟩
          · have hp' : ¬ (60 : Int) < (x.ps.length : Int) := by omega
            have HF := Lib.hid (show (xs.take (i + 1)).any (fun x => decide (60 < x.ps.length)) = false from by rw [HSN.out]; exact decide_eq_false hp)
            go_wp2_with fail
            go_roundg (gk - 1)
            case measure => omega
            case rel => exact ⟨i + 1, by omega, by go_num, HF, rfl⟩
        · have hie : i = xs.length := by omega
          have HE := Lib.hid (show greatB xs acts = false by
            have := HA.out
            rw [hie, List.take_length] at this
            unfold greatB
            rw [this]
            simp [h1, h2])
          clear hie
          go_wp2_with fail
          go_ret
          exact ⟨by rw [HE.out]; first | done | rfl, rfl⟩

def MadePost (xs : List Vc) (acts : List Ac) (w : World) (e : Ending) (w' : World) : Prop :=
  ∃ v c, e = .returned (.tuple #[v, .bool c]) ∧ Below w.heap.size w w' ∧ (c = true → greatB xs acts = false ∧ okV (vsOf xs) ∧ GoodV (madeV (vsOf xs) acts) ∧ Small (madeV (vsOf xs) acts) ∧ (madeV (vsOf xs) acts).length ≤ 40 ∧ ∃ p mb M, v = .pointer (some ⟨p, 0, none⟩) ∧ VecIs w' p mb M (madeV (vsOf xs) acts)) ∧ (c = false → greatB xs acts = true ∨ ¬ okV (vsOf xs))
theorem small_of {K : List Int} {L : Vs} (hG : GoodV L) (hK : InK K L) (hk : K.length ≤ 10000) (hl : L.length ≤ 41) : Small L := ⟨by omega, fun p hp => by have := hK.lens hG p hp; omega⟩
theorem greatB_false {xs : List Vc} {acts : List Ac} (h : greatB xs acts = false) : xs.length ≤ 40 ∧ acts.length ≤ 200 ∧ ∀ x ∈ xs, x.ps.length ≤ 60 := by
  unfold greatB at h
  simp only [Bool.or_eq_false_iff, decide_eq_false_iff_not, List.any_eq_false, decide_eq_true_eq] at h
  exact ⟨by omega, by omega, fun x hx => by have := h.2 x hx; omega⟩
def keysAllV (xs : List Vc) (acts : List Ac) : List Int := xs.flatMap (fun x => x.ps.map (·.1)) ++ acts.map (·.line)
theorem keysAllV_len {xs : List Vc} {acts : List Ac} (h : greatB xs acts = false) : (keysAllV xs acts).length ≤ 10000 := by
  obtain ⟨h1, h2, h3⟩ := greatB_false h
  have h4 : ∀ l : List Vc, (∀ x ∈ l, x.ps.length ≤ 60) → (l.flatMap (fun x => x.ps.map (·.1))).length ≤ l.length * 60 := by
    intro l
    induction l with
    | nil => simp
    | cons x l ih =>
      intro hl
      have := ih (fun y hy => hl y (by simp [hy]))
      have := hl x (by simp)
      simp only [List.flatMap_cons, List.length_append, List.length_map, List.length_cons]
      omega
  have := h4 xs h3
  unfold keysAllV
  simp only [List.length_append, List.length_map]
  omega
theorem keysAllV_in (xs : List Vc) (acts : List Ac) : InK (keysAllV xs acts) (vsOf xs) := fun p hp q hq => by
  obtain ⟨x, hx, rfl⟩ := List.mem_map.1 hp
  exact List.mem_append_left _ (List.mem_flatMap.2 ⟨x, hx, List.mem_map.2 ⟨q, hq, rfl⟩⟩)
theorem foldl_take_succ {α β : Type} (f : β → α → β) (z : β) (l : List α) (i : Nat) (h : i < l.length) : (l.take (i + 1)).foldl f z = f ((l.take i).foldl f z) l[i] := by
  rw [List.take_succ_eq_append_getElem h, List.foldl_append]; rfl
theorem madeV_step (L : Vs) (acts : List Ac) (i : Nat) (h : i < acts.length) : (acts.take (i + 1)).foldl doneV L = doneV ((acts.take i).foldl doneV L) acts[i] := foldl_take_succ _ _ _ _ h

set_option maxRecDepth 100000 in
set_option maxHeartbeats 2000000 in
theorem made_any (a : Option Addr) (cap : Nat) (xs : List Vc) (ab : Option Addr) (cb : Nat) (acts : List Ac) (w : World) (h : VIn w a xs) (ha : Els acc 4 w ab acts) (hal : acts.length ≤ maxLen) :
    Calls Try.prog (9) #[.slice a xs.length cap, .slice ab acts.length cb] w (MadePost xs acts w) := by
  have H := Lib.hid h
  have HA := Lib.hid ha
  have HAL := Lib.hid hal
  clear h ha hal
  go_enter Try.func9, Try.ntmps9
  go_wp2_with fail
  refine (of_any a cap xs w H.out).mono ?_
  rintro e w1 ⟨v, er, rfl, hb1, hor⟩
  have HB1 := Lib.hid hb1
  have HOR := Lib.hid hor
  have HG := Lib.hid (great_any a cap xs ab cb acts w1 ⟨H.out.els.ext hb1, fun x hx => (H.out.inn x hx).ext hb1, H.out.wf, H.out.len, H.out.lens⟩ HAL.out)
  clear hb1 hor
  go_wp2_with fail
  refine (HG.out).mono ?_
  rintro e w' ⟨rfl, rfl⟩
  clear HG
  cases hg : greatB xs acts with
  | true =>
    have HE := Lib.hid (show MadePost xs acts w (.returned (.tuple #[.pointer none, .bool false])) w1 from ⟨_, false, rfl, HB1.out, (fun h => by cases h), fun _ => .inl hg⟩)
    clear hg
    go_wp2_with fail
    go_ret2
    exact HE.out
  | false =>
    rcases HOR.out with ⟨rfl, hok, p, mb, M, rfl, hv⟩ | ⟨rfl, hnok, rfl⟩
    · obtain ⟨hg1, hg2, hg3⟩ := greatB_false hg
      have hgood := hok.good (fun q hq => by obtain ⟨x, hx, rfl⟩ := List.mem_map.1 hq; exact H.out.wf x hx)
      have HKL := Lib.hid (keysAllV_len hg)
      have HOK := Lib.hid hok
      have HGF := Lib.hid hg
      have HGD := Lib.hid hgood
      have HV := Lib.hid hv.is
      have hx40 : (vsOf xs).length ≤ 40 := by rw [vsOf_len]; exact hg1
      have HX40 := Lib.hid hx40
      clear HOR hok hv hg hg1 hg3 hgood hx40
      go_wp2_with fail
      go_loopg [6, 8] 40 (fun gk vv iv wr => ∃ (i p mb : Nat) (M : List (Int × Nat)) (L : Vs), i + gk = 40 ∧ i ≤ acts.length ∧ iv = .int .i64 i ∧ vv = .pointer (some ⟨p, 0, none⟩) ∧ Hid (VecIs wr p mb M L) ∧ Hid (L = (acts.take i).foldl doneV (vsOf xs)) ∧ Hid (GoodV L) ∧ Hid (InK (keysAllV xs acts) L) ∧ Hid (L.length ≤ 40) ∧ Below w.heap.size w wr)
      case atStart => exact ⟨0, p, mb, M, vsOf xs, by omega, by omega, rfl, rfl, HV, Lib.hid rfl, HGD, Lib.hid (keysAllV_in xs acts), HX40, HB1.out⟩
      case round =>
        clear HV
        obtain ⟨i, p, mb, M, L, hi, hia, rfl, rfl, HV, HLE, HG, HK, HL40, hbw⟩ := hrel
        have HBW := Lib.hid hbw
        have HSM := Lib.hid (small_of HG.out HK.out HKL.out (by have := HL40.out; omega))
        clear hbw
        by_cases hlt : i < acts.length ∧ i < 40
        · obtain ⟨hlt1, hlt2⟩ := hlt
          obtain ⟨b, o, rfl, hlb, hcell⟩ := HA.out.get i hlt1
          have x0 := (HBW.out.cell (p := ⟨b, _, none⟩) hlb).trans (hcell 0 _ rfl)
          have x1 := (HBW.out.cell (p := ⟨b, _, none⟩) hlb).trans (hcell 1 _ rfl)
          have x2 := (HBW.out.cell (p := ⟨b, _, none⟩) hlb).trans (hcell 2 _ rfl)
          have x3 := (HBW.out.cell (p := ⟨b, _, none⟩) hlb).trans (hcell 3 _ rfl)
          simp only [Nat.add_zero] at x0 x1 x2 x3
          have hi0 : (0 : Int) ≤ (i : Int) := by omega
          have hi1 : (i : Int) < (acts.length : Int) := by omega
          have hi2 : (i : Int) < 40 := by omega
          have HST := Lib.hid (madeV_step (vsOf xs) acts i hlt1)
          have HXM := Lib.hid (List.getElem_mem hlt1)
          clear hcell
          generalize acts[i] = x at *
          obtain ⟨X, hX⟩ : ∃ X : World, X = wr.alloc (.cells #[.int .u8 x.kind, .int .u64 x.line, .int .u64 x.other, .int .u64 x.n] (40)) := ⟨_, rfl⟩
          have hXb : Below wr.heap.size wr X := by rw [hX]; exact (Below.refl _ _).alloc (Nat.le_refl _) _
          have hXx : X.heap[wr.heap.size]? = some (.cells #[.int .u8 x.kind, .int .u64 x.line, .int .u64 x.other, .int .u64 x.n] (40) (0, 0)) := by rw [hX]; exact blk_new_at rfl _
          have HXB := Lib.hid hXb
          have HXX := Lib.hid hXx
          have HVX := Lib.hid (HV.out.below hXb)
          have hkw := x.wk
          simp [Lit.wf, IntKind.min, IntKind.max, IntKind.signed, IntKind.bits] at hkw
          have h4 : x.kind % 4 = 0 ∨ x.kind % 4 = 1 ∨ x.kind % 4 = 2 ∨ x.kind % 4 = 3 := by omega
          obtain ⟨kd, hkd⟩ : ∃ kd, kd = x.kind % 4 := ⟨_, rfl⟩
          have ht : x.kind.tmod 4 = kd := by rw [hkd]; exact Int.tmod_eq_emod_of_nonneg hkw.1
          rw [← hkd] at h4
          have HKD := Lib.hid hkd
          have he : x.kind % 4 = kd := hkd.symm
          clear hkd
          go_upto_block 2 with (fail)
          rw [← hX]
          clear hX x0 x1 x2 x3 hXb
          have X0 := cell_of_blk hXx 0
          have X1 := cell_of_blk hXx 1
          have X2 := cell_of_blk hXx 2
          have X3 := cell_of_blk hXx 3
          simp at X0 X1 X2 X3
          have hwX : wr.heap.size < X.heap.size := lt_of_blk hXx
          clear hXx
          go_cut [7, 10] (fun ev nv wx => ∃ (v : Value) (er : Int), nv = v ∧ ev = .int .i64 er ∧ Hid (er = (actV L x).1) ∧ Hid ((actV L x).1 = 0 → ∃ p' mb' M', v = .pointer (some ⟨p', 0, none⟩) ∧ VecIs wx p' mb' M' (actV L x).2) ∧ Hid (er ≠ 0 → v = .pointer none) ∧ Below wr.heap.size wr wx)
          case first =>
           rcases h4 with rfl | rfl | rfl | rfl
           · skip
             go_wp2_with fail
             refine (step_any p mb M L x.line x.n X HVX.out HG.out HSM.out x.wl x.wn).mono ?_
             rintro e w5 ⟨v, rfl, h1, h2, h3⟩
             have HH1 := Lib.hid h1
             have HH2 := Lib.hid h2
             have HH3 := Lib.hid h3
             have HAV := Lib.hid (show actV L x = stepV L x.line x.n from by unfold actV; rw [if_pos HKD.out.symm])
             clear h1 h2 h3 X0 X1 X2 X3
             go_wp2_with fail
             go_meet
             exact ⟨v, (stepV L x.line x.n).1, rfl, rfl, Lib.hid (by rw [HAV.out]), Lib.hid (by rw [HAV.out]; exact HH1.out), Lib.hid HH2.out, HXB.out.trans (HH3.out.mono HXB.out.size)⟩
           · skip
             go_wp2_with fail
             refine (fork_any p mb M L x.line x.other X HVX.out HG.out HSM.out x.wl x.wo).mono ?_
             rintro e w5 ⟨v, rfl, h1, h2, h3⟩
             have HH1 := Lib.hid h1
             have HH2 := Lib.hid h2
             have HH3 := Lib.hid h3
             have HAV := Lib.hid (show actV L x = forkV L x.line x.other from by unfold actV; rw [if_neg (by rw [← HKD.out]; decide), if_pos HKD.out.symm])
             clear h1 h2 h3 X0 X1 X2 X3
             go_wp2_with fail
             go_meet
             exact ⟨v, (forkV L x.line x.other).1, rfl, rfl, Lib.hid (by rw [HAV.out]), Lib.hid (by rw [HAV.out]; exact HH1.out), Lib.hid HH2.out, HXB.out.trans (HH3.out.mono HXB.out.size)⟩
           · skip
             go_wp2_with fail
             refine (merge_any p mb M L x.line x.other x.n X HVX.out HG.out HSM.out x.wl x.wo x.wn).mono ?_
             rintro e w5 ⟨v, rfl, h1, h2, h3⟩
             have HH1 := Lib.hid h1
             have HH2 := Lib.hid h2
             have HH3 := Lib.hid h3
             have HAV := Lib.hid (show actV L x = mergeV L x.line x.other x.n from by unfold actV; rw [if_neg (by rw [← HKD.out]; decide), if_neg (by rw [← HKD.out]; decide), if_pos HKD.out.symm])
             clear h1 h2 h3 X0 X1 X2 X3
             go_wp2_with fail
             go_meet
             exact ⟨v, (mergeV L x.line x.other x.n).1, rfl, rfl, Lib.hid (by rw [HAV.out]), Lib.hid (by rw [HAV.out]; exact HH1.out), Lib.hid HH2.out, HXB.out.trans (HH3.out.mono HXB.out.size)⟩
           · skip
             go_wp2_with fail
             refine (drop_any p mb M L x.line X HVX.out HG.out HSM.out x.wl).mono ?_
             rintro e w5 ⟨v, rfl, h1, h2, h3⟩
             have HH1 := Lib.hid h1
             have HH2 := Lib.hid h2
             have HH3 := Lib.hid h3
             have HAV := Lib.hid (show actV L x = dropV L x.line from by unfold actV; rw [if_neg (by rw [← HKD.out]; decide), if_neg (by rw [← HKD.out]; decide), if_neg (by rw [← HKD.out]; decide)])
             clear h1 h2 h3 X0 X1 X2 X3
             go_wp2_with fail
             go_meet
             exact ⟨v, (dropV L x.line).1, rfl, rfl, Lib.hid (by rw [HAV.out]), Lib.hid (by rw [HAV.out]; exact HH1.out), Lib.hid HH2.out, HXB.out.trans (HH3.out.mono HXB.out.size)⟩
          case rest =>
          obtain ⟨v, er, rfl, rfl, HER, HP, HNP, hb5⟩ := hcut
          have HB5 := Lib.hid hb5
          have HV5 := Lib.hid (HV.out.below hb5)
          clear hb5 X0 X1 X2 X3 h4 ht he
          by_cases her : er = 0
          · have hr0 : (actV L x).1 = 0 := by rw [← HER.out]; exact her
            obtain ⟨p', mb', M', rfl, hv'⟩ := HP.out hr0
            have hg' := actV_good HG.out hr0
            have hk' := actV_key HK.out (List.mem_append_right _ (List.mem_map.2 ⟨x, HXM.out, rfl⟩)) hr0
            have hl' := actV_len L x
            have HV' := Lib.hid hv'
            have HG' := Lib.hid hg'
            have HK' := Lib.hid hk'
            have HS' := Lib.hid (small_of hg' hk' HKL.out (by have := HL40.out; omega))
            have HR0 := Lib.hid hr0
            subst her
            obtain ⟨L', hL'⟩ : ∃ L', L' = (actV L x).2 := ⟨_, rfl⟩
            rw [← hL'] at HV' HG' HK' HS'
            have HLL := Lib.hid hL'
            clear hr0 hv' hg' hk' hl' HP HNP HER hL'
            go_wp2_with fail
            refine (all_any p' mb' M' L' _ HV'.out HG'.out HS'.out).mono ?_
            rintro e w6 ⟨va, vcap, ys, rfl, hys, _, _, hb6⟩
            have hyl : ys.length = L'.length := by rw [← hys]; simp
            have HB6 := Lib.hid hb6
            have HVN := Lib.hid (HV'.out.below hb6)
            have HVO := Lib.hid (HV5.out.below hb6)
            have HYL := Lib.hid hyl
            clear hys hb6 hyl
            by_cases h40 : ys.length < 40
            · have h40' : (ys.length : Int) < 40 := by omega
              have HL2 := Lib.hid (show L' = (acts.take (i + 1)).foldl doneV (vsOf xs) from by
                rw [HST.out, ← HLE.out]
                unfold doneV
                rw [if_pos ⟨HR0.out, by rw [← HLL.out, ← HYL.out]; exact h40⟩]
                exact HLL.out)
              have HL3 := Lib.hid (show L'.length ≤ 40 by have := HYL.out; omega)
              go_wp2_with fail
              go_roundg (gk - 1)
              case measure => omega
              case rel => exact ⟨i + 1, p', mb', M', L', by omega, by omega, by go_num, rfl, HVN, HL2, HG', HK', HL3, HBW.out.trans ((HB5.out.trans (HB6.out.mono HB5.out.size)).mono HBW.out.size)⟩
            · have h40' : ¬ (ys.length : Int) < 40 := by omega
              have HL2 := Lib.hid (show L = (acts.take (i + 1)).foldl doneV (vsOf xs) from by
                rw [HST.out, ← HLE.out]
                unfold doneV
                rw [if_neg (fun h => h40 (by rw [HYL.out, HLL.out]; exact h.2))])
              go_wp2_with fail
              go_roundg (gk - 1)
              case measure => omega
              case rel => exact ⟨i + 1, p, mb, M, L, by omega, by omega, by go_num, rfl, HVO, HL2, HG, HK, HL40, HBW.out.trans ((HB5.out.trans (HB6.out.mono HB5.out.size)).mono HBW.out.size)⟩
          · have her' : (er == 0) = false := by simpa using her
            have hed : decide (er = 0) = false := decide_eq_false her
            have HL2 := Lib.hid (show L = (acts.take (i + 1)).foldl doneV (vsOf xs) from by
              rw [HST.out, ← HLE.out]
              unfold doneV
              rw [if_neg (fun h => her (by rw [HER.out]; exact h.1))])
            clear HP HNP HER
            go_wp2_with fail
            go_roundg (gk - 1)
            case measure => omega
            case rel => exact ⟨i + 1, p, mb, M, L, by omega, by omega, by go_num, rfl, HV5, HL2, HG, HK, HL40, HBW.out.trans (HB5.out.mono HBW.out.size)⟩
        · have hfin : (acts.take 40) = acts.take i := by
            by_cases h40 : i < 40
            · have : i = acts.length := by omega
              rw [this, List.take_length, List.take_of_length_le (by omega)]
            · rw [show i = 40 by omega]
          have HE := Lib.hid (show MadePost xs acts w (.returned (.tuple #[.pointer (some ⟨p, 0, none⟩), .bool true])) wr from by
            have hLm : L = madeV (vsOf xs) acts := by rw [HLE.out]; unfold madeV; rw [hfin]
            refine ⟨_, true, rfl, HBW.out, fun _ => ⟨HGF.out, HOK.out, ?_⟩, fun h => by cases h⟩
            rw [← hLm]
            exact ⟨HG.out, HSM.out, HL40.out, p, mb, M, rfl, HV.out⟩)
          by_cases hi1 : i < acts.length
          · have hi2 : ¬ (i : Int) < 40 := by omega
            have hi1' : (i : Int) < (acts.length : Int) := by omega
            clear hlt hfin
            go_wp2_with fail
            go_ret2
            exact HE.out
          · have hi1' : ¬ (i : Int) < (acts.length : Int) := by omega
            clear hlt hfin
            go_wp2_with fail
            go_ret2
            exact HE.out
    · have HE := Lib.hid (show MadePost xs acts w (.returned (.tuple #[.pointer none, .bool false])) w1 from ⟨_, false, rfl, HB1.out, (fun h => by cases h), fun _ => .inr hnok⟩)
      clear hg HOR hnok
      go_wp2_with fail
      go_ret2
      exact HE.out
end Go.Proofs.Ytnnpheklgdbohaa
