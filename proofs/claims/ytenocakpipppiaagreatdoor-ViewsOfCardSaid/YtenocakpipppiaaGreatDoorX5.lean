/- Plain: the reference's history is that of views. No condition. · ref17: appends and slices of entries. Condition: fewer than 1000000 entries. -/
import Derived.Test.YtenocakpipppiaaGreatDoorX3
import Derived.Test.YtenocakpipppiaaGreatDoorR5
import Derived.Test.YtenocakpipppiaaGreatDoorH6
import Derived.Lib.AppendZeros
import Derived.Deep.RegionHeld3
namespace Go.Proofs.YtenocakpipppiaaGreatDoor
open Go.RowKit Go.Shelf Go.Herb Go.Sort

theorem map_inj_of {α β : Type} {f : α → β} {l : List α} (h : (l.map f).Nodup) : ∀ x ∈ l, ∀ y ∈ l, f x = f y → x = y := by
  induction l with
  | nil => intro x hx; simp at hx
  | cons a l ih =>
    rw [List.map_cons, List.nodup_cons] at h
    intro x hx y hy e
    rcases List.mem_cons.1 hx with hx1 | hx1
    · rcases List.mem_cons.1 hy with hy1 | hy1
      · rw [hx1, hy1]
      · exact absurd (List.mem_map.2 ⟨y, hy1, by rw [← e, hx1]⟩) h.1
    · rcases List.mem_cons.1 hy with hy1 | hy1
      · exact absurd (List.mem_map.2 ⟨x, hx1, by rw [e, hy1]⟩) h.1
      · exact ih h.2 x hx1 y hy1 e
/-- Later than a place: the first of each time and place. -/
def laterS (at_ : Int) (p : List Fc × List Fc) (x : Fc) : List Fc × List Fc := (p.1 ++ [x], if at_ < x.seq ∧ ∀ y ∈ p.1, prOf y ≠ prOf x then p.2 ++ [x] else p.2)
def laterL (at_ : Int) (zs : List Fc) : List Fc := (zs.foldl (laterS at_) ([], [])).2
theorem laterL_fst (at_ : Int) (zs : List Fc) : (zs.foldl (laterS at_) ([], [])).1 = zs := by
  suffices h : ∀ p : List Fc × List Fc, (zs.foldl (laterS at_) p).1 = p.1 ++ zs by simpa using h ([], [])
  induction zs with
  | nil => intro p; simp
  | cons x zs ih => intro p; rw [List.foldl_cons, ih]; simp [laterS]
theorem laterL_snoc (at_ : Int) (zs : List Fc) (x : Fc) : laterL at_ (zs ++ [x]) = if at_ < x.seq ∧ ∀ y ∈ zs, prOf y ≠ prOf x then laterL at_ zs ++ [x] else laterL at_ zs := by
  unfold laterL
  rw [List.foldl_append, List.foldl_cons, List.foldl_nil]
  show (if _ then _ else _) = _
  rw [laterL_fst]
theorem laterL_len (at_ : Int) (zs : List Fc) : (laterL at_ zs).length ≤ zs.length := by
  refine list_snoc_ind (P := fun zs => (laterL at_ zs).length ≤ zs.length) (by simp [laterL]) (fun xs x ih => ?_) zs
  rw [laterL_snoc]
  split
  · simp; omega
  · simp; omega
/-- The key's own. -/
def mineL (key : ByteArray) (cs : List Lk) (xs : List Fc) : List Fc := xs.filter (fun x => decide (x.key.toList = key.toList) && seenC cs 18446744073709551615 x)
theorem mineL_snoc (key : ByteArray) (cs : List Lk) (xs : List Fc) (x : Fc) : mineL key cs (xs ++ [x]) = if x.key.toList = key.toList ∧ seenC cs 18446744073709551615 x = true then mineL key cs xs ++ [x] else mineL key cs xs := by
  unfold mineL
  rw [List.filter_append]
  by_cases h1 : x.key.toList = key.toList <;> by_cases h2 : seenC cs 18446744073709551615 x = true <;> simp [h1, h2]
theorem mineL_eq (key : ByteArray) (cs : List Lk) (xs : List Fc) : mineL key cs xs = (seenA xs cs).filter (fun x => decide (x.key.toList = key.toList)) := by
  unfold mineL seenA
  rw [seenL_eq, List.filter_filter]
theorem later_new (key : ByteArray) (at_ : Int) (ws : List Fc) : laterL at_ (ws.filter (fun x => decide (x.key.toList = key.toList))) = (newF key at_ ws).1 ∧
    ∀ pr, getL (newF key at_ ws).2 pr = none ↔ ∀ y ∈ ws.filter (fun x => decide (x.key.toList = key.toList)), at_ < y.seq → prOf y ≠ pr := by
  refine list_snoc_ind (P := fun ws => laterL at_ (ws.filter (fun x => decide (x.key.toList = key.toList))) = (newF key at_ ws).1 ∧
    ∀ pr, getL (newF key at_ ws).2 pr = none ↔ ∀ y ∈ ws.filter (fun x => decide (x.key.toList = key.toList)), at_ < y.seq → prOf y ≠ pr) ⟨rfl, fun pr => ?_⟩ (fun ws x ih => ?_) ws
  · simp [newF, getL]
  · obtain ⟨h1, h2⟩ := ih
    rw [newF_snoc, List.filter_append]
    unfold newStep
    by_cases hk : x.key.toList = key.toList
    · rw [show [x].filter (fun x => decide (x.key.toList = key.toList)) = [x] by simp [hk], laterL_snoc]
      by_cases hs : at_ < x.seq
      · have hiff : (∀ y ∈ ws.filter (fun x => decide (x.key.toList = key.toList)), prOf y ≠ prOf x) ↔ getL (newF key at_ ws).2 (x.valid, x.seq) = none := by
          rw [h2]
          constructor
          · exact fun g y hy _ => g y hy
          · intro g y hy e
            have e2 : y.seq = x.seq := congrArg Prod.snd e
            exact g y hy (by omega) e
        by_cases hn : getL (newF key at_ ws).2 (x.valid, x.seq) = none
        · rw [if_pos ⟨hs, hiff.2 hn⟩, if_pos ⟨hk, hs, hn⟩, h1]
          refine ⟨rfl, fun pr => ?_⟩
          show getL (putL _ _ _) pr = none ↔ _
          by_cases e : pr = (x.valid, x.seq)
          · rw [e, getL_put_same]
            constructor
            · intro h; cases h
            · intro g; exact absurd rfl (g x (by simp) hs)
          · rw [getL_put_other _ _ _ e, h2]
            constructor
            · intro g y hy hys
              rcases List.mem_append.1 hy with hy | hy
              · exact g y hy hys
              · rw [List.mem_singleton.1 hy]; exact fun h => e h.symm
            · exact fun g y hy hys => g y (List.mem_append_left _ hy) hys
        · rw [if_neg (fun h => hn (hiff.1 h.2)), if_neg (fun h => hn h.2.2), h1]
          refine ⟨rfl, fun pr => ?_⟩
          rw [h2]
          constructor
          · intro g y hy hys
            rcases List.mem_append.1 hy with hy | hy
            · exact g y hy hys
            · rw [List.mem_singleton.1 hy]
              intro e
              exact hn ((h2 (x.valid, x.seq)).2 (by rw [← e] at g; exact g))
          · exact fun g y hy hys => g y (List.mem_append_left _ hy) hys
      · rw [if_neg (fun h => hs h.1), if_neg (fun h => hs h.2.1), h1]
        refine ⟨rfl, fun pr => ?_⟩
        rw [h2]
        constructor
        · intro g y hy hys
          rcases List.mem_append.1 hy with hy | hy
          · exact g y hy hys
          · rw [List.mem_singleton.1 hy] at hys; exact absurd hys hs
        · exact fun g y hy hys => g y (List.mem_append_left _ hy) hys
    · rw [show [x].filter (fun x => decide (x.key.toList = key.toList)) = [] by simp [hk], List.append_nil, if_neg (fun h => hk h.1)]
      exact ⟨h1, h2⟩
/-- Ahead of another one, by time and by place. -/
def GtE (a b : Fc) : Prop := b.valid < a.valid ∨ a.valid = b.valid ∧ b.seq < a.seq
/-- Sorted, the late ones first. -/
def DnE (l : List Fc) : Prop := l.Pairwise (fun a b => ¬ GtE b a)
theorem ins_dn {out : List Fc} {x : Fc} {k : Nat} (h : DnE out) (h1 : ∀ q ∈ out.take k, GtE q x) (hk : k ≤ out.length) (h2 : ∀ y, out[k]? = some y → ¬ GtE y x) : DnE (out.take k ++ [x] ++ out.drop k) ∧ (out.take k ++ [x] ++ out.drop k).Perm (out ++ [x]) := by
  have hs := h
  unfold DnE at hs ⊢
  rw [← List.take_append_drop k out, List.pairwise_append] at hs
  obtain ⟨s1, s2, s3⟩ := hs
  have h3 : ∀ q ∈ out.drop k, ¬ GtE q x := fun q hq => by
    rcases Nat.lt_or_eq_of_le hk with hlt | he
    · have hd := List.drop_eq_getElem_cons hlt
      rw [hd] at s2 hq
      have h0 := h2 _ (List.getElem?_eq_getElem hlt)
      rcases List.mem_cons.1 hq with rfl | hq
      · exact h0
      · have h5 := (List.pairwise_cons.1 s2).1 q hq
        unfold GtE at *
        omega
    · rw [he, List.drop_length] at hq
      simp at hq
  refine ⟨?_, ?_⟩
  · rw [List.append_assoc, List.pairwise_append]
    refine ⟨s1, ?_, fun a ha b hb => ?_⟩
    · rw [List.singleton_append, List.pairwise_cons]
      exact ⟨h3, s2⟩
    · rcases List.mem_append.1 hb with hb | hb
      · rw [List.mem_singleton.1 hb]
        have := h1 a ha
        unfold GtE at *
        omega
      · exact s3 a ha b hb
  · rw [List.append_assoc]
    have h4 : (out.take k ++ ([x] ++ out.drop k)).Perm (out.take k ++ (out.drop k ++ [x])) := List.Perm.append_left _ List.perm_append_comm
    refine h4.trans ?_
    rw [← List.append_assoc, List.take_append_drop]
theorem hist_one {key : ByteArray} {at_ : Int} {xs ys out : List Fc} {cs : List Lk} (hp : ys.Perm ((newF key at_ (seenA xs cs)).1 ++ (lastM (oldF key at_ (seenA xs cs))).map (·.2))) (hs : ys.Pairwise (fun x y => ¬ LtF y x))
    (ho : out.Perm (laterL at_ (mineL key cs xs) ++ refOf ((mineL key cs xs).filter (seenC cs at_)))) (hd : DnE out) : out = ys := by
  have hp' : ys.Perm ((newF key at_ (seenA xs cs)).1 ++ lastL (oldF key at_ (seenA xs cs))) := hp
  have e1 : laterL at_ (mineL key cs xs) = (newF key at_ (seenA xs cs)).1 := by rw [mineL_eq]; exact (later_new key at_ (seenA xs cs)).1
  have e2 : (mineL key cs xs).filter (seenC cs at_) = oldF key at_ (seenA xs cs) := by
    rw [oldF_seen, seenL_eq]
    unfold mineL
    rw [List.filter_filter, List.filter_filter]
    refine List.filter_congr (fun x _ => ?_)
    cases h : seenC cs at_ x with
    | false => simp
    | true => simp [seenC_max h]
  rw [e1, e2] at ho
  have hperm : out.Perm ys := ho.trans ((List.Perm.append_left _ (refOf_view _).1).trans hp'.symm)
  have hf := hist_falls hp' hs
  have hn := (hist_pairs hp').2
  refine hperm.eq_of_pairwise (le := fun a b => ¬ GtE b a) (fun a b ha hb h1 h2 => ?_) hd (hf.imp (fun {a b} h g => ?_))
  · refine map_inj_of hn a (hperm.mem_iff.1 ha) b hb (Prod.ext ?_ ?_)
    · unfold GtE at *; show a.valid = b.valid; omega
    · unfold GtE at *; show a.seq = b.seq; omega
  · unfold GtE at g
    have := h.1
    have := h.2
    omega
end Go.Proofs.YtenocakpipppiaaGreatDoor

namespace Go.Proofs.YtenocakpipppiaaGreatDoor
open Go.RowKit Go.Shelf Go.Herb

theorem ec_one (x : Fc) : ∀ v ∈ ec x, v.oneCell' = true := by
  intro v hv
  simp [ec] at hv
  rcases hv with rfl | rfl | rfl | rfl <;> rfl
theorem own_parts {B e s n : Nat} {w : World} {v : Value} {xs : List Value} (h : w.ownsRow B e s v n xs) : ∃ a cap, v = .slice a n cap ∧ (a = none → n = 0 ∧ cap = 0) ∧ n ≤ cap ∧ cap ≤ maxLen := by
  obtain ⟨_, ⟨h1, h2⟩ | ⟨g, cap, cur, hv, hg, hh, hle, hm, hsz, htk⟩⟩ := h
  · exact ⟨none, 0, by rw [h1, h2], fun _ => ⟨h2, rfl⟩, by omega, by unfold maxLen; omega⟩
  · exact ⟨_, cap, hv, (fun h => by cases h), hle, hm⟩
theorem owns_els {α : Type} {enc : α → List Value} {s B e n cap : Nat} {w : World} {a : Option Addr} {xs : List α} (hs : ∀ x, (enc x).length = s) (h : w.ownsRow B e s (.slice a n cap) xs.length (xs.flatMap enc)) : Els enc s w a xs := by
  obtain ⟨a', c', h1, _, h3⟩ := els_of_owns hs h
  injection h1 with h1
  rw [h1]
  exact h3
theorem OwnE.none0 {B : Nat} {w : World} {a : Option Addr} {n c : Nat} {ps : List Fc} (h : OwnE B w (.slice a n c) ps) : a = none → c = 0 := by
  intro ha
  rcases h with ⟨_, ⟨h1, _⟩ | ⟨g, cap, cur, hv, _⟩⟩
  · cases h1; rfl
  · cases hv; cases ha
theorem run_append_ents (w : World) (B : Nat) (v : Value) (ss : List Fc) (ab : Option Addr) (cb k : Nat) (bs : List Fc) (hk : bs.length = k) (ho : OwnE B w v ss) (hT : Els ec 4 w ab bs) (hx : ss.length < 1000000) (hb : k < 1000000) (hn : ab = none → cb = 0) (hB : B ≤ w.heap.size) (ty : TypeId) :
    ∃ v' w', (Builtin.append_ #[41, 41] ty #[v, .slice ab k cb]).run Tryz.prog w = .ok v' w' ∧ OwnE B w' v' (ss ++ bs) ∧ w.grownBy w' v.ownBlock := by
  subst hk
  obtain ⟨i0, hin, hz0, hz1, hz2⟩ := info_parts Tryz.info71
  cases ab with
  | none =>
    have h0 : bs = [] := by
      cases bs with
      | nil => rfl
      | cons x xs => obtain ⟨b, o, h, _⟩ := hT.get 0 (by simp); cases h
    subst h0
    rw [hn rfl]
    obtain ⟨av, cv, rfl, -⟩ := own_parts ho
    have := run_append_owned_none (P := Tryz.prog) w B 41 ty 71 i0 4 Tryz.underlying41 hin _ _ _ ho
    exact ⟨_, w, this, by simpa using ho, grown_refl _ _⟩
  | some ad =>
    obtain ⟨v', w', hr, h2, h3, h4⟩ := run_append_own (P := Tryz.prog) w B 41 ty 71 i0 _ 4 40 Tryz.underlying41 hin hz0 hz1 hz2 rfl (by decide) v ss.length (ss.flatMap ec) ho ad bs.length cb (bs.flatMap ec) (flatMap_len ec_len _) (hT.flat ec_len (by decide)) (fun u hu => by
      obtain ⟨q, _, hq⟩ := List.mem_flatMap.1 hu
      exact ec_one q u hq) (by unfold maxLen; omega) (by omega) hB
    refine ⟨v', w', hr, ?_, h3⟩
    unfold OwnE
    rw [List.length_append, List.flatMap_append]
    exact h2
theorem wp_append_ents {w : World} {o : Oper} {a : Act} {K : Act → World → Prop} {Q : Exit → Act → World → Prop} (s x : Operand) (ho : o.op = .call { callee := .builtin .append, args := #[s, x], argTypes := #[41, 41] })
    (B : Nat) (v : Value) (ss : List Fc) (ab : Option Addr) (cb k : Nat) (bs : List Fc) (hk : bs.length = k) (hs : a.eval s = v) (hx : a.eval x = .slice ab k cb) (hown : OwnE B w v ss) (hT : Els ec 4 w ab bs) (hl : ss.length < 1000000) (hb : k < 1000000) (hn : ab = none → cb = 0) (hB : B ≤ w.heap.size)
    (h : ∀ v' w', OwnE B w' v' (ss ++ bs) → w.grownBy w' v.ownBlock → K (a.put o.dst v') w') : o.wp Tryz.prog a w K Q := by
  obtain ⟨v', w', hr, h2, h3⟩ := run_append_ents w B v ss ab cb k bs hk hown hT hl hb hn hB o.type
  unfold Oper.wp execOp
  simp only [ho, resolve, invoke, builtin, Sem.run_bind, Sem.run_pure, Result.andThen_ok, List.map_toArray, List.map_cons, List.map_nil, hs, hx, hr]
  exact h v' w' h2 h3
/-- 's[:k]' of points. -/
theorem slice_loE {w : World} {ka : Option Addr} {kc k n : Nat} {ks : List Fc} (hE : Els ec 4 w ka ks) (_ : ks.length = n) (hle : n ≤ kc) (hk : k ≤ n) (h0 : ka = none → kc = 0) :
    ∃ a1, (∀ W, (Instr.slice 41 (.slice ka n kc) none (some (.int .i64 k)) none).run Tryz.prog W = .ok (.slice a1 k kc) W) ∧ Els ec 4 w a1 (ks.take k) ∧ (a1 = none → kc = 0) := by
  refine ⟨if kc = 0 then ka else ka.map (·.add (0 * 4)), fun W => ?_, ?_, ?_⟩
  · rw [run_slice_h (P := Tryz.prog) W 41 ka n kc (by kernel_rfl) .i64 k (by omega) (by omega)]
    rw [show Tryz.prog.elem 41 = 71 from by kernel_rfl, Tryz.sizeOf71]
    simp [sliced, Result.andThen]
  · by_cases hz : kc = 0
    · have : ks.take k = [] := List.length_eq_zero_iff.1 (by simp; omega)
      rw [this]
      exact Els.nil _ _ _ _
    · rw [if_neg hz]
      cases ka with
      | none => exact absurd (h0 rfl) hz
      | some ad =>
        have : ad.add (0 * 4) = ad := by unfold Addr.add; simp
        rw [Option.map_some, this]
        exact hE.take k
  · intro h
    by_cases hz : kc = 0
    · exact hz
    · rw [if_neg hz] at h
      cases ka with
      | none => exact h0 rfl
      | some ad => cases h
/-- 's[k:]' of points. -/
theorem slice_hiE {w : World} {ka : Option Addr} {kc k n : Nat} {ks : List Fc} (hE : Els ec 4 w ka ks) (hn : ks.length = n) (hle : n ≤ kc) (hk : k ≤ n) (h0 : ka = none → kc = 0) :
    ∃ a2, (∀ W, (Instr.slice 41 (.slice ka n kc) (some (.int .i64 k)) none none).run Tryz.prog W = .ok (.slice a2 (n - k) (kc - k)) W) ∧ Els ec 4 w a2 (ks.drop k) ∧ (a2 = none → kc - k = 0) := by
  refine ⟨if kc = k then ka else ka.map (·.add (k * 4)), fun W => ?_, ?_, ?_⟩
  · rw [run_slice_l (P := Tryz.prog) W 41 ka n kc (by kernel_rfl) .i64 k (by omega) (by omega)]
    rw [show Tryz.prog.elem 41 = 71 from by kernel_rfl, Tryz.sizeOf71]
    simp [sliced, Result.andThen]
  · by_cases hz : kc = k
    · have : ks.drop k = [] := List.length_eq_zero_iff.1 (by simp; omega)
      rw [this]
      exact Els.nil _ _ _ _
    · rw [if_neg hz]
      cases ka with
      | none => exact absurd (h0 rfl) (by intro h; omega)
      | some ad =>
        rw [Option.map_some]
        by_cases hd : ks.drop k = []
        · rw [hd]; exact Els.nil _ _ _ _
        · obtain ⟨b, o, ha, _⟩ := hE.get 0 (by
            rcases Nat.eq_zero_or_pos ks.length with h | h
            · exact absurd (List.length_eq_zero_iff.1 (by simp; omega)) hd
            · exact h)
          injection ha with ha
          subst ha
          rw [addr_add]
          exact hE.drop k
  · intro h
    by_cases hz : kc = k
    · omega
    · rw [if_neg hz] at h
      cases ka with
      | none => have := h0 rfl; omega
      | some ad => cases h
theorem ents_of_one {w : World} {b : Nat} {x : Fc} (h : w.heap[b]? = some (.cells #[.int .u32 x.valid, .int .u64 x.seq, .int .u8 x.kind, .string x.val] 71 (0, 0))) : Els ec 4 w (some ⟨b, 0, none⟩) [x] := by
  refine ⟨fun i hi => ⟨b, 0, rfl, lt_of_blk h, fun j c hj => ?_⟩⟩
  have : i = 0 := by simpa using hi
  subst this
  rw [cell_of_blk h]
  simp only [List.getElem_cons_zero, ec] at hj
  simpa using hj
end Go.Proofs.YtenocakpipppiaaGreatDoor
