/- vectors: there, needs, above. Condition: fewer than 1000000 lines. -/
import Derived.Test.YtnnpheklgdbohaaOC
import Derived.Test.YtnnpheklgdbohaaOD
import Derived.Shelf.SlMaps.Clone
namespace Go.Proofs.Ytnnpheklgdbohaa
open Go.RowKit Go.Shelf Go.Herb

theorem zeroU (w : World) : (zeroValue (29)).run Try.prog w = .ok (.int .u64 0) w := by kernel_rfl
theorem zeroB (w : World) : (zeroValue (72)).run Try.prog w = .ok (.map none) w := by kernel_rfl
theorem keyU {x : Int} (h : U64 x) : ∃ kl, keyOf Try.prog (29) (.int .u64 x) = some kl := ⟨_, Maps.keyOf_int_mk Try.underlying29 h⟩

/-- What a pointer to vectors leads to. -/
structure VecIs (w : World) (p mb : Nat) (M : List (Int × Nat)) (L : Vs) : Prop where
  blk : w.heap[p]? = some (.cells #[.map (some mb), .int .i64 1] (60) (0, 0))
  out : MapM w mb M
  keys : (M.map (·.1)).Perm (L.map (·.1))
  inn : ∀ q ∈ M, ∃ m b, MapU w q.2 m ∧ getL L q.1 = some b ∧ m.Perm b
theorem VecIs.same {w w' : World} {p mb : Nat} {M : List (Int × Nat)} {L : Vs} (h : VecIs w p mb M L) (hb : ∀ b, b < w.heap.size → w'.heap[b]? = w.heap[b]?) : VecIs w' p mb M L :=
  ⟨(hb _ (lt_of_blk h.blk)).trans h.blk, h.out.same (hb _ h.out.lt), h.keys, fun q hq => by obtain ⟨m, b, h1, h2⟩ := h.inn q hq; exact ⟨m, b, h1.same (hb _ h1.lt), h2⟩⟩
theorem VecIs.below {w w' : World} {p mb : Nat} {M : List (Int × Nat)} {L : Vs} (h : VecIs w p mb M L) (hb : Below w.heap.size w w') : VecIs w' p mb M L := h.same (fun b hl => hb.block b hl)
theorem VecIs.drewN {w : World} {p mb : Nat} {M : List (Int × Nat)} {L : Vs} (h : VecIs w p mb M L) (n : Nat) : VecIs (w.drewN n) p mb M L := h.same (fun _ _ => rfl)
theorem VecIs.has {w : World} {p mb : Nat} {M : List (Int × Nat)} {L : Vs} (h : VecIs w p mb M L) {k : Int} {b : Bh} (hg : getL L k = some b) : ∃ ib m, getL M k = some ib ∧ MapU w ib m ∧ m.Perm b := by
  have hk : k ∈ M.map (·.1) := h.keys.mem_iff.2 (List.mem_map.2 ⟨_, getL_mem hg, rfl⟩)
  obtain ⟨q, hq, rfl⟩ := List.mem_map.1 hk
  obtain ⟨m, b', h1, h2, h3⟩ := h.inn q hq
  rw [hg] at h2
  cases h2
  exact ⟨q.2, m, (getL_some h.out.nodup).2 hq, h1, h3⟩
theorem VecIs.hasNot {w : World} {p mb : Nat} {M : List (Int × Nat)} {L : Vs} (h : VecIs w p mb M L) {k : Int} (hg : getL L k = none) : getL M k = none := by
  rw [getL_none] at hg ⊢
  exact fun hm => hg (h.keys.mem_iff.1 hm)
theorem VecIs.len {w : World} {p mb : Nat} {M : List (Int × Nat)} {L : Vs} (h : VecIs w p mb M L) : M.length = L.length := by have := h.keys.length_eq; simpa using this

theorem there_any (p mb : Nat) (w : World) (hp : w.heap[p]? = some (.cells #[.map (some mb), .int .i64 1] (60) (0, 0))) :
    Calls Try.prog (30) #[.pointer (some ⟨p, 0, none⟩)] w fun e w' => e = .returned (.bool true) ∧ w = w' := by
  have c1 := cell_of_blk hp 1
  simp at c1
  clear hp
  go_enter Try.func30, Try.ntmps30
  go_wp2
  go_ret
  exact ⟨rfl, rfl⟩

def needsE (L : Vs) (ls : List Int) : Int := if ls.all (fun l => (getL L l).isSome) then 0 else 7
set_option maxHeartbeats 1000000 in
theorem needs_any (p mb : Nat) (M : List (Int × Nat)) (L : Vs) (a : Option Addr) (cap : Nat) (ls : List Int) (w : World) (h : VecIs w p mb M L) (hls : Els nu 1 w a ls) (hlw : ∀ x ∈ ls, U64 x) (hll : ls.length < 1000) :
    Calls Try.prog (36) #[.pointer (some ⟨p, 0, none⟩), .slice a ls.length cap] w fun e w' => e = .returned (.int .i64 (needsE L ls)) ∧ w = w' := by
  have H := Lib.hid h
  have HL := Lib.hid hls
  have HW := Lib.hid hlw
  have c0 := cell_of_blk h.blk 0
  simp at c0
  clear h hls hlw
  go_enter Try.func36, Try.ntmps36
  go_wp2_with fail
  refine (there_any p mb w H.out.blk).mono ?_
  rintro e w' ⟨rfl, rfl⟩
  go_wp2_with fail
  go_loopg [14] ls.length (fun gk iv wr => ∃ k : Nat, k + gk = ls.length ∧ iv = .int .i64 k ∧ Hid ((ls.take k).all (fun l => (getL L l).isSome) = true) ∧ wr = w)
  case atStart => exact ⟨0, by omega, rfl, Lib.hid rfl, rfl⟩
  case round =>
    obtain ⟨k, hk, rfl, HA, rfl⟩ := hrel
    by_cases hlt : k < ls.length
    · obtain ⟨b, o, rfl, hlb, hcell⟩ := HL.out.get k hlt
      have hx0 := hcell 0 _ rfl
      simp only [Nat.add_zero, Nat.mul_one] at hx0
      have hk0 : (0 : Int) ≤ (k : Int) := by omega
      have hk1 : (k : Int) < (ls.length : Int) := by omega
      have hxw := HW.out _ (List.getElem_mem hlt)
      have HSN := Lib.hid (show (ls.take (k + 1)).all (fun l => (getL L l).isSome) = (getL L ls[k]).isSome from by rw [List.take_succ_eq_append_getElem hlt, List.all_append, HA.out]; simp)
      have HIN := Lib.hid (List.getElem_mem hlt)
      generalize ls[k] = x at *
      obtain ⟨kl, hkl⟩ := keyU hxw
      have hlook := (H.out.out.look lawU eU_inj Try.underlying58 (zeroB _) hkl).2
      clear hcell hkl hxw
      cases hg : getL L x with
      | none =>
        rw [H.out.hasNot hg] at hlook
        simp only at hlook
        have HG := Lib.hid hg
        clear hg
        have hE : needsE L ls = 7 := by
          unfold needsE
          rw [if_neg]
          intro hall
          rw [List.all_eq_true] at hall
          have := hall x HIN.out
          rw [HG.out] at this
          cases this
        have HE := Lib.hid hE
        clear hE
        go_wp2_with fail
        go_ret
        exact ⟨by rw [HE.out]; first | done | rfl, rfl⟩
      | some bb =>
        obtain ⟨ib, m, hg2, _, _⟩ := H.out.has hg
        rw [hg2] at hlook
        simp only at hlook
        have HG := Lib.hid hg
        clear hg hg2
        go_wp2_with fail
        go_roundg (gk - 1)
        case measure => omega
        case rel => exact ⟨k + 1, by omega, by go_num, Lib.hid (by rw [HSN.out, HG.out]; rfl), rfl⟩
    · have hke : k = ls.length := by omega
      have HE := Lib.hid (show needsE L ls = 0 from by unfold needsE; rw [if_pos]; have := HA.out; rwa [hke, List.take_length] at this)
      clear hke
      go_wp2_with fail
      go_ret
      exact ⟨by rw [HE.out]; first | done | rfl, rfl⟩

set_option maxHeartbeats 1000000 in
theorem above_any (b : Nat) (m : List (Int × Int)) (s : Int) (w : World) (h : MapU w b m) (_ : m.length < 1000000) :
    Calls Try.prog (37) #[.map (some b), .int .u64 s] w fun e w' => e = .returned (.bool (aboveB m s)) ∧ Below w.heap.size w w' := by
  obtain ⟨w4, hrg, hit, hB4, hs4⟩ := h.range Try.underlying72
  have HIT := Lib.hid hit
  have HB4 := Lib.hid hB4
  clear h hit hB4 hs4
  go_enter Try.func37, Try.ntmps37
  go_wp2_with fail
  clear hrg
  go_loopg [] m.length (fun gk wr => ∃ done todo : List (Int × Int), todo.length = gk ∧ Hid (m.Perm (done ++ todo)) ∧ IterIs Try.prog (29) eU eU wr b w.heap.size m todo ∧ Hid (∀ p ∈ done, p.2 < s) ∧ Below w.heap.size w wr)
  case atStart => exact ⟨[], m, rfl, Lib.hid (List.Perm.refl _), HIT.out, Lib.hid (by simp), HB4.out⟩
  case round =>
    obtain ⟨done, todo, htl, HP, hit, HA, hbw⟩ := hrel
    have HBW := Lib.hid hbw
    have hsz := hbw.size
    clear hbw HIT HB4
    rcases hit.next 0 with ⟨rfl, hnx⟩ | ⟨⟨k, v⟩, todo', w5, htp, hpm, hnx, hit2, hg2, hs2, hen⟩
    · have hall : (∀ p ∈ m, p.2 < s) := fun p hp => HA.out p (by have := HP.out.mem_iff.1 hp; simpa using this)
      have HALL := Lib.hid hall
      clear hit hall
      by_cases h0 : 0 < s
      · have hE : aboveB m s = true := aboveB_iff.2 ⟨h0, HALL.out⟩
        have HE := Lib.hid hE
        clear hE
        go_wp2_with fail
        go_ret
        exact ⟨by rw [HE.out]; first | done | rfl, HBW.out⟩
      · have hE : aboveB m s = false := by rw [Bool.eq_false_iff]; intro h; exact h0 (aboveB_iff.1 h).1
        have HE := Lib.hid hE
        have h0d : decide (0 < s) = false := decide_eq_false h0
        clear hE
        go_wp2_with fail
        go_ret
        exact ⟨by rw [HE.out]; first | done | rfl, HBW.out⟩
    · have htl2 : todo'.length + 1 = gk := by have := htp.length_eq; simp only [List.length_cons] at this; omega
      have HP2 := Lib.hid (show m.Perm ((done ++ [(k, v)]) ++ todo') from by rw [List.append_assoc]; exact HP.out.trans (List.Perm.append_left _ htp))
      have HPM := Lib.hid hpm
      have HIT2 := Lib.hid hit2
      have HB5 := Lib.hid (show Below w.heap.size w w5 from HBW.out.grown hg2 hsz (fun k e => by cases e; exact Nat.le_refl _))
      clear hit hit2 hg2 hs2 htp hpm HP htl
      by_cases hv : v < s
      · have hvd : decide (s ≤ v) = false := decide_eq_false (by omega)
        have HV := Lib.hid hv
        clear hv
        go_wp2_with fail
        go_roundg todo'.length
        case measure => omega
        case rel => exact ⟨done ++ [(k, v)], todo', rfl, HP2, HIT2.out, Lib.hid (fun p hp => by rcases List.mem_append.1 hp with hp | hp; exact HA.out p hp; rw [List.mem_singleton.1 hp]; exact HV.out), HB5.out⟩
      · have hvd : decide (s ≤ v) = true := decide_eq_true (by omega)
        have hE : aboveB m s = false := by rw [Bool.eq_false_iff]; intro h; have := (aboveB_iff.1 h).2 _ HPM.out; exact hv this
        have HE := Lib.hid hE
        have hv2 : s ≤ v := by omega
        clear hE hv
        go_wp2_with fail
        go_ret
        exact ⟨by rw [HE.out]; first | done | rfl, HB5.out⟩
end Go.Proofs.Ytnnpheklgdbohaa
