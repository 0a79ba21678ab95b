/- Plain facts for PicksEnd: a number that falls at every step; and the bytes of tables. -/
import Derived.Test.YthdjokcjajlnnaaA6
namespace Go.Proofs.Ythdjokcjajlnnaa
open Go.RowKit Go.Herb

/-- How many tables are dirty. -/
def dirtyN (ds : List Int) (ts : List T) : Nat := ts.countP (fun t => decide (t.file ∈ ds))

theorem dirtyN_app (ds : List Int) (a b : List T) : dirtyN ds (a ++ b) = dirtyN ds a + dirtyN ds b := List.countP_append

theorem dirtyN_le (ds : List Int) (a : List T) : dirtyN ds a ≤ a.length := List.countP_le_length

theorem dirtyAt_one (ds : List Int) (ts : List T) (h : dirtyAt ds ts ≠ 0) : dirtyN ds ((ts.drop (dirtyAt ds ts - 1)).take 1) = 1 := by
  induction ts with
  | nil => exact absurd rfl h
  | cons x xs ih =>
    by_cases hx : x.file ∈ ds
    · have h1 : dirtyAt ds (x :: xs) = 1 := by simp [dirtyAt, hx]
      rw [h1]
      simp [dirtyN, hx]
    · by_cases h0 : dirtyAt ds xs = 0
      · exact absurd (by simp [dirtyAt, hx, h0]) h
      · have h1 : dirtyAt ds (x :: xs) = dirtyAt ds xs + 1 := by simp [dirtyAt, hx, h0]
        have h2 := ih h0
        rw [h1]
        have h3 : dirtyAt ds xs + 1 - 1 = (dirtyAt ds xs - 1) + 1 := by omega
        rw [h3, List.drop_succ_cons]
        exact h2

def phi (ds : List Int) (m : Nat → Lv) : Nat := 2 * (m 0).ts.length + (m 1).ts.length + (dirtyN ds (m 0).ts + dirtyN ds (m 1).ts + dirtyN ds (m 2).ts)
def tot (m : Nat → Lv) : Nat := (m 0).ts.length + (m 1).ts.length + (m 2).ts.length

theorem one_len (l : List T) (k : Nat) (h0 : k ≠ 0) (h : k ≤ l.length) : ((l.drop (k - 1)).take 1).length = 1 := by
  simp
  omega

theorem phi_falls (ds : List Int) (l0 l1 l2 : Lv) (m : Nat → Lv) (l : List T) (f t : Nat) (ins bs : List T) (p : Pl) (hp : p = ofP ds l0.ts l1.ts l2.ts) (his : p.is = true) (hf : f = p.frm) (ht : t = p.to) (hi : ins = p.inn) (hb : bs = p.beside) (hl : l.length ≤ 1) (hc : dirtyN ds l = 0)
    (hpm : ∀ i, i < 3 → (some3 f t ins bs i ++ (m i).ts).Perm ((lvAt l0 l1 l2 i).ts ++ if i = t then l else [])) :
    phi ds m + 1 ≤ phi ds (lvAt l0 l1 l2) ∧ tot m ≤ tot (lvAt l0 l1 l2) := by
  have hlen : ∀ i, i < 3 → (if i = f then ins.length else 0) + (if i = t then bs.length else 0) + (m i).ts.length = (lvAt l0 l1 l2 i).ts.length + if i = t then l.length else 0 := by
    intro i hi
    have h := (hpm i hi).length_eq
    simp only [some3, List.length_append] at h
    have e1 : (if i = f then ins else []).length = if i = f then ins.length else 0 := by split <;> rfl
    have e2 : (if i = t then bs else []).length = if i = t then bs.length else 0 := by split <;> rfl
    have e3 : (if i = t then l else []).length = if i = t then l.length else 0 := by split <;> rfl
    rw [e1, e2, e3] at h
    exact h
  have hdn : ∀ i, i < 3 → (if i = f then dirtyN ds ins else 0) + (if i = t then dirtyN ds bs else 0) + dirtyN ds (m i).ts = dirtyN ds (lvAt l0 l1 l2 i).ts := by
    intro i hi
    have h := (hpm i hi).countP_eq (fun x : T => decide (x.file ∈ ds))
    change dirtyN ds _ = dirtyN ds _ at h
    rw [dirtyN_app, dirtyN_app, some3, dirtyN_app] at h
    have e1 : dirtyN ds (if i = f then ins else []) = if i = f then dirtyN ds ins else 0 := by split <;> rfl
    have e2 : dirtyN ds (if i = t then bs else []) = if i = t then dirtyN ds bs else 0 := by split <;> rfl
    have e3 : dirtyN ds (if i = t then l else []) = 0 := by split; exact hc; rfl
    rw [e1, e2, e3] at h
    exact h
  have a0 := hlen 0 (by omega)
  have a1 := hlen 1 (by omega)
  have a2 := hlen 2 (by omega)
  have b0 := hdn 0 (by omega)
  have b1 := hdn 1 (by omega)
  have b2 := hdn 2 (by omega)
  have v0 : lvAt l0 l1 l2 0 = l0 := rfl
  have v1 : lvAt l0 l1 l2 1 = l1 := rfl
  have v2 : lvAt l0 l1 l2 2 = l2 := rfl
  unfold phi tot
  simp only [v0, v1, v2] at a0 a1 a2 b0 b1 b2 ⊢
  clear hlen hdn hpm v0 v1 v2
  unfold ofP at hp
  by_cases h0 : 2 < l0.ts.length
  · rw [if_pos h0] at hp
    subst hp
    simp only at hf ht hi hb
    subst hf ht hi hb
    have z0 : (m 0).ts.length = 0 := by simp at a0; simp [a0]
    simp at a1 a2 b0 b1 b2
    omega
  · rw [if_neg h0] at hp
    by_cases h1 : 8192 < bytesL l1.ts
    · rw [if_pos h1] at hp
      have hne : 0 < l1.ts.length := by
        rw [List.length_pos_iff]
        intro h2
        rw [h2] at h1
        simp [bytesL] at h1
      have htk : (l1.ts.take 1).length = 1 := by simp; omega
      subst hp
      simp only at hf ht hi hb
      subst hf ht hb
      rw [← hi] at htk
      simp at a0 a1 a2 b0 b1 b2
      omega
    · rw [if_neg h1] at hp
      unfold dirtyP at hp
      by_cases d0 : dirtyAt ds l0.ts ≠ 0
      · rw [if_pos d0] at hp
        have e1 := one_len l0.ts _ d0 (dirtyAt_le _ _)
        have e2 := dirtyAt_one ds l0.ts d0
        subst hp
        simp only at hf ht hi hb
        rw [← hi] at e1 e2
        subst hf ht hb
        simp [dirtyN] at a0 a1 a2 b0 b1 b2
        simp only [dirtyN] at *
        omega
      · rw [if_neg d0] at hp
        by_cases d1 : dirtyAt ds l1.ts ≠ 0
        · rw [if_pos d1] at hp
          have e1 := one_len l1.ts _ d1 (dirtyAt_le _ _)
          have e2 := dirtyAt_one ds l1.ts d1
          subst hp
          simp only at hf ht hi hb
          rw [← hi] at e1 e2
          subst hf ht hb
          simp [dirtyN] at a0 a1 a2 b0 b1 b2
          simp only [dirtyN] at *
          omega
        · rw [if_neg d1] at hp
          by_cases d2 : dirtyAt ds l2.ts ≠ 0
          · rw [if_pos d2] at hp
            have e1 := one_len l2.ts _ d2 (dirtyAt_le _ _)
            have e2 := dirtyAt_one ds l2.ts d2
            subst hp
            simp only at hf ht hi hb
            rw [← hi] at e1 e2
            subst hf ht hb
            simp [dirtyN] at a0 a1 a2 b0 b1 b2
            simp only [dirtyN] at *
            omega
          · rw [if_neg d2] at hp
            subst hp
            cases his

set_option maxHeartbeats 400000 in
theorem lbytes_any (a : Option Addr) (c : Nat) (ts : List T) (w : World) (hT : Tabs w a ts) (hlen : ts.length ≤ 2000) (hwf : ∀ t ∈ ts, 0 ≤ t.bytes ∧ t.bytes < 4294967296) :
    Calls Try.prog 13 #[.slice a ts.length c] w fun e w' => ∃ n : Nat, e = .returned (.int .i64 n) ∧ n ≤ 5000 * ts.length ∧ w = w' := by
  have H := Lib.hid hT
  have HW := Lib.hid hwf
  clear hT hwf
  go_enter Try.func13, Try.ntmps13
  go_wp2
  go_loopg [3, 4] ts.length (fun gk nv i wr => ∃ k n : Nat, k + gk = ts.length ∧ i = .int .i64 k ∧ nv = .int .i64 n ∧ n ≤ 5000 * k ∧ w = wr)
  case atStart => exact ⟨0, 0, by omega, rfl, rfl, by omega, rfl⟩
  case round =>
    obtain ⟨k, n, hk, rfl, rfl, hn, rfl⟩ := hrel
    by_cases hlt : k < ts.length
    · obtain ⟨b, o, rfl, hb, hc⟩ := H.out.get k hlt
      have e1 := hc 1 _ rfl
      have hwf := HW.out _ (List.getElem_mem hlt)
      clear hc
      generalize ts[k] = x at *
      obtain ⟨y, hy⟩ := Int.eq_ofNat_of_zero_le hwf.1
      rw [hy] at e1 hwf
      clear hy
      have hmod : Int.tmod (y : Int) 5000 = ((y % 5000 : Nat) : Int) := by simp [Int.tmod]
      go_wp2
      go_roundg (gk - 1)
      case measure => omega
      case rel => exact ⟨k + 1, n + y % 5000, by omega, by go_num, by go_num, by omega, rfl⟩
    · go_wp2
      go_ret
      exact ⟨n, rfl, by omega, rfl⟩
end Go.Proofs.Ythdjokcjajlnnaa
