/- vectors: copied, laid. Condition: fewer than 1000000 lines. -/
import Derived.Test.YtnnpheklgdbohaaOE
namespace Go.Proofs.Ytnnpheklgdbohaa
open Go.RowKit Go.Shelf Go.Herb

set_option maxRecDepth 100000 in
theorem clone_any (b : Nat) (M : List (Int × Nat)) (w : World) (h : MapM w b M) :
    Calls Try.prog (54) #[.map (some b)] w fun e w' => e = .returned (.map (some w.heap.size)) ∧ MapM w' w.heap.size M ∧ Below w.heap.size w w' ∧ w'.heap.size = w.heap.size + 1 := by
  obtain ⟨es, clock, hb, hF, he⟩ := h.blk
  have hq := fun w => run_eql_map_nil_sl (P := Try.prog) w (58) _ _ (some b) Try.underlying58
  have HE : Hid (MapM (w.alloc (.map es clock)) w.heap.size M ∧ Below w.heap.size w (w.alloc (.map es clock)) ∧ (w.alloc (.map es clock)).heap.size = w.heap.size + 1) := Lib.hid ⟨⟨es, clock, blk_new_at rfl _, hF, he⟩, (Below.refl _ _).alloc (Nat.le_refl _) _, by simp⟩
  clear h hF he
  go_enter Try.func54, Try.ntmps54
  go_wp2
  rw [run_callFunc_extern Try.func61 (by kernel_rfl) (by kernel_rfl) (by kernel_rfl) (e := Extern.MapsClone.clone) (by kernel_rfl), run_maps_clone_sl w (58) hb]
  simp only [Result.andThen]
  rw [Oper.upon_value]
  go_wp2
  rw [run_typeAssert_map_sl _ (58) (20) _ _ _ Try.underlying58]
  simp only [Result.andThen]
  rw [Oper.upon_value]
  go_wp2
  go_ret
  exact ⟨rfl, HE.out⟩

set_option maxRecDepth 100000 in
theorem copied_any (p mb : Nat) (M : List (Int × Nat)) (w : World) (hp : w.heap[p]? = some (.cells #[.map (some mb), .int .i64 1] (60) (0, 0))) (h : MapM w mb M) :
    Calls Try.prog (46) #[.pointer (some ⟨p, 0, none⟩)] w fun e w' => e = .returned (.pointer (some ⟨w.heap.size + 1, 0, none⟩)) ∧ MapM w' w.heap.size M ∧ w'.heap[w.heap.size + 1]? = some (.cells #[.map (some w.heap.size), .int .i64 1] (60) (0, 0)) ∧ Below w.heap.size w w' := by
  have c0 := cell_of_blk hp 0
  simp at c0
  have H := Lib.hid h
  clear hp h
  go_enter Try.func46, Try.ntmps46
  go_wp2_with fail
  refine (clone_any mb M w H.out).mono ?_
  rintro e w1 ⟨rfl, h1, h2, h3⟩
  have H1 := Lib.hid h1
  have H2 := Lib.hid h2
  have H3 := Lib.hid h3
  clear h1 h2 h3
  go_wp2
  go_ret
  refine ⟨by rw [H3.out]; first | done | rfl, H1.out.same (Below.heap_alloc _ _ _ H1.out.lt), by rw [← H3.out]; exact blk_new_at rfl _, (H2.out).alloc (H2.out.size) _⟩

/-- New vectors with a line laid anew. -/
theorem VecIs.put {w w' : World} {p0 mb0 p mb ib : Nat} {M : List (Int × Nat)} {L : Vs} {line : Int} {m B : Bh} (h : VecIs w p0 mb0 M L) (hL : SrtK L) (hb : Below w.heap.size w w') (blk : w'.heap[p]? = some (.cells #[.map (some mb), .int .i64 1] (60) (0, 0)))
    (out : MapM w' mb (putL M line ib)) (hi : MapU w' ib m) (hp : m.Perm B) : VecIs w' p mb (putL M line ib) (putS L line B) := by
  have hn := out.nodup
  refine ⟨blk, out, ?_, fun q hq => ?_⟩
  · refine (List.perm_ext_iff_of_nodup hn (putS_srt hL).nodup).2 fun k => ?_
    rw [mem_keys_putS, putL_keys, ← h.keys.mem_iff]
    split
    · rename_i hm
      constructor
      · exact .inr
      · rintro (rfl | h)
        · exact hm
        · exact h
    · rw [List.mem_append, List.mem_singleton]
      exact or_comm
  · have hg := (getL_some hn).2 (show (q.1, q.2) ∈ putL M line ib from hq)
    by_cases e : q.1 = line
    · rw [e, getL_put_same] at hg
      cases hg
      exact ⟨m, B, hi, by rw [getL_putS hL, if_pos e], hp⟩
    · rw [getL_put_other _ _ _ e] at hg
      obtain ⟨m2, b2, h1, h2, h3⟩ := h.inn _ (getL_mem hg)
      exact ⟨m2, b2, h1.same (hb.block _ h1.lt), by rw [getL_putS hL, if_neg e]; exact h2, h3⟩

/-- A map, as it stands in a row. -/
abbrev mc (q : Nat × Bh) : List Value := [.map (some q.1)]
def flatU (xs : List (Nat × Bh)) : Bh := (xs.map (·.2)).flatten
theorem flatU_succ (xs : List (Nat × Bh)) (k : Nat) (h : k < xs.length) : flatU (xs.take (k + 1)) = flatU (xs.take k) ++ xs[k].2 := by
  unfold flatU; rw [List.take_succ_eq_append_getElem h, List.map_append, List.flatten_append]; simp only [List.map_cons, List.map_nil, List.flatten_cons, List.flatten_nil, List.append_nil]
def LaidPost (_p _mb : Nat) (_M : List (Int × Nat)) (L : Vs) (line : Int) (B : Bh) (w : World) (e : Ending) (w' : World) : Prop :=
  ∃ p' mb' M', e = .returned (.pointer (some ⟨p', 0, none⟩)) ∧ VecIs w' p' mb' M' (putS L line B) ∧ Below w.heap.size w w'
set_option maxRecDepth 100000 in
set_option maxHeartbeats 4000000 in
theorem laid_any (p mb : Nat) (M : List (Int × Nat)) (L : Vs) (line : Int) (a : Option Addr) (cap : Nat) (xs : List (Nat × Bh)) (w : World) (h : VecIs w p mb M L) (hL : SrtK L) (hx : Els mc 1 w a xs) (hxm : ∀ q ∈ xs, MapU w q.1 q.2 ∧ Okm q.2) (hlen : (flatU xs).length < 1000000) (hxl : xs.length < 1000) (hline : U64 line) (hLl : L.length < 1000000) :
    Calls Try.prog (38) #[.pointer (some ⟨p, 0, none⟩), .int .u64 line, .slice a xs.length cap] w (LaidPost p mb M L line (laidB (xs.map (·.2))) w) := by
  have H := Lib.hid h
  have HL := Lib.hid hL
  have HX := Lib.hid hx
  have HXM := Lib.hid hxm
  have HLEN := Lib.hid hlen
  have HLL := Lib.hid hLl
  clear h hL hx hxm hlen hLl
  have hmm := @run_makeMap Try.prog
  have hN : Hid (MapU (w.alloc (.map #[] 0)) w.heap.size []) := Lib.hid (MapIs.made w)
  go_enter Try.func38, Try.ntmps38
  go_wp2_with fail
  clear hmm
  go_loopg [16] xs.length (fun gk iv wr => ∃ (k : Nat) (m : Bh), k + gk = xs.length ∧ iv = .int .i64 k ∧ MapU wr w.heap.size m ∧ Hid (Okm m) ∧ Hid (∀ j, g0 m j = supF (flatU (xs.take k)) j 0) ∧ Hid (m.length ≤ (flatU (xs.take k)).length) ∧ Below w.heap.size w wr)
  case atStart => exact ⟨0, [], by omega, rfl, hN.out, Lib.hid nil_good.ok, Lib.hid (fun j => rfl), Lib.hid (by simp), (Below.refl _ _).alloc (Nat.le_refl _) _⟩
  case round =>
    obtain ⟨k, m, hk, rfl, hM, HO, HG, HML, hbw⟩ := hrel
    have HM := Lib.hid hM
    have HBW := Lib.hid hbw
    have hsz := hM.lt
    clear hM hbw hN
    by_cases hlt : k < xs.length
    · obtain ⟨b, o, rfl, hlb, hcell⟩ := HX.out.get k hlt
      have hx0 := (HBW.out.cell (p := ⟨b, _, none⟩) hlb).trans (hcell 0 _ rfl)
      simp only [Nat.add_zero, Nat.mul_one] at hx0
      have hk0 : (0 : Int) ≤ (k : Int) := by omega
      have hk1 : (k : Int) < (xs.length : Int) := by omega
      obtain ⟨hxM, hxO⟩ := HXM.out _ (List.getElem_mem hlt)
      have hsn := flatU_succ xs k hlt
      have hfl : (flatU (xs.take (k + 1))).length ≤ (flatU xs).length := by
        unfold flatU
        conv => rhs; rw [← List.take_append_drop (k + 1) xs, List.map_append, List.flatten_append, List.length_append]
        omega
      generalize xs[k] = x at *
      obtain ⟨xb, xm⟩ := x
      have hxb : xb < w.heap.size := hxM.lt
      have hMX : MapU wr xb xm := hxM.same (HBW.out.block _ hxb)
      obtain ⟨w4, hrg, hit, hB4, hs4⟩ := hMX.range Try.underlying72
      have HIT := Lib.hid hit
      have HM4 := Lib.hid (HM.out.same (hB4.block _ hsz))
      have HB4 := Lib.hid (HBW.out.trans (hB4.mono HBW.out.size))
      have HXO := Lib.hid hxO
      have HSN := Lib.hid hsn
      have HFL := Lib.hid hfl
      clear hcell hxM hxO hMX hit hB4 hs4 hsn hfl
      go_wp2_with fail
      obtain ⟨g1, rfl⟩ : ∃ g1 : Nat, g1 = gk := ⟨_, rfl⟩
      obtain ⟨wo, rfl⟩ : ∃ wo : World, wo = wr := ⟨_, rfl⟩
      clear hrg hx0 hk0 hk1
      go_loopg [] xm.length (fun gk wr => ∃ (done todo m2 : Bh), todo.length = gk ∧ Hid (xm.Perm (done ++ todo)) ∧ IterIs Try.prog (29) eU eU wr xb wo.heap.size xm todo ∧ MapU wr w.heap.size m2 ∧ Hid (Okm m2) ∧ Hid (∀ j, g0 m2 j = supF done j (g0 m j)) ∧ Hid (m2.length ≤ m.length + done.length) ∧ Below w.heap.size w wr)
      case atStart => exact ⟨[], xm, m, rfl, Lib.hid (List.Perm.refl _), HIT.out, HM4.out, HO, Lib.hid (fun j => rfl), Lib.hid (by simp), HB4.out⟩
      case round =>
        obtain ⟨done, todo, m2, htl, HP, hit, hM2, HO2, HG2, HML2, hbw2⟩ := hrel
        have hsz2 := hM2.lt
        rcases hit.next 0 with ⟨rfl, hnx⟩ | ⟨⟨j, v⟩, todo', w5, htp, hpm, hnx, hit2, hg2, hs2, hen⟩
        · have HM3 := Lib.hid hM2
          have HB3 := Lib.hid hbw2
          have HPE := Lib.hid (show xm.Perm done from by have := HP.out; rwa [List.append_nil] at this)
          have hgk : 0 < g1 := by omega
          clear hit hM2 hbw2 HP HIT HM4 HB4
          go_wp2_with fail
          go_roundg (g1 - 1)
          case measure => omega
          case rel => exact ⟨k + 1, m2, by omega, by go_num, HM3.out, HO2, Lib.hid (fun i => by rw [HG2.out, HG.out, HSN.out, supF_append]; exact (supF_perm HPE.out _ _).symm), Lib.hid (by rw [HSN.out, List.length_append]; have := HML.out; have := HML2.out; have := HPE.out.length_eq; omega), HB3.out⟩
        · have htl2 : todo'.length + 1 = gk := by have := htp.length_eq; simp only [List.length_cons] at this; omega
          have HP2 := Lib.hid (show xm.Perm ((done ++ [(j, v)]) ++ todo') from by rw [List.append_assoc]; exact HP.out.trans (List.Perm.append_left _ htp))
          have hjw := HXO.out.wf _ hpm
          have hvp := HXO.out.pos _ hpm
          simp only at hjw hvp
          obtain ⟨kl, hkl⟩ := keyU hjw.1
          have hM5 : MapU w5 w.heap.size m2 := hM2.same (hg2.block _ hsz2 (fun e => by injection e with e; omega))
          have hb5 : Below w.heap.size w w5 := hbw2.grown hg2 hbw2.size (fun k e => by cases e; omega)
          have hlook := (hM5.look lawU eU_inj Try.underlying72 (zeroU _) hkl).1
          obtain ⟨gv, hgv⟩ : ∃ gv, gv = g0 m2 j := ⟨_, rfl⟩
          have hlook2 : (Instr.lookup (72) (.map (some w.heap.size)) (eU j) false).run Try.prog w5 = .ok (.int .u64 gv) w5 := by
            rw [hlook, hgv]
            unfold g0
            cases getL m2 j <;> rfl
          have hgn := HO2.out.nn j
          rw [← hgv] at hgn
          have hmlen : m2.length < maxLen := by
            have h1 := HML2.out
            have h2 := HML.out
            have h3 := HP2.out.length_eq
            have h4 := HFL.out
            have h5 := HLEN.out
            rw [HSN.out, List.length_append] at h4
            simp only [List.length_append, List.length_cons, List.length_nil] at h3 h4
            unfold maxLen
            omega
          obtain ⟨mx, hmx⟩ : ∃ mx, mx = max gv v := ⟨_, rfl⟩
          obtain ⟨w6, hst, hM6, hg6, hs6⟩ := hM5.store lawU eU_inj Try.underlying72 hmlen mx hkl
          have hit6 : IterIs Try.prog (29) eU eU w6 xb wo.heap.size xm todo' := hit2.same (hg6.block _ hit2.map.lt (fun e => by injection e with e; omega)) (hg6.block _ hit2.lt (fun e => by injection e with e; omega))
          have hO6 : Okm (putL m2 j mx) := by
            have hU : U64 mx := by
              rw [hmx]
              by_cases e : gv ≤ v
              · rw [show max gv v = v by omega]; exact hjw.2
              · rw [show max gv v = gv by omega]
                have := HO2.out.mem_of (k := j) (by rw [← hgv]; omega)
                rw [← hgv] at this
                exact (HO2.out.wf _ this).2
            have hmem : ∀ q ∈ putL m2 j mx, q = (j, mx) ∨ q ∈ m2 := fun q hq => by
              have hg := (getL_some (putL_nodup HO2.out.nodup j mx)).2 (show (q.1, q.2) ∈ putL m2 j mx from hq)
              by_cases e : q.1 = j
              · rw [e, getL_put_same] at hg
                injection hg with hg
                left; exact Prod.ext e hg.symm
              · rw [getL_put_other _ _ _ e] at hg
                exact .inr (getL_mem hg)
            refine ⟨putL_nodup HO2.out.nodup _ _, fun q hq => ?_, fun q hq => ?_⟩
            · rcases hmem q hq with rfl | h
              · simp only; omega
              · exact HO2.out.pos q h
            · rcases hmem q hq with rfl | h
              · exact ⟨hjw.1, hU⟩
              · exact HO2.out.wf q h
          have hG6 : ∀ i, g0 (putL m2 j mx) i = supF (done ++ [(j, v)]) i (g0 m i) := fun i => by
            rw [supF_snoc, ← HG2.out]
            unfold g0
            by_cases e : j = i
            · subst e
              rw [getL_put_same, if_pos rfl]
              show mx = _
              rw [hmx, hgv]
              rfl
            · rw [getL_put_other _ _ _ (fun h => e h.symm), if_neg e]
          have HM6 := Lib.hid hM6
          have HIT6 := Lib.hid hit6
          have HO6 := Lib.hid hO6
          have HG6 := Lib.hid hG6
          have HB6 := Lib.hid (show Below w.heap.size w w6 from hb5.grown hg6 hb5.size (fun k e => by cases e; exact Nat.le_refl _))
          have HL6 := Lib.hid (show (putL m2 j mx).length ≤ m.length + (done ++ [(j, v)]).length from by have h1 := putL_length m2 j mx; have h2 := HML2.out; simp only [List.length_append, List.length_cons, List.length_nil] at h1 ⊢; omega)
          rw [hmx] at hst
          clear hit hit2 hM2 hbw2 hg2 hs2 htp hpm HP htl hM5 hb5 hlook hM6 hit6 hO6 hG6 hg6 hs6 hmlen hjw hmx hgv HIT HM4 HB4
          go_wp2_with fail
          go_roundg todo'.length
          case measure => omega
          case rel => exact ⟨done ++ [(j, v)], todo', putL m2 j mx, rfl, HP2, HIT6.out, HM6.out, HO6, HG6, HL6, HB6.out⟩
    · have hke : k = xs.length := by omega
      have HV := Lib.hid (H.out.below HBW.out)
      have HPM := Lib.hid (perm_of_g0 HO.out (laid_good (bs := xs.map (·.2)) (by intro c hc; obtain ⟨q, hq, rfl⟩ := List.mem_map.1 hc; exact (HXM.out q hq).2)).ok (fun j => by rw [HG.out, g0_laid, hke, List.take_length]; rfl))
      clear hke
      go_wp2_with fail
      refine (copied_any p mb M wr HV.out.blk HV.out.out).mono ?_
      rintro e w1 ⟨rfl, h1, h2, h3⟩
      obtain ⟨kl, hkl⟩ := keyU hline
      obtain ⟨w2, hst, hM2, hg2, hs2⟩ := h1.store lawU eU_inj Try.underlying58 (by have := HV.out.len; have := HLL.out; unfold maxLen; omega) w.heap.size hkl
      have c0 := cell_of_blk h2 0
      simp at c0
      have hlt2 := lt_of_blk h2
      have HE : Hid (LaidPost p mb M L line (laidB (xs.map (·.2))) w (.returned (.pointer (some ⟨wr.heap.size + 1, 0, none⟩))) w2) := Lib.hid ⟨_, _, _, rfl, VecIs.put H.out HL.out ((HBW.out.trans (h3.mono HBW.out.size)).grown hg2 (Nat.le_trans HBW.out.size h3.size) (fun k e => by injection e with e; have := HBW.out.size; omega))
        ((hg2.block _ hlt2 (fun e => by injection e with e; omega)).trans h2) hM2 ((HM.out.same (h3.block _ hsz)).same (hg2.block _ (by have := h3.size; omega) (fun e => by injection e with e; omega))) HPM.out, (HBW.out.trans (h3.mono HBW.out.size)).grown hg2 (Nat.le_trans HBW.out.size h3.size) (fun k e => by injection e with e; have := HBW.out.size; omega)⟩
      clear h1 h2 h3 hM2 hg2 hs2 hlt2 hkl HPM HV
      go_wp2
      go_ret
      exact HE.out
end Go.Proofs.Ytnnpheklgdbohaa
