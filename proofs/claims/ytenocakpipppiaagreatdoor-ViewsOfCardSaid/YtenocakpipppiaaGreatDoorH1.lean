/- A map of counts under an entry's time and place, and 'm[k]++' where the key is not there yet. No condition. -/
import Derived.Test.YtenocakpipppiaaGreatDoorK8
import Derived.WideKeyEntry
namespace Go.Herb
open Go.ChangeMaps Go.MapKept
open Go.WideElems (Fit rd rg pl rd_key rd_val rg_of other_key rd_mk findIdx_arr findIdx_born modify_last)
open Go.Maps (Keyed)
section
variable {α β : Type} [DecidableEq α] {P : Program} {k : TypeId} {encK : α → Value} {encV : β → Value} {w w' : World} {b : Nat} {m : List (α × β)}

/-- 'm[k] op= v' where the key is not there: the entry is made with the zero, then set. -/
theorem MapIs.fresh (h : MapIs P k encK encV w b m) (K : Keyed P k) (hinj : ∀ a a', encK a = encK a' → a = a') {t e : TypeId} (ht : P.underlying t = some (.map k e)) (z : β) (hz : ∀ u : World, (zeroValue e).run P u = .ok (encV z) u) (hroom : m.length < maxLen) {a : α} {kl : Lit} (hkey : keyOf P k (encK a) = some kl) (hno : getL m a = none) :
    ∃ (st : Nat) (W1 : World), (Instr.mapEntry t (.map (some b)) (encK a)).run P w = .ok (.tuple #[encV z, goInt st]) W1 ∧ MapIs P k encK encV W1 b (putL m a z) ∧ w.grownBy W1 (some b) ∧ W1.heap.size = w.heap.size ∧
      ∀ v : β, ∃ W2, (Instr.entryStore t (.map (some b)) (goInt st) (encV v)).run P W1 = .ok () W2 ∧ MapIs P k encK encV W2 b (putL m a v) ∧ w.grownBy W2 (some b) ∧ W2.heap.size = w.heap.size := by
  have hh := h
  obtain ⟨es, clock, hb, F, he⟩ := h.blk
  obtain ⟨s1, s2, _⟩ := F.stamped
  rcases K.find w hkey es.toList F.keys with ⟨h1, h2⟩ | ⟨j, e0, h1, h2, h3⟩
  · have hup : ∀ v : β, (Instr.mapUpdate t (.map (some b)) (encK a) (encV v)).run P w = .ok () (setBlock w b (.map (es.push ⟨encK a, encV v, clock⟩) (clock + 1))) := fun v => by
      simp [Instr.mapUpdate, run_underlying ht, MapKept.run_getObj_map hb, K.check w false hkey, h1, MapKept.run_setObj_map _ hb, Result.andThen, setBlock]
    have hres : ∀ v : β, MapIs P k encK encV (setBlock w b (.map (es.push ⟨encK a, encV v, clock⟩) (clock + 1))) b (putL m a v) ∧ w.grownBy (setBlock w b (.map (es.push ⟨encK a, encV v, clock⟩) (clock + 1))) (some b) ∧ (setBlock w b (.map (es.push ⟨encK a, encV v, clock⟩) (clock + 1))).heap.size = w.heap.size := fun v => by
      obtain ⟨w1, hr, hM, hg, hs⟩ := hh.store K hinj ht hroom v hkey
      rw [hup v] at hr
      injection hr with _ hr
      subst hr
      exact ⟨hM, hg, hs⟩
    have hst : ∀ (W1 : World) (v : β), W1.heap[b]? = some (.map (es.push ⟨encK a, encV z, clock⟩) (clock + 1)) → (Instr.entryStore t (.map (some b)) (goInt clock) (encV v)).run P W1 = .ok () (setBlock W1 b (.map (es.push ⟨encK a, encV v, clock⟩) (clock + 1))) := fun W1 v hw3 => by
      have hidx : (es.push ⟨encK a, encV z, clock⟩).findIdx? (fun e => ((e.born : Nat) : Int) == ((clock : Nat) : Int)) = some es.size := by
        rw [findIdx_arr]
        have := findIdx_born (l := (es.push ⟨encK a, encV z, clock⟩).toList) (j := es.size) (e0 := ⟨encK a, encV z, clock⟩) (by
          simp only [Array.toList_push, List.map_append, List.map_cons, List.map_nil]
          refine List.nodup_append.2 ⟨s2, by simp, fun a ha c hc e1 => ?_⟩
          simp only [List.mem_singleton] at hc
          obtain ⟨x, hx, rfl⟩ := List.mem_map.1 ha
          have := s1 x hx
          omega) (by simp)
        exact this
      have hmod : (es.push ⟨encK a, encV z, clock⟩).modify es.size (fun e => { e with val := encV v }) = es.push ⟨encK a, encV v, clock⟩ := by
        apply Array.ext'
        rw [Array.toList_modify, Array.toList_push, Array.toList_push, ← Array.length_toList, modify_last]
      simp [Instr.entryStore, MapKept.run_getObj_map hw3, asInt, asIntOf, goInt, hidx, hmod, MapKept.run_setObj_map _ hw3, Result.andThen, setBlock]
    have hw2 := heap_setBlock_same hb (.map (es.push ⟨encK a, encV z, clock⟩) (clock + 1))
    refine ⟨clock, _, ?_, (hres z).1, (hres z).2.1, (hres z).2.2, fun v => ⟨setBlock (setBlock w b (.map (es.push ⟨encK a, encV z, clock⟩) (clock + 1))) b (.map (es.push ⟨encK a, encV v, clock⟩) (clock + 1)), ?_, ?_, ?_, ?_⟩⟩
    · simp [Instr.mapEntry, run_underlying ht, MapKept.run_getObj_map hb, K.check w false hkey, h1, hz, MapKept.run_setObj_map _ hb, Result.andThen, setBlock]
    · exact hst _ v hw2
    · exact (hres v).1.same ((heap_setBlock_same hw2 _).trans (heap_setBlock_same hb _).symm)
    · exact ⟨rfl, rfl, rfl, by simp [setBlock], fun i _ hi => (heap_setBlock_other hw2 _ (fun e => hi (by rw [e]))).trans (heap_setBlock_other hb _ (fun e => hi (by rw [e])))⟩
    · simp [setBlock]
  · exfalso
    obtain ⟨p, hp, e1, e2⟩ := hh.entry hb (List.mem_of_getElem? h2)
    have hpa : p.1 = a := hinj _ _ (e1.symm.trans h3)
    exact (getL_none.1 hno) (by rw [← hpa]; exact List.mem_map.2 ⟨p, hp, rfl⟩)
end
end Go.Herb

namespace Go.Proofs.YtenocakpipppiaaGreatDoor
open Go.RowKit Go.Shelf Go.Herb

/-- A time, and a place. -/
abbrev Tq := Int × Int
abbrev eE (s : Tq) : Value := .agg #[.int .u32 s.1, .int .u64 s.2, .int .u8 0, .string ⟨#[]⟩]
theorem eE_inj : ∀ a a' : Tq, eE a = eE a' → a = a' := fun a a' h => by
  injection h with h
  injection h with h
  injection h with h1 h2
  injection h1 with _ h1
  injection h2 with h2 _
  injection h2 with _ h2
  exact Prod.ext h1 h2
theorem row43 : (71 : TypeId) < Tryz.prog.types.size := of_decide_eq_true (by kernel_rfl)
theorem wide43 : (match Tryz.prog.underlying 71 with | some (.array _ _) | some (.struct _) => true | _ => false) = true := by kernel_rfl
set_option maxRecDepth 100000 in
theorem law43 : Maps.Keyed Tryz.prog 71 := Maps.Keyed.of_law (deep_law_laid laidOut (m := 3) (by omega) row43 (by kernel_rfl) wide43)
theorem cells43 : Tryz.prog.cellsOf 71 = 4 := by kernel_rfl
theorem cells24 : Tryz.prog.cellsOf 24 = 1 := by kernel_rfl
theorem cells32 : Tryz.prog.cellsOf 48 = 1 := by kernel_rfl
theorem kt43 : Tryz.prog.keyType 71 = true := by kernel_rfl
theorem zeroI (w : World) : (zeroValue 3).run Tryz.prog w = .ok (.int .i64 0) w := by kernel_rfl

theorem key43 (v s : Int) (hv : (Lit.int .u32 v).wf = true) (hs : (Lit.int .u64 s).wf = true) : ∃ kl, keyOf Tryz.prog 71 (eE (v, s)) = some kl := by
  obtain ⟨n, hn⟩ : ∃ n, Tryz.prog.types.size = n + 1 := ⟨Tryz.prog.types.size - 1, by have h : (71 : Nat) < Tryz.prog.types.size := row43; omega⟩
  have hu : (Lit.int .u8 0).wf = true := by decide
  have he : (⟨#[]⟩ : ByteArray).size ≤ maxLen := by decide
  have hlits : ∃ ls, Tryz.prog.keyLits (Tryz.prog.types.size + 1) 71 [.int .u32 v, .int .u64 s, .int .u8 0, .string ⟨#[]⟩] = some ls := by
    rw [hn]
    simp [Program.keyLits, Tryz.underlying71, Tryz.underlying9, Tryz.underlying27, Tryz.underlying24, Tryz.underlying48, cells43, cells9, cells36, cells24, cells32, hv, hs, hu, he]
  obtain ⟨ls, hls⟩ := hlits
  refine ⟨.string (keyBytes ls), ?_⟩
  have hf : (eE (v, s)).formed Tryz.prog 71 = true := by
    simp [Value.formed, Tryz.underlying71, cells43]
  unfold keyOf
  rw [Tryz.underlying71]
  simp only [kt43, hf, Bool.and_self, if_true]
  have : (eE (v, s)).cells.toList = [.int .u32 v, .int .u64 s, .int .u8 0, .string ⟨#[]⟩] := rfl
  rw [this, hls]
  rfl

abbrev eI (n : Int) : Value := .int .i64 n
abbrev MapE (w : World) (b : Nat) (m : List (Tq × Int)) : Prop := MapIs Tryz.prog 71 eE eI w b m
theorem mapE_ownFrom {β : Type} (B b : Nat) (hb : b < B) (f : β → List (Tq × Int)) : OwnFrom B (fun (s : β) W => MapE W b (f s)) := fun s X Y row hs hg hr =>
  hs.same (hg.block b hs.lt (fun e => by have := (hr b e.symm).1; omega))
end Go.Proofs.YtenocakpipppiaaGreatDoor
