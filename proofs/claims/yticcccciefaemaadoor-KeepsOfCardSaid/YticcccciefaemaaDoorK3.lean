/- The function value that views.seen makes: it hands out the facts that are seen. Condition: fewer than 1000000 facts. -/
import Derived.Test.YticcccciefaemaaDoorK2
namespace Go.Proofs.YticcccciefaemaaDoor
open Go.RowKit Go.Shelf Go.Herb
attribute [local go_sem] Oper.semAt_some

/-- A fact. -/
structure Fc where
  key : ByteArray
  valid : Int
  seq : Int
  line : Int
  kind : Int
  val : ByteArray
  wk : key.size ≤ maxLen
  wv : (Lit.int .u32 valid).wf = true
  ws : (Lit.int .u64 seq).wf = true
  wl : (Lit.int .u64 line).wf = true
  wd : (Lit.int .u8 kind).wf = true
deriving DecidableEq

def fc (x : Fc) : List Value := [.string x.key, .int .u32 x.valid, .int .u64 x.seq, .int .u64 x.line, .int .u8 x.kind, .string x.val]
abbrev fv (x : Fc) : Value := .agg #[.string x.key, .int .u32 x.valid, .int .u64 x.seq, .int .u64 x.line, .int .u8 x.kind, .string x.val]
abbrev Facts (w : World) (a : Option Addr) (xs : List Fc) : Prop := Els fc 6 w a xs
theorem fc_len (x : Fc) : (fc x).length = 6 := rfl

/-- Is a fact seen? -/
def seenB (m : List (Int × Int)) (at_ : Int) (x : Fc) : Bool :=
  match getL m x.line with
  | some u => decide (x.seq ≤ u) && decide (x.seq ≤ at_)
  | none => false

theorem filter_succ (p : Fc → Bool) (xs : List Fc) (k : Nat) (h : k < xs.length) : (xs.take (k + 1)).filter p = (xs.take k).filter p ++ if p xs[k] then [xs[k]] else [] := by
  rw [List.take_succ_eq_append_getElem h, List.filter_append]
  congr 1
  cases hp : p xs[k] <;> simp [hp]

theorem filter_take_prefix (p : Fc → Bool) (xs : List Fc) (k : Nat) : (xs.take k).filter p <+: xs.filter p := (List.take_prefix k xs).filter p

theorem zero25 (w : World) : (zeroValue 35).run Tryd.prog w = .ok (.int .u64 0) w := by kernel_rfl

end Go.Proofs.YticcccciefaemaaDoor
