/- THE WALKS OF THE REFERENCE's WRITER (a plain value). Conditions: sizes that fit. -/
import Derived.Test.YtjbjlmdfgpoadaaDoorWriter3
namespace Go.Proofs.YtjbjlmdfgpoadaaDoor.RW
open Go.RowKit Go.Mir Go.Mir.Parts Wr

/-- the reference's writer, as a value -/
abbrev rv (room : Int) (p : Option Addr) (n c : Nat) (bad : Int) : Value := .agg #[.int .i64 room, .slice p n c, .int .i64 bad]

/-- what is held behind the reference's Bytes -/
def bytesR (room : Nat) (l : List UInt8) (bad : Int) (b : List UInt8) : List UInt8 × Int :=
  if bad = 0 then (if l.length + b.length ≤ room then (l ++ b, 0) else (l, 3)) else (l, bad)

/-- a reference's writer as a call leaves it -/
def RLeft (room : Nat) (p : Option Addr) (r : List UInt8 × Int) (e : Ending) (w w' : World) : Prop :=
  ∃ p' n' c', e = .returned (rv (room : Int) p' n' c' r.2) ∧ Bs w' p' n' c' r.1 ∧ (∀ a, p' = some a → (p = some a ∨ w.heap.size ≤ a.block) ∧ a.block < w'.heap.size)

end Go.Proofs.YtjbjlmdfgpoadaaDoor.RW
