/- THE WALKS OF BLOCKS, on: the reference's ids with a hint. Conditions: as in the first part. -/
import Derived.Test.YtdaigkcbmdcbcaaDoorBlk8
namespace Go.Proofs.YtdaigkcbmdcbcaaDoor.Blk
open Go.RowKit Go.Mir Go.Mir.Parts

theorem range_grown_row0 {w : World} {b : Nat} {A : Array Value} {t : TypeId} {fr : Nat × Nat} (h : w.heap[b]? = some (.cells A t fr)) : ∀ z : Grown w, z.v.rangeAt b 0 A.toList := fun z => range_grown_row h z
end Go.Proofs.YtdaigkcbmdcbcaaDoor.Blk
