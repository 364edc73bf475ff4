/- THE WALKS OF BLOCKS, on: hints. Conditions: as in the first part. -/
import Derived.Test.YtdaigkcbmdcbcaaDoorBlk
import Derived.Laws.Cover3
namespace Go.Proofs.YtdaigkcbmdcbcaaDoor.Blk
open Go.RowKit Go.Mir Go.Mir.Parts

def zeros16 : List UInt8 := List.replicate 16 0
theorem zeroH (w : World) : (zeroValue 40).run Tryd.prog w = .ok (.agg (idA zeros16)) w := by kernel_rfl
theorem eqH (w : World) (a b : List UInt8) (ha : a.length = 16) (hb : b.length = 16) : (Op.equalIn 10000 40 (.agg (idA a)) (.agg (idA b))).run Tryd.prog w = .ok (a == b) w :=
  run_equal_ids w 9998 Tryd.underlying40 Tryd.underlying5 (by kernel_rfl) (by kernel_rfl) (by kernel_rfl) a b ha hb
theorem infoH (n : Nat) (h : n = 16) : (Tryd.prog.info? 40).map (·.size) = some n := by subst h; kernel_rfl
theorem range_take16 {w : World} {b : Nat} {x : List UInt8} {t : TypeId} {fr : Nat × Nat} (h : w.heap[b]? = some (.cells (idA x) t fr)) : w.rangeAt b 0 (idA (x.take 16)).toList := fun j v hv => by
  have hj := (List.getElem?_eq_some_iff.1 hv).1
  rw [idA_toList, bytesV_length, List.length_take] at hj
  rw [idA_toList, bytesV_get _ _ (by rw [List.length_take]; omega)] at hv
  rw [cell_of_row _ _ _ _ _ _ h, ← Array.getElem?_toList, idA_toList, Nat.zero_add, bytesV_get _ _ (by omega), ← hv]
  simp

end Go.Proofs.YtdaigkcbmdcbcaaDoor.Blk
