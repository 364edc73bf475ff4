/- THE WALKS OF BLOCKS, on: the reference's hints; few, child, copy. Conditions: as in the first part. -/
import Derived.Test.YtdaigkcbmdcbcaaDoorBlk3
namespace Go.Proofs.YtdaigkcbmdcbcaaDoor.Blk
open Go.RowKit Go.Mir Go.Mir.Parts

/-- the first bytes, as far as they are filled -/
def partN (N : Nat) (b : List UInt8) (k : Nat) : List UInt8 := b.take k ++ List.replicate (N - k) 0
theorem partN_row {N : Nat} {M : Array Value} {b : List UInt8} {k : Nat} (hM : M.toList = bytesV (partN N b k)) (h : k < b.length) (hN : k < N) : (M.setIfInBounds k (.int .u8 (b[k].toNat : Int))).toList = bytesV (partN N b (k + 1)) := by
  have key : (partN N b k).set k b[k] = partN N b (k + 1) := by
    unfold partN
    have hl : (b.take k).length = k := by rw [List.length_take]; omega
    rw [List.set_append_right _ _ (by omega), hl, Nat.sub_self, show N - k = (N - (k + 1)) + 1 by omega, List.replicate_succ, List.set_cons_zero, take_snoc b k h, List.append_assoc]; rfl
  rw [Array.toList_setIfInBounds, hM, ← key]
  simp [bytesV, List.map_set]
theorem three_allocs (w : World) (o o2 o3 : Obj) : (((w.alloc o).alloc o2).alloc o3).heap[w.heap.size]? = some o ∧ (((w.alloc o).alloc o2).alloc o3).heap[w.heap.size + 1]? = some o2 ∧ (((w.alloc o).alloc o2).alloc o3).heap[w.heap.size + 2]? = some o3 ∧ Below w.heap.size w (((w.alloc o).alloc o2).alloc o3) := by
  have h := two_allocs w o o2
  refine ⟨block_old _ h.1, block_old _ h.2.1, ?_, h.2.2.2.alloc (by have := h.2.2.1; omega) _⟩
  have := heap_alloc_last ((w.alloc o).alloc o2) o3
  rwa [h.2.2.1] at this

theorem few_any (M : Array Value) (d : BlkD) (q : Option Addr) (n c : Nat) (w : World) (hM : BlkAt w M d q n c) :
    Calls Tryd.prog 8 #[.agg M] w fun e w' => e = .returned (.bool (decide (n ≤ 100))) ∧ Below w.heap.size w w' := by
  have hc64 := (hM.parts (heap_alloc_last w (.cells M 26))).2.2
  have HB := Lib.hid (Below.allocs w (.cells M 26))
  have hcap := hM.ids.sl.le
  have hmax := hM.ids.sl.max
  clear hM
  go_enter Tryd.func8, Tryd.ntmps8
  go_wp2
  go_ret
  refine ⟨bret ?_, HB.out⟩
  rw [Bool.eq_iff_iff, decide_eq_true_eq, decide_eq_true_eq]; omega

end Go.Proofs.YtdaigkcbmdcbcaaDoor.Blk
