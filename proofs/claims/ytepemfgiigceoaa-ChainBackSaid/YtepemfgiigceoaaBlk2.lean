/- THE WALKS OF BLOCKS, on: hints. Conditions: as in the first part. -/
import Derived.Test.YtepemfgiigceoaaBlk
import Derived.Laws.Cover3
namespace Go.Proofs.Ytepemfgiigceoaa.Blk
open Go.RowKit Go.Mir Go.Mir.Parts

def zeros16 : List UInt8 := List.replicate 16 0
theorem zeroH (w : World) : (zeroValue 52).run Try.prog w = .ok (.agg (idA zeros16)) w := by kernel_rfl
theorem eqH (w : World) (a b : List UInt8) (ha : a.length = 16) (hb : b.length = 16) : (Op.equalIn 10000 52 (.agg (idA a)) (.agg (idA b))).run Try.prog w = .ok (a == b) w :=
  run_equal_ids w 9998 Try.underlying52 Try.underlying5 (by kernel_rfl) (by kernel_rfl) (by kernel_rfl) a b ha hb
theorem infoH (n : Nat) (h : n = 16) : (Try.prog.info? 52).map (·.size) = some n := by subst h; kernel_rfl
theorem range_take16 {w : World} {b : Nat} {x : List UInt8} {t : TypeId} {fr : Nat × Nat} (h : w.heap[b]? = some (.cells (idA x) t fr)) : w.rangeAt b 0 (idA (x.take 16)).toList := fun j v hv => by
  have hj := (List.getElem?_eq_some_iff.1 hv).1
  rw [idA_toList, bytesV_length, List.length_take] at hj
  rw [idA_toList, bytesV_get _ _ (by rw [List.length_take]; omega)] at hv
  rw [cell_of_row _ _ _ _ _ _ h, ← Array.getElem?_toList, idA_toList, Nat.zero_add, bytesV_get _ _ (by omega), ← hv]
  simp

set_option maxRecDepth 100000 in
theorem hintOf_any (x : List UInt8) (w : World) (hx : x.length = 32) :
    Calls Try.prog 45 #[.agg (idA x)] w fun e w' => e = .returned (.agg (idA (x.take 16))) ∧ Below w.heap.size w w' := by
  have HX := Lib.hid hx
  have hz := zeroH
  have HL : Hid ((x.take 16).length = 16) := by show _ = _; rw [List.length_take, hx]; rfl
  clear hx
  go_enter Try.func45, Try.ntmps45
  have H2 := Lib.hid (two_allocs w (.cells (idA x) 30) (.cells (idA zeros16) 52))
  have HRG := Lib.hid (range_take16 H2.out.1)
  have hsl : ∀ w0, (Instr.sliceAt 30 (.pointer (some ⟨w.heap.size, 0, none⟩)) none (some (.int .i64 16)) none).run Try.prog w0 = .ok (.slice (some ⟨w.heap.size, 0, none⟩) 16 32) w0 := fun w0 => run_sliceAt_upto w0 30 5 32 1 Try.underlying30 (by kernel_rfl) _ _ _ 16 rfl (by omega) (by omega)
  have har : ∀ w0, (Instr.arrayAt 52 (.slice (some ⟨w.heap.size, 0, none⟩) 16 32)).run Try.prog w0 = .ok (.pointer (some ⟨w.heap.size, 0, none⟩)) w0 := fun w0 => run_arrayAt w0 _ _ 16 _ _ _ Try.underlying52 (by omega)
  go_wp2_with (first
    | refine wpList_load_mid rfl 52 _ rfl w.heap.size 0 rfl (idA (x.take 16)).toList _ HRG.out Try.underlying52 rfl (infoH _ (by rw [Array.length_toList, idA_size, HL.out])) ?_
    | refine wpList_store_row rfl 52 _ _ rfl (w.heap.size + 1) (idA (x.take 16)) rfl rfl 52 (idA zeros16) H2.out.2.1 (infoH _ (by rw [idA_size, HL.out])) (by rw [idA_size, idA_size, HL.out]; rfl) (idA_one _) ?_)
  have HS := Lib.hid (setRow_heap _ _ _ (idA (x.take 16)) _ _ H2.out.2.1)
  refine bodyPost_ret (results_cell_row rfl _ _ _ _ _ _ _ rfl HS.out Try.underlying52 rfl (infoH _ (by rw [idA_size, HL.out]))) rfl ?_
  exact ⟨rfl, below_setRow H2.out.2.2.2 (Nat.le_succ _) _⟩
end Go.Proofs.Ytepemfgiigceoaa.Blk
