/- THE WALKS OF BLOCKS, on: the reference's hints; few, child, copy. Conditions: as in the first part. -/
import Derived.Test.YtepemfgiigceoaaBlk3
namespace Go.Proofs.Ytepemfgiigceoaa.Blk
open Go.RowKit Go.Mir Go.Mir.Parts

/-- the first bytes, as far as they are filled -/
def partN (N : Nat) (b : List UInt8) (k : Nat) : List UInt8 := b.take k ++ List.replicate (N - k) 0
theorem partN_row {N : Nat} {M : Array Value} {b : List UInt8} {k : Nat} (hM : M.toList = bytesV (partN N b k)) (h : k < b.length) (hN : k < N) : (M.setIfInBounds k (.int .u8 (b[k].toNat : Int))).toList = bytesV (partN N b (k + 1)) := by
  have key : (partN N b k).set k b[k] = partN N b (k + 1) := by
    unfold partN
    have hl : (b.take k).length = k := by rw [List.length_take]; omega
    rw [List.set_append_right _ _ (by omega), hl, Nat.sub_self, show N - k = (N - (k + 1)) + 1 by omega, List.replicate_succ, List.set_cons_zero, take_snoc b k h, List.append_assoc]; rfl
  rw [Array.toList_setIfInBounds, hM, ← key]
  simp [bytesV, List.map_set]
theorem three_allocs (w : World) (o o2 o3 : Obj) : (((w.alloc o).alloc o2).alloc o3).heap[w.heap.size]? = some o ∧ (((w.alloc o).alloc o2).alloc o3).heap[w.heap.size + 1]? = some o2 ∧ (((w.alloc o).alloc o2).alloc o3).heap[w.heap.size + 2]? = some o3 ∧ Below w.heap.size w (((w.alloc o).alloc o2).alloc o3) := by
  have h := two_allocs w o o2
  refine ⟨block_old _ h.1, block_old _ h.2.1, ?_, h.2.2.2.alloc (by have := h.2.2.1; omega) _⟩
  have := heap_alloc_last ((w.alloc o).alloc o2) o3
  rwa [h.2.2.1] at this

set_option maxRecDepth 100000 in
theorem rHint_any (x : List UInt8) (w : World) (hx : x.length = 32) :
    Calls Try.prog 46 #[.agg (idA x)] w fun e w' => e = .returned (.agg (idA (x.take 16))) ∧ Below w.heap.size w w' := by
  have HX := Lib.hid hx
  have hz := zeroH
  have HL : Hid ((x.take 16).length = 16) := by show _ = _; rw [List.length_take, hx]; rfl
  clear hx
  go_enter Try.func46, Try.ntmps46
  go_wp2_with fail
  have H3 := Lib.hid (three_allocs w (.cells (idA x) 30) (.cells (idA zeros16) 52) (.cells (idA zeros16) 52))
  generalize ((w.alloc (.cells (idA x) 30)).alloc (.cells (idA zeros16) 52)).alloc (.cells (idA zeros16) 52) = w3 at *
  go_loopw [4] (fun j wr => ∃ (k : Nat) (M : Array Value), k ≤ 16 ∧ j = .int .i64 k ∧ M.toList = bytesV (partN 16 x k) ∧ M.size = 16 ∧ wr.heap[w.heap.size]? = some (.cells (idA x) 30 (0, 0)) ∧ wr.heap[w.heap.size + 1]? = some (.cells (idA zeros16) 52 (0, 0)) ∧ wr.heap[w.heap.size + 2]? = some (.cells M 52 (0, 0)) ∧ Below w.heap.size w wr) (fun j _ => 16 - (intOf j).toNat)
  case atStart => exact ⟨0, idA zeros16, by omega, rfl, by rw [idA_toList]; rfl, rfl, H3.out.1, H3.out.2.1, H3.out.2.2.1, H3.out.2.2.2⟩
  case round =>
    obtain ⟨k, M, hk, rfl, hM, hMs, hr0, hr1, hr2, hbw⟩ := hrel
    have HM := Lib.hid hM
    have HMS := Lib.hid hMs
    have HR0 := Lib.hid hr0
    have HR1 := Lib.hid hr1
    have HR2 := Lib.hid hr2
    have HBW := Lib.hid hbw
    by_cases hlt : k < 16
    · have hkx : k < x.length := by rw [HX.out]; omega
      have hc : wr.cell? ⟨w.heap.size, k, none⟩ = some (.int .u8 ((x[k]'hkx).toNat : Int)) := by rw [cell_of_row _ _ _ _ _ _ hr0, ← Array.getElem?_toList, idA_toList, bytesV_get _ _ hkx]
      obtain ⟨u, hu⟩ : ∃ u, wr.cell? ⟨w.heap.size + 2, k, none⟩ = some u := ⟨_, (cell_of_row _ _ _ _ _ _ hr2).trans (Array.getElem?_eq_getElem (by omega))⟩
      have hf : wr.frozen? ⟨w.heap.size + 2, k, none⟩ = false := frozen_of_row _ _ _ _ _ hr2
      have hd : decide ((k : Int) < 16) = true := decide_eq_true (by omega)
      clear hM hMs hr0 hr1 hr2 hbw
      go_wp2_with fail
      go_roundw
      case rel =>
        have ht := (Turns.refl (fun i => i = w.heap.size + 2) wr).setCell (p := ⟨w.heap.size + 2, k, none⟩) (fun _ => rfl) (.int .u8 ((x[k]'hkx).toNat : Int))
        exact ⟨k + 1, _, by omega, by go_num, partN_row HM.out hkx hlt, by rw [Array.size_setIfInBounds]; exact HMS.out, ht.keep HR0.out (by omega), ht.keep HR1.out (by omega), heap_setCell_same _ _ _ _ _ _ HR2.out, HBW.out.setCell (Nat.le_add_right _ 2) _⟩
      case measure => simp [intOf]; omega
    · obtain rfl : k = 16 := by omega
      have HME : Hid (M = idA (x.take 16)) := by
        show _ = _
        rw [← Array.toArray_toList (xs := M), hM]
        unfold idA partN
        simp
      rw [HME.out] at hr2
      have HR3 := Lib.hid hr2
      clear hM hMs hr0 hr1 hr2 hbw
      go_wp2_with (first
        | refine wpList_load_row rfl 52 _ rfl (w.heap.size + 2) rfl 52 (idA (x.take 16)) (0, 0) _ HR3.out Try.underlying52 rfl (infoH _ (by rw [idA_size, HL.out])) ?_
        | refine wpList_store_row rfl 52 _ _ rfl (w.heap.size + 1) (idA (x.take 16)) rfl rfl 52 (idA zeros16) HR1.out (infoH _ (by rw [idA_size, HL.out])) (by rw [idA_size, idA_size, HL.out]; rfl) (idA_one _) ?_)
      have HS := Lib.hid (setRow_heap _ _ _ (idA (x.take 16)) _ _ HR1.out)
      refine bodyPost_ret (results_cell_row rfl _ _ _ _ _ _ _ rfl HS.out Try.underlying52 rfl (infoH _ (by rw [idA_size, HL.out]))) rfl ?_
      exact ⟨rfl, below_setRow HBW.out (Nat.le_succ _) _⟩

theorem few_any (M : Array Value) (d : BlkD) (q : Option Addr) (n c : Nat) (w : World) (hM : BlkAt w M d q n c) :
    Calls Try.prog 19 #[.agg M] w fun e w' => e = .returned (.bool (decide (n ≤ 100))) ∧ Below w.heap.size w w' := by
  have hc64 := (hM.parts (heap_alloc_last w (.cells M 33))).2.2
  have HB := Lib.hid (Below.allocs w (.cells M 33))
  have hcap := hM.ids.sl.le
  have hmax := hM.ids.sl.max
  clear hM
  go_enter Try.func19, Try.ntmps19
  go_wp2
  go_ret
  refine ⟨bret ?_, HB.out⟩
  rw [Bool.eq_iff_iff, decide_eq_true_eq, decide_eq_true_eq]; omega

theorem child_any (M M2 : Array Value) (d d2 : BlkD) (q q2 : Option Addr) (n c n2 c2 : Nat) (w : World) (hM : BlkAt w M d q n c) (hM2 : BlkAt w M2 d2 q2 n2 c2) :
    Calls Try.prog 26 #[.agg M, .agg M2] w fun e w' => e = .returned (.bool (d2.par == d.hash)) ∧ Below w.heap.size w w' := by
  have H2 := Lib.hid (two_allocs w (.cells M 33) (.cells M2 33))
  have HP := Lib.hid (hM.parts H2.out.1)
  have HP2 := Lib.hid (hM2.parts H2.out.2.1)
  have HA : Hid (d.hash.length = 32 ∧ d2.par.length = 32) := ⟨hM.hlen, hM2.plen⟩
  have hq : ∀ w, (Op.equalIn 10000 30 (.agg (idA d2.par)) (.agg (idA d.hash))).run Try.prog w = .ok (d2.par == d.hash) w := fun w => eqI w _ _ HA.out.2 HA.out.1
  clear hM hM2
  go_enter Try.func26, Try.ntmps26
  go_wp2_with (first
    | refine wpList_load_mid rfl 30 _ rfl (w.heap.size + 1) 32 rfl (idA d2.par).toList _ HP2.out.2.1 Try.underlying30 rfl (infoI _ (by rw [Array.length_toList, idA_size, HA.out.2])) ?_
    | refine wpList_load_mid rfl 30 _ rfl w.heap.size 0 rfl (idA d.hash).toList _ HP.out.1 Try.underlying30 rfl (infoI _ (by rw [Array.length_toList, idA_size, HA.out.1])) ?_)
  go_ret
  exact ⟨rfl, H2.out.2.2.2⟩
end Go.Proofs.Ytepemfgiigceoaa.Blk
