/- THE WALKS OF BLOCKS, on: a copy. Conditions: as in the first part. -/
import Derived.Test.YtdaigkcbmdcbcaaDoorBlk7
namespace Go.Proofs.YtdaigkcbmdcbcaaDoor.Blk
open Go.RowKit Go.Mir Go.Mir.Parts

theorem blkA_set (h p : List UInt8) (hh : h.length = 32) (hp : p.length = 32) (q q' : Option Addr) (n n' c c' : Nat) : (blkA h p q n c).setIfInBounds 64 (.slice q' n' c') = blkA h p q' n' c' := by
  apply Array.toList_inj.1
  rw [Array.toList_setIfInBounds, blkA_toList, blkA_toList, List.set_append_right _ _ (by simp [bytesV_length, hh, hp])]
  simp [bytesV_length, hh, hp]
/-- what is left of a block copied -/
def CopyP (d : BlkD) (w : World) (e : Ending) (w' : World) : Prop := ∃ p c', e = .returned (.agg (blkA d.hash d.par p d.txs.length c')) ∧ w'.ownsRow w.heap.size 23 32 (.slice p d.txs.length c') d.txs.length (d.txs.flatMap bytesV) ∧ Below w.heap.size w w'
set_option maxRecDepth 100000 in
set_option maxHeartbeats 400000 in
theorem copy_any (M : Array Value) (d : BlkD) (q : Option Addr) (n c : Nat) (w : World) (hM : BlkAt w M d q n c) (hn : n ≤ 1099511627776) :
    Calls Tryd.prog 50 #[.agg M] w (CopyP d w) := by
  have HA : Hid (d.hash.length = 32 ∧ d.par.length = 32) := ⟨hM.hlen, hM.plen⟩
  have HARR := Lib.hid hM.arr
  have HMS := Lib.hid hM.size
  have hcap := hM.ids.sl.le
  have hmax := hM.ids.sl.max
  obtain rfl : d.txs.length = n := hM.ids.count
  have hzb : ∃ Z : Array Value, (∀ w0, (zeroValue 26).run Tryd.prog w0 = .ok (.agg Z) w0) ∧ Z.size = 65 := ⟨blkA zeros zeros none 0 0, fun w0 => by kernel_rfl, by kernel_rfl⟩
  obtain ⟨Z, hz, hZ⟩ := hzb
  have HZ := Lib.hid hZ
  have H2 := Lib.hid (two_allocs w (.cells M 26) (.cells Z 26))
  have HI := Lib.hid (hM.ids.below H2.out.2.2.2)
  have hc64 := (hM.parts H2.out.1).2.2
  have hf64 : ((w.alloc (.cells M 26)).alloc (.cells Z 26)).frozen? ⟨w.heap.size, 64, none⟩ = false := frozen_of_row _ _ _ _ _ H2.out.1
  have HN0 : Hid (((w.alloc (.cells M 26)).alloc (.cells Z 26)).ownsRow w.heap.size 23 32 (.slice none 0 0) 0 []) := World.ownsRow_nil _ _ _ _
  have HSZ : Hid (w.heap.size ≤ ((w.alloc (.cells M 26)).alloc (.cells Z 26)).heap.size) := H2.out.2.2.2.size
  have HONE : Hid (∀ u ∈ d.txs.flatMap bytesV, u.oneCell' = true) := fun u hu => by
    obtain ⟨x, _, hx⟩ := List.mem_flatMap.1 hu
    exact bytesV_one x u hx
  clear hM hZ
  go_enter Tryd.func50, Tryd.ntmps50
  go_wp2_with (at_builtin; refine wpList_append_nx rfl _ _ 24 rfl (base := w.heap.size) Tryd.underlying24 infoIds (by rw [show (Value.agg (idA zeros)).cells = idA zeros from rfl]; exact zeros_size) (by omega) rfl HN0.out rfl HI.out.sl HONE.out (by omega) HSZ.out ?_)
  intro p' c' w3 hown hg hnx hne
  have hr0 : w3.heap[w.heap.size]? = some (.cells M 26 (0, 0)) := by
    rw [hg.block _ (by have := H2.out.2.2.1; omega) (by simp [Value.ownBlock])]; exact H2.out.1
  have hr1 : w3.heap[w.heap.size + 1]? = some (.cells Z 26 (0, 0)) := by
    rw [hg.block _ (by have := H2.out.2.2.1; omega) (by simp [Value.ownBlock])]; exact H2.out.2.1
  have hb3 : Below w.heap.size w w3 := H2.out.2.2.2.grown hg HSZ.out (fun k hk => by simp [Value.ownBlock] at hk)
  have hc3 : w3.cell? ⟨w.heap.size, 64, none⟩ = some (.slice q d.txs.length c) := by
    rw [cell_of_row _ _ _ _ _ _ hr0, ← Array.getElem?_toList, HARR.out, blkA_toList, List.getElem?_append_right (by simp [bytesV_length, HA.out.1, HA.out.2])]
    simp [bytesV_length, HA.out.1, HA.out.2]
  have hf3 : w3.frozen? ⟨w.heap.size, 64, none⟩ = false := frozen_of_row _ _ _ _ _ hr0
  have HR4 : Hid ((w3.setCell ⟨w.heap.size, 64, none⟩ (.slice p' d.txs.length c')).heap[w.heap.size]? = some (.cells (blkA d.hash d.par p' d.txs.length c') 26 (0, 0))) := by
    show _ = _
    rw [heap_setCell_same _ _ _ _ _ _ hr0, HARR.out, blkA_set _ _ HA.out.1 HA.out.2]
  have ht := (Turns.refl (fun i => i = w.heap.size) w3).setCell (p := ⟨w.heap.size, 64, none⟩) (fun _ => rfl) (.slice p' d.txs.length c')
  have HR5 := Lib.hid (ht.keep hr1 (by omega))
  have HB4 := Lib.hid (hb3.setCell (p := ⟨w.heap.size, 64, none⟩) (Nat.le_refl _) (.slice p' d.txs.length c'))
  have hnb : ∀ k, (Value.slice p' d.txs.length c').ownBlock = some k → w.heap.size + 2 ≤ k := fun k hk => by
    rcases hnx k hk with h | h
    · simp [Value.ownBlock] at h
    · have := H2.out.2.2.1; omega
  have HNB := Lib.hid hnb
  have HO4 := Lib.hid (own_touch hown ht (fun k hk e => by have := hnb k hk; omega))
  have HBA : Hid ((blkA d.hash d.par p' d.txs.length c').size = 65) := by
    show _ = _
    rw [← Array.length_toList, blkA_toList]; simp [bytesV_length, HA.out.1, HA.out.2]
  have HBO : Hid ((blkA d.hash d.par p' d.txs.length c').all (·.oneCell') = true) := by
    have h := all_oneCell_toArray (cs := (blkA d.hash d.par p' d.txs.length c').toList) (fun v hv => by
      rw [blkA_toList] at hv
      simp only [List.mem_append, List.mem_singleton] at hv
      rcases hv with (hv | hv) | hv
      · exact bytesV_one _ v hv
      · exact bytesV_one _ v hv
      · rw [hv]; rfl)
    rwa [Array.toArray_toList] at h
  clear hown hg hnx hne hr0 hr1 hb3 ht hc64 hf64 hnb
  go_wp2_with (first
    | ((with_reducible refine wpAt 7 ?_); refine wpList_load_row rfl 26 _ rfl w.heap.size rfl 26 (blkA d.hash d.par p' d.txs.length c') (0, 0) _ HR4.out Tryd.underlying26 rfl (infoBlk _ HBA.out) ?_)
    | ((with_reducible refine wpStoreAt 2 ?_); refine wpList_store_row rfl 26 _ _ rfl (w.heap.size + 1) (blkA d.hash d.par p' d.txs.length c') rfl rfl 26 Z HR5.out (infoBlk _ HBA.out) (by rw [HZ.out, HBA.out]) HBO.out ?_))
  have HS := Lib.hid (setRow_heap _ _ _ (blkA d.hash d.par p' d.txs.length c') _ _ HR5.out)
  have HOF := Lib.hid (own_touch HO4.out (turns_setRow _ (w.heap.size + 1) (blkA d.hash d.par p' d.txs.length c')) (fun k hk e => by have := HNB.out k hk; omega))
  refine bodyPost_ret (results_cell_row rfl _ _ _ _ _ _ _ rfl HS.out Tryd.underlying26 rfl (infoBlk _ HBA.out)) rfl ?_
  exact ⟨p', c', rfl, HOF.out, below_setRow HB4.out (Nat.le_succ _) _⟩
end Go.Proofs.YtdaigkcbmdcbcaaDoor.Blk
