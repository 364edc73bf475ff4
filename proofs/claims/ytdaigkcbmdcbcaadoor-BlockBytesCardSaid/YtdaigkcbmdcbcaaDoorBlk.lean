/- THE WALKS OF BLOCKS: which ids stand in one, hints, whether two are the same; the program's and the reference's. Conditions: at most 2^40 ids. -/
import Derived.Test.YtdaigkcbmdcbcaaDoorIdv
import Derived.Test.YtdaigkcbmdcbcaaDoorProg
import Derived.Laws.Tables
namespace Go.Proofs.YtdaigkcbmdcbcaaDoor.Blk
open Go.RowKit Go.Mir Go.Mir.Parts

def zeros : List UInt8 := List.replicate 32 0
theorem zeroI (w : World) : (zeroValue 23).run Tryd.prog w = .ok (.agg (idA zeros)) w := by kernel_rfl
theorem zeros_size : (idA zeros).size = 32 := by decide
theorem eqI (w : World) (a b : List UInt8) (ha : a.length = 32) (hb : b.length = 32) : (Op.equalIn 10000 23 (.agg (idA a)) (.agg (idA b))).run Tryd.prog w = .ok (a == b) w :=
  run_equal_ids w 9998 Tryd.underlying23 Tryd.underlying5 (by kernel_rfl) (by kernel_rfl) (by kernel_rfl) a b ha hb
theorem infoI (n : Nat) (h : n = 32) : (Tryd.prog.info? 23).map (·.size) = some n := by subst h; kernel_rfl
theorem infoBlk (n : Nat) (h : n = 65) : (Tryd.prog.info? 26).map (·.size) = some n := by subst h; kernel_rfl

theorem bret {a b : Bool} (h : a = b) : Ending.returned (.bool a) = .returned (.bool b) := by rw [h]
/-! ### does an id stand in it? -/
set_option maxRecDepth 100000 in
theorem has_any (M : Array Value) (d : BlkD) (q : Option Addr) (n c : Nat) (x : List UInt8) (w : World) (hM : BlkAt w M d q n c) (hx : x.length = 32) (hn : n ≤ 1099511627776) :
    Calls Tryd.prog 28 #[.agg M, .agg (idA x)] w fun e w' => e = .returned (.bool (d.txs.contains x)) ∧ Below w.heap.size w w' := by
  have HM := Lib.hid hM
  have HX := Lib.hid hx
  have hz := zeroI
  have hcnt : d.txs.length = n := hM.ids.count
  have hcap := hM.ids.sl.le
  have hmax := hM.ids.sl.max
  have HC := Lib.hid hcnt
  clear hM hx hcnt
  go_enter Tryd.func28, Tryd.ntmps28
  have H2 := Lib.hid (two_allocs w (.cells M 26) (.cells (idA x) 23))
  have hc64 := (HM.out.parts H2.out.1).2.2
  go_wp2_with fail
  have HR := Lib.hid H2.out.2.1
  have HB := Lib.hid H2.out.2.2.2
  generalize (w.alloc (.cells M 26)).alloc (.cells (idA x) 23) = w2 at *
  clear hc64
  go_loopw [10] (fun j wr => ∃ k : Nat, k ≤ n ∧ j = .int .i64 k ∧ x ∉ d.txs.take k ∧ wr.heap[w.heap.size + 1]? = some (.cells (idA x) 23 (0, 0)) ∧ Below w.heap.size w wr) (fun j _ => n - (intOf j).toNat)
  case atStart => exact ⟨0, by omega, rfl, by simp, HR.out, HB.out⟩
  case round =>
    obtain ⟨k, hk, rfl, hnot, hrow, hbw⟩ := hrel
    have HNOT := Lib.hid hnot
    have HROW := Lib.hid hrow
    have HBW := Lib.hid hbw
    clear hnot hrow hbw
    by_cases hlt : k < n
    · obtain ⟨b, o, rfl⟩ := HM.out.ids.sl.addr (by omega) (by omega)
      have hlk : k < d.txs.length := by rw [HC.out]; exact hlt
      have HRG := Lib.hid ((HM.out.ids.below HBW.out).range (by omega) k hlk)
      have HLK : Hid ((d.txs[k]'hlk).length = 32) := HM.out.ids.each _ (List.getElem_mem _)
      have HTK := Lib.hid (take_snoc d.txs k hlk)
      have HME : Hid (d.txs[k]'hlk ∈ d.txs) := List.getElem_mem _
      generalize d.txs[k]'hlk = y at *
      have HYS : Hid ((idA y).size = 32) := by show _ = _; rw [idA_size, HLK.out]
      have HYL : Hid ((idA y).toList.length = 32) := by show _ = _; rw [Array.length_toList, HYS.out]
      have HNW := Lib.hid (box_new wr (idA zeros) 23)
      have HBR := Lib.hid (box_row wr (idA zeros) (idA y) 23)
      have HBB := Lib.hid (box_below wr (idA zeros) (idA y) 23)
      have HR3 := Lib.hid (Below.keepOld HBB.out HROW.out)
      have HB3 := Lib.hid (HBW.out.trans (HBB.out.mono HBW.out.size))
      have hd : decide ((k : Int) < (n : Int)) = true := decide_eq_true (by omega)
      have hq : ∀ w, (Op.equalIn 10000 23 (.agg (idA y)) (.agg (idA x))).run Tryd.prog w = .ok (y == x) w := fun w => eqI w y x HLK.out HX.out
      by_cases hyx : y = x
      · have HRES : Hid (d.txs.contains x = true) := by show _ = _; rw [List.contains_iff_mem, ← hyx]; exact HME.out
        have hb : (y == x) = true := by rw [beq_iff_eq]; exact hyx
        have HSW := Lib.hid hq
        clear hyx
        go_wp2_with (first
          | refine wpList_load_mid rfl 23 _ rfl b (o + k * 32) rfl (idA y).toList _ HRG.out Tryd.underlying23 rfl (infoI _ HYL.out) ?_
          | refine wpList_store_row rfl 23 _ _ rfl wr.heap.size (idA y) rfl rfl 23 (idA zeros) HNW.out (infoI _ HYS.out) (zeros_size.trans HYS.out.symm) (idA_one y) ?_
          | refine wpList_load_row rfl 23 _ rfl wr.heap.size rfl 23 (idA y) (0, 0) _ HBR.out Tryd.underlying23 rfl (infoI _ HYS.out) ?_
          | refine wpList_load_row rfl 23 _ rfl (w.heap.size + 1) rfl 23 (idA x) (0, 0) _ HR3.out Tryd.underlying23 rfl (infoI _ (by rw [idA_size, HX.out])) ?_)
        go_ret
        exact ⟨bret HRES.out.symm, HB3.out⟩
      · have hb : (y == x) = false := by rw [beq_eq_false_iff_ne]; exact hyx
        have HYX := Lib.hid hyx
        clear hyx
        go_wp2_with (first
          | refine wpList_load_mid rfl 23 _ rfl b (o + k * 32) rfl (idA y).toList _ HRG.out Tryd.underlying23 rfl (infoI _ HYL.out) ?_
          | refine wpList_store_row rfl 23 _ _ rfl wr.heap.size (idA y) rfl rfl 23 (idA zeros) HNW.out (infoI _ HYS.out) (zeros_size.trans HYS.out.symm) (idA_one y) ?_
          | refine wpList_load_row rfl 23 _ rfl wr.heap.size rfl 23 (idA y) (0, 0) _ HBR.out Tryd.underlying23 rfl (infoI _ HYS.out) ?_
          | refine wpList_load_row rfl 23 _ rfl (w.heap.size + 1) rfl 23 (idA x) (0, 0) _ HR3.out Tryd.underlying23 rfl (infoI _ (by rw [idA_size, HX.out])) ?_)
        go_roundw
        case rel =>
          refine ⟨k + 1, by omega, by go_num, ?_, HR3.out, HB3.out⟩
          rw [HTK.out, List.mem_append, List.mem_singleton]
          rintro (h | h)
          · exact HNOT.out h
          · exact HYX.out h.symm
        case measure => simp [intOf]; omega
    · have HRES : Hid (d.txs.contains x = false) := by
        show _ = _
        have h1 := HNOT.out
        rw [List.take_of_length_le (by rw [HC.out]; omega)] at h1
        cases hc : d.txs.contains x with
        | false => rfl
        | true => exact absurd (List.contains_iff_mem.1 hc) h1
      have hd : decide ((k : Int) < (n : Int)) = false := decide_eq_false (by omega)
      go_wp2_with fail
      go_ret
      exact ⟨bret HRES.out.symm, HBW.out⟩

/-! ### the reference's -/
end Go.Proofs.YtdaigkcbmdcbcaaDoor.Blk
