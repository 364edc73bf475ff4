/- A BLOCK THAT CAME IN. Conditions: none. -/
import Derived.Test.YtdaigkcbmdcbcaaDoorRows
import Derived.Test.YtdaigkcbmdcbcaaDoorIdv
import Derived.Test.YtdaigkcbmdcbcaaDoorOpen
import Derived.Deep.Strs
namespace Go.Proofs.YtdaigkcbmdcbcaaDoor.Blk
open Go.ChangeShapes Go.WideShapes Go.ChangeAt Go.RowKit Go.Mir

theorem trod_blk {W : World} {H : Type} {enc : TypeId × Value → H} {base fuel : Nat} {held : Bool} {cs : List Value} {x : DataW H × List MemPlace} (h : DataW.trod enc Tryd.prog W base (fun _ => true) held fuel 26 cs = some x) :
    ∃ d q n c, cs = bytesV d.hash ++ bytesV d.par ++ [Value.slice q n c] ∧ BlkAt W (blkA d.hash d.par q n c) d q n c := by
  obtain ⟨y0, y1, y2, m, rfl, hl, h0, h1, h2⟩ := Deep.trod_struct3 Tryd.underlying26 h
  obtain ⟨zs0, e0, l0, w0⟩ := trod_nums Tryd.underlying23 Tryd.underlying5 (by kernel_rfl) (by kernel_rfl) h0
  obtain ⟨zs1, e1, l1, w1⟩ := trod_nums Tryd.underlying23 Tryd.underlying5 (by kernel_rfl) (by kernel_rfl) h1
  obtain ⟨a0, rfl⟩ := u8_of_list zs0 w0
  obtain ⟨a1, rfl⟩ := u8_of_list zs1 w1
  obtain ⟨q, n, c, ids, e2, hi, _⟩ := trod_is Tryd.underlying24 Tryd.underlying23 Tryd.underlying5 (by kernel_rfl) (by kernel_rfl) (by omega) h2
  have hc0 : Tryd.prog.cellsOf 23 = 32 := by kernel_rfl
  have hc1 : Tryd.prog.cellsOf 24 = 1 := by kernel_rfl
  have hc2 : Tryd.prog.cellsOf 26 = 65 := by kernel_rfl
  simp only [hc0, hc1] at e0 e1 e2
  rw [hc2] at hl
  refine ⟨⟨a0, a1, ids⟩, q, n, c, ?_, rfl, by simpa using l0, by simpa using l1, hi⟩
  have e0' : cs.take 32 = bytesV a0 := by rw [show bytesV a0 = (a0.map (fun b => (b.toNat : Int))).map (Value.int .u8) by simp [bytesV]]; rw [← e0]; simp
  have e1' : (cs.drop 32).take 32 = bytesV a1 := by rw [show bytesV a1 = (a1.map (fun b => (b.toNat : Int))).map (Value.int .u8) by simp [bytesV]]; exact e1
  have e2' : cs.drop 64 = [Value.slice q n c] := by rw [← e2]; rw [List.take_of_length_le (by rw [List.length_drop]; omega)]
  show cs = bytesV a0 ++ bytesV a1 ++ [Value.slice q n c]
  rw [← e0', ← e1', ← e2', List.append_assoc, show cs.drop 64 = (cs.drop 32).drop 32 by rw [List.drop_drop], List.take_append_drop, List.take_append_drop]
set_option maxRecDepth 100000 in
theorem open_blk {W : World} {H : Type} {enc : TypeId × Value → H} {base : Nat} {v : Value} {d : DataW H} {ps : List MemPlace} (hval : Value.okWide Tryd.prog W .any base 26 v) (h : DataW.Trod enc Tryd.prog W 0 (fun _ => true) true 26 v d ps) :
    ∃ M e q n c, v = .agg M ∧ BlkAt W M e q n c := by
  obtain ⟨cs, rfl, _⟩ := okWide_struct Tryd.underlying26 hval
  obtain ⟨fuel, hf⟩ := h
  obtain ⟨e, q, n, c, he, hb⟩ := trod_blk hf
  refine ⟨_, e, q, n, c, ?_, hb⟩
  congr 1
  apply Array.toList_inj.1
  rw [blkA_toList, ← he]; simp [Value.cells]
end Go.Proofs.YtdaigkcbmdcbcaaDoor.Blk
