/- PARTS, JOINED: CALLS OF A STATEMENT ON CHAINS, that came in. Conditions: none. BLOCKS OF A STATEMENT ON CHAINS, that came in. Conditions: none. -/
import Derived.Test.YtepemfgiigceoaaChP1
import Derived.Test.YtepemfgiigceoaaChP2
import Derived.Test.YtepemfgiigceoaaChP3
import Derived.Test.YtepemfgiigceoaaChP4
import Derived.Test.YtepemfgiigceoaaChP5
import Derived.Test.YtepemfgiigceoaaChP6
import Derived.Test.YtepemfgiigceoaaChP7
import Derived.Test.YtepemfgiigceoaaRows
namespace Go.Proofs.Ytepemfgiigceoaa.Chn
open Go.ChangeShapes Go.WideShapes Go.ChangeAt Go.RowKit Go.Mir Go.Proofs.Ytepemfgiigceoaa.Blk

theorem trod_cop {W : World} {H : Type} {enc : TypeId × Value → H} {base fuel : Nat} {held : Bool} {cs : List Value} {x : DataW H × List MemPlace} (h : DataW.trod enc Try.prog W base (fun _ => true) held fuel 35 cs = some x) :
    ∃ o : COp, COpAt W cs o := by
  obtain ⟨y0, y1, y2, m, rfl, hl, h0, h1, h2⟩ := Deep.trod_struct3 Try.underlying35 h
  obtain ⟨z0, e0, _, w0⟩ := DataW.trod_int Try.underlying3 h0
  obtain ⟨b1, e1, _⟩ := DataW.trod_bool Try.underlying4 h1
  obtain ⟨d, q, n, c, e2, hb⟩ := trod_blk h2
  have hc0 : Try.prog.cellsOf 3 = 1 := by kernel_rfl
  have hc1 : Try.prog.cellsOf 4 = 1 := by kernel_rfl
  have hc2 : Try.prog.cellsOf 35 = 67 := by kernel_rfl
  have hc3 : Try.prog.cellsOf 33 = 65 := by kernel_rfl
  simp only [hc0, hc1, hc3] at e0 e1 e2
  rw [hc2] at hl
  obtain rfl := hb.ids.count
  refine ⟨⟨z0, b1, d⟩, ⟨q, c, ?_, hb⟩, i64_bd w0⟩
  rw [opA_toList, blkA_toList]
  have e2' : cs.drop 2 = bytesV d.hash ++ bytesV d.par ++ [Value.slice q d.txs.length c] := by rw [← e2]; rw [List.take_of_length_le (by rw [List.length_drop]; omega)]
  have e0' : cs.take 1 = [.int .i64 z0] := by simpa using e0
  have e1' : (cs.drop 1).take 1 = [.bool b1] := e1
  rw [← e2', show ([Value.int .i64 z0, Value.bool b1] : List Value) = cs.take 1 ++ (cs.drop 1).take 1 by rw [e0', e1']; rfl, List.append_assoc, show cs.drop 2 = (cs.drop 1).drop 1 by rw [List.drop_drop], List.take_append_drop, List.take_append_drop]
/-- a slice of them -/
theorem open_cops {W : World} {H : Type} {enc : TypeId × Value → H} {base : Nat} {v : Value} {d : DataW H} {ps : List MemPlace} (hval : Value.okWide Try.prog W .any base 22 v) (h : DataW.Trod enc Try.prog W 0 (fun _ => true) true 22 v d ps) :
    ∃ p c os rows, v = .slice p os.length c ∧ COps W p os.length c os rows := by
  obtain ⟨a, n, c, rfl⟩ := okWide_slice Try.underlying22 hval
  obtain ⟨fuel, hf⟩ := h
  obtain ⟨p, n', c', L, hcs, hr, hdl, hL⟩ := trod_rows (size := 67) (R := fun (o : COp) cs' _ => COpAt W cs' o) Try.underlying22 (by kernel_rfl) (by omega) (fun m cs' y hy => trod_cop hy) hf
  simp [Value.cells] at hcs
  obtain ⟨rfl, rfl, rfl⟩ := hcs
  have hc : (L.map (·.2)).length = n := by
    have := hr.count
    simpa using this
  refine ⟨a, c, L.map (·.2), L.map (·.1), by rw [hc], by rw [hc]; exact hr, rfl, fun i r o h1 h2 => ?_⟩
  simp only [List.getElem?_map, Option.map_eq_some_iff] at h1 h2
  obtain ⟨x1, hx1, rfl⟩ := h1
  obtain ⟨x2, hx2, rfl⟩ := h2
  rw [hx1] at hx2
  cases hx2
  have hlt := (List.getElem?_eq_some_iff.1 hx1).1
  rcases hL with ⟨_, hL⟩ | ⟨elems, spare, hd, hlen, hall⟩
  · subst hL; simp at hlt
  · have := hall i (by omega) hlt
    rw [List.getElem?_eq_getElem hlt] at hx1
    cases hx1
    exact this
end Go.Proofs.Ytepemfgiigceoaa.Chn

namespace Go.Proofs.Ytepemfgiigceoaa.Chn
open Go.ChangeShapes Go.WideShapes Go.ChangeAt Go.RowKit Go.Mir Go.Proofs.Ytepemfgiigceoaa.Blk

theorem open_blks {W : World} {H : Type} {enc : TypeId × Value → H} {base : Nat} {v : Value} {d : DataW H} {ps : List MemPlace} (hval : Value.okWide Try.prog W .any base 37 v) (h : DataW.Trod enc Try.prog W 0 (fun _ => true) true 37 v d ps) :
    ∃ p c ds rows, v = .slice p ds.length c ∧ Bks W p ds.length c ds rows := by
  obtain ⟨a, n, c, rfl⟩ := okWide_slice Try.underlying37 hval
  obtain ⟨fuel, hf⟩ := h
  obtain ⟨p, n', c', L, hcs, hr, hdl, hL⟩ := trod_rows (size := 65) (R := fun (d : BlkD) cs' _ => ∃ q n c, cs' = bytesV d.hash ++ bytesV d.par ++ [Value.slice q n c] ∧ BlkAt W (blkA d.hash d.par q n c) d q n c) Try.underlying37 (by kernel_rfl) (by omega) (fun m cs' y hy => trod_blk hy) hf
  simp [Value.cells] at hcs
  obtain ⟨rfl, rfl, rfl⟩ := hcs
  have hc : (L.map (·.2)).length = n := by
    have := hr.count
    simpa using this
  refine ⟨a, c, L.map (·.2), L.map (·.1), by rw [hc], by rw [hc]; exact hr, rfl, fun i r o h1 h2 => ?_⟩
  simp only [List.getElem?_map, Option.map_eq_some_iff] at h1 h2
  obtain ⟨x1, hx1, rfl⟩ := h1
  obtain ⟨x2, hx2, rfl⟩ := h2
  rw [hx1] at hx2
  cases hx2
  have hlt := (List.getElem?_eq_some_iff.1 hx1).1
  rcases hL with ⟨_, hL⟩ | ⟨elems, spare, hd, hlen, hall⟩
  · subst hL; simp at hlt
  · have := hall i (by omega) hlt
    rw [List.getElem?_eq_getElem hlt] at hx1
    cases hx1
    obtain ⟨q, n', c', e, hb⟩ := this
    obtain rfl := hb.ids.count
    exact ⟨q, c', by rw [blkA_toList]; exact e, hb⟩
end Go.Proofs.Ytepemfgiigceoaa.Chn
