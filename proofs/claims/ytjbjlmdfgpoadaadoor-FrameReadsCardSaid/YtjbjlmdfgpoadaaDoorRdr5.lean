/- THE WALKS OF A READER: ids. Conditions: none. -/
import Derived.Test.YtjbjlmdfgpoadaaDoorRdr4
import Derived.Deep.MidRow
namespace Go.Proofs.YtjbjlmdfgpoadaaDoor.Rdr
open Go.RowKit Go.Mir Go.Mir.Parts

theorem made_id (w : World) (y : List UInt8) (M : Array Value) (t : TypeId) (hM : M.toList = bytesV y) (hy : y.length = 32) : Sl (w.alloc (.cells M t)) (some ⟨w.heap.size, 0, none⟩) 1 1 32 (bytesV y) :=
  ⟨by rw [bytesV_length, hy], Nat.le_refl _, by omega, fun h => (by cases h), fun a ha j u hu => by
    obtain rfl := Option.some.inj ha
    rw [add_none, cell_of_row _ _ _ _ _ _ (heap_alloc_last _ _), ← Array.getElem?_toList, hM, Nat.zero_add]; exact hu⟩
theorem Bs.dropped {w : World} {b o n c : Nat} {l : List UInt8} (h : Bs w (some ⟨b, o, none⟩) n c l) (k : Nat) (hk : k ≤ n) : Bs w (some ⟨b, if c = k then o else o + k, none⟩) (n - k) (c - k) (l.drop k) := by
  have hn := h.length
  have h1 := h.le
  have h2 := h.max
  refine ⟨by rw [bytesV_length, List.length_drop, Nat.mul_one]; omega, by omega, by omega, fun hp => (by cases hp), fun a ha j u hu => ?_⟩
  obtain rfl := Option.some.inj ha
  have hj : j < l.length - k := by
    have := (List.getElem?_eq_some_iff.1 hu).1
    rwa [bytesV_length, List.length_drop] at this
  have h3 : (bytesV l)[k + j]? = some u := by
    simp only [bytesV, List.getElem?_map, List.getElem?_drop] at hu ⊢
    exact hu
  have := h.cell _ rfl (k + j) u h3
  rw [add_none] at this ⊢
  rw [if_neg (by omega), Nat.add_assoc]
  exact this
theorem run_from32 {b o n c : Nat} (hn : 32 ≤ n) (_hc : n ≤ c) (w0 : World) : (Instr.sliceAt 22 (.slice (some ⟨b, o, none⟩) n c) (some (.int .i64 32)) none none).run Tryd.prog w0 = .ok (.slice (some ⟨b, if c = 32 then o else o + 32, none⟩) (n - 32) (c - 32)) w0 := by
  have hsz : (Tryd.prog.info? 5).map (·.size) = some 1 := by kernel_rfl
  obtain ⟨i, hi, hi1⟩ := Option.map_eq_some_iff.1 hsz
  have hb1 : (32 : Int) ≤ (n : Int) := by omega
  simp [Instr.sliceAt, Instr.slice, run_underlying Tryd.underlying22, Instr.sliceBounds, Instr.sliceBound, asIntOf, sizeOf, typeInfo, hi, hi1, hb1]
  by_cases h : c = 32 <;> simp [h, add_none]
theorem run_upto32 {b o n c : Nat} (hn : 32 ≤ n) (hc : n ≤ c) (w0 : World) : (Instr.sliceAt 22 (.slice (some ⟨b, o, none⟩) n c) none (some (.int .i64 32)) none).run Tryd.prog w0 = .ok (.slice (some ⟨b, o, none⟩) 32 c) w0 := by
  have hsz : (Tryd.prog.info? 5).map (·.size) = some 1 := by kernel_rfl
  obtain ⟨i, hi, hi1⟩ := Option.map_eq_some_iff.1 hsz
  have hb1 : (32 : Int) ≤ (c : Int) := by omega
  simp [Instr.sliceAt, Instr.slice, run_underlying Tryd.underlying22, Instr.sliceBounds, Instr.sliceBound, asIntOf, sizeOf, typeInfo, hi, hb1]
  intro _
  rw [add_none, Nat.add_zero]
end Go.Proofs.YtjbjlmdfgpoadaaDoor.Rdr
