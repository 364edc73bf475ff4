/- CALLS OF LAYER 9's STATEMENTS, that came in. Conditions: none. -/
import Derived.Test.YtbfddfmglkhimaaDoorRows
import Derived.Test.YtbfddfmglkhimaaDoorOpen
import Derived.Test.YtbfddfmglkhimaaDoorRdReads
namespace Go.Proofs.YtbfddfmglkhimaaDoor.RR
open Go.ChangeShapes Go.WideShapes Go.ChangeAt Go.RowKit Go.Mir Rdr

theorem split3 {cs : List Value} (h : cs.length = 3) : cs = (cs.drop 0).take 1 ++ (cs.drop 1).take 1 ++ (cs.drop 2).take 1 := by
  match cs, h with
  | [a, b, c], _ => rfl
theorem split2 {cs : List Value} (h : cs.length = 2) : cs = (cs.drop 0).take 1 ++ (cs.drop 1).take 1 := by
  match cs, h with
  | [a, b], _ => rfl
def inI64 (z : Int) : Prop := -9223372036854775808 ≤ z ∧ z ≤ 9223372036854775807
set_option maxRecDepth 100000 in
theorem trod_o9 {W : World} {H : Type} {enc : TypeId × Value → H} {base fuel : Nat} {held : Bool} {cs : List Value} {x : DataW H × List MemPlace}
    (h : DataW.trod enc Tryd.prog W base (fun _ => true) held fuel 41 cs = some x) : ∃ o : Int × Int × Int, cs = o9V o ∧ inI64 o.2.1 ∧ inI64 o.2.2 := by
  obtain ⟨xs, m, rfl, rfl, hl, hxl, hx⟩ := DataW.trod_struct Tryd.underlying41 h
  have hl' : cs.length = 3 := by rw [hl]; kernel_rfl
  have hxl' : xs.length = 3 := by rw [hxl]; rfl
  match xs, hxl' with
  | [x0, x1, x2], _ =>
    obtain ⟨z0, e0, _, w0⟩ := DataW.trod_int Tryd.underlying3 (hx 0 _ rfl)
    obtain ⟨z1, e1, _, w1⟩ := DataW.trod_int Tryd.underlying3 (hx 1 _ rfl)
    obtain ⟨z2, e2, _, w2⟩ := DataW.trod_int Tryd.underlying3 (hx 2 _ rfl)
    refine ⟨(z0, z1, z2), ?_, i64_bd w1, i64_bd w2⟩
    have hs := split3 hl'
    have e0' : (cs.drop 0).take 1 = [.int .i64 z0] := e0
    have e1' : (cs.drop 1).take 1 = [.int .i64 z1] := e1
    have e2' : (cs.drop 2).take 1 = [.int .i64 z2] := e2
    rw [e0', e1', e2'] at hs
    exact hs
set_option maxRecDepth 100000 in
theorem trod_ops9 {W : World} {H : Type} {enc : TypeId × Value → H} {base fuel : Nat} {held : Bool} {cs : List Value} {x : DataW H × List MemPlace}
    (h : DataW.trod enc Tryd.prog W base (fun _ => true) held fuel 35 cs = some x) : ∃ p n c os, cs = [.slice p n c] ∧ Ops9 W p n c os := by
  obtain ⟨p, n, c, L, hcs, hr, hdl, hL⟩ := trod_rows (size := 3) (R := fun (o : Int × Int × Int) cs' (_ : DataW H) => cs' = o9V o ∧ inI64 o.2.1 ∧ inI64 o.2.2) Tryd.underlying35 (by kernel_rfl) (by omega) (fun m cs' y hy => trod_o9 hy) h
  have hall : ∀ x ∈ L, x.1 = o9V x.2 ∧ inI64 x.2.2.1 ∧ inI64 x.2.2.2 := by
    intro x hx
    obtain ⟨i, hi, rfl⟩ := List.mem_iff_getElem.1 hx
    rcases hL with ⟨_, rfl⟩ | ⟨elems, spare, _, hel, hR⟩
    · simp at hi
    · exact hR i (by omega) hi
  refine ⟨p, n, c, L.map (·.2), hcs, ?_, fun o ho => ?_⟩
  · have : (L.map (·.2)).map o9V = L.map (·.1) := by
      rw [List.map_map]
      exact List.map_congr_left fun x hx => (hall x hx).1.symm
    rw [this]
    exact hr
  · obtain ⟨x, hx, rfl⟩ := List.mem_map.1 ho
    exact (hall x hx).2
set_option maxRecDepth 100000 in
theorem open_case9 {W : World} {H : Type} {enc : TypeId × Value → H} {base : Nat} {v : Value} {d : DataW H} {ps : List MemPlace} (hval : Value.okWide Tryd.prog W .any base 37 v) (h : DataW.Trod enc Tryd.prog W 0 (fun _ => true) true 37 v d ps) :
    ∃ p n c b po no co os, v = .agg #[.slice p n c, .slice po no co] ∧ Bs W p n c b ∧ Ops9 W po no co os := by
  obtain ⟨cs, rfl, hcs⟩ := okWide_struct Tryd.underlying37 hval
  obtain ⟨fuel, hf⟩ := h
  have hf' : DataW.trod enc Tryd.prog W 0 (fun _ => true) true fuel 37 cs.toList = some (d, ps) := hf
  obtain ⟨xs, m, rfl, hd, hl, hxl, hx⟩ := DataW.trod_struct Tryd.underlying37 hf'
  have hl' : cs.toList.length = 2 := by rw [hl]; kernel_rfl
  have hxl' : xs.length = 2 := by rw [hxl]; rfl
  match xs, hxl' with
  | [x0, x1], _ =>
    obtain ⟨p, n, c, b, e0, hB, _⟩ := trod_bs Tryd.underlying25 Tryd.underlying5 rfl (hx 0 _ rfl)
    obtain ⟨po, no, co, os, e1, hO⟩ := trod_ops9 (hx 1 _ rfl)
    have hs := split2 hl'
    have e0' : (cs.toList.drop 0).take 1 = [.slice p n c] := e0
    have e1' : (cs.toList.drop 1).take 1 = [.slice po no co] := e1
    rw [e0', e1'] at hs
    refine ⟨p, n, c, b, po, no, co, os, ?_, hB, hO⟩
    have : cs = [Value.slice p n c, Value.slice po no co].toArray := by rw [← Array.toArray_toList (xs := cs), hs]; rfl
    rw [this]
set_option maxRecDepth 100000 in
theorem open_op9 {W : World} {H : Type} {enc : TypeId × Value → H} {base : Nat} {v : Value} {d : DataW H} {ps : List MemPlace} (hval : Value.okWide Tryd.prog W .any base 41 v) (h : DataW.Trod enc Tryd.prog W 0 (fun _ => true) true 41 v d ps) :
    ∃ k a b, v = .agg #[.int .i64 k, .int .i64 a, .int .i64 b] ∧ inI64 a ∧ inI64 b := by
  obtain ⟨cs, rfl, hcs⟩ := okWide_struct Tryd.underlying41 hval
  obtain ⟨fuel, hf⟩ := h
  have hf' : DataW.trod enc Tryd.prog W 0 (fun _ => true) true fuel 41 cs.toList = some (d, ps) := hf
  obtain ⟨o, ho, h1, h2⟩ := trod_o9 hf'
  refine ⟨o.1, o.2.1, o.2.2, ?_, h1, h2⟩
  have : cs = (o9V o).toArray := by rw [← Array.toArray_toList (xs := cs), ho]
  rw [this]
  rfl
end Go.Proofs.YtbfddfmglkhimaaDoor.RR
