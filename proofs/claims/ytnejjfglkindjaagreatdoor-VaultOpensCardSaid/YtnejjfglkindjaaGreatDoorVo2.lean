/- PARTS, JOINED: THE WALKS OF A READER: Err, Done. Conditions: the laid cell of errors.errorType. WHAT THE ROWS OF A DOOR LIST, AND A WORLD THAT MEETS IT: errors.errorType's one cell. Conditions: none. WHAT COMES IN, OPENED: a law's argument that can be read as data, as the walks' own readings. No program is named. Conditions: none. SLICES OF STRUCTS, AND A STRUCT COPIED WHOLE INTO A NEW BLOCK. No program is named. Conditions: none. A SLICE THAT THE PROGRAM OWNS, AND THAT MAY HAVE BEEN CUT TO ITS LENGTH ('s[:n:n]'): as it reads, appended to, cut. No program is named. Conditions: none. A DISK IN MEMORY, and what it holds, plain. Conditions: none. THE WALKS OF A DISK: none, at, burn, Used, Room, Fuse, Down, Arm, New. Conditions: none. THE WALKS OF A DISK: steps done, and counted. Conditions: none. THE WALKS OF A DISK: units counted, a file settled. Conditions: none. THE WALKS OF A DISK: a file settled. Conditions: none. THE WALKS OF A DISK: a step taken. Conditions: none. -/
import Derived.Test.YtnejjfglkindjaaGreatDoorVo1
import Derived.Test.YtnejjfglkindjaaGreatDoorRows
import Derived.Test.YtnejjfglkindjaaGreatDoorCards
import Derived.Test.YtnejjfglkindjaaGreatDoorTie
import Derived.LaidLaws
import Derived.LaidHandle
import Derived.Deep.Slices
import Derived.Deep.MidRow
import Derived.ArgAppend
import Derived.Maps.AppendAt
import Derived.Test.YtnejjfglkindjaaGreatDoorProg
import Derived.IntWalk
import Derived.Outline
import Derived.BigQuiet
import Derived.Deep.Upon
import Derived.Deep.Cut
import Derived.BigRegion
namespace Go.Proofs.YtnejjfglkindjaaGreatDoor.Rdr
open Go.RowKit Go.Mir Go.Mir.Parts Go.Proofs.YtnejjfglkindjaaGreatDoor.Er
def EType (w : World) : Prop := w.cell? ⟨0, 0, none⟩ = some (.iface 187 (.agg #[.pointer (some ⟨1, 92, none⟩)]))
theorem EType.below {w w' : World} {B : Nat} (h : EType w) (hb : Below B w w') (hB : 0 < B) : EType w' := by
 unfold EType at h ⊢
 rw [World.cell?] at h ⊢
 rw [hb.block _ hB]
 exact h
theorem EType.lt {w : World} (h : EType w) : 0 < w.heap.size := by
 unfold EType at h
 rcases Nat.lt_or_ge 0 w.heap.size with h1 | h1
 ·exact h1
 ·simp [World.cell?, Array.getElem?_eq_none h1] at h
theorem e4_0 (w : World) : (Instr.index 215 (.agg #[.int .i64 1, .int .i64 2, .int .i64 3, .int .i64 4]) (.int .i64 0)).run Tryz.prog w = .ok (.int .i64 1) w := by kernel_rfl
theorem e4_1 (w : World) : (Instr.index 215 (.agg #[.int .i64 1, .int .i64 2, .int .i64 3, .int .i64 4]) (.int .i64 1)).run Tryz.prog w = .ok (.int .i64 2) w := by kernel_rfl
theorem e4_2 (w : World) : (Instr.index 215 (.agg #[.int .i64 1, .int .i64 2, .int .i64 3, .int .i64 4]) (.int .i64 2)).run Tryz.prog w = .ok (.int .i64 3) w := by kernel_rfl
theorem e4_3 (w : World) : (Instr.index 215 (.agg #[.int .i64 1, .int .i64 2, .int .i64 3, .int .i64 4]) (.int .i64 3)).run Tryz.prog w = .ok (.int .i64 4) w := by kernel_rfl
set_option maxRecDepth 100000 in
set_option maxHeartbeats 1600000 in
theorem err_any {base rb : Nat} {s : RD} (w : World) (h : RAt w base rb s) (hE : EType w) :
  Calls Tryz.prog 109 #[.pointer (some ⟨rb, 0, none⟩)] w fun e w' => e = .returned (.int .i64 s.err) ∧ Below w.heap.size w w' := by
 have H := Lib.hid h
 obtain ⟨v, bv, h⟩ := h
 obtain ⟨_, _, _, hc3, _⟩ := h.cells
 obtain ⟨l, pos, bad⟩ := s
 have hlt := h.lt
 have x0 := e4_0
 have x1 := e4_1
 have x2 := e4_2
 have x3 := e4_3
 cases bad with
 | none =>
  have hbv : bv = .nilIface := h.fault
  rw [hbv] at hc3
  have HB := Lib.hid (Below.allocs w (.cells #[.pointer none] 216))
  have hc3' := cell_below hc3 HB.out
  clear h hbv
  go_enter Tryz.func109, Tryz.ntmps109
  go_wp2_with fail
  refine (none_any w H.out).mono ?_
  rintro e w' ⟨rfl, rfl⟩
  go_wp2_with fail
  refine wp_loop_rounds 5 ?_
  rw [rounds_succ]
  go_wp2_with fail
  refine (is_nil _ w).mono ?_
  rintro e w' ⟨rfl, rfl⟩
  go_wp2_with fail
  rw [rounds_succ]
  go_wp2_with fail
  refine (is_nil _ w).mono ?_
  rintro e w' ⟨rfl, rfl⟩
  go_wp2_with fail
  rw [rounds_succ]
  go_wp2_with fail
  refine (is_nil _ w).mono ?_
  rintro e w' ⟨rfl, rfl⟩
  go_wp2_with fail
  rw [rounds_succ]
  go_wp2_with fail
  refine (is_nil _ w).mono ?_
  rintro e w' ⟨rfl, rfl⟩
  go_wp2_with fail
  rw [rounds_succ]
  go_wp2_with fail
  refine (as_nil _ _).mono ?_
  rintro e w' ⟨rfl, rfl⟩
  go_wp2_with fail
  go_ret
  exact ⟨rfl, HB.out⟩
 | some b =>
  obtain ⟨hb0, _, fb, a0, hbv, _, hrow⟩ := h.fault
  rw [hbv] at hc3
  have hcf : w.cell? ⟨fb, 1, none⟩ = some (.int .i64 b) := by rw [cell_of_row _ _ _ _ _ _ hrow]; rfl
  have hflt : fb < w.heap.size := (Array.getElem?_eq_some_iff.1 hrow).1
  clear h hbv hrow
  by_cases h1 : b = 1
  ·subst h1
   go_enter Tryz.func109, Tryz.ntmps109
   go_wp2_with fail
   refine (none_any w H.out).mono ?_
   rintro e w' ⟨rfl, rfl⟩
   go_wp2_with fail
   refine wp_loop_rounds 5 ?_
   rw [rounds_succ]
   go_wp2_with fail
   refine (is_fault fb _ 1 _ hcf).mono ?_
   rintro e w' ⟨rfl, rfl⟩
   go_wp2_with fail
   go_ret
   exact ⟨rfl, Below.refl _ _⟩
  by_cases h2 : b = 2
  ·subst h2
   go_enter Tryz.func109, Tryz.ntmps109
   go_wp2_with fail
   refine (none_any w H.out).mono ?_
   rintro e w' ⟨rfl, rfl⟩
   go_wp2_with fail
   refine wp_loop_rounds 5 ?_
   rw [rounds_succ]
   go_wp2_with fail
   refine (is_fault fb _ 1 _ hcf).mono ?_
   rintro e w' ⟨rfl, rfl⟩
   go_wp2_with fail
   rw [rounds_succ]
   go_wp2_with fail
   refine (is_fault fb _ 2 _ hcf).mono ?_
   rintro e w' ⟨rfl, rfl⟩
   go_wp2_with fail
   go_ret
   exact ⟨rfl, Below.refl _ _⟩
  by_cases h3 : b = 3
  ·subst h3
   go_enter Tryz.func109, Tryz.ntmps109
   go_wp2_with fail
   refine (none_any w H.out).mono ?_
   rintro e w' ⟨rfl, rfl⟩
   go_wp2_with fail
   refine wp_loop_rounds 5 ?_
   rw [rounds_succ]
   go_wp2_with fail
   refine (is_fault fb _ 1 _ hcf).mono ?_
   rintro e w' ⟨rfl, rfl⟩
   go_wp2_with fail
   rw [rounds_succ]
   go_wp2_with fail
   refine (is_fault fb _ 2 _ hcf).mono ?_
   rintro e w' ⟨rfl, rfl⟩
   go_wp2_with fail
   rw [rounds_succ]
   go_wp2_with fail
   refine (is_fault fb _ 3 _ hcf).mono ?_
   rintro e w' ⟨rfl, rfl⟩
   go_wp2_with fail
   go_ret
   exact ⟨rfl, Below.refl _ _⟩
  by_cases h4 : b = 4
  ·subst h4
   go_enter Tryz.func109, Tryz.ntmps109
   go_wp2_with fail
   refine (none_any w H.out).mono ?_
   rintro e w' ⟨rfl, rfl⟩
   go_wp2_with fail
   refine wp_loop_rounds 5 ?_
   rw [rounds_succ]
   go_wp2_with fail
   refine (is_fault fb _ 1 _ hcf).mono ?_
   rintro e w' ⟨rfl, rfl⟩
   go_wp2_with fail
   rw [rounds_succ]
   go_wp2_with fail
   refine (is_fault fb _ 2 _ hcf).mono ?_
   rintro e w' ⟨rfl, rfl⟩
   go_wp2_with fail
   rw [rounds_succ]
   go_wp2_with fail
   refine (is_fault fb _ 3 _ hcf).mono ?_
   rintro e w' ⟨rfl, rfl⟩
   go_wp2_with fail
   rw [rounds_succ]
   go_wp2_with fail
   refine (is_fault fb _ 4 _ hcf).mono ?_
   rintro e w' ⟨rfl, rfl⟩
   go_wp2_with fail
   go_ret
   exact ⟨rfl, Below.refl _ _⟩
  have y1 : (b == 1) = false := beq_eq_false_iff_ne.2 h1
  have y2 : (b == 2) = false := beq_eq_false_iff_ne.2 h2
  have y3 : (b == 3) = false := beq_eq_false_iff_ne.2 h3
  have y4 : (b == 4) = false := beq_eq_false_iff_ne.2 h4
  have HC3 := Lib.hid hc3
  have HCF := Lib.hid hcf
  have HB := Lib.hid (Below.allocs w (.cells #[.pointer none] 216))
  have HEY : Hid (EType (w.alloc (.cells #[.pointer none] 216))) := hE.below HB.out hE.lt
  have HT0 : Hid ((w.alloc (.cells #[.pointer none] 216)).cell? ⟨w.heap.size, 0, none⟩ = some (.pointer none)) := cell_alloc_new _ _ _ _
  have HF0 : Hid ((w.alloc (.cells #[.pointer none] 216)).frozen? ⟨w.heap.size, 0, none⟩ = false) := frozen_of_row _ _ _ _ _ (heap_alloc_last _ _)
  have hc3' := cell_below hc3 HB.out
  go_enter Tryz.func109, Tryz.ntmps109
  go_wp2_with fail
  refine (none_any w H.out).mono ?_
  rintro e w' ⟨rfl, rfl⟩
  go_wp2_with fail
  refine wp_loop_rounds 5 ?_
  rw [rounds_succ]
  go_wp2_with fail
  refine (is_fault fb _ 1 _ hcf).mono ?_
  rintro e w' ⟨rfl, rfl⟩
  go_wp2_with fail
  rw [rounds_succ]
  go_wp2_with fail
  refine (is_fault fb _ 2 _ hcf).mono ?_
  rintro e w' ⟨rfl, rfl⟩
  go_wp2_with fail
  rw [rounds_succ]
  go_wp2_with fail
  refine (is_fault fb _ 3 _ hcf).mono ?_
  rintro e w' ⟨rfl, rfl⟩
  go_wp2_with fail
  rw [rounds_succ]
  go_wp2_with fail
  refine (is_fault fb _ 4 _ hcf).mono ?_
  rintro e w' ⟨rfl, rfl⟩
  go_wp2_with fail
  rw [rounds_succ]
  go_wp2_with fail
  refine (as_hit ⟨fb, 0, none⟩ ⟨w.heap.size, 0, none⟩ (.pointer none) _ HEY.out HT0.out HF0.out).mono ?_
  rintro e wz ⟨rfl, hw⟩
  have HBZ : Hid (Below w.heap.size w wz ∧ wz.cell? ⟨w.heap.size, 0, none⟩ = some (.pointer (some ⟨fb, 0, none⟩))) := by
   subst hw
   have b1 := HB.out
   have r1 : (w.alloc (.cells #[.pointer none] 216)).heap[w.heap.size]? = some (.cells #[.pointer none] 216 (0, 0)) := heap_alloc_last _ _
   generalize w.alloc (.cells #[.pointer none] 216) = v1 at *
   have b2 := b1.alloc b1.size (.cells #[.pointer (some ⟨w.heap.size, 0, none⟩)] 217)
   have r2 := block_old (.cells #[.pointer (some ⟨w.heap.size, 0, none⟩)] 217) r1
   generalize v1.alloc (.cells #[.pointer (some ⟨w.heap.size, 0, none⟩)] 217) = v2 at *
   have b3 := b2.alloc b2.size (.cells #[.pointer (some ⟨1, 217, none⟩), .pointer (some ⟨v1.heap.size, 0, none⟩), .int .u64 150] 144)
   have r3 := block_old (.cells #[.pointer (some ⟨1, 217, none⟩), .pointer (some ⟨v1.heap.size, 0, none⟩), .int .u64 150] 144) r2
   have b4 := b3.alloc b3.size (.cells #[.pointer (some ⟨1, 217, none⟩), .pointer (some ⟨v1.heap.size, 0, none⟩), .int .u64 150] 144)
   have r4 := block_old (.cells #[.pointer (some ⟨1, 217, none⟩), .pointer (some ⟨v1.heap.size, 0, none⟩), .int .u64 150] 144) r3
   have b5 := b4.alloc b4.size (.cells #[.pointer (some ⟨fb, 0, none⟩)] 216)
   have r5 := block_old (.cells #[.pointer (some ⟨fb, 0, none⟩)] 216) r4
   refine ⟨b5.setCell (Nat.le_refl _) _, ?_⟩
   rw [cell_of_row _ _ _ _ _ _ (heap_setCell_same _ _ _ _ _ _ r5)]
   rfl
  have hct := HBZ.out.2
  have hcz := cell_below HCF.out HBZ.out.1
  clear hw
  go_wp2_with fail
  go_ret
  exact ⟨rfl, HBZ.out.1⟩
def RD.done (s : RD) : Int := if s.err ≠ 0 then s.err else if s.l.length - s.pos = 0 then 0 else 3
end Go.Proofs.YtnejjfglkindjaaGreatDoor.Rdr
namespace Go.Proofs.YtnejjfglkindjaaGreatDoor.Rdr
open Go.ChangeShapes Go.WideShapes Go.RowKit Go.Mir
theorem own : ownKnob Tryz.prog.godebug = none := by kernel_rfl
theorem laidOut : laidOutB Tryz.prog = true := by kernel_rfl
theorem etNamed : Tryz.prog.globalNamed "errors.errorType" = some 0 := by kernel_rfl
theorem rtNamed : (Tryz.prog.cutTypes.find? (·.1 == "internal/reflectlite.rtype")).map (·.2) = some 187 := by kernel_rfl
theorem oneRow : ((List.range Tryz.prog.types.size).filter fun t => Tryz.prog.rowNamed t [101, 114, 114, 111, 114]) = [92] := by kernel_rfl
def laidE : List (String × DataW Unit) := [("errors.errorType", Rows.laid_errors_errorType)]
theorem etype_of_laid {W : World} (h : laidMetH Tryz.prog laidE W) : EType W := by
 have h' : laidMet Tryz.prog [] W ∧ handlesMet Tryz.prog laidE W := h
 obtain ⟨name, u, ty, e1, e2, e3, e4, e5⟩ := h'.2 _ (List.mem_singleton.2 rfl)
 have en : name = [101, 114, 114, 111, 114] := (Option.some.inj e1).symm
 subst en
 obtain rfl := Option.some.inj (rtNamed.symm.trans e2)
 have hm : ty ∈ (List.range Tryz.prog.types.size).filter fun t => Tryz.prog.rowNamed t [101, 114, 114, 111, 114] := List.mem_filter.2 ⟨List.mem_range.2 e3, e4⟩
 rw [oneRow] at hm
 obtain rfl := List.mem_singleton.1 hm
 have hh : typeHandle Tryz.prog 92 = .pointer (some ⟨1, 92, none⟩) := by kernel_rfl
 rw [hh] at e5
 show W.cell? ⟨0, 0, none⟩ = _
 simpa using World.var?_cell etNamed e5 0
noncomputable def laidWorld (os : Os) : World :=
 let w0 := World.holding Tryz.prog os ⟨#[], #[], []⟩
 { w0 with heap := w0.heap.modify 0 fun
   | .cells _ t frozen => .cells #[.iface 187 (.agg #[.pointer (some ⟨1, 92, none⟩)])] t frozen
   | o => o }
theorem laidWorld_met (os : Os) (args : Array Value) : laidMetH Tryz.prog laidE ((laidWorld os).forCall (fun _ _ => 0) ⟨#[], args, []⟩).memory :=
 laidMetH_of_parts (laidMet_nil _ _) (by kernel_rfl)
end Go.Proofs.YtnejjfglkindjaaGreatDoor.Rdr
namespace Go.Mir
open Go.ChangeShapes Go.WideShapes Go.ChangeAt Go.RowKit
theorem u8_of_list (zs : List Int) (h : ∀ n ∈ zs, (Lit.int .u8 n).wf = true) : ∃ l : List UInt8, zs = l.map (fun b => (b.toNat : Int)) := by
 induction zs with
 | nil => exact ⟨[], rfl⟩
 | cons z zs ih =>
  obtain ⟨l, rfl⟩ := ih (fun n hn => h n (by simp [hn]))
  have hz := h z (by simp)
  have hb : 0 ≤ z ∧ z ≤ 255 := by simpa [Lit.wf, IntKind.min, IntKind.max, IntKind.signed, IntKind.bits] using hz
  refine ⟨UInt8.ofNat z.toNat :: l, ?_⟩
  have : (UInt8.ofNat z.toNat).toNat = z.toNat := by
   rw [UInt8.toNat_ofNat']; exact Nat.mod_eq_of_lt (by omega)
  simp [this]; omega
theorem open_bs {P : Program} {W : World} {H : Type} {enc : TypeId × Value → H} {t e base : Nat} {v : Value} {d : DataW H} {ps : List MemPlace} (ht : P.underlying t = some (.slice e)) (he : P.underlying e = some (.int .u8)) (hc : P.cellsOf e = 1)
  (hval : Value.okWide P W .any base t v) (h : DataW.Trod enc P W 0 (fun _ => true) true t v d ps) : ∃ p n c l, v = .slice p n c ∧ Bs W p n c l := by
 obtain ⟨a, n, c, rfl⟩ := okWide_slice ht hval
 obtain ⟨fuel, hf⟩ := h
 rcases open_ints ht he hc hf with ⟨hcs, _⟩ | ⟨x, l, c', zs, hcs, _, hl, hm, hz, _, hcell, hwz⟩
 ·simp [Value.cells] at hcs
  obtain ⟨rfl, rfl, rfl⟩ := hcs
  exact ⟨_, _, _, [], rfl, Sl.nil _ _⟩
 ·simp [Value.cells] at hcs
  obtain ⟨rfl, rfl, rfl⟩ := hcs
  obtain ⟨bs, rfl⟩ := u8_of_list zs hwz
  have hbl : bs.length = c := by simpa using hz
  refine ⟨_, _, _, bs.take n, rfl, ⟨?_, hl, by simpa [maxLen] using hm, fun h => (by cases h), fun a ha j u hu => ?_⟩⟩
  ·rw [bytesV_length, List.length_take]; omega
  ·obtain rfl := Option.some.inj ha
   have hj : j < n := by
    have := (List.getElem?_eq_some_iff.1 hu).1
    rw [bytesV_length, List.length_take] at this; omega
   have hc0 := hcell j (by simp; omega)
   rw [hc0, ← hu]
   simp [bytesV, hj, show j < bs.length by omega]
theorem u64_nat {a : Int} (h : (Lit.int .u64 a).wf = true) : ∃ x : Nat, a = (x : Int) ∧ x < 18446744073709551616 := by
 have hb : 0 ≤ a ∧ a ≤ 18446744073709551615 := by simpa [Lit.wf, IntKind.min, IntKind.max, IntKind.signed, IntKind.bits] using h
 exact ⟨a.toNat, by omega, by omega⟩
def dlen {H : Type} : DataW H → Nat
 | .slice elems _ => elems.length
 | _ => 0
theorem trod_bs {P : Program} {W : World} {H : Type} {enc : TypeId × Value → H} {base fuel t e : Nat} {held : Bool} {cs : List Value} {x : DataW H × List MemPlace}
  (ht : P.underlying t = some (.slice e)) (he : P.underlying e = some (.int .u8)) (hc : P.cellsOf e = 1) (h : DataW.trod enc P W base (fun _ => true) held fuel t cs = some x) :
  ∃ p n c l, cs = [.slice p n c] ∧ Bs W p n c l ∧ dlen x.1 = n := by
 rcases Deep.open_slice1 ht hc h with ⟨rfl, rfl⟩ | ⟨a, len, cap, m, k, V, D, Pl, rfl, hb, hl, hm, hmm, rfl, hx⟩
 ·exact ⟨_, _, _, [], rfl, Sl.nil _ _, rfl⟩
 ·simp only [if_true] at hmm
  subst hmm
  have key : ∀ i, i < m → ∃ b : UInt8, V i = .int .u8 (b.toNat : Int) := by
   intro i hi
   obtain ⟨z, hz, _, hw⟩ := DataW.trod_int he (hx i hi).2
   obtain ⟨l, hl⟩ := u8_of_list [z] (by simpa using hw)
   match l, hl with
   | [b], hl => exact ⟨b, by simp at hz hl; rw [hz, hl]⟩
  refine ⟨_, _, _, (List.range len).map (fun i => UInt8.ofNat (intOf (V i)).toNat), rfl, ⟨?_, hl, by simpa [maxLen] using hm, fun h => (by cases h), fun a' ha j u hu => ?_⟩, by simp [dlen]⟩
  ·simp [bytesV]
  ·obtain rfl := Option.some.inj ha
   have hj : j < len := by
    have := (List.getElem?_eq_some_iff.1 hu).1
    simpa [bytesV] using this
   rw [(hx j (by omega)).1, ← hu]
   obtain ⟨b, hb⟩ := key j (by omega)
   rw [hb]
   simp [bytesV, hj, hb, intOf]
theorem open_pts {P : Program} {W : World} {H : Type} {enc : TypeId × Value → H} {t e q base : Nat} {v : Value} {d : DataW H} {ps : List MemPlace} (ht : P.underlying t = some (.slice e)) (he : P.underlying e = some (.slice q)) (hq : P.underlying q = some (.int .u8)) (hc : P.cellsOf e = 1) (hcq : P.cellsOf q = 1)
  (hval : Value.okWide P W .any base t v) (h : DataW.Trod enc P W 0 (fun _ => true) true t v d ps) :
  ∃ p n c ls, v = .slice p n c ∧ Pts W p n c ls ∧ ((d = .nil ∧ ls = []) ∨ ∃ elems spare, d = .slice elems spare ∧ elems.map dlen = ls.map List.length) := by
 obtain ⟨a, n, c, rfl⟩ := okWide_slice ht hval
 obtain ⟨fuel, hf⟩ := h
 rcases Deep.open_slice1 ht hc hf with ⟨hcs, hx⟩ | ⟨a', len, cap, m, k, V, D, Pl, hcs, hb, hl, hm, hmm, hx, hv⟩
 ·simp [Value.cells] at hcs
  obtain ⟨rfl, rfl, rfl⟩ := hcs
  exact ⟨_, _, _, [], rfl, Pts.made0 _, .inl ⟨(Prod.ext_iff.1 hx).1, rfl⟩⟩
 ·simp [Value.cells] at hcs
  obtain ⟨rfl, rfl, rfl⟩ := hcs
  simp only [if_true] at hmm
  subst hmm
  have key : ∀ i, i < m → ∃ l : List UInt8, ∃ q m' k', V i = .slice q m' k' ∧ Bs W q m' k' l ∧ dlen (D i) = l.length := by
   intro i hi
   obtain ⟨q', n', c', l, h1, h2, h3⟩ := trod_bs he hq hcq (hv i hi).2
   exact ⟨l, q', n', c', by simpa using h1, h2, by rw [h3, h2.length]⟩
  obtain ⟨ls, hls, hlk⟩ : ∃ ls : List (List UInt8), ls.length = n ∧ ∀ i (h : i < ls.length), ∃ q m' k', V i = .slice q m' k' ∧ Bs W q m' k' ls[i] ∧ dlen (D i) = ls[i].length := by
   have : ∀ j, j ≤ n → ∃ ls : List (List UInt8), ls.length = j ∧ ∀ i (h : i < ls.length), ∃ q m' k', V i = .slice q m' k' ∧ Bs W q m' k' ls[i] ∧ dlen (D i) = ls[i].length := by
    intro j
    induction j with
    | zero => intro _; exact ⟨[], rfl, fun i h => by simp at h⟩
    | succ j ih =>
     intro hj
     obtain ⟨ls, h1, h2⟩ := ih (by omega)
     obtain ⟨l, hl⟩ := key j (by omega)
     refine ⟨ls ++ [l], by simp [h1], fun i hi => ?_⟩
     by_cases hij : i < j
     ·rw [List.getElem_append_left (by omega)]; exact h2 i (by omega)
     ·have : i = j := by simp [h1] at hi; omega
      subst this
      rw [List.getElem_append_right (by omega)]
      simpa [h1] using hl
   exact this n (Nat.le_refl _)
  refine ⟨_, _, _, ls, rfl, ⟨hls, hl, by simpa [maxLen] using hm, fun h => (by cases h), fun a ha j hj => ?_⟩, .inr ⟨_, _, (Prod.ext_iff.1 hx).1, ?_⟩⟩
  ·obtain rfl := Option.some.inj ha
   obtain ⟨q', m', k', h1, h2, h3⟩ := hlk j hj
   exact ⟨q', m', k', by rw [(hv j (by omega)).1, h1], h2⟩
  ·apply List.ext_getElem
   ·simp [hls]
   ·intro i h1 h2
    obtain ⟨q', m', k', h3, h4, h5⟩ := hlk i (by simpa using h2)
    simpa using h5
theorem flatMap_length {α β : Type} (f : α → List β) (m : Nat) (l : List α) (h : ∀ x ∈ l, (f x).length = m) : (l.flatMap f).length = l.length * m := by
 induction l with
 | nil => simp
 | cons x l ih =>
  rw [List.flatMap_cons, List.length_append, h x (by simp), ih (fun y hy => h y (by simp [hy])), List.length_cons, Nat.add_mul]; omega
end Go.Mir
namespace Go.Mir
open Go.RowKit
theorem setCells_row (b : Nat) (t : TypeId) : ∀ (vs : List Value) (o : Nat) (w : World) (A : Array Value), w.heap[b]? = some (.cells A t (0, 0)) → o + vs.length ≤ A.size →
  ∃ A', (w.setCells b o vs).heap[b]? = some (.cells A' t (0, 0)) ∧ A'.size = A.size ∧ ∀ i, A'[i]? = if o ≤ i ∧ i < o + vs.length then vs[i - o]? else A[i]?
 | [], o, w, A, h, hs => ⟨A, h, rfl, fun i => by rw [if_neg (by simp <;> omega)]⟩
 | v :: r, o, w, A, h, hs => by
  have h1 := Go.heap_setCell_same w b o A t v h
  simp only [List.length_cons] at hs
  obtain ⟨A', h2, h3, h4⟩ := setCells_row b t r (o + 1) _ _ h1 (by simp; omega)
  refine ⟨A', h2, by rw [h3]; simp, fun i => ?_⟩
  rw [h4 i, Array.getElem?_setIfInBounds]
  by_cases hi : o + 1 ≤ i ∧ i < o + 1 + r.length
  ·rw [if_pos hi, if_pos (by simp; omega)]
   rw [show i - o = (i - (o + 1)) + 1 by omega, List.getElem?_cons_succ]
  ·rw [if_neg hi]
   by_cases ho : o = i
   ·subst ho
    rw [if_pos rfl, if_pos (by omega), if_pos (by simp)]; simp
   ·rw [if_neg ho, if_neg (by simp; omega)]
structure Rs (w : World) (p : Option Addr) (n c size : Nat) (rows : List (List Value)) : Prop where
 sl : Sl w p n c size rows.flatten
 each : ∀ r ∈ rows, r.length = size
 count : rows.length = n
theorem Rs.below {w w' : World} {p : Option Addr} {n c size : Nat} {rows : List (List Value)} (h : Rs w p n c size rows) (hb : Below w.heap.size w w') : Rs w' p n c size rows := ⟨h.sl.below hb, h.each, h.count⟩
theorem Rs.row {w : World} {b o n c size : Nat} {rows : List (List Value)} (h : Rs w (some ⟨b, o, none⟩) n c size rows) (i : Nat) (hi : i < rows.length) : w.rangeAt b (o + i * size) rows[i] := fun j v hv => by
 have hj : j < size := by
  have := (List.getElem?_eq_some_iff.1 hv).1
  rwa [h.each _ (List.getElem_mem hi)] at this
 rw [Nat.add_assoc]
 refine h.sl.at ?_
 have := getElem?_flatMap (fun x : List Value => x) size rows h.each i j hi hj
 rw [show rows.flatten = rows.flatMap (fun x => x) by simp [List.flatMap_id'], this]; exact hv
end Go.Mir
namespace Go.Mir
open Go.RowKit
end Go.Mir
namespace Go.Proofs.YtnejjfglkindjaaGreatDoor.Dk
open Go.RowKit Go.Mir
inductive St where
 | put (b : List UInt8)
 | cut (n : Nat)
def St.units : St → Nat
 | .put b => b.length
 | .cut _ => 1
def St.act : St → List UInt8 → Nat → List UInt8
 | .put p, b, u => b ++ p.take u
 | .cut n, b, u => if u = 0 then b else b.take n
def St.size : St → Nat → Nat
 | .put p, n => n + p.length
 | .cut m, _ => m
def St.ok : St → Nat → Prop
 | .put _, _ => True
 | .cut m, n => m ≤ n
def runAll : List UInt8 → List St → List UInt8
 | b, [] => b
 | b, s :: r => runAll (s.act b s.units) r
def okAll : List UInt8 → List St → Prop
 | _, [] => True
 | b, s :: r => s.ok b.length ∧ okAll (s.act b s.units) r
def someU : List UInt8 → List St → Nat → List UInt8
 | b, [], _ => b
 | b, s :: r, u => someU (s.act b (min u s.units)) r (u - min u s.units)
def unitsAll : List St → Nat
 | [] => 0
 | s :: r => s.units + unitsAll r
theorem act_full (s : St) (b : List UInt8) : s.act b s.units = match s with | .put p => b ++ p | .cut n => b.take n := by
 cases s with
 | put p => simp [St.act, St.units]
 | cut n => simp [St.act, St.units]
theorem act_len {s : St} {b : List UInt8} (h : s.ok b.length) : (s.act b s.units).length = s.size b.length := by
 rw [act_full]
 cases s with
 | put p => simp [St.size]
 | cut n => simp [St.size]; exact Nat.min_eq_left h
theorem act_zero (s : St) (b : List UInt8) : s.act b 0 = b := by
 cases s with
 | put p => simp [St.act]
 | cut n => simp [St.act]
theorem runAll_snoc (s : St) : ∀ (l : List St) (b : List UInt8), runAll b (l ++ [s]) = s.act (runAll b l) s.units
 | [], _ => rfl
 | x :: l, b => by rw [List.cons_append, runAll, runAll, runAll_snoc s l]
theorem okAll_snoc (s : St) : ∀ (l : List St) (b : List UInt8), okAll b (l ++ [s]) ↔ okAll b l ∧ s.ok (runAll b l).length
 | [], b => by simp [okAll, runAll]
 | x :: l, b => by rw [List.cons_append, okAll, okAll, runAll, okAll_snoc s l, and_assoc]
theorem unitsAll_snoc (s : St) : ∀ (l : List St), unitsAll (l ++ [s]) = unitsAll l + s.units
 | [] => by simp [unitsAll]
 | x :: l => by rw [List.cons_append, unitsAll, unitsAll, unitsAll_snoc s l]; omega
theorem someU_zero : ∀ (l : List St) (b : List UInt8), someU b l 0 = b
 | [], _ => rfl
 | s :: r, b => by rw [someU, Nat.zero_min, act_zero, Nat.zero_sub, someU_zero r]
theorem someU_all : ∀ (l : List St) (b : List UInt8) (u : Nat), unitsAll l ≤ u → someU b l u = runAll b l
 | [], _, _, _ => rfl
 | s :: r, b, u, h => by
  rw [unitsAll] at h
  rw [someU, runAll, Nat.min_eq_right (by omega), someU_all r _ _ (by omega)]
structure FD where
 kept : List UInt8
 now : List UInt8
 steps : List St
 need : Nat
structure FD.Ok (f : FD) : Prop where
 now : f.now = runAll f.kept f.steps
 ok : okAll f.kept f.steps
 all : ∀ u, (someU f.kept f.steps u).length ≤ f.need
 un : unitsAll f.steps ≤ 65536 * f.steps.length
 eu : ∀ s ∈ f.steps, s.units ≤ 65536
theorem FD.Ok.le {f : FD} (h : f.Ok) : f.now.length ≤ f.need := by
 have := h.all (unitsAll f.steps)
 rwa [someU_all _ _ _ (Nat.le_refl _), ← h.now] at this
theorem FD.Ok.lek {f : FD} (h : f.Ok) : f.kept.length ≤ f.need := by
 have := h.all 0
 rwa [someU_zero] at this
theorem someU_snoc (s : St) : ∀ (l : List St) (b : List UInt8) (u : Nat), someU b (l ++ [s]) u = s.act (someU b l u) (min (u - unitsAll l) s.units)
 | [], b, u => by simp [someU, unitsAll]
 | x :: l, b, u => by
  rw [List.cons_append, someU, someU, someU_snoc s l, unitsAll]
  congr 2
  omega
def FD.none : FD := ⟨[], [], [], 0⟩
theorem FD.none_ok : FD.none.Ok := ⟨rfl, trivial, fun _u => Nat.le_refl _, Nat.le_refl _, fun _s hs => (nomatch hs)⟩
def FD.take (f : FD) (s : St) : FD := ⟨f.kept, s.act f.now s.units, f.steps ++ [s], max f.need (s.size f.now.length)⟩
theorem FD.take_ok {f : FD} {s : St} (h : f.Ok) (hs : s.ok f.now.length) (hu : s.units ≤ 65536) : (f.take s).Ok := by
 refine ⟨by show s.act f.now s.units = runAll f.kept (f.steps ++ [s]); rw [runAll_snoc, ← h.now], (okAll_snoc s _ _).2 ⟨h.ok, by show s.ok (runAll f.kept f.steps).length; rw [← h.now]; exact hs⟩, fun u => ?_, by show unitsAll (f.steps ++ [s]) ≤ 65536 * (f.steps ++ [s]).length; rw [unitsAll_snoc, List.length_append, List.length_singleton]; have := h.un; omega, fun x hx => ?_⟩
 rotate_left
 ·have hx : x ∈ f.steps ++ [s] := hx
  rcases List.mem_append.1 hx with hx | hx
  ·exact h.eu x hx
  ·rw [List.mem_singleton] at hx; rw [hx]; exact hu
 show (someU f.kept (f.steps ++ [s]) u).length ≤ max f.need (s.size f.now.length)
 rw [someU_snoc]
 by_cases hu : u ≤ unitsAll f.steps
 ·rw [show min (u - unitsAll f.steps) s.units = 0 by omega, act_zero]
  exact Nat.le_trans (h.all u) (Nat.le_max_left ..)
 ·rw [someU_all _ _ _ (by omega), ← h.now]
  cases s with
  | put p =>
   refine Nat.le_trans ?_ (Nat.le_max_right ..)
   simp only [St.act, St.size, List.length_append, List.length_take]
   omega
  | cut n =>
   simp only [St.act, St.size]
   split
   ·exact Nat.le_trans h.le (Nat.le_max_left ..)
   ·rw [List.length_take]
    exact Nat.le_trans (Nat.min_le_left ..) (Nat.le_max_right ..)
def FD.settle (f : FD) (u : Nat) : FD := ⟨someU f.kept f.steps u, someU f.kept f.steps u, [], (someU f.kept f.steps u).length⟩
theorem FD.settle_ok (f : FD) (u : Nat) : (f.settle u).Ok := ⟨rfl, trivial, fun _u => Nat.le_refl _, Nat.le_refl _, fun _s hs => (nomatch hs)⟩
def usedL : List FD → Nat
 | [] => 0
 | f :: r => f.need + usedL r
theorem usedL_take_succ {l : List FD} {k : Nat} (h : k < l.length) : usedL (l.take (k + 1)) = usedL (l.take k) + l[k].need := by
 have key : ∀ (a b : List FD), usedL (a ++ b) = usedL a + usedL b := by
  intro a b
  induction a with
  | nil => simp [usedL]
  | cons x a ih => rw [List.cons_append, usedL, usedL, ih]; omega
 rw [List.take_succ_eq_append_getElem h, key]
 simp [usedL]
theorem usedL_take_le {l : List FD} (k : Nat) : usedL (l.take k) ≤ usedL l := by
 induction l generalizing k with
 | nil => simp
 | cons x l ih =>
  cases k with
  | zero => exact Nat.zero_le _
  | succ k => rw [List.take_succ_cons, usedL, usedL]; have := ih k; omega
theorem usedL_mem {l : List FD} {i : Nat} (h : i < l.length) : l[i].need ≤ usedL l := by
 have h1 := usedL_take_succ h
 have h2 := usedL_take_le (l := l) (i + 1)
 omega
theorem usedL_set {l : List FD} {i : Nat} (h : i < l.length) (f : FD) : usedL (l.set i f) + l[i].need = usedL l + f.need := by
 induction l generalizing i with
 | nil => simp at h
 | cons x l ih =>
  cases i with
  | zero => simp [usedL]; omega
  | succ i => 
   have := ih (i := i) (by simpa using h)
   simp only [List.set_cons_succ, usedL, List.getElem_cons_succ]
   omega
def Rd (w : World) (base : Nat) (v : Value) (l : List UInt8) : Prop :=
 (v = .slice none 0 0 ∧ l = []) ∨ ∃ g cap cur, v = .slice (some ⟨g, 0, none⟩) l.length cap ∧ base ≤ g ∧ w.heap[g]? = some (.cells cur 5 (0, 0)) ∧ l.length ≤ cap ∧ cap ≤ maxLen ∧ l.length ≤ cur.size ∧ cur.toList.take l.length = bytesV l
theorem Rd.touch {S : Nat → Prop} {w w' : World} {base : Nat} {v : Value} {l : List UInt8} (h : Rd w base v l) (ht : Turns S w w') (hS : ∀ k M fr, w.heap[k]? = some (.cells M 5 fr) → ¬ S k) : Rd w' base v l := by
 rcases h with h | ⟨g, cap, cur, h1, h2, h3, h4⟩
 ·exact .inl h
 ·exact .inr ⟨g, cap, cur, h1, h2, ht.keep h3 (hS g cur _ h3), h4⟩
theorem Rd.below {w w' : World} {base : Nat} {v : Value} {l : List UInt8} (h : Rd w base v l) (hb : Below w.heap.size w w') : Rd w' base v l :=
 h.touch (Turns.of_below (S := fun _ => False) hb) (fun _ _ _ _ h => h)
theorem Rd.bs {w : World} {base : Nat} {v : Value} {l : List UInt8} (h : Rd w base v l) : ∃ p c, v = .slice p l.length c ∧ Bs w p l.length c l := by
 rcases h with ⟨rfl, rfl⟩ | ⟨g, cap, cur, rfl, hb, hg, hn, hm, hz, ht⟩
 ·exact ⟨none, 0, rfl, Sl.nil _ _⟩
 ·refine ⟨_, _, rfl, ⟨by rw [bytesV_length, Nat.mul_one], hn, by simpa [maxLen] using hm, fun h => (by cases h), fun a ha j u hu => ?_⟩⟩
  obtain rfl := Option.some.inj ha
  have hj : j < l.length := by
   have := (List.getElem?_eq_some_iff.1 hu).1
   rwa [bytesV_length] at this
  rw [add_none, Nat.zero_add, cell_of_row _ _ _ _ _ _ hg, ← Array.getElem?_toList]
  rw [← ht, List.getElem?_take, if_pos hj] at hu
  exact hu
theorem Rd.of_own {w : World} {base : Nat} {v : Value} {l : List UInt8} (h : w.ownsRow base 5 1 v l.length (bytesV l)) : Rd w base v l := by
 rcases h.2 with ⟨rfl, hn⟩ | ⟨g, cap, cur, rfl, hb, hg, hn, hm, hs, ht⟩
 ·exact .inl ⟨rfl, List.length_eq_zero_iff.1 hn⟩
 ·exact .inr ⟨g, cap, cur, rfl, hb, hg, hn, hm, by rw [hs]; omega, by rw [Nat.mul_one] at ht; exact ht⟩
theorem Rd.base {w : World} {base b2 : Nat} {v : Value} {l : List UInt8} (h : Rd w base v l) (hb : b2 ≤ base) : Rd w b2 v l := by
 rcases h with h | ⟨g, cap, cur, h1, h2, h3⟩
 ·exact .inl h
 ·exact .inr ⟨g, cap, cur, h1, Nat.le_trans hb h2, h3⟩
theorem Rd.cut {w : World} {base : Nat} {p : Option Addr} {n c : Nat} {l : List UInt8} (h : Rd w base (.slice p n c) l) (k : Nat) (hk : k ≤ l.length) : Rd w base (.slice p k c) (l.take k) := by
 rcases h with ⟨h1, rfl⟩ | ⟨g, cap, cur, h1, h2, h3, h4, h5, h6, h7⟩
 ·cases h1
  have : k = 0 := by simpa using hk
  subst this
  exact .inl ⟨rfl, rfl⟩
 ·cases h1
  have hl : (l.take k).length = k := by rw [List.length_take]; omega
  exact .inr ⟨g, _, cur, by rw [hl], h2, h3, by omega, h5, by omega, by rw [hl, show cur.toList.take k = (cur.toList.take l.length).take k by rw [List.take_take, Nat.min_eq_left hk], h7]; simp [bytesV, List.map_take]⟩
theorem Rd.full {w : World} {base : Nat} {p : Option Addr} {n c : Nat} {l : List UInt8} (h : Rd w base (.slice p n c) l) : Rd w base (.slice p n n) l := by
 rcases h with ⟨h1, rfl⟩ | ⟨g, cap, cur, h1, h2, h3, h4, h5, h6, h7⟩
 ·cases h1; exact .inl ⟨rfl, rfl⟩
 ·cases h1
  exact .inr ⟨g, _, cur, rfl, h2, h3, Nat.le_refl _, by omega, h6, h7⟩
theorem own_ne_cells' {w : World} {base e size n : Nat} {v : Value} {xs : List Value} {k : Nat} {M : Array Value} {t : TypeId} {fr : Nat × Nat} (h : w.ownsRow base e size v n xs) (hk : w.heap[k]? = some (.cells M t fr)) (hne : t ≠ e) : ∀ i, v.ownBlock = some i → ¬ i = k := by
 intro i hi e1
 subst e1
 rcases h.2 with ⟨rfl, _⟩ | ⟨g, cap, cur, rfl, _, hg, _⟩
 ·simp [Value.ownBlock] at hi
 ·simp [Value.ownBlock] at hi
  subst hi
  rw [hk] at hg; cases hg; exact hne rfl
def StAt (w : World) (base : Nat) (v : Value) : St → Prop
 | .put b => ∃ bv, v = .iface 109 (.agg #[bv]) ∧ Rd w base bv b
 | .cut n => v = .iface 169 (.agg #[.int .i64 (n : Int)])
theorem StAt.touch {S : Nat → Prop} {w w' : World} {base : Nat} {v : Value} {s : St} (h : StAt w base v s) (ht : Turns S w w') (hS : ∀ k M fr, w.heap[k]? = some (.cells M 5 fr) → ¬ S k) : StAt w' base v s := by
 cases s with
 | put b => obtain ⟨bv, h1, h2⟩ := h; exact ⟨bv, h1, h2.touch ht hS⟩
 | cut n => exact h
theorem StAt.one {w : World} {base : Nat} {v : Value} {s : St} (h : StAt w base v s) : v.oneCell' = true := by
 cases s with
 | put b => obtain ⟨bv, rfl, _⟩ := h; rfl
 | cut n => cases h; rfl
structure FV where
 kv : Value
 nv : Value
 sv : Value
 nd : Nat
def fvL (v : FV) : List Value := [v.kv, v.nv, v.sv, .int .i64 (v.nd : Int)]
def dA (vs : List FV) (room fuse : Nat) (down : Bool) : Array Value := (vs.flatMap fvL ++ [Value.int .i64 (room : Int), Value.int .i64 (fuse : Int), Value.bool down]).toArray
structure FAt (w : World) (base : Nat) (v : FV) (f : FD) : Prop where
 kept : Rd w base v.kv f.kept
 now : Rd w base v.nv f.now
 steps : ∃ vals, w.ownsRow base 165 1 v.sv f.steps.length vals ∧ ∀ (i : Nat) x s, vals[i]? = some x → f.steps[i]? = some s → StAt w base x s
 need : v.nd = f.need
 ok : f.Ok
theorem FAt.touch {S : Nat → Prop} {w w' : World} {base : Nat} {v : FV} {f : FD} (h : FAt w base v f) (ht : Turns S w w') (hS : ∀ k M fr, w.heap[k]? = some (.cells M 5 fr) → ¬ S k) (ho : ∀ k, v.sv.ownBlock = some k → ¬ S k) : FAt w' base v f := by
 obtain ⟨vals, h1, h2⟩ := h.steps
 exact ⟨h.kept.touch ht hS, h.now.touch ht hS, ⟨vals, own_touch h1 ht ho, fun i x s hx hs => (h2 i x s hx hs).touch ht hS⟩, h.need, h.ok⟩
theorem FAt.below {w w' : World} {base : Nat} {v : FV} {f : FD} (h : FAt w base v f) (hb : Below w.heap.size w w') : FAt w' base v f :=
 h.touch (Turns.of_below (S := fun _ => False) hb) (fun _ _ _ _ h => h) (fun _ _ h => h)
structure DD where
 fs : List FD
 room : Nat
 fuse : Nat
 down : Bool
structure DAt (w : World) (base db : Nat) (vs : List FV) (d : DD) : Prop where
 row : w.heap[db]? = some (.cells (dA vs d.room d.fuse d.down) 105 (0, 0))
 low : base ≤ db
 n3 : vs.length = 3
 m3 : d.fs.length = 3
 each : ∀ (i : Nat) v f, vs[i]? = some v → d.fs[i]? = some f → FAt w base v f
 apart : ∀ (i j : Nat) v v' k, vs[i]? = some v → vs[j]? = some v' → v.sv.ownBlock = some k → v'.sv.ownBlock = some k → i = j
 room1 : 1 ≤ d.room ∧ d.room ≤ 65536
 fuse1 : d.fuse ≤ 9223372036854775807
 used : usedL d.fs ≤ d.room
 few : ∀ f ∈ d.fs, f.steps.length ≤ 4398046511104
theorem DAt.below {w w' : World} {base db : Nat} {vs : List FV} {d : DD} (h : DAt w base db vs d) (hb : Below w.heap.size w w') : DAt w' base db vs d :=
 ⟨Below.keepOld hb h.row, h.low, h.n3, h.m3, fun i v f h1 h2 => (h.each i v f h1 h2).below hb, h.apart, h.room1, h.fuse1, h.used, h.few⟩
theorem list3 {α : Type} {l : List α} (h : l.length = 3) : ∃ a b c, l = [a, b, c] := by
 match l, h with
 | [a, b, c], _ => exact ⟨a, b, c, rfl⟩
theorem dA_cells {vs : List FV} (h : vs.length = 3) (room fuse : Nat) (down : Bool) : (dA vs room fuse down)[12]? = some (.int .i64 (room : Int)) ∧ (dA vs room fuse down)[13]? = some (.int .i64 (fuse : Int)) ∧ (dA vs room fuse down)[14]? = some (.bool down) ∧
  ∀ (i : Nat) (hi : i < vs.length), (dA vs room fuse down)[i * 4]? = some vs[i].kv ∧ (dA vs room fuse down)[i * 4 + 1]? = some vs[i].nv ∧ (dA vs room fuse down)[i * 4 + 2]? = some vs[i].sv ∧ (dA vs room fuse down)[i * 4 + 3]? = some (.int .i64 (vs[i].nd : Int)) := by
 obtain ⟨a, b, c, rfl⟩ := list3 h
 refine ⟨rfl, rfl, rfl, fun i hi => ?_⟩
 match i, hi with
 | 0, _ => exact ⟨rfl, rfl, rfl, rfl⟩
 | 1, _ => exact ⟨rfl, rfl, rfl, rfl⟩
 | 2, _ => exact ⟨rfl, rfl, rfl, rfl⟩
theorem DAt.cells {w : World} {base db : Nat} {vs : List FV} {d : DD} (h : DAt w base db vs d) : w.cell? ⟨db, 12, none⟩ = some (.int .i64 (d.room : Int)) ∧ w.cell? ⟨db, 13, none⟩ = some (.int .i64 (d.fuse : Int)) ∧ w.cell? ⟨db, 14, none⟩ = some (.bool d.down) ∧ ∀ j, w.frozen? ⟨db, j, none⟩ = false := by
 obtain ⟨h1, h2, h3, h4⟩ := dA_cells h.n3 d.room d.fuse d.down
 refine ⟨by rw [cell_of_row _ _ _ _ _ _ h.row]; exact h1, by rw [cell_of_row _ _ _ _ _ _ h.row]; exact h2, by rw [cell_of_row _ _ _ _ _ _ h.row]; exact h3, fun j => frozen_of_row _ _ _ _ _ h.row⟩
theorem DAt.file {w : World} {base db : Nat} {vs : List FV} {d : DD} (h : DAt w base db vs d) (i : Nat) (hi : i < vs.length) : w.cell? ⟨db, i * 4, none⟩ = some vs[i].kv ∧ w.cell? ⟨db, i * 4 + 1, none⟩ = some vs[i].nv ∧ w.cell? ⟨db, i * 4 + 2, none⟩ = some vs[i].sv ∧ w.cell? ⟨db, i * 4 + 3, none⟩ = some (.int .i64 (vs[i].nd : Int)) := by
 obtain ⟨h1, h2, h3, h4⟩ := dA_cells h.n3 d.room d.fuse d.down
 obtain ⟨g1, g2, g3, g4⟩ := h4 i hi
 exact ⟨by rw [cell_of_row _ _ _ _ _ _ h.row]; exact g1, by rw [cell_of_row _ _ _ _ _ _ h.row]; exact g2, by rw [cell_of_row _ _ _ _ _ _ h.row]; exact g3, by rw [cell_of_row _ _ _ _ _ _ h.row]; exact g4⟩
theorem dA_set {vs : List FV} (h : vs.length = 3) (room fuse : Nat) (down : Bool) : (∀ f : Nat, (dA vs room fuse down).setIfInBounds 13 (.int .i64 (f : Int)) = dA vs room f down) ∧ (∀ b : Bool, (dA vs room fuse down).setIfInBounds 14 (.bool b) = dA vs room fuse b) ∧
  ∀ (i : Nat) (hi : i < vs.length), (∀ x, (dA vs room fuse down).setIfInBounds (i * 4) x = dA (vs.set i ⟨x, vs[i].nv, vs[i].sv, vs[i].nd⟩) room fuse down) ∧ (∀ x, (dA vs room fuse down).setIfInBounds (i * 4 + 1) x = dA (vs.set i ⟨vs[i].kv, x, vs[i].sv, vs[i].nd⟩) room fuse down) ∧
   (∀ x, (dA vs room fuse down).setIfInBounds (i * 4 + 2) x = dA (vs.set i ⟨vs[i].kv, vs[i].nv, x, vs[i].nd⟩) room fuse down) ∧ (∀ n : Nat, (dA vs room fuse down).setIfInBounds (i * 4 + 3) (.int .i64 (n : Int)) = dA (vs.set i ⟨vs[i].kv, vs[i].nv, vs[i].sv, n⟩) room fuse down) := by
 obtain ⟨a, b, c, rfl⟩ := list3 h
 refine ⟨fun f => rfl, fun b => rfl, fun i hi => ?_⟩
 match i, hi with
 | 0, _ => exact ⟨fun _ => rfl, fun _ => rfl, fun _ => rfl, fun _ => rfl⟩
 | 1, _ => exact ⟨fun _ => rfl, fun _ => rfl, fun _ => rfl, fun _ => rfl⟩
 | 2, _ => exact ⟨fun _ => rfl, fun _ => rfl, fun _ => rfl, fun _ => rfl⟩
end Go.Proofs.YtnejjfglkindjaaGreatDoor.Dk
namespace Go.Proofs.YtnejjfglkindjaaGreatDoor.Dk
open Go.RowKit Go.Mir
theorem none_any {base db : Nat} {vs : List FV} {d : DD} (w : World) (h : DAt w base db vs d) : Calls Tryz.prog 44 #[.pointer (some ⟨db, 0, none⟩)] w fun e w' => e = .returned (.bool false) ∧ w = w' := by
 have hc := h.cells.1
 have hr : ((d.room : Int) == 0) = false := by rw [beq_eq_false_iff_ne]; have := h.room1; omega
 clear h
 go_enter Tryz.func44, Tryz.ntmps44
 go_wp2_with fail
 go_ret
 exact ⟨rfl, rfl⟩
theorem at_in {base db : Nat} {vs : List FV} {d : DD} (w : World) (h : DAt w base db vs d) (i : Nat) (hi : i < 3) : Calls Tryz.prog 92 #[.pointer (some ⟨db, 0, none⟩), .int .i64 (i : Int)] w fun e w' => e = .returned (.pointer (some ⟨db, i * 4, none⟩)) ∧ w = w' := by
 have H := Lib.hid h
 clear h
 have e1 : decide ((i : Int) < 0) = false := decide_eq_false (by omega)
 have e2 : decide ((3 : Int) ≤ (i : Int)) = false := decide_eq_false (by omega)
 have e3 : decide (3 ≤ i) = false := decide_eq_false (by omega)
 have hi1 : (i : Int) < 3 := by omega
 have hi0 : (0 : Int) ≤ (i : Int) := by omega
 go_enter Tryz.func92, Tryz.ntmps92
 go_wp2_with fail
 refine (none_any w H.out).mono ?_
 rintro e w' ⟨rfl, rfl⟩
 go_wp2_with fail
 go_ret
 exact ⟨by simp, rfl⟩
def DD.burn (d : DD) : DD := if 0 < d.fuse then ⟨d.fs, d.room, d.fuse - 1, decide (d.fuse = 1)⟩ else d
theorem DAt.reRow {w w' : World} {base db : Nat} {vs : List FV} {d : DD} {fuse : Nat} {down : Bool} (h : DAt w base db vs d) (ht : Turns (fun k => k = db) w w') (hr : w'.heap[db]? = some (.cells (dA vs d.room fuse down) 105 (0, 0))) (hf : fuse ≤ 9223372036854775807) : DAt w' base db vs ⟨d.fs, d.room, fuse, down⟩ := by
 have hid : ∀ k M fr, w.heap[k]? = some (.cells M 5 fr) → ¬ k = db := fun k M fr hk e => by
  subst e
  rw [h.row] at hk
  injection hk with e1
  injection e1 with _ e2
  exact absurd e2 (by decide)
 refine ⟨hr, h.low, h.n3, h.m3, fun i v f h1 h2 => (h.each i v f h1 h2).touch ht hid (fun k hk e => ?_), h.apart, h.room1, hf, h.used, h.few⟩
 obtain ⟨vals, ho, _⟩ := (h.each i v f h1 h2).steps
 exact own_ne_cells' ho h.row (by decide) k hk e
theorem cell_put {w : World} {db off : Nat} {M : Array Value} {t : TypeId} (v : Value) (h : w.heap[db]? = some (.cells M t (0, 0))) : (w.setCell ⟨db, off, none⟩ v).heap[db]? = some (.cells (M.setIfInBounds off v) t (0, 0)) := by rw [heap_setCell_same _ _ _ _ _ _ h]
theorem burn_any {base db : Nat} {vs : List FV} {d : DD} (w : World) (h : DAt w base db vs d) : Calls Tryz.prog 96 #[.pointer (some ⟨db, 0, none⟩)] w fun e w' => e = .returned (.bool d.burn.down) ∧ DAt w' base db vs d.burn ∧ Turns (fun k => k = db) w w' := by
 have H := Lib.hid h
 obtain ⟨_, hc1, hc2, hfz⟩ := h.cells
 have hf1 := h.fuse1
 clear h
 by_cases h0 : 0 < d.fuse
 ·have e1 : decide ((0 : Int) < (d.fuse : Int)) = true := decide_eq_true (by omega)
  have e10 : decide (0 < d.fuse) = true := decide_eq_true h0
  have hw1 : IntKind.i64.wrap ((d.fuse : Int) - 1) = ((d.fuse - 1 : Nat) : Int) := by rw [IntWalk.i64_in _ (by omega)]; omega
  have hsb : (d.fuse : Int) - 1 = ((d.fuse - 1 : Nat) : Int) := by omega
  have e2 : (((d.fuse - 1 : Nat) : Int) == 0) = decide (d.fuse = 1) := by
   rw [Bool.eq_iff_iff, beq_iff_eq, decide_eq_true_iff]; omega
  have HB : Hid (d.burn = ⟨d.fs, d.room, d.fuse - 1, decide (d.fuse = 1)⟩) := by show _ = _; unfold DD.burn; rw [if_pos h0]
  have HLE : Hid (d.fuse - 1 ≤ 9223372036854775807) := by show _ ≤ _; omega
  have HF : Hid (DAt ((w.setCell ⟨db, 13, none⟩ (.int .i64 ((d.fuse - 1 : Nat) : Int))).setCell ⟨db, 14, none⟩ (.bool (decide (d.fuse = 1)))) base db vs d.burn) := by
   show DAt _ _ _ _ _
   rw [HB.out]
   refine H.out.reRow (((Turns.refl (fun k => k = db) w).setCell (p := ⟨db, 13, none⟩) (fun _ => rfl) _).setCell (p := ⟨db, 14, none⟩) (fun _ => rfl) _) ?_ HLE.out
   obtain ⟨s1, s2, _⟩ := dA_set H.out.n3 d.room d.fuse d.down
   obtain ⟨s1', s2', _⟩ := dA_set H.out.n3 d.room (d.fuse - 1) d.down
   have r2 := cell_put (off := 13) (.int .i64 ((d.fuse - 1 : Nat) : Int)) H.out.row
   rw [s1] at r2
   have r3 := cell_put (off := 14) (.bool (decide (d.fuse = 1))) r2
   rw [s2'] at r3
   exact r3
  have HT : Hid (Turns (fun k => k = db) w ((w.setCell ⟨db, 13, none⟩ (.int .i64 ((d.fuse - 1 : Nat) : Int))).setCell ⟨db, 14, none⟩ (.bool (decide (d.fuse = 1))))) := ((Turns.refl (fun k => k = db) w).setCell (p := ⟨db, 13, none⟩) (fun _ => rfl) _).setCell (p := ⟨db, 14, none⟩) (fun _ => rfl) _
  have HD : Hid (d.burn.down = decide (d.fuse = 1)) := by show _ = _; rw [HB.out]
  clear h0
  go_enter Tryz.func96, Tryz.ntmps96
  go_wp2_with fail
  go_ret
  exact ⟨by rw [HD.out]; rfl, HF.out, HT.out⟩
 ·have e1 : decide ((0 : Int) < (d.fuse : Int)) = false := decide_eq_false (by omega)
  have e10 : decide (0 < d.fuse) = false := decide_eq_false h0
  have HB : Hid (d.burn = d) := by show _ = _; unfold DD.burn; rw [if_neg h0]
  clear h0
  go_enter Tryz.func96, Tryz.ntmps96
  go_wp2_with fail
  go_ret
  rw [HB.out]
  exact ⟨rfl, H.out, Turns.refl _ _⟩
set_option maxRecDepth 100000 in
theorem used_any {base db : Nat} {vs : List FV} {d : DD} (w : World) (h : DAt w base db vs d) : Calls Tryz.prog 93 #[.pointer (some ⟨db, 0, none⟩)] w fun e w' => e = .returned (.int .i64 (usedL d.fs : Int)) ∧ w = w' := by
 have H := Lib.hid h
 have hu := h.used
 have hr := h.room1
 have hm3 := h.m3
 have hn3 := h.n3
 clear h
 go_enter Tryz.func93, Tryz.ntmps93
 go_wp2_with fail
 refine (none_any w H.out).mono ?_
 rintro e w' ⟨rfl, rfl⟩
 go_wp2_with fail
 go_loop [3, 7] (fun a j => ∃ k : Nat, k ≤ 3 ∧ j = .int .i64 k ∧ a = .int .i64 (usedL (d.fs.take k) : Int)) (fun _ j => 3 - (intOf j).toNat)
 case atStart => exact ⟨0, by omega, rfl, rfl⟩
 case round =>
  obtain ⟨k, hk, rfl, rfl⟩ := hrel
  by_cases hlt : k < 3
  ·have hd : decide ((k : Int) < 3) = true := decide_eq_true (by omega)
   have hd2 : decide (k < 3) = true := decide_eq_true (by omega)
   have hc := (H.out.file k (by omega)).2.2.2
   have hne : (vs[k]'(by omega)).nd = (d.fs[k]'(by omega)).need := (H.out.each k _ _ (List.getElem?_eq_getElem (by omega)) (List.getElem?_eq_getElem (by omega))).need
   rw [hne] at hc
   have HS := Lib.hid (usedL_take_succ (l := d.fs) (k := k) (by omega))
   have hle := usedL_take_le (l := d.fs) (k + 1)
   rw [HS.out] at hle
   generalize (d.fs[k]'(by omega)).need = nd at *
   generalize usedL (d.fs.take k) = acc at *
   have hk1 : (k : Int) < 3 := by omega
   have hk0 : (0 : Int) ≤ (k : Int) := by omega
   have hw1 : IntKind.i64.wrap ((acc : Int) + (nd : Int)) = (acc : Int) + (nd : Int) := IntWalk.i64_in _ (by omega)
   clear hne
   go_wp2_with fail
   go_round
   case rel => exact ⟨k + 1, by omega, by go_num, by rw [HS.out, Int.natCast_add]⟩
   case measure => simp [intOf]; omega
  ·have hd : decide ((k : Int) < 3) = false := decide_eq_false (by omega)
   have hd2 : decide (k < 3) = false := decide_eq_false (by omega)
   have HT : Hid (d.fs.take k = d.fs) := by show _ = _; rw [List.take_of_length_le (by omega)]
   rw [HT.out]
   go_wp2_with fail
   go_ret
   exact ⟨rfl, rfl⟩
theorem room_any {base db : Nat} {vs : List FV} {d : DD} (w : World) (h : DAt w base db vs d) : Calls Tryz.prog 64 #[.pointer (some ⟨db, 0, none⟩)] w fun e w' => e = .returned (.int .i64 (d.room : Int)) ∧ w = w' := by
 have H := Lib.hid h
 have hc := h.cells.1
 clear h
 go_enter Tryz.func64, Tryz.ntmps64
 go_wp2_with fail
 refine (none_any w H.out).mono ?_
 rintro e w' ⟨rfl, rfl⟩
 go_wp2_with fail
 go_ret
 exact ⟨rfl, rfl⟩
theorem down_any {base db : Nat} {vs : List FV} {d : DD} (w : World) (h : DAt w base db vs d) : Calls Tryz.prog 19 #[.pointer (some ⟨db, 0, none⟩)] w fun e w' => e = .returned (.bool d.down) ∧ w = w' := by
 have H := Lib.hid h
 have hc := h.cells.2.2.1
 clear h
 go_enter Tryz.func19, Tryz.ntmps19
 go_wp2_with fail
 refine (none_any w H.out).mono ?_
 rintro e w' ⟨rfl, rfl⟩
 go_wp2_with fail
 go_ret
 exact ⟨rfl, rfl⟩
def FV.zero : FV := ⟨.slice none 0 0, .slice none 0 0, .slice none 0 0, 0⟩
def DD.new (room : Nat) : DD := ⟨[FD.none, FD.none, FD.none], room, 0, false⟩
def NewP (room : Nat) (w : World) (e : Ending) (w' : World) : Prop := ∃ db vs, e = .returned (.tuple #[.pointer (some ⟨db, 0, none⟩), .int .i64 0]) ∧ DAt w' w.heap.size db vs (DD.new room) ∧ Below w.heap.size w w'
theorem new_any (room : Nat) (w : World) (h : 1 ≤ room ∧ room ≤ 65536) : Calls Tryz.prog 16 #[.int .i64 (room : Int)] w (NewP room w) := by
 obtain ⟨h1, h2⟩ := h
 have e1 : decide ((room : Int) < 1) = false := decide_eq_false (by omega)
 have e2 : decide (65536 < (room : Int)) = false := decide_eq_false (by omega)
 have e3 : decide (65536 < room) = false := decide_eq_false (by omega)
 have e4 : decide (room < 1) = false := decide_eq_false (by omega)
 have HB := Lib.hid (Below.allocs w (.cells (dA [FV.zero, FV.zero, FV.zero] room 0 false) 105))
 have HD : Hid (DAt (w.alloc (.cells (dA [FV.zero, FV.zero, FV.zero] room 0 false) 105)) w.heap.size w.heap.size [FV.zero, FV.zero, FV.zero] (DD.new room)) := by
  refine ⟨heap_alloc_last _ _, Nat.le_refl _, rfl, rfl, fun i v f h3 h4 => ?_, fun i j v v' k h3 h4 h5 => ?_, ⟨h1, h2⟩, Nat.zero_le _, Nat.zero_le _, fun f hf => ?_⟩
  ·have hv : v = FV.zero := by
    have := List.mem_of_getElem? h3
    simpa using this
   have hf : f = FD.none := by
    have := List.mem_of_getElem? h4
    simpa [DD.new] using this
   subst hv hf
   exact ⟨.inl ⟨rfl, rfl⟩, .inl ⟨rfl, rfl⟩, ⟨[], World.ownsRow_nil _ _ _ _, fun i x s h => by simp at h⟩, rfl, FD.none_ok⟩
  ·have hv : v = FV.zero := by
    have := List.mem_of_getElem? h3
    simpa using this
   subst hv
   simp [FV.zero, Value.ownBlock] at h5
  ·have : f = FD.none := by simpa [DD.new] using hf
   subst this
   exact Nat.zero_le _
 go_enter Tryz.func16, Tryz.ntmps16
 go_wp2_with fail
 go_ret2
 exact ⟨_, [FV.zero, FV.zero, FV.zero], rfl, HD.out, HB.out⟩
end Go.Proofs.YtnejjfglkindjaaGreatDoor.Dk
namespace Go.Proofs.YtnejjfglkindjaaGreatDoor.Dk
open Go.RowKit Go.Mir
theorem info8 : (Tryz.prog.info? 5).map (fun i => (i.zero, i.size, i.bytes)) = some (some (.int .u8 0), 1, 1) := by kernel_rfl
theorem wpList_append_rd {w : World} {ops : Array Oper} {rest : List Oper} {o : Oper} {a : Act} {Q : Exit → Act → World → Prop} (hgd : o.guard = none) (s x : Operand)
  (ho : o.op = .call { callee := .builtin .append, args := #[s, x], argTypes := #[22, 22] })
  {base : Nat} {p2 : Option Addr} {n2 : Nat} {l l2 : List UInt8} (hs : a.eval s = .slice p2 n2 n2) (hR : Rd w base (.slice p2 n2 n2) l)
  {px : Option Addr} {m c : Nat} (hx : a.eval x = .slice px m c) (hS : Bs w px m c l2) (hb : n2 + m ≤ 140737488355328) (hbase : base ≤ w.heap.size)
  (h : ∀ p' c' w', Rd w' base (.slice p' (n2 + m) c') (l ++ l2) → Below w.heap.size w w' → wpList Tryz.prog ops Q rest (a.put o.dst (.slice p' (n2 + m) c')) w') : wpList Tryz.prog ops Q (o :: rest) a w := by
 obtain ⟨i, hi0, hz, hsize, hby⟩ := info_parts info8
 have hnl : n2 = l.length := by
  obtain ⟨p', c', e, _⟩ := hR.bs
  cases e; rfl
 have hm : l2.length = m := hS.length
 by_cases hm0 : m = 0
 ·subst hm0
  have hl2 : l2 = [] := List.length_eq_zero_iff.1 hm
  subst hl2
  refine wpList_plain hgd fun K hK => ?_
  have hsrc : Src Tryz.prog i.size 22 (.slice px 0 c) 0 [] w := by
   cases px with
   | none => exact Src.ofNil w Tryz.underlying22 c
   | some ad => exact Src.ofSlice w Tryz.underlying22 ad 0 c [] (by simp) (fun j u hu => by simp at hu) (fun u hu => by simp at hu)
  have hr := run_append_nothing (P := Tryz.prog) w 22 22 o.type 5 i Tryz.underlying22 hi0 p2 n2 n2 (Nat.le_refl _) _ hsrc
  unfold Oper.wp execOp
  simp only [ho, resolve, invoke, builtin, Sem.run_bind, Sem.run_pure, Result.andThen_ok, List.map_toArray, List.map_cons, List.map_nil, hs, hx, hr]
  exact hK _ _ (h p2 n2 w (by simpa using hR) (Below.refl _ _))
 ·obtain ⟨ab, ao, rfl⟩ := hS.addr (by omega) (by omega)
  rcases hR with ⟨hv, rfl⟩ | ⟨g, cap, cur, hv, h2, h3, h4, h5, h6, h7⟩
  ·cases hv
   refine wpList_append_nx (w := w) hgd s x 22 ho (base := w.heap.size) Tryz.underlying22 info8 rfl (by omega) hs (World.ownsRow_nil w _ _ _) hx hS (bytesV_one _) ⟨by omega, by omega⟩ (Nat.le_refl _) ?_
   intro p' c' w' ho' hg _ _
   rw [List.nil_append] at ho'
   refine h p' c' w' ?_ ((Below.refl _ _).grown hg (Nat.le_refl _) (fun k hk => by simp [Value.ownBlock] at hk))
   rw [List.nil_append, ← hm, Nat.zero_add]
   rw [← hm, Nat.zero_add] at ho'
   exact (Rd.of_own ho').base hbase
  ·cases hv
   refine wpList_plain hgd fun K hK => ?_
   have hcells : ∀ j u, (bytesV l)[j]? = some u → w.cell? ((⟨g, 0, none⟩ : Addr).add j) = some u := fun j u hu => by
    have hj : j < l.length := by have := (List.getElem?_eq_some_iff.1 hu).1; rwa [bytesV_length] at this
    rw [add_none, Nat.zero_add, cell_of_row _ _ _ _ _ _ h3, ← Array.getElem?_toList]
    rw [← h7, List.getElem?_take, if_pos hj] at hu
    exact hu
   obtain ⟨v', w', hr, k1, k2⟩ := run_append_arg_grows (P := Tryz.prog) w 22 o.type 5 i (.int .u8 0) 1 1 Tryz.underlying22 hi0 hz hsize hby rfl (by omega) ⟨g, 0, none⟩ l.length l.length (bytesV l) (by rw [bytesV_length, Nat.mul_one]) hcells ⟨ab, ao, none⟩ m c (bytesV l2) hS.len (hS.cell _ rfl) (by omega) (by simp only [maxLen]; omega) (by omega)
   unfold Oper.wp execOp
   simp only [ho, resolve, invoke, builtin, Sem.run_bind, Sem.run_pure, Result.andThen_ok, List.map_toArray, List.map_cons, List.map_nil, hs, hx, hr]
   obtain ⟨p', c', rfl, hsl⟩ := own_sl k1
   refine hK _ _ (h p' c' w' ?_ ⟨k2.os, k2.tape, k2.output, k2.size, fun k hk => k2.block k hk (by simp)⟩)
   rw [← hm] at k1 ⊢
   rw [← bytesV_append] at k1
   have : (l ++ l2).length = l.length + l2.length := List.length_append
   rw [← this] at k1 ⊢
   exact (Rd.of_own k1).base hbase
theorem sl_take8 {w : World} {p : Option Addr} {n c k : Nat} {l : List UInt8} (h : Bs w p n c l) (hk : k ≤ n) : Bs w p k c (l.take k) :=
 ⟨by rw [bytesV_length, List.length_take, h.length, Nat.mul_one]; exact Nat.min_eq_left hk, Nat.le_trans hk h.le, h.max, h.nil0, fun a ha j u hu => by
  rw [show bytesV (l.take k) = (bytesV l).take k by simp [bytesV, List.map_take], List.getElem?_take] at hu
  split at hu
  ·exact h.cell a ha j u hu
  ·cases hu⟩
theorem putUnits_any (p : Option Addr) (n c : Nat) (w : World) : Calls Tryz.prog 156 #[.agg #[.slice p n c]] w fun e w' => e = .returned (.int .i64 (n : Int)) ∧ Below w.heap.size w w' := by
 have HB := Lib.hid (Below.allocs w (.cells #[.slice p n c] 109))
 have hc : (w.alloc (.cells #[.slice p n c] 109)).cell? ⟨w.heap.size, 0, none⟩ = some (.slice p n c) := by rw [cell_of_row _ _ _ _ _ _ (heap_alloc_last _ _)]; rfl
 go_enter Tryz.func156, Tryz.ntmps156
 go_wp2_with fail
 go_ret
 exact ⟨rfl, HB.out⟩
theorem cutUnits_any (n : Int) (w : World) : Calls Tryz.prog 162 #[.agg #[.int .i64 n]] w fun e w' => e = .returned (.int .i64 1) ∧ Below w.heap.size w w' := by
 have HB := Lib.hid (Below.allocs w (.cells #[.int .i64 n] 169))
 go_enter Tryz.func162, Tryz.ntmps162
 go_wp2_with fail
 go_ret
 exact ⟨rfl, HB.out⟩
def RdP (base : Nat) (l : List UInt8) (w : World) (e : Ending) (w' : World) : Prop := ∃ p c, e = .returned (.slice p l.length c) ∧ Rd w' base (.slice p l.length c) l ∧ Below w.heap.size w w'
set_option maxRecDepth 100000 in
theorem putDo_any {base : Nat} (p : Option Addr) (n c : Nat) (b : List UInt8) (p2 : Option Addr) (n2 c2 : Nat) (l : List UInt8) (u : Nat) (w : World) (hb : Rd w base (.slice p n c) b) (hl : Rd w base (.slice p2 n2 c2) l) (hu : u ≤ n) (hbase : base ≤ w.heap.size) (hsz : n2 + u ≤ 140737488355328) :
  Calls Tryz.prog 155 #[.agg #[.slice p n c], .slice p2 n2 c2, .int .i64 (u : Int)] w (RdP base (l ++ b.take u) w) := by
 obtain ⟨p', c', e1, hbs⟩ := hb.bs
 cases e1
 obtain ⟨p2', c2', e2, hls⟩ := hl.bs
 cases e2
 have hba := Below.allocs w (.cells #[.slice p b.length c] 109)
 have HB := Lib.hid hba
 have HS := Lib.hid (sl_take8 (hbs.below hba) hu)
 have HL := Lib.hid ((hl.below hba).full)
 have hcap := hbs.le
 have hmax := hbs.max
 have hcap2 := hls.le
 have hmax2 := hls.max
 have HBL : Hid (base ≤ (w.alloc (.cells #[.slice p b.length c] 109)).heap.size) := Nat.le_trans hbase hba.size
 have hc : (w.alloc (.cells #[.slice p b.length c] 109)).cell? ⟨w.heap.size, 0, none⟩ = some (.slice p b.length c) := by rw [cell_of_row _ _ _ _ _ _ (heap_alloc_last _ _)]; rfl
 clear hba hb hl hbs hls
 go_enter Tryz.func155, Tryz.ntmps155
 go_upto_region 1 with fail
 generalize w.alloc (.cells #[.slice p b.length c] 109) = w1 at *
 refine wp_region_tail 10 (by kernel_rfl) (by kernel_rfl) ?_
 simp only [List.take_succ_cons, List.take_zero, List.drop_succ_cons, List.drop_zero]
 have HBD := Lib.hid (HB.out.trans (below_drew1 w.heap.size w1))
 have HSD : Hid (Bs w1.drew p u c (b.take u)) := HS.out.below (below_drew1 _ _)
 have HLD : Hid (Rd w1.drew base (.slice p2 l.length l.length) l) := HL.out.below (below_drew1 _ _)
 have HBLD : Hid (base ≤ w1.drew.heap.size) := HBL.out
 have hcd : w1.drew.cell? ⟨w.heap.size, 0, none⟩ = some (.slice p b.length c) := hc
 generalize w1.drew = wd at *
 have huc : u ≤ c := by omega
 repeat still_step
 refine wpStill_nil ?_
 go_wp2_with (refine wpList_append_rd rfl _ _ rfl rfl HLD.out rfl HSD.out (by omega) HBLD.out ?_)
 intro p9 c9 w9 hr9 hb9
 have HR9 := Lib.hid hr9
 have HB9 := Lib.hid (HBD.out.trans (hb9.mono HBD.out.size))
 have HLN : Hid ((l ++ b.take u).length = l.length + u) := by show _ = _; rw [List.length_append, List.length_take]; omega
 clear hr9 hb9
 go_wp2_with fail
 go_ret
 exact ⟨p9, c9, by rw [HLN.out]; rfl, by rw [HLN.out]; exact HR9.out, HB9.out⟩
theorem cutDo_any {base : Nat} (n : Nat) (p2 : Option Addr) (n2 c2 : Nat) (l : List UInt8) (u : Nat) (w : World) (hl : Rd w base (.slice p2 n2 c2) l) (hn : u = 0 ∨ n ≤ l.length) (hu : u ≤ 1) :
  Calls Tryz.prog 161 #[.agg #[.int .i64 (n : Int)], .slice p2 n2 c2, .int .i64 (u : Int)] w (RdP base ((St.cut n).act l u) w) := by
 obtain ⟨p2', c2', e2, hls⟩ := hl.bs
 cases e2
 have hba := Below.allocs w (.cells #[.int .i64 (n : Int)] 169)
 have HB := Lib.hid hba
 have HL := Lib.hid (hl.below hba)
 have hcap2 := hls.le
 have hmax2 := hls.max
 have hc : (w.alloc (.cells #[.int .i64 (n : Int)] 169)).cell? ⟨w.heap.size, 0, none⟩ = some (.int .i64 (n : Int)) := by rw [cell_of_row _ _ _ _ _ _ (heap_alloc_last _ _)]; rfl
 clear hba hl hls
 by_cases h0 : u = 0
 ·subst h0
  go_enter Tryz.func161, Tryz.ntmps161
  go_wp2_with fail
  go_ret
  exact ⟨p2, c2, rfl, HL.out, HB.out⟩
 ·have hnl : n ≤ l.length := by omega
  have hnc : n ≤ c2 := by omega
  have hu1 : u = 1 := by omega
  have hub : ((u : Int) == 0) = false := by rw [beq_eq_false_iff_ne]; omega
  have HA : Hid ((St.cut n).act l u = l.take n) := by show _ = _; simp [St.act, h0]
  have HN : Hid ((l.take n).length = n) := by show _ = _; rw [List.length_take]; omega
  have HC := Lib.hid (HL.out.cut n hnl)
  clear h0 hu1 hn
  go_enter Tryz.func161, Tryz.ntmps161
  go_wp2_with fail
  go_ret
  exact ⟨p2, c2, by rw [HA.out, HN.out]; rfl, by rw [HA.out, HN.out]; exact HC.out, HB.out⟩
theorem Rd.lens {w : World} {base : Nat} {p : Option Addr} {n c : Nat} {l : List UInt8} (h : Rd w base (.slice p n c) l) : n = l.length ∧ n ≤ c ∧ c ≤ 9223372036854775807 := by
 obtain ⟨p', c', e, hb⟩ := h.bs
 cases e
 exact ⟨rfl, hb.le, hb.max⟩
theorem ta_pp (v : Value) (w : World) : (Instr.typeAssert (.iface 109 v) 165 109 true).run Tryz.prog w = .ok (.tuple #[v, .bool true]) w := by kernel_rfl
theorem ta_cp (v : Value) (w : World) : (Instr.typeAssert (.iface 169 v) 165 109 true).run Tryz.prog w = .ok (.tuple #[.agg #[.slice none 0 0], .bool false]) w := by kernel_rfl
theorem ta_cc (v : Value) (w : World) : (Instr.typeAssert (.iface 169 v) 165 169 true).run Tryz.prog w = .ok (.tuple #[v, .bool true]) w := by kernel_rfl
theorem ta_pc (v : Value) (w : World) : (Instr.typeAssert (.iface 109 v) 165 169 true).run Tryz.prog w = .ok (.tuple #[.agg #[.int .i64 0], .bool false]) w := by kernel_rfl
theorem after_any {base db : Nat} {vs : List FV} {d : DD} (w : World) (h : DAt w base db vs d) (i : Nat) (hi : i < d.fs.length) (sv : Value) (s : St) (hs : StAt w base sv s) (hsz : s.size d.fs[i].now.length ≤ 4611686018427387904) :
  Calls Tryz.prog 94 #[.pointer (some ⟨db, i * 4, none⟩), sv] w fun e w' => e = .returned (.int .i64 (s.size d.fs[i].now.length : Int)) ∧ Below w.heap.size w w' := by
 have hv : i < vs.length := by have := h.n3; have := h.m3; omega
 have hc := (h.file i hv).2.1
 have hf := h.each i _ _ (List.getElem?_eq_getElem hv) (List.getElem?_eq_getElem hi)
 obtain ⟨pn, cn, e, hb⟩ := hf.now.bs
 rw [e] at hc
 generalize d.fs[i] = f at *
 cases s with
 | put b =>
  obtain ⟨bv, rfl, hrd⟩ := hs
  obtain ⟨p, c, rfl, hbs⟩ := hrd.bs
  have hle := hbs.le
  have hmax := hbs.max
  have hle2 := hb.le
  have hmax2 := hb.max
  have HBB := Lib.hid (Below.allocs w (.cells #[.slice p b.length c] 109))
  have hc2 : (w.alloc (.cells #[.slice p b.length c] 109)).cell? ⟨db, i * 4 + 1, none⟩ = some (.slice pn f.now.length cn) := by rw [HBB.out.cell (block_lt_of_cell hc)]; exact hc
  have hc0 : (w.alloc (.cells #[.slice p b.length c] 109)).cell? ⟨w.heap.size, 0, none⟩ = some (.slice p b.length c) := by rw [cell_of_row _ _ _ _ _ _ (heap_alloc_last _ _)]; rfl
  have hw1 : IntKind.i64.wrap ((f.now.length : Int) + (b.length : Int)) = (f.now.length : Int) + (b.length : Int) := IntWalk.i64_in _ (by simp only [St.size] at hsz; omega)
  have HSZ : Hid ((St.put b).size f.now.length = f.now.length + b.length) := rfl
  have hta := ta_pp
  have hg1 := cell_grown hc2
  have hg0 := cell_grown hc0
  have HF := Lib.hid hsz
  clear hrd hbs hb hf e hsz h hc hc2 hc0
  go_enter Tryz.func94, Tryz.ntmps94
  go_upto_region 4 with fail
  clear hta
  generalize w.alloc (.cells #[.slice p b.length c] 109) = w1 at *
  refine wp_region_grow (by kernel_rfl) (by kernel_rfl) ?_
  repeat (first
   | ((with_reducible refine wpQuietGd ?_); (with_reducible refine wpQuiet_skip ?_ ?_); (· rfl); simp only [Act.put, zA, zB, zC])
   | quiet_step (fail))
  refine wpQuiet_nil ?_
  intro w2 hb2
  have HB2 := Lib.hid (HBB.out.trans (hb2.mono HBB.out.size))
  clear hb2 hg1 hg0
  go_wp2_with fail
  go_ret
  exact ⟨by rw [HSZ.out, Int.natCast_add]; rfl, HB2.out⟩
 | cut n =>
  cases hs
  have HBB := Lib.hid (Below.allocs w (.cells #[.int .i64 (n : Int)] 169))
  have hc0 : (w.alloc (.cells #[.int .i64 (n : Int)] 169)).cell? ⟨w.heap.size, 0, none⟩ = some (.int .i64 (n : Int)) := by rw [cell_of_row _ _ _ _ _ _ (heap_alloc_last _ _)]; rfl
  have hta := ta_cp
  have htc := ta_cc
  clear hb hf e hsz h hc
  go_enter Tryz.func94, Tryz.ntmps94
  go_wp2_with fail
  go_ret
  exact ⟨rfl, HBB.out⟩
end Go.Proofs.YtnejjfglkindjaaGreatDoor.Dk
namespace Go.Proofs.YtnejjfglkindjaaGreatDoor.Dk
open Go.RowKit Go.Mir
theorem unitsAll_take_succ {l : List St} {k : Nat} (h : k < l.length) : unitsAll (l.take (k + 1)) = unitsAll (l.take k) + l[k].units := by
 rw [List.take_succ_eq_append_getElem h, unitsAll_snoc]
theorem unitsAll_take_le {l : List St} (k : Nat) : unitsAll (l.take k) ≤ unitsAll l := by
 induction l generalizing k with
 | nil => simp
 | cons x l ih =>
  cases k with
  | zero => exact Nat.zero_le _
  | succ k => rw [List.take_succ_cons, unitsAll, unitsAll]; have := ih k; omega
theorem mPutUnits (x : Value) (w0 : World) : (method 355 109 x "mirador/disk.units").run Tryz.prog w0 = .ok (156, x) w0 := by kernel_rfl
theorem mCutUnits (x : Value) (w0 : World) : (method 355 169 x "mirador/disk.units").run Tryz.prog w0 = .ok (162, x) w0 := by kernel_rfl
theorem invUnits_any {base : Nat} (w : World) (sv : Value) (s : St) (hs : StAt w base sv s) : ∃ x,
  (sv = .iface 109 x ∧ ∀ w0 : World, Calls Tryz.prog 156 #[x] w0 fun e w' => e = .returned (.int .i64 (s.units : Int)) ∧ Below w0.heap.size w0 w') ∨
  (sv = .iface 169 x ∧ ∀ w0 : World, Calls Tryz.prog 162 #[x] w0 fun e w' => e = .returned (.int .i64 (s.units : Int)) ∧ Below w0.heap.size w0 w') := by
 cases s with
 | put b =>
  obtain ⟨bv, rfl, hrd⟩ := hs
  obtain ⟨p, c, rfl, hbs⟩ := hrd.bs
  exact ⟨_, .inl ⟨rfl, fun w0 => putUnits_any _ _ _ _⟩⟩
 | cut n =>
  cases hs
  exact ⟨_, .inr ⟨rfl, fun w0 => cutUnits_any _ _⟩⟩
set_option maxRecDepth 100000 in
theorem fileUnits_any {base db : Nat} {vs : List FV} {d : DD} (w : World) (h : DAt w base db vs d) (i : Nat) (hi : i < d.fs.length) :
  Calls Tryz.prog 45 #[.pointer (some ⟨db, i * 4, none⟩)] w fun e w' => e = .returned (.int .i64 (unitsAll d.fs[i].steps : Int)) ∧ Below w.heap.size w w' := by
 have hv : i < vs.length := by have := h.n3; have := h.m3; omega
 have hc := (h.file i hv).2.2.1
 have hf := h.each i _ _ (List.getElem?_eq_getElem hv) (List.getElem?_eq_getElem hi)
 have hfew := h.few _ (List.getElem_mem hi)
 obtain ⟨vals, ho, hst⟩ := hf.steps
 obtain ⟨p, c, e, hs⟩ := own_sl ho
 have hun := hf.ok.un
 rw [e] at hc
 generalize d.fs[i] = f at *
 have HS := Lib.hid hs
 have HST := Lib.hid hst
 have hle := hs.le
 have hmax := hs.max
 have HVL : Hid (vals.length = f.steps.length) := by show _ = _; have := hs.len; omega
 clear ho hst hs e hf h
 go_enter Tryz.func45, Tryz.ntmps45
 go_wp2_with fail
 go_loopw [3, 11] (fun a j wr => ∃ k : Nat, k ≤ f.steps.length ∧ j = .int .i64 k ∧ a = .int .i64 (unitsAll (f.steps.take k) : Int) ∧ Below w.heap.size w wr) (fun _ j _ => f.steps.length - (intOf j).toNat)
 case atStart => exact ⟨0, by omega, rfl, rfl, Below.refl _ _⟩
 case round =>
  obtain ⟨k, hk, rfl, rfl, hb⟩ := hrel
  have HB := Lib.hid hb
  by_cases hlt : k < f.steps.length
  ·have hd : decide ((k : Int) < (f.steps.length : Int)) = true := decide_eq_true (by omega)
   have hd2 : decide (k < f.steps.length) = true := decide_eq_true hlt
   obtain ⟨g, o, rfl⟩ := HS.out.addr (by omega) (by omega)
   have hkv : k < vals.length := by rw [HVL.out]; exact hlt
   have hcell : wr.cell? ⟨g, o + k, none⟩ = some (vals[k]'hkv) := cell_below (HS.out.at (List.getElem?_eq_getElem hkv)) hb
   have HSK := Lib.hid (unitsAll_take_succ (l := f.steps) hlt)
   have hle2 := unitsAll_take_le (l := f.steps) (k + 1)
   rw [HSK.out] at hle2
   obtain ⟨x, hinv⟩ := invUnits_any w _ _ (HST.out k _ _ (List.getElem?_eq_getElem hkv) (List.getElem?_eq_getElem hlt))
   generalize f.steps[k] = s at *
   generalize unitsAll (f.steps.take k) = acc at *
   have hw1 : IntKind.i64.wrap ((acc : Int) + (s.units : Int)) = (acc : Int) + (s.units : Int) := IntWalk.i64_in _ (by omega)
   clear hb
   rcases hinv with ⟨hx, hcl⟩ | ⟨hx, hcl⟩
   ·rw [hx] at hcell
    have HCL := Lib.hid hcl
    have hm := mPutUnits
    clear hcl hx
    go_wp2_with fail
    refine (HCL.out _).mono ?_
    rintro e w2 ⟨rfl, hb2⟩
    have HB2 := Lib.hid (HB.out.trans (hb2.mono HB.out.size))
    clear hb2
    go_wp2_with fail
    go_roundw
    case rel => exact ⟨k + 1, by omega, by go_num, by rw [HSK.out, Int.natCast_add], HB2.out⟩
    case measure => simp [intOf]; omega
   ·rw [hx] at hcell
    have HCL := Lib.hid hcl
    have hm := mCutUnits
    clear hcl hx
    go_wp2_with fail
    refine (HCL.out _).mono ?_
    rintro e w2 ⟨rfl, hb2⟩
    have HB2 := Lib.hid (HB.out.trans (hb2.mono HB.out.size))
    clear hb2
    go_wp2_with fail
    go_roundw
    case rel => exact ⟨k + 1, by omega, by go_num, by rw [HSK.out, Int.natCast_add], HB2.out⟩
    case measure => simp [intOf]; omega
  ·have hd : decide ((k : Int) < (f.steps.length : Int)) = false := decide_eq_false (by omega)
   have hd2 : decide (k < f.steps.length) = false := decide_eq_false hlt
   have HT : Hid (f.steps.take k = f.steps) := by show _ = _; rw [List.take_of_length_le (by omega)]
   rw [HT.out]
   go_wp2_with fail
   go_ret
   exact ⟨rfl, HB.out⟩
end Go.Proofs.YtnejjfglkindjaaGreatDoor.Dk
namespace Go.Proofs.YtnejjfglkindjaaGreatDoor.Dk
open Go.RowKit Go.Mir
theorem someU_take : ∀ (l : List St) (b : List UInt8) (u k : Nat), someU b (l.take k) u = someU b l (min u (unitsAll (l.take k)))
 | l, b, u, 0 => by rw [List.take_zero, unitsAll, Nat.min_zero, someU_zero, someU]
 | [], b, u, k + 1 => by simp [someU]
 | s :: r, b, u, k + 1 => by
  rw [List.take_succ_cons, someU, someU, unitsAll, someU_take r _ _ k]
  have h1 : min (min u (s.units + unitsAll (r.take k))) s.units = min u s.units := by omega
  have h2 : min u (s.units + unitsAll (r.take k)) - min u s.units = min (u - min u s.units) (unitsAll (r.take k)) := by omega
  rw [h1, h2]
theorem okAll_at : ∀ (l : List St) (b : List UInt8) (k : Nat) (hk : k < l.length), okAll b l → (l[k]).ok (runAll b (l.take k)).length
 | s :: r, b, 0, _, h => h.1
 | s :: r, b, k + 1, hk, h => by
  have := okAll_at r (s.act b s.units) k (by simpa using hk) h.2
  simpa [runAll] using this
theorem some_ok {l : List St} {b : List UInt8} {k u : Nat} (hk : k < l.length) (h : okAll b l) (hu : ¬ min (u - unitsAll (l.take k)) l[k].units = 0) : (l[k]).ok (someU b (l.take k) u).length := by
 rw [someU_all _ _ _ (by omega)]
 exact okAll_at l b k hk h
theorem mPutDo (x : Value) (w0 : World) : (method 355 109 x "mirador/disk.do").run Tryz.prog w0 = .ok (155, x) w0 := by kernel_rfl
theorem mCutDo (x : Value) (w0 : World) : (method 355 169 x "mirador/disk.do").run Tryz.prog w0 = .ok (161, x) w0 := by kernel_rfl
theorem nPutDo (x : Value) (w0 : World) : (nilAhead 355 109 x "mirador/disk.do").run Tryz.prog w0 = .ok (some false) w0 := by kernel_rfl
theorem nCutDo (x : Value) (w0 : World) : (nilAhead 355 169 x "mirador/disk.do").run Tryz.prog w0 = .ok (some false) w0 := by kernel_rfl
theorem inv_any {base : Nat} {w : World} {sv : Value} {s : St} (hs : StAt w base sv s) : ∃ x,
  (sv = .iface 109 x ∧ (∀ w0 : World, Calls Tryz.prog 156 #[x] w0 fun e w' => e = .returned (.int .i64 (s.units : Int)) ∧ Below w0.heap.size w0 w') ∧
   ∀ (p2 : Option Addr) (n2 c2 : Nat) (l : List UInt8) (u : Nat), u ≤ s.units → (¬ u = 0 → s.ok l.length) → n2 + u ≤ 140737488355328 → ∀ w0 : World, Below w.heap.size w w0 → base ≤ w0.heap.size → Rd w0 base (.slice p2 n2 c2) l → Calls Tryz.prog 155 #[x, .slice p2 n2 c2, .int .i64 (u : Int)] w0 (RdP base (s.act l u) w0)) ∨
  (sv = .iface 169 x ∧ (∀ w0 : World, Calls Tryz.prog 162 #[x] w0 fun e w' => e = .returned (.int .i64 (s.units : Int)) ∧ Below w0.heap.size w0 w') ∧
   ∀ (p2 : Option Addr) (n2 c2 : Nat) (l : List UInt8) (u : Nat), u ≤ s.units → (¬ u = 0 → s.ok l.length) → n2 + u ≤ 140737488355328 → ∀ w0 : World, Below w.heap.size w w0 → base ≤ w0.heap.size → Rd w0 base (.slice p2 n2 c2) l → Calls Tryz.prog 161 #[x, .slice p2 n2 c2, .int .i64 (u : Int)] w0 (RdP base (s.act l u) w0)) := by
 cases s with
 | put b =>
  obtain ⟨bv, rfl, hrd⟩ := hs
  obtain ⟨p, c, rfl, hbs⟩ := hrd.bs
  exact ⟨_, .inl ⟨rfl, fun w0 => putUnits_any _ _ _ _, fun p2 n2 c2 l u hu hok hsz w0 hb hbase hl => putDo_any p _ c b p2 n2 c2 l u w0 (hrd.below hb) hl hu hbase hsz⟩⟩
 | cut n =>
  cases hs
  refine ⟨_, .inr ⟨rfl, fun w0 => cutUnits_any _ _, fun p2 n2 c2 l u hu hok hsz w0 hb hbase hl => cutDo_any n p2 n2 c2 l u w0 hl ?_ hu⟩⟩
  by_cases h0 : u = 0
  ·exact .inl h0
  ·exact .inr (hok h0)
structure Mid (w wr : World) (base db : Nat) (vs : List FV) (d : DD) (i : Nat) (v : FV) : Prop where
 row : wr.heap[db]? = some (.cells (dA (vs.set i v) d.room d.fuse d.down) 105 (0, 0))
 turn : Turns (fun k => k = db) w wr
theorem Mid.cells {w wr : World} {base db : Nat} {vs : List FV} {d : DD} {i : Nat} {v : FV} (h : Mid w wr base db vs d i v) (h3 : vs.length = 3) (hi : i < vs.length) : wr.cell? ⟨db, i * 4, none⟩ = some v.kv ∧ wr.cell? ⟨db, i * 4 + 1, none⟩ = some v.nv ∧ wr.cell? ⟨db, i * 4 + 2, none⟩ = some v.sv ∧ wr.cell? ⟨db, i * 4 + 3, none⟩ = some (.int .i64 (v.nd : Int)) ∧ ∀ j, wr.frozen? ⟨db, j, none⟩ = false := by
 have hl : (vs.set i v).length = 3 := by rw [List.length_set]; exact h3
 obtain ⟨h1, h2, h3', h4⟩ := dA_cells hl d.room d.fuse d.down
 obtain ⟨g1, g2, g3, g4⟩ := h4 i (by rw [List.length_set]; exact hi)
 rw [List.getElem_set_self] at g1 g2 g3 g4
 exact ⟨by rw [cell_of_row _ _ _ _ _ _ h.row]; exact g1, by rw [cell_of_row _ _ _ _ _ _ h.row]; exact g2, by rw [cell_of_row _ _ _ _ _ _ h.row]; exact g3, by rw [cell_of_row _ _ _ _ _ _ h.row]; exact g4, fun j => frozen_of_row _ _ _ _ _ h.row⟩
theorem Mid.below {w wr w' : World} {base db : Nat} {vs : List FV} {d : DD} {i : Nat} {v : FV} (h : Mid w wr base db vs d i v) (hb : Below wr.heap.size wr w') : Mid w w' base db vs d i v :=
 ⟨Below.keepOld hb h.row, h.turn.trans (Turns.of_below hb) (fun _ _ h => h)⟩
theorem Mid.put {w wr : World} {base db : Nat} {vs : List FV} {d : DD} {i : Nat} {v : FV} (h : Mid w wr base db vs d i v) (h3 : vs.length = 3) (hi : i < vs.length) :
  (∀ x, Mid w (wr.setCell ⟨db, i * 4, none⟩ x) base db vs d i ⟨x, v.nv, v.sv, v.nd⟩) ∧ (∀ x, Mid w (wr.setCell ⟨db, i * 4 + 1, none⟩ x) base db vs d i ⟨v.kv, x, v.sv, v.nd⟩) ∧ (∀ x, Mid w (wr.setCell ⟨db, i * 4 + 2, none⟩ x) base db vs d i ⟨v.kv, v.nv, x, v.nd⟩) ∧ (∀ n : Nat, Mid w (wr.setCell ⟨db, i * 4 + 3, none⟩ (.int .i64 (n : Int))) base db vs d i ⟨v.kv, v.nv, v.sv, n⟩) := by
 have hl : (vs.set i v).length = 3 := by rw [List.length_set]; exact h3
 obtain ⟨_, _, h4⟩ := dA_set hl d.room d.fuse d.down
 obtain ⟨g1, g2, g3, g4⟩ := h4 i (by rw [List.length_set]; exact hi)
 rw [List.getElem_set_self, ] at g1 g2 g3 g4
 simp only [List.set_set] at g1 g2 g3 g4
 refine ⟨fun x => ⟨?_, h.turn.setCell (p := ⟨db, i * 4, none⟩) (fun _ => rfl) _⟩, fun x => ⟨?_, h.turn.setCell (p := ⟨db, i * 4 + 1, none⟩) (fun _ => rfl) _⟩, fun x => ⟨?_, h.turn.setCell (p := ⟨db, i * 4 + 2, none⟩) (fun _ => rfl) _⟩, fun n => ⟨?_, h.turn.setCell (p := ⟨db, i * 4 + 3, none⟩) (fun _ => rfl) _⟩⟩
 ·rw [← g1 x]; exact cell_put x h.row
 ·rw [← g2 x]; exact cell_put x h.row
 ·rw [← g3 x]; exact cell_put x h.row
 ·rw [← g4 n]; exact cell_put _ h.row
theorem Rd.turn {w w' : World} {base db : Nat} {vs : List FV} {d : DD} {v : Value} {l : List UInt8} (h : DAt w base db vs d) (hr : Rd w base v l) (ht : Turns (fun k => k = db) w w') : Rd w' base v l :=
 hr.touch ht (fun k M fr hk e => by
  subst e
  rw [h.row] at hk
  injection hk with e1
  injection e1 with _ e2
  exact absurd e2 (by decide))
def setF (d : DD) (i : Nat) (f : FD) : DD := ⟨d.fs.set i f, d.room, d.fuse, d.down⟩
def SettleP (base db : Nat) (vs : List FV) (d : DD) (i : Nat) (f : FD) (w : World) (e : Ending) (w' : World) : Prop := e = .returned (.tuple #[]) ∧ (∃ vs', DAt w' base db vs' (setF d i f) ∧ ∀ v ∈ vs', ∀ k, v.sv.ownBlock = some k → ∃ v0 ∈ vs, v0.sv.ownBlock = some k) ∧ Turns (fun k => k = db) w w'
theorem settle_end {w w' : World} {base db : Nat} {vs : List FV} {d : DD} {i u : Nat} {f : FD} {kv : Value} (h : DAt w base db vs d) (hi : i < d.fs.length) (hv : i < vs.length) (hf : d.fs[i] = f) (hm : Mid w w' base db vs d i ⟨kv, kv, .slice none 0 0, (someU f.kept f.steps u).length⟩) (hr : Rd w' base kv (someU f.kept f.steps u)) :
  DAt w' base db (vs.set i ⟨kv, kv, .slice none 0 0, (someU f.kept f.steps u).length⟩) (setF d i (f.settle u)) := by
 have hid : ∀ k M fr, w.heap[k]? = some (.cells M 5 fr) → ¬ k = db := fun k M fr hk e => by
  subst e
  rw [h.row] at hk
  injection hk with e1
  injection e1 with _ e2
  exact absurd e2 (by decide)
 have hle : (someU f.kept f.steps u).length ≤ f.need := by
  have := (h.each i _ _ (List.getElem?_eq_getElem hv) (List.getElem?_eq_getElem hi)).ok.all u
  rwa [hf] at this
 refine ⟨hm.row, h.low, by rw [List.length_set]; exact h.n3, by show (d.fs.set i _).length = 3; rw [List.length_set]; exact h.m3, ?_, ?_, h.room1, h.fuse1, ?_, ?_⟩
 ·intro j v g h1 h2
  replace h2 : (d.fs.set i (f.settle u))[j]? = some g := h2
  rw [List.getElem?_set] at h1 h2
  by_cases hij : i = j
  ·subst hij
   rw [if_pos rfl, if_pos hv] at h1
   rw [if_pos rfl, if_pos hi] at h2
   cases h1; cases h2
   exact ⟨hr, hr, ⟨[], World.ownsRow_nil _ _ _ _, fun i x s h => by simp at h⟩, rfl, FD.settle_ok f u⟩
  ·rw [if_neg hij] at h1 h2
   obtain ⟨vals, ho, _⟩ := (h.each j v g h1 h2).steps
   exact (h.each j v g h1 h2).touch hm.turn hid (fun k hk => own_ne_cells' ho h.row (by decide) k hk)
 ·intro j j' v v' k h1 h2 h3 h4
  rw [List.getElem?_set] at h1 h2
  by_cases hij : i = j
  ·subst hij
   rw [if_pos rfl, if_pos hv] at h1
   cases h1
   simp [Value.ownBlock] at h3
  ·by_cases hij' : i = j'
   ·subst hij'
    rw [if_pos rfl, if_pos hv] at h2
    cases h2
    simp [Value.ownBlock] at h4
   ·rw [if_neg hij] at h1
    rw [if_neg hij'] at h2
    exact h.apart j j' v v' k h1 h2 h3 h4
 ·show usedL (d.fs.set i _) ≤ d.room
  have h1 := usedL_set hi (f.settle u)
  rw [hf] at h1
  have h2 : (f.settle u).need = (someU f.kept f.steps u).length := rfl
  have h3 := h.used
  omega
 ·intro g hg
  rcases List.mem_or_eq_of_mem_set hg with hg | hg
  ·exact h.few g hg
  ·rw [hg]; exact Nat.zero_le _
set_option maxRecDepth 100000 in
set_option maxHeartbeats 1600000 in
theorem settle_any {base db : Nat} {vs : List FV} {d : DD} (w : World) (h : DAt w base db vs d) (hbase : base ≤ w.heap.size) (i : Nat) (hi : i < d.fs.length) (f : FD) (hf : d.fs[i] = f) (u : Nat) (hu : u ≤ 4611686018427387904) :
  Calls Tryz.prog 46 #[.pointer (some ⟨db, i * 4, none⟩), .int .i64 (u : Int)] w (SettleP base db vs d i (f.settle u) w) := by
 have hv : i < vs.length := by have := h.n3; have := h.m3; omega
 have HM0 : Hid (Mid w w base db vs d i (vs[i]'hv)) := ⟨by rw [List.set_getElem_self]; exact h.row, Turns.refl _ _⟩
 have H := Lib.hid h
 have HFE := Lib.hid hf
 have hc := (h.file i hv).2.2.1
 have hF := h.each i _ _ (List.getElem?_eq_getElem hv) (List.getElem?_eq_getElem hi)
 rw [hf] at hF
 have hfew := h.few _ (List.getElem_mem hi)
 rw [hf] at hfew
 obtain ⟨vals, ho, hst⟩ := hF.steps
 obtain ⟨p, c, e, hs⟩ := own_sl ho
 have HNE : Hid (f.need ≤ 65536) := by
  show _ ≤ _
  have h1 := usedL_mem hi
  rw [hf] at h1
  have := h.used
  have := h.room1
  omega
 have HOK := Lib.hid hF.ok
 have HKP := Lib.hid hF.kept
 have hun := hF.ok.un
 rw [e] at hc
 have HSV := Lib.hid e
 have HGN : Hid (∀ a, p = some a → ¬ a.block = db) := fun a ha => by
  have := own_ne_cells' ho H.out.row (by decide) a.block (by rw [e, ha]; rfl)
  exact this
 have HS := Lib.hid hs
 have HST := Lib.hid hst
 have hle := hs.le
 have hmax := hs.max
 have HVL : Hid (vals.length = f.steps.length) := by show _ = _; have := hs.len; omega
 have HBASE := Lib.hid hbase
 have HI := Lib.hid hi
 have HV := Lib.hid hv
 generalize hvv : vs[i] = v0 at *
 clear ho hst hs e hF h hf hvv
 go_enter Tryz.func46, Tryz.ntmps46
 go_wp2_with fail
 clear hc
 go_loopw [1, 12] (fun a j wr => ∃ (k : Nat) (kv : Value), k ≤ f.steps.length ∧ j = .int .i64 k ∧ a = .int .i64 ((u - unitsAll (f.steps.take k) : Nat) : Int) ∧ Mid w wr base db vs d i ⟨kv, v0.nv, v0.sv, v0.nd⟩ ∧ Rd wr base kv (someU f.kept (f.steps.take k) u)) (fun _ j _ => f.steps.length - (intOf j).toNat)
 case atStart => exact ⟨0, v0.kv, by omega, rfl, rfl, HM0.out, HKP.out⟩
 case round =>
  obtain ⟨k, kv, hk, rfl, rfl, hmid, hrd⟩ := hrel
  have HMID := Lib.hid hmid
  have HRD := Lib.hid hrd
  clear hmid hrd
  by_cases hlt : k < f.steps.length
  ·have hd : decide ((k : Int) < (f.steps.length : Int)) = true := decide_eq_true (by omega)
   have hd2 : decide (k < f.steps.length) = true := decide_eq_true hlt
   obtain ⟨g, o, rfl⟩ := HS.out.addr (by omega) (by omega)
   have hkv : k < vals.length := by rw [HVL.out]; exact hlt
   have hsat := HST.out k _ _ (List.getElem?_eq_getElem hkv) (List.getElem?_eq_getElem hlt)
   have HSTP := Lib.hid (someU_snoc (f.steps[k]) (f.steps.take k) f.kept u)
   rw [← List.take_succ_eq_append_getElem hlt] at HSTP
   have HUN := Lib.hid (unitsAll_take_succ (l := f.steps) hlt)
   have HSO := Lib.hid (fun h0 => some_ok (u := u) hlt HOK.out.ok h0)
   have HKB : Hid ((someU f.kept (f.steps.take k) u).length ≤ 65536) := by
    show _ ≤ _
    rw [someU_take]
    exact Nat.le_trans (HOK.out.all _) HNE.out
   have hcw : wr.cell? ⟨g, o + k, none⟩ = some (vals[k]'hkv) := HMID.out.turn.cell (HS.out.at (List.getElem?_eq_getElem hkv)) (fun e => HGN.out ⟨g, o, none⟩ rfl e)
   have hid8 : ∀ k M fr, w.heap[k]? = some (.cells M 5 fr) → ¬ k = db := fun k M fr hk e => by
    subst e
    have hr := H.out.row
    rw [hr] at hk
    injection hk with e1
    injection e1 with _ e2
    exact absurd e2 (by decide)
   have HEU := Lib.hid (HOK.out.eu _ (List.getElem_mem hlt))
   obtain ⟨x, hinv⟩ := inv_any (hsat.touch HMID.out.turn hid8)
   obtain ⟨pk, ck, hkv2, hbs⟩ := HRD.out.bs
   subst hkv2
   generalize f.steps[k] = s at *
   generalize hkb : someU f.kept (f.steps.take k) u = kb at *
   generalize hua : unitsAll (f.steps.take k) = ua at *
   obtain ⟨hc0, hc1, hc2, hc3, hfz⟩ := HMID.out.cells H.out.n3 HV.out
   obtain ⟨m, hm⟩ : ∃ m, m = min (u - ua) s.units := ⟨_, rfl⟩
   have hmi : (if ((s.units : Nat) : Int) < ((u - ua : Nat) : Int) then ((s.units : Nat) : Int) else ((u - ua : Nat) : Int)) = (m : Int) := by
    split <;> omega
   have hmi2 : (if s.units < u - ua then ((s.units : Nat) : Int) else ((u - ua : Nat) : Int)) = (m : Int) := by
    split <;> omega
   rcases hinv with ⟨hx, hcu, hcd⟩ | ⟨hx, hcu, hcd⟩
   ·rw [hx] at hcw
    have HCU := Lib.hid hcu
    have HCD := Lib.hid hcd
    have hm1 := mPutUnits
    have hm2 := mPutDo
    have hm3 := nPutDo
    clear hcu hcd hx hbs hsat hid8
    go_wp2_with fail
    refine (HCU.out _).mono ?_
    rintro e w2 ⟨rfl, hb2⟩
    go_upto_region 4 with fail
    rw [← hm]
    have HM2 := Lib.hid (HMID.out.below hb2)
    have HR2 := Lib.hid (HRD.out.below hb2)
    have HB2 := Lib.hid hb2
    have HMS : Hid (m ≤ s.units ∧ m ≤ u - ua ∧ m ≤ 65536 * 4398046511104 + 65536) := by
     show _ ∧ _ ∧ _
     have h1 := unitsAll_take_le (l := f.steps) (k + 1)
     rw [HUN.out] at h1
     omega
    have HOKM : Hid (¬ m = 0 → s.ok kb.length) := fun h0 => HSO.out (by rw [← hm]; exact h0)
    have HSTM : Hid (someU f.kept (f.steps.take (k + 1)) u = s.act kb m) := by show _ = _; rw [HSTP.out, hm]
    have HUM : Hid (u - unitsAll (f.steps.take (k + 1)) = u - ua - m) := by show _ = _; rw [HUN.out]; omega
    clear hm hmi hmi2 hb2 hc0 hc1 hc2 hc3 hfz hcw
    have hkc : Hid (∀ w', Below w2.heap.size w2 w' → w'.cell? ⟨db, i * 4, none⟩ = some (.slice pk kb.length ck)) := fun w' hb => (HM2.out.below hb).cells H.out.n3 HV.out |>.1
    have HBW : Hid (base ≤ w2.heap.size) := Nat.le_trans HBASE.out HM2.out.turn.size
    try simp only [Act.put, zA, zB, zC]
    refine wp_region_eager_t (Below w2.heap.size w2) [0, 1, 2, 3, 4, 5, 6, 7, 8, 9, 11, 12] [(0, true), (1, true), (2, true), (3, true), (4, true), (5, true), (6, true), (7, true), (8, true), (9, true), (10, false), (11, true), (12, true)] [13] (by kernel_rfl) (by kernel_rfl) ?_ (eagerTOpen rfl ?_)
    ·exact below_drew1 _ _
    have hy0 : Below w2.heap.size w2 w2.drew := below_drew1 _ _
    repeat (first
     | ((first | (apply wpEagerT_take; (· rfl); (· (intro w' hb'; go_simp; try with_reducible rfl))) | refine wpEagerT_skip (by rfl) ?_); (try simp only [Act.put, zA, zB, zC]); (try refine eagerTOpen rfl ?_))
     | (apply wpEagerT_take; (· rfl); (· (intro w' hb'; have hk' := (hkc.out) w' hb'; go_split_ands; go_simp; try with_reducible rfl)); (try simp only [Act.put, zA, zB, zC]); (try refine eagerTOpen rfl ?_)))
    (refine wpEagerT_op (by rfl) (fun K hK => ?_); go_simp; (refine (HCD.out pk kb.length ck kb m HMS.out.1 HOKM.out (by have := HKB.out; have := HMS.out; have := HEU.out; omega) _ (HB2.out.trans (hy0.mono HB2.out.size)) HBW.out (HR2.out.below hy0)).mono ?_; rintro e y ⟨p9, c9, rfl, hr9, hb9⟩; have HR9 := Lib.hid hr9; have hy1 : Below w2.heap.size w2 y := hy0.trans hb9; clear hr9 hb9); refine Shut.out hK _ _ (by assumption) ?_; clear hK K; (try simp only [Act.put, zA, zB, zC]); (try refine eagerTOpen rfl ?_))
    repeat ((first | (apply wpEagerT_take; (· rfl); (· (intro w' hb'; go_simp; try with_reducible rfl))) | refine wpEagerT_skip (by rfl) ?_); (try simp only [Act.put, zA, zB, zC]); (try refine eagerTOpen rfl ?_))
    refine eagerTEnd (tail1 rfl ?_)
    have HMY := Lib.hid (HM2.out.below hy1)
    obtain ⟨hc0, hc1, hc2, hc3, hfz⟩ := HMY.out.cells H.out.n3 HV.out
    have HMZ := Lib.hid ((HMY.out.put H.out.n3 HV.out).1 (.slice p9 (s.act kb m).length c9))
    have HRZ : Hid (Rd (y.setCell ⟨db, i * 4, none⟩ (.slice p9 (s.act kb m).length c9)) base (.slice p9 (s.act kb m).length c9) (s.act kb m)) := by
     have ht : Turns (fun k => k = db) y (y.setCell ⟨db, i * 4, none⟩ (.slice p9 (s.act kb m).length c9)) := (Turns.refl (fun k => k = db) y).setCell (p := ⟨db, i * 4, none⟩) (fun _ => rfl) _
     refine HR9.out.touch ht (fun k M fr hk e => ?_)
     subst e
     rw [HMY.out.row] at hk
     injection hk with e1
     injection e1 with _ e2
     exact absurd e2 (by decide)
    clear hy0 hy1
    go_wp2_with fail
    refine noPanic_end ?_
    generalize y.setCell ⟨db, i * 4, none⟩ (.slice p9 (s.act kb m).length c9) = wz at *
    have hsub : ((u - ua : Nat) : Int) - (m : Int) = ((u - ua - m : Nat) : Int) := by have := HMS.out; omega
    have hws : IntKind.i64.wrap (((u - ua : Nat) : Int) - (m : Int)) = ((u - ua - m : Nat) : Int) := by rw [hsub]; exact IntWalk.i64_in _ (by omega)
    clear hc0 hc1 hc2 hc3 hfz hkc hsub
    go_wp2_with fail
    go_roundw
    case rel => exact ⟨k + 1, _, by omega, by go_num, by rw [HUM.out], HMZ.out, by rw [HSTM.out]; exact HRZ.out⟩
    case measure => simp [intOf]; omega
   ·rw [hx] at hcw
    have HCU := Lib.hid hcu
    have HCD := Lib.hid hcd
    have hm1 := mCutUnits
    have hm2 := mCutDo
    have hm3 := nCutDo
    clear hcu hcd hx hbs hsat hid8
    go_wp2_with fail
    refine (HCU.out _).mono ?_
    rintro e w2 ⟨rfl, hb2⟩
    go_upto_region 4 with fail
    rw [← hm]
    have HM2 := Lib.hid (HMID.out.below hb2)
    have HR2 := Lib.hid (HRD.out.below hb2)
    have HB2 := Lib.hid hb2
    have HMS : Hid (m ≤ s.units ∧ m ≤ u - ua ∧ m ≤ 65536 * 4398046511104 + 65536) := by
     show _ ∧ _ ∧ _
     have h1 := unitsAll_take_le (l := f.steps) (k + 1)
     rw [HUN.out] at h1
     omega
    have HOKM : Hid (¬ m = 0 → s.ok kb.length) := fun h0 => HSO.out (by rw [← hm]; exact h0)
    have HSTM : Hid (someU f.kept (f.steps.take (k + 1)) u = s.act kb m) := by show _ = _; rw [HSTP.out, hm]
    have HUM : Hid (u - unitsAll (f.steps.take (k + 1)) = u - ua - m) := by show _ = _; rw [HUN.out]; omega
    clear hm hmi hmi2 hb2 hc0 hc1 hc2 hc3 hfz hcw
    have hkc : Hid (∀ w', Below w2.heap.size w2 w' → w'.cell? ⟨db, i * 4, none⟩ = some (.slice pk kb.length ck)) := fun w' hb => (HM2.out.below hb).cells H.out.n3 HV.out |>.1
    have HBW : Hid (base ≤ w2.heap.size) := Nat.le_trans HBASE.out HM2.out.turn.size
    try simp only [Act.put, zA, zB, zC]
    refine wp_region_eager_t (Below w2.heap.size w2) [0, 1, 2, 3, 4, 5, 6, 7, 8, 9, 11, 12] [(0, true), (1, true), (2, true), (3, true), (4, true), (5, true), (6, true), (7, true), (8, true), (9, true), (10, false), (11, true), (12, true)] [13] (by kernel_rfl) (by kernel_rfl) ?_ (eagerTOpen rfl ?_)
    ·exact below_drew1 _ _
    have hy0 : Below w2.heap.size w2 w2.drew := below_drew1 _ _
    repeat (first
     | ((first | (apply wpEagerT_take; (· rfl); (· (intro w' hb'; go_simp; try with_reducible rfl))) | refine wpEagerT_skip (by rfl) ?_); (try simp only [Act.put, zA, zB, zC]); (try refine eagerTOpen rfl ?_))
     | (apply wpEagerT_take; (· rfl); (· (intro w' hb'; have hk' := (hkc.out) w' hb'; go_split_ands; go_simp; try with_reducible rfl)); (try simp only [Act.put, zA, zB, zC]); (try refine eagerTOpen rfl ?_)))
    (refine wpEagerT_op (by rfl) (fun K hK => ?_); go_simp; (refine (HCD.out pk kb.length ck kb m HMS.out.1 HOKM.out (by have := HKB.out; have := HMS.out; have := HEU.out; omega) _ (HB2.out.trans (hy0.mono HB2.out.size)) HBW.out (HR2.out.below hy0)).mono ?_; rintro e y ⟨p9, c9, rfl, hr9, hb9⟩; have HR9 := Lib.hid hr9; have hy1 : Below w2.heap.size w2 y := hy0.trans hb9; clear hr9 hb9); refine Shut.out hK _ _ (by assumption) ?_; clear hK K; (try simp only [Act.put, zA, zB, zC]); (try refine eagerTOpen rfl ?_))
    repeat ((first | (apply wpEagerT_take; (· rfl); (· (intro w' hb'; go_simp; try with_reducible rfl))) | refine wpEagerT_skip (by rfl) ?_); (try simp only [Act.put, zA, zB, zC]); (try refine eagerTOpen rfl ?_))
    refine eagerTEnd (tail1 rfl ?_)
    have HMY := Lib.hid (HM2.out.below hy1)
    obtain ⟨hc0, hc1, hc2, hc3, hfz⟩ := HMY.out.cells H.out.n3 HV.out
    have HMZ := Lib.hid ((HMY.out.put H.out.n3 HV.out).1 (.slice p9 (s.act kb m).length c9))
    have HRZ : Hid (Rd (y.setCell ⟨db, i * 4, none⟩ (.slice p9 (s.act kb m).length c9)) base (.slice p9 (s.act kb m).length c9) (s.act kb m)) := by
     have ht : Turns (fun k => k = db) y (y.setCell ⟨db, i * 4, none⟩ (.slice p9 (s.act kb m).length c9)) := (Turns.refl (fun k => k = db) y).setCell (p := ⟨db, i * 4, none⟩) (fun _ => rfl) _
     refine HR9.out.touch ht (fun k M fr hk e => ?_)
     subst e
     rw [HMY.out.row] at hk
     injection hk with e1
     injection e1 with _ e2
     exact absurd e2 (by decide)
    clear hy0 hy1
    go_wp2_with fail
    refine noPanic_end ?_
    generalize y.setCell ⟨db, i * 4, none⟩ (.slice p9 (s.act kb m).length c9) = wz at *
    have hsub : ((u - ua : Nat) : Int) - (m : Int) = ((u - ua - m : Nat) : Int) := by have := HMS.out; omega
    have hws : IntKind.i64.wrap (((u - ua : Nat) : Int) - (m : Int)) = ((u - ua - m : Nat) : Int) := by rw [hsub]; exact IntWalk.i64_in _ (by omega)
    clear hc0 hc1 hc2 hc3 hfz hkc hsub
    go_wp2_with fail
    go_roundw
    case rel => exact ⟨k + 1, _, by omega, by go_num, by rw [HUM.out], HMZ.out, by rw [HSTM.out]; exact HRZ.out⟩
    case measure => simp [intOf]; omega
  ·have hd : decide ((k : Int) < (f.steps.length : Int)) = false := decide_eq_false (by omega)
   have hd2 : decide (k < f.steps.length) = false := decide_eq_false hlt
   have HT : Hid (f.steps.take k = f.steps) := by show _ = _; rw [List.take_of_length_le (by omega)]
   rw [HT.out] at HRD
   obtain ⟨pk, ck, hkv, hbs⟩ := HRD.out.bs
   subst hkv
   obtain ⟨hc0, hc1, hc2, hc3, hfz⟩ := HMID.out.cells H.out.n3 HV.out
   have hle2 := HRD.out.lens
   have HBW : Hid (base ≤ wr.heap.size) := Nat.le_trans HBASE.out HMID.out.turn.size
   have HBS := Lib.hid hbs
   have HL : Hid ((someU f.kept f.steps u).length ≤ 65536) := Nat.le_trans (HOK.out.all u) HNE.out
   generalize hkk : someU f.kept f.steps u = kk at *
   clear hbs
   obtain ⟨_, hkc, hcm⟩ := hle2
   have hL : kk.length ≤ 65536 := HL.out
   go_upto_region 8 with (refine wpList_append_nx rfl _ _ 22 rfl (base := wr.heap.size) Tryz.underlying22 info8 rfl (by omega) rfl (World.ownsRow_nil _ _ _ _) rfl HBS.out (bytesV_one _) ⟨by omega, by omega⟩ (Nat.le_refl _) ?_)
   intro p9 c9 w9 ho9 hg9 _ _
   have hb9 : Below wr.heap.size wr w9 := (Below.refl _ _).grown hg9 (Nat.le_refl _) (fun k hk => by simp [Value.ownBlock] at hk)
   have HR9 : Hid (Rd w9 base (.slice p9 kk.length c9) kk) := (Rd.of_own ho9).base HBW.out
   have HM9 := Lib.hid (HMID.out.below hb9)
   have HMA := Lib.hid ((HM9.out.put H.out.n3 HV.out).1 (.slice p9 kk.length c9))
   have hfz9 := (HM9.out.cells H.out.n3 HV.out).2.2.2.2
   have hc90 := (HM9.out.cells H.out.n3 HV.out).1
   clear ho9 hg9 hb9 hc0 hc1 hc2 hc3 hfz
   go_upto_region 8 with fail
   have HRA : Hid (Rd (w9.setCell ⟨db, i * 4, none⟩ (.slice p9 kk.length c9)) base (.slice p9 kk.length c9) kk) := by
    have ht : Turns (fun k => k = db) w9 (w9.setCell ⟨db, i * 4, none⟩ (.slice p9 kk.length c9)) := (Turns.refl (fun k => k = db) w9).setCell (p := ⟨db, i * 4, none⟩) (fun _ => rfl) _
    refine HR9.out.touch ht (fun k M fr hk e => ?_)
    subst e
    rw [HM9.out.row] at hk
    injection hk with e1
    injection e1 with _ e2
    exact absurd e2 (by decide)
   generalize w9.setCell ⟨db, i * 4, none⟩ (.slice p9 kk.length c9) = wa at *
   obtain ⟨hc0, hc1, hc2, hc3, hfz⟩ := HMA.out.cells H.out.n3 HV.out
   clear hfz9 hc90
   try simp only [Act.put, zA, zB, zC]
   go_region
   have HMB := Lib.hid ((HMA.out.put H.out.n3 HV.out).2.1 (.slice p9 kk.length c9))
   have HMC := Lib.hid ((HMB.out.put H.out.n3 HV.out).2.2.1 (.slice none 0 0))
   have HMD := Lib.hid ((HMC.out.put H.out.n3 HV.out).2.2.2 kk.length)
   have HT3 : Hid (Turns (fun k => k = db) wa (((wa.setCell ⟨db, i * 4 + 1, none⟩ (.slice p9 kk.length c9)).setCell ⟨db, i * 4 + 2, none⟩ (.slice none 0 0)).setCell ⟨db, i * 4 + 3, none⟩ (.int .i64 (kk.length : Int)))) :=
    (((Turns.refl (fun k => k = db) wa).setCell (p := ⟨db, i * 4 + 1, none⟩) (fun _ => rfl) _).setCell (p := ⟨db, i * 4 + 2, none⟩) (fun _ => rfl) _).setCell (p := ⟨db, i * 4 + 3, none⟩) (fun _ => rfl) _
   have HRB : Hid (Rd (((wa.setCell ⟨db, i * 4 + 1, none⟩ (.slice p9 kk.length c9)).setCell ⟨db, i * 4 + 2, none⟩ (.slice none 0 0)).setCell ⟨db, i * 4 + 3, none⟩ (.int .i64 (kk.length : Int))) base (.slice p9 kk.length c9) kk) := by
    refine HRA.out.touch HT3.out (fun k M fr hk e => ?_)
    subst e
    rw [HMA.out.row] at hk
    injection hk with e1
    injection e1 with _ e2
    exact absurd e2 (by decide)
   clear HMB HMC hc0 hc1 hc2 hc3 hfz HT3
   generalize ((wa.setCell ⟨db, i * 4 + 1, none⟩ (.slice p9 kk.length c9)).setCell ⟨db, i * 4 + 2, none⟩ (.slice none 0 0)).setCell ⟨db, i * 4 + 3, none⟩ (.int .i64 (kk.length : Int)) = wb at *
   have HME := Lib.hid (HMD.out.below (below_drew1 _ wb))
   have HRE := Lib.hid (HRB.out.below (below_drew1 _ wb))
   go_wp2_with fail
   go_end0
   refine ⟨rfl, ⟨_, settle_end H.out HI.out HV.out HFE.out (kv := .slice p9 kk.length c9) ?_ ?_, fun v hv k hk => ?_⟩, HME.out.turn⟩
   ·rw [hkk]; exact HME.out
   ·rw [hkk]; exact HRE.out
   ·rcases List.mem_or_eq_of_mem_set hv with hv | rfl
    ·exact ⟨v, hv, hk⟩
    ·simp [Value.ownBlock] at hk
end Go.Proofs.YtnejjfglkindjaaGreatDoor.Dk
namespace Go.Proofs.YtnejjfglkindjaaGreatDoor.Dk
open Go.RowKit Go.Mir
def DOwn (db : Nat) (vs : List FV) (k : Nat) : Prop := k = db ∨ ∃ v ∈ vs, v.sv.ownBlock = some k
theorem DAt.no8 {w : World} {base db : Nat} {vs : List FV} {d : DD} (h : DAt w base db vs d) : ∀ k M fr, w.heap[k]? = some (.cells M 5 fr) → ¬ DOwn db vs k := by
 intro k M fr hk hs
 rcases hs with rfl | ⟨v, hv, hs⟩
 ·rw [h.row] at hk
  injection hk with e1
  injection e1 with _ e2
  exact absurd e2 (by decide)
 ·obtain ⟨i, hi⟩ := List.mem_iff_getElem?.1 hv
  have hlt : i < d.fs.length := by rw [h.m3, ← h.n3]; exact (List.getElem?_eq_some_iff.1 hi).1
  obtain ⟨vals, ho, _⟩ := (h.each i v _ hi (List.getElem?_eq_getElem hlt)).steps
  exact own_ne_cells' ho hk (by decide) k hs rfl
theorem DAt.ownLt {w : World} {base db : Nat} {vs : List FV} {d : DD} (h : DAt w base db vs d) : ∀ k, DOwn db vs k → base ≤ k ∧ k < w.heap.size := by
 intro k hs
 rcases hs with rfl | ⟨v, hv, hs⟩
 ·exact ⟨h.low, (Array.getElem?_eq_some_iff.1 h.row).1⟩
 ·obtain ⟨i, hi⟩ := List.mem_iff_getElem?.1 hv
  have hlt : i < d.fs.length := by rw [h.m3, ← h.n3]; exact (List.getElem?_eq_some_iff.1 hi).1
  obtain ⟨vals, ho, _⟩ := (h.each i v _ hi (List.getElem?_eq_getElem hlt)).steps
  exact ho.lt k hs
def LeftD (base db : Nat) (vs : List FV) (d' : DD) (w w' : World) : Prop := ∃ vs', DAt w' base db vs' d' ∧ Turns (DOwn db vs) w w' ∧ (∀ k, DOwn db vs' k → DOwn db vs k ∨ w.heap.size ≤ k)
theorem take_end {w w3 : World} {base db : Nat} {vs : List FV} {d : DD} {i nd : Nat} {f : FD} {s : St} {v0 : FV} {nv sv : Value} {vals : List Value} {p' : Option Addr} {c' : Nat} (h : DAt w base db vs d) (hi : i < d.fs.length) (hv : i < vs.length) (hf : d.fs[i] = f) (hv0 : vs[i] = v0)
  (hvals : ∀ (i : Nat) x s, vals[i]? = some x → f.steps[i]? = some s → StAt w base x s) (hvl : vals.length = f.steps.length)
  (hrow : w3.heap[db]? = some (.cells (dA (vs.set i ⟨v0.kv, nv, v0.sv, nd⟩) d.room d.fuse d.down) 105 (0, 0))) (ht : Turns (fun k => k = db ∨ v0.sv.ownBlock = some k) w w3)
  (hnow : Rd w3 base nv (f.take s).now) (hnd : nd = (f.take s).need) (hown : w3.ownsRow base 165 1 (.slice p' (f.steps.length + 1) c') (f.steps.length + 1) (vals ++ [sv])) (hsv : StAt w3 base sv s)
  (hnx : ∀ k, (Value.slice p' (f.steps.length + 1) c').ownBlock = some k → v0.sv.ownBlock = some k ∨ w.heap.size ≤ k)
  (hok : s.ok f.now.length) (hu : s.units ≤ 65536) (hfew : f.steps.length + 1 ≤ 4398046511104) (hroom : usedL d.fs - f.need + (f.take s).need ≤ d.room) :
  LeftD base db vs (setF d i (f.take s)) w (w3.setCell ⟨db, i * 4 + 2, none⟩ (.slice p' (f.steps.length + 1) c')) := by
 have hF := h.each i _ _ (List.getElem?_eq_getElem hv) (List.getElem?_eq_getElem hi)
 rw [hf, hv0] at hF
 have hn3 : (vs.set i ⟨v0.kv, nv, v0.sv, nd⟩).length = 3 := by rw [List.length_set]; exact h.n3
 obtain ⟨_, _, h4⟩ := dA_set hn3 d.room d.fuse d.down
 obtain ⟨_, _, g3, _⟩ := h4 i (by rw [List.length_set]; exact hv)
 rw [List.getElem_set_self] at g3
 simp only [List.set_set] at g3
 have hrow4 := cell_put (off := i * 4 + 2) (.slice p' (f.steps.length + 1) c') hrow
 rw [g3] at hrow4
 have ht3 : Turns (fun k => k = db) w3 (w3.setCell ⟨db, i * 4 + 2, none⟩ (.slice p' (f.steps.length + 1) c')) := (Turns.refl (fun k => k = db) w3).setCell (p := ⟨db, i * 4 + 2, none⟩) (fun _ => rfl) _
 have ht4 : Turns (fun k => k = db ∨ v0.sv.ownBlock = some k) w (w3.setCell ⟨db, i * 4 + 2, none⟩ (.slice p' (f.steps.length + 1) c')) := ht.trans ht3 (fun _ _ h => .inl h)
 have hsub : ∀ k, (k = db ∨ v0.sv.ownBlock = some k) → DOwn db vs k := fun k hk => hk.imp id (fun hk => ⟨v0, by rw [← hv0]; exact List.getElem_mem hv, hk⟩)
 have hno3 : ∀ k M fr, w3.heap[k]? = some (.cells M 5 fr) → ¬ k = db := fun k M fr hk e => by
  subst e
  rw [hrow] at hk
  injection hk with e1
  injection e1 with _ e2
  exact absurd e2 (by decide)
 have hmem : v0 ∈ vs := by rw [← hv0]; exact List.getElem_mem hv
 refine ⟨vs.set i ⟨v0.kv, nv, .slice p' (f.steps.length + 1) c', nd⟩, ⟨hrow4, h.low, by rw [List.length_set]; exact h.n3, by show (d.fs.set i _).length = 3; rw [List.length_set]; exact h.m3, ?_, ?_, h.room1, h.fuse1, ?_, ?_⟩, ht4.imp (fun k _ hk => hsub k hk), ?_⟩
 ·intro j v g h1 h2
  replace h2 : (d.fs.set i (f.take s))[j]? = some g := h2
  rw [List.getElem?_set] at h1 h2
  by_cases hij : i = j
  ·subst hij
   rw [if_pos rfl, if_pos hv] at h1
   rw [if_pos rfl, if_pos hi] at h2
   cases h1; cases h2
   refine ⟨hF.kept.touch ht4 (fun k M fr hk hs => h.no8 k M fr hk (hsub k hs)), hnow.touch ht3 hno3, ⟨vals ++ [sv], ?_, ?_⟩, hnd, FD.take_ok hF.ok hok hu⟩
   ·have := own_touch hown ht3 (fun k hk => own_ne_cells' hown hrow (by decide) k hk)
    show World.ownsRow _ _ _ _ _ ((f.steps ++ [s]).length) _
    rw [List.length_append]
    exact this
   ·intro j x t hx ht
    replace ht : (f.steps ++ [s])[j]? = some t := ht
    by_cases hj : j < f.steps.length
    ·rw [List.getElem?_append_left (by omega)] at hx
     rw [List.getElem?_append_left hj] at ht
     exact (hvals j x t hx ht).touch ht4 (fun k M fr hk hs => h.no8 k M fr hk (hsub k hs))
    ·rw [List.getElem?_append_right (by omega)] at hx ht
     have hz : j - f.steps.length = 0 := by
      have := (List.getElem?_eq_some_iff.1 ht).1
      simp at this; omega
     rw [hvl, hz] at hx
     rw [hz] at ht
     cases hx; cases ht
     exact hsv.touch ht3 hno3
  ·rw [if_neg hij] at h1 h2
   obtain ⟨vals', ho, _⟩ := (h.each j v g h1 h2).steps
   refine (h.each j v g h1 h2).touch ht4 (fun k M fr hk hs => h.no8 k M fr hk (hsub k hs)) (fun k hk hs => ?_)
   rcases hs with hs | hs
   ·exact own_ne_cells' ho h.row (by decide) k hk hs
   ·exact hij (h.apart i j v0 v k (by rw [← hv0]; exact List.getElem?_eq_getElem hv) h1 hs hk)
 ·intro j j' v v' k h1 h2 h3 h4
  have key : ∀ (a : Nat) (va : FV), ¬ i = a → vs[a]? = some va → va.sv.ownBlock = some k → ¬ (Value.slice p' (f.steps.length + 1) c').ownBlock = some k := fun a va hia hva hk hk2 => by
   rcases hnx k hk2 with hn | hn
   ·exact hia (h.apart i a v0 va k (by rw [← hv0]; exact List.getElem?_eq_getElem hv) hva hn hk)
   ·have := (h.ownLt k (.inr ⟨va, List.mem_of_getElem? hva, hk⟩)).2
    omega
  rw [List.getElem?_set] at h1 h2
  by_cases hij : i = j
  ·subst hij
   rw [if_pos rfl, if_pos hv] at h1
   cases h1
   by_cases hij' : i = j'
   ·exact hij'
   ·rw [if_neg hij'] at h2
    exact absurd h3 (key j' v' hij' h2 h4)
  ·rw [if_neg hij] at h1
   by_cases hij' : i = j'
   ·subst hij'
    rw [if_pos rfl, if_pos hv] at h2
    cases h2
    exact absurd h4 (key j v hij h1 h3)
   ·rw [if_neg hij'] at h2
    exact h.apart j j' v v' k h1 h2 h3 h4
 ·show usedL (d.fs.set i _) ≤ d.room
  have h1 := usedL_set hi (f.take s)
  rw [hf] at h1
  have h2 := usedL_mem hi
  rw [hf] at h2
  omega
 ·intro g hg
  rcases List.mem_or_eq_of_mem_set hg with hg | hg
  ·exact h.few g hg
  ·rw [hg]; show (f.steps ++ [s]).length ≤ _; rw [List.length_append]; exact hfew
 ·intro k hk
  rcases hk with hk | ⟨v, hv', hk⟩
  ·exact .inl (.inl hk)
  ·rcases List.mem_or_eq_of_mem_set hv' with hv' | rfl
   ·exact .inl (.inr ⟨v, hv', hk⟩)
   ·rcases hnx k hk with hn | hn
    ·exact .inl (.inr ⟨v0, hmem, hn⟩)
    ·exact .inr hn
theorem infoStep : (Tryz.prog.info? 165).map (fun i => (i.zero, i.size, i.bytes)) = some (some .nilIface, 1, 16) := by kernel_rfl
theorem row_sl1 {w : World} {b : Nat} {v : Value} {t : TypeId} {fr : Nat × Nat} (h : w.heap[b]? = some (.cells #[v] t fr)) : Sl w (some ⟨b, 0, none⟩) 1 1 1 [v] :=
 ⟨rfl, by omega, by omega, fun h => (by cases h), fun a ha j u hu => by
  obtain rfl := Option.some.inj ha
  have hj : j = 0 := by have := (List.getElem?_eq_some_iff.1 hu).1; simp at this; exact this
  subst hj
  rw [add_none, cell_of_row _ _ _ _ _ _ h]
  simpa using hu⟩
set_option maxRecDepth 100000 in
set_option maxHeartbeats 1600000 in
theorem take_any {base db : Nat} {vs : List FV} {d : DD} (w : World) (h : DAt w base db vs d) (hbase : base ≤ w.heap.size) (i : Nat) (hi : i < d.fs.length) (f : FD) (hf : d.fs[i] = f) (sv : Value) (s : St) (hs : StAt w base sv s)
  (hok : s.ok f.now.length) (hu : s.units ≤ 65536) (hfew : f.steps.length + 1 ≤ 4398046511104) (hroom : usedL d.fs - f.need + (f.take s).need ≤ d.room) :
  Calls Tryz.prog 95 #[.pointer (some ⟨db, i * 4, none⟩), sv] w fun e w' => e = .returned (.tuple #[]) ∧ LeftD base db vs (setF d i (f.take s)) w w' := by
 have hv : i < vs.length := by have := h.n3; have := h.m3; omega
 have HM0 : Hid (Mid w w base db vs d i (vs[i]'hv)) := ⟨by rw [List.set_getElem_self]; exact h.row, Turns.refl _ _⟩
 have H := Lib.hid h
 have HFE := Lib.hid hf
 have hF := h.each i _ _ (List.getElem?_eq_getElem hv) (List.getElem?_eq_getElem hi)
 rw [hf] at hF
 have HF := Lib.hid hF
 have hle := usedL_mem hi
 rw [hf] at hle
 have hused := h.used
 have hroom1 := h.room1
 have HNE : Hid (f.need ≤ 65536) := by show _ ≤ _; omega
 have HNL : Hid (f.now.length ≤ 65536) := Nat.le_trans hF.ok.le HNE.out
 have HAFD := Lib.hid (after_any w.drew (h.below (below_drew1 _ _)) i hi sv s (hs.touch (Turns.of_below (S := fun _ => False) (below_drew1 _ _)) (fun _ _ _ _ h => h)) (by rw [hf]; have := HNL.out; cases s with | put b => simp only [St.size, St.units] at *; omega | cut n => simp only [St.size, St.ok] at *; omega))
 rw [hf] at HAFD
 have HS := Lib.hid hs
 have HOKS := Lib.hid hok
 have HUS := Lib.hid hu
 have HROOM := Lib.hid hroom
 have HBASE := Lib.hid hbase
 have HI := Lib.hid hi
 have HV0 : Hid (∃ v0, vs[i]'hv = v0 ∧ Mid w w base db vs d i v0 ∧ FAt w base v0 f) := ⟨_, rfl, HM0.out, hF⟩
 have HV := Lib.hid hv
 obtain ⟨v0, hv0, hm0, hf0⟩ := HV0.out
 have HVE : Hid (∀ hv : i < vs.length, vs[i]'hv = v0) := fun _ => hv0
 have HM := Lib.hid hm0
 have HFF := Lib.hid hf0
 have HND : Hid (v0.nd = f.need) := hf0.need
 obtain ⟨n1, hn1⟩ : ∃ n1, n1 = (f.take s).need := ⟨_, rfl⟩
 have HN1 := Lib.hid hn1
 have HMX1 : Hid ((if ((f.need : Nat) : Int) < ((s.size f.now.length : Nat) : Int) then ((s.size f.now.length : Nat) : Int) else ((f.need : Nat) : Int)) = (n1 : Int) ∧ (if f.need < s.size f.now.length then ((s.size f.now.length : Nat) : Int) else ((f.need : Nat) : Int)) = (n1 : Int)) := by
  have e : n1 = max f.need (s.size f.now.length) := hn1
  show _ ∧ _
  constructor <;> (split <;> omega)
 obtain ⟨z, hz⟩ : ∃ z, z = s.size f.now.length := ⟨_, rfl⟩
 rw [← hz] at HMX1 HAFD
 clear HM0 HV0 hF hm0 hf0 hle hused hroom hok hu hs h hf hv0 hn1 hz
 obtain ⟨hc0, hc1, hc2, hc3, hfz⟩ := HM.out.cells H.out.n3 HV.out
 rw [HND.out] at hc3
 have hkc : Hid (∀ w', Below w.heap.size w w' → w'.cell? ⟨db, i * 4 + 3, none⟩ = some (.int .i64 (f.need : Int))) := fun w' hb => cell_below hc3 hb
 clear hc0 hc1 hc2 hc3 hfz
 go_enter Tryz.func95, Tryz.ntmps95
 go_upto_region 0 with fail
 refine wp_region_eager_t (Below w.heap.size w) [0, 1, 2, 3, 4, 5, 6, 8, 9, 10] [(0, true), (1, true), (2, true), (3, true), (4, true), (5, true), (6, true), (7, false), (8, true), (9, true), (10, true)] [11] (by kernel_rfl) (by kernel_rfl) ?_ (eagerTOpen rfl ?_)
 ·exact below_drew1 _ _
 have hy0 : Below w.heap.size w w.drew := below_drew1 _ _
 repeat (first
  | ((first | (apply wpEagerT_take; (· rfl); (· (intro w' hb'; go_simp; try with_reducible rfl))) | refine wpEagerT_skip (by rfl) ?_); (try simp only [Act.put, zA, zB, zC]); (try refine eagerTOpen rfl ?_))
  | (apply wpEagerT_take; (· rfl); (· (intro w' hb'; have hk' := (hkc.out) w' hb'; go_split_ands; go_simp; try with_reducible rfl)); (try simp only [Act.put, zA, zB, zC]); (try refine eagerTOpen rfl ?_)))
 (refine wpEagerT_op (by rfl) (fun K hK => ?_); go_simp; (refine (HAFD.out).mono ?_; rintro e y ⟨rfl, hb9⟩; have hy1 : Below w.heap.size w y := hy0.trans hb9; clear hb9); refine Shut.out hK _ _ (by assumption) ?_; clear hK K; (try simp only [Act.put, zA, zB, zC]); (try refine eagerTOpen rfl ?_))
 obtain ⟨hmx1, hmx2⟩ := HMX1.out
 repeat ((first | (apply wpEagerT_take; (· rfl); (· (intro w' hb'; go_simp; try with_reducible rfl))) | refine wpEagerT_skip (by rfl) ?_); (try simp only [Act.put, zA, zB, zC]); (try refine eagerTOpen rfl ?_))
 refine eagerTEnd (tail1 rfl ?_)
 have HMY := Lib.hid (HM.out.below hy1)
 have HSY := Lib.hid (HS.out.touch (Turns.of_below (S := fun _ => False) hy1) (fun _ _ _ _ h => h))
 obtain ⟨hc0, hc1, hc2, hc3, hfz⟩ := HMY.out.cells H.out.n3 HV.out
 have HMZ := Lib.hid ((HMY.out.put H.out.n3 HV.out).2.2.2 n1)
 clear hy0 hy1 hmx1 hmx2
 go_wp2_with fail
 refine noPanic_end ?_
 have HS1 : Hid (StAt (y.setCell ⟨db, i * 4 + 3, none⟩ (.int .i64 (n1 : Int))) base sv s) := by
  have ht : Turns (fun k => k = db) y (y.setCell ⟨db, i * 4 + 3, none⟩ (.int .i64 (n1 : Int))) := (Turns.refl (fun k => k = db) y).setCell (p := ⟨db, i * 4 + 3, none⟩) (fun _ => rfl) _
  refine HSY.out.touch ht (fun k M fr hk e => ?_)
  subst e
  rw [HMY.out.row] at hk
  injection hk with e1
  injection e1 with _ e2
  exact absurd e2 (by decide)
 generalize y.setCell ⟨db, i * 4 + 3, none⟩ (.int .i64 (n1 : Int)) = w1 at *
 clear hc0 hc1 hc2 hc3 hfz HMY HSY HAFD HM hkc
 clear y
 go_upto_region 1 with fail
 have HBW1 : Hid (base ≤ w1.heap.size) := Nat.le_trans HBASE.out HMZ.out.turn.size
 obtain ⟨pn, cn, hnv, hbsn⟩ := HFF.out.now.bs
 have HNOW1 : Hid (Rd w1 base (.slice pn f.now.length cn) f.now) := by
  have := HFF.out.now
  rw [hnv] at this
  exact this.turn H.out HMZ.out.turn
 have hkc : Hid (∀ w', Below w1.heap.size w1 w' → w'.cell? ⟨db, i * 4 + 1, none⟩ = some (.slice pn f.now.length cn)) := fun w' hb => by
  have := ((HMZ.out.below hb).cells H.out.n3 HV.out).2.1
  rw [hnv] at this
  exact this
 clear hbsn hnv
 obtain ⟨x, hinv⟩ := inv_any HS1.out
 try simp only [Act.put, zA, zB, zC]
 rcases hinv with ⟨hx, hcu, hcd⟩ | ⟨hx, hcu, hcd⟩
 ·subst hx
  have HCU := Lib.hid hcu
  have HCD := Lib.hid hcd
  have hm1 := mPutUnits
  have hm2 := mPutDo
  have hm3 := nPutDo
  clear hcu hcd
  refine wp_region_eager_t (Below w1.heap.size w1) [0, 1, 2, 3, 4, 5, 6, 8, 9, 10, 12, 13] [(0, true), (1, true), (2, true), (3, true), (4, true), (5, true), (6, true), (8, true), (9, true), (10, true), (7, false), (11, false), (12, true), (13, true)] [14] (by kernel_rfl) (by kernel_rfl) ?_ (eagerTOpen rfl ?_)
  ·exact below_drew1 _ _
  have hy0 : Below w1.heap.size w1 w1.drew := below_drew1 _ _
  repeat (first
   | ((first | (apply wpEagerT_take; (· rfl); (· (intro w' hb'; go_simp; try with_reducible rfl))) | refine wpEagerT_skip (by rfl) ?_); (try simp only [Act.put, zA, zB, zC]); (try refine eagerTOpen rfl ?_))
   | (apply wpEagerT_take; (· rfl); (· (intro w' hb'; have hk' := (hkc.out) w' hb'; go_split_ands; go_simp; try with_reducible rfl)); (try simp only [Act.put, zA, zB, zC]); (try refine eagerTOpen rfl ?_)))
  (refine wpEagerT_op (by rfl) (fun K hK => ?_); go_simp; (refine (HCU.out _).mono ?_; rintro e y0 ⟨rfl, hb9⟩; have hy1 : Below w1.heap.size w1 y0 := hy0.trans hb9; clear hb9); refine Shut.out hK _ _ (by assumption) ?_; clear hK K; (try simp only [Act.put, zA, zB, zC]); (try refine eagerTOpen rfl ?_))
  repeat (first
   | ((first | (apply wpEagerT_take; (· rfl); (· (intro w' hb'; go_simp; try with_reducible rfl))) | refine wpEagerT_skip (by rfl) ?_); (try simp only [Act.put, zA, zB, zC]); (try refine eagerTOpen rfl ?_))
   | (apply wpEagerT_take; (· rfl); (· (intro w' hb'; have hk' := (hkc.out) w' hb'; go_split_ands; go_simp; try with_reducible rfl)); (try simp only [Act.put, zA, zB, zC]); (try refine eagerTOpen rfl ?_)))
  (refine wpEagerT_op (by rfl) (fun K hK => ?_); go_simp; (refine (HCD.out pn f.now.length cn f.now s.units (Nat.le_refl _) (fun _ => HOKS.out) (by have := HNL.out; have := HUS.out; omega) _ hy1 (Nat.le_trans HBW1.out hy1.size) (HNOW1.out.below hy1)).mono ?_; rintro e y ⟨p9, c9, rfl, hr9, hb9⟩; have HR9 := Lib.hid hr9; have hy2 : Below w1.heap.size w1 y := hy1.trans (hb9.mono hy1.size); clear hr9 hb9); refine Shut.out hK _ _ (by assumption) ?_; clear hK K; (try simp only [Act.put, zA, zB, zC]); (try refine eagerTOpen rfl ?_))
  repeat ((first | (apply wpEagerT_take; (· rfl); (· (intro w' hb'; go_simp; try with_reducible rfl))) | refine wpEagerT_skip (by rfl) ?_); (try simp only [Act.put, zA, zB, zC]); (try refine eagerTOpen rfl ?_))
  refine eagerTEnd (tail1 rfl ?_)
  have HMY := Lib.hid (HMZ.out.below hy2)
  have HSY := Lib.hid (HS1.out.touch (Turns.of_below (S := fun _ => False) hy2) (fun _ _ _ _ h => h))
  obtain ⟨hc0, hc1, hc2, hc3, hfz⟩ := HMY.out.cells H.out.n3 HV.out
  have HMW := Lib.hid ((HMY.out.put H.out.n3 HV.out).2.1 (.slice p9 (s.act f.now s.units).length c9))
  clear hy0 hy1 hy2
  go_wp2_with fail
  refine noPanic_end ?_
  have ht9 : Turns (fun k => k = db) y (y.setCell ⟨db, i * 4 + 1, none⟩ (.slice p9 (s.act f.now s.units).length c9)) := (Turns.refl (fun k => k = db) y).setCell (p := ⟨db, i * 4 + 1, none⟩) (fun _ => rfl) _
  have hid9 : ∀ k M fr, y.heap[k]? = some (.cells M 5 fr) → ¬ k = db := fun k M fr hk e => by
   subst e
   rw [HMY.out.row] at hk
   injection hk with e1
   injection e1 with _ e2
   exact absurd e2 (by decide)
  have HS2 := Lib.hid (HSY.out.touch ht9 hid9)
  have HNOW2 := Lib.hid (HR9.out.touch ht9 hid9)
  generalize y.setCell ⟨db, i * 4 + 1, none⟩ (.slice p9 (s.act f.now s.units).length c9) = w2 at *
  clear hc0 hc1 hc2 hc3 hfz HMY HSY HR9 ht9 hid9
  clear y
  have HST := Lib.hid HFF.out.steps
  obtain ⟨vals, ho, hst⟩ := HST.out
  obtain ⟨ps, cs, hsv0, hsl⟩ := own_sl ho
  have HOV := Lib.hid ho
  have HSTV := Lib.hid hst
  have HVL : Hid (vals.length = f.steps.length) := by show _ = _; have := ho.1; omega
  have HOW2 : Hid (w2.ownsRow base 165 1 v0.sv f.steps.length vals) := own_touch ho HMW.out.turn (own_ne_cells' ho H.out.row (by decide))
  rw [hsv0] at HOW2
  have HSV0 := Lib.hid hsv0
  clear ho hst hsl hsv0
  have hb2 := Below.allocs w2 (.cells #[(Value.iface 109 x)] 165)
  have HMA := Lib.hid (HMW.out.below hb2)
  have HSA := Lib.hid (HS2.out.touch (Turns.of_below (S := fun _ => False) hb2) (fun _ _ _ _ h => h))
  have HNA := Lib.hid (HNOW2.out.below hb2)
  have HOA := Lib.hid (own_touch HOW2.out (Turns.of_below (S := fun _ => False) hb2) (fun _ _ h => h))
  have HSLA : Hid (Sl (w2.alloc (.cells #[(Value.iface 109 x)] 165)) (some ⟨w2.heap.size, 0, none⟩) 1 1 1 [(Value.iface 109 x)]) := row_sl1 (heap_alloc_last _ _)
  have HBA : Hid (base ≤ (w2.alloc (.cells #[(Value.iface 109 x)] 165)).heap.size) := Nat.le_trans HBASE.out (Nat.le_trans HMW.out.turn.size hb2.size)
  obtain ⟨hc0, hc1, hc2, hc3, hfz⟩ := HMW.out.cells H.out.n3 HV.out
  rw [HSV0.out] at hc2
  clear hb2
  go_wp2_with (first
   | (refine wpList_append_nx rfl _ _ 100 rfl (base := base) Tryz.underlying100 infoStep rfl (by omega) rfl HOA.out rfl HSLA.out (fun u hu => by rw [List.mem_singleton] at hu; rw [hu]; rfl) ⟨by omega, by omega⟩ HBA.out ?_))
  intro p' c' w3 ho3 hg3 hnx3 _
  have hTg : Turns (fun k => (Value.slice ps f.steps.length cs).ownBlock = some k) (w2.alloc (.cells #[(Value.iface 109 x)] 165)) w3 := Turns.grown hg3 (S := fun k => (Value.slice ps f.steps.length cs).ownBlock = some k) (fun k hk => hk)
  have hno8 : ∀ k M fr, (w2.alloc (.cells #[(Value.iface 109 x)] 165)).heap[k]? = some (.cells M 5 fr) → ¬ (Value.slice ps f.steps.length cs).ownBlock = some k := fun k M fr hk hs => own_ne_cells' HOA.out hk (by decide) k hs rfl
  have HS3 := Lib.hid (HSA.out.touch hTg hno8)
  have HN3 := Lib.hid (HNA.out.touch hTg hno8)
  have HR3 := Lib.hid (hTg.keep HMA.out.row (fun hs => own_ne_cells' HOA.out HMA.out.row (by decide) db hs rfl))
  have HT3 : Hid (Turns (fun k => k = db ∨ v0.sv.ownBlock = some k) w w3) := (HMA.out.turn.imp (S' := fun k => k = db ∨ v0.sv.ownBlock = some k) (fun _ _ h => .inl h)).trans hTg (fun k _ hk => .inr (by rw [HSV0.out]; exact hk))
  have HX3 : Hid (∀ k, (Value.slice p' (f.steps.length + 1) c').ownBlock = some k → v0.sv.ownBlock = some k ∨ w.heap.size ≤ k) := fun k hk => by
   rcases hnx3 k hk with hn | hn
   ·exact .inl (by rw [HSV0.out]; exact hn)
   ·right
    have := HMA.out.turn.size
    have h2 : (w2.alloc (.cells #[(Value.iface 109 x)] 165)).heap.size = w2.heap.size + 1 := by simp
    have := HMW.out.turn.size
    omega
  have hc32 : w3.cell? ⟨db, i * 4 + 2, none⟩ = some v0.sv := by
   have := (HMA.out.cells H.out.n3 HV.out).2.2.1
   exact hTg.cell this (fun hs => own_ne_cells' HOA.out HMA.out.row (by decide) db hs rfl)
  have hfz3 : w3.frozen? ⟨db, i * 4 + 2, none⟩ = false := frozen_of_row _ _ _ _ _ HR3.out
  have HO3 := Lib.hid ho3
  clear ho3 hg3 hnx3 hTg hno8 hc0 hc1 hc2 hc3 hfz
  go_wp2_with fail
  go_end0
  exact ⟨rfl, take_end H.out HI.out HV.out HFE.out (HVE.out HV.out) HSTV.out HVL.out HR3.out HT3.out HN3.out HN1.out HO3.out HS3.out HX3.out HOKS.out HUS.out hfew HROOM.out⟩
 ·subst hx
  have HCU := Lib.hid hcu
  have HCD := Lib.hid hcd
  have hm1 := mCutUnits
  have hm2 := mCutDo
  have hm3 := nCutDo
  clear hcu hcd
  refine wp_region_eager_t (Below w1.heap.size w1) [0, 1, 2, 3, 4, 5, 6, 8, 9, 10, 12, 13] [(0, true), (1, true), (2, true), (3, true), (4, true), (5, true), (6, true), (8, true), (9, true), (10, true), (7, false), (11, false), (12, true), (13, true)] [14] (by kernel_rfl) (by kernel_rfl) ?_ (eagerTOpen rfl ?_)
  ·exact below_drew1 _ _
  have hy0 : Below w1.heap.size w1 w1.drew := below_drew1 _ _
  repeat (first
   | ((first | (apply wpEagerT_take; (· rfl); (· (intro w' hb'; go_simp; try with_reducible rfl))) | refine wpEagerT_skip (by rfl) ?_); (try simp only [Act.put, zA, zB, zC]); (try refine eagerTOpen rfl ?_))
   | (apply wpEagerT_take; (· rfl); (· (intro w' hb'; have hk' := (hkc.out) w' hb'; go_split_ands; go_simp; try with_reducible rfl)); (try simp only [Act.put, zA, zB, zC]); (try refine eagerTOpen rfl ?_)))
  (refine wpEagerT_op (by rfl) (fun K hK => ?_); go_simp; (refine (HCU.out _).mono ?_; rintro e y0 ⟨rfl, hb9⟩; have hy1 : Below w1.heap.size w1 y0 := hy0.trans hb9; clear hb9); refine Shut.out hK _ _ (by assumption) ?_; clear hK K; (try simp only [Act.put, zA, zB, zC]); (try refine eagerTOpen rfl ?_))
  repeat (first
   | ((first | (apply wpEagerT_take; (· rfl); (· (intro w' hb'; go_simp; try with_reducible rfl))) | refine wpEagerT_skip (by rfl) ?_); (try simp only [Act.put, zA, zB, zC]); (try refine eagerTOpen rfl ?_))
   | (apply wpEagerT_take; (· rfl); (· (intro w' hb'; have hk' := (hkc.out) w' hb'; go_split_ands; go_simp; try with_reducible rfl)); (try simp only [Act.put, zA, zB, zC]); (try refine eagerTOpen rfl ?_)))
  (refine wpEagerT_op (by rfl) (fun K hK => ?_); go_simp; (refine (HCD.out pn f.now.length cn f.now s.units (Nat.le_refl _) (fun _ => HOKS.out) (by have := HNL.out; have := HUS.out; omega) _ hy1 (Nat.le_trans HBW1.out hy1.size) (HNOW1.out.below hy1)).mono ?_; rintro e y ⟨p9, c9, rfl, hr9, hb9⟩; have HR9 := Lib.hid hr9; have hy2 : Below w1.heap.size w1 y := hy1.trans (hb9.mono hy1.size); clear hr9 hb9); refine Shut.out hK _ _ (by assumption) ?_; clear hK K; (try simp only [Act.put, zA, zB, zC]); (try refine eagerTOpen rfl ?_))
  repeat ((first | (apply wpEagerT_take; (· rfl); (· (intro w' hb'; go_simp; try with_reducible rfl))) | refine wpEagerT_skip (by rfl) ?_); (try simp only [Act.put, zA, zB, zC]); (try refine eagerTOpen rfl ?_))
  refine eagerTEnd (tail1 rfl ?_)
  have HMY := Lib.hid (HMZ.out.below hy2)
  have HSY := Lib.hid (HS1.out.touch (Turns.of_below (S := fun _ => False) hy2) (fun _ _ _ _ h => h))
  obtain ⟨hc0, hc1, hc2, hc3, hfz⟩ := HMY.out.cells H.out.n3 HV.out
  have HMW := Lib.hid ((HMY.out.put H.out.n3 HV.out).2.1 (.slice p9 (s.act f.now s.units).length c9))
  clear hy0 hy1 hy2
  go_wp2_with fail
  refine noPanic_end ?_
  have ht9 : Turns (fun k => k = db) y (y.setCell ⟨db, i * 4 + 1, none⟩ (.slice p9 (s.act f.now s.units).length c9)) := (Turns.refl (fun k => k = db) y).setCell (p := ⟨db, i * 4 + 1, none⟩) (fun _ => rfl) _
  have hid9 : ∀ k M fr, y.heap[k]? = some (.cells M 5 fr) → ¬ k = db := fun k M fr hk e => by
   subst e
   rw [HMY.out.row] at hk
   injection hk with e1
   injection e1 with _ e2
   exact absurd e2 (by decide)
  have HS2 := Lib.hid (HSY.out.touch ht9 hid9)
  have HNOW2 := Lib.hid (HR9.out.touch ht9 hid9)
  generalize y.setCell ⟨db, i * 4 + 1, none⟩ (.slice p9 (s.act f.now s.units).length c9) = w2 at *
  clear hc0 hc1 hc2 hc3 hfz HMY HSY HR9 ht9 hid9
  clear y
  have HST := Lib.hid HFF.out.steps
  obtain ⟨vals, ho, hst⟩ := HST.out
  obtain ⟨ps, cs, hsv0, hsl⟩ := own_sl ho
  have HOV := Lib.hid ho
  have HSTV := Lib.hid hst
  have HVL : Hid (vals.length = f.steps.length) := by show _ = _; have := ho.1; omega
  have HOW2 : Hid (w2.ownsRow base 165 1 v0.sv f.steps.length vals) := own_touch ho HMW.out.turn (own_ne_cells' ho H.out.row (by decide))
  rw [hsv0] at HOW2
  have HSV0 := Lib.hid hsv0
  clear ho hst hsl hsv0
  have hb2 := Below.allocs w2 (.cells #[(Value.iface 169 x)] 165)
  have HMA := Lib.hid (HMW.out.below hb2)
  have HSA := Lib.hid (HS2.out.touch (Turns.of_below (S := fun _ => False) hb2) (fun _ _ _ _ h => h))
  have HNA := Lib.hid (HNOW2.out.below hb2)
  have HOA := Lib.hid (own_touch HOW2.out (Turns.of_below (S := fun _ => False) hb2) (fun _ _ h => h))
  have HSLA : Hid (Sl (w2.alloc (.cells #[(Value.iface 169 x)] 165)) (some ⟨w2.heap.size, 0, none⟩) 1 1 1 [(Value.iface 169 x)]) := row_sl1 (heap_alloc_last _ _)
  have HBA : Hid (base ≤ (w2.alloc (.cells #[(Value.iface 169 x)] 165)).heap.size) := Nat.le_trans HBASE.out (Nat.le_trans HMW.out.turn.size hb2.size)
  obtain ⟨hc0, hc1, hc2, hc3, hfz⟩ := HMW.out.cells H.out.n3 HV.out
  rw [HSV0.out] at hc2
  clear hb2
  go_wp2_with (first
   | (refine wpList_append_nx rfl _ _ 100 rfl (base := base) Tryz.underlying100 infoStep rfl (by omega) rfl HOA.out rfl HSLA.out (fun u hu => by rw [List.mem_singleton] at hu; rw [hu]; rfl) ⟨by omega, by omega⟩ HBA.out ?_))
  intro p' c' w3 ho3 hg3 hnx3 _
  have hTg : Turns (fun k => (Value.slice ps f.steps.length cs).ownBlock = some k) (w2.alloc (.cells #[(Value.iface 169 x)] 165)) w3 := Turns.grown hg3 (S := fun k => (Value.slice ps f.steps.length cs).ownBlock = some k) (fun k hk => hk)
  have hno8 : ∀ k M fr, (w2.alloc (.cells #[(Value.iface 169 x)] 165)).heap[k]? = some (.cells M 5 fr) → ¬ (Value.slice ps f.steps.length cs).ownBlock = some k := fun k M fr hk hs => own_ne_cells' HOA.out hk (by decide) k hs rfl
  have HS3 := Lib.hid (HSA.out.touch hTg hno8)
  have HN3 := Lib.hid (HNA.out.touch hTg hno8)
  have HR3 := Lib.hid (hTg.keep HMA.out.row (fun hs => own_ne_cells' HOA.out HMA.out.row (by decide) db hs rfl))
  have HT3 : Hid (Turns (fun k => k = db ∨ v0.sv.ownBlock = some k) w w3) := (HMA.out.turn.imp (S' := fun k => k = db ∨ v0.sv.ownBlock = some k) (fun _ _ h => .inl h)).trans hTg (fun k _ hk => .inr (by rw [HSV0.out]; exact hk))
  have HX3 : Hid (∀ k, (Value.slice p' (f.steps.length + 1) c').ownBlock = some k → v0.sv.ownBlock = some k ∨ w.heap.size ≤ k) := fun k hk => by
   rcases hnx3 k hk with hn | hn
   ·exact .inl (by rw [HSV0.out]; exact hn)
   ·right
    have := HMA.out.turn.size
    have h2 : (w2.alloc (.cells #[(Value.iface 169 x)] 165)).heap.size = w2.heap.size + 1 := by simp
    have := HMW.out.turn.size
    omega
  have hc32 : w3.cell? ⟨db, i * 4 + 2, none⟩ = some v0.sv := by
   have := (HMA.out.cells H.out.n3 HV.out).2.2.1
   exact hTg.cell this (fun hs => own_ne_cells' HOA.out HMA.out.row (by decide) db hs rfl)
  have hfz3 : w3.frozen? ⟨db, i * 4 + 2, none⟩ = false := frozen_of_row _ _ _ _ _ HR3.out
  have HO3 := Lib.hid ho3
  clear ho3 hg3 hnx3 hTg hno8 hc0 hc1 hc2 hc3 hfz
  go_wp2_with fail
  go_end0
  exact ⟨rfl, take_end H.out HI.out HV.out HFE.out (HVE.out HV.out) HSTV.out HVL.out HR3.out HT3.out HN3.out HN1.out HO3.out HS3.out HX3.out HOKS.out HUS.out hfew HROOM.out⟩
end Go.Proofs.YtnejjfglkindjaaGreatDoor.Dk
