/- PARTS, JOINED: IDS AND BLOCKS AS VALUES: arrays of 32 bytes, and structs of two of them and a slice of them. A REGION THAT DRAWS ITS ORDER, WHOSE CALLS MAKE MEMORY. No program is named. Conditions: none. A REGION THAT DRAWS ITS ORDER, WALKED IN ONE ORDER: what reads only what stood at its start is taken at once; the calls come one behind the other. No program is named. Conditions: none. A READER IN MEMORY, and what it holds, plain; new, none, At, Left, Fail. Conditions: none. REPLIES: names: the lists, a number's name, a name's number. Conditions: none. REPLIES: strings.Split at a blank, strings.Join with one (the shelf's contracts, laid at this translation). Conditions: texts of less than 2^32 bytes. WHAT THE ROWS OF REPLIES LIST, AND A WORLD THAT MEETS IT: two tables of unicode/utf8. From a walk to the statement, the shape of memory handed on. Conditions: none. A RANGE OVER A FUNCTION WHOSE ROUNDS ARE HANDED MEMORY THAT THE ITERATOR HAS LAID: the iterator tells of each element what it knows of the world ('G'). No program is named. Conditions: none. A RANGE OVER A FUNCTION WHOSE ITERATOR KEEPS ITS PLACE IN A VARIABLE OF ITS OWN ('U'): what the rounds lean on holds while that variable turns. No program is named. Conditions: none. LAYER 12: the walk of the reference's NumOf. Conditions: texts of at most 2^40. LAYER 12: the example, and the walks of the laws. Conditions: none. LAYER 12: the walk of HexIds. Conditions: none. PLAIN PART OF SCRIPTS: events, their lines, and whose line a text is. Conditions: none. -/
import Derived.Test.YtcddgbobbogpgaaDoorSb1
import Derived.Test.YtcddgbobbogpgaaDoorSb2
import Derived.Deep.MidRow
import Derived.Great.BuildSlice
import Derived.BigQuiet
import Derived.StillTailTactics
import Derived.Deep.QuietTactic
import Derived.OrdersHeld
import Derived.Deep.RegionHeld3
import Derived.NoCompiler
import Derived.IntWalk
import Derived.Test.YtcddgbobbogpgaaDoorProg
import Derived.Deep.Upon
import Derived.Deep.Cut
import Derived.Outline
import Derived.Shelf.Strings.OnBuilder
import Derived.Shelf.Strings.Split
import Derived.Shelf.Strings.SplitShaped
import Derived.Shelf.LaysM
import Derived.Test.YtcddgbobbogpgaaDoorRows
import Derived.Test.YtcddgbobbogpgaaDoorCards
import Derived.Test.YtcddgbobbogpgaaDoorTie
import Derived.Lay
import Derived.LaidLaws
import Derived.LaidHandle
import Derived.RangeFuncNested
import Derived.RangeFuncBound
import Derived.RangeFuncCalls
import Derived.RangeFuncLeaves
import Derived.RangeFuncBox
import Derived.Shelf.Abstract
import Derived.Shelf.RegionOpen
import Derived.WalkKit
import Derived.OwnWalkIn
import Derived.TacticsInMore
import Derived.LoopNIn
import Derived.LoopIn
import Derived.Maps.AppendAt
namespace Go.Mir
open Go.RowKit

/-! ### an id -/
def idA (x : List UInt8) : Array Value := (bytesV x).toArray
theorem idA_toList (x : List UInt8) : (idA x).toList = bytesV x := by simp [idA]
theorem idA_size (x : List UInt8) : (idA x).size = x.length := by rw [← Array.length_toList, idA_toList, bytesV_length]
theorem idA_one (x : List UInt8) : (idA x).all (·.oneCell') = true := by
  have := all_oneCell_toArray (bytesV_one x)
  rw [← idA_toList, Array.toArray_toList] at this; exact this
theorem idA_arr (x : List UInt8) : (x.map (fun b : UInt8 => Value.int .u8 (b.toNat : Int))).toArray = idA x := rfl
theorem run_equal_ids {P : Program} (w : World) (d : Nat) {t e : TypeId} {n : Nat} (hu : P.underlying t = some (.array n e)) (he : P.underlying e = some (.int .u8)) (hi : (P.info? e).isSome = true) (hc : P.cellsOf e = 1) (hp : P.plainKey e = true) (a b : List UInt8) (ha : a.length = n) (hb : b.length = n) :
    (Op.equalIn (d + 2) t (.agg (idA a)) (.agg (idA b))).run P w = .ok (a == b) w :=
  run_equal_bytes w d hu he (Option.isSome_iff_exists.1 hi) hc hp a b ha hb
/-- a row of its own, and parts of it -/
theorem range_row {w : World} {b : Nat} {M : Array Value} {t : TypeId} {fr : Nat × Nat} (h : w.heap[b]? = some (.cells M t fr)) (A B C : List Value) (hM : M.toList = A ++ B ++ C) : w.rangeAt b A.length B := fun j v hv => by
  have hj := (List.getElem?_eq_some_iff.1 hv).1
  rw [cell_of_row _ _ _ _ _ _ h, ← Array.getElem?_toList, hM, List.getElem?_append_left (by rw [List.length_append]; omega), List.getElem?_append_right (by omega), Nat.add_sub_cancel_left]; exact hv
/-- a value copied into a new block -/
def boxAt (w : World) (Z X : Array Value) (t : TypeId) : World := (w.alloc (.cells Z t)).setRow w.heap.size X
theorem box_new (w : World) (Z : Array Value) (t : TypeId) : (w.alloc (.cells Z t)).heap[w.heap.size]? = some (.cells Z t (0, 0)) := heap_alloc_last _ _
theorem box_row (w : World) (Z X : Array Value) (t : TypeId) : ((w.alloc (.cells Z t)).setRow w.heap.size X).heap[w.heap.size]? = some (.cells X t (0, 0)) := setRow_heap _ _ _ _ _ _ (box_new w Z t)
theorem box_below (w : World) (Z X : Array Value) (t : TypeId) : Below w.heap.size w ((w.alloc (.cells Z t)).setRow w.heap.size X) := below_setRow (Below.allocs _ _) (Nat.le_refl _) _
theorem box_size (w : World) (Z X : Array Value) (t : TypeId) : ((w.alloc (.cells Z t)).setRow w.heap.size X).heap.size = w.heap.size + 1 := by simp [World.setRow]

theorem two_allocs (w : World) (o o2 : Obj) : ((w.alloc o).alloc o2).heap[w.heap.size]? = some o ∧ ((w.alloc o).alloc o2).heap[w.heap.size + 1]? = some o2 ∧ ((w.alloc o).alloc o2).heap.size = w.heap.size + 2 ∧ Below w.heap.size w ((w.alloc o).alloc o2) := by
  refine ⟨block_old _ (heap_alloc_last _ _), ?_, by simp, (Below.allocs _ _).alloc (by simp) _⟩
  have := heap_alloc_last (w.alloc o) o2
  simpa using this

/-! ### a literal of one aggregate -/
theorem fold_put (off : Nat) : ∀ (L : List Value) (s : Nat) (A : Array Value), off + s + L.length ≤ A.size →
    ((L.zipIdx s).foldl (fun cs (x : Value × Nat) => cs.setIfInBounds (off + x.2) x.1) A).size = A.size ∧ ∀ i, ((L.zipIdx s).foldl (fun cs (x : Value × Nat) => cs.setIfInBounds (off + x.2) x.1) A)[i]? = if off + s ≤ i ∧ i < off + s + L.length then L[i - (off + s)]? else A[i]?
  | [], s, A, _ => ⟨rfl, fun i => by rw [if_neg (by simp <;> omega)]; rfl⟩
  | v :: L, s, A, h => by
    simp only [List.length_cons] at h
    obtain ⟨h1, h2⟩ := fold_put off L (s + 1) (A.setIfInBounds (off + s) v) (by simp; omega)
    rw [List.zipIdx_cons, List.foldl_cons]
    refine ⟨by rw [h1]; simp, fun i => ?_⟩
    rw [h2 i, Array.getElem?_setIfInBounds]
    by_cases hi : off + (s + 1) ≤ i ∧ i < off + (s + 1) + L.length
    · rw [if_pos hi, if_pos (by simp; omega), show i - (off + s) = (i - (off + (s + 1))) + 1 by omega, List.getElem?_cons_succ]
    · rw [if_neg hi]
      by_cases ho : off + s = i
      · subst ho
        rw [if_pos rfl, if_pos (by omega), if_pos (by simp)]; simp
      · rw [if_neg ho, if_neg (by simp; omega)]
theorem fill_one (Z M : Array Value) (size : Nat) (hZ : Z.size = size) (hM : M.size = size) : Instr.fill (fun i => some (i * size, size)) Z [(0, .agg M)] = some M := by
  have hc : (Value.agg M).cells = M := rfl
  simp only [Instr.fill, hc]
  rw [if_neg (by simp [hM, hZ])]
  simp only [Option.some.injEq, Nat.zero_mul]
  rw [← Array.foldl_toList, Array.toList_zipIdx]
  obtain ⟨h1, h2⟩ := fold_put 0 M.toList 0 Z (by simp; omega)
  apply Array.ext_getElem?
  intro i
  rw [h2 i]
  by_cases hi : i < M.size
  · rw [if_pos (by simp; omega)]; simp
  · rw [if_neg (by simp; omega), Array.getElem?_eq_none (by omega), Array.getElem?_eq_none (by omega)]
theorem wpList_buildOne {P : Program} {ops : Array Oper} {rest : List Oper} {o : Oper} {a : Act} {w : World} {Q : Exit → Act → World → Prop} (hg : o.guard = none) (t e : TypeId) (x : Operand) (ho : o.op = .buildSlice t 1 #[(0, x)])
    (M : Array Value) (hx : a.eval x = .agg M) (size : Nat) (hu : P.underlying t = some (.slice e)) (hie : (P.info? e).map (fun i => (i.zero.isSome, i.size)) = some (true, size)) (hsm : size ≤ 16777216) (hpos : 0 < size) (hM : M.size = size)
    (h : wpList P ops Q rest (a.put o.dst (.slice (some ⟨w.heap.size, 0, none⟩) 1 1)) (w.alloc (.cells M e))) : wpList P ops Q (o :: rest) a w := by
  obtain ⟨ie, hi, he⟩ := Option.map_eq_some_iff.1 hie
  obtain ⟨hz, rfl⟩ := Prod.mk.inj he
  obtain ⟨z, hz⟩ := Option.isSome_iff_exists.1 hz
  refine wpList_buildSlice hg t e 1 #[(0, x)] ho M ie z hu hi hz (by rw [Nat.one_mul]; omega) (by omega) ?_ h
  have : (#[(0, x)].map fun (p : Nat × Operand) => (p.1, a.eval p.2)).toList = [(0, .agg M)] := by simp [hx]
  rw [this]
  exact fill_one _ M _ (by simp) hM

/-- is it the operation that fills this slot? the store into what this slot holds? (guards for an arm, cheap) -/
theorem wpAt {P : Program} {ops : Array Oper} {rest : List Oper} {a : Act} {w : World} {Q : Exit → Act → World → Prop} (n : Nat) {op : Op} {t : TypeId} {p : String} {af : Array Edge} {g : Option (Nat × Bool)} (h : wpList P ops Q (⟨some n, op, t, p, af, g⟩ :: rest) a w) : wpList P ops Q (⟨some n, op, t, p, af, g⟩ :: rest) a w := h
theorem wpStoreAt {P : Program} {ops : Array Oper} {rest : List Oper} {a : Act} {w : World} {Q : Exit → Act → World → Prop} (n : Nat) {d : Option Nat} {ty : TypeId} {y : Operand} {t : TypeId} {p : String} {af : Array Edge} {g : Option (Nat × Bool)} (h : wpList P ops Q (⟨d, .store ty (.tmp n) y, t, p, af, g⟩ :: rest) a w) : wpList P ops Q (⟨d, .store ty (.tmp n) y, t, p, af, g⟩ :: rest) a w := h

theorem turns_setRow (w : World) (g : Nat) (cs : Array Value) : Turns (fun i => i = g) w (w.setRow g cs) := ⟨rfl, rfl, rfl, by simp [World.setRow], fun k _ hk => setRow_other w g k cs hk⟩

/-! ### ids, one behind the other -/
theorem Is.range {w : World} {b o n c size : Nat} {ids : List (List UInt8)} (h : Is w (some ⟨b, o, none⟩) n c size ids) (hs : size ≤ 9223372036854775807) (i : Nat) (hi : i < ids.length) : w.rangeAt b (o + i * size) (idA ids[i]).toList := fun j v hv => by
  rw [idA_toList] at hv
  exact (h.one i hi hs).at hv
theorem Is.nil (w : World) (size : Nat) : Is w none 0 0 size [] := ⟨Sl.nil _ _, fun _ h => by simp at h, rfl⟩

/-! ### a block: a hash, a parent, ids -/
structure BlkD where
  hash : List UInt8
  par : List UInt8
  txs : List (List UInt8)
def blkA (h p : List UInt8) (q : Option Addr) (n c : Nat) : Array Value := (bytesV h ++ bytesV p ++ [Value.slice q n c]).toArray
theorem blkA_toList (h p : List UInt8) (q : Option Addr) (n c : Nat) : (blkA h p q n c).toList = bytesV h ++ bytesV p ++ [Value.slice q n c] := by simp [blkA]
/-- a block's value, in a world -/
structure BlkAt (w : World) (M : Array Value) (d : BlkD) (q : Option Addr) (n c : Nat) : Prop where
  arr : M = blkA d.hash d.par q n c
  hlen : d.hash.length = 32
  plen : d.par.length = 32
  ids : Is w q n c 32 d.txs
theorem BlkAt.below {w w' : World} {M : Array Value} {d : BlkD} {q : Option Addr} {n c : Nat} (h : BlkAt w M d q n c) (hb : Below w.heap.size w w') : BlkAt w' M d q n c := ⟨h.arr, h.hlen, h.plen, h.ids.below hb⟩
theorem BlkAt.size {w : World} {M : Array Value} {d : BlkD} {q : Option Addr} {n c : Nat} (h : BlkAt w M d q n c) : M.size = 65 := by
  rw [h.arr, ← Array.length_toList, blkA_toList]; simp [bytesV_length, h.hlen, h.plen]
theorem BlkAt.one {w : World} {M : Array Value} {d : BlkD} {q : Option Addr} {n c : Nat} (h : BlkAt w M d q n c) : M.all (·.oneCell') = true := by
  have := all_oneCell_toArray (cs := M.toList) (fun v hv => by
    rw [h.arr, blkA_toList] at hv
    simp only [List.mem_append, List.mem_singleton] at hv
    rcases hv with (hv | hv) | hv
    · exact bytesV_one _ v hv
    · exact bytesV_one _ v hv
    · rw [hv]; rfl)
  rwa [Array.toArray_toList] at this
/-- its parts, where it lies in a row of its own -/
theorem BlkAt.parts {w wb : World} {M : Array Value} {d : BlkD} {q : Option Addr} {n c : Nat} (h : BlkAt w M d q n c) {b : Nat} {t : TypeId} {fr : Nat × Nat} (hr : wb.heap[b]? = some (.cells M t fr)) :
    wb.rangeAt b 0 (idA d.hash).toList ∧ wb.rangeAt b 32 (idA d.par).toList ∧ wb.cell? ⟨b, 64, none⟩ = some (.slice q n c) := by
  have hM : M.toList = bytesV d.hash ++ bytesV d.par ++ [Value.slice q n c] := by rw [h.arr, blkA_toList]
  refine ⟨?_, ?_, ?_⟩
  · have := range_row hr [] (bytesV d.hash) (bytesV d.par ++ [Value.slice q n c]) (by rw [hM]; simp)
    rw [idA_toList]; exact this
  · have := range_row hr (bytesV d.hash) (bytesV d.par) [Value.slice q n c] hM
    rw [bytesV_length, h.hlen] at this
    rw [idA_toList]; exact this
  · have := range_row hr (bytesV d.hash ++ bytesV d.par) [Value.slice q n c] [] (by rw [hM]; simp)
    rw [List.length_append, bytesV_length, bytesV_length, h.hlen, h.plen] at this
    exact this 0 _ rfl

/-! ### a region that draws its order, whose calls make memory and hand back plain values -/
/-- worlds in which nothing below 'w' has turned -/
def Grown (w : World) : Type := { w' : World // Below w.heap.size w w' }
instance (w : World) : Nonempty (Grown w) := ⟨⟨w, Below.refl _ _⟩⟩
def Grown.v {w : World} (x : Grown w) : World := x.1
theorem Grown.b {w : World} (x : Grown w) : Below w.heap.size w x.v := x.2
theorem wp_region_grow {P : Program} {id : Nat} {Q : Exit → Act → World → Prop} {a : Act} {w : World} {l : List Oper} (hm : P.follows .mixedOrders = true) (hB : Region.lexB .any l.toArray = true)
    (h : wpQuiet P l.toArray (fun w' => ∃ x : Grown w, w' = x.v) (fun a' => ∀ w', Below w.heap.size w w' → Q .normal a' w') l a) : (Code.region id l.toArray true).wp P Q a w := by
  refine wp_region_quiet (C := fun w' => ∃ x : Grown w, w' = x.v) hm hB ⟨⟨w.drew, ⟨rfl, rfl, rfl, Nat.le_refl _, fun _ _ => rfl⟩⟩, rfl⟩ ?_
  have key : (fun a' : Act => ∀ w', Below w.heap.size w w' → Q .normal a' w') = (fun a' => ∀ w', (∃ x : Grown w, w' = x.v) → Q .normal a' w') := by
    funext a'
    apply propext
    exact ⟨fun h w' ⟨x, hx⟩ => h w' (by rw [hx]; exact x.b), fun h w' hb => h w' ⟨⟨w', hb⟩, rfl⟩⟩
  rw [← key]; simpa using h
/-- a callee's contract, met in such a world -/
theorem Calls.grow_of {P : Program} {f : FuncId} {args : Array Value} {w : World} {x : Grown w} {v : Value} (h : Calls P f args x.v fun e w' => e = .returned v ∧ Below x.v.heap.size x.v w') :
    Calls P f args x.v fun e w'' => e = .returned v ∧ ∃ y : Grown w, w'' = y.v :=
  h.mono fun _ w' ⟨he, hb⟩ => ⟨he, ⟨w', x.b.trans (hb.mono x.b.size)⟩, rfl⟩
theorem Calls.grow_same {P : Program} {f : FuncId} {args : Array Value} {w : World} {x : Grown w} {v : Value} (h : Calls P f args x.v fun e w' => e = .returned v ∧ x.v = w') :
    Calls P f args x.v fun e w'' => e = .returned v ∧ ∃ y : Grown w, w'' = y.v :=
  h.mono fun _ _ ⟨he, hb⟩ => ⟨he, x, hb.symm⟩
/-- a whole row loaded -/
theorem wpQuiet_load {P : Program} {ops : Array Oper} {w : World} {Q : Act → Prop} {a : Act} {op : Oper} {rest : List Oper} (hw : Region.wanted op (yielded ops a.tmps) = true) (ty : TypeId) (x : Operand) (ho : op.op = .load ty x)
    (b o : Nat) (hx : a.eval x = .pointer (some ⟨b, o, none⟩)) (M : Array Value) (d : TypeDesc) (hc : ∀ y : Grown w, y.v.rangeAt b o M.toList)
    (hu : P.underlying ty = some d) (hd : d.isRow = true) (hi : (P.info? ty).map (·.size) = some M.size)
    (h : wpQuiet P ops (fun w' => ∃ x : Grown w, w' = x.v) Q rest (a.put op.dst (.agg M))) : wpQuiet P ops (fun w' => ∃ x : Grown w, w' = x.v) Q (op :: rest) a := by
  unfold wpQuiet
  rw [if_pos hw]
  refine ⟨.agg M, fun w' ⟨y, hy⟩ => ?_, h⟩
  subst hy
  unfold Oper.quietAt execOp
  simp only [ho, hx, Instr.loadAt, Instr.sureAddr, Sem.run_bind, Sem.run_pure, Result.andThen_ok, run_loadVar_mid y.v b o ty M.toList d (hc y) hu hd (by simpa using hi)]
  simp [Oper.quietUpon]
theorem wpQuietAt {P : Program} {ops : Array Oper} {C : World → Prop} {Q : Act → Prop} {a : Act} {rest : List Oper} (n : Nat) {op : Op} {t : TypeId} {p : String} {af : Array Edge} {g : Option (Nat × Bool)} (h : wpQuiet P ops C Q (⟨some n, op, t, p, af, g⟩ :: rest) a) : wpQuiet P ops C Q (⟨some n, op, t, p, af, g⟩ :: rest) a := h
theorem wpQuietGd {P : Program} {ops : Array Oper} {C : World → Prop} {Q : Act → Prop} {a : Act} {rest : List Oper} {d : Option Nat} {op : Op} {t : TypeId} {p : String} {af : Array Edge} {g : Nat × Bool} (h : wpQuiet P ops C Q (⟨d, op, t, p, af, some g⟩ :: rest) a) : wpQuiet P ops C Q (⟨d, op, t, p, af, some g⟩ :: rest) a := h
/-- an operation whose guard does not let it by -/
theorem wpQuiet_skip {P : Program} {ops : Array Oper} {C : World → Prop} {Q : Act → Prop} {a : Act} {o : Oper} {rest : List Oper} (hw : Region.wanted o (yielded ops a.tmps) = false) (h : wpQuiet P ops C Q rest (a.put o.dst undef)) : wpQuiet P ops C Q (o :: rest) a := by
  unfold wpQuiet; rw [if_neg (by rw [hw]; exact Bool.false_ne_true)]; exact h
/-- a whole row loaded, ahead of the operations that write -/
theorem wpStill_load {P : Program} {ops : Array Oper} {w : World} {Q : Act → Prop} {a : Act} {op : Oper} {rest : List Oper} (hw : Region.wanted op (yielded ops a.tmps) = true) (ty : TypeId) (x : Operand) (ho : op.op = .load ty x)
    (b o : Nat) (hx : a.eval x = .pointer (some ⟨b, o, none⟩)) (M : Array Value) (d : TypeDesc) (hc : w.rangeAt b o M.toList)
    (hu : P.underlying ty = some d) (hd : d.isRow = true) (hi : (P.info? ty).map (·.size) = some M.size)
    (h : wpStill P ops w Q rest (a.put op.dst (.agg M))) : wpStill P ops w Q (op :: rest) a := by
  unfold wpStill
  rw [if_pos hw]
  unfold Oper.still execOp
  simp only [ho, hx, Instr.loadAt, Instr.sureAddr, Sem.run_bind, Sem.run_pure, Result.andThen_ok, run_loadVar_mid w b o ty M.toList d hc hu hd (by simpa using hi)]
  simpa [Oper.stillUpon] using h
theorem wp_region_tail {P : Program} {id : Nat} {Q : Exit → Act → World → Prop} {a : Act} {w : World} {l : List Oper} (n : Nat) (hm : P.follows .mixedOrders = true) (hB : Region.lexTailB .any l.toArray n = true)
    (h : wpStill P l.toArray w.drew (fun a' => wpList P l.toArray Q (l.drop n) a' w.drew) (l.take n) a) : (Code.region id l.toArray true).wp P Q a w := wp_region_still_tail n hm hB h
theorem below_drew1 (B : Nat) (w : World) : Below B w w.drew := ⟨rfl, rfl, rfl, Nat.le_refl _, fun _ _ => rfl⟩
theorem range_grown {w : World} {b o : Nat} {L : List Value} (h : w.rangeAt b o L) (y : Grown w) : y.v.rangeAt b o L := fun j v hv => by
  have := h j v hv
  rw [y.b.cell (block_lt_of_cell this)]; exact this
theorem cell_grown {w : World} {p : Addr} {v : Value} (h : w.cell? p = some v) (y : Grown w) : y.v.cell? p = some v := by
  rw [y.b.cell (block_lt_of_cell h)]; exact h
end Go.Mir

namespace Go.Mir
open Go.RowKit

/-- the plan is one that any order comes to -/
def planB (ops : Array Oper) : List (Nat × Bool) → Array Bool → Bool
  | [], listed => (Region.ready .any ops listed).isEmpty
  | (i, true) :: r, listed => (ops[i]?).isSome && Region.free .any ops listed i && (Region.ready .any ops listed).contains i && planB ops r (listed.setIfInBounds i true)
  | (i, false) :: r, listed => (ops[i]?).isSome && Region.ready .any ops listed == [i] && planB ops r (listed.setIfInBounds i true)
/-- the operation at a place of the text -/
def nthO : List Oper → Nat → Option Oper
  | [], _ => none
  | o :: _, 0 => some o
  | _ :: l, n + 1 => nthO l n
theorem nthO_eq : ∀ (l : List Oper) (n : Nat), l.toArray[n]? = nthO l n
  | [], n => by simp [nthO]
  | o :: l, 0 => by simp [nthO]
  | o :: l, n + 1 => by
    have := nthO_eq l n
    simpa [nthO] using this
def planOps (l : List Oper) : List (Nat × Bool) → List (Oper × Bool)
  | [] => []
  | (i, b) :: r => match nthO l i with
    | some o => (o, b) :: planOps l r
    | none => planOps l r
def wpEager (P : Program) (ops : Array Oper) (S : World → Prop) (Q : Exit → Act → World → Prop) : List (Oper × Bool) → Act → World → Prop
  | [], a, w => Q .normal a w
  | (o, true) :: r, a, w => ∃ v, YieldsIf P ops S o v a ∧ wpEager P ops S Q r (a.put o.dst v) w
  | (o, false) :: r, a, w => if Region.wanted o (yielded ops a.tmps) then o.wp P a w (fun a' w' => S w' ∧ wpEager P ops S Q r a' w') Q else wpEager P ops S Q r (a.put o.dst undef) w
theorem wpAnyH_eager {P : Program} {l : List Oper} {ops : Array Oper} (hl : l.toArray = ops) {S : World → Prop} {Q : Exit → Act → World → Prop} (hs : Region.noSelect ops = true) (hQ : ∀ c a d v w, Q (.panic c) (a.put d v) w → Q (.panic c) a w) :
    ∀ (π : List (Nat × Bool)) (listed : Array Bool) (a : Act) (w : World), planB ops π listed = true → S w → wpEager P ops S Q (planOps l π) a w → wpAnyH P .any ops Q S π.length listed a w
  | [], listed, a, w, hp, _, h => by
    refine wpAnyH_done ?_ h _
    simpa [planB, List.isEmpty_iff] using hp
  | (i, true) :: r, listed, a, w, hp, hS, h => by
    simp only [planB, Bool.and_eq_true] at hp
    obtain ⟨⟨⟨h1, h2⟩, h3⟩, h4⟩ := hp
    obtain ⟨o, ho⟩ := Option.isSome_iff_exists.1 h1
    have hn : nthO l i = some o := by rw [← nthO_eq, hl]; exact ho
    simp only [planOps, hn, wpEager] at h
    obtain ⟨v, hy, h⟩ := h
    exact wpAnyH_take ho hs h2 h3 (fun c a w => hQ c a _ _ w) hy hS (wpAnyH_eager hl hs hQ r _ _ _ h4 hS h)
  | (i, false) :: r, listed, a, w, hp, hS, h => by
    simp only [planB, Bool.and_eq_true, beq_iff_eq] at hp
    obtain ⟨⟨h1, h2⟩, h4⟩ := hp
    obtain ⟨o, ho⟩ := Option.isSome_iff_exists.1 h1
    have hn : nthO l i = some o := by rw [← nthO_eq, hl]; exact ho
    simp only [planOps, hn, wpEager] at h
    refine wpAnyH_all h2 (by simp) fun j hj => ?_
    rw [List.mem_singleton] at hj
    subst hj
    unfold wpOp
    simp only [ho]
    split at h
    · rename_i hw
      rw [if_pos hw]
      exact .inl (Oper.wp_mono (fun a' w' ⟨h5, h6⟩ => ⟨h5, wpAnyH_eager hl hs hQ r _ _ _ h4 h5 h6⟩) h)
    · rename_i hw
      rw [if_neg hw]
      exact ⟨hS, wpAnyH_eager hl hs hQ r _ _ _ h4 hS h⟩
/-- the beginning -/
theorem wp_region_eager_in {P : Program} {id : Nat} {Q : Exit → Act → World → Prop} {a : Act} {w : World} {l : List Oper} (S : World → Prop) (π : List (Nat × Bool)) (hm : P.follows .mixedOrders = true)
    (hp : (planB l.toArray π (Array.replicate l.length false) && Region.noSelect l.toArray && π.length == l.length) = true) (hS : S w.drew)
    (h : wpEager P l.toArray S (NoPanic Q) (planOps l π) a w.drew) : (Code.region id l.toArray true).wp P Q a w := by
  refine wp_region_noPanic ?_
  simp only [Bool.and_eq_true, beq_iff_eq] at hp
  obtain ⟨⟨h1, h2⟩, h3⟩ := hp
  have := wpAnyH_eager (P := P) (Q := NoPanic Q) (l := l) rfl h2 (fun _ _ _ _ _ h => h) π (Array.replicate l.length false) a w.drew h1 hS h
  refine wp_region_held hm (S := S) ?_
  rw [h3] at this
  have hz : l.toArray.size = l.length := List.size_toArray ..
  rw [hz]
  exact this
theorem wp_region_eager {P : Program} {id : Nat} {Q : Exit → Act → World → Prop} {a : Act} {w : World} {l : List Oper} (π : List (Nat × Bool)) (hm : P.follows .mixedOrders = true)
    (hp : (planB l.toArray π (Array.replicate l.length false) && Region.noSelect l.toArray && π.length == l.length) = true)
    (h : wpEager P l.toArray (Below w.heap.size w) (NoPanic Q) (planOps l π) a w.drew) : (Code.region id l.toArray true).wp P Q a w :=
  wp_region_eager_in (Below w.heap.size w) π hm hp ⟨rfl, rfl, rfl, Nat.le_refl _, fun _ _ => rfl⟩ h
/-- the next operation, written out -/
theorem eagerOpen {P : Program} {ops : Array Oper} {S : World → Prop} {Q : Exit → Act → World → Prop} {l : List Oper} {i : Nat} {b : Bool} {r : List (Nat × Bool)} {a : Act} {w : World} {o : Oper} (ho : nthO l i = some o)
    (h : wpEager P ops S Q ((o, b) :: planOps l r) a w) : wpEager P ops S Q (planOps l ((i, b) :: r)) a w := by
  unfold planOps; rw [ho]; exact h
theorem eagerEnd {P : Program} {ops : Array Oper} {S : World → Prop} {Q : Exit → Act → World → Prop} {l : List Oper} {a : Act} {w : World} (h : Q .normal a w) : wpEager P ops S (NoPanic Q) (planOps l []) a w := h
/-- its steps -/
theorem wpEager_nil {P : Program} {ops : Array Oper} {S : World → Prop} {Q : Exit → Act → World → Prop} {a : Act} {w : World} (h : Q .normal a w) : wpEager P ops S (NoPanic Q) [] a w := h
theorem wpEager_take {P : Program} {ops : Array Oper} {S : World → Prop} {Q : Exit → Act → World → Prop} {o : Oper} {r : List (Oper × Bool)} {a : Act} {w : World} {v : Value} (hw : Region.wanted o (yielded ops a.tmps) = true)
    (hy : ∀ w', S w' → (execOp a.eval o).run P w' = .ok (.value v) w') (h : wpEager P ops S Q r (a.put o.dst v) w) : wpEager P ops S Q ((o, true) :: r) a w := ⟨v, .inl ⟨hw, hy⟩, h⟩
theorem wpEager_skip {P : Program} {ops : Array Oper} {S : World → Prop} {Q : Exit → Act → World → Prop} {o : Oper} {r : List (Oper × Bool)} {a : Act} {w : World} (hw : Region.wanted o (yielded ops a.tmps) = false)
    (h : wpEager P ops S Q r (a.put o.dst undef) w) : wpEager P ops S Q ((o, true) :: r) a w := ⟨undef, .inr ⟨hw, rfl⟩, h⟩
theorem wpEager_off {P : Program} {ops : Array Oper} {S : World → Prop} {Q : Exit → Act → World → Prop} {o : Oper} {r : List (Oper × Bool)} {a : Act} {w : World} (hw : Region.wanted o (yielded ops a.tmps) = false)
    (h : wpEager P ops S Q r (a.put o.dst undef) w) : wpEager P ops S Q ((o, false) :: r) a w := by
  unfold wpEager; rw [if_neg (by rw [hw]; exact Bool.false_ne_true)]; exact h
theorem wpEager_load {P : Program} {ops : Array Oper} {S : World → Prop} {Q : Exit → Act → World → Prop} {op : Oper} {r : List (Oper × Bool)} {a : Act} {w : World} (hw : Region.wanted op (yielded ops a.tmps) = true) (ty : TypeId) (x : Operand) (ho : op.op = .load ty x)
    (b o : Nat) (hx : a.eval x = .pointer (some ⟨b, o, none⟩)) (M : Array Value) (d : TypeDesc) (hc : ∀ w', S w' → w'.rangeAt b o M.toList)
    (hu : P.underlying ty = some d) (hd : d.isRow = true) (hi : (P.info? ty).map (·.size) = some M.size)
    (h : wpEager P ops S Q r (a.put op.dst (.agg M)) w) : wpEager P ops S Q ((op, true) :: r) a w := by
  refine wpEager_take hw (fun w' hb => ?_) h
  unfold execOp
  simp only [ho, hx, Instr.loadAt, Instr.sureAddr, Sem.run_bind, Sem.run_pure, Result.andThen_ok, run_loadVar_mid w' b o ty M.toList d (hc w' hb) hu hd (by simpa using hi)]
/-- at a call: the way back is shut till 'S' is shown -/
theorem wpEager_op {P : Program} {ops : Array Oper} {S : World → Prop} {Q : Exit → Act → World → Prop} {o : Oper} {r : List (Oper × Bool)} {a : Act} {w : World} (hw : Region.wanted o (yielded ops a.tmps) = true)
    (h : ∀ K : Act → World → Prop, Shut (∀ a w, S w → wpEager P ops S Q r a w → K a w) → Oper.wp P o a w K Q) : wpEager P ops S Q ((o, false) :: r) a w := by
  unfold wpEager; rw [if_pos hw]; exact h _ fun _ _ h1 h2 => ⟨h1, h2⟩
theorem eagerLoadAt {P : Program} {ops : Array Oper} {S : World → Prop} {Q : Exit → Act → World → Prop} {r : List (Oper × Bool)} {a : Act} {w : World} (n : Nat) {d : Option Nat} {ty : TypeId} {t : TypeId} {p : String} {af : Array Edge} {g : Option (Nat × Bool)} {b : Bool}
    (h : wpEager P ops S Q ((⟨d, .load ty (.tmp n), t, p, af, g⟩, b) :: r) a w) : wpEager P ops S Q ((⟨d, .load ty (.tmp n), t, p, af, g⟩, b) :: r) a w := h
theorem range_below {w w' : World} {b o : Nat} {L : List Value} (h : w.rangeAt b o L) (hb : Below w.heap.size w w') : w'.rangeAt b o L := fun j v hv => by
  have := h j v hv
  rw [hb.cell (block_lt_of_cell this)]; exact this
theorem cell_below {w w' : World} {p : Addr} {v : Value} (h : w.cell? p = some v) (hb : Below w.heap.size w w') : w'.cell? p = some v := by
  rw [hb.cell (block_lt_of_cell h)]; exact h

theorem eagerAt {P : Program} {ops : Array Oper} {S : World → Prop} {Q : Exit → Act → World → Prop} {r : List (Oper × Bool)} {a : Act} {w : World} (n : Nat) {op : Op} {t : TypeId} {p : String} {af : Array Edge} {g : Option (Nat × Bool)} {b : Bool}
    (h : wpEager P ops S Q ((⟨some n, op, t, p, af, g⟩, b) :: r) a w) : wpEager P ops S Q ((⟨some n, op, t, p, af, g⟩, b) :: r) a w := h
theorem wpEager_build {P : Program} {ops : Array Oper} {S : World → Prop} {Q : Exit → Act → World → Prop} {o : Oper} {r : List (Oper × Bool)} {a : Act} {w : World} (hw : Region.wanted o (yielded ops a.tmps) = true) (t : TypeId) (parts : Array (Nat × Operand)) (ho : o.op = .build t parts)
    (vals : List (Nat × Value)) (hv : (parts.toList.map fun p => (p.1, a.eval p.2)) = vals) (cells : Array Value) (h : P.built t vals = some cells) (k : wpEager P ops S Q r (a.put o.dst (.agg cells)) w) : wpEager P ops S Q ((o, true) :: r) a w := by
  refine wpEager_take hw (fun w' _ => ?_) k
  have hb : P.built t (parts.map fun p => (p.1, a.eval p.2)).toList = some cells := by rw [Array.toList_map, hv]; exact h
  unfold execOp
  simp only [ho, Sem.run_bind, Sem.run_pure, Result.andThen_ok, run_build w' t _ cells hb]
end Go.Mir

namespace Go.Proofs.YtcddgbobbogpgaaDoor.Rdr
open Go.RowKit Go.Mir

/-! ### plain -/
structure RD where
  l : List UInt8
  pos : Nat
  bad : Option Int
def RD.fail (s : RD) (e : Int) : RD := if s.bad = none ∧ e ≠ 0 then ⟨s.l, s.pos, some e⟩ else s
def RD.takeB (s : RD) (n : Int) (fits : Bool) : List UInt8 := if s.bad = none ∧ fits = true ∧ 0 ≤ n ∧ n ≤ (s.l.length : Int) - (s.pos : Int) then (s.l.drop s.pos).take n.toNat else []
def RD.takeS (s : RD) (n : Int) (fits : Bool) : RD :=
  if s.bad ≠ none then s else if fits = false ∨ n < 0 then ⟨s.l, s.pos, some 1⟩ else if (s.l.length : Int) - (s.pos : Int) < n then ⟨s.l, s.pos, some 2⟩ else ⟨s.l, s.pos + n.toNat, none⟩
def RD.err (s : RD) : Int := s.bad.getD 0
def RD.new (l : List UInt8) : RD := ⟨l, 0, none⟩

/-! ### in memory -/
/-- bytes that are only read -/
def Rd (w : World) (base : Nat) (v : Value) (l : List UInt8) : Prop :=
  (v = .slice none 0 0 ∧ l = []) ∨ ∃ g cap cur, v = .slice (some ⟨g, 0, none⟩) l.length cap ∧ base ≤ g ∧ w.heap[g]? = some (.cells cur 5 (0, 0)) ∧ l.length ≤ cap ∧ cap ≤ maxLen ∧ l.length ≤ cur.size ∧ cur.toList.take l.length = bytesV l
theorem Rd.touch {S : Nat → Prop} {w w' : World} {base : Nat} {v : Value} {l : List UInt8} (h : Rd w base v l) (ht : Turns S w w') (hS : ∀ k M fr, w.heap[k]? = some (.cells M 5 fr) → ¬ S k) : Rd w' base v l := by
  rcases h with h | ⟨g, cap, cur, h1, h2, h3, h4⟩
  · exact .inl h
  · exact .inr ⟨g, cap, cur, h1, h2, ht.keep h3 (hS g cur _ h3), h4⟩
theorem Rd.below {w w' : World} {base : Nat} {v : Value} {l : List UInt8} (h : Rd w base v l) (hb : Below w.heap.size w w') : Rd w' base v l :=
  h.touch (Turns.of_below (S := fun _ => False) hb) (fun _ _ _ _ h => h)
theorem Rd.bs {w : World} {base : Nat} {v : Value} {l : List UInt8} (h : Rd w base v l) : ∃ p c, v = .slice p l.length c ∧ Bs w p l.length c l := by
  rcases h with ⟨rfl, rfl⟩ | ⟨g, cap, cur, rfl, hb, hg, hn, hm, hz, ht⟩
  · exact ⟨none, 0, rfl, Sl.nil _ _⟩
  · refine ⟨_, _, rfl, ⟨by rw [bytesV_length, Nat.mul_one], hn, by simpa [maxLen] using hm, fun h => (by cases h), fun a ha j u hu => ?_⟩⟩
    obtain rfl := Option.some.inj ha
    have hj : j < l.length := by
      have := (List.getElem?_eq_some_iff.1 hu).1
      rwa [bytesV_length] at this
    rw [add_none, Nat.zero_add, cell_of_row _ _ _ _ _ _ hg, ← Array.getElem?_toList]
    rw [← ht, List.getElem?_take, if_pos hj] at hu
    exact hu
theorem Rd.of_own {w : World} {base : Nat} {v : Value} {l : List UInt8} (h : w.ownsRow base 5 1 v l.length (bytesV l)) : Rd w base v l := by
  rcases h.2 with ⟨rfl, hn⟩ | ⟨g, cap, cur, rfl, hb, hg, hn, hm, hs, ht⟩
  · exact .inl ⟨rfl, List.length_eq_zero_iff.1 hn⟩
  · exact .inr ⟨g, cap, cur, rfl, hb, hg, hn, hm, by rw [hs]; omega, by rw [Nat.mul_one] at ht; exact ht⟩
theorem Rd.base {w : World} {base b2 : Nat} {v : Value} {l : List UInt8} (h : Rd w base v l) (hb : b2 ≤ base) : Rd w b2 v l := by
  rcases h with h | ⟨g, cap, cur, h1, h2, h3⟩
  · exact .inl h
  · exact .inr ⟨g, cap, cur, h1, Nat.le_trans hb h2, h3⟩
/-- some of the bytes -/
theorem Bs.part {w : World} {p : Option Addr} {n c : Nat} {l : List UInt8} (h : Bs w p n c l) (k m : Nat) (hk : k + m ≤ n) (hm : 0 < m) : ∃ b o, p = some ⟨b, o, none⟩ ∧ Bs w (some ⟨b, o + k, none⟩) m m ((l.drop k).take m) := by
  have hn := h.length
  obtain ⟨b, o, rfl⟩ := Sl.addr h (by omega) (by omega)
  have h1 := h.le
  have h2 := h.max
  refine ⟨b, o, rfl, ⟨by rw [bytesV_length, List.length_take, List.length_drop, Nat.mul_one]; omega, Nat.le_refl _, by omega, fun hp => (by cases hp), fun a ha j u hu => ?_⟩⟩
  obtain rfl := Option.some.inj ha
  have h1 : (bytesV l)[k + j]? = some u := by
    simp only [bytesV, List.getElem?_map, List.getElem?_take, List.getElem?_drop] at hu ⊢
    split at hu
    · exact hu
    · simp at hu
  have := h.cell _ rfl (k + j) u h1
  rw [add_none] at this ⊢
  rwa [Nat.add_assoc]
def rA (v : Value) (pos : Nat) (bv : Value) : Array Value := #[.bool true, v, .int .i64 (pos : Int), bv]
/-! ### walks -/
theorem info8 : (Tryd.prog.info? 5).map (fun i => (i.zero, i.size, i.bytes)) = some (some (.int .u8 0), 1, 1) := by kernel_rfl
theorem wpList_build {P : Program} {w : World} {ops : Array Oper} {rest : List Oper} {o : Oper} {a : Act} {Q : Exit → Act → World → Prop} (hgd : o.guard = none) (t : TypeId) (parts : Array (Nat × Operand)) (ho : o.op = .build t parts)
    (vals : List (Nat × Value)) (hv : (parts.toList.map fun p => (p.1, a.eval p.2)) = vals) (cells : Array Value) (h : P.built t vals = some cells) (k : wpList P ops Q rest (a.put o.dst (.agg cells)) w) : wpList P ops Q (o :: rest) a w := by
  refine wpList_plain hgd fun K hK => ?_
  unfold Oper.wp execOp
  have hb : P.built t (parts.map fun p => (p.1, a.eval p.2)).toList = some cells := by rw [Array.toList_map, hv]; exact h
  simp only [ho, Sem.run_bind, Sem.run_pure, Result.andThen_ok, run_build w t _ cells hb]
  exact hK _ _ k
end Go.Proofs.YtcddgbobbogpgaaDoor.Rdr

namespace Go.Proofs.YtcddgbobbogpgaaDoor.Rpl
open Go.RowKit Go.Mir Go.Mir.Hx Go.Mir.Parts

def strV (ls : List (List UInt8)) : List Value := ls.map fun x => .string (S x)
theorem strV_length (ls : List (List UInt8)) : (strV ls).length = ls.length := by simp [strV]
theorem strV_get (ls : List (List UInt8)) (j : Nat) (h : j < ls.length) : (strV ls)[j]? = some (.string (S ls[j])) := by simp [strV, h]
theorem strV_one (ls : List (List UInt8)) : ∀ u ∈ strV ls, u.oneCell' = true := by
  intro u hu; simp only [strV, List.mem_map] at hu; obtain ⟨_, _, rfl⟩ := hu; rfl
/-- a []string that reads as these -/
abbrev Ws (w : World) (p : Option Addr) (n c : Nat) (ls : List (List UInt8)) : Prop := Sl w p n c 1 (strV ls)
theorem Ws.length {w : World} {p : Option Addr} {n c : Nat} {ls : List (List UInt8)} (h : Ws w p n c ls) : ls.length = n := by
  have := h.len; simpa [strV_length] using this
theorem Ws.str {w : World} {b o : Nat} {n c : Nat} {ls : List (List UInt8)} (h : Ws w (some ⟨b, o, none⟩) n c ls) {j : Nat} (hj : j < ls.length) : w.cell? ⟨b, o + j, none⟩ = some (.string (S ls[j])) := h.at (strV_get ls j hj)
theorem Ws.row {w : World} {g : Nat} {cs : Array Value} {t : TypeId} {fr : Nat × Nat} {ls : List (List UInt8)} (hr : w.heap[g]? = some (.cells cs t fr)) (hc : cs.toList = strV ls) (hm : ls.length ≤ 9223372036854775807) : Ws w (some ⟨g, 0, none⟩) ls.length ls.length ls :=
  ⟨by rw [strV_length, Nat.mul_one], Nat.le_refl _, hm, fun h => (by cases h), fun a ha j u hu => by
    obtain rfl := Option.some.inj ha
    rw [add_none, cell_of_row _ _ _ _ _ _ hr, ← Array.getElem?_toList, hc, Nat.zero_add]
    exact hu⟩
theorem built_kinds : Tryd.prog.built 63 [(0, .string ⟨#[110, 111, 110, 101]⟩), (1, .string ⟨#[111, 112, 101, 110]⟩), (2, .string ⟨#[117, 112, 108, 111, 97, 100]⟩), (3, .string ⟨#[97, 115, 107]⟩), (4, .string ⟨#[99, 108, 111, 115, 101]⟩), (5, .string ⟨#[99, 111, 110, 110, 101, 99, 116]⟩), (6, .string ⟨#[100, 105, 115, 99, 111, 110, 110, 101, 99, 116]⟩)] = some (strV K7).toArray := by kernel_rfl
def Z21 : Array Value := (List.replicate 21 (Value.string ⟨#[]⟩)).toArray
theorem one21 : ((strV E21).toArray).all (·.oneCell') = true := by kernel_rfl
def Z7 : Array Value := (List.replicate 7 (Value.string ⟨#[]⟩)).toArray
theorem zero7 (w : World) : (zeroValue 63).run Tryd.prog w = .ok (.agg Z7) w := by kernel_rfl
theorem info7 (n : Nat) (h : n = 7) : (Tryd.prog.info? 63).map (·.size) = some n := by subst h; kernel_rfl
theorem one7 : ((strV K7).toArray).all (·.oneCell') = true := by kernel_rfl
end Go.Proofs.YtcddgbobbogpgaaDoor.Rpl

namespace Go.Proofs
open Go.Shelf
def Tryd.lays156_ren : Go.Shelf.Ren := ⟨fun | 156 => 25 | 165 => 49 | 166 => 41 | 169 => 43 | 240 => 62 | 241 => 68 | 276 => 74 | 277 => 76 | n => n, fun | 31 => 65 | 9 => 9 | 3 => 3 | 4 => 4 | 0 => 0 | 20 => 20 | 72 => 95 | 76 => 98 | 70 => 93 | 37 => 23 | 75 => 97 | 127 => 116 | 164 => 128 | 5 => 5 | 80 => 101 | n => n, fun | n => n⟩
theorem Tryd.lays156 : Go.Proofs.Lays.n156 Tryd.prog Tryd.lays156_ren := {
  mixed := by kernel_rfl
  f156 := Tryd.func25.trans (congrArg some (by kernel_rfl))
  f165 := Tryd.func49.trans (congrArg some (by kernel_rfl))
  f166 := Tryd.func41.trans (congrArg some (by kernel_rfl))
  f169 := Tryd.func43.trans (congrArg some (by kernel_rfl))
  f240 := Tryd.func62.trans (congrArg some (by kernel_rfl))
  f241 := Tryd.func68.trans (congrArg some (by kernel_rfl))
  f276 := Tryd.func74.trans (congrArg some (by kernel_rfl))
  f277 := Tryd.func76.trans (congrArg some (by kernel_rfl))
  t0 := Tryd.underlying0
  a0 := Tryd.isAgg0
  z0 := Tryd.sizeOf0
  v0 := Tryd.zeroValue0
  t3 := Tryd.underlying3
  a3 := Tryd.isAgg3
  z3 := Tryd.sizeOf3
  v3 := Tryd.zeroValue3
  t4 := Tryd.underlying4
  a4 := Tryd.isAgg4
  z4 := Tryd.sizeOf4
  v4 := Tryd.zeroValue4
  t9 := Tryd.underlying9
  a9 := Tryd.isAgg9
  z9 := Tryd.sizeOf9
  v9 := Tryd.zeroValue9
  t20 := Tryd.underlying20
  a20 := Tryd.isAgg20
  z20 := Tryd.sizeOf20
  v20 := Tryd.zeroValue20
  t31 := Tryd.underlying65
  a31 := Tryd.isAgg65
  z31 := Tryd.sizeOf65
  v31 := Tryd.zeroValue65
  t37 := Tryd.underlying23
  a37 := Tryd.isAgg23
  z37 := Tryd.sizeOf23
  v37 := Tryd.zeroValue23
  t70 := Tryd.underlying93
  a70 := Tryd.isAgg93
  z70 := Tryd.sizeOf93
  v70 := Tryd.zeroValue93
  t72 := Tryd.underlying95
  a72 := Tryd.isAgg95
  z72 := Tryd.sizeOf95
  v72 := Tryd.zeroValue95
  t75 := Tryd.underlying97
  a75 := Tryd.isAgg97
  z75 := Tryd.sizeOf97
  v75 := Tryd.zeroValue97
  t76 := Tryd.underlying98
  a76 := Tryd.isAgg98
  z76 := Tryd.sizeOf98
  v76 := Tryd.zeroValue98
  t127 := Tryd.underlying116
  a127 := Tryd.isAgg116
  z127 := Tryd.sizeOf116
  v127 := Tryd.zeroValue116
  t164 := Tryd.underlying128
  a164 := Tryd.isAgg128
  z164 := Tryd.sizeOf128
  v164 := Tryd.zeroValue128 }
theorem Tryd.Builder_Extra_156 : Builder.Extra Tryd.prog Tryd.lays156_ren := {
  sizeBuilder := by kernel_rfl
  liesBuilder := by kernel_rfl
  t5 := Tryd.underlying5
  a5 := Tryd.isAgg5
  z5 := Tryd.sizeOf5
  v5 := Tryd.zeroValue5
  infoByte := by kernel_rfl
  cellsByte := by kernel_rfl
  sizeByte := by kernel_rfl
  neB5 := by decide }
open Go.RowKit in
/-- No element: the empty string; the world is as it was. (Whatever the slice's address and capacity: a nil slice too.) (LAID: no walk: one application.) -/
theorem Tryd.strings_Join_none (a : Option Addr) (c : Nat) (sep : ByteArray) (w : World) :
    Calls Tryd.prog 25 #[.slice a 0 c, .string sep] w fun e w' => e = .returned (.string ⟨#[]⟩) ∧ w' = w := Any.strings_Join_none Tryd.lays156 Tryd.Builder_Extra_156 a c sep w
open Go.RowKit in
/-- strings.Join: "Join concatenates the elements of its first argument to create a single string. The separator string sep is placed between elements in the resulting string.": HOWEVER MANY ELEMENTS. Below the heap's end the world is as it was. (LAID: no walk: one application.) -/
theorem Tryd.strings_Join (bk o c : Nat) (xs : List ByteArray) (sep : ByteArray) (w : World) (hcells : ∀ (j : Nat) x, xs[j]? = some x → w.cell? ⟨bk, o + j, none⟩ = some (.string x)) (hbk : bk < w.heap.size) (hN : xs.length ≤ 140737488355328) (hcap : xs.length ≤ c) (hlen : (Lib.join (xs.map (·.data.toList)) sep.data.toList).length ≤ 140737488355328) :
    Calls Tryd.prog 25 #[.slice (some ⟨bk, o, none⟩) xs.length c, .string sep] w fun e w' => e = .returned (.string ⟨(Lib.join (xs.map (·.data.toList)) sep.data.toList).toArray⟩) ∧ Below w.heap.size w w' := Any.strings_Join Tryd.lays156 Tryd.Builder_Extra_156 bk o c xs sep w hcells hbk hN hcap hlen
def Tryd.lays146_ren : Go.Shelf.Ren := ⟨fun | 146 => 32 | 221 => 51 | 268 => 69 | 138 => 70 | 143 => 71 | 195 => 77 | 197 => 78 | 218 => 79 | 219 => 80 | 260 => 82 | 217 => 83 | 225 => 84 | 224 => 85 | 267 => 86 | 266 => 87 | 314 => 88 | n => n, fun | 9 => 9 | 31 => 65 | 3 => 3 | 4 => 4 | 0 => 0 | 105 => 131 | 21 => 21 | 5 => 5 | 46 => 122 | 119 => 137 | 139 => 140 | 138 => 139 | 146 => 142 | 51 => 141 | n => n, fun | 1 => 0 | 3 => 1 | 4 => 2 | n => n⟩
theorem Tryd.lays146 : Go.Proofs.Lays.n146 Tryd.prog Tryd.lays146_ren := {
  mixed := by kernel_rfl
  f138 := Tryd.func70.trans (congrArg some (by kernel_rfl))
  f143 := Tryd.func71.trans (congrArg some (by kernel_rfl))
  f146 := Tryd.func32.trans (congrArg some (by kernel_rfl))
  f195 := Tryd.func77.trans (congrArg some (by kernel_rfl))
  f197 := Tryd.func78.trans (congrArg some (by kernel_rfl))
  f217 := Tryd.func83.trans (congrArg some (by kernel_rfl))
  f218 := Tryd.func79.trans (congrArg some (by kernel_rfl))
  f219 := Tryd.func80.trans (congrArg some (by kernel_rfl))
  f221 := Tryd.func51.trans (congrArg some (by kernel_rfl))
  f224 := Tryd.func85.trans (congrArg some (by kernel_rfl))
  f225 := Tryd.func84.trans (congrArg some (by kernel_rfl))
  f260 := Tryd.func82.trans (congrArg some (by kernel_rfl))
  f266 := Tryd.func87.trans (congrArg some (by kernel_rfl))
  f267 := Tryd.func86.trans (congrArg some (by kernel_rfl))
  f268 := Tryd.func69.trans (congrArg some (by kernel_rfl))
  f314 := Tryd.func88.trans (congrArg some (by kernel_rfl))
  t0 := Tryd.underlying0
  a0 := Tryd.isAgg0
  z0 := Tryd.sizeOf0
  v0 := Tryd.zeroValue0
  t3 := Tryd.underlying3
  a3 := Tryd.isAgg3
  z3 := Tryd.sizeOf3
  v3 := Tryd.zeroValue3
  t4 := Tryd.underlying4
  a4 := Tryd.isAgg4
  z4 := Tryd.sizeOf4
  v4 := Tryd.zeroValue4
  t5 := Tryd.underlying5
  a5 := Tryd.isAgg5
  z5 := Tryd.sizeOf5
  v5 := Tryd.zeroValue5
  t9 := Tryd.underlying9
  a9 := Tryd.isAgg9
  z9 := Tryd.sizeOf9
  v9 := Tryd.zeroValue9
  t21 := Tryd.underlying21
  a21 := Tryd.isAgg21
  z21 := Tryd.sizeOf21
  v21 := Tryd.zeroValue21
  t31 := Tryd.underlying65
  a31 := Tryd.isAgg65
  z31 := Tryd.sizeOf65
  v31 := Tryd.zeroValue65
  t46 := Tryd.underlying122
  a46 := Tryd.isAgg122
  z46 := Tryd.sizeOf122
  v46 := Tryd.zeroValue122
  t51 := Tryd.underlying141
  a51 := Tryd.isAgg141
  z51 := Tryd.sizeOf141
  v51 := Tryd.zeroValue141
  t105 := Tryd.underlying131
  a105 := Tryd.isAgg131
  z105 := Tryd.sizeOf131
  v105 := Tryd.zeroValue131
  t119 := Tryd.underlying137
  a119 := Tryd.isAgg137
  z119 := Tryd.sizeOf137
  t138 := Tryd.underlying139
  a138 := Tryd.isAgg139
  z138 := Tryd.sizeOf139
  v138 := Tryd.zeroValue139
  t139 := Tryd.underlying140
  a139 := Tryd.isAgg140
  z139 := Tryd.sizeOf140
  v139 := Tryd.zeroValue140
  t146 := Tryd.underlying142
  a146 := Tryd.isAgg142
  z146 := Tryd.sizeOf142
  v146 := Tryd.zeroValue142
  g1 := by kernel_rfl
  g3 := by kernel_rfl
  g4 := by kernel_rfl }
open Go.RowKit Go.Lib in
/-- strings.Split. (LAID: no walk: one application.) -/
theorem Tryd.strings_Split (s sep : ByteArray) (m : Int) (w : World) (hs : s.size < 4294967281) (hm : w.cell? ⟨0, 0, none⟩ = some (.int .i64 m)) (h1 : 1 ≤ sep.size) :
    Calls Tryd.prog 32 #[.string s, .string sep] w fun e w' =>
      e = .returned (.slice (some ⟨w.heap.size, 0, none⟩) (Lib.countB s sep + 1) (Lib.countB s sep + 1)) ∧ w' = w.alloc (.cells ((Lib.splitB sep 0 (Lib.countB s sep) s).map Value.string).toArray 9) := Any.strings_Split Tryd.lays146 (by kernel_rfl) s sep m w hs hm h1
def Tryd.laysM146_ren : Go.Shelf.Ren := ⟨fun | 146 => 32 | 221 => 51 | 268 => 69 | 138 => 70 | 143 => 71 | 195 => 77 | 197 => 78 | 218 => 79 | 219 => 80 | 260 => 82 | 217 => 83 | 225 => 84 | 224 => 85 | 267 => 86 | 266 => 87 | 314 => 88 | n => n, fun | 9 => 9 | 31 => 65 | 3 => 3 | 4 => 4 | 0 => 0 | 105 => 131 | 21 => 21 | 5 => 5 | 46 => 122 | 119 => 137 | 139 => 140 | 138 => 139 | 146 => 142 | 51 => 141 | n => n, fun | 1 => 0 | 3 => 1 | 4 => 2 | n => n⟩
theorem Tryd.laysM146 : Go.Proofs.LaysM.n146 Tryd.prog Tryd.laysM146_ren := {
  mixed := by kernel_rfl
  f138 := Tryd.func70.trans (congrArg some (by kernel_rfl))
  f143 := Tryd.func71.trans (congrArg some (by kernel_rfl))
  f146 := Tryd.func32.trans (congrArg some (by kernel_rfl))
  f195 := Tryd.func77.trans (congrArg some (by kernel_rfl))
  f197 := Tryd.func78.trans (congrArg some (by kernel_rfl))
  f217 := Tryd.func83.trans (congrArg some (by kernel_rfl))
  f218 := Tryd.func79.trans (congrArg some (by kernel_rfl))
  f219 := Tryd.func80.trans (congrArg some (by kernel_rfl))
  f221 := Tryd.func51.trans (congrArg some (by kernel_rfl))
  f224 := Tryd.func85.trans (congrArg some (by kernel_rfl))
  f225 := Tryd.func84.trans (congrArg some (by kernel_rfl))
  f260 := Tryd.func82.trans (congrArg some (by kernel_rfl))
  f266 := Tryd.func87.trans (congrArg some (by kernel_rfl))
  f267 := Tryd.func86.trans (congrArg some (by kernel_rfl))
  f268 := Tryd.func69.trans (congrArg some (by kernel_rfl))
  f314 := Tryd.func88.trans (congrArg some (by kernel_rfl))
  t0 := Tryd.underlying0
  a0 := Tryd.isAgg0
  z0 := Tryd.sizeOf0
  v0 := Tryd.zeroValue0
  t3 := Tryd.underlying3
  a3 := Tryd.isAgg3
  z3 := Tryd.sizeOf3
  v3 := Tryd.zeroValue3
  t4 := Tryd.underlying4
  a4 := Tryd.isAgg4
  z4 := Tryd.sizeOf4
  v4 := Tryd.zeroValue4
  t5 := Tryd.underlying5
  a5 := Tryd.isAgg5
  z5 := Tryd.sizeOf5
  v5 := Tryd.zeroValue5
  t9 := Tryd.underlying9
  a9 := Tryd.isAgg9
  z9 := Tryd.sizeOf9
  v9 := Tryd.zeroValue9
  t21 := Tryd.underlying21
  a21 := Tryd.isAgg21
  z21 := Tryd.sizeOf21
  v21 := Tryd.zeroValue21
  t31 := Tryd.underlying65
  a31 := Tryd.isAgg65
  z31 := Tryd.sizeOf65
  v31 := Tryd.zeroValue65
  t46 := Tryd.underlying122
  a46 := Tryd.isAgg122
  z46 := Tryd.sizeOf122
  v46 := Tryd.zeroValue122
  t51 := Tryd.underlying141
  a51 := Tryd.isAgg141
  z51 := Tryd.sizeOf141
  v51 := Tryd.zeroValue141
  t105 := Tryd.underlying131
  a105 := Tryd.isAgg131
  z105 := Tryd.sizeOf131
  v105 := Tryd.zeroValue131
  t119 := Tryd.underlying137
  a119 := Tryd.isAgg137
  z119 := Tryd.sizeOf137
  t138 := Tryd.underlying139
  a138 := Tryd.isAgg139
  z138 := Tryd.sizeOf139
  v138 := Tryd.zeroValue139
  t139 := Tryd.underlying140
  a139 := Tryd.isAgg140
  z139 := Tryd.sizeOf140
  v139 := Tryd.zeroValue140
  t146 := Tryd.underlying142
  a146 := Tryd.isAgg142
  z146 := Tryd.sizeOf142
  v146 := Tryd.zeroValue142
  g1 := by kernel_rfl
  g3 := by kernel_rfl
  g4 := by kernel_rfl
  i0 := by kernel_rfl
  i3 := by kernel_rfl
  i4 := by kernel_rfl
  i5 := by kernel_rfl
  i9 := by kernel_rfl
  i21 := by kernel_rfl
  i31 := by kernel_rfl
  i46 := by kernel_rfl
  i51 := by kernel_rfl
  i105 := by kernel_rfl
  i138 := by kernel_rfl
  i139 := by kernel_rfl
  i146 := by kernel_rfl
  m1 := by kernel_rfl
  s1_3 := fun w h => Go.Proofs.cell_of_shapedOpen_int (zero := #[.int .i64 0]) (t := 3) h (of_decide_eq_true (by kernel_rfl)) (by kernel_rfl) rfl (by kernel_rfl) (by kernel_rfl) Tryd.underlying3
  m3 := by kernel_rfl
  m4 := by kernel_rfl }
open Go.RowKit Go.Lib in
/-- strings.Split, sep not empty. (LAID: no walk: one application.) -/
theorem Tryd.strings_Split_shaped (s sep : ByteArray) (w : World) (h : w.ShapedOpen Tryd.prog) (hs : s.size < 4294967281) (h1 : 1 ≤ sep.size) :
    Calls Tryd.prog 32 #[.string s, .string sep] w fun e w' =>
      e = .returned (.slice (some ⟨w.heap.size, 0, none⟩) (Lib.countB s sep + 1) (Lib.countB s sep + 1)) ∧ w' = w.alloc (.cells ((Lib.splitB sep 0 (Lib.countB s sep) s).map Value.string).toArray 9) := Any.strings_Split_shaped Tryd.laysM146 s sep w h hs h1
end Go.Proofs

namespace Go.Proofs.YtcddgbobbogpgaaDoor.Rpl
open Go.RowKit Go.Mir Go.Mir.Hx Go.Mir.Parts
open Go.Lib (join)

/-- internal/bytealg.MaxLen holds an int -/
def MaxL (w : World) : Prop := ∃ m, w.cell? ⟨Tryd.lays146_ren.g 1, 0, none⟩ = some (.int .i64 m)
theorem MaxL.below {w w' : World} (h : MaxL w) (hb : Below w.heap.size w w') : MaxL w' := by
  obtain ⟨m, h⟩ := h
  exact ⟨m, cell_below h hb⟩
theorem maxL_shaped {w : World} (h : w.ShapedOpen Tryd.prog) : MaxL w := Tryd.laysM146.s1_3 w h
theorem strV_of (xs : List ByteArray) : xs.map Value.string = strV (xs.map (·.data.toList)) := by
  unfold strV
  rw [List.map_map]
  refine List.map_congr_left fun x _ => ?_
  show Value.string x = .string (S x.data.toList)
  rw [← S_of x]
set_option maxRecDepth 100000 in
theorem split_any (s : List UInt8) (w : World) (hs : s.length < 4294967281) (hm : MaxL w) :
    Calls Tryd.prog 32 #[.string (S s), .string ⟨#[32]⟩] w fun e w' => e = .returned (.slice (some ⟨w.heap.size, 0, none⟩) (sp s).length (sp s).length) ∧ Ws w' (some ⟨w.heap.size, 0, none⟩) (sp s).length (sp s).length (sp s) ∧ Below w.heap.size w w' := by
  obtain ⟨m, hm⟩ := hm
  have hd : (Go.Lib.splitB ⟨#[32]⟩ 0 (Go.Lib.countB (S s) ⟨#[32]⟩) (S s)).map (·.data.toList) = sp s := by
    rw [Go.Lib.splitB_data]
    show Go.Lib.splitK [32] 0 (Go.Lib.count (S s).data.toList [32]) (S s).data.toList = _
    rw [S_data]
    exact split_sp s
  have hl : Go.Lib.countB (S s) ⟨#[32]⟩ + 1 = (sp s).length := by
    rw [← hd, List.length_map, Go.Lib.splitB_all ⟨#[32]⟩ (by decide) 0 _ (S s) rfl]
  refine (Tryd.strings_Split (S s) ⟨#[32]⟩ m w (by rw [S_size]; exact hs) hm (by decide)).mono ?_
  rintro e w' ⟨rfl, rfl⟩
  rw [hl]
  refine ⟨rfl, Ws.row (ls := sp s) (heap_alloc_last w _) ?_ ?_, Below.allocs _ _⟩
  · rw [strV_of, hd]
  · have : (sp s).length ≤ s.length + 1 := by
      rw [← hl]
      have := Go.Lib.countB_le ⟨#[32]⟩ (by decide) (S s).size (S s) (Nat.le_refl _)
      rw [S_size] at this
      omega
    omega
theorem join_any (g o n c : Nat) (ws : List (List UInt8)) (w : World) (h : Ws w (some ⟨g, o, none⟩) n c ws) (hg : g < w.heap.size) (hn : n ≤ 140737488355328) (hl : (join ws [32]).length ≤ 140737488355328) :
    Calls Tryd.prog 25 #[.slice (some ⟨g, o, none⟩) n c, .string ⟨#[32]⟩] w fun e w' => e = .returned (.string (S (join ws [32]))) ∧ Below w.heap.size w w' := by
  have hm : (ws.map S).map (·.data.toList) = ws := by
    rw [List.map_map]
    conv => rhs; rw [← List.map_id ws]
    exact List.map_congr_left fun x _ => S_data x
  have hlen := h.length
  have hln : (ws.map S).length = n := by rw [List.length_map]; exact hlen
  have := Tryd.strings_Join g o c (ws.map S) ⟨#[32]⟩ w (fun j x hx => by
    rw [List.getElem?_map] at hx
    obtain ⟨y, hy, rfl⟩ := Option.map_eq_some_iff.1 hx
    obtain ⟨hj, rfl⟩ := List.getElem?_eq_some_iff.1 hy
    exact h.str hj) hg (by rw [hln]; exact hn) (by rw [hln]; exact h.le) (by rw [hm]; exact hl)
  rw [hm, hln] at this
  exact this
end Go.Proofs.YtcddgbobbogpgaaDoor.Rpl

namespace Go.Mir
open Go.ChangeShapes Go.WideShapes Go.ChangeAt Go.RowKit
variable {H : Type} {enc : TypeId × Value → H}
theorem law_row_m {C : Checked} {os : Os} {f : FuncId} {fn : Func} {s : ChangeSpec} {F : Stop.Interp} {tb : TypeId} {conds : List PathCond} {laid : List (String × DataW Unit)}
    (own : ownKnob C.prog.godebug = none) (started : os.Started) (noInit : C.prog.inits.idxOf? f = none) (hfn : C.prog.funcs[f]? = some fn)
    (witness : ∃ (w : World) (tape : Tape) (i : Input), w.os = os ∧ (w.forCall tape i).Shaped C.prog ∧ i.vars = [] ∧ Input.okWide C.prog (w.forCall tape i) .any w.heap.size f i ∧
      (OpenSpec.ofChange s).preRow enc C.prog fn conds false laid (w.forCall tape i).memory i.args ∧ Assume.holds {} C.prog (lone (Frame.enter C.prog f i.args .normal) [] (w.forCall tape i)))
    (hl : laidOutB C.prog = true) (hr : fn.params.toList.all (fun t => C.prog.readableRec t && decide (t < C.prog.types.size)) = true) (hres : fn.resultTypes = #[tb]) (hb : C.prog.underlying tb = some .bool) (hv : s.vars = [])
    (walk : ∀ (W : World) (base : Nat) (args : Array Value) (ds : List (DataW H)) (p : List MemPlace),
      (∀ (j : Nat) t v, fn.params[j]? = some t → args[j]? = some v → Value.okWide C.prog W .any base t v) →
      DataW.TrodAll enc C.prog W 0 (fun _ => true) true fn.params.toList args.toList ds p → laidMetH C.prog laid W → W.ShapedOpen C.prog →
      s.fn H (ds ++ []) = { results := [.lit (.bool true)], args := ds } ∧ Calls C.prog f args W fun e W' => e = .returned (.bool true) ∧ Below W.heap.size W W') :
    ReturnsInHanded {} C os f .any ((OpenSpec.ofChange s).preRow enc C.prog fn conds false laid) (((OpenSpec.ofChange s).at F).post enc C.prog fn false true false false) := by
  refine returnsInHanded_of_row (C := C) (s := OpenSpec.ofChange s) own started noInit hfn witness ?_
  intro W base args ds gs before hval hW _ _ _ hL hS _
  have hr' : ∀ t ∈ fn.params.toList, C.prog.readableRec t = true ∧ t < C.prog.types.size := fun t ht => by
    have := List.all_eq_true.1 hr t ht; simpa using this
  have hW1 : DataW.Whole enc C.prog fn.params.toList s.vars false W args.toList ds gs before := hW
  obtain ⟨p, q, hA, hV, rfl, hfz, hnd⟩ := id hW1
  rw [hv] at hV
  obtain ⟨rfl, rfl⟩ : gs = [] ∧ q = [] := by
    cases gs with
    | nil => exact ⟨rfl, hV⟩
    | cons g gs => exact hV.elim
  obtain ⟨hs, hc⟩ := walk W base args ds p hval hA hL hS
  refine hc.mono fun e W' ⟨he, bel⟩ => ?_
  subst he
  exact ⟨_, rfl, law_post hl hr' hres hb hv hs hW1 bel⟩
end Go.Mir
namespace Go.Proofs.YtcddgbobbogpgaaDoor.Rpl
open Go.ChangeShapes Go.WideShapes Go.RowKit Go.Mir

theorem own : ownKnob Tryd.prog.godebug = none := by kernel_rfl
theorem laidOut : laidOutB Tryd.prog = true := by kernel_rfl
def laidU : List (String × DataW Unit) := [("unicode/utf8.acceptRanges", Rows.laid_unicode_utf8_acceptRanges), ("unicode/utf8.first", Rows.laid_unicode_utf8_first)]
/-- a world that meets the condition -/
noncomputable def laidWorld (os : Os) : World := World.laidAll Tryd.prog os laidU
theorem laidWorld_met (os : Os) (args : Array Value) : laidMetH Tryd.prog laidU ((laidWorld os).forCall (fun _ _ => 0) ⟨#[], args, []⟩).memory :=
  laidMetH_of_parts (laidMet_laidAll (laid := laidU) args (by kernel_rfl) (by kernel_rfl)) (by kernel_rfl)
end Go.Proofs.YtcddgbobbogpgaaDoor.Rpl

namespace Go.Mir
open Go.RowKit

theorem grown_of_below {A B : World} (h : Below A.heap.size A B) (row : Option Nat) : A.grownBy B row := ⟨h.os, h.tape, h.output, h.size, fun k hk _ => h.block k hk⟩
theorem ownFrom_grow {β : Type} {b : Nat} {I : β → World → Prop} (h : OwnFrom b I) {s : β} {A B : World} (hs : I s A) (hb : Below A.heap.size A B) : I s B :=
  h s A B none hs (grown_of_below hb none) (fun r e => by cases e)
/-- what an iterator keeps to -/
def SeqG {α : Type} (P : Program) (n : Nat) (gf : Nat) (lb : Array Value) (encs : α → Array Value) (T : Nat → Prop) (G : List α → α → World → Prop) (S Sp : List α → Prop) (w : World) : Prop :=
  ∀ (l : Nat) (J Jx : List α → World → Prop) (W : World), Below w.heap.size w W → (∀ s A B, J s A → Below A.heap.size A B → J s B) → (∀ s A B, Jx s A → Below A.heap.size A B → Jx s B) →
    (∀ pre x W1, J pre W1 → G pre x W1 → YieldAt Fence.wide (n - 1) P l (encs x) W1 fun e W' => (e = .returned (.bool true) ∧ J (pre ++ [x]) W' ∧ Turns T W1 W') ∨ (e = .returned (.bool false) ∧ Jx (pre ++ [x]) W')) →
    J [] W → CallsIn Fence.wide n P gf (#[.func (.yield l) #[] #[]] ++ lb) W fun e W' => (∃ v, e = .returned v) ∧ ((∃ xs, S xs ∧ J xs W') ∨ ∃ pre, Sp pre ∧ Jx pre W')
/-- how a round may be left -/
def roundEnd {α : Type} (B : Nat) (T : Nat → Prop) (I : List α → World → Prop) (Ix : Code → List α → World → Prop) (xs : List α) (W : World) : Exit → Act → World → Prop
  | .normal, _, W' => KeepsFrom B W W' ∧ Turns T W W' ∧ I xs W'
  | .ret, _, W' => KeepsFrom B W W' ∧ Ix .ret xs W'
  | .exit id, _, W' => KeepsFrom B W W' ∧ Ix (.exit id) xs W'
  | .goto t, _, W' => KeepsFrom B W W' ∧ Ix (.goto t) xs W'
  | .panic _, _, _ => False
  | .outgrown, _, _ => False
/-- what the loop has laid -/
structure LoopAt (b : Nat) (r : Loop) (W : World) : Prop where
  loop : W.heap[b + 1]? = some (.loop r)
  calls : W.heap[b]? = some (.deferred (some []))
theorem LoopAt.lt {b : Nat} {r : Loop} {W : World} (h : LoopAt b r W) : b + 1 < W.heap.size := (Array.getElem?_eq_some_iff.1 h.loop).1
theorem LoopAt.keep {b : Nat} {r : Loop} {W W' : World} (h : LoopAt b r W) (hk : KeepsFrom b W W') : LoopAt b r W' := ⟨hk.same _ _ (by omega) h.loop rfl, hk.same _ _ (Nat.le_refl _) h.calls rfl⟩
theorem LoopAt.set {b : Nat} {r : Loop} {W : World} (h : LoopAt b r W) (r' : Loop) : LoopAt b r' (W.putObj (b + 1) (.loop r')) := ⟨World.putObj_heap_same h.lt, (World.putObj_heap_other (by omega)).trans h.calls⟩
theorem LoopAt.below {b : Nat} {r : Loop} {W W' : World} (h : LoopAt b r W) (hb : Below W.heap.size W W') : LoopAt b r W' := ⟨Below.keepOld hb h.loop, Below.keepOld hb h.calls⟩
variable {P : Program}
theorem rangeG {α : Type} {g : Operand} {ps : Array Tmp} {assign body : Code} {Q : Exit → Act → World → Prop} {a : Act} {w w0 : World} {n : Nat} (_h1 : 1 ≤ n)
    {gf : Nat} {lb : Array Value} (hg : a.eval g = .func (.func gf) #[] lb) (eg : ∀ args w, (callFunc gf args).run P w = .ok (.enter gf args) w)
    {encs : α → Array Value} {T : Nat → Prop} {G : List α → α → World → Prop} {S Sp : List α → Prop} (hseq : SeqG P (n - 1) gf lb encs T G S Sp w0) (hT : ∀ k, w.heap.size ≤ k → T k) (hb0 : Below w0.heap.size w0 w) (hps : ∀ x, (encs x).size = ps.size)
    (hG : OwnFrom w.heap.size (fun (s : List α × α) W => G s.1 s.2 W)) (I : List α → World → Prop) (Ix : Code → List α → World → Prop) (hI : OwnFrom w.heap.size I) (hIx : ∀ c, OwnFrom w.heap.size (Ix c)) (h0 : I [] w) (a₁ : α → Act)
    (hassign : ∀ (l : Nat) (x : α) (W : World) (K : Act → World → Prop), K (a₁ x) W →
      assign.wpIn (Fence.wide.inRound l) (n - 1 - 1) P (Exit.then K (fun _ _ _ => False)) { tmps := (ps.zip (encs x)).foldl (fun t (p, v) => t.setIfInBounds p v) a.tmps, defers := [] } W)
    (hbody : ∀ (l : Nat) (pre : List α) (x : α) (W : World), I pre W → G pre x W → body.wpIn (Fence.wide.inRound l) (n - 1 - 1) P (roundEnd w.heap.size T I Ix (pre ++ [x]) W) (a₁ x) W)
    (hdone : ∀ (D : Nat) (xs : List α) (W : World), w.heap.size ≤ D → S xs → I xs W → W.heap[D]? = some (.deferred (some [])) → Q .normal { a with defers := { target := .collected D, args := #[] } :: a.defers } W)
    (hstop : ∀ (D : Nat) (c : Code) (pre : List α) (W : World), w.heap.size ≤ D → Sp pre → Ix c pre W → W.heap[D]? = some (.deferred (some [])) → c.wpIn Fence.wide n P Q { a with defers := { target := .collected D, args := #[] } :: a.defers } W) :
    (Code.rangeFunc g ps assign body).wpIn Fence.wide n P Q a w := by
  refine wpIn_rangeFunc fun fn hfn => ?_
  obtain ⟨b, hb⟩ : ∃ b, w.heap.size = b := ⟨_, rfl⟩
  let rec' : LoopState → Option Code → Loop := fun st pe => { state := st, pending := pe, fn, tmps := a.tmps, params := ps, assign, body, defers := b }
  obtain ⟨W1, hW1⟩ : ∃ W1, W1 = (w.alloc (.deferred (some []))).alloc (.loop (rec' .ready none)) := ⟨_, rfl⟩
  have hsz : W1.heap.size = b + 2 := by rw [hW1]; simp [hb]
  have hL1 : LoopAt b (rec' .ready none) W1 := by
    rw [hW1, ← hb]
    exact ⟨by have := World.alloc_heap_new (w.alloc (.deferred (some []))) (.loop (rec' .ready none)); rwa [World.size_alloc] at this, (Below.heap_alloc _ _ _ (by simp)).trans (World.alloc_heap_new w _)⟩
  have hww : Below w.heap.size w W1 := by rw [hW1]; exact ((Below.refl _ w).alloc (Nat.le_refl _) _).alloc (by simp) _
  rw [hb] at hI hIx hG hT hbody hdone hstop
  have turn : ∀ {s : List α} {W : World} {r : Loop} (r' : Loop), I s W → LoopAt b r W → I s (W.putObj (b + 1) (.loop r')) := fun r' hi hl => hI.putObj _ hi (by omega) hl.loop rfl
  have turnB : ∀ {W : World} {r : Loop} (r' : Loop), LoopAt b r W → Turns T W (W.putObj (b + 1) (.loop r')) := fun {W} {r} r' hl =>
    Turns.grown (grownBy_putObj' W (b + 1) _) (fun k e => by cases e; exact hT _ (by omega))
  refine ⟨b + 1, [{ target := .collected b, args := #[] }], W1, { target := .fn (.func gf) lb, args := #[.func (.yield (b + 1)) #[] #[]] }, W1, gf, #[.func (.yield (b + 1)) #[] #[]] ++ lb, W1, ?_, ?_, fun _ _ => trivial, ?_, fun h => by simp [Fence.wide] at h, ?_⟩
  · have := run_enterLoop_outer (P := P) (w := w) fn a.tmps ps assign body
    rw [hb] at this
    rw [hW1]
    exact this
  · simp only [resolve, hg]
    simp [go_sem]
  · simp [invoke, go_sem, eg]
  refine (hseq (b + 1) (fun pre W => I pre W ∧ LoopAt b (rec' .ready none) W) (fun pre W => ∃ c, Ix c pre W ∧ LoopAt b (rec' .done (some c)) W) W1
    (hb0.trans (hww.mono hb0.size)) (fun s A B hs hbl => ⟨ownFrom_grow hI hs.1 hbl, hs.2.below hbl⟩) (fun s A B ⟨c, hc, hl⟩ hbl => ⟨c, ownFrom_grow (hIx c) hc hbl, hl.below hbl⟩) ?_ ⟨ownFrom_grow hI h0 hww, hL1⟩).mono ?_
  · rintro pre x W ⟨hi, hl⟩ hx
    refine ⟨fn, _, assign, body, run_yield (P := P) (args := encs x) hl.loop (hps x), roundIn_of_wpIn hfn (hassign _ x W _ ⟨_, run_beginRound hl.loop rfl, ?_⟩)⟩
    have hx2 : G pre x (W.putObj (b + 1) (.loop { rec' .ready none with state := .busy })) := hG.putObj (s := (pre, x)) _ hx (by omega) hl.loop rfl
    refine wpIn_mono (hbody _ pre x _ (turn _ hi hl) hx2) ?_
    have hl2 := hl.set { rec' .ready none with state := .busy }
    have leave : ∀ (c : Code) (W3 : World), KeepsFrom b (W.putObj (b + 1) (.loop { rec' .ready none with state := .busy })) W3 → Ix c (pre ++ [x]) W3 →
        ∃ v w', (Instr.endRound (b + 1) (some c)).run P W3 = .ok v w' ∧ (fun (e : Ending) (W' : World) => (e = .returned (.bool true) ∧ (I (pre ++ [x]) W' ∧ LoopAt b (rec' .ready none) W') ∧ Turns T W W') ∨ (e = .returned (.bool false) ∧ ∃ c, Ix c (pre ++ [x]) W' ∧ LoopAt b (rec' .done (some c)) W')) (.returned v) w' := fun c W3 hk hc => by
      have hl3 := hl2.keep hk
      exact ⟨_, _, run_endRound (P := P) (some c) hl3.loop, .inr ⟨rfl, c, (hIx c).putObj _ hc (by omega) hl3.loop rfl, hl3.set _⟩⟩
    rintro e a3 W3 hp
    cases e with
    | normal =>
      have hl3 := hl2.keep hp.1
      exact ⟨_, _, run_endRound (P := P) none hl3.loop, .inl ⟨rfl, ⟨turn _ hp.2.2 hl3, hl3.set _⟩, ((turnB _ hl).trans hp.2.1 (fun _ _ h => h)).trans (turnB _ hl3) (fun _ _ h => h)⟩⟩
    | ret => exact leave .ret W3 hp.1 hp.2
    | exit id => exact leave (.exit id) W3 hp.1 hp.2
    | goto t => exact leave (.goto t) W3 hp.1 hp.2
    | panic ch => exact hp.elim
    | outgrown => exact hp.elim
  · rintro e W2 ⟨⟨v, rfl⟩, ⟨xs, hS, hi, hl⟩ | ⟨pre, hS, c, hi, hl⟩⟩
    · exact ⟨none, _, run_endLoop (P := P) hl.loop (by simp [rec']), hdone _ xs _ (Nat.le_refl _) hS (turn _ hi hl) (hl.set _).calls⟩
    · exact ⟨some c, _, run_endLoop (P := P) hl.loop (by simp [rec']), hstop _ c pre _ (Nat.le_refl _) hS ((hIx c).putObj _ hi (by omega) hl.loop rfl) (hl.set _).calls⟩
/-- the activation behind the assignment to the loop's variables -/
def setAll (a : Act) (l : List (Nat × Value)) : Act := { tmps := l.foldl (fun t p => t.setIfInBounds p.1 p.2) a.tmps, defers := [] }
theorem rangeS {α : Type} {g : Operand} {ps : Array Tmp} {assign body : Code} {Q : Exit → Act → World → Prop} {a : Act} {w w0 : World} {n : Nat} (h1 : 1 ≤ n)
    {gf : Nat} {lb : Array Value} (hg : a.eval g = .func (.func gf) #[] lb) (eg : ∀ args w, (callFunc gf args).run P w = .ok (.enter gf args) w)
    {encs : α → Array Value} {T : Nat → Prop} {G : List α → α → World → Prop} {S Sp : List α → Prop} (hseq : SeqG P (n - 1) gf lb encs T G S Sp w0) (hT : ∀ k, w.heap.size ≤ k → T k) (hb0 : Below w0.heap.size w0 w) (hps : ∀ x, (encs x).size = ps.size)
    (hG : OwnFrom w.heap.size (fun (s : List α × α) W => G s.1 s.2 W)) (I : List α → World → Prop) (Ix : Code → List α → World → Prop) (hI : OwnFrom w.heap.size I) (hIx : ∀ c, OwnFrom w.heap.size (Ix c)) (h0 : I [] w) (sets : α → List (Nat × Value))
    (hassign : ∀ (l : Nat) (x : α) (W : World) (K : Act → World → Prop), K (setAll a (sets x)) W →
      assign.wpIn (Fence.wide.inRound l) (n - 1 - 1) P (Exit.then K (fun _ _ _ => False)) { tmps := (ps.zip (encs x)).foldl (fun t (p, v) => t.setIfInBounds p v) a.tmps, defers := [] } W)
    (hbody : ∀ (l : Nat) (pre : List α) (x : α) (W : World), I pre W → G pre x W → body.wpIn (Fence.wide.inRound l) (n - 1 - 1) P (roundEnd w.heap.size T I Ix (pre ++ [x]) W) (setAll a (sets x)) W)
    (hdone : ∀ (D : Nat) (xs : List α) (W : World), w.heap.size ≤ D → S xs → I xs W → W.heap[D]? = some (.deferred (some [])) → Q .normal { a with defers := { target := .collected D, args := #[] } :: a.defers } W)
    (hstop : ∀ (D : Nat) (c : Code) (pre : List α) (W : World), w.heap.size ≤ D → Sp pre → Ix c pre W → W.heap[D]? = some (.deferred (some [])) → c.wpIn Fence.wide n P Q { a with defers := { target := .collected D, args := #[] } :: a.defers } W) :
    (Code.rangeFunc g ps assign body).wpIn Fence.wide n P Q a w :=
  rangeG h1 hg eg hseq hT hb0 hps hG I Ix hI hIx h0 (fun x => setAll a (sets x)) hassign hbody hdone hstop
end Go.Mir

namespace Go.Mir
open Go.RowKit

/-- what an iterator keeps to that turns blocks of its own -/
def SeqU {α : Type} (P : Program) (n : Nat) (gf : Nat) (lb : Array Value) (encs : α → Array Value) (U T : Nat → Prop) (G : List α → α → World → Prop) (S Sp : List α → Prop) (w : World) : Prop :=
  ∀ (l : Nat) (J Jx : List α → World → Prop) (W : World), Below w.heap.size w W → (∀ s A B, J s A → Turns U A B → J s B) → (∀ s A B, Jx s A → Below A.heap.size A B → Jx s B) →
    (∀ pre x W1, J pre W1 → G pre x W1 → YieldAt Fence.wide (n - 1) P l (encs x) W1 fun e W' => (e = .returned (.bool true) ∧ J (pre ++ [x]) W' ∧ Turns T W1 W') ∨ (e = .returned (.bool false) ∧ Jx (pre ++ [x]) W')) →
    J [] W → CallsIn Fence.wide n P gf (#[.func (.yield l) #[] #[]] ++ lb) W fun e W' => (∃ v, e = .returned v) ∧ ((∃ xs, S xs ∧ J xs W') ∨ ∃ pre, Sp pre ∧ Jx pre W')
theorem LoopAt.turns {b : Nat} {r : Loop} {W W' : World} {S : Nat → Prop} (h : LoopAt b r W) (ht : Turns S W W') (h0 : ¬ S b) (h1 : ¬ S (b + 1)) : LoopAt b r W' := ⟨ht.keep h.loop h1, ht.keep h.calls h0⟩
theorem kf_turns {S : Nat → Prop} {B : Nat} {W W' : World} (h : Turns S W W') (hS : ∀ k, S k → k < B) : KeepsFrom B W W' :=
  ⟨h.size, fun k o hB ho _ => h.keep ho (fun hk => by have := hS k hk; omega)⟩
variable {P : Program}
theorem rangeU {α : Type} {g : Operand} {ps : Array Tmp} {assign body : Code} {Q : Exit → Act → World → Prop} {a : Act} {w w0 : World} {n : Nat} (_h1 : 1 ≤ n)
    {gf : Nat} {lb : Array Value} (hg : a.eval g = .func (.func gf) #[] lb) (eg : ∀ args w, (callFunc gf args).run P w = .ok (.enter gf args) w)
    {encs : α → Array Value} {U T : Nat → Prop} {G : List α → α → World → Prop} {S Sp : List α → Prop} (hseq : SeqU P (n - 1) gf lb encs U T G S Sp w0) (hT : ∀ k, w.heap.size ≤ k → T k) (hU : ∀ k, U k → k < w.heap.size) (hb0 : Below w0.heap.size w0 w) (hps : ∀ x, (encs x).size = ps.size)
    (hG : OwnFrom w.heap.size (fun (s : List α × α) W => G s.1 s.2 W)) (I : List α → World → Prop) (Ix : Code → List α → World → Prop) (hI : OwnFrom w.heap.size I) (hIU : ∀ s A B, I s A → Turns U A B → I s B) (hIx : ∀ c, OwnFrom w.heap.size (Ix c)) (h0 : I [] w) (a₁ : α → Act)
    (hassign : ∀ (l : Nat) (x : α) (W : World) (K : Act → World → Prop), K (a₁ x) W →
      assign.wpIn (Fence.wide.inRound l) (n - 1 - 1) P (Exit.then K (fun _ _ _ => False)) { tmps := (ps.zip (encs x)).foldl (fun t (p, v) => t.setIfInBounds p v) a.tmps, defers := [] } W)
    (hbody : ∀ (l : Nat) (pre : List α) (x : α) (W : World), I pre W → G pre x W → body.wpIn (Fence.wide.inRound l) (n - 1 - 1) P (roundEnd w.heap.size T I Ix (pre ++ [x]) W) (a₁ x) W)
    (hdone : ∀ (D : Nat) (xs : List α) (W : World), w.heap.size ≤ D → S xs → I xs W → W.heap[D]? = some (.deferred (some [])) → Q .normal { a with defers := { target := .collected D, args := #[] } :: a.defers } W)
    (hstop : ∀ (D : Nat) (c : Code) (pre : List α) (W : World), w.heap.size ≤ D → Sp pre → Ix c pre W → W.heap[D]? = some (.deferred (some [])) → c.wpIn Fence.wide n P Q { a with defers := { target := .collected D, args := #[] } :: a.defers } W) :
    (Code.rangeFunc g ps assign body).wpIn Fence.wide n P Q a w := by
  refine wpIn_rangeFunc fun fn hfn => ?_
  obtain ⟨b, hb⟩ : ∃ b, w.heap.size = b := ⟨_, rfl⟩
  let rec' : LoopState → Option Code → Loop := fun st pe => { state := st, pending := pe, fn, tmps := a.tmps, params := ps, assign, body, defers := b }
  obtain ⟨W1, hW1⟩ : ∃ W1, W1 = (w.alloc (.deferred (some []))).alloc (.loop (rec' .ready none)) := ⟨_, rfl⟩
  have hsz : W1.heap.size = b + 2 := by rw [hW1]; simp [hb]
  have hL1 : LoopAt b (rec' .ready none) W1 := by
    rw [hW1, ← hb]
    exact ⟨by have := World.alloc_heap_new (w.alloc (.deferred (some []))) (.loop (rec' .ready none)); rwa [World.size_alloc] at this, (Below.heap_alloc _ _ _ (by simp)).trans (World.alloc_heap_new w _)⟩
  have hww : Below w.heap.size w W1 := by rw [hW1]; exact ((Below.refl _ w).alloc (Nat.le_refl _) _).alloc (by simp) _
  rw [hb] at hI hIx hG hT hU hbody hdone hstop
  have turn : ∀ {s : List α} {W : World} {r : Loop} (r' : Loop), I s W → LoopAt b r W → I s (W.putObj (b + 1) (.loop r')) := fun r' hi hl => hI.putObj _ hi (by omega) hl.loop rfl
  have turnB : ∀ {W : World} {r : Loop} (r' : Loop), LoopAt b r W → Turns T W (W.putObj (b + 1) (.loop r')) := fun {W} {r} r' hl =>
    Turns.grown (grownBy_putObj' W (b + 1) _) (fun k e => by cases e; exact hT _ (by omega))
  refine ⟨b + 1, [{ target := .collected b, args := #[] }], W1, { target := .fn (.func gf) lb, args := #[.func (.yield (b + 1)) #[] #[]] }, W1, gf, #[.func (.yield (b + 1)) #[] #[]] ++ lb, W1, ?_, ?_, fun _ _ => trivial, ?_, fun h => by simp [Fence.wide] at h, ?_⟩
  · have := run_enterLoop_outer (P := P) (w := w) fn a.tmps ps assign body
    rw [hb] at this
    rw [hW1]
    exact this
  · simp only [resolve, hg]
    simp [go_sem]
  · simp [invoke, go_sem, eg]
  refine (hseq (b + 1) (fun pre W => I pre W ∧ LoopAt b (rec' .ready none) W) (fun pre W => ∃ c, Ix c pre W ∧ LoopAt b (rec' .done (some c)) W) W1
    (hb0.trans (hww.mono hb0.size)) (fun s A B hs ht => ⟨hIU s A B hs.1 ht, hs.2.turns ht (fun h => by have := hU _ h; omega) (fun h => by have := hU _ h; omega)⟩) (fun s A B ⟨c, hc, hl⟩ hbl => ⟨c, ownFrom_grow (hIx c) hc hbl, hl.below hbl⟩) ?_ ⟨ownFrom_grow hI h0 hww, hL1⟩).mono ?_
  · rintro pre x W ⟨hi, hl⟩ hx
    refine ⟨fn, _, assign, body, run_yield (P := P) (args := encs x) hl.loop (hps x), roundIn_of_wpIn hfn (hassign _ x W _ ⟨_, run_beginRound hl.loop rfl, ?_⟩)⟩
    have hx2 : G pre x (W.putObj (b + 1) (.loop { rec' .ready none with state := .busy })) := hG.putObj (s := (pre, x)) _ hx (by omega) hl.loop rfl
    refine wpIn_mono (hbody _ pre x _ (turn _ hi hl) hx2) ?_
    have hl2 := hl.set { rec' .ready none with state := .busy }
    have leave : ∀ (c : Code) (W3 : World), KeepsFrom b (W.putObj (b + 1) (.loop { rec' .ready none with state := .busy })) W3 → Ix c (pre ++ [x]) W3 →
        ∃ v w', (Instr.endRound (b + 1) (some c)).run P W3 = .ok v w' ∧ (fun (e : Ending) (W' : World) => (e = .returned (.bool true) ∧ (I (pre ++ [x]) W' ∧ LoopAt b (rec' .ready none) W') ∧ Turns T W W') ∨ (e = .returned (.bool false) ∧ ∃ c, Ix c (pre ++ [x]) W' ∧ LoopAt b (rec' .done (some c)) W')) (.returned v) w' := fun c W3 hk hc => by
      have hl3 := hl2.keep hk
      exact ⟨_, _, run_endRound (P := P) (some c) hl3.loop, .inr ⟨rfl, c, (hIx c).putObj _ hc (by omega) hl3.loop rfl, hl3.set _⟩⟩
    rintro e a3 W3 hp
    cases e with
    | normal =>
      have hl3 := hl2.keep hp.1
      exact ⟨_, _, run_endRound (P := P) none hl3.loop, .inl ⟨rfl, ⟨turn _ hp.2.2 hl3, hl3.set _⟩, ((turnB _ hl).trans hp.2.1 (fun _ _ h => h)).trans (turnB _ hl3) (fun _ _ h => h)⟩⟩
    | ret => exact leave .ret W3 hp.1 hp.2
    | exit id => exact leave (.exit id) W3 hp.1 hp.2
    | goto t => exact leave (.goto t) W3 hp.1 hp.2
    | panic ch => exact hp.elim
    | outgrown => exact hp.elim
  · rintro e W2 ⟨⟨v, rfl⟩, ⟨xs, hS, hi, hl⟩ | ⟨pre, hS, c, hi, hl⟩⟩
    · exact ⟨none, _, run_endLoop (P := P) hl.loop (by simp [rec']), hdone _ xs _ (Nat.le_refl _) hS (turn _ hi hl) (hl.set _).calls⟩
    · exact ⟨some c, _, run_endLoop (P := P) hl.loop (by simp [rec']), hstop _ c pre _ (Nat.le_refl _) hS ((hIx c).putObj _ hi (by omega) hl.loop rfl) (hl.set _).calls⟩
end Go.Mir

namespace Go.Proofs.YtcddgbobbogpgaaDoor.HexW
open Go.RowKit Bld Go.Mir Go.Mir.Hx Go.Mir.Parts

theorem less_eq (a b : List UInt8) (h : a.length = b.length) (ha : ∀ c ∈ a, isD c) (hb : ∀ c ∈ b, isD c) : (Op.bytesLess a b || a == b) = decide (val a ≤ val b) := by
  have h1 := less_val a b h ha hb
  have h2 := less_val b a h.symm hb ha
  rw [Bool.eq_iff_iff, Bool.or_eq_true, h1, beq_iff_eq, decide_eq_true_eq]
  constructor
  · rintro (h | h)
    · omega
    · rw [h]; exact Nat.le_refl _
  · intro hle
    by_cases he : val a = val b
    · refine .inr ?_
      clear h1 h2
      induction a generalizing b with
      | nil => cases b with
        | nil => rfl
        | cons y b => simp at h
      | cons x a ih => cases b with
        | nil => simp at h
        | cons y b =>
          have hl : a.length = b.length := by simpa using h
          have va := val_lt a (fun c hc => ha c (by simp [hc]))
          have vb := val_lt b (fun c hc => hb c (by simp [hc]))
          have hx := ha x (by simp)
          have hy := hb y (by simp)
          unfold isD at hx hy
          rw [val_cons, val_cons, ← hl] at he
          rw [← hl] at vb
          have hxy : x.toNat - 48 = y.toNat - 48 := by
            have h1 := congrArg (· / 10 ^ a.length) he
            have hp : 0 < 10 ^ a.length := by omega
            rw [Nat.add_comm, Nat.add_mul_div_right _ _ hp, Nat.div_eq_of_lt va, Nat.add_comm _ (val b), Nat.add_mul_div_right _ _ hp, Nat.div_eq_of_lt vb] at h1
            omega
          have : x = y := UInt8.toNat_inj.1 (by omega)
          subst this
          rw [ih b hl (fun c hc => ha c (by simp [hc])) (fun c hc => hb c (by simp [hc])) (by omega) (by omega)]
    · exact .inl (by omega)

set_option maxRecDepth 100000 in
set_option maxHeartbeats 400000 in
theorem rNumOf_any (l : List UInt8) (most : Nat) (w : World) (hl : l.length ≤ 1099511627776) (hm : most < 18446744073709551616) :
    Calls Tryd.prog 61 #[.string (S l), .int .u64 (most : Int)] w (NumP l most w) := by
  by_cases h0 : l.length = 0
  · have HN : Hid (numOf l most = (0, 4)) := numOf_bad (fun h => h.1 (List.length_eq_zero_iff.1 h0)) most
    have hq : ((l.length : Int) == 0) = true := by rw [beq_iff_eq]; omega
    clear h0
    go_enter Tryd.func61, Tryd.ntmps61
    go_wp2_with fail
    go_ret2
    exact ⟨by rw [HN.out]; rfl, Below.refl _ _⟩
  · have hpos : 0 < l.length := by omega
    have hq : ((l.length : Int) == 0) = false := by rw [beq_eq_false_iff_ne]; omega
    clear h0
    by_cases hz : 1 < l.length ∧ l[0] = 48
    · have HN : Hid (numOf l most = (0, 4)) := numOf_bad (fun h => by
        have := h.2.2 (by rw [List.getElem?_eq_getElem hpos, hz.2]); omega) most
      have hd : decide ((1 : Int) < (l.length : Int)) = true := decide_eq_true (by omega)
      have hb : ((l[0].toNat : Int) == 48) = true := by rw [hz.2]; rfl
      clear hz
      go_enter Tryd.func61, Tryd.ntmps61
      go_wp2_with fail
      go_ret2
      exact ⟨by rw [HN.out]; rfl, Below.refl _ _⟩
    · have HZ : Hid (l[0]? = some 48 → l.length = 1) := fun h => by
        rw [List.getElem?_eq_getElem hpos] at h
        by_cases h1 : 1 < l.length
        · exact absurd ⟨h1, Option.some.inj h⟩ hz
        · omega
      have hb : 1 < l.length → ((l[0].toNat : Int) == 48) = false := fun h1 => by
        rw [beq_eq_false_iff_ne]; intro e
        exact hz ⟨h1, UInt8.toNat_inj.1 (by have h0 : (48 : UInt8).toNat = 48 := rfl; omega)⟩
      clear hz
      by_cases h1 : 1 < l.length
      all_goals
        first
          | have hd1 : decide ((1 : Int) < (l.length : Int)) = true := decide_eq_true (by omega)
          | have hd1 : decide ((1 : Int) < (l.length : Int)) = false := decide_eq_false (by omega)
        first
          | replace hb := hb h1
          | clear hb
        clear h1
        go_enter Tryd.func61, Tryd.ntmps61
        go_wp2_with fail
        go_loop [6] (fun j => ∃ k : Nat, k ≤ l.length ∧ j = .int .i64 k ∧ ∀ c ∈ l.take k, isD c) (fun j => l.length - (intOf j).toNat)
        case atStart => exact ⟨0, by omega, rfl, fun c hc => by simp at hc⟩
        case round =>
          obtain ⟨k, hk, rfl, hdg⟩ := hrel
          have HDG := Lib.hid hdg
          clear hdg
          by_cases hlt : k < l.length
          · have hdk : decide ((k : Int) < (l.length : Int)) = true := decide_eq_true (by omega)
            by_cases hc : isD (l[k]'hlt)
            · have HC := Lib.hid hc
              have b1 : decide (((l[k]'hlt).toNat : Int) < 48) = false := decide_eq_false (by have := hc.1; omega)
              have b2 : decide ((57 : Int) < ((l[k]'hlt).toNat : Int)) = false := decide_eq_false (by have := hc.2; omega)
              clear hc
              go_wp2_with fail
              go_round
              case rel => exact ⟨k + 1, by omega, by go_num, fun c hc => by
                rw [take_snoc l k hlt, List.mem_append, List.mem_singleton] at hc
                rcases hc with hc | hc
                · exact HDG.out c hc
                · rw [hc]; exact HC.out⟩
              case measure => simp [intOf]; omega
            · have HN := Lib.hid (numOf_bad (l := l) (fun h => hc (h.2.1 _ (List.getElem_mem _))) most)
              by_cases h48 : (l[k]'hlt).toNat < 48
              · have b1 : decide (((l[k]'hlt).toNat : Int) < 48) = true := decide_eq_true (by omega)
                clear hc
                go_wp2_with fail
                go_ret2
                exact ⟨by rw [HN.out]; rfl, Below.refl _ _⟩
              · have b1 : decide (((l[k]'hlt).toNat : Int) < 48) = false := decide_eq_false (by omega)
                have b2 : decide ((57 : Int) < ((l[k]'hlt).toNat : Int)) = true := decide_eq_true (by unfold isD at hc; omega)
                clear hc
                go_wp2_with fail
                go_ret2
                exact ⟨by rw [HN.out]; rfl, Below.refl _ _⟩
          · obtain rfl : k = l.length := by omega
            have HNI : Hid (Nice l) := ⟨fun e => by rw [e] at hpos; simp at hpos, fun c hc => HDG.out c (by rw [List.take_length]; exact hc), HZ.out⟩
            have HTG := Lib.hid (too_great l most HNI.out)
            have HLE : Hid ((decL most).length = l.length → (Op.bytesLess l (decL most) || l == decL most) = decide (val l ≤ most)) := fun h => by
              rw [less_eq l _ h.symm HNI.out.2.1 (dec_digits most), val_dec]
            have hdl := dec_len most hm
            have hdk : decide ((l.length : Int) < (l.length : Int)) = false := decide_eq_false (by omega)
            go_wp2_with fail
            refine (rNum_any most hm _).mono ?_
            rintro e w' ⟨rfl, rfl⟩
            generalize decL most = T at *
            by_cases hlong : T.length < l.length
            · have HN := Lib.hid (numOf_many HNI.out (HTG.out.1 (.inl hlong)))
              go_wp2_with fail
              go_ret2
              exact ⟨by rw [HN.out]; rfl, Below.refl _ _⟩
            · by_cases hsame : T.length = l.length
              · have hcmp := HLE.out hsame
                have hleq : ((l.length : Int) == (T.length : Int)) = true := by rw [beq_iff_eq]; omega
                have hgt : decide ((T.length : Int) < (l.length : Int)) = false := decide_eq_false (by omega)
                by_cases hsm : val l ≤ most
                · rw [decide_eq_true hsm] at hcmp
                  clear hsame
                  have HN := Lib.hid (numOf_ok HNI.out hsm)
                  go_wp2_with fail
                  go_loop [8, 9] (fun n j => ∃ k : Nat, k ≤ l.length ∧ j = .int .i64 k ∧ n = .int .u64 ((val (l.take k) : Nat) : Int)) (fun _ j => l.length - (intOf j).toNat)
                  case atStart => exact ⟨0, by omega, rfl, rfl⟩
                  case round =>
                    obtain ⟨k, hk, rfl, rfl⟩ := hrel
                    by_cases hlt : k < l.length
                    · have hdk : decide ((k : Int) < (l.length : Int)) = true := decide_eq_true (by omega)
                      have hc := HNI.out.2.1 (l[k]'hlt) (List.getElem_mem _)
                      unfold isD at hc
                      obtain ⟨hc1, hc2⟩ := hc
                      have HV := Lib.hid (val_snoc (l.take k) (l[k]'hlt))
                      have hv2 := val_mono l (k + 1)
                      rw [take_snoc l k hlt, HV.out] at hv2
                      have HTK := Lib.hid (take_snoc l k hlt)
                      obtain ⟨d, hd⟩ : ∃ d, (l[k]'hlt).toNat = 48 + d := ⟨(l[k]'hlt).toNat - 48, by omega⟩
                      have HD := Lib.hid hd
                      have hbd : 10 * val (l.take k) + d ≤ most ∧ d ≤ 9 := by omega
                      clear hv2 hd
                      generalize hX : val (l.take k) = X at *
                      have HX := Lib.hid hX
                      clear hX
                      go_wp2_with fail
                      go_round
                      case rel => exact ⟨k + 1, by omega, by go_num, by rw [HTK.out, HV.out, HD.out, IntWalk.u64_in _ (by omega)]; go_num⟩
                      case measure => simp [intOf]; omega
                    · obtain rfl : k = l.length := by omega
                      have hdk : decide ((l.length : Int) < (l.length : Int)) = false := decide_eq_false (by omega)
                      rw [List.take_length]
                      go_wp2_with fail
                      go_ret2
                      exact ⟨by rw [HN.out]; rfl, Below.refl _ _⟩
                · rw [decide_eq_false hsm] at hcmp
                  have HN := Lib.hid (numOf_many HNI.out (show most < val l by omega))
                  clear hsame
                  go_wp2_with fail
                  go_ret2
                  exact ⟨by rw [HN.out]; rfl, Below.refl _ _⟩
              · have hleq : ((l.length : Int) == (T.length : Int)) = false := by rw [beq_eq_false_iff_ne]; omega
                have hgt : decide ((T.length : Int) < (l.length : Int)) = false := decide_eq_false (by omega)
                have hsm : val l ≤ most := by
                  by_cases h : val l ≤ most
                  · exact h
                  · rcases HTG.out.2 (by omega) with h2 | h2
                    · omega
                    · omega
                clear hsame
                have HN := Lib.hid (numOf_ok HNI.out hsm)
                go_wp2_with fail
                go_loop [8, 9] (fun n j => ∃ k : Nat, k ≤ l.length ∧ j = .int .i64 k ∧ n = .int .u64 ((val (l.take k) : Nat) : Int)) (fun _ j => l.length - (intOf j).toNat)
                case atStart => exact ⟨0, by omega, rfl, rfl⟩
                case round =>
                  obtain ⟨k, hk, rfl, rfl⟩ := hrel
                  by_cases hlt : k < l.length
                  · have hdk : decide ((k : Int) < (l.length : Int)) = true := decide_eq_true (by omega)
                    have hc := HNI.out.2.1 (l[k]'hlt) (List.getElem_mem _)
                    unfold isD at hc
                    obtain ⟨hc1, hc2⟩ := hc
                    have HV := Lib.hid (val_snoc (l.take k) (l[k]'hlt))
                    have hv2 := val_mono l (k + 1)
                    rw [take_snoc l k hlt, HV.out] at hv2
                    have HTK := Lib.hid (take_snoc l k hlt)
                    obtain ⟨d, hd⟩ : ∃ d, (l[k]'hlt).toNat = 48 + d := ⟨(l[k]'hlt).toNat - 48, by omega⟩
                    have HD := Lib.hid hd
                    have hbd : 10 * val (l.take k) + d ≤ most ∧ d ≤ 9 := by omega
                    clear hv2 hd
                    generalize hX : val (l.take k) = X at *
                    have HX := Lib.hid hX
                    clear hX
                    go_wp2_with fail
                    go_round
                    case rel => exact ⟨k + 1, by omega, by go_num, by rw [HTK.out, HV.out, HD.out, IntWalk.u64_in _ (by omega)]; go_num⟩
                    case measure => simp [intOf]; omega
                  · obtain rfl : k = l.length := by omega
                    have hdk : decide ((l.length : Int) < (l.length : Int)) = false := decide_eq_false (by omega)
                    rw [List.take_length]
                    go_wp2_with fail
                    go_ret2
                    exact ⟨by rw [HN.out]; rfl, Below.refl _ _⟩
end Go.Proofs.YtcddgbobbogpgaaDoor.HexW

namespace Go.Proofs.YtcddgbobbogpgaaDoor.HexW
open Go.RowKit Bld Go.Mir Go.Mir.Hx Go.Mir.Parts

theorem ex1 : idL [48, 97, 102, 102] = some (10 :: 255 :: List.replicate 30 0) := by decide
theorem ex2 : idL [48, 97, 48, 48] = none := by decide
theorem ex3 : textL [10, 255] = [48, 97, 102, 102] := by decide
theorem ex4 : decL 120 = [49, 50, 48] := by decide

/-! ### HexBytes -/
theorem text_len (b : List UInt8) : (textL b).length ≤ 2 * b.length + 1 := by
  unfold textL; split
  · simp
  · rw [pairsL_length]; omega
theorem cv {w : World} {p : Option Addr} {n c : Nat} {l : List UInt8} (h : Bs w p n c l) : (convert 23 9 (.slice p n c)).run Tryd.prog w = .ok (.string (S l)) w :=
  run_conv 23 9 5 Tryd.underlying23 Tryd.underlying5 Tryd.underlying9 h
end Go.Proofs.YtcddgbobbogpgaaDoor.HexW

namespace Go.Proofs.YtcddgbobbogpgaaDoor.HexW
open Go.RowKit Bld Go.Mir Go.Mir.Hx Go.Mir.Parts

theorem idText_len (x : List UInt8) (h : x.length = 32) : (idText x).length ≤ 64 := by
  unfold idText; rw [pairsL_length, List.length_take]; omega
theorem idL_text (x : List UInt8) (h : x.length = 32) : idL (idText x) = some x := by
  have hb := trimN_bounds x 32
  have hr : readL (idText x) = some (x.take (trimN x 32)) := readL_pairs _
  have hl : (x.take (trimN x 32)).length = trimN x 32 := by rw [List.length_take]; omega
  have hne : idText x ≠ [] := fun e => by
    have := congrArg List.length e
    unfold idText at this
    rw [pairsL_length, hl, List.length_nil] at this
    have := hb.2 (by omega); omega
  rw [(id_cases _ _ hr hne).2 (by omega), pad_trim x h, if_pos rfl]
theorem idText_of (l x : List UInt8) (h : idL l = some x) : idText x = l := by
  unfold idL at h
  cases hr : readL l with
  | none => rw [hr] at h; cases h
  | some b =>
    rw [hr] at h
    simp only at h
    split at h
    · cases h
    · rename_i hc
      have hne : l ≠ [] := fun e => hc (.inl (by rw [e] at hr; simp [readL] at hr; exact hr))
      obtain rfl := Option.some.inj h
      have h2 := (id_cases l b hr hne).2 (by
        by_cases h3 : b.length ≤ 32
        · exact h3
        · exact absurd (.inr (.inl (by omega))) hc)
      by_cases h4 : idText (padId b) = l
      · exact h4
      · rw [if_neg h4] at h2
        unfold idL at h2; rw [hr] at h2; simp only at h2; rw [if_neg hc] at h2; cases h2

/-- two ids compared -/
theorem eq_id (w : World) (A B : Array Value) (a b : List UInt8) (hA : A.toList = bytesV a) (hB : B.toList = bytesV b) (ha : a.length = 32) (hb : b.length = 32) : (Op.equalIn 10000 25 (.agg A) (.agg B)).run Tryd.prog w = .ok (a == b) w := by
  have h1 : A = (bytesV a).toArray := by rw [← hA, Array.toArray_toList]
  have h2 : B = (bytesV b).toArray := by rw [← hB, Array.toArray_toList]
  rw [h1, h2]
  exact run_equal_bytes w 9998 Tryd.underlying25 Tryd.underlying5 (Option.isSome_iff_exists.1 (by kernel_rfl)) (by kernel_rfl) (by kernel_rfl) a b ha hb

end Go.Proofs.YtcddgbobbogpgaaDoor.HexW

namespace Go.Proofs.YtcddgbobbogpgaaDoor.Scr
open Go.Mir Go.Mir.Hx HexW Rpl
open Go.Lib (join joinTail)

structure Ev where
  k : Int
  b : List UInt8
  h : List UInt8
  p : List UInt8
  tx : List (List UInt8)
  id : List UInt8
  n : Int
  u0 : Int
  u1 : Int
  u2 : Int
deriving DecidableEq
def i64B (x : Int) : Prop := -9223372036854775808 ≤ x ∧ x ≤ 9223372036854775807
structure Ev.Wf (e : Ev) : Prop where
  h : e.h.length = 32
  p : e.p.length = 32
  id : e.id.length = 32
  tx : ∀ x ∈ e.tx, x.length = 32
  k : i64B e.k
  n : i64B e.n
  u0 : i64B e.u0
  u1 : i64B e.u1
  u2 : i64B e.u2
def Ev.zero (k : Int) : Ev := ⟨k, [], zeros, zeros, [], zeros, 0, 0, 0, 0⟩
def only (e : Ev) : Ev :=
  if e.k = 1 then ⟨e.k, e.b, zeros, zeros, [], zeros, 0, 0, 0, 0⟩ else if e.k = 2 then ⟨e.k, [], e.h, e.p, e.tx, zeros, 0, 0, 0, 0⟩
  else if e.k = 3 ∨ e.k = 4 then ⟨e.k, [], zeros, zeros, [], e.id, 0, 0, 0, 0⟩ else if e.k = 5 then ⟨e.k, [], zeros, zeros, [], zeros, e.n, 0, 0, 0⟩
  else ⟨e.k, [], zeros, zeros, [], zeros, e.n, e.u0, e.u1, e.u2⟩
def K6 : List (List UInt8) := [[], [102, 114, 97, 109, 101], [99, 111, 110, 110, 101, 99, 116], [100, 105, 115, 99, 111, 110, 110, 101, 99, 116], [101, 118, 105, 99, 116], [97, 114, 109], [114, 101, 115, 116, 97, 114, 116]]
def okN (x : Int) : Prop := 0 ≤ x ∧ x ≤ 65535
instance (x : Int) : Decidable (okN x) := by unfold okN; infer_instance
def numsE (e : Ev) : List Int := if e.k = 5 then [e.n] else [e.n, e.u0, e.u1, e.u2]
def restE (e : Ev) : List (List UInt8) :=
  if e.k = 1 then [textL e.b] else if e.k = 2 then idText e.h :: idText e.p :: e.tx.map idText
  else if e.k = 5 ∨ e.k = 6 then (numsE e).map (fun x => decL x.toNat) else [idText e.id]
def wordsE (e : Ev) : List (List UInt8) := K6.getD e.k.toNat [] :: restE e
/-- may the event be told? -/
def Good (e : Ev) : Prop := (1 ≤ e.k ∧ e.k ≤ 6) ∧ e = only e ∧ ((e.k = 5 ∨ e.k = 6) → ∀ x ∈ numsE e, okN x)
instance (e : Ev) : Decidable (Good e) := by unfold Good; infer_instance
def lineE (e : Ev) : List UInt8 := if Good e then join (wordsE e) [32] else []
/-! ### read -/
def idsB (ws : List (List UInt8)) : Option (List (List UInt8)) := if ∀ x ∈ ws, (idL x).isSome = true then some (ws.map fun x => (idL x).getD zeros) else none
def numsM (most : Nat) (ws : List (List UInt8)) : Option (List Nat) := if ∀ x ∈ ws, (numOf x most).2 = 0 then some (ws.map fun x => (numOf x most).1) else none
def kindB (s : List UInt8) : Nat :=
  if s = [102, 114, 97, 109, 101] then 1 else if s = [99, 111, 110, 110, 101, 99, 116] then 2 else if s = [100, 105, 115, 99, 111, 110, 110, 101, 99, 116] then 3
  else if s = [101, 118, 105, 99, 116] then 4 else if s = [97, 114, 109] then 5 else if s = [114, 101, 115, 116, 97, 114, 116] then 6 else 0
def readK (k : Nat) (r : List (List UInt8)) : Option Ev :=
  if k = 1 then (if r.length = 1 then (bytesL (r.getD 0 [])).map (fun b => ⟨1, b, zeros, zeros, [], zeros, 0, 0, 0, 0⟩) else none)
  else if k = 2 then (idsB r).bind fun l => if 2 ≤ l.length then some ⟨2, [], l.getD 0 [], l.getD 1 [], l.drop 2, zeros, 0, 0, 0, 0⟩ else none
  else if k = 3 ∨ k = 4 then (idsB r).bind fun l => if l.length = 1 then some ⟨(k : Int), [], zeros, zeros, [], l.getD 0 [], 0, 0, 0, 0⟩ else none
  else if k = 5 then (if r.length = 1 then (numsM 65535 r).map fun l => ⟨5, [], zeros, zeros, [], zeros, (l.getD 0 0 : Nat), 0, 0, 0⟩ else none)
  else if k = 6 then (if r.length = 4 then (numsM 65535 r).map fun l => ⟨6, [], zeros, zeros, [], zeros, (l.getD 0 0 : Nat), (l.getD 1 0 : Nat), (l.getD 2 0 : Nat), (l.getD 3 0 : Nat)⟩ else none)
  else none
def readW (ws : List (List UInt8)) : Option Ev := readK (kindB (ws.getD 0 [])) (ws.drop 1)
def readE (s : List UInt8) : Option Ev := readW (sp s)
/-! ### no blank stands in a word -/
theorem sgn_no32 (n : Nat) (h : n < 16) : sgn n ≠ 32 := fun e => by
  have := congrArg UInt8.toNat e
  rw [sgn_toNat n h] at this
  have h32 : (32 : UInt8).toNat = 32 := rfl
  rw [h32] at this
  split at this <;> omega
theorem pairs_no32 (b : List UInt8) : (32 : UInt8) ∉ pairsL b := fun h => by
  unfold pairsL at h
  obtain ⟨x, _, hx⟩ := List.mem_flatMap.1 h
  have hl := x.toNat_lt
  rcases List.mem_cons.1 hx with hx | hx
  · exact sgn_no32 _ (by omega) hx.symm
  · rw [List.mem_singleton] at hx
    exact sgn_no32 _ (by omega) hx.symm
theorem text_no32 (b : List UInt8) : (32 : UInt8) ∉ textL b := by
  unfold textL
  split
  · decide
  · exact pairs_no32 b
theorem id_no32 (x : List UInt8) : (32 : UInt8) ∉ idText x := pairs_no32 _
theorem k6_no32 : ∀ x ∈ K6, (32 : UInt8) ∉ x := by decide
theorem getD_no32 (i : Nat) : (32 : UInt8) ∉ K6.getD i [] := by
  by_cases h : i < K6.length
  · rw [List.getD_eq_getElem?_getD, List.getElem?_eq_getElem h]
    exact k6_no32 _ (List.getElem_mem h)
  · rw [List.getD_eq_getElem?_getD, List.getElem?_eq_none (by omega)]; decide
theorem rest_no32 (e : Ev) : ∀ x ∈ restE e, (32 : UInt8) ∉ x := fun x hx => by
  unfold restE at hx
  split at hx
  · rw [List.mem_singleton] at hx; rw [hx]; exact text_no32 _
  · split at hx
    · rcases List.mem_cons.1 hx with rfl | hx
      · exact id_no32 _
      · rcases List.mem_cons.1 hx with rfl | hx
        · exact id_no32 _
        · obtain ⟨y, _, rfl⟩ := List.mem_map.1 hx
          exact id_no32 _
    · split at hx
      · obtain ⟨y, _, rfl⟩ := List.mem_map.1 hx
        exact dec_no32 _
      · rw [List.mem_singleton] at hx; rw [hx]; exact id_no32 _
theorem words_no (e : Ev) : ∀ x ∈ wordsE e, (32 : UInt8) ∉ x := fun x hx => by
  rcases List.mem_cons.1 hx with rfl | hx
  · exact getD_no32 _
  · exact rest_no32 e x hx
/-! ### there and back -/
theorem ids_text {l : List (List UInt8)} (h : ∀ x ∈ l, x.length = 32) : idsB (l.map idText) = some l := by
  unfold idsB
  rw [if_pos (fun y hy => by
    obtain ⟨x, hx, rfl⟩ := List.mem_map.1 hy
    rw [idL_text x (h x hx)]; rfl), List.map_map]
  congr 1
  conv => rhs; rw [← List.map_id l]
  refine List.map_congr_left fun x hx => ?_
  show (idL (idText x)).getD zeros = x
  rw [idL_text x (h x hx)]; rfl
theorem ids_back {ws l : List (List UInt8)} (h : idsB ws = some l) : l.map idText = ws ∧ l.length = ws.length ∧ ∀ x ∈ l, x.length = 32 := by
  unfold idsB at h
  split at h
  · rename_i hx
    obtain rfl := Option.some.inj h
    refine ⟨?_, by rw [List.length_map], fun x hm => ?_⟩
    · rw [List.map_map]
      conv => rhs; rw [← List.map_id ws]
      refine List.map_congr_left fun x hm => ?_
      obtain ⟨y, hy⟩ := Option.isSome_iff_exists.1 (hx x hm)
      show idText ((idL x).getD zeros) = x
      rw [hy]; exact idText_of x y hy
    · obtain ⟨y, hy, rfl⟩ := List.mem_map.1 hm
      obtain ⟨z, hz⟩ := Option.isSome_iff_exists.1 (hx y hy)
      rw [hz]
      show z.length = 32
      unfold idL at hz
      cases hr : readL y with
      | none => rw [hr] at hz; cases hz
      | some b =>
        rw [hr] at hz
        simp only at hz
        split at hz
        · cases hz
        · rename_i hc
          obtain rfl := Option.some.inj hz
          exact padId_length b (by
            by_cases h3 : b.length ≤ 32
            · exact h3
            · exact absurd (.inr (.inl (by omega))) hc)
  · cases h
theorem nums_text {l : List Int} {most : Nat} (h : ∀ x ∈ l, 0 ≤ x ∧ x ≤ (most : Int)) : numsM most (l.map fun x => decL x.toNat) = some (l.map Int.toNat) := by
  unfold numsM
  rw [if_pos (fun y hy => by
    obtain ⟨x, hx, rfl⟩ := List.mem_map.1 hy
    have := h x hx
    rw [numOf_dec _ _ (by omega)]), List.map_map]
  congr 1
  refine List.map_congr_left fun x hx => ?_
  have := h x hx
  show (numOf (decL x.toNat) most).1 = x.toNat
  rw [numOf_dec _ _ (by omega)]
theorem numsM_back {ws : List (List UInt8)} {most : Nat} {l : List Nat} (h : numsM most ws = some l) : l.map decL = ws ∧ (∀ n ∈ l, n ≤ most) ∧ l.length = ws.length := by
  unfold numsM at h
  split at h
  · rename_i hx
    obtain rfl := Option.some.inj h
    refine ⟨?_, fun n hn => ?_, by rw [List.length_map]⟩
    · rw [List.map_map]
      conv => rhs; rw [← List.map_id ws]
      exact List.map_congr_left fun x hm => (numOf_back (hx x hm)).1
    · obtain ⟨x, hm, rfl⟩ := List.mem_map.1 hn
      exact (numOf_back (hx x hm)).2
  · cases h
theorem read_words {e : Ev} (h : Good e) (hw : e.Wf) : readW (wordsE e) = some e := by
  obtain ⟨k, b, hh, p, tx, id, n, u0, u1, u2⟩ := e
  obtain ⟨⟨h1, h2⟩, ho, hn⟩ := h
  have h1 : 1 ≤ k := h1
  have h2 : k ≤ 6 := h2
  have hk : k = 1 ∨ k = 2 ∨ k = 3 ∨ k = 4 ∨ k = 5 ∨ k = 6 := by omega
  rcases hk with rfl | rfl | rfl | rfl | rfl | rfl
  · have ho : (⟨1, b, hh, p, tx, id, n, u0, u1, u2⟩ : Ev) = ⟨1, b, zeros, zeros, [], zeros, 0, 0, 0, 0⟩ := ho
    injection ho with _ _ e1 e2 e3 e4 e5 e6 e7 e8
    subst e1 e2 e3 e4 e5 e6 e7 e8
    show (if 1 = 1 then (bytesL (textL b)).map _ else none) = _
    rw [if_pos rfl, bytes_text]; rfl
  · have ho : (⟨2, b, hh, p, tx, id, n, u0, u1, u2⟩ : Ev) = ⟨2, [], hh, p, tx, zeros, 0, 0, 0, 0⟩ := ho
    injection ho with _ e0 _ _ _ e4 e5 e6 e7 e8
    subst e0 e4 e5 e6 e7 e8
    show (idsB ((hh :: p :: tx).map idText)).bind _ = _
    rw [ids_text (fun x hx => by
      rcases List.mem_cons.1 hx with rfl | hx
      · exact hw.h
      · rcases List.mem_cons.1 hx with rfl | hx
        · exact hw.p
        · exact hw.tx x hx)]
    show (if 2 ≤ tx.length + 1 + 1 then some (Ev.mk 2 [] hh p tx zeros 0 0 0 0) else none) = _
    rw [if_pos (by omega)]
  · have ho : (⟨3, b, hh, p, tx, id, n, u0, u1, u2⟩ : Ev) = ⟨3, [], zeros, zeros, [], id, 0, 0, 0, 0⟩ := ho
    injection ho with _ e0 e1 e2 e3 _ e5 e6 e7 e8
    subst e0 e1 e2 e3 e5 e6 e7 e8
    show (idsB ([id].map idText)).bind _ = _
    rw [ids_text (fun x hx => by rw [List.mem_singleton] at hx; rw [hx]; exact hw.id)]
    rfl
  · have ho : (⟨4, b, hh, p, tx, id, n, u0, u1, u2⟩ : Ev) = ⟨4, [], zeros, zeros, [], id, 0, 0, 0, 0⟩ := ho
    injection ho with _ e0 e1 e2 e3 _ e5 e6 e7 e8
    subst e0 e1 e2 e3 e5 e6 e7 e8
    show (idsB ([id].map idText)).bind _ = _
    rw [ids_text (fun x hx => by rw [List.mem_singleton] at hx; rw [hx]; exact hw.id)]
    rfl
  · have ho : (⟨5, b, hh, p, tx, id, n, u0, u1, u2⟩ : Ev) = ⟨5, [], zeros, zeros, [], zeros, n, 0, 0, 0⟩ := ho
    injection ho with _ e0 e1 e2 e3 e4 _ e6 e7 e8
    subst e0 e1 e2 e3 e4 e6 e7 e8
    have hn : ∀ x ∈ [n], okN x := hn (.inl rfl)
    have n1 := hn n (by simp)
    show (if 1 = 1 then (numsM 65535 ([n].map fun x => decL x.toNat)).map _ else none) = _
    rw [if_pos rfl, nums_text (fun x hx => by have := hn x hx; unfold okN at this; omega)]
    unfold okN at n1
    show some (Ev.mk 5 [] zeros zeros [] zeros ((n.toNat : Nat) : Int) 0 0 0) = _
    rw [show ((n.toNat : Nat) : Int) = n by omega]
  · have ho : (⟨6, b, hh, p, tx, id, n, u0, u1, u2⟩ : Ev) = ⟨6, [], zeros, zeros, [], zeros, n, u0, u1, u2⟩ := ho
    injection ho with _ e0 e1 e2 e3 e4 _ _ _ _
    subst e0 e1 e2 e3 e4
    have hn : ∀ x ∈ [n, u0, u1, u2], okN x := hn (.inr rfl)
    have n1 := hn n (by simp)
    have n2 := hn u0 (by simp)
    have n3 := hn u1 (by simp)
    have n4 := hn u2 (by simp)
    show (if 4 = 4 then (numsM 65535 ([n, u0, u1, u2].map fun x => decL x.toNat)).map _ else none) = _
    rw [if_pos rfl, nums_text (fun x hx => by have := hn x hx; unfold okN at this; omega)]
    unfold okN at n1 n2 n3 n4
    show some (Ev.mk 6 [] zeros zeros [] zeros ((n.toNat : Nat) : Int) ((u0.toNat : Nat) : Int) ((u1.toNat : Nat) : Int) ((u2.toNat : Nat) : Int)) = _
    rw [show ((n.toNat : Nat) : Int) = n by omega, show ((u0.toNat : Nat) : Int) = u0 by omega, show ((u1.toNat : Nat) : Int) = u1 by omega, show ((u2.toNat : Nat) : Int) = u2 by omega]
theorem read_line {e : Ev} (h : Good e) (hw : e.Wf) : readE (lineE e) = some e := by
  unfold readE lineE
  rw [if_pos h, sp_join _ (by unfold wordsE; simp) (words_no e)]
  exact read_words h hw
theorem kind_name {s : List UInt8} {k : Nat} (h : kindB s = k) (h0 : k ≠ 0) : K6.getD k [] = s ∧ k ≤ 6 := by
  unfold kindB at h
  split at h
  · rename_i e; subst h; exact ⟨e.symm, by omega⟩
  · split at h
    · rename_i e; subst h; exact ⟨e.symm, by omega⟩
    · split at h
      · rename_i e; subst h; exact ⟨e.symm, by omega⟩
      · split at h
        · rename_i e; subst h; exact ⟨e.symm, by omega⟩
        · split at h
          · rename_i e; subst h; exact ⟨e.symm, by omega⟩
          · split at h
            · rename_i e; subst h; exact ⟨e.symm, by omega⟩
            · exact absurd h.symm h0
theorem zeros_len : zeros.length = 32 := rfl
theorem small_i64 {x : Int} (h : 0 ≤ x ∧ x ≤ 65535) : i64B x := by unfold i64B; omega
theorem wfz {k n u0 u1 u2 : Int} {b h p id : List UInt8} {tx : List (List UInt8)} (hh : h.length = 32) (hp : p.length = 32) (hi : id.length = 32) (ht : ∀ x ∈ tx, x.length = 32) (hk : 0 ≤ k ∧ k ≤ 65535) (hn : 0 ≤ n ∧ n ≤ 65535) (h0 : 0 ≤ u0 ∧ u0 ≤ 65535) (h1 : 0 ≤ u1 ∧ u1 ≤ 65535) (h2 : 0 ≤ u2 ∧ u2 ≤ 65535) : Ev.Wf ⟨k, b, h, p, tx, id, n, u0, u1, u2⟩ :=
  ⟨hh, hp, hi, ht, small_i64 hk, small_i64 hn, small_i64 h0, small_i64 h1, small_i64 h2⟩
theorem good_k {e : Ev} {k : Int} (hk : e.k = k) (h : 1 ≤ k ∧ k ≤ 4) (ho : e = only e) : Good e := ⟨by rw [hk]; omega, ho, fun hh => by rw [hk] at hh; omega⟩
theorem no_tx : ∀ x ∈ ([] : List (List UInt8)), x.length = 32 := fun _ h => nomatch h
theorem read_back {ws : List (List UInt8)} {e : Ev} (h : readW ws = some e) (hws : ws ≠ []) : wordsE e = ws ∧ Good e ∧ e.Wf := by
  obtain ⟨w0, r, rfl⟩ : ∃ a b, ws = a :: b := by
    cases ws with
    | nil => exact absurd rfl hws
    | cons a b => exact ⟨a, b, rfl⟩
  have h : readK (kindB w0) r = some e := h
  obtain ⟨k, hk⟩ : ∃ k, kindB w0 = k := ⟨_, rfl⟩
  rw [hk] at h
  unfold readK at h
  by_cases k1 : k = 1
  · rw [if_pos k1] at h
    split at h
    · rename_i hl
      obtain ⟨b, hb, rfl⟩ := Option.map_eq_some_iff.1 h
      subst k1
      obtain ⟨x, rfl⟩ := List.length_eq_one_iff.1 hl
      have hb : bytesL x = some b := hb
      refine ⟨?_, good_k (k := 1) rfl (by omega) rfl, wfz rfl rfl rfl no_tx (by omega) (by omega) (by omega) (by omega) (by omega)⟩
      show K6.getD 1 [] :: [textL b] = _
      rw [(kind_name hk (by decide)).1, text_bytes x b hb]
    · cases h
  · rw [if_neg k1] at h
    by_cases k2 : k = 2
    · rw [if_pos k2] at h
      obtain ⟨l, hl, h⟩ := Option.bind_eq_some_iff.1 h
      split at h
      · rename_i h2
        obtain rfl := Option.some.inj h
        subst k2
        obtain ⟨g1, g2, g3⟩ := ids_back hl
        match l, h2 with
        | a :: b :: t, _ =>
          have ha := g3 a (by simp)
          have hb := g3 b (by simp)
          refine ⟨?_, good_k (k := 2) rfl (by omega) rfl, wfz ha hb rfl (fun x hx => g3 x (List.mem_cons_of_mem _ (List.mem_cons_of_mem _ hx))) (by omega) (by omega) (by omega) (by omega) (by omega)⟩
          show K6.getD 2 [] :: ((a :: b :: t).map idText) = _
          rw [(kind_name hk (by decide)).1, g1]
      · cases h
    · rw [if_neg k2] at h
      by_cases k3 : k = 3 ∨ k = 4
      · rw [if_pos k3] at h
        obtain ⟨l, hl, h⟩ := Option.bind_eq_some_iff.1 h
        split at h
        · rename_i h1
          obtain rfl := Option.some.inj h
          obtain ⟨g1, g2, g3⟩ := ids_back hl
          obtain ⟨x, rfl⟩ := List.length_eq_one_iff.1 h1
          have hx := g3 x (by simp)
          rcases k3 with rfl | rfl
          · refine ⟨?_, good_k (k := 3) rfl (by omega) rfl, wfz rfl rfl hx no_tx (by omega) (by omega) (by omega) (by omega) (by omega)⟩
            show K6.getD 3 [] :: ([x].map idText) = _
            rw [(kind_name hk (by decide)).1, g1]
          · refine ⟨?_, good_k (k := 4) rfl (by omega) rfl, wfz rfl rfl hx no_tx (by omega) (by omega) (by omega) (by omega) (by omega)⟩
            show K6.getD 4 [] :: ([x].map idText) = _
            rw [(kind_name hk (by decide)).1, g1]
        · cases h
      · rw [if_neg k3] at h
        by_cases k5 : k = 5
        · rw [if_pos k5] at h
          split at h
          · rename_i h1
            obtain ⟨l, hl, rfl⟩ := Option.map_eq_some_iff.1 h
            subst k5
            obtain ⟨g1, g2, g3⟩ := numsM_back hl
            obtain ⟨x, rfl⟩ := List.length_eq_one_iff.1 (g3.trans h1)
            have hx := g2 x (by simp)
            have hok : okN (x : Int) := by unfold okN; omega
            refine ⟨?_, ⟨⟨show (1 : Int) ≤ 5 by decide, show (5 : Int) ≤ 6 by decide⟩, rfl, fun _ y hy => ?_⟩, wfz rfl rfl rfl no_tx (by omega) hok (by omega) (by omega) (by omega)⟩
            · show K6.getD 5 [] :: ([(x : Int)].map fun x => decL x.toNat) = _
              rw [(kind_name hk (by decide)).1, ← g1]; rfl
            · have hy : y ∈ [(x : Int)] := hy
              rw [List.mem_singleton] at hy
              rw [hy]; exact hok
          · cases h
        · rw [if_neg k5] at h
          by_cases k6 : k = 6
          · rw [if_pos k6] at h
            split at h
            · rename_i h1
              obtain ⟨l, hl, rfl⟩ := Option.map_eq_some_iff.1 h
              subst k6
              obtain ⟨g1, g2, g3⟩ := numsM_back hl
              have hl4 : l.length = 4 := g3.trans h1
              match l, hl4 with
              | [a, b, c, d], _ =>
                have o1 : okN (a : Int) := by have := g2 a (by simp); unfold okN; omega
                have o2 : okN (b : Int) := by have := g2 b (by simp); unfold okN; omega
                have o3 : okN (c : Int) := by have := g2 c (by simp); unfold okN; omega
                have o4 : okN (d : Int) := by have := g2 d (by simp); unfold okN; omega
                refine ⟨?_, ⟨⟨show (1 : Int) ≤ 6 by decide, show (6 : Int) ≤ 6 by decide⟩, rfl, fun _ y hy => ?_⟩, wfz rfl rfl rfl no_tx (by omega) o1 o2 o3 o4⟩
                · show K6.getD 6 [] :: ([(a : Int), (b : Int), (c : Int), (d : Int)].map fun x => decL x.toNat) = _
                  rw [(kind_name hk (by decide)).1, ← g1]; rfl
                · have hy : y ∈ [(a : Int), (b : Int), (c : Int), (d : Int)] := hy
                  simp only [List.mem_cons, List.not_mem_nil, or_false] at hy
                  rcases hy with rfl | rfl | rfl | rfl
                  · exact o1
                  · exact o2
                  · exact o3
                  · exact o4
            · cases h
          · rw [if_neg k6] at h; cases h
theorem line_read {s : List UInt8} {e : Ev} (h : readE s = some e) : lineE e = s ∧ Good e ∧ e.Wf := by
  obtain ⟨h1, h2, h3⟩ := read_back h (sp_ne s)
  refine ⟨?_, h2, h3⟩
  unfold lineE
  rw [if_pos h2, h1]
  exact join_sp s
end Go.Proofs.YtcddgbobbogpgaaDoor.Scr
