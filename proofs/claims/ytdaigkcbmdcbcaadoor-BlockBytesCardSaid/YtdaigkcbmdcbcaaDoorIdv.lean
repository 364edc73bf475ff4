/- IDS AND BLOCKS AS VALUES: arrays of 32 bytes, and structs of two of them and a slice of them. A REGION THAT DRAWS ITS ORDER, WHOSE CALLS MAKE MEMORY. No program is named. Conditions: none. -/
import Derived.Test.YtdaigkcbmdcbcaaDoorStr
import Derived.Test.YtdaigkcbmdcbcaaDoorParts
import Derived.Deep.MidRow
import Derived.Great.BuildSlice
import Derived.BigQuiet
import Derived.StillTailTactics
import Derived.Deep.QuietTactic
namespace Go.Mir
open Go.RowKit

/-! ### an id -/
def idA (x : List UInt8) : Array Value := (bytesV x).toArray
theorem idA_toList (x : List UInt8) : (idA x).toList = bytesV x := by simp [idA]
theorem idA_size (x : List UInt8) : (idA x).size = x.length := by rw [← Array.length_toList, idA_toList, bytesV_length]
theorem idA_one (x : List UInt8) : (idA x).all (·.oneCell') = true := by
  have := all_oneCell_toArray (bytesV_one x)
  rw [← idA_toList, Array.toArray_toList] at this; exact this
theorem idA_arr (x : List UInt8) : (x.map (fun b : UInt8 => Value.int .u8 (b.toNat : Int))).toArray = idA x := rfl
theorem run_equal_ids {P : Program} (w : World) (d : Nat) {t e : TypeId} {n : Nat} (hu : P.underlying t = some (.array n e)) (he : P.underlying e = some (.int .u8)) (hi : (P.info? e).isSome = true) (hc : P.cellsOf e = 1) (hp : P.plainKey e = true) (a b : List UInt8) (ha : a.length = n) (hb : b.length = n) :
    (Op.equalIn (d + 2) t (.agg (idA a)) (.agg (idA b))).run P w = .ok (a == b) w :=
  run_equal_bytes w d hu he (Option.isSome_iff_exists.1 hi) hc hp a b ha hb
/-- a row of its own, and parts of it -/
theorem range_row {w : World} {b : Nat} {M : Array Value} {t : TypeId} {fr : Nat × Nat} (h : w.heap[b]? = some (.cells M t fr)) (A B C : List Value) (hM : M.toList = A ++ B ++ C) : w.rangeAt b A.length B := fun j v hv => by
  have hj := (List.getElem?_eq_some_iff.1 hv).1
  rw [cell_of_row _ _ _ _ _ _ h, ← Array.getElem?_toList, hM, List.getElem?_append_left (by rw [List.length_append]; omega), List.getElem?_append_right (by omega), Nat.add_sub_cancel_left]; exact hv
/-- a value copied into a new block -/
def boxAt (w : World) (Z X : Array Value) (t : TypeId) : World := (w.alloc (.cells Z t)).setRow w.heap.size X
theorem box_new (w : World) (Z : Array Value) (t : TypeId) : (w.alloc (.cells Z t)).heap[w.heap.size]? = some (.cells Z t (0, 0)) := heap_alloc_last _ _
theorem box_row (w : World) (Z X : Array Value) (t : TypeId) : ((w.alloc (.cells Z t)).setRow w.heap.size X).heap[w.heap.size]? = some (.cells X t (0, 0)) := setRow_heap _ _ _ _ _ _ (box_new w Z t)
theorem box_below (w : World) (Z X : Array Value) (t : TypeId) : Below w.heap.size w ((w.alloc (.cells Z t)).setRow w.heap.size X) := below_setRow (Below.allocs _ _) (Nat.le_refl _) _
theorem box_size (w : World) (Z X : Array Value) (t : TypeId) : ((w.alloc (.cells Z t)).setRow w.heap.size X).heap.size = w.heap.size + 1 := by simp [World.setRow]

theorem two_allocs (w : World) (o o2 : Obj) : ((w.alloc o).alloc o2).heap[w.heap.size]? = some o ∧ ((w.alloc o).alloc o2).heap[w.heap.size + 1]? = some o2 ∧ ((w.alloc o).alloc o2).heap.size = w.heap.size + 2 ∧ Below w.heap.size w ((w.alloc o).alloc o2) := by
  refine ⟨block_old _ (heap_alloc_last _ _), ?_, by simp, (Below.allocs _ _).alloc (by simp) _⟩
  have := heap_alloc_last (w.alloc o) o2
  simpa using this

/-! ### a literal of one aggregate -/
theorem fold_put (off : Nat) : ∀ (L : List Value) (s : Nat) (A : Array Value), off + s + L.length ≤ A.size →
    ((L.zipIdx s).foldl (fun cs (x : Value × Nat) => cs.setIfInBounds (off + x.2) x.1) A).size = A.size ∧ ∀ i, ((L.zipIdx s).foldl (fun cs (x : Value × Nat) => cs.setIfInBounds (off + x.2) x.1) A)[i]? = if off + s ≤ i ∧ i < off + s + L.length then L[i - (off + s)]? else A[i]?
  | [], s, A, _ => ⟨rfl, fun i => by rw [if_neg (by simp <;> omega)]; rfl⟩
  | v :: L, s, A, h => by
    simp only [List.length_cons] at h
    obtain ⟨h1, h2⟩ := fold_put off L (s + 1) (A.setIfInBounds (off + s) v) (by simp; omega)
    rw [List.zipIdx_cons, List.foldl_cons]
    refine ⟨by rw [h1]; simp, fun i => ?_⟩
    rw [h2 i, Array.getElem?_setIfInBounds]
    by_cases hi : off + (s + 1) ≤ i ∧ i < off + (s + 1) + L.length
    · rw [if_pos hi, if_pos (by simp; omega), show i - (off + s) = (i - (off + (s + 1))) + 1 by omega, List.getElem?_cons_succ]
    · rw [if_neg hi]
      by_cases ho : off + s = i
      · subst ho
        rw [if_pos rfl, if_pos (by omega), if_pos (by simp)]; simp
      · rw [if_neg ho, if_neg (by simp; omega)]
theorem fill_one (Z M : Array Value) (size : Nat) (hZ : Z.size = size) (hM : M.size = size) : Instr.fill (fun i => some (i * size, size)) Z [(0, .agg M)] = some M := by
  have hc : (Value.agg M).cells = M := rfl
  simp only [Instr.fill, hc]
  rw [if_neg (by simp [hM, hZ])]
  simp only [Option.some.injEq, Nat.zero_mul]
  rw [← Array.foldl_toList, Array.toList_zipIdx]
  obtain ⟨h1, h2⟩ := fold_put 0 M.toList 0 Z (by simp; omega)
  apply Array.ext_getElem?
  intro i
  rw [h2 i]
  by_cases hi : i < M.size
  · rw [if_pos (by simp; omega)]; simp
  · rw [if_neg (by simp; omega), Array.getElem?_eq_none (by omega), Array.getElem?_eq_none (by omega)]
theorem wpList_buildOne {P : Program} {ops : Array Oper} {rest : List Oper} {o : Oper} {a : Act} {w : World} {Q : Exit → Act → World → Prop} (hg : o.guard = none) (t e : TypeId) (x : Operand) (ho : o.op = .buildSlice t 1 #[(0, x)])
    (M : Array Value) (hx : a.eval x = .agg M) (size : Nat) (hu : P.underlying t = some (.slice e)) (hie : (P.info? e).map (fun i => (i.zero.isSome, i.size)) = some (true, size)) (hsm : size ≤ 16777216) (hpos : 0 < size) (hM : M.size = size)
    (h : wpList P ops Q rest (a.put o.dst (.slice (some ⟨w.heap.size, 0, none⟩) 1 1)) (w.alloc (.cells M e))) : wpList P ops Q (o :: rest) a w := by
  obtain ⟨ie, hi, he⟩ := Option.map_eq_some_iff.1 hie
  obtain ⟨hz, rfl⟩ := Prod.mk.inj he
  obtain ⟨z, hz⟩ := Option.isSome_iff_exists.1 hz
  refine wpList_buildSlice hg t e 1 #[(0, x)] ho M ie z hu hi hz (by rw [Nat.one_mul]; omega) (by omega) ?_ h
  have : (#[(0, x)].map fun (p : Nat × Operand) => (p.1, a.eval p.2)).toList = [(0, .agg M)] := by simp [hx]
  rw [this]
  exact fill_one _ M _ (by simp) hM

/-- is it the operation that fills this slot? the store into what this slot holds? (guards for an arm, cheap) -/
theorem wpAt {P : Program} {ops : Array Oper} {rest : List Oper} {a : Act} {w : World} {Q : Exit → Act → World → Prop} (n : Nat) {op : Op} {t : TypeId} {p : String} {af : Array Edge} {g : Option (Nat × Bool)} (h : wpList P ops Q (⟨some n, op, t, p, af, g⟩ :: rest) a w) : wpList P ops Q (⟨some n, op, t, p, af, g⟩ :: rest) a w := h
theorem wpStoreAt {P : Program} {ops : Array Oper} {rest : List Oper} {a : Act} {w : World} {Q : Exit → Act → World → Prop} (n : Nat) {d : Option Nat} {ty : TypeId} {y : Operand} {t : TypeId} {p : String} {af : Array Edge} {g : Option (Nat × Bool)} (h : wpList P ops Q (⟨d, .store ty (.tmp n) y, t, p, af, g⟩ :: rest) a w) : wpList P ops Q (⟨d, .store ty (.tmp n) y, t, p, af, g⟩ :: rest) a w := h

theorem turns_setRow (w : World) (g : Nat) (cs : Array Value) : Turns (fun i => i = g) w (w.setRow g cs) := ⟨rfl, rfl, rfl, by simp [World.setRow], fun k _ hk => setRow_other w g k cs hk⟩

/-! ### ids, one behind the other -/
theorem Is.range {w : World} {b o n c size : Nat} {ids : List (List UInt8)} (h : Is w (some ⟨b, o, none⟩) n c size ids) (hs : size ≤ 9223372036854775807) (i : Nat) (hi : i < ids.length) : w.rangeAt b (o + i * size) (idA ids[i]).toList := fun j v hv => by
  rw [idA_toList] at hv
  exact (h.one i hi hs).at hv
theorem Is.nil (w : World) (size : Nat) : Is w none 0 0 size [] := ⟨Sl.nil _ _, fun _ h => by simp at h, rfl⟩

/-! ### a block: a hash, a parent, ids -/
structure BlkD where
  hash : List UInt8
  par : List UInt8
  txs : List (List UInt8)
def blkA (h p : List UInt8) (q : Option Addr) (n c : Nat) : Array Value := (bytesV h ++ bytesV p ++ [Value.slice q n c]).toArray
theorem blkA_toList (h p : List UInt8) (q : Option Addr) (n c : Nat) : (blkA h p q n c).toList = bytesV h ++ bytesV p ++ [Value.slice q n c] := by simp [blkA]
/-- a block's value, in a world -/
structure BlkAt (w : World) (M : Array Value) (d : BlkD) (q : Option Addr) (n c : Nat) : Prop where
  arr : M = blkA d.hash d.par q n c
  hlen : d.hash.length = 32
  plen : d.par.length = 32
  ids : Is w q n c 32 d.txs
theorem BlkAt.below {w w' : World} {M : Array Value} {d : BlkD} {q : Option Addr} {n c : Nat} (h : BlkAt w M d q n c) (hb : Below w.heap.size w w') : BlkAt w' M d q n c := ⟨h.arr, h.hlen, h.plen, h.ids.below hb⟩
theorem BlkAt.size {w : World} {M : Array Value} {d : BlkD} {q : Option Addr} {n c : Nat} (h : BlkAt w M d q n c) : M.size = 65 := by
  rw [h.arr, ← Array.length_toList, blkA_toList]; simp [bytesV_length, h.hlen, h.plen]
theorem BlkAt.one {w : World} {M : Array Value} {d : BlkD} {q : Option Addr} {n c : Nat} (h : BlkAt w M d q n c) : M.all (·.oneCell') = true := by
  have := all_oneCell_toArray (cs := M.toList) (fun v hv => by
    rw [h.arr, blkA_toList] at hv
    simp only [List.mem_append, List.mem_singleton] at hv
    rcases hv with (hv | hv) | hv
    · exact bytesV_one _ v hv
    · exact bytesV_one _ v hv
    · rw [hv]; rfl)
  rwa [Array.toArray_toList] at this
/-- its parts, where it lies in a row of its own -/
theorem BlkAt.parts {w wb : World} {M : Array Value} {d : BlkD} {q : Option Addr} {n c : Nat} (h : BlkAt w M d q n c) {b : Nat} {t : TypeId} {fr : Nat × Nat} (hr : wb.heap[b]? = some (.cells M t fr)) :
    wb.rangeAt b 0 (idA d.hash).toList ∧ wb.rangeAt b 32 (idA d.par).toList ∧ wb.cell? ⟨b, 64, none⟩ = some (.slice q n c) := by
  have hM : M.toList = bytesV d.hash ++ bytesV d.par ++ [Value.slice q n c] := by rw [h.arr, blkA_toList]
  refine ⟨?_, ?_, ?_⟩
  · have := range_row hr [] (bytesV d.hash) (bytesV d.par ++ [Value.slice q n c]) (by rw [hM]; simp)
    rw [idA_toList]; exact this
  · have := range_row hr (bytesV d.hash) (bytesV d.par) [Value.slice q n c] hM
    rw [bytesV_length, h.hlen] at this
    rw [idA_toList]; exact this
  · have := range_row hr (bytesV d.hash ++ bytesV d.par) [Value.slice q n c] [] (by rw [hM]; simp)
    rw [List.length_append, bytesV_length, bytesV_length, h.hlen, h.plen] at this
    exact this 0 _ rfl

/-! ### a region that draws its order, whose calls make memory and hand back plain values -/
/-- worlds in which nothing below 'w' has turned -/
def Grown (w : World) : Type := { w' : World // Below w.heap.size w w' }
instance (w : World) : Nonempty (Grown w) := ⟨⟨w, Below.refl _ _⟩⟩
def Grown.v {w : World} (x : Grown w) : World := x.1
theorem Grown.b {w : World} (x : Grown w) : Below w.heap.size w x.v := x.2
theorem wp_region_grow {P : Program} {id : Nat} {Q : Exit → Act → World → Prop} {a : Act} {w : World} {l : List Oper} (hm : P.follows .mixedOrders = true) (hB : Region.lexB .any l.toArray = true)
    (h : wpQuiet P l.toArray (fun w' => ∃ x : Grown w, w' = x.v) (fun a' => ∀ w', Below w.heap.size w w' → Q .normal a' w') l a) : (Code.region id l.toArray true).wp P Q a w := by
  refine wp_region_quiet (C := fun w' => ∃ x : Grown w, w' = x.v) hm hB ⟨⟨w.drew, ⟨rfl, rfl, rfl, Nat.le_refl _, fun _ _ => rfl⟩⟩, rfl⟩ ?_
  have key : (fun a' : Act => ∀ w', Below w.heap.size w w' → Q .normal a' w') = (fun a' => ∀ w', (∃ x : Grown w, w' = x.v) → Q .normal a' w') := by
    funext a'
    apply propext
    exact ⟨fun h w' ⟨x, hx⟩ => h w' (by rw [hx]; exact x.b), fun h w' hb => h w' ⟨⟨w', hb⟩, rfl⟩⟩
  rw [← key]; simpa using h
/-- a callee's contract, met in such a world -/
theorem Calls.grow_of {P : Program} {f : FuncId} {args : Array Value} {w : World} {x : Grown w} {v : Value} (h : Calls P f args x.v fun e w' => e = .returned v ∧ Below x.v.heap.size x.v w') :
    Calls P f args x.v fun e w'' => e = .returned v ∧ ∃ y : Grown w, w'' = y.v :=
  h.mono fun _ w' ⟨he, hb⟩ => ⟨he, ⟨w', x.b.trans (hb.mono x.b.size)⟩, rfl⟩
theorem Calls.grow_same {P : Program} {f : FuncId} {args : Array Value} {w : World} {x : Grown w} {v : Value} (h : Calls P f args x.v fun e w' => e = .returned v ∧ x.v = w') :
    Calls P f args x.v fun e w'' => e = .returned v ∧ ∃ y : Grown w, w'' = y.v :=
  h.mono fun _ _ ⟨he, hb⟩ => ⟨he, x, hb.symm⟩
/-- a whole row loaded -/
theorem wpQuiet_load {P : Program} {ops : Array Oper} {w : World} {Q : Act → Prop} {a : Act} {op : Oper} {rest : List Oper} (hw : Region.wanted op (yielded ops a.tmps) = true) (ty : TypeId) (x : Operand) (ho : op.op = .load ty x)
    (b o : Nat) (hx : a.eval x = .pointer (some ⟨b, o, none⟩)) (M : Array Value) (d : TypeDesc) (hc : ∀ y : Grown w, y.v.rangeAt b o M.toList)
    (hu : P.underlying ty = some d) (hd : d.isRow = true) (hi : (P.info? ty).map (·.size) = some M.size)
    (h : wpQuiet P ops (fun w' => ∃ x : Grown w, w' = x.v) Q rest (a.put op.dst (.agg M))) : wpQuiet P ops (fun w' => ∃ x : Grown w, w' = x.v) Q (op :: rest) a := by
  unfold wpQuiet
  rw [if_pos hw]
  refine ⟨.agg M, fun w' ⟨y, hy⟩ => ?_, h⟩
  subst hy
  unfold Oper.quietAt execOp
  simp only [ho, hx, Instr.loadAt, Instr.sureAddr, Sem.run_bind, Sem.run_pure, Result.andThen_ok, run_loadVar_mid y.v b o ty M.toList d (hc y) hu hd (by simpa using hi)]
  simp [Oper.quietUpon]
theorem wpQuietAt {P : Program} {ops : Array Oper} {C : World → Prop} {Q : Act → Prop} {a : Act} {rest : List Oper} (n : Nat) {op : Op} {t : TypeId} {p : String} {af : Array Edge} {g : Option (Nat × Bool)} (h : wpQuiet P ops C Q (⟨some n, op, t, p, af, g⟩ :: rest) a) : wpQuiet P ops C Q (⟨some n, op, t, p, af, g⟩ :: rest) a := h
theorem wpQuietGd {P : Program} {ops : Array Oper} {C : World → Prop} {Q : Act → Prop} {a : Act} {rest : List Oper} {d : Option Nat} {op : Op} {t : TypeId} {p : String} {af : Array Edge} {g : Nat × Bool} (h : wpQuiet P ops C Q (⟨d, op, t, p, af, some g⟩ :: rest) a) : wpQuiet P ops C Q (⟨d, op, t, p, af, some g⟩ :: rest) a := h
/-- an operation whose guard does not let it by -/
theorem wpQuiet_skip {P : Program} {ops : Array Oper} {C : World → Prop} {Q : Act → Prop} {a : Act} {o : Oper} {rest : List Oper} (hw : Region.wanted o (yielded ops a.tmps) = false) (h : wpQuiet P ops C Q rest (a.put o.dst undef)) : wpQuiet P ops C Q (o :: rest) a := by
  unfold wpQuiet; rw [if_neg (by rw [hw]; exact Bool.false_ne_true)]; exact h
/-- a whole row loaded, ahead of the operations that write -/
theorem wpStill_load {P : Program} {ops : Array Oper} {w : World} {Q : Act → Prop} {a : Act} {op : Oper} {rest : List Oper} (hw : Region.wanted op (yielded ops a.tmps) = true) (ty : TypeId) (x : Operand) (ho : op.op = .load ty x)
    (b o : Nat) (hx : a.eval x = .pointer (some ⟨b, o, none⟩)) (M : Array Value) (d : TypeDesc) (hc : w.rangeAt b o M.toList)
    (hu : P.underlying ty = some d) (hd : d.isRow = true) (hi : (P.info? ty).map (·.size) = some M.size)
    (h : wpStill P ops w Q rest (a.put op.dst (.agg M))) : wpStill P ops w Q (op :: rest) a := by
  unfold wpStill
  rw [if_pos hw]
  unfold Oper.still execOp
  simp only [ho, hx, Instr.loadAt, Instr.sureAddr, Sem.run_bind, Sem.run_pure, Result.andThen_ok, run_loadVar_mid w b o ty M.toList d hc hu hd (by simpa using hi)]
  simpa [Oper.stillUpon] using h
theorem wp_region_tail {P : Program} {id : Nat} {Q : Exit → Act → World → Prop} {a : Act} {w : World} {l : List Oper} (n : Nat) (hm : P.follows .mixedOrders = true) (hB : Region.lexTailB .any l.toArray n = true)
    (h : wpStill P l.toArray w.drew (fun a' => wpList P l.toArray Q (l.drop n) a' w.drew) (l.take n) a) : (Code.region id l.toArray true).wp P Q a w := wp_region_still_tail n hm hB h
theorem below_drew1 (B : Nat) (w : World) : Below B w w.drew := ⟨rfl, rfl, rfl, Nat.le_refl _, fun _ _ => rfl⟩
theorem range_grown {w : World} {b o : Nat} {L : List Value} (h : w.rangeAt b o L) (y : Grown w) : y.v.rangeAt b o L := fun j v hv => by
  have := h j v hv
  rw [y.b.cell (block_lt_of_cell this)]; exact this
theorem cell_grown {w : World} {p : Addr} {v : Value} (h : w.cell? p = some v) (y : Grown w) : y.v.cell? p = some v := by
  rw [y.b.cell (block_lt_of_cell h)]; exact h
end Go.Mir
