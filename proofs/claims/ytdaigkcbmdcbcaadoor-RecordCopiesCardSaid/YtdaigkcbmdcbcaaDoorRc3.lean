/- PARTS, JOINED: errors.Is AND errors.As AT A FAULT OF THE READER's, by their contracts: Go's own text walked. Conditions: for errors.As the laid cell of errors.errorType. THE WALKS OF A READER: Err, Done. Conditions: the laid cell of errors.errorType. WHAT THE ROWS OF A DOOR LIST, AND A WORLD THAT MEETS IT: errors.errorType's one cell. Conditions: none. THE WALKS OF BLOCKS: which ids stand in one, hints, whether two are the same; the program's and the reference's. Conditions: at most 2^40 ids. THE WALKS OF BLOCKS, on: hints. Conditions: as in the first part. THE WALKS OF BLOCKS, on: the ids with a hint. Conditions: as in the first part. THE WALKS OF BLOCKS, on: the reference's hints; few, child, copy. Conditions: as in the first part. THE WALKS OF BLOCKS, on: are two the same? Conditions: as in the first part. THE WALKS OF BLOCKS, on: the program's Same and Copy. Conditions: as in the first part. THE WALKS OF THE WRITER: bytes one behind the other, room and a fault; each call as a plain function of what the writer held. Conditions: parts that stay as they are while the writer's own blocks turn. THE WALKS OF THE WRITER, on: put with any fault, Bytes, Id, Hint, Ids, Num, New, Len, Err, Done. Conditions: as in the first part. -/
import Derived.Test.YtdaigkcbmdcbcaaDoorRc1
import Derived.Test.YtdaigkcbmdcbcaaDoorRc2
import Derived.Test.YtdaigkcbmdcbcaaDoorProg
import Derived.WalkKit
import Derived.LaidEql
import Derived.Stop.Asserts
import Derived.RowKitTokens
import Derived.Test.YtdaigkcbmdcbcaaDoorRows
import Derived.Test.YtdaigkcbmdcbcaaDoorCards
import Derived.Test.YtdaigkcbmdcbcaaDoorTie
import Derived.LaidLaws
import Derived.LaidHandle
import Derived.Laws.Tables
import Derived.Laws.Cover3
import Derived.BigQuiet
import Derived.Deep.QuietTactic
namespace Go.Proofs.YtdaigkcbmdcbcaaDoor.Er
open Go.RowKit Go.Mir Go.Extern.Stop Go.Stop Go.Extern

/-! ### '==' between two errors of one integer type -/
theorem run_equalIn_iface_int {P : Program} (w : World) (d : Nat) {ti tn : TypeId} {ms : Array (String × TypeId)} {i : TypeInfo} {k : IntKind} (a b : Int)
    (hi : P.underlying ti = some (.interface ms)) (hn : P.underlying tn = some (.int k)) (hinfo : P.info? tn = some i) (hcomp : i.comparable = true) :
    (Op.equalIn (d + 2) ti (.iface tn (.int k a)) (.iface tn (.int k b))).run P w = .ok (a == b) w := by
  simp [Op.equalIn, run_underlying hi, run_underlying hn, typeInfo, hinfo, hcomp]
theorem run_eql_iface_int {P : Program} (w : World) {ti tn : TypeId} {ms : Array (String × TypeId)} {i : TypeInfo} {k : IntKind} (a b : Int)
    (hi : P.underlying ti = some (.interface ms)) (hn : P.underlying tn = some (.int k)) (hinfo : P.info? tn = some i) (hcomp : i.comparable = true) :
    (binOp .eql ti (.iface tn (.int k a)) (.iface tn (.int k b))).run P w = .ok (.bool (a == b)) w := by
  simp only [binOp]
  simp [Op.equal, Op.maxDepth, run_equalIn_iface_int w 9998 a b hi hn hinfo hcomp]

/-! ### closed facts: what errors.Is meets -/
theorem isTypeOf (v : Value) (w : World) : (Extern.ReflectliteType.typeOf #[.iface 30 v]).run Tryd.prog w = .ok (.iface 114 (.agg #[.pointer (some ⟨1, 30, none⟩)])) w := by kernel_rfl
def compF : Array Value → Sem Value := Extern.ReflectliteType.method fun t => do Rtype.noPackHeld "Comparable" t; pure (.bool (← typeInfo t).comparable)
theorem isComparable (w : World) : (compF #[.agg #[.pointer (some ⟨1, 30, none⟩)]]).run Tryd.prog w = .ok (.bool true) w := by kernel_rfl
theorem isMethodComparable (v : Value) (w : World) : (Go.method 257 114 v "Comparable").run Tryd.prog w = .ok (100, v) w := by kernel_rfl
theorem isComp : (Tryd.prog.info? 30).map (·.comparable) = some true := by kernel_rfl
theorem noIsF (v : Value) (xT : TypeId) (w : World) : (Instr.typeAssert (.iface 92 v) xT 116 true).run Tryd.prog w = .ok (.tuple #[.nilIface, .bool false]) w := run_typeAssert_lacksB Tryd.underlying116 (by kernel_rfl) (by kernel_rfl) v xT w
theorem hasUnwrapF (v : Value) (xT : TypeId) (w : World) : (Instr.typeAssert (.iface 92 v) xT 119 true).run Tryd.prog w = .ok (.tuple #[.iface 92 v, .bool true]) w := run_typeAssert_hasB Tryd.underlying119 (by kernel_rfl) v xT w
theorem noIsE (v : Value) (xT : TypeId) (w : World) : (Instr.typeAssert (.iface 30 v) xT 116 true).run Tryd.prog w = .ok (.tuple #[.nilIface, .bool false]) w := run_typeAssert_lacksB Tryd.underlying116 (by kernel_rfl) (by kernel_rfl) v xT w
theorem noUnwrapE (v : Value) (xT : TypeId) (w : World) : (Instr.typeAssert (.iface 30 v) xT 119 true).run Tryd.prog w = .ok (.tuple #[.nilIface, .bool false]) w := run_typeAssert_lacksB Tryd.underlying119 (by kernel_rfl) (by kernel_rfl) v xT w
theorem noUnwrapsE (v : Value) (xT : TypeId) (w : World) : (Instr.typeAssert (.iface 30 v) xT 121 true).run Tryd.prog w = .ok (.tuple #[.nilIface, .bool false]) w := run_typeAssert_lacksB Tryd.underlying121 (by kernel_rfl) (by kernel_rfl) v xT w
theorem methodUnwrap (v : Value) (w : World) : (Go.method 257 92 v "Unwrap").run Tryd.prog w = .ok (94, v) w := by kernel_rfl
/-- errors.Is(nil, x) -/
theorem is_nil (z : Int) (w : World) : Calls Tryd.prog 63 #[.nilIface, .iface 30 (.int .i64 z)] w fun e w' => e = .returned (.bool false) ∧ w = w' := by
  have hn := run_eql_iface_nil_left (P := Tryd.prog) w 30 (.int .i64 z) Tryd.underlying83
  go_enter Tryd.func63, Tryd.ntmps63
  go_wp2
  go_ret
  exact ⟨rfl, rfl⟩
/-- errors.Is(f, x), f a fault whose why is e -/
theorem is_fault (fb : Nat) (e z : Int) (w : World) (hc : w.cell? ⟨fb, 1, none⟩ = some (.int .i64 e)) :
    Calls Tryd.prog 63 #[.iface 92 (.pointer (some ⟨fb, 0, none⟩)), .iface 30 (.int .i64 z)] w fun ev w' => ev = .returned (.bool (e == z)) ∧ w = w' := by
  obtain ⟨i, hi, hcmp⟩ := Option.map_eq_some_iff.1 isComp
  have h8 := @run_callFunc_extern Tryd.prog 65 _ Extern.ReflectliteType.typeOf Tryd.func65 (by kernel_rfl) (by kernel_rfl) (by kernel_rfl) (by kernel_rfl)
  have h32 := @run_callFunc_extern Tryd.prog 100 _ compF Tryd.func100 (by kernel_rfl) (by kernel_rfl) (by kernel_rfl) (by kernel_rfl)
  have tT := isTypeOf
  have cT := isComparable
  have mR := isMethodComparable
  have nF := noIsF
  have uF := hasUnwrapF
  have nE := noIsE
  have uE := noUnwrapE
  have vE := noUnwrapsE
  have mU := methodUnwrap
  have heq := run_eql_iface_int (P := Tryd.prog) w e z Tryd.underlying83 Tryd.underlying30 hi hcmp
  have hty := run_eql_iface_types (P := Tryd.prog) 92 30 (.pointer (some ⟨fb, 0, none⟩)) (.int .i64 z) Tryd.underlying83 (by decide) w
  cases hez : e == z with
  | true =>
    rw [hez] at heq
    clear hez
    go_enter Tryd.func63, Tryd.ntmps63
    go_wp2
    refine wp_loop_rounds 2 ?_
    rw [rounds_succ]
    go_wp2
    rw [rounds_succ]
    go_wp2
    go_ret
    exact ⟨rfl, rfl⟩
  | false =>
    rw [hez] at heq
    clear hez
    go_enter Tryd.func63, Tryd.ntmps63
    go_wp2
    refine wp_loop_rounds 2 ?_
    rw [rounds_succ]
    go_wp2
    rw [rounds_succ]
    go_wp2
    go_ret
    exact ⟨rfl, rfl⟩
/-- errors.As(nil, target) -/
theorem as_nil (t : Value) (w : World) : Calls Tryd.prog 64 #[.nilIface, t] w fun e w' => e = .returned (.bool false) ∧ w = w' := by
  go_enter Tryd.func64, Tryd.ntmps64
  go_wp2
  go_ret
  exact ⟨rfl, rfl⟩

theorem valueOf27 (t : Addr) (w : World) : (ReflectliteValue.unpack (.iface 98 (.pointer (some t)))).run Tryd.prog w
    = .ok (.agg #[.pointer (some ⟨1, 98, none⟩), .pointer (some ⟨w.heap.size, 0, none⟩), .int .u64 150]) (w.alloc (.cells #[.pointer (some t)] 98)) := by kernel_rfl
theorem type27 (a : Addr) (w : World) : (ReflectliteValue.methodAny (ReflectliteValue.valueError "reflectlite.Value.Type" 0) (fun t _ _ _ => ReflectliteType.toType t) #[.agg #[.pointer (some ⟨1, 98, none⟩), .pointer (some a), .int .u64 150]]).run Tryd.prog w
    = .ok (.iface 114 (.agg #[.pointer (some ⟨1, 98, none⟩)])) w := by kernel_rfl
theorem methodKind (h : Value) (w : World) : (Go.method 257 114 (.agg #[h]) "Kind").run Tryd.prog w = .ok (87, h) w := by kernel_rfl
theorem kind27 (w : World) : ((ReflectliteType.abiMethod fun t => (fun a : Nat => Value.int IntKind.u8 (a : Int)) <$> Rtype.kind t) #[.pointer (some ⟨1, 98, none⟩)]).run Tryd.prog w = .ok (.int .u8 22) w := by kernel_rfl
theorem kind25 (w : World) : ((ReflectliteType.abiMethod fun t => (fun a : Nat => Value.int IntKind.u8 (a : Int)) <$> Rtype.kind t) #[.pointer (some ⟨1, 92, none⟩)]).run Tryd.prog w = .ok (.int .u8 22) w := by kernel_rfl


theorem rlm (z : Sem Value) (f : TypeId → Addr → Nat → Nat → Sem Value) (v : Value) :
    ReflectliteValue.method z f #[v] = (do match ← ReflectliteValue.parts v with | none => z | some (t, a, fl) => f t a fl (fl % 32)) := rfl
theorem parts27 (a : Addr) (w : World) : (ReflectliteValue.parts (.agg #[.pointer (some ⟨1, 98, none⟩), .pointer (some a), .int .u64 150])).run Tryd.prog w = .ok (some (98, a, 150)) w := by kernel_rfl

theorem isNil27 (a p : Addr) (W : World) (ha : W.cell? a = some (.pointer (some p))) :
    (ReflectliteValue.method (ReflectliteValue.valueError "reflectlite.Value.IsNil" 0) ReflectliteValue.isNil #[.agg #[.pointer (some ⟨1, 98, none⟩), .pointer (some a), .int .u64 150]]).run Tryd.prog W = .ok (.bool false) W := by
  rw [rlm]
  simp only [Sem.run_bind, parts27, Result.andThen]
  simp [ReflectliteValue.isNil, loadVar, isAgg, underlying, Tryd.underlying98, ha, Result.andThen]

theorem methodElem (h : Value) (w : World) : (Go.method 257 114 (.agg #[h]) "Elem").run Tryd.prog w = .ok (101, .agg #[h]) w := by kernel_rfl
theorem methodImplements (h : Value) (w : World) : (Go.method 257 114 (.agg #[h]) "Implements").run Tryd.prog w = .ok (102, .agg #[h]) w := by kernel_rfl
theorem methodAssignableTo (h : Value) (w : World) : (Go.method 257 114 (.agg #[h]) "AssignableTo").run Tryd.prog w = .ok (99, .agg #[h]) w := by kernel_rfl
theorem elem27 (w : World) : (ReflectliteType.method ReflectliteType.elem #[.agg #[.pointer (some ⟨1, 98, none⟩)]]).run Tryd.prog w = .ok (.iface 114 (.agg #[.pointer (some ⟨1, 92, none⟩)])) w := by kernel_rfl
theorem implements25 (w : World) : (ReflectliteType.relation "Implements" ReflectliteType.implements_ #[.agg #[.pointer (some ⟨1, 92, none⟩)], .iface 114 (.agg #[.pointer (some ⟨1, 83, none⟩)])]).run Tryd.prog w = .ok (.bool true) w := by kernel_rfl
theorem typeOf25 (v : Value) (w : World) : (ReflectliteType.typeOf #[.iface 92 v]).run Tryd.prog w = .ok (.iface 114 (.agg #[.pointer (some ⟨1, 92, none⟩)])) w := by kernel_rfl
theorem assignable25 (w : World) : (ReflectliteType.relation "AssignableTo" ReflectliteType.assignableTo #[.agg #[.pointer (some ⟨1, 92, none⟩)], .iface 114 (.agg #[.pointer (some ⟨1, 92, none⟩)])]).run Tryd.prog w = .ok (.bool true) w := by kernel_rfl
theorem valueOf25 (e : Addr) (w : World) : (ReflectliteValue.unpack (.iface 92 (.pointer (some e)))).run Tryd.prog w
    = .ok (.agg #[.pointer (some ⟨1, 92, none⟩), .pointer (some ⟨w.heap.size, 0, none⟩), .int .u64 150]) (w.alloc (.cells #[.pointer (some e)] 92)) := by kernel_rfl

theorem elemOf27 (w : World) : (Rtype.elem? 98).run Tryd.prog w = .ok (some 92) w := by kernel_rfl
theorem mk25 (p : Addr) (w : World) : (ReflectliteValue.mk 92 p ReflectliteValue.flagAddr).run Tryd.prog w = .ok (.agg #[.pointer (some ⟨1, 92, none⟩), .pointer (some p), .int .u64 406]) w := by kernel_rfl

theorem elemV27 (a p : Addr) (W : World) (ha : W.cell? a = some (.pointer (some p))) :
    (ReflectliteValue.method (ReflectliteValue.valueError "reflectlite.Value.Elem" 0) ReflectliteValue.elem #[.agg #[.pointer (some ⟨1, 98, none⟩), .pointer (some a), .int .u64 150]]).run Tryd.prog W
      = .ok (.agg #[.pointer (some ⟨1, 92, none⟩), .pointer (some p), .int .u64 406]) W := by
  rw [rlm]
  simp only [Sem.run_bind, parts27, Result.andThen]
  simp [ReflectliteValue.elem, loadVar, isAgg, underlying, Tryd.underlying98, ha, Result.andThen, elemOf27, mk25]
theorem rls (v x : Value) : ReflectliteValue.set #[v, x] = (do
    let (some (dst, a, fl), some (src, b, _)) := (← ReflectliteValue.parts v, ← ReflectliteValue.parts x)
      | unsupported (.noEntry "extern/(internal/reflectlite.Value).Set.zeroValue")
    if fl / ReflectliteValue.flagAddr % 2 == 0 then unsupported (.noEntry "extern/(internal/reflectlite.Value).Set.unaddressable")
    let val ← loadVar src b
    if ← Rtype.directlyAssignable dst src then storeVar dst a val
    else if ← Rtype.implements dst src then
      if (← Rtype.kind src) == 20 then
        match val with
        | .nilIface => unsupported (.noEntry "extern/reflectlite: a nil value of one interface type handed on as a value of another")
        | _ => storeVar dst a val
      else storeVar dst a (.iface src val)
    else panicString ("reflectlite.Set: value of type " ++ (← Rtype.spelt src) ++ " is not assignable to type " ++ (← Rtype.spelt dst))
    pure (.tuple #[])) := rfl
theorem parts25a (a : Addr) (w : World) : (ReflectliteValue.parts (.agg #[.pointer (some ⟨1, 92, none⟩), .pointer (some a), .int .u64 406])).run Tryd.prog w = .ok (some (92, a, 406)) w := by kernel_rfl
theorem parts25 (a : Addr) (w : World) : (ReflectliteValue.parts (.agg #[.pointer (some ⟨1, 92, none⟩), .pointer (some a), .int .u64 150])).run Tryd.prog w = .ok (some (92, a, 150)) w := by kernel_rfl
theorem direct25 (w : World) : (Rtype.directlyAssignable 92 92).run Tryd.prog w = .ok true w := by kernel_rfl
theorem size25 (w : World) : (sizeOf 92).run Tryd.prog w = .ok 1 w := by kernel_rfl

theorem set25 (ta b e : Addr) (old : Value) (W : World) (hb : W.cell? b = some (.pointer (some e))) (ht : W.cell? ta = some old) (hf : W.frozen? ta = false) :
    (ReflectliteValue.set #[.agg #[.pointer (some ⟨1, 92, none⟩), .pointer (some ta), .int .u64 406], .agg #[.pointer (some ⟨1, 92, none⟩), .pointer (some b), .int .u64 150]]).run Tryd.prog W
      = .ok (.tuple #[]) (W.setCell ta (.pointer (some e))) := by
  rw [rls]
  simp only [Sem.run_bind, parts25a, parts25, Result.andThen]
  simp [ReflectliteValue.flagAddr, loadVar, isAgg, underlying, Tryd.underlying92, hb, Result.andThen, direct25, storeVar, Value.cells, storeCells, Addr.add]
  rw [run_store Tryd.prog W ta _ _ (by rfl)]
  simp [ht, hf]

set_option maxHeartbeats 4000000 in
theorem as_hit (e t : Addr) (old : Value) (w : World) (hg : w.cell? ⟨0, 0, none⟩ = some (.iface 114 (.agg #[.pointer (some ⟨1, 83, none⟩)]))) (ht0 : w.cell? t = some old) (hf0 : w.frozen? t = false) :
    Calls Tryd.prog 64 #[.iface 92 (.pointer (some e)), .iface 98 (.pointer (some t))] w fun ev w' => ev = .returned (.bool true) ∧ w' = ((((w.alloc (.cells #[.pointer (some t)] 98)).alloc (.cells #[.pointer (some ⟨1, 98, none⟩), .pointer (some ⟨w.heap.size, 0, none⟩), .int .u64 150] 106)).alloc (.cells #[.pointer (some ⟨1, 98, none⟩), .pointer (some ⟨w.heap.size, 0, none⟩), .int .u64 150] 106)).alloc (.cells #[.pointer (some e)] 92)).setCell t (.pointer (some e)) := by
  have h6 := @run_callFunc_extern Tryd.prog 67 _ (fun args => ReflectliteValue.unpack (args.getD 0 (.tuple #[]))) Tryd.func67 (by kernel_rfl) (by kernel_rfl) (by kernel_rfl) (by kernel_rfl)
  have h7 := @run_callFunc_extern Tryd.prog 68 _ (ReflectliteValue.methodAny (ReflectliteValue.valueError "reflectlite.Value.Type" 0) (fun t _ _ _ => ReflectliteType.toType t)) Tryd.func68 (by kernel_rfl) (by kernel_rfl) (by kernel_rfl) (by kernel_rfl)
  have h8 := @run_callFunc_extern Tryd.prog 69 _ (ReflectliteValue.method (ReflectliteValue.valueError "reflectlite.Value.IsNil" 0) ReflectliteValue.isNil) Tryd.func69 (by kernel_rfl) (by kernel_rfl) (by kernel_rfl) (by kernel_rfl)
  have h27 := @run_callFunc_extern Tryd.prog 87 _ (ReflectliteType.abiMethod fun t => do pure (.int .u8 (← Rtype.kind t))) Tryd.func87 (by kernel_rfl) (by kernel_rfl) (by kernel_rfl) (by kernel_rfl)
  have h37 := @run_callFunc_extern Tryd.prog 101 _ (ReflectliteType.method ReflectliteType.elem) Tryd.func101 (by kernel_rfl) (by kernel_rfl) (by kernel_rfl) (by kernel_rfl)
  have h38 := @run_callFunc_extern Tryd.prog 102 _ (ReflectliteType.relation "Implements" ReflectliteType.implements_) Tryd.func102 (by kernel_rfl) (by kernel_rfl) (by kernel_rfl) (by kernel_rfl)
  have h10 := @run_callFunc_extern Tryd.prog 65 _ ReflectliteType.typeOf Tryd.func65 (by kernel_rfl) (by kernel_rfl) (by kernel_rfl) (by kernel_rfl)
  have h35 := @run_callFunc_extern Tryd.prog 99 _ (ReflectliteType.relation "AssignableTo" ReflectliteType.assignableTo) Tryd.func99 (by kernel_rfl) (by kernel_rfl) (by kernel_rfl) (by kernel_rfl)
  have h11 := @run_callFunc_extern Tryd.prog 71 _ (ReflectliteValue.method (ReflectliteValue.valueError "reflectlite.Value.Elem" 0) ReflectliteValue.elem) Tryd.func71 (by kernel_rfl) (by kernel_rfl) (by kernel_rfl) (by kernel_rfl)
  have h12 := @run_callFunc_extern Tryd.prog 72 _ ReflectliteValue.set Tryd.func72 (by kernel_rfl) (by kernel_rfl) (by kernel_rfl) (by kernel_rfl)
  have tO := typeOf25
  have mA := methodAssignableTo
  have a25 := assignable25
  have v25 := valueOf25
  have f6 := valueOf27
  have f7 := type27
  have mK := methodKind
  have mE := methodElem
  have mI := methodImplements
  have k27 := kind27
  have k25 := kind25
  have e27 := elem27
  have i25 := implements25
  have n8 := isNil27 ⟨w.heap.size, 0, none⟩ t ((w.alloc (.cells #[.pointer (some t)] 98)).alloc (.cells #[.pointer (some ⟨1, 98, none⟩), .pointer (some ⟨w.heap.size, 0, none⟩), .int .u64 150] 106)) (by simp)
  have hlt : 0 < w.heap.size := by
    rcases Nat.eq_zero_or_pos w.heap.size with h0 | h
    · simp [World.cell?, h0] at hg
    · exact h
  have hg2 : ((w.alloc (.cells #[.pointer (some t)] 98)).alloc (.cells #[.pointer (some ⟨1, 98, none⟩), .pointer (some ⟨w.heap.size, 0, none⟩), .int .u64 150] 106)).cell? ⟨0, 0, none⟩ = some (.iface 114 (.agg #[.pointer (some ⟨1, 83, none⟩)])) := by
    rw [World.cell?_alloc_lt _ _ ⟨0, 0, none⟩ (by simp), World.cell?_alloc_lt _ _ ⟨0, 0, none⟩ hlt]; exact hg
  have htl : t.block < w.heap.size := by
    rcases Nat.lt_or_ge t.block w.heap.size with h | h
    · exact h
    · simp [World.cell?, Array.getElem?_eq_none h] at ht0
  have el := elemV27 ⟨w.heap.size, 0, none⟩ t (((w.alloc (.cells #[.pointer (some t)] 98)).alloc (.cells #[.pointer (some ⟨1, 98, none⟩), .pointer (some ⟨w.heap.size, 0, none⟩), .int .u64 150] 106)).alloc (.cells #[.pointer (some ⟨1, 98, none⟩), .pointer (some ⟨w.heap.size, 0, none⟩), .int .u64 150] 106)) (by rw [World.cell?_alloc_lt _ _ ⟨w.heap.size, 0, none⟩ (by simp; omega)]; simp)
  have st := set25 t ⟨w.heap.size + 1 + 1 + 1, 0, none⟩ e old ((((w.alloc (.cells #[.pointer (some t)] 98)).alloc (.cells #[.pointer (some ⟨1, 98, none⟩), .pointer (some ⟨w.heap.size, 0, none⟩), .int .u64 150] 106)).alloc (.cells #[.pointer (some ⟨1, 98, none⟩), .pointer (some ⟨w.heap.size, 0, none⟩), .int .u64 150] 106)).alloc (.cells #[.pointer (some e)] 92))
    (by rw [World.cell?_alloc_at _ _ _ _ (by simp)]; rfl)
    (by rw [World.cell?_alloc_lt _ _ t (by simp; omega), World.cell?_alloc_lt _ _ t (by simp; omega), World.cell?_alloc_lt _ _ t (by simp; omega), World.cell?_alloc_lt _ _ t htl]; exact ht0)
    (by rw [World.frozen?_alloc_old _ _ t (by simp; omega), World.frozen?_alloc_old _ _ t (by simp; omega), World.frozen?_alloc_old _ _ t (by simp; omega), World.frozen?_alloc_old _ _ t (Nat.ne_of_lt htl)]; exact hf0)
  go_enter Tryd.func64, Tryd.ntmps64
  go_wp2
  refine wp_loop_rounds 1 ?_
  rw [rounds_succ]
  go_wp2
  go_ret
  exact ⟨rfl, rfl⟩
end Go.Proofs.YtdaigkcbmdcbcaaDoor.Er

namespace Go.Proofs.YtdaigkcbmdcbcaaDoor.Rdr
open Go.RowKit Go.Mir Go.Mir.Parts Go.Proofs.YtdaigkcbmdcbcaaDoor.Er

def EType (w : World) : Prop := w.cell? ⟨0, 0, none⟩ = some (.iface 114 (.agg #[.pointer (some ⟨1, 83, none⟩)]))
theorem EType.below {w w' : World} {B : Nat} (h : EType w) (hb : Below B w w') (hB : 0 < B) : EType w' := by
  unfold EType at h ⊢
  rw [World.cell?] at h ⊢
  rw [hb.block _ hB]
  exact h
theorem EType.lt {w : World} (h : EType w) : 0 < w.heap.size := by
  unfold EType at h
  rcases Nat.lt_or_ge 0 w.heap.size with h1 | h1
  · exact h1
  · simp [World.cell?, Array.getElem?_eq_none h1] at h
def E4 : Value := .agg #[.int .i64 1, .int .i64 2, .int .i64 3, .int .i64 4]
theorem e4_0 (w : World) : (Instr.index 95 (.agg #[.int .i64 1, .int .i64 2, .int .i64 3, .int .i64 4]) (.int .i64 0)).run Tryd.prog w = .ok (.int .i64 1) w := by kernel_rfl
theorem e4_1 (w : World) : (Instr.index 95 (.agg #[.int .i64 1, .int .i64 2, .int .i64 3, .int .i64 4]) (.int .i64 1)).run Tryd.prog w = .ok (.int .i64 2) w := by kernel_rfl
theorem e4_2 (w : World) : (Instr.index 95 (.agg #[.int .i64 1, .int .i64 2, .int .i64 3, .int .i64 4]) (.int .i64 2)).run Tryd.prog w = .ok (.int .i64 3) w := by kernel_rfl
theorem e4_3 (w : World) : (Instr.index 95 (.agg #[.int .i64 1, .int .i64 2, .int .i64 3, .int .i64 4]) (.int .i64 3)).run Tryd.prog w = .ok (.int .i64 4) w := by kernel_rfl
set_option maxRecDepth 100000 in
set_option maxHeartbeats 1600000 in
theorem err_any {base rb : Nat} {s : RD} (w : World) (h : RAt w base rb s) (hE : EType w) :
    Calls Tryd.prog 58 #[.pointer (some ⟨rb, 0, none⟩)] w fun e w' => e = .returned (.int .i64 s.err) ∧ Below w.heap.size w w' := by
  have H := Lib.hid h
  obtain ⟨v, bv, h⟩ := h
  obtain ⟨_, _, _, hc3, _⟩ := h.cells
  obtain ⟨l, pos, bad⟩ := s
  have hlt := h.lt
  have x0 := e4_0
  have x1 := e4_1
  have x2 := e4_2
  have x3 := e4_3
  cases bad with
  | none =>
    have hbv : bv = .nilIface := h.fault
    rw [hbv] at hc3
    have HB := Lib.hid (Below.allocs w (.cells #[.pointer none] 92))
    have hc3' := cell_below hc3 HB.out
    clear h hbv
    go_enter Tryd.func58, Tryd.ntmps58
    go_wp2_with fail
    refine (none_any w H.out).mono ?_
    rintro e w' ⟨rfl, rfl⟩
    go_wp2_with fail
    refine wp_loop_rounds 5 ?_
    rw [rounds_succ]
    go_wp2_with fail
    refine (is_nil _ w).mono ?_
    rintro e w' ⟨rfl, rfl⟩
    go_wp2_with fail
    rw [rounds_succ]
    go_wp2_with fail
    refine (is_nil _ w).mono ?_
    rintro e w' ⟨rfl, rfl⟩
    go_wp2_with fail
    rw [rounds_succ]
    go_wp2_with fail
    refine (is_nil _ w).mono ?_
    rintro e w' ⟨rfl, rfl⟩
    go_wp2_with fail
    rw [rounds_succ]
    go_wp2_with fail
    refine (is_nil _ w).mono ?_
    rintro e w' ⟨rfl, rfl⟩
    go_wp2_with fail
    rw [rounds_succ]
    go_wp2_with fail
    refine (as_nil _ _).mono ?_
    rintro e w' ⟨rfl, rfl⟩
    go_wp2_with fail
    go_ret
    exact ⟨rfl, HB.out⟩
  | some b =>
    obtain ⟨hb0, _, fb, a0, hbv, _, hrow⟩ := h.fault
    rw [hbv] at hc3
    have hcf : w.cell? ⟨fb, 1, none⟩ = some (.int .i64 b) := by rw [cell_of_row _ _ _ _ _ _ hrow]; rfl
    have hflt : fb < w.heap.size := (Array.getElem?_eq_some_iff.1 hrow).1
    clear h hbv hrow
    by_cases h1 : b = 1
    · subst h1
      go_enter Tryd.func58, Tryd.ntmps58
      go_wp2_with fail
      refine (none_any w H.out).mono ?_
      rintro e w' ⟨rfl, rfl⟩
      go_wp2_with fail
      refine wp_loop_rounds 5 ?_
      rw [rounds_succ]
      go_wp2_with fail
      refine (is_fault fb _ 1 _ hcf).mono ?_
      rintro e w' ⟨rfl, rfl⟩
      go_wp2_with fail
      go_ret
      exact ⟨rfl, Below.refl _ _⟩
    by_cases h2 : b = 2
    · subst h2
      go_enter Tryd.func58, Tryd.ntmps58
      go_wp2_with fail
      refine (none_any w H.out).mono ?_
      rintro e w' ⟨rfl, rfl⟩
      go_wp2_with fail
      refine wp_loop_rounds 5 ?_
      rw [rounds_succ]
      go_wp2_with fail
      refine (is_fault fb _ 1 _ hcf).mono ?_
      rintro e w' ⟨rfl, rfl⟩
      go_wp2_with fail
      rw [rounds_succ]
      go_wp2_with fail
      refine (is_fault fb _ 2 _ hcf).mono ?_
      rintro e w' ⟨rfl, rfl⟩
      go_wp2_with fail
      go_ret
      exact ⟨rfl, Below.refl _ _⟩
    by_cases h3 : b = 3
    · subst h3
      go_enter Tryd.func58, Tryd.ntmps58
      go_wp2_with fail
      refine (none_any w H.out).mono ?_
      rintro e w' ⟨rfl, rfl⟩
      go_wp2_with fail
      refine wp_loop_rounds 5 ?_
      rw [rounds_succ]
      go_wp2_with fail
      refine (is_fault fb _ 1 _ hcf).mono ?_
      rintro e w' ⟨rfl, rfl⟩
      go_wp2_with fail
      rw [rounds_succ]
      go_wp2_with fail
      refine (is_fault fb _ 2 _ hcf).mono ?_
      rintro e w' ⟨rfl, rfl⟩
      go_wp2_with fail
      rw [rounds_succ]
      go_wp2_with fail
      refine (is_fault fb _ 3 _ hcf).mono ?_
      rintro e w' ⟨rfl, rfl⟩
      go_wp2_with fail
      go_ret
      exact ⟨rfl, Below.refl _ _⟩
    by_cases h4 : b = 4
    · subst h4
      go_enter Tryd.func58, Tryd.ntmps58
      go_wp2_with fail
      refine (none_any w H.out).mono ?_
      rintro e w' ⟨rfl, rfl⟩
      go_wp2_with fail
      refine wp_loop_rounds 5 ?_
      rw [rounds_succ]
      go_wp2_with fail
      refine (is_fault fb _ 1 _ hcf).mono ?_
      rintro e w' ⟨rfl, rfl⟩
      go_wp2_with fail
      rw [rounds_succ]
      go_wp2_with fail
      refine (is_fault fb _ 2 _ hcf).mono ?_
      rintro e w' ⟨rfl, rfl⟩
      go_wp2_with fail
      rw [rounds_succ]
      go_wp2_with fail
      refine (is_fault fb _ 3 _ hcf).mono ?_
      rintro e w' ⟨rfl, rfl⟩
      go_wp2_with fail
      rw [rounds_succ]
      go_wp2_with fail
      refine (is_fault fb _ 4 _ hcf).mono ?_
      rintro e w' ⟨rfl, rfl⟩
      go_wp2_with fail
      go_ret
      exact ⟨rfl, Below.refl _ _⟩
    have y1 : (b == 1) = false := beq_eq_false_iff_ne.2 h1
    have y2 : (b == 2) = false := beq_eq_false_iff_ne.2 h2
    have y3 : (b == 3) = false := beq_eq_false_iff_ne.2 h3
    have y4 : (b == 4) = false := beq_eq_false_iff_ne.2 h4
    have HC3 := Lib.hid hc3
    have HCF := Lib.hid hcf
    have HB := Lib.hid (Below.allocs w (.cells #[.pointer none] 92))
    have HEY : Hid (EType (w.alloc (.cells #[.pointer none] 92))) := hE.below HB.out hE.lt
    have HT0 : Hid ((w.alloc (.cells #[.pointer none] 92)).cell? ⟨w.heap.size, 0, none⟩ = some (.pointer none)) := cell_alloc_new _ _ _ _
    have HF0 : Hid ((w.alloc (.cells #[.pointer none] 92)).frozen? ⟨w.heap.size, 0, none⟩ = false) := frozen_of_row _ _ _ _ _ (heap_alloc_last _ _)
    have hc3' := cell_below hc3 HB.out
    go_enter Tryd.func58, Tryd.ntmps58
    go_wp2_with fail
    refine (none_any w H.out).mono ?_
    rintro e w' ⟨rfl, rfl⟩
    go_wp2_with fail
    refine wp_loop_rounds 5 ?_
    rw [rounds_succ]
    go_wp2_with fail
    refine (is_fault fb _ 1 _ hcf).mono ?_
    rintro e w' ⟨rfl, rfl⟩
    go_wp2_with fail
    rw [rounds_succ]
    go_wp2_with fail
    refine (is_fault fb _ 2 _ hcf).mono ?_
    rintro e w' ⟨rfl, rfl⟩
    go_wp2_with fail
    rw [rounds_succ]
    go_wp2_with fail
    refine (is_fault fb _ 3 _ hcf).mono ?_
    rintro e w' ⟨rfl, rfl⟩
    go_wp2_with fail
    rw [rounds_succ]
    go_wp2_with fail
    refine (is_fault fb _ 4 _ hcf).mono ?_
    rintro e w' ⟨rfl, rfl⟩
    go_wp2_with fail
    rw [rounds_succ]
    go_wp2_with fail
    refine (as_hit ⟨fb, 0, none⟩ ⟨w.heap.size, 0, none⟩ (.pointer none) _ HEY.out HT0.out HF0.out).mono ?_
    rintro e wz ⟨rfl, hw⟩
    have HBZ : Hid (Below w.heap.size w wz ∧ wz.cell? ⟨w.heap.size, 0, none⟩ = some (.pointer (some ⟨fb, 0, none⟩))) := by
      subst hw
      have b1 := HB.out
      have r1 : (w.alloc (.cells #[.pointer none] 92)).heap[w.heap.size]? = some (.cells #[.pointer none] 92 (0, 0)) := heap_alloc_last _ _
      generalize w.alloc (.cells #[.pointer none] 92) = v1 at *
      have b2 := b1.alloc b1.size (.cells #[.pointer (some ⟨w.heap.size, 0, none⟩)] 98)
      have r2 := block_old (.cells #[.pointer (some ⟨w.heap.size, 0, none⟩)] 98) r1
      generalize v1.alloc (.cells #[.pointer (some ⟨w.heap.size, 0, none⟩)] 98) = v2 at *
      have b3 := b2.alloc b2.size (.cells #[.pointer (some ⟨1, 98, none⟩), .pointer (some ⟨v1.heap.size, 0, none⟩), .int .u64 150] 106)
      have r3 := block_old (.cells #[.pointer (some ⟨1, 98, none⟩), .pointer (some ⟨v1.heap.size, 0, none⟩), .int .u64 150] 106) r2
      have b4 := b3.alloc b3.size (.cells #[.pointer (some ⟨1, 98, none⟩), .pointer (some ⟨v1.heap.size, 0, none⟩), .int .u64 150] 106)
      have r4 := block_old (.cells #[.pointer (some ⟨1, 98, none⟩), .pointer (some ⟨v1.heap.size, 0, none⟩), .int .u64 150] 106) r3
      have b5 := b4.alloc b4.size (.cells #[.pointer (some ⟨fb, 0, none⟩)] 92)
      have r5 := block_old (.cells #[.pointer (some ⟨fb, 0, none⟩)] 92) r4
      refine ⟨b5.setCell (Nat.le_refl _) _, ?_⟩
      rw [cell_of_row _ _ _ _ _ _ (heap_setCell_same _ _ _ _ _ _ r5)]
      rfl
    have hct := HBZ.out.2
    have hcz := cell_below HCF.out HBZ.out.1
    clear hw
    go_wp2_with fail
    go_ret
    exact ⟨rfl, HBZ.out.1⟩
def RD.done (s : RD) : Int := if s.err ≠ 0 then s.err else if s.l.length - s.pos = 0 then 0 else 3
theorem done_any {base rb : Nat} {s : RD} (w : World) (h : RAt w base rb s) (hE : EType w) :
    Calls Tryd.prog 39 #[.pointer (some ⟨rb, 0, none⟩)] w fun e w' => e = .returned (.int .i64 s.done) ∧ Below w.heap.size w w' := by
  have H := Lib.hid h
  have HE := Lib.hid (err_any w h hE)
  clear h hE
  by_cases h0 : s.err = 0
  · rw [h0] at HE
    by_cases hl : s.l.length - s.pos = 0
    · have hR : Hid (s.done = 0) := by show _ = _; unfold RD.done; rw [if_neg (by simp [h0]), if_pos hl]
      go_enter Tryd.func39, Tryd.ntmps39
      go_wp2_with fail
      refine HE.out.mono ?_
      rintro e w1 ⟨rfl, hb1⟩
      have HB1 := Lib.hid hb1
      have H1 := Lib.hid (H.out.below hb1)
      clear hb1
      go_wp2_with fail
      refine (left_any w1 H1.out).mono ?_
      rintro e w2 ⟨rfl, hb2⟩
      have HB2 := Lib.hid (HB1.out.trans (hb2.mono HB1.out.size))
      clear hb2
      rw [hl]
      go_wp2_with fail
      go_ret
      exact ⟨by rw [hR.out]; rfl, HB2.out⟩
    · have hR : Hid (s.done = 3) := by show _ = _; unfold RD.done; rw [if_neg (by simp [h0]), if_neg hl]
      generalize hq : s.l.length - s.pos = q at *
      have hb : ((q : Int) == 0) = false := by rw [beq_eq_false_iff_ne]; omega
      go_enter Tryd.func39, Tryd.ntmps39
      go_wp2_with fail
      refine HE.out.mono ?_
      rintro e w1 ⟨rfl, hb1⟩
      have HB1 := Lib.hid hb1
      have H1 := Lib.hid (H.out.below hb1)
      clear hb1
      go_wp2_with fail
      refine (left_any w1 H1.out).mono ?_
      rintro e w2 ⟨rfl, hb2⟩
      have HB2 := Lib.hid (HB1.out.trans (hb2.mono HB1.out.size))
      clear hb2
      rw [hq]
      go_wp2_with fail
      go_ret
      exact ⟨by rw [hR.out]; rfl, HB2.out⟩
  · have hR : Hid (s.done = s.err) := by show _ = _; unfold RD.done; rw [if_pos h0]
    have hb : (s.err == 0) = false := by rw [beq_eq_false_iff_ne]; exact h0
    have hb2 : (s.err != 0) = true := by simp [h0]
    generalize s.err = E at *
    go_enter Tryd.func39, Tryd.ntmps39
    go_wp2_with fail
    refine HE.out.mono ?_
    rintro e w1 ⟨rfl, hb1⟩
    have HB1 := Lib.hid hb1
    clear hb1
    go_wp2_with fail
    go_ret
    exact ⟨by rw [hR.out]; rfl, HB1.out⟩
end Go.Proofs.YtdaigkcbmdcbcaaDoor.Rdr

namespace Go.Proofs.YtdaigkcbmdcbcaaDoor.Rdr
open Go.ChangeShapes Go.WideShapes Go.RowKit Go.Mir

theorem own : ownKnob Tryd.prog.godebug = none := by kernel_rfl
theorem laidOut : laidOutB Tryd.prog = true := by kernel_rfl
theorem etNamed : Tryd.prog.globalNamed "errors.errorType" = some 0 := by kernel_rfl
theorem rtNamed : (Tryd.prog.cutTypes.find? (·.1 == "internal/reflectlite.rtype")).map (·.2) = some 114 := by kernel_rfl
theorem sizeNamed : Tryd.prog.types.size = Tryd.prog.types.size := rfl
theorem oneRow : ((List.range Tryd.prog.types.size).filter fun t => Tryd.prog.rowNamed t [101, 114, 114, 111, 114]) = [83] := by kernel_rfl
def laidE : List (String × DataW Unit) := [("errors.errorType", Rows.laid_errors_errorType)]
theorem etype_of_laid {W : World} (h : laidMetH Tryd.prog laidE W) : EType W := by
  have h' : laidMet Tryd.prog [] W ∧ handlesMet Tryd.prog laidE W := h
  obtain ⟨name, u, ty, e1, e2, e3, e4, e5⟩ := h'.2 _ (List.mem_singleton.2 rfl)
  have en : name = [101, 114, 114, 111, 114] := (Option.some.inj e1).symm
  subst en
  obtain rfl := Option.some.inj (rtNamed.symm.trans e2)
  have hm : ty ∈ (List.range Tryd.prog.types.size).filter fun t => Tryd.prog.rowNamed t [101, 114, 114, 111, 114] := List.mem_filter.2 ⟨List.mem_range.2 e3, e4⟩
  rw [oneRow] at hm
  obtain rfl := List.mem_singleton.1 hm
  have hh : typeHandle Tryd.prog 83 = .pointer (some ⟨1, 83, none⟩) := by kernel_rfl
  rw [hh] at e5
  show W.cell? ⟨0, 0, none⟩ = _
  simpa using World.var?_cell etNamed e5 0
/-- a world that meets the condition -/
noncomputable def laidWorld (os : Os) : World :=
  let w0 := World.holding Tryd.prog os ⟨#[], #[], []⟩
  { w0 with heap := w0.heap.modify 0 fun
      | .cells _ t frozen => .cells #[.iface 114 (.agg #[.pointer (some ⟨1, 83, none⟩)])] t frozen
      | o => o }
theorem laidWorld_met (os : Os) (args : Array Value) : laidMetH Tryd.prog laidE ((laidWorld os).forCall (fun _ _ => 0) ⟨#[], args, []⟩).memory :=
  laidMetH_of_parts (laidMet_nil _ _) (by kernel_rfl)
end Go.Proofs.YtdaigkcbmdcbcaaDoor.Rdr

namespace Go.Proofs.YtdaigkcbmdcbcaaDoor.Blk
open Go.RowKit Go.Mir Go.Mir.Parts

def zeros : List UInt8 := List.replicate 32 0
theorem zeroI (w : World) : (zeroValue 23).run Tryd.prog w = .ok (.agg (idA zeros)) w := by kernel_rfl
theorem zeros_size : (idA zeros).size = 32 := by decide
theorem eqI (w : World) (a b : List UInt8) (ha : a.length = 32) (hb : b.length = 32) : (Op.equalIn 10000 23 (.agg (idA a)) (.agg (idA b))).run Tryd.prog w = .ok (a == b) w :=
  run_equal_ids w 9998 Tryd.underlying23 Tryd.underlying5 (by kernel_rfl) (by kernel_rfl) (by kernel_rfl) a b ha hb
theorem infoI (n : Nat) (h : n = 32) : (Tryd.prog.info? 23).map (·.size) = some n := by subst h; kernel_rfl
theorem infoBlk (n : Nat) (h : n = 65) : (Tryd.prog.info? 26).map (·.size) = some n := by subst h; kernel_rfl

theorem bret {a b : Bool} (h : a = b) : Ending.returned (.bool a) = .returned (.bool b) := by rw [h]
/-! ### does an id stand in it? -/
set_option maxRecDepth 100000 in
theorem has_any (M : Array Value) (d : BlkD) (q : Option Addr) (n c : Nat) (x : List UInt8) (w : World) (hM : BlkAt w M d q n c) (hx : x.length = 32) (hn : n ≤ 1099511627776) :
    Calls Tryd.prog 28 #[.agg M, .agg (idA x)] w fun e w' => e = .returned (.bool (d.txs.contains x)) ∧ Below w.heap.size w w' := by
  have HM := Lib.hid hM
  have HX := Lib.hid hx
  have hz := zeroI
  have hcnt : d.txs.length = n := hM.ids.count
  have hcap := hM.ids.sl.le
  have hmax := hM.ids.sl.max
  have HC := Lib.hid hcnt
  clear hM hx hcnt
  go_enter Tryd.func28, Tryd.ntmps28
  have H2 := Lib.hid (two_allocs w (.cells M 26) (.cells (idA x) 23))
  have hc64 := (HM.out.parts H2.out.1).2.2
  go_wp2_with fail
  have HR := Lib.hid H2.out.2.1
  have HB := Lib.hid H2.out.2.2.2
  generalize (w.alloc (.cells M 26)).alloc (.cells (idA x) 23) = w2 at *
  clear hc64
  go_loopw [10] (fun j wr => ∃ k : Nat, k ≤ n ∧ j = .int .i64 k ∧ x ∉ d.txs.take k ∧ wr.heap[w.heap.size + 1]? = some (.cells (idA x) 23 (0, 0)) ∧ Below w.heap.size w wr) (fun j _ => n - (intOf j).toNat)
  case atStart => exact ⟨0, by omega, rfl, by simp, HR.out, HB.out⟩
  case round =>
    obtain ⟨k, hk, rfl, hnot, hrow, hbw⟩ := hrel
    have HNOT := Lib.hid hnot
    have HROW := Lib.hid hrow
    have HBW := Lib.hid hbw
    clear hnot hrow hbw
    by_cases hlt : k < n
    · obtain ⟨b, o, rfl⟩ := HM.out.ids.sl.addr (by omega) (by omega)
      have hlk : k < d.txs.length := by rw [HC.out]; exact hlt
      have HRG := Lib.hid ((HM.out.ids.below HBW.out).range (by omega) k hlk)
      have HLK : Hid ((d.txs[k]'hlk).length = 32) := HM.out.ids.each _ (List.getElem_mem _)
      have HTK := Lib.hid (take_snoc d.txs k hlk)
      have HME : Hid (d.txs[k]'hlk ∈ d.txs) := List.getElem_mem _
      generalize d.txs[k]'hlk = y at *
      have HYS : Hid ((idA y).size = 32) := by show _ = _; rw [idA_size, HLK.out]
      have HYL : Hid ((idA y).toList.length = 32) := by show _ = _; rw [Array.length_toList, HYS.out]
      have HNW := Lib.hid (box_new wr (idA zeros) 23)
      have HBR := Lib.hid (box_row wr (idA zeros) (idA y) 23)
      have HBB := Lib.hid (box_below wr (idA zeros) (idA y) 23)
      have HR3 := Lib.hid (Below.keepOld HBB.out HROW.out)
      have HB3 := Lib.hid (HBW.out.trans (HBB.out.mono HBW.out.size))
      have hd : decide ((k : Int) < (n : Int)) = true := decide_eq_true (by omega)
      have hq : ∀ w, (Op.equalIn 10000 23 (.agg (idA y)) (.agg (idA x))).run Tryd.prog w = .ok (y == x) w := fun w => eqI w y x HLK.out HX.out
      by_cases hyx : y = x
      · have HRES : Hid (d.txs.contains x = true) := by show _ = _; rw [List.contains_iff_mem, ← hyx]; exact HME.out
        have hb : (y == x) = true := by rw [beq_iff_eq]; exact hyx
        have HSW := Lib.hid hq
        clear hyx
        go_wp2_with (first
          | refine wpList_load_mid rfl 23 _ rfl b (o + k * 32) rfl (idA y).toList _ HRG.out Tryd.underlying23 rfl (infoI _ HYL.out) ?_
          | refine wpList_store_row rfl 23 _ _ rfl wr.heap.size (idA y) rfl rfl 23 (idA zeros) HNW.out (infoI _ HYS.out) (zeros_size.trans HYS.out.symm) (idA_one y) ?_
          | refine wpList_load_row rfl 23 _ rfl wr.heap.size rfl 23 (idA y) (0, 0) _ HBR.out Tryd.underlying23 rfl (infoI _ HYS.out) ?_
          | refine wpList_load_row rfl 23 _ rfl (w.heap.size + 1) rfl 23 (idA x) (0, 0) _ HR3.out Tryd.underlying23 rfl (infoI _ (by rw [idA_size, HX.out])) ?_)
        go_ret
        exact ⟨bret HRES.out.symm, HB3.out⟩
      · have hb : (y == x) = false := by rw [beq_eq_false_iff_ne]; exact hyx
        have HYX := Lib.hid hyx
        clear hyx
        go_wp2_with (first
          | refine wpList_load_mid rfl 23 _ rfl b (o + k * 32) rfl (idA y).toList _ HRG.out Tryd.underlying23 rfl (infoI _ HYL.out) ?_
          | refine wpList_store_row rfl 23 _ _ rfl wr.heap.size (idA y) rfl rfl 23 (idA zeros) HNW.out (infoI _ HYS.out) (zeros_size.trans HYS.out.symm) (idA_one y) ?_
          | refine wpList_load_row rfl 23 _ rfl wr.heap.size rfl 23 (idA y) (0, 0) _ HBR.out Tryd.underlying23 rfl (infoI _ HYS.out) ?_
          | refine wpList_load_row rfl 23 _ rfl (w.heap.size + 1) rfl 23 (idA x) (0, 0) _ HR3.out Tryd.underlying23 rfl (infoI _ (by rw [idA_size, HX.out])) ?_)
        go_roundw
        case rel =>
          refine ⟨k + 1, by omega, by go_num, ?_, HR3.out, HB3.out⟩
          rw [HTK.out, List.mem_append, List.mem_singleton]
          rintro (h | h)
          · exact HNOT.out h
          · exact HYX.out h.symm
        case measure => simp [intOf]; omega
    · have HRES : Hid (d.txs.contains x = false) := by
        show _ = _
        have h1 := HNOT.out
        rw [List.take_of_length_le (by rw [HC.out]; omega)] at h1
        cases hc : d.txs.contains x with
        | false => rfl
        | true => exact absurd (List.contains_iff_mem.1 hc) h1
      have hd : decide ((k : Int) < (n : Int)) = false := decide_eq_false (by omega)
      go_wp2_with fail
      go_ret
      exact ⟨bret HRES.out.symm, HBW.out⟩

/-! ### the reference's -/
end Go.Proofs.YtdaigkcbmdcbcaaDoor.Blk

namespace Go.Proofs.YtdaigkcbmdcbcaaDoor.Blk
open Go.RowKit Go.Mir Go.Mir.Parts

def zeros16 : List UInt8 := List.replicate 16 0
theorem zeroH (w : World) : (zeroValue 40).run Tryd.prog w = .ok (.agg (idA zeros16)) w := by kernel_rfl
theorem eqH (w : World) (a b : List UInt8) (ha : a.length = 16) (hb : b.length = 16) : (Op.equalIn 10000 40 (.agg (idA a)) (.agg (idA b))).run Tryd.prog w = .ok (a == b) w :=
  run_equal_ids w 9998 Tryd.underlying40 Tryd.underlying5 (by kernel_rfl) (by kernel_rfl) (by kernel_rfl) a b ha hb
theorem infoH (n : Nat) (h : n = 16) : (Tryd.prog.info? 40).map (·.size) = some n := by subst h; kernel_rfl
theorem range_take16 {w : World} {b : Nat} {x : List UInt8} {t : TypeId} {fr : Nat × Nat} (h : w.heap[b]? = some (.cells (idA x) t fr)) : w.rangeAt b 0 (idA (x.take 16)).toList := fun j v hv => by
  have hj := (List.getElem?_eq_some_iff.1 hv).1
  rw [idA_toList, bytesV_length, List.length_take] at hj
  rw [idA_toList, bytesV_get _ _ (by rw [List.length_take]; omega)] at hv
  rw [cell_of_row _ _ _ _ _ _ h, ← Array.getElem?_toList, idA_toList, Nat.zero_add, bytesV_get _ _ (by omega), ← hv]
  simp

end Go.Proofs.YtdaigkcbmdcbcaaDoor.Blk

namespace Go.Proofs.YtdaigkcbmdcbcaaDoor.Blk
open Go.RowKit Go.Mir Go.Mir.Parts

theorem infoIds : (Tryd.prog.info? 23).map (fun i => (i.zero, i.size, i.bytes)) = some (some (.agg (idA zeros)), 32, 32) := by kernel_rfl
/-- what is left of ids gathered -/
def IdsP (ids : List (List UInt8)) (w : World) (e : Ending) (w' : World) : Prop := ∃ p c, e = .returned (.slice p ids.length c) ∧ Is w' p ids.length c 32 ids ∧ (∀ a, p = some a → w.heap.size ≤ a.block) ∧ Below w.heap.size w w'
theorem ids_of_own {w w' : World} {v : Value} {ids : List (List UInt8)} (h : w'.ownsRow w.heap.size 23 32 v ids.length (ids.flatMap bytesV)) (hl : ∀ x ∈ ids, x.length = 32) (hb : Below w.heap.size w w') : IdsP ids w (.returned v) w' := by
  obtain ⟨p, c, rfl, hs⟩ := own_sl h
  refine ⟨p, c, rfl, ⟨hs, hl, rfl⟩, fun a ha => ?_, hb⟩
  subst ha
  obtain ⟨g, cap, e, hg, _⟩ := own_some h (by simp)
  cases e; exact hg
theorem made_id (w : World) (y : List UInt8) (M : Array Value) (t : TypeId) (hM : M.toList = bytesV y) (hy : y.length = 32) : Sl (w.alloc (.cells M t)) (some ⟨w.heap.size, 0, none⟩) 1 1 32 (bytesV y) :=
  ⟨by rw [bytesV_length, hy], Nat.le_refl _, by omega, fun h => (by cases h), fun a ha j u hu => by
    obtain rfl := Option.some.inj ha
    rw [add_none, cell_of_row _ _ _ _ _ _ (heap_alloc_last _ _), ← Array.getElem?_toList, hM, Nat.zero_add]; exact hu⟩
theorem filter_snoc (f : List UInt8 → Bool) (l : List (List UInt8)) (k : Nat) (h : k < l.length) : (l.take (k + 1)).filter f = (l.take k).filter f ++ if f l[k] then [l[k]] else [] := by
  rw [take_snoc l k h, List.filter_append]
  cases hf : f l[k] <;> simp [hf]
/-- what the call owns lies apart from a row of another type -/
theorem own_ne_cells {w : World} {base e size n : Nat} {v : Value} {xs : List Value} {k : Nat} {M : Array Value} {t : TypeId} {fr : Nat × Nat} (h : w.ownsRow base e size v n xs) (hk : w.heap[k]? = some (.cells M t fr)) (hne : t ≠ e) : ∀ i, v.ownBlock = some i → ¬ i = k := by
  intro i hi e1
  subst e1
  rcases h.2 with ⟨rfl, _⟩ | ⟨g, cap, cur, rfl, _, hg, _⟩
  · simp [Value.ownBlock] at hi
  · simp [Value.ownBlock] at hi
    subst hi
    rw [hk] at hg; cases hg; exact hne rfl
/-- which ids have a hint -/
def hintedL (h : List UInt8) (l : List (List UInt8)) : List (List UInt8) := l.filter fun y => y.take 16 == h

end Go.Proofs.YtdaigkcbmdcbcaaDoor.Blk

namespace Go.Proofs.YtdaigkcbmdcbcaaDoor.Blk
open Go.RowKit Go.Mir Go.Mir.Parts

/-- the first bytes, as far as they are filled -/
def partN (N : Nat) (b : List UInt8) (k : Nat) : List UInt8 := b.take k ++ List.replicate (N - k) 0
theorem partN_row {N : Nat} {M : Array Value} {b : List UInt8} {k : Nat} (hM : M.toList = bytesV (partN N b k)) (h : k < b.length) (hN : k < N) : (M.setIfInBounds k (.int .u8 (b[k].toNat : Int))).toList = bytesV (partN N b (k + 1)) := by
  have key : (partN N b k).set k b[k] = partN N b (k + 1) := by
    unfold partN
    have hl : (b.take k).length = k := by rw [List.length_take]; omega
    rw [List.set_append_right _ _ (by omega), hl, Nat.sub_self, show N - k = (N - (k + 1)) + 1 by omega, List.replicate_succ, List.set_cons_zero, take_snoc b k h, List.append_assoc]; rfl
  rw [Array.toList_setIfInBounds, hM, ← key]
  simp [bytesV, List.map_set]
theorem three_allocs (w : World) (o o2 o3 : Obj) : (((w.alloc o).alloc o2).alloc o3).heap[w.heap.size]? = some o ∧ (((w.alloc o).alloc o2).alloc o3).heap[w.heap.size + 1]? = some o2 ∧ (((w.alloc o).alloc o2).alloc o3).heap[w.heap.size + 2]? = some o3 ∧ Below w.heap.size w (((w.alloc o).alloc o2).alloc o3) := by
  have h := two_allocs w o o2
  refine ⟨block_old _ h.1, block_old _ h.2.1, ?_, h.2.2.2.alloc (by have := h.2.2.1; omega) _⟩
  have := heap_alloc_last ((w.alloc o).alloc o2) o3
  rwa [h.2.2.1] at this

theorem few_any (M : Array Value) (d : BlkD) (q : Option Addr) (n c : Nat) (w : World) (hM : BlkAt w M d q n c) :
    Calls Tryd.prog 8 #[.agg M] w fun e w' => e = .returned (.bool (decide (n ≤ 100))) ∧ Below w.heap.size w w' := by
  have hc64 := (hM.parts (heap_alloc_last w (.cells M 26))).2.2
  have HB := Lib.hid (Below.allocs w (.cells M 26))
  have hcap := hM.ids.sl.le
  have hmax := hM.ids.sl.max
  clear hM
  go_enter Tryd.func8, Tryd.ntmps8
  go_wp2
  go_ret
  refine ⟨bret ?_, HB.out⟩
  rw [Bool.eq_iff_iff, decide_eq_true_eq, decide_eq_true_eq]; omega

end Go.Proofs.YtdaigkcbmdcbcaaDoor.Blk

namespace Go.Proofs.YtdaigkcbmdcbcaaDoor.Blk
open Go.RowKit Go.Mir Go.Mir.Parts

theorem bretd {a b : Bool} (h : a = b) : Ending.returned (.bool a) = .returned (.bool b) := by rw [h]
theorem range_grown_row {w : World} {b : Nat} {A : Array Value} {t : TypeId} {fr : Nat × Nat} (h : w.heap[b]? = some (.cells A t fr)) (z : Grown w) : z.v.rangeAt b 0 A.toList :=
  range_grown (fun j v hv => by rw [cell_of_row _ _ _ _ _ _ h, ← Array.getElem?_toList, Nat.zero_add]; exact hv) z
theorem take_eq_step {a b : List (List UInt8)} {k : Nat} (h : a.take k = b.take k) (ha : k < a.length) (hb : k < b.length) (e : a[k] = b[k]) : a.take (k + 1) = b.take (k + 1) := by
  rw [take_snoc a k ha, take_snoc b k hb, h, e]

set_option maxRecDepth 100000 in
set_option maxHeartbeats 400000 in
theorem idsSame_any (p p2 : Option Addr) (n c n2 c2 : Nat) (la lb : List (List UInt8)) (w : World) (hA : Is w p n c 32 la) (hB : Is w p2 n2 c2 32 lb) :
    Calls Tryd.prog 40 #[.slice p n c, .slice p2 n2 c2] w fun e w' => e = .returned (.bool (la == lb)) ∧ Below w.heap.size w w' := by
  have HA := Lib.hid hA
  have HB := Lib.hid hB
  have ha := hA.sl.le
  have hb := hB.sl.le
  have ham := hA.sl.max
  have hbm := hB.sl.max
  obtain rfl : la.length = n := hA.count
  obtain rfl : lb.length = n2 := hB.count
  clear hA hB
  by_cases hl : la.length = lb.length
  · have hlen : ((la.length : Int) == (lb.length : Int)) = true := by rw [beq_iff_eq]; omega
    have hlen2 : ((la.length : Int) != (lb.length : Int)) = false := by rw [bne_eq_false_iff_eq]; omega
    have HL := Lib.hid hl
    clear hl
    go_enter Tryd.func40, Tryd.ntmps40
    go_wp2_with fail
    go_loopw [5] (fun j wr => ∃ k : Nat, k ≤ la.length ∧ j = .int .i64 k ∧ la.take k = lb.take k ∧ Below w.heap.size w wr) (fun j _ => la.length - (intOf j).toNat)
    case atStart => exact ⟨0, by omega, rfl, rfl, Below.refl _ _⟩
    case round =>
      obtain ⟨k, hk, rfl, heq, hbw⟩ := hrel
      have HEQ := Lib.hid heq
      have HBW := Lib.hid hbw
      clear heq hbw
      by_cases hlt : k < la.length
      · have hlt2 : k < lb.length := by rw [← HL.out]; exact hlt
        obtain ⟨b, o, rfl⟩ := HA.out.sl.addr (by omega) (by omega)
        obtain ⟨b2, o2, rfl⟩ := HB.out.sl.addr (by omega) (by omega)
        have HRA := Lib.hid (range_grown ((HA.out.below HBW.out).range (by omega) k hlt))
        have HRB := Lib.hid (range_grown ((HB.out.below HBW.out).range (by omega) k hlt2))
        have HLA : Hid ((la[k]'hlt).length = 32) := HA.out.each _ (List.getElem_mem _)
        have HLB : Hid ((lb[k]'hlt2).length = 32) := HB.out.each _ (List.getElem_mem _)
        have HST : Hid (la[k]'hlt = lb[k]'hlt2 → la.take (k + 1) = lb.take (k + 1)) := fun e => take_eq_step HEQ.out hlt hlt2 e
        have HNE : Hid (¬ la[k]'hlt = lb[k]'hlt2 → (la == lb) = false) := fun h => by
          rw [beq_eq_false_iff_ne]; intro e; subst e; exact h rfl
        generalize la[k]'hlt = x at *
        generalize lb[k]'hlt2 = y at *
        have hq : ∀ w, (Op.equalIn 10000 23 (.agg (idA x)) (.agg (idA y))).run Tryd.prog w = .ok (x == y) w := fun w => eqI w _ _ HLA.out HLB.out
        have hd : decide ((k : Int) < (la.length : Int)) = true := decide_eq_true (by omega)
        by_cases hxy : x = y
        · have hbq : (x == y) = true := by rw [beq_iff_eq]; exact hxy
          have HN := Lib.hid (HST.out hxy)
          clear hxy
          go_wp2_with fail
          refine wp_region_grow (by kernel_rfl) (by kernel_rfl) ?_
          repeat (first
            | refine wpQuiet_load rfl 23 _ rfl b (o + k * 32) rfl (idA x) _ HRA.out Tryd.underlying23 rfl (infoI _ (by rw [idA_size, HLA.out])) ?_
            | refine wpQuiet_load rfl 23 _ rfl b2 (o2 + k * 32) rfl (idA y) _ HRB.out Tryd.underlying23 rfl (infoI _ (by rw [idA_size, HLB.out])) ?_
            | quiet_step (fail))
          refine wpQuiet_nil ?_
          intro w3 hb3
          have HB3 := Lib.hid (HBW.out.trans (hb3.mono HBW.out.size))
          clear hb3 hq
          go_wp2_with fail
          go_roundw
          case rel => exact ⟨k + 1, by omega, by go_num, HN.out, HB3.out⟩
          case measure => simp [intOf]; omega
        · have hbq : (x == y) = false := by rw [beq_eq_false_iff_ne]; exact hxy
          have HN := Lib.hid (HNE.out hxy)
          clear hxy
          go_wp2_with fail
          refine wp_region_grow (by kernel_rfl) (by kernel_rfl) ?_
          repeat (first
            | refine wpQuiet_load rfl 23 _ rfl b (o + k * 32) rfl (idA x) _ HRA.out Tryd.underlying23 rfl (infoI _ (by rw [idA_size, HLA.out])) ?_
            | refine wpQuiet_load rfl 23 _ rfl b2 (o2 + k * 32) rfl (idA y) _ HRB.out Tryd.underlying23 rfl (infoI _ (by rw [idA_size, HLB.out])) ?_
            | quiet_step (fail))
          refine wpQuiet_nil ?_
          intro w3 hb3
          have HB3 := Lib.hid (HBW.out.trans (hb3.mono HBW.out.size))
          clear hb3 hq
          go_wp2_with fail
          go_ret
          exact ⟨bretd HN.out.symm, HB3.out⟩
      · have HR : Hid ((la == lb) = true) := by
          show _ = _
          have h1 := HEQ.out
          rw [List.take_of_length_le (by omega), List.take_of_length_le (by rw [← HL.out]; omega)] at h1
          rw [beq_iff_eq]; exact h1
        have hd : decide ((k : Int) < (la.length : Int)) = false := decide_eq_false (by omega)
        go_wp2_with fail
        go_ret
        exact ⟨bretd HR.out.symm, HBW.out⟩
  · have hlen : ((la.length : Int) == (lb.length : Int)) = false := by rw [beq_eq_false_iff_ne]; omega
    have HR : Hid ((la == lb) = false) := by
      show _ = _
      rw [beq_eq_false_iff_ne]; intro e; exact hl (by rw [e])
    clear hl
    go_enter Tryd.func40, Tryd.ntmps40
    go_wp2_with fail
    go_ret
    exact ⟨bretd HR.out.symm, Below.refl _ _⟩

/-- are two blocks the same? -/
def sameB (d d2 : BlkD) : Bool := d.hash == d2.hash && d.par == d2.par && d.txs == d2.txs
set_option maxRecDepth 100000 in
set_option maxHeartbeats 400000 in
theorem rSame_any (M M2 : Array Value) (d d2 : BlkD) (q q2 : Option Addr) (n c n2 c2 : Nat) (w : World) (hM : BlkAt w M d q n c) (hM2 : BlkAt w M2 d2 q2 n2 c2) :
    Calls Tryd.prog 15 #[.agg M, .agg M2] w fun e w' => e = .returned (.bool (sameB d d2)) ∧ Below w.heap.size w w' := by
  have H2 := Lib.hid (two_allocs w (.cells M 26) (.cells M2 26))
  have HP := Lib.hid (hM.parts H2.out.1)
  have HP2 := Lib.hid (hM2.parts H2.out.2.1)
  have HA : Hid (d.hash.length = 32 ∧ d.par.length = 32 ∧ d2.hash.length = 32 ∧ d2.par.length = 32) := ⟨hM.hlen, hM.plen, hM2.hlen, hM2.plen⟩
  have HI := Lib.hid (hM.ids.below H2.out.2.2.2)
  have HI2 := Lib.hid (hM2.ids.below H2.out.2.2.2)
  have hc := HP.out.2.2
  have hc2 := HP2.out.2.2
  have hq : ∀ w, (Op.equalIn 10000 23 (.agg (idA d.hash)) (.agg (idA d2.hash))).run Tryd.prog w = .ok (d.hash == d2.hash) w := fun w => eqI w _ _ HA.out.1 HA.out.2.2.1
  have hq2 : ∀ w, (Op.equalIn 10000 23 (.agg (idA d.par)) (.agg (idA d2.par))).run Tryd.prog w = .ok (d.par == d2.par) w := fun w => eqI w _ _ HA.out.2.1 HA.out.2.2.2
  clear hM hM2
  by_cases h1 : d.hash = d2.hash
  · have hb1 : (d.hash == d2.hash) = true := by rw [beq_iff_eq]; exact h1
    by_cases h2 : d.par = d2.par
    · have hb2 : (d.par == d2.par) = true := by rw [beq_iff_eq]; exact h2
      have HR : Hid (sameB d d2 = (d.txs == d2.txs)) := by show _ = _; unfold sameB; rw [hb1, hb2]; rfl
      have HB1 := Lib.hid hb1
      clear h1 h2
      go_enter Tryd.func15, Tryd.ntmps15
      go_wp2_with (first
        | refine wpList_load_mid rfl 23 _ rfl w.heap.size 0 rfl (idA d.hash).toList _ HP.out.1 Tryd.underlying23 rfl (infoI _ (by rw [Array.length_toList, idA_size, HA.out.1])) ?_
        | refine wpList_load_mid rfl 23 _ rfl (w.heap.size + 1) 0 rfl (idA d2.hash).toList _ HP2.out.1 Tryd.underlying23 rfl (infoI _ (by rw [Array.length_toList, idA_size, HA.out.2.2.1])) ?_
        | refine wpList_unguard rfl (wpList_load_mid rfl 23 _ rfl w.heap.size 32 rfl (idA d.par).toList _ HP.out.2.1 Tryd.underlying23 rfl (infoI _ (by rw [Array.length_toList, idA_size, HA.out.2.1])) ?_)
        | refine wpList_unguard rfl (wpList_load_mid rfl 23 _ rfl (w.heap.size + 1) 32 rfl (idA d2.par).toList _ HP2.out.2.1 Tryd.underlying23 rfl (infoI _ (by rw [Array.length_toList, idA_size, HA.out.2.2.2])) ?_))
      refine (idsSame_any _ _ _ _ _ _ _ _ _ HI.out HI2.out).mono ?_
      rintro e w3 ⟨rfl, hb3⟩
      have HB3 := Lib.hid (H2.out.2.2.2.trans (hb3.mono H2.out.2.2.2.size))
      clear hb3 hc hc2 hq hq2
      generalize hT : (d.txs == d2.txs) = T at *
      have HT := Lib.hid hT
      clear hT
      go_wp2_with fail
      go_ret
      exact ⟨bretd HR.out.symm, HB3.out⟩
    · have hb2 : (d.par == d2.par) = false := by rw [beq_eq_false_iff_ne]; exact h2
      have HR : Hid (sameB d d2 = false) := by show _ = _; unfold sameB; rw [hb2]; simp
      clear h1 h2
      go_enter Tryd.func15, Tryd.ntmps15
      go_wp2_with (first
        | refine wpList_load_mid rfl 23 _ rfl w.heap.size 0 rfl (idA d.hash).toList _ HP.out.1 Tryd.underlying23 rfl (infoI _ (by rw [Array.length_toList, idA_size, HA.out.1])) ?_
        | refine wpList_load_mid rfl 23 _ rfl (w.heap.size + 1) 0 rfl (idA d2.hash).toList _ HP2.out.1 Tryd.underlying23 rfl (infoI _ (by rw [Array.length_toList, idA_size, HA.out.2.2.1])) ?_
        | refine wpList_unguard rfl (wpList_load_mid rfl 23 _ rfl w.heap.size 32 rfl (idA d.par).toList _ HP.out.2.1 Tryd.underlying23 rfl (infoI _ (by rw [Array.length_toList, idA_size, HA.out.2.1])) ?_)
        | refine wpList_unguard rfl (wpList_load_mid rfl 23 _ rfl (w.heap.size + 1) 32 rfl (idA d2.par).toList _ HP2.out.2.1 Tryd.underlying23 rfl (infoI _ (by rw [Array.length_toList, idA_size, HA.out.2.2.2])) ?_))
      go_ret
      exact ⟨bretd HR.out.symm, H2.out.2.2.2⟩
  · have hb1 : (d.hash == d2.hash) = false := by rw [beq_eq_false_iff_ne]; exact h1
    have HR : Hid (sameB d d2 = false) := by show _ = _; unfold sameB; rw [hb1]; simp
    clear h1
    go_enter Tryd.func15, Tryd.ntmps15
    go_wp2_with (first
      | refine wpList_load_mid rfl 23 _ rfl w.heap.size 0 rfl (idA d.hash).toList _ HP.out.1 Tryd.underlying23 rfl (infoI _ (by rw [Array.length_toList, idA_size, HA.out.1])) ?_
      | refine wpList_load_mid rfl 23 _ rfl (w.heap.size + 1) 0 rfl (idA d2.hash).toList _ HP2.out.1 Tryd.underlying23 rfl (infoI _ (by rw [Array.length_toList, idA_size, HA.out.2.2.1])) ?_)
    go_ret
    exact ⟨bretd HR.out.symm, H2.out.2.2.2⟩
end Go.Proofs.YtdaigkcbmdcbcaaDoor.Blk

namespace Go.Proofs.YtdaigkcbmdcbcaaDoor.Blk
open Go.RowKit Go.Mir Go.Mir.Parts

set_option maxRecDepth 100000 in
set_option maxHeartbeats 400000 in
theorem same_hash (M M2 : Array Value) (d d2 : BlkD) (q q2 : Option Addr) (n c n2 c2 : Nat) (w : World) (hM : BlkAt w M d q n c) (hM2 : BlkAt w M2 d2 q2 n2 c2) (h1 : ¬ d.hash = d2.hash) :
    Calls Tryd.prog 51 #[.agg M, .agg M2] w fun e w' => e = .returned (.bool (sameB d d2)) ∧ Below w.heap.size w w' := by
  have H2 := Lib.hid (two_allocs w (.cells M 26) (.cells M2 26))
  have HP := Lib.hid (hM.parts H2.out.1)
  have HP2 := Lib.hid (hM2.parts H2.out.2.1)
  have HM2 := Lib.hid hM2
  have HA : Hid (d.hash.length = 32 ∧ d.par.length = 32 ∧ d2.hash.length = 32 ∧ d2.par.length = 32) := ⟨hM.hlen, hM.plen, hM2.hlen, hM2.plen⟩
  have HI := Lib.hid (hM.ids.below H2.out.2.2.2)
  have HI2 := Lib.hid (hM2.ids.below H2.out.2.2.2)
  have hc := HP.out.2.2
  have hc2 := HP2.out.2.2
  have hq : ∀ w, (Op.equalIn 10000 23 (.agg (idA d.hash)) (.agg (idA d2.hash))).run Tryd.prog w = .ok (d.hash == d2.hash) w := fun w => eqI w _ _ HA.out.1 HA.out.2.2.1
  have hcap := hM.ids.sl.le
  have hmax := hM.ids.sl.max
  have hcap2 := hM2.ids.sl.le
  have hmax2 := hM2.ids.sl.max
  obtain rfl : d.txs.length = n := hM.ids.count
  obtain rfl : d2.txs.length = n2 := hM2.ids.count
  clear hM hM2
  have hb1 : (d.hash == d2.hash) = false := by rw [beq_eq_false_iff_ne]; exact h1
  have HR : Hid (sameB d d2 = false) := by show _ = _; unfold sameB; rw [hb1]; simp
  clear h1
  go_enter Tryd.func51, Tryd.ntmps51
  go_wp2_with (first
    | ((with_reducible refine wpAt 8 ?_); refine wpList_load_mid rfl 23 _ rfl w.heap.size 0 rfl (idA d.hash).toList _ HP.out.1 Tryd.underlying23 rfl (infoI _ (by rw [Array.length_toList, idA_size, HA.out.1])) ?_)
    | ((with_reducible refine wpAt 10 ?_); refine wpList_load_mid rfl 23 _ rfl (w.heap.size + 1) 0 rfl (idA d2.hash).toList _ HP2.out.1 Tryd.underlying23 rfl (infoI _ (by rw [Array.length_toList, idA_size, HA.out.2.2.1])) ?_))
  go_ret
  exact ⟨bretd HR.out.symm, H2.out.2.2.2⟩

set_option maxRecDepth 100000 in
set_option maxHeartbeats 400000 in
theorem same_par (M M2 : Array Value) (d d2 : BlkD) (q q2 : Option Addr) (n c n2 c2 : Nat) (w : World) (hM : BlkAt w M d q n c) (hM2 : BlkAt w M2 d2 q2 n2 c2) (h1 : d.hash = d2.hash) (h2 : ¬ d.par = d2.par) :
    Calls Tryd.prog 51 #[.agg M, .agg M2] w fun e w' => e = .returned (.bool (sameB d d2)) ∧ Below w.heap.size w w' := by
  have H2 := Lib.hid (two_allocs w (.cells M 26) (.cells M2 26))
  have HP := Lib.hid (hM.parts H2.out.1)
  have HP2 := Lib.hid (hM2.parts H2.out.2.1)
  have HM2 := Lib.hid hM2
  have HA : Hid (d.hash.length = 32 ∧ d.par.length = 32 ∧ d2.hash.length = 32 ∧ d2.par.length = 32) := ⟨hM.hlen, hM.plen, hM2.hlen, hM2.plen⟩
  have HI := Lib.hid (hM.ids.below H2.out.2.2.2)
  have HI2 := Lib.hid (hM2.ids.below H2.out.2.2.2)
  have hc := HP.out.2.2
  have hc2 := HP2.out.2.2
  have hq : ∀ w, (Op.equalIn 10000 23 (.agg (idA d.hash)) (.agg (idA d2.hash))).run Tryd.prog w = .ok (d.hash == d2.hash) w := fun w => eqI w _ _ HA.out.1 HA.out.2.2.1
  have hq2 : ∀ w, (Op.equalIn 10000 23 (.agg (idA d.par)) (.agg (idA d2.par))).run Tryd.prog w = .ok (d.par == d2.par) w := fun w => eqI w _ _ HA.out.2.1 HA.out.2.2.2
  have hcap := hM.ids.sl.le
  have hmax := hM.ids.sl.max
  have hcap2 := hM2.ids.sl.le
  have hmax2 := hM2.ids.sl.max
  obtain rfl : d.txs.length = n := hM.ids.count
  obtain rfl : d2.txs.length = n2 := hM2.ids.count
  clear hM hM2
  have hb1 : (d.hash == d2.hash) = true := by rw [beq_iff_eq]; exact h1
  clear h1
  have hb2 : (d.par == d2.par) = false := by rw [beq_eq_false_iff_ne]; exact h2
  have HR : Hid (sameB d d2 = false) := by show _ = _; unfold sameB; rw [hb2]; simp
  clear h2
  go_enter Tryd.func51, Tryd.ntmps51
  go_wp2_with (first
    | ((with_reducible refine wpAt 8 ?_); refine wpList_load_mid rfl 23 _ rfl w.heap.size 0 rfl (idA d.hash).toList _ HP.out.1 Tryd.underlying23 rfl (infoI _ (by rw [Array.length_toList, idA_size, HA.out.1])) ?_)
    | ((with_reducible refine wpAt 10 ?_); refine wpList_load_mid rfl 23 _ rfl (w.heap.size + 1) 0 rfl (idA d2.hash).toList _ HP2.out.1 Tryd.underlying23 rfl (infoI _ (by rw [Array.length_toList, idA_size, HA.out.2.2.1])) ?_)
    | ((with_reducible refine wpAt 14 ?_); refine wpList_unguard rfl (wpList_load_mid rfl 23 _ rfl w.heap.size 32 rfl (idA d.par).toList _ HP.out.2.1 Tryd.underlying23 rfl (infoI _ (by rw [Array.length_toList, idA_size, HA.out.2.1])) ?_))
    | ((with_reducible refine wpAt 16 ?_); refine wpList_unguard rfl (wpList_load_mid rfl 23 _ rfl (w.heap.size + 1) 32 rfl (idA d2.par).toList _ HP2.out.2.1 Tryd.underlying23 rfl (infoI _ (by rw [Array.length_toList, idA_size, HA.out.2.2.2])) ?_)))
  go_ret
  exact ⟨bretd HR.out.symm, H2.out.2.2.2⟩

set_option maxRecDepth 100000 in
set_option maxHeartbeats 1000000 in
theorem same_any (M M2 : Array Value) (d d2 : BlkD) (q q2 : Option Addr) (n c n2 c2 : Nat) (w : World) (hM : BlkAt w M d q n c) (hM2 : BlkAt w M2 d2 q2 n2 c2) :
    Calls Tryd.prog 51 #[.agg M, .agg M2] w fun e w' => e = .returned (.bool (sameB d d2)) ∧ Below w.heap.size w w' := by
  have H2 := Lib.hid (two_allocs w (.cells M 26) (.cells M2 26))
  have HP := Lib.hid (hM.parts H2.out.1)
  have HP2 := Lib.hid (hM2.parts H2.out.2.1)
  have HM2 := Lib.hid hM2
  have HA : Hid (d.hash.length = 32 ∧ d.par.length = 32 ∧ d2.hash.length = 32 ∧ d2.par.length = 32) := ⟨hM.hlen, hM.plen, hM2.hlen, hM2.plen⟩
  have HI := Lib.hid (hM.ids.below H2.out.2.2.2)
  have HI2 := Lib.hid (hM2.ids.below H2.out.2.2.2)
  have hc := HP.out.2.2
  have hc2 := HP2.out.2.2
  have hz := zeroI
  have hq : ∀ w, (Op.equalIn 10000 23 (.agg (idA d.hash)) (.agg (idA d2.hash))).run Tryd.prog w = .ok (d.hash == d2.hash) w := fun w => eqI w _ _ HA.out.1 HA.out.2.2.1
  have hq2 : ∀ w, (Op.equalIn 10000 23 (.agg (idA d.par)) (.agg (idA d2.par))).run Tryd.prog w = .ok (d.par == d2.par) w := fun w => eqI w _ _ HA.out.2.1 HA.out.2.2.2
  have hcap := hM.ids.sl.le
  have hmax := hM.ids.sl.max
  have hcap2 := hM2.ids.sl.le
  have hmax2 := hM2.ids.sl.max
  obtain rfl : d.txs.length = n := hM.ids.count
  obtain rfl : d2.txs.length = n2 := hM2.ids.count
  by_cases h1 : d.hash = d2.hash
  · have hb1 : (d.hash == d2.hash) = true := by rw [beq_iff_eq]; exact h1
    by_cases h2 : d.par = d2.par
    · have hb2 : (d.par == d2.par) = true := by rw [beq_iff_eq]; exact h2
      have HR : Hid (sameB d d2 = (d.txs == d2.txs)) := by show _ = _; unfold sameB; rw [hb1, hb2]; rfl
      clear h1 h2 hM hM2
      by_cases hl : d.txs.length = d2.txs.length
      · have hlen : ((d.txs.length : Int) == (d2.txs.length : Int)) = true := by rw [beq_iff_eq]; omega
        have hlen2 : ((d.txs.length : Int) != (d2.txs.length : Int)) = false := by rw [bne_eq_false_iff_eq]; omega
        have HL := Lib.hid hl
        clear hl
        go_enter Tryd.func51, Tryd.ntmps51
        go_wp2_with (first
          | ((with_reducible refine wpAt 8 ?_); refine wpList_load_mid rfl 23 _ rfl w.heap.size 0 rfl (idA d.hash).toList _ HP.out.1 Tryd.underlying23 rfl (infoI _ (by rw [Array.length_toList, idA_size, HA.out.1])) ?_)
          | ((with_reducible refine wpAt 10 ?_); refine wpList_load_mid rfl 23 _ rfl (w.heap.size + 1) 0 rfl (idA d2.hash).toList _ HP2.out.1 Tryd.underlying23 rfl (infoI _ (by rw [Array.length_toList, idA_size, HA.out.2.2.1])) ?_)
          | ((with_reducible refine wpAt 14 ?_); refine wpList_unguard rfl (wpList_load_mid rfl 23 _ rfl w.heap.size 32 rfl (idA d.par).toList _ HP.out.2.1 Tryd.underlying23 rfl (infoI _ (by rw [Array.length_toList, idA_size, HA.out.2.1])) ?_))
          | ((with_reducible refine wpAt 16 ?_); refine wpList_unguard rfl (wpList_load_mid rfl 23 _ rfl (w.heap.size + 1) 32 rfl (idA d2.par).toList _ HP2.out.2.1 Tryd.underlying23 rfl (infoI _ (by rw [Array.length_toList, idA_size, HA.out.2.2.2])) ?_)))
        have HR1 := Lib.hid H2.out.2.1
        have HB := Lib.hid H2.out.2.2.2
        generalize (w.alloc (.cells M 26)).alloc (.cells M2 26) = w2 at *
        clear hc hc2 hq hq2
        go_loopw [31] (fun j wr => ∃ k : Nat, k ≤ d.txs.length ∧ j = .int .i64 k ∧ d.txs.take k = d2.txs.take k ∧ Below w2.heap.size w2 wr) (fun j _ => d.txs.length - (intOf j).toNat)
        case atStart => exact ⟨0, by omega, rfl, rfl, Below.refl _ _⟩
        case round =>
          obtain ⟨k, hk, rfl, heq, hbw⟩ := hrel
          have HEQ := Lib.hid heq
          have HBW := Lib.hid hbw
          clear heq hbw
          by_cases hlt : k < d.txs.length
          · have hlt2 : k < d2.txs.length := by rw [← HL.out]; exact hlt
            obtain ⟨b, o, rfl⟩ := HI.out.sl.addr (by omega) (by omega)
            obtain ⟨b2, o2, rfl⟩ := HI2.out.sl.addr (by omega) (by omega)
            have HRA := Lib.hid ((HI.out.below HBW.out).range (by omega) k hlt)
            have HRM2 := Lib.hid (Below.keepOld HBW.out HR1.out)
            have HLA : Hid ((d.txs[k]'hlt).length = 32) := HI.out.each _ (List.getElem_mem _)
            have HLB : Hid ((d2.txs[k]'hlt2).length = 32) := HI2.out.each _ (List.getElem_mem _)
            have HST : Hid (d.txs[k]'hlt = d2.txs[k]'hlt2 → d.txs.take (k + 1) = d2.txs.take (k + 1)) := fun e => take_eq_step HEQ.out hlt hlt2 e
            have HNE : Hid (¬ d.txs[k]'hlt = d2.txs[k]'hlt2 → (d.txs == d2.txs) = false) := fun h => by
              rw [beq_eq_false_iff_ne]; intro e
              exact h (by simp only [e])
            have HNW := Lib.hid (box_new wr (idA zeros) 23)
            have HBR := Lib.hid (box_row wr (idA zeros) (idA (d.txs[k]'hlt)) 23)
            have HBB := Lib.hid (box_below wr (idA zeros) (idA (d.txs[k]'hlt)) 23)
            have HB4 := Lib.hid (HBW.out.trans (HBB.out.mono HBW.out.size))
            have HRB := Lib.hid (range_grown ((HI2.out.below HB4.out).range (by omega) k hlt2))
            generalize d.txs[k]'hlt = x at *
            generalize d2.txs[k]'hlt2 = y at *
            have HXS : Hid ((idA x).size = 32) := by show _ = _; rw [idA_size, HLA.out]
            have HXL : Hid ((idA x).toList.length = 32) := by show _ = _; rw [Array.length_toList, HXS.out]
            have hq : ∀ w, (Op.equalIn 10000 23 (.agg (idA x)) (.agg (idA y))).run Tryd.prog w = .ok (x == y) w := fun w => eqI w _ _ HLA.out HLB.out
            have hd : decide ((k : Int) < (d.txs.length : Int)) = true := decide_eq_true (by omega)
            by_cases hxy : x = y
            · have hbq : (x == y) = true := by rw [beq_iff_eq]; exact hxy
              have HN := Lib.hid (HST.out hxy)
              clear hxy
              go_wp2_with (first
                | refine wpList_load_mid rfl 23 _ rfl b (o + k * 32) rfl (idA x).toList _ HRA.out Tryd.underlying23 rfl (infoI _ HXL.out) ?_
                | refine wpList_store_row rfl 23 _ _ rfl wr.heap.size (idA x) rfl rfl 23 (idA zeros) HNW.out (infoI _ HXS.out) (zeros_size.trans HXS.out.symm) (idA_one x) ?_)
              generalize (wr.alloc (.cells (idA zeros) 23)).setRow wr.heap.size (idA x) = w4 at *
              have hg64 := cell_grown ((HM2.out.parts (Below.keepOld HB4.out HR1.out)).2.2)
              have HGX := Lib.hid (range_grown_row HBR.out)
              refine wp_region_grow (by kernel_rfl) (by kernel_rfl) ?_
              repeat (first
                | refine wpQuiet_load rfl 23 _ rfl wr.heap.size 0 rfl (idA x) _ HGX.out Tryd.underlying23 rfl (infoI _ HXS.out) ?_
                | refine wpQuiet_load rfl 23 _ rfl b2 (o2 + k * 32) rfl (idA y) _ HRB.out Tryd.underlying23 rfl (infoI _ (by rw [idA_size, HLB.out])) ?_
                | quiet_step (fail))
              refine wpQuiet_nil ?_
              intro w5 hb5
              have HB5 := Lib.hid (HB4.out.trans (hb5.mono HB4.out.size))
              clear hb5 hq hg64
              go_wp2_with fail
              go_roundw
              case rel => exact ⟨k + 1, by omega, by go_num, HN.out, HB5.out⟩
              case measure => simp [intOf]; omega
            · have hbq : (x == y) = false := by rw [beq_eq_false_iff_ne]; exact hxy
              have HN := Lib.hid (HNE.out hxy)
              clear hxy
              go_wp2_with (first
                | refine wpList_load_mid rfl 23 _ rfl b (o + k * 32) rfl (idA x).toList _ HRA.out Tryd.underlying23 rfl (infoI _ HXL.out) ?_
                | refine wpList_store_row rfl 23 _ _ rfl wr.heap.size (idA x) rfl rfl 23 (idA zeros) HNW.out (infoI _ HXS.out) (zeros_size.trans HXS.out.symm) (idA_one x) ?_)
              generalize (wr.alloc (.cells (idA zeros) 23)).setRow wr.heap.size (idA x) = w4 at *
              have hg64 := cell_grown ((HM2.out.parts (Below.keepOld HB4.out HR1.out)).2.2)
              have HGX := Lib.hid (range_grown_row HBR.out)
              refine wp_region_grow (by kernel_rfl) (by kernel_rfl) ?_
              repeat (first
                | refine wpQuiet_load rfl 23 _ rfl wr.heap.size 0 rfl (idA x) _ HGX.out Tryd.underlying23 rfl (infoI _ HXS.out) ?_
                | refine wpQuiet_load rfl 23 _ rfl b2 (o2 + k * 32) rfl (idA y) _ HRB.out Tryd.underlying23 rfl (infoI _ (by rw [idA_size, HLB.out])) ?_
                | quiet_step (fail))
              refine wpQuiet_nil ?_
              intro w5 hb5
              have HB5 := Lib.hid (HB4.out.trans (hb5.mono HB4.out.size))
              clear hb5 hq hg64
              go_wp2_with fail
              go_ret
              exact ⟨bretd (HR.out.trans HN.out).symm, HB.out.trans (HB5.out.mono HB.out.size)⟩
          · have HRR : Hid ((d.txs == d2.txs) = true) := by
              show _ = _
              have h1 := HEQ.out
              rw [List.take_of_length_le (by omega), List.take_of_length_le (by rw [← HL.out]; omega)] at h1
              rw [beq_iff_eq]; exact h1
            have hd : decide ((k : Int) < (d.txs.length : Int)) = false := decide_eq_false (by omega)
            go_wp2_with fail
            go_ret
            exact ⟨bretd (HR.out.trans HRR.out).symm, HB.out.trans (HBW.out.mono HB.out.size)⟩
      · have hlen : ((d.txs.length : Int) == (d2.txs.length : Int)) = false := by rw [beq_eq_false_iff_ne]; omega
        have HN : Hid (sameB d d2 = false) := by show _ = _; rw [HR.out, beq_eq_false_iff_ne]; intro e; exact hl (by rw [e])
        clear hl
        go_enter Tryd.func51, Tryd.ntmps51
        go_wp2_with (first
          | ((with_reducible refine wpAt 8 ?_); refine wpList_load_mid rfl 23 _ rfl w.heap.size 0 rfl (idA d.hash).toList _ HP.out.1 Tryd.underlying23 rfl (infoI _ (by rw [Array.length_toList, idA_size, HA.out.1])) ?_)
          | ((with_reducible refine wpAt 10 ?_); refine wpList_load_mid rfl 23 _ rfl (w.heap.size + 1) 0 rfl (idA d2.hash).toList _ HP2.out.1 Tryd.underlying23 rfl (infoI _ (by rw [Array.length_toList, idA_size, HA.out.2.2.1])) ?_)
          | ((with_reducible refine wpAt 14 ?_); refine wpList_unguard rfl (wpList_load_mid rfl 23 _ rfl w.heap.size 32 rfl (idA d.par).toList _ HP.out.2.1 Tryd.underlying23 rfl (infoI _ (by rw [Array.length_toList, idA_size, HA.out.2.1])) ?_))
          | ((with_reducible refine wpAt 16 ?_); refine wpList_unguard rfl (wpList_load_mid rfl 23 _ rfl (w.heap.size + 1) 32 rfl (idA d2.par).toList _ HP2.out.2.1 Tryd.underlying23 rfl (infoI _ (by rw [Array.length_toList, idA_size, HA.out.2.2.2])) ?_)))
        go_ret
        exact ⟨bretd HN.out.symm, H2.out.2.2.2⟩
    · exact same_par _ _ _ _ _ _ _ _ _ _ _ hM hM2 h1 h2
  · exact same_hash _ _ _ _ _ _ _ _ _ _ _ hM hM2 h1
end Go.Proofs.YtdaigkcbmdcbcaaDoor.Blk

namespace Go.Proofs.YtdaigkcbmdcbcaaDoor.Wr
open Go.RowKit Go.Mir Go.Mir.Parts

theorem infoB : (Tryd.prog.info? 5).map (fun i => (i.zero, i.size, i.bytes)) = some (some (.int .u8 0), 1, 1) := by kernel_rfl

/-- a writer that a call made: its block, its bytes' slice, room, bytes, fault -/
structure WAt (w : World) (wb : Nat) (v : Value) (room : Nat) (l : List UInt8) (bad : Int) : Prop where
  blk : w.heap[wb]? = some (.cells #[.bool true, .int .i64 (room : Int), v, .int .i64 bad] 78 (0, 0))
  own : w.ownsRow 0 5 1 v l.length (bytesV l)
  sep : v.ownBlock ≠ some wb
  fits : l.length ≤ room
  roomy : room ≤ 9223372036854775807
/-- its blocks -/
def foot (wb : Nat) (v : Value) (k : Nat) : Prop := k = wb ∨ v.ownBlock = some k

theorem WAt.touch {S : Nat → Prop} {w w' : World} {wb : Nat} {v : Value} {room : Nat} {l : List UInt8} {bad : Int} (h : WAt w wb v room l bad) (ht : Turns S w w') (hS : ∀ k, foot wb v k → ¬ S k) : WAt w' wb v room l bad :=
  ⟨ht.keep h.blk (hS _ (.inl rfl)), own_touch h.own ht (fun k hk => hS k (.inr hk)), h.sep, h.fits, h.roomy⟩
theorem WAt.drew {w : World} {wb : Nat} {v : Value} {room : Nat} {l : List UInt8} {bad : Int} (h : WAt w wb v room l bad) : WAt w.drew wb v room l bad := ⟨h.blk, h.own, h.sep, h.fits, h.roomy⟩
theorem WAt.lt {w : World} {wb : Nat} {v : Value} {room : Nat} {l : List UInt8} {bad : Int} (h : WAt w wb v room l bad) : ∀ k, foot wb v k → k < w.heap.size := by
  intro k hk
  rcases hk with rfl | hk
  · exact (Array.getElem?_eq_some_iff.1 h.blk).1
  · exact (h.own.lt k hk).2

/-- the four cells -/
theorem WAt.cells {w : World} {wb : Nat} {v : Value} {room : Nat} {l : List UInt8} {bad : Int} (h : WAt w wb v room l bad) :
    w.cell? ⟨wb, 0, none⟩ = some (.bool true) ∧ w.cell? ⟨wb, 1, none⟩ = some (.int .i64 (room : Int)) ∧ w.cell? ⟨wb, 2, none⟩ = some v ∧ w.cell? ⟨wb, 3, none⟩ = some (.int .i64 bad) ∧ w.frozen? ⟨wb, 2, none⟩ = false ∧ w.frozen? ⟨wb, 3, none⟩ = false := by
  refine ⟨?_, ?_, ?_, ?_, frozen_of_row _ _ _ _ _ h.blk, frozen_of_row _ _ _ _ _ h.blk⟩ <;> (rw [cell_of_row _ _ _ _ _ _ h.blk]; rfl)

/-! ### is there none? -/
theorem none_made (wb : Nat) (w : World) (hc : w.cell? ⟨wb, 0, none⟩ = some (.bool true)) :
    Calls Tryd.prog 59 #[.pointer (some ⟨wb, 0, none⟩)] w fun e w' => e = .returned (.bool false) ∧ w = w' := by
  go_enter Tryd.func59, Tryd.ntmps59
  go_wp2
  go_ret
  exact ⟨rfl, rfl⟩
theorem none_zero (wb : Nat) (w : World) (hc : w.cell? ⟨wb, 0, none⟩ = some (.bool false)) :
    Calls Tryd.prog 59 #[.pointer (some ⟨wb, 0, none⟩)] w fun e w' => e = .returned (.bool true) ∧ w = w' := by
  go_enter Tryd.func59, Tryd.ntmps59
  go_wp2
  go_ret
  exact ⟨rfl, rfl⟩
theorem none_nil (w : World) :
    Calls Tryd.prog 59 #[.pointer none] w fun e w' => e = .returned (.bool true) ∧ w = w' := by
  go_enter Tryd.func59, Tryd.ntmps59
  go_wp2
  go_ret
  exact ⟨rfl, rfl⟩

/-! ### Fail -/
theorem fail_any (wb : Nat) (v : Value) (room : Nat) (l : List UInt8) (bad e0 : Int) (w : World) (h : WAt w wb v room l bad) :
    Calls Tryd.prog 44 #[.pointer (some ⟨wb, 0, none⟩), .int .i64 e0] w fun e w' => e = .returned (.tuple #[]) ∧ WAt w' wb v room l (if bad = 0 then e0 else bad) ∧ Turns (foot wb v) w w' := by
  obtain ⟨c0, c1, c2, c3, f2, f3⟩ := h.cells
  have HW := Lib.hid h
  by_cases hb : bad = 0
  · subst hb
    go_enter Tryd.func44, Tryd.ntmps44
    go_wp2_with (go_at_call 59; refine (none_made _ _ c0).mono ?_; rintro e w' ⟨rfl, rfl⟩)
    go_end0
    refine ⟨rfl, ?_, (Turns.refl _ _).setCell (fun _ => .inl rfl) _⟩
    try rw [if_pos rfl]
    exact ⟨by rw [heap_setCell_same _ _ _ _ _ _ HW.out.blk]; rfl, own_touch HW.out.own ((Turns.refl (fun k => k = wb) _).setCell (fun _ => rfl) _) (fun k hk e => HW.out.sep (by rw [hk, e])), HW.out.sep, HW.out.fits, HW.out.roomy⟩
  · have hb' : (bad == 0) = false := by simp [hb]
    go_enter Tryd.func44, Tryd.ntmps44
    go_wp2_with (go_at_call 59; refine (none_made _ _ c0).mono ?_; rintro e w' ⟨rfl, rfl⟩)
    go_end0
    try rw [if_neg hb]
    exact ⟨rfl, HW.out, Turns.refl _ _⟩

/-! ### put -/
/-- what is held behind 'put': bytes, fault -/
def putS (room : Nat) (l : List UInt8) (bad : Int) (fits : Bool) (ps : List (List UInt8)) : List UInt8 × Int :=
  if bad = 0 then (if fits then (if total ps ≤ room - l.length then (l ++ ps.flatten, 0) else (l, 3)) else (l, 1)) else (l, bad)

/-- what a call leaves of a writer -/
def Left (wb : Nat) (v : Value) (room : Nat) (r : List UInt8 × Int) (w w' : World) : Prop :=
  ∃ v', WAt w' wb v' room r.1 r.2 ∧ Turns (foot wb v) w w' ∧ NextV w v v'

set_option maxRecDepth 100000 in
set_option maxHeartbeats 400000 in
theorem put_sum (p : Option Addr) (n c : Nat) (ls : List (List UInt8)) (wb : Nat) (v : Value) (room : Nat) (l : List UInt8) (fits : Bool) (w : World) (h : WAt w wb v room l 0)
    (hP : ∀ w', Turns (foot wb v) w w' → Pts w' p n c ls) (hs : total ls ≤ 70368744177664) (hl : l.length ≤ 70368744177664) :
    Calls Tryd.prog 52 #[.pointer (some ⟨wb, 0, none⟩), .bool fits, .slice p n c] w fun e w' => e = .returned (.tuple #[]) ∧ Left wb v room (putS room l 0 fits ls) w w' := by
  obtain ⟨pv, cv, hv, hsv⟩ := own_sl h.own
  subst hv
  have hvle := hsv.le
  have hvmax := hsv.max
  clear hsv
  obtain ⟨c0, c1, c2, c3, f2, f3⟩ := h.cells
  have hroom := h.roomy
  have hfit := h.fits
  have HW := Lib.hid h
  have hp := hP w (Turns.refl _ _)
  have hle := hp.le
  have hmax := hp.max
  have hn := hp.len
  have HP := Lib.hid hp
  have HPP := Lib.hid hP
  clear h hp hP
  go_enter Tryd.func52, Tryd.ntmps52
  go_wp2_with (go_at_call 59; refine (none_made _ _ c0).mono ?_; rintro e w' ⟨rfl, rfl⟩)
  go_loop [6, 23] (fun x j => ∃ k : Nat, k ≤ n ∧ j = .int .i64 k ∧ x = .int .i64 ((total (ls.take k) : Nat) : Int)) (fun _ j => n - (intOf j).toNat)
  case atStart => exact ⟨0, by omega, rfl, rfl⟩
  case round =>
    obtain ⟨k, hk, rfl, rfl⟩ := hrel
    have htl := total_le ls k
    by_cases hlt : k < n
    · obtain ⟨b, o, rfl⟩ := HP.out.addr (by omega)
      obtain ⟨q, m, d, hc, hB⟩ := HP.out.cell _ rfl k (by omega)
      rw [add_none] at hc
      have htk := total_take ls k (by omega)
      have htl' := total_le ls (k + 1)
      rw [hB.length] at htk
      have HTK := Lib.hid htk
      have hsum : total (ls.take k) + m ≤ 4611686018427387904 := by omega
      clear htk htl' hB
      generalize hT : total (ls.take k) = T at *
      have HT := Lib.hid hT
      clear hT
      go_wp2
      go_round
      case rel => exact ⟨k + 1, by omega, by go_num, by rw [HTK.out]; go_num⟩
      case measure => simp [intOf]; omega
    · have hk' : k = ls.length := by omega
      rw [hk', List.take_length]
      generalize hT : total ls = T at *
      have HT := Lib.hid hT
      clear hT htl
      cases fits with
      | false =>
        go_wp2_with fail
        refine (fail_any wb _ room l 0 1 _ HW.out).mono ?_
        rintro e w1 ⟨rfl, hw1, ht1⟩
        have HW1 := Lib.hid hw1
        have HT1 := Lib.hid ht1
        clear hw1 ht1
        go_wp2_with fail
        refine bodyPost_ret (results_none rfl _ _ _) rfl ?_
        exact ⟨rfl, _, HW1.out, HT1.out, fun _ hk _ => hk⟩
      | true =>
        by_cases hT2 : T ≤ room - l.length
        · have hcmp : decide ((room : Int) - (l.length : Int) < (T : Int)) = false := by simp; omega
          have hput : Hid (putS room l 0 true ls = (l ++ ls.flatten, 0)) := by show _ = _; simp [putS, HT.out, hT2]
          have htot : l.length + T ≤ 140737488355328 ∧ l.length + T ≤ room := by omega
          go_wp2_with fail
          go_quiet (fail)
          go_wp2_with fail
          have HW2 : Hid (WAt (w.drewN nq) wb (.slice pv l.length cv) room l 0) := ⟨HW.out.blk, HW.out.own, HW.out.sep, HW.out.fits, HW.out.roomy⟩
          have HT2 : Hid (Turns (foot wb (.slice pv l.length cv)) w (w.drewN nq)) := ⟨rfl, rfl, rfl, Nat.le_refl _, fun _ _ _ => rfl⟩
          clear c0 c1 c2 c3 f2 f3
          generalize w.drewN nq = w2 at *
          go_loopw [53] (fun j wr => ∃ (k : Nat) (p1 : Option Addr) (n1 c1 : Nat), k ≤ n ∧ j = .int .i64 k ∧ WAt wr wb (.slice p1 n1 c1) room (l ++ (ls.take k).flatten) 0 ∧ Turns (foot wb (.slice pv l.length cv)) w wr ∧ NextV w (.slice pv l.length cv) (.slice p1 n1 c1)) (fun j _ => n - (intOf j).toNat)
          case atStart => exact ⟨0, pv, l.length, cv, by omega, rfl, by simpa using HW2.out, HT2.out, fun _ hk _ => hk⟩
          case round =>
            obtain ⟨k, p1, n1, c1, hk, rfl, hw1, ht1, hnx1⟩ := hrel
            by_cases hlt : k < n
            · obtain ⟨e0, e1, e2, e3, g2, g3⟩ := hw1.cells
              obtain ⟨b, o, rfl⟩ := HP.out.addr (by omega)
              obtain ⟨q, m, d, hc, hB⟩ := (HPP.out wr ht1).cell _ rfl k (by omega)
              rw [add_none] at hc
              have hlen : (l ++ (ls.take k).flatten).length = l.length + total (ls.take k) := by rw [List.length_append, total_flatten]
              have htk := total_take ls k (by omega)
              have htl' := total_le ls (k + 1)
              rw [hB.length] at htk
              rw [HT.out] at htl'
              have hfl : Hid (l ++ (ls.take (k+1)).flatten = (l ++ (ls.take k).flatten) ++ ls[k]) := by
                show _ = _
                rw [take_snoc ls k (by omega), List.flatten_append]; simp
              have hbd : Hid ((l ++ (ls.take k).flatten).length + m ≤ 9223372036854775807 ∧ ((l ++ (ls.take k).flatten).length + m) * 1 ≤ 140737488355328) := by
                show _ ∧ _
                rw [hlen]; omega
              have hfit' : Hid ((l ++ (ls.take (k+1)).flatten).length ≤ room) := by
                show _ ≤ _
                rw [List.length_append, total_flatten]; omega
              have HBm := Lib.hid hB.length
              have HS := Lib.hid hB
              have hleq : (l ++ (ls.take k).flatten).length + m = (l ++ (ls.take (k+1)).flatten).length := by rw [hfl.out, ← hB.length]; exact List.length_append.symm
              clear hlen htk htl' hB
              generalize l ++ (ls.take k).flatten = L at *
              generalize hL' : l ++ (ls.take (k+1)).flatten = L' at *
              have HL' := Lib.hid hL'
              have HLQ := Lib.hid hleq
              have HW1 := Lib.hid hw1
              have HT1 := Lib.hid ht1
              have HN1 := Lib.hid hnx1
              clear hw1 ht1 hnx1 hL' hleq
              go_wp2_with (at_builtin; refine wpList_append_nx rfl _ _ 29 rfl (base := 0) Tryd.underlying29 infoB rfl (by omega) rfl HW1.out.own rfl HS.out (bytesV_one _) hbd.out (Nat.zero_le _) ?_)
              intro p' c' w3 hown hg hnx hne
              have e2' : w3.cell? ⟨wb, 2, none⟩ = some (.slice p1 n1 c1) := hg.cell e2 (fun e => HW1.out.sep e.symm)
              have g2' : w3.frozen? ⟨wb, 2, none⟩ = false := by
                rw [World.frozen?_of_block (hg.block wb (Array.getElem?_eq_some_iff.1 HW1.out.blk).1 (fun e => HW1.out.sep e.symm))]; exact g2
              have HO := Lib.hid hown
              have HG := Lib.hid hg
              have HNX := Lib.hid hnx
              clear hown hg hnx hne
              go_wp2_with fail
              go_roundw
              case rel =>
                have hlt1 : wb < wr.heap.size := (Array.getElem?_eq_some_iff.1 HW1.out.blk).1
                have hb3 : w3.heap[wb]? = some (.cells #[.bool true, .int .i64 (room : Int), .slice p1 n1 c1, .int .i64 0] 78 (0, 0)) := by
                  rw [HG.out.block wb hlt1 (fun e => HW1.out.sep e.symm)]; exact HW1.out.blk
                have hsep : ¬ (Value.slice p' (L.length + m) c').ownBlock = some wb := by
                  intro e
                  rcases HNX.out wb e with h | h
                  · exact HW1.out.sep h
                  · omega
                refine ⟨k + 1, p', L.length + m, c', by omega, by go_num, ?_, ?_, ?_⟩
                rw [HL'.out]
                refine ⟨?_, ?_, hsep, hfit'.out, hroom⟩
                · rw [heap_setCell_same _ _ _ _ _ _ hb3]; rfl
                · have := own_touch HO.out ((Turns.refl (fun k => k = wb) _).setCell (p := ⟨wb, 2, none⟩) (fun _ => rfl) (.slice p' (L.length + m) c')) (fun k hk e => hsep (by rw [hk, e]))
                  rw [hfl.out, bytesV_append, ← hfl.out, ← HLQ.out]
                  exact this
                · refine HT1.out.trans ((Turns.grown (S := foot wb (.slice p1 n1 c1)) HG.out (fun k hk => .inr hk)).setCell (fun _ => .inl rfl) _) ?_
                  intro i hi hfi
                  rcases hfi with rfl | hfi
                  · exact .inl rfl
                  · exact .inr (HN1.out i hfi hi)
                · intro j hj hjl
                  rcases HNX.out j hj with h | h
                  · exact HN1.out j h hjl
                  · have := HT1.out.size; omega
              case measure => simp [intOf]; omega
            · have hk' : k = ls.length := by omega
              rw [hk', List.take_length] at hw1
              have HW1 := Lib.hid hw1
              have HT1 := Lib.hid ht1
              have HN1 := Lib.hid hnx1
              clear hw1 ht1 hnx1
              go_wp2_with fail
              go_end0
              exact ⟨rfl, _, by rw [hput.out]; exact HW1.out, HT1.out, HN1.out⟩
        · have hcmp : decide ((room : Int) - (l.length : Int) < (T : Int)) = true := by simp; omega
          have hput : Hid (putS room l 0 true ls = (l, 3)) := by show _ = _; simp [putS, HT.out, hT2]
          go_wp2_with fail
          go_quiet (fail)
          go_wp2_with fail
          have HW2 : Hid (WAt (w.drewN nq) wb (.slice pv l.length cv) room l 0) := ⟨HW.out.blk, HW.out.own, HW.out.sep, HW.out.fits, HW.out.roomy⟩
          have HT2 : Hid (Turns (foot wb (.slice pv l.length cv)) w (w.drewN nq)) := ⟨rfl, rfl, rfl, Nat.le_refl _, fun _ _ _ => rfl⟩
          refine (fail_any wb _ room l 0 3 _ HW2.out).mono ?_
          rintro e w1 ⟨rfl, hw1, ht1⟩
          have HW1 := Lib.hid hw1
          have HT1 : Hid (Turns (foot wb (.slice pv l.length cv)) w w1) := HT2.out.trans ht1 (fun _ _ h => h)
          clear hw1 ht1
          go_wp2_with fail
          refine bodyPost_ret (results_none rfl _ _ _) rfl ?_
          exact ⟨rfl, _, by rw [hput.out]; exact HW1.out, HT1.out, fun _ hk _ => hk⟩

end Go.Proofs.YtdaigkcbmdcbcaaDoor.Wr

namespace Go.Proofs.YtdaigkcbmdcbcaaDoor.Wr
open Go.RowKit Go.Mir Go.Mir.Parts

theorem Left.refl {w : World} {wb : Nat} {v : Value} {room : Nat} {l : List UInt8} {bad : Int} (h : WAt w wb v room l bad) : Left wb v room (l, bad) w w := ⟨v, h, Turns.refl _ _, fun _ hk _ => hk⟩

theorem put_any (p : Option Addr) (n c : Nat) (ls : List (List UInt8)) (wb : Nat) (v : Value) (room : Nat) (l : List UInt8) (bad : Int) (fits : Bool) (w : World) (h : WAt w wb v room l bad)
    (hP : ∀ w', Turns (foot wb v) w w' → Pts w' p n c ls) (hs : total ls ≤ 70368744177664) (hl : l.length ≤ 70368744177664) :
    Calls Tryd.prog 52 #[.pointer (some ⟨wb, 0, none⟩), .bool fits, .slice p n c] w fun e w' => e = .returned (.tuple #[]) ∧ Left wb v room (putS room l bad fits ls) w w' := by
  by_cases hb : bad = 0
  · subst hb
    exact put_sum p n c ls wb v room l fits w h hP hs hl
  · obtain ⟨c0, c1, c2, c3, f2, f3⟩ := h.cells
    have hb' : (bad != 0) = true := by simp [hb]
    have HL : Hid (Left wb v room (putS room l bad fits ls) w w) := by
      show Left _ _ _ _ _ _
      rw [putS, if_neg hb]; exact Left.refl h
    clear h hP
    go_enter Tryd.func52, Tryd.ntmps52
    go_wp2_with (go_at_call 59; refine (none_made _ _ c0).mono ?_; rintro e w' ⟨rfl, rfl⟩)
    refine bodyPost_ret (results_none rfl _ _ _) rfl ?_
    exact ⟨rfl, HL.out⟩

/-- what a part's slices in a new row are, while the writer's own blocks turn -/
theorem stable1 {w : World} {S : Nat → Prop} {p : Option Addr} {n c b : Nat} {l : List UInt8} (hB : ∀ w', Turns S w w' → Bs w' p n c l) (hS : ∀ k, S k → k < w.heap.size) (t : TypeId) (hb : b = w.heap.size) :
    ∀ w', Turns S (w.alloc (.cells #[.slice p n c] t)) w' → Pts w' (some ⟨b, 0, none⟩) 1 1 [l] := by
  intro w' ht
  subst hb
  have hT : Turns S w w' := ((Turns.refl S w).alloc _).trans ht (fun _ _ h => h)
  have hrow : w'.heap[w.heap.size]? = some (.cells #[.slice p n c] t) := ht.keep (heap_alloc_last _ _) (fun h => by have := hS _ h; omega)
  refine ⟨rfl, Nat.le_refl _, by omega, fun h => (by cases h), fun a ha j hj => ?_⟩
  obtain rfl := Option.some.inj ha
  obtain rfl : j = 0 := by simp at hj; omega
  exact ⟨p, n, c, by rw [add_none, cell_of_row _ _ _ _ _ _ hrow]; rfl, hB w' hT⟩

theorem Left.alloc {w : World} {wb : Nat} {v : Value} {room : Nat} {r : List UInt8 × Int} {o : Obj} {w' : World} (h : Left wb v room r (w.alloc o) w') : Left wb v room r w w' := by
  obtain ⟨v', h1, h2, h3⟩ := h
  exact ⟨v', h1, ((Turns.refl _ w).alloc o).trans h2 (fun _ _ h => h), fun k hk hlt => h3 k hk (by simp; omega)⟩
theorem WAt.alloc {w : World} {wb : Nat} {v : Value} {room : Nat} {l : List UInt8} {bad : Int} (h : WAt w wb v room l bad) (o : Obj) : WAt (w.alloc o) wb v room l bad :=
  h.touch (S := fun _ => False) ((Turns.refl _ w).alloc o) (fun _ _ h => h)

theorem bytes_any (p : Option Addr) (n c : Nat) (b : List UInt8) (wb : Nat) (v : Value) (room : Nat) (l : List UInt8) (bad : Int) (w : World) (h : WAt w wb v room l bad)
    (hB : ∀ w', Turns (foot wb v) w w' → Bs w' p n c b) (hs : b.length ≤ 70368744177664) (hl : l.length ≤ 70368744177664) :
    Calls Tryd.prog 43 #[.pointer (some ⟨wb, 0, none⟩), .slice p n c] w fun e w' => e = .returned (.tuple #[]) ∧ Left wb v room (putS room l bad true [b]) w w' := by
  have hle := (hB w (Turns.refl _ _)).le
  have hmax := (hB w (Turns.refl _ _)).max
  have HS := Lib.hid (fun t b hb => stable1 hB h.lt t hb (b := b))
  have HW := Lib.hid h
  clear hB h
  go_enter Tryd.func43, Tryd.ntmps43
  go_wp2_with (go_at_call 52; refine (put_any _ _ _ [b] wb v room l bad true _ (HW.out.alloc _) (HS.out _ _ rfl) (by simpa [total] using hs) hl).mono ?_; rintro e w1 ⟨rfl, hl1⟩)
  go_end0
  exact ⟨rfl, hl1.alloc⟩

theorem id_any (M : Array Value) (b : List UInt8) (hM : M.toList = bytesV b) (hb32 : b.length = 32) (wb : Nat) (v : Value) (room : Nat) (l : List UInt8) (bad : Int) (w : World) (h : WAt w wb v room l bad) (hl : l.length ≤ 70368744177664) :
    Calls Tryd.prog 30 #[.pointer (some ⟨wb, 0, none⟩), .agg M] w fun e w' => e = .returned (.tuple #[]) ∧ Left wb v room (putS room l bad true [b]) w w' := by
  have HS : Hid (∀ b' t, b' = (w.alloc (.cells M 23)).heap.size → ∀ w', Turns (foot wb v) ((w.alloc (.cells M 23)).alloc (.cells #[.slice (some ⟨w.heap.size, 0, none⟩) 32 32] t)) w' → Pts w' (some ⟨b', 0, none⟩) 1 1 [b]) := by
    intro b' t hb'
    refine stable1 (S := foot wb v) (fun w' ht => ?_) (fun k hk => by have := h.lt k hk; simp; omega) t hb'
    have hrow : w'.heap[w.heap.size]? = some (.cells M 23) := ht.keep (heap_alloc_last _ _) (fun hk => by have := h.lt _ hk; omega)
    exact ⟨by rw [bytesV_length, hb32], Nat.le_refl _, by omega, fun h => (by cases h), fun a ha j u hu => by
      obtain rfl := Option.some.inj ha
      rw [add_none, cell_of_row _ _ _ _ _ _ hrow, ← Array.getElem?_toList, hM, Nat.zero_add]; exact hu⟩
  have HW := Lib.hid h
  have htot : total [b] ≤ 70368744177664 := by simp [total, hb32]
  clear h hM
  go_enter Tryd.func30, Tryd.ntmps30
  go_wp2_with (go_at_call 52; refine (put_any _ _ _ [b] wb v room l bad true _ ((HW.out.alloc _).alloc _) (HS.out _ _ (by simp)) htot hl).mono ?_; rintro e w1 ⟨rfl, hl1⟩)
  go_end0
  exact ⟨rfl, hl1.alloc.alloc⟩

theorem hint_any (M : Array Value) (b : List UInt8) (hM : M.toList = bytesV b) (hb32 : b.length = 16) (wb : Nat) (v : Value) (room : Nat) (l : List UInt8) (bad : Int) (w : World) (h : WAt w wb v room l bad) (hl : l.length ≤ 70368744177664) :
    Calls Tryd.prog 42 #[.pointer (some ⟨wb, 0, none⟩), .agg M] w fun e w' => e = .returned (.tuple #[]) ∧ Left wb v room (putS room l bad true [b]) w w' := by
  have HS : Hid (∀ b' t, b' = (w.alloc (.cells M 40)).heap.size → ∀ w', Turns (foot wb v) ((w.alloc (.cells M 40)).alloc (.cells #[.slice (some ⟨w.heap.size, 0, none⟩) 16 16] t)) w' → Pts w' (some ⟨b', 0, none⟩) 1 1 [b]) := by
    intro b' t hb'
    refine stable1 (S := foot wb v) (fun w' ht => ?_) (fun k hk => by have := h.lt k hk; simp; omega) t hb'
    have hrow : w'.heap[w.heap.size]? = some (.cells M 40) := ht.keep (heap_alloc_last _ _) (fun hk => by have := h.lt _ hk; omega)
    exact ⟨by rw [bytesV_length, hb32], Nat.le_refl _, by omega, fun h => (by cases h), fun a ha j u hu => by
      obtain rfl := Option.some.inj ha
      rw [add_none, cell_of_row _ _ _ _ _ _ hrow, ← Array.getElem?_toList, hM, Nat.zero_add]; exact hu⟩
  have HW := Lib.hid h
  have htot : total [b] ≤ 70368744177664 := by simp [total, hb32]
  clear h hM
  go_enter Tryd.func42, Tryd.ntmps42
  go_wp2_with (go_at_call 52; refine (put_any _ _ _ [b] wb v room l bad true _ ((HW.out.alloc _).alloc _) (HS.out _ _ (by simp)) htot hl).mono ?_; rintro e w1 ⟨rfl, hl1⟩)
  go_end0
  exact ⟨rfl, hl1.alloc.alloc⟩


theorem err_any (wb : Nat) (v : Value) (room : Nat) (l : List UInt8) (bad : Int) (w : World) (h : WAt w wb v room l bad) :
    Calls Tryd.prog 53 #[.pointer (some ⟨wb, 0, none⟩)] w fun e w' => e = .returned (.int .i64 bad) ∧ w = w' := by
  obtain ⟨c0, c1, c2, c3, f2, f3⟩ := h.cells
  clear h
  go_enter Tryd.func53, Tryd.ntmps53
  go_wp2_with (go_at_call 59; refine (none_made _ _ c0).mono ?_; rintro e w' ⟨rfl, rfl⟩)
  go_ret
  exact ⟨rfl, rfl⟩

theorem done_any (wb : Nat) (v : Value) (room : Nat) (l : List UInt8) (bad : Int) (w : World) (h : WAt w wb v room l bad) (hl : l.length ≤ 140737488355328) :
    Calls Tryd.prog 33 #[.pointer (some ⟨wb, 0, none⟩)] w fun e w' =>
      (∃ p n c, e = .returned (.tuple #[.slice p n c, .int .i64 bad]) ∧ w'.ownsRow w.heap.size 5 1 (.slice p n c) n (bytesV (if bad = 0 then l else []))) ∧ Below w.heap.size w w' := by
  obtain ⟨pv, cv, hv, hsv⟩ := own_sl h.own
  subst hv
  obtain ⟨c0, c1, c2, c3, f2, f3⟩ := h.cells
  have HW := Lib.hid h
  have HV := Lib.hid hsv
  clear h hsv
  by_cases hb : bad = 0
  · subst hb
    have hbd : Hid (0 + l.length ≤ 9223372036854775807 ∧ (0 + l.length) * 1 ≤ 140737488355328) := by
      show _ ∧ _; omega
    go_enter Tryd.func33, Tryd.ntmps33
    go_wp2_with (first | (go_at_call 53; refine (err_any _ _ _ _ _ _ HW.out).mono ?_; rintro e w' ⟨rfl, rfl⟩) | (at_builtin; refine wpList_append_nx rfl _ _ 29 rfl (base := w.heap.size) Tryd.underlying29 infoB rfl (by omega) rfl (World.ownsRow_nil _ _ _ _) rfl HV.out (bytesV_one _) hbd.out (Nat.le_refl _) ?_))
    intro p' c' w1 hown hg hnx hne
    have HO : Hid (w1.ownsRow w.heap.size 5 1 (.slice p' (0 + l.length) c') (0 + l.length) (bytesV (if (0 : Int) = 0 then l else []))) := by
      show World.ownsRow _ _ _ _ _ _ _
      simpa using hown
    have HG : Hid (Below w.heap.size w w1) := (Below.refl _ _).grown hg (Nat.le_refl _) (fun k hk => by simp [Value.ownBlock] at hk)
    clear hown hg hnx hne
    go_wp2
    go_ret2
    refine ⟨⟨p', _, c', rfl, ?_⟩, HG.out⟩
    have := HO.out
    rw [Nat.zero_add] at this
    exact this
  · have hb' : (bad != 0) = true := by simp [hb]
    go_enter Tryd.func33, Tryd.ntmps33
    go_wp2_with (go_at_call 53; refine (err_any _ _ _ _ _ _ HW.out).mono ?_; rintro e w' ⟨rfl, rfl⟩)
    go_ret2
    have ho : w.ownsRow w.heap.size 5 1 (.slice none 0 0) 0 (bytesV (if bad = 0 then l else [])) := by rw [if_neg hb]; exact World.ownsRow_nil _ _ _ _
    exact ⟨⟨none, 0, 0, rfl, by simpa [hb] using ho⟩, Below.refl _ _⟩

theorem new_any (room : Int) (w : World) (hr : room ≤ 9223372036854775807) :
    Calls Tryd.prog 29 #[.int .i64 room] w fun e w' => e = .returned (.pointer (some ⟨w.heap.size, 0, none⟩)) ∧ WAt w' w.heap.size (.slice none 0 0) room.toNat [] 0 ∧ Below w.heap.size w w' := by
  have key : Hid (∀ x : Int, x = (room.toNat : Int) → WAt (w.alloc (.cells #[.bool true, .int .i64 x, .slice none 0 0, .int .i64 0] 78)) w.heap.size (.slice none 0 0) room.toNat [] 0) := by
    intro x hx
    subst hx
    exact ⟨heap_alloc_last _ _, World.ownsRow_nil _ _ _ _, by simp [Value.ownBlock], by simp, by omega⟩
  go_enter Tryd.func29, Tryd.ntmps29
  go_wp2
  all_goals
    go_ret
    exact ⟨rfl, key.out _ (by omega), Below.allocs _ _⟩

end Go.Proofs.YtdaigkcbmdcbcaaDoor.Wr
