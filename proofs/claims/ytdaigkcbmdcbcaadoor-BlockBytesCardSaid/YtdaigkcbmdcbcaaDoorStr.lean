/- STRINGS AS LISTS OF BYTES; ARRAYS OF BYTES COMPARED. No program is named. Conditions: none. -/
import Derived.Test.YtdaigkcbmdcbcaaDoorLib
import Derived.Test.YtdaigkcbmdcbcaaDoorConv
import Derived.ChangeKeysEq
import Derived.Laws.CopyOwn
import Derived.Laws.Rows
import Derived.Laws.ResultCell
import Derived.Laws.Tables
namespace Go.Mir
open Go.RowKit

/-- a list of bytes as a string -/
def S (l : List UInt8) : ByteArray := ⟨l.toArray⟩
theorem S_of (s : ByteArray) : s = S s.data.toList := by cases s; simp [S]
theorem S_data (l : List UInt8) : (S l).data.toList = l := by simp [S]
theorem S_inj {a b : List UInt8} (h : S a = S b) : a = b := by rw [← S_data a, h, S_data]
@[go_sem] theorem S_toList (l : List UInt8) : (S l).toList = l := ByteArray.toList_mk l
@[go_sem] theorem S_size (l : List UInt8) : (S l).size = l.length := by simp [S, ByteArray.size]
@[go_sem] theorem S_append (a b : List UInt8) : S a ++ S b = S (a ++ b) := ByteArray.mk_append_mk a b
@[go_sem] theorem S_get (l : List UInt8) (i : Nat) (h : i < (S l).size) : (S l)[i]'h = l[i]'(by simpa [S_size] using h) := rfl
theorem strOf_S (l : List UInt8) : strOf l = S l := by
  unfold strOf strOfNums S
  rw [List.map_map]
  congr 2
  have : (fun n : Int => UInt8.ofNat n.toNat) ∘ (fun b : UInt8 => (b.toNat : Int)) = id := by funext b; simp
  rw [this, List.map_id]
/-- bytes as a string -/
theorem run_conv {P : Program} {w : World} {p : Option Addr} {n c : Nat} {l : List UInt8} (src dst e : TypeId) (hs : P.underlying src = some (.slice e)) (he : P.underlying e = some (.int .u8)) (hd : P.underlying dst = some .string) (h : Bs w p n c l) :
    (convert src dst (.slice p n c)).run P w = .ok (.string (S l)) w := by rw [← strOf_S]; exact run_convert_bs src dst e hs he hd h

/-! ### arrays of bytes -/
theorem run_items {P : Program} {w : World} (d : Nat) {e : TypeId} (he : P.underlying e = some (.int .u8)) (hc : P.cellsOf e = 1) (hp : P.plainKey e = true) (a b : List UInt8) : ∀ is : List Nat, (∀ i ∈ is, i < a.length ∧ i < b.length) →
    (Op.eqItems (d + 1) e (P.cellsOf e) (bytesV a).toArray (bytesV b).toArray is).run P w = .ok (is.all fun i => a[i]? == b[i]?) w
  | [], _ => by simp [Op.eqItems]
  | i :: is, h => by
    have hi := h i (by simp)
    have ih := run_items (w := w) d he hc hp a b is (fun j hj => h j (by simp [hj]))
    have ga : (bytesV a).toArray[i * P.cellsOf e]? = some (.int .u8 (a[i].toNat : Int)) := by rw [hc, Nat.mul_one, List.getElem?_toArray, bytesV_get a i hi.1]
    have gb : (bytesV b).toArray[i * P.cellsOf e]? = some (.int .u8 (b[i].toNat : Int)) := by rw [hc, Nat.mul_one, List.getElem?_toArray, bytesV_get b i hi.2]
    have hbq : (((a[i].toNat : Int)) == (b[i].toNat : Int)) = (a[i]? == b[i]?) := by
      rw [List.getElem?_eq_getElem hi.1, List.getElem?_eq_getElem hi.2, Bool.eq_iff_iff]
      simp only [beq_iff_eq, Option.some.injEq]
      exact ⟨fun h => UInt8.toNat_inj.1 (by omega), fun h => by rw [h]⟩
    simp only [Op.eqItems, Sem.run_bind, run_part_plain w hp ga, run_part_plain w hp gb, Result.andThen_ok, run_equalIn_int w d e .u8 .u8 _ _ he, hbq, List.all_cons]
    cases a[i]? == b[i]?
    · simp
    · simpa using ih
theorem all_range (a b : List UInt8) (h : a.length = b.length) : ((List.range a.length).all fun i => a[i]? == b[i]?) = (a == b) := by
  rw [Bool.eq_iff_iff, List.all_eq_true, beq_iff_eq]
  constructor
  · intro hx
    apply List.ext_getElem?
    intro i
    by_cases hi : i < a.length
    · exact beq_iff_eq.1 (hx i (List.mem_range.2 hi))
    · rw [List.getElem?_eq_none (by omega), List.getElem?_eq_none (by omega)]
  · rintro rfl i _; simp
theorem run_equal_bytes {P : Program} (w : World) (d : Nat) {t e : TypeId} {n : Nat} (hu : P.underlying t = some (.array n e)) (he : P.underlying e = some (.int .u8)) (hi : ∃ i, P.info? e = some i) (hc : P.cellsOf e = 1) (hp : P.plainKey e = true) (a b : List UInt8) (ha : a.length = n) (hb : b.length = n) :
    (Op.equalIn (d + 2) t (.agg (bytesV a).toArray) (.agg (bytesV b).toArray)).run P w = .ok (a == b) w := by
  obtain ⟨i, hi⟩ := hi
  rw [run_equalIn_array w (d + 1) _ _ hu hi, run_items d he hc hp a b _ (fun i hi => by have := List.mem_range.1 hi; omega), ← ha, all_range a b (by omega)]
/-- an operation under a guard that lets it by -/
theorem wpList_unguard {P : Program} {w : World} {ops : Array Oper} {rest : List Oper} {o : Oper} {a : Act} {Q : Exit → Act → World → Prop} (hw : Region.wanted o (yielded ops a.tmps) = true)
    (h : wpList P ops Q ({ o with guard := none } :: rest) a w) : wpList P ops Q (o :: rest) a w := by
  unfold wpList at h ⊢
  rw [if_pos hw]
  rw [if_pos (by simp [Region.wanted])] at h
  exact h
/-- a copy under a guard that lets it by -/
theorem wpList_copy_g {P : Program} {w : World} {ops : Array Oper} {rest : List Oper} {o : Oper} {a : Act} {Q : Exit → Act → World → Prop} (hw : Region.wanted o (yielded ops a.tmps) = true) (d s : Operand) (dT sT : TypeId)
    (ho : o.op = .call { callee := .builtin .copy, args := #[d, s], argTypes := #[dT, sT] }) (elem : TypeId) (hu : P.underlying dT = some (.slice elem)) (hsz : (P.info? elem).map (·.size) = some 1)
    (dp sp : Option Addr) (dLen dCap sLen sCap : Nat) (hd : a.eval d = .slice dp dLen dCap) (hs : a.eval s = .slice sp sLen sCap)
    (g off : Nat) (cur : List Value) (t : TypeId) (hg : w.heap[g]? = some (.cells cur.toArray t (0, 0))) (cs : List Value) (hn : cs.length = Nat.min sLen dLen)
    (hpos : 0 < cs.length → dp = some ⟨g, off, none⟩ ∧ ∃ ad, sp = some ad ∧ ∀ j v, cs[j]? = some v → w.cell? (ad.add j) = some v)
    (hfit : off + cs.length ≤ cur.length) (h1 : ∀ v ∈ cs, v.oneCell' = true) (B : Nat) (w0 : World) (hb : Below B w0 w) (hBg : B ≤ g)
    (h : ∀ w', Hid (w'.heap[g]? = some (.cells (splice cur off cs).toArray t (0, 0))) → Below B w0 w' → wpList P ops Q rest (a.put o.dst (goInt cs.length)) w') :
    wpList P ops Q (o :: rest) a w :=
  wpList_unguard hw (wpList_copy_splice rfl d s dT sT ho elem hu hsz dp sp dLen dCap sLen sCap hd hs g off cur t hg cs hn hpos hfit h1 B w0 hb hBg h)
/-- a whole row loaded under a guard that lets it by -/
theorem wpList_load_row_g {P : Program} {ops : Array Oper} {rest : List Oper} {o : Oper} {a : Act} {w : World} {Q : Exit → Act → World → Prop} (hw : Region.wanted o (yielded ops a.tmps) = true) (ty : TypeId) (x : Operand) (ho : o.op = .load ty x)
    (g : Nat) (hx : a.eval x = .pointer (some ⟨g, 0, none⟩)) (t : TypeId) (cs : Array Value) (fr : Nat × Nat) (d : TypeDesc) (hg : w.heap[g]? = some (.cells cs t fr))
    (hu : P.underlying ty = some d) (hd : (match d with | .struct _ | .array _ _ => true | _ => false) = true) (hi : (P.info? ty).map (·.size) = some cs.size)
    (h : wpList P ops Q rest (a.put o.dst (.agg cs)) w) : wpList P ops Q (o :: rest) a w :=
  wpList_unguard hw (wpList_load_row rfl ty x ho g hx t cs fr d hg hu hd hi h)
/-- two results, the first a row in memory -/
theorem results_row_tmp {P : Program} {fn : Func} {p u : Tmp} {ty : TypeId} (h : fn.results = #[.cell p ty, .tmp u]) (tmps : Array Value) (w : World) (g : Nat) (t : TypeId) (cs : Array Value) (fr : Nat × Nat) (d : TypeDesc)
    (hp : tmps.getD p undef = .pointer (some ⟨g, 0, none⟩)) (hg : w.heap[g]? = some (.cells cs t fr))
    (hu : P.underlying ty = some d) (hd : (match d with | .struct _ | .array _ _ => true | _ => false) = true) (hi : (P.info? ty).map (·.size) = some cs.size) :
    (results fn tmps).run P w = .ok (.tuple #[.agg cs, tmps.getD u undef]) w := by
  rw [results_cell_tmp h, hp]
  simp [asAddr, run_loadVar_row w g t ty cs fr d hg hu hd hi, Result.andThen]
/-- an array behind an address, up to 'l' -/
theorem run_sliceAt_upto {P : Program} (w : World) (t e : TypeId) (n size : Nat) (ht : P.underlying t = some (.array n e)) (hs : (P.info? e).map (·.size) = some size) (a : Addr) (k : IntKind) (x : Int) (l : Nat) (hx : x = (l : Int)) (hl : l ≤ n) (hn : 0 < n) :
    (Instr.sliceAt t (.pointer (some a)) none (some (.int k x)) none).run P w = .ok (.slice (some a) l n) w := by
  subst hx
  obtain ⟨i, hi, rfl⟩ := Option.map_eq_some_iff.1 hs
  have h1 : ((0 : Int) ≤ (l : Int) ∧ (l : Int) ≤ (n : Int)) := by omega
  have h2 : ¬ n = 0 := by omega
  have h3 : a.add 0 = a := rfl
  simp [Instr.sliceAt, run_underlying ht, Instr.sureAddr, Instr.sliceBounds, Instr.sliceBound, asIntOf, sizeOf, typeInfo, hi, h2, h3, hl]
end Go.Mir
