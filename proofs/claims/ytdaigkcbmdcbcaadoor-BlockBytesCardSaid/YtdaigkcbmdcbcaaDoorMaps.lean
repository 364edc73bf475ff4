/- MAPS FROM AN ID, MADE BY THE CALL: what they hold, as a function; a look-up, a store. No program is named. Conditions: none. -/
import Derived.Test.YtdaigkcbmdcbcaaDoorIdv
import Derived.Maps.OwnSet
import Derived.DeepKeys5
namespace Go.Mir
open Go.RowKit Go.WideMaps Go.Maps Go.ChangeMaps

theorem idA_inj {x y : List UInt8} (h : idA x = idA y) : x = y := by
  have h1 : bytesV x = bytesV y := by rw [← idA_toList x, ← idA_toList y, h]
  refine List.map_inj_right (f := fun b : UInt8 => Value.int .u8 (b.toNat : Int)) ?_ |>.1 h1
  intro a b e
  have : (a.toNat : Int) = (b.toNat : Int) := by injection e
  exact UInt8.toNat_inj.1 (by omega)
/-- the key's laws -/
structure IdKeys (P : Program) (k : TypeId) : Prop where
  law : Keyed P k
  is : ∀ x : List UInt8, x.length = 32 → ∃ l, keyOf P k (.agg (idA x)) = some l
theorem mapM_some {α β : Type} (f : α → Option β) : ∀ (l : List α), (∀ x ∈ l, ∃ y, f x = some y) → ∃ ys, l.mapM f = some ys
  | [], _ => ⟨[], rfl⟩
  | x :: l, h => by
    obtain ⟨y, hy⟩ := h x (by simp)
    obtain ⟨ys, hys⟩ := mapM_some f l (fun z hz => h z (by simp [hz]))
    exact ⟨y :: ys, by simp [List.mapM_cons, hy, hys]⟩
theorem idKeys_of {P : Program} {k e : TypeId} (hk : P.underlying k = some (.array 32 e)) (he : P.underlying e = some (.int .u8)) (hc : P.cellsOf e = 1) (hck : P.cellsOf k = 32) (hkt : P.keyType k = true) (hp : 2 ≤ P.types.size + 1) (law : Keyed P k) : IdKeys P k := by
  refine ⟨law, fun x hx => ?_⟩
  unfold keyOf
  rw [hk]
  have hf : (Value.agg (idA x)).formed P k = true := by simp [Value.formed, hk, hck, idA_size, hx]
  simp only [hkt, hf, Bool.and_self, if_true]
  obtain ⟨d, hd⟩ : ∃ d, P.types.size + 1 = d + 1 + 1 := ⟨P.types.size - 1, by omega⟩
  have : ∃ ls, P.keyLits (P.types.size + 1) k (Value.agg (idA x)).cells.toList = some ls := by
    rw [hd]
    unfold Program.keyLits
    simp only [hk]
    rw [if_pos (by rw [hck, show (Value.agg (idA x)).cells = idA x from rfl, Array.length_toList, idA_size, hx])]
    obtain ⟨ys, hys⟩ := mapM_some (fun i => P.keyLits (d + 1) e (((Value.agg (idA x)).cells.toList.drop (i * P.cellsOf e)).take (P.cellsOf e))) (List.range 32) (fun i hi => by
      have hi' : i < x.length := by rw [hx]; exact List.mem_range.1 hi
      have h1 : ((Value.agg (idA x)).cells.toList.drop (i * P.cellsOf e)).take (P.cellsOf e) = [Value.int .u8 (x[i].toNat : Int)] := by
        rw [hc, Nat.mul_one, show (Value.agg (idA x)).cells = idA x from rfl, idA_toList, List.drop_eq_getElem_cons (by rw [bytesV_length]; exact hi'), List.take_succ_cons, List.take_zero]
        congr 1
        simp [bytesV]
      rw [h1]
      unfold Program.keyLits
      simp only [he]
      have hw : (Lit.int .u8 (x[i].toNat : Int)).wf = true := by
        have := UInt8.toNat_lt x[i]
        simp [Lit.wf, IntKind.min, IntKind.max, IntKind.signed, IntKind.bits]; omega
      exact ⟨[.int .u8 (x[i].toNat : Int)], by simp [hw]⟩)
    exact ⟨ys.flatten, by rw [hys]; rfl⟩
  obtain ⟨ls, hls⟩ := this
  exact ⟨_, by rw [hls]; rfl⟩
theorem modify_get {l : List MapEntry} {g : MapEntry → MapEntry} {j i : Nat} {e : MapEntry} (h : (l.modify j g)[i]? = some e) : ∃ e1, l[i]? = some e1 ∧ e = if j = i then g e1 else e1 := by
  rw [List.getElem?_modify] at h
  cases hl : l[i]? with
  | none => rw [hl] at h; simp at h
  | some e1 =>
    rw [hl] at h
    refine ⟨e1, rfl, ?_⟩
    have : (if j = i then g e1 else e1) = e := by simpa using h
    exact this.symm
/-- a map from ids, as a function -/
structure MapAt (w : World) (b : Nat) (f : List UInt8 → Option Value) (es : Array MapEntry) (clock : Nat) : Prop where
  heap : w.heap[b]? = some (.map es clock)
  reads : ∀ (i : Nat) e, es.toList[i]? = some e → ∃ x : List UInt8, x.length = 32 ∧ e.key = .agg (idA x) ∧ f x = some e.val
  has : ∀ (x : List UInt8) v, x.length = 32 → f x = some v → ∃ (i : Nat) (e : MapEntry), es.toList[i]? = some e ∧ e.key = .agg (idA x)
  one : ∀ (i j : Nat) (e e' : MapEntry), es.toList[i]? = some e → es.toList[j]? = some e' → e.key = e'.key → i = j
def MapIs (w : World) (b : Nat) (f : List UInt8 → Option Value) : Prop := ∃ es clock, MapAt w b f es clock
theorem MapIs.lt {w : World} {b : Nat} {f : List UInt8 → Option Value} (h : MapIs w b f) : b < w.heap.size := by
  obtain ⟨es, c, h⟩ := h
  exact (Array.getElem?_eq_some_iff.1 h.heap).1
theorem MapIs.keep {w w' : World} {b : Nat} {f : List UInt8 → Option Value} (h : MapIs w b f) (hk : w'.heap[b]? = w.heap[b]?) : MapIs w' b f := by
  obtain ⟨es, c, h⟩ := h
  exact ⟨es, c, by rw [hk]; exact h.heap, h.reads, h.has, h.one⟩
theorem MapIs.below {w w' : World} {b : Nat} {f : List UInt8 → Option Value} (h : MapIs w b f) (hb : Below w.heap.size w w') : MapIs w' b f := h.keep (hb.block b h.lt)
theorem MapIs.turned {S : Nat → Prop} {w w' : World} {b : Nat} {f : List UInt8 → Option Value} (h : MapIs w b f) (ht : Turns S w w') (hS : ¬ S b) : MapIs w' b f := h.keep (ht.block b h.lt hS)
theorem mapIs_made (w : World) : MapIs (w.alloc (.map #[] 0)) w.heap.size (fun _ => none) :=
  ⟨#[], 0, heap_alloc_last _ _, fun i e h => by simp at h, fun x v _ h => by simp at h, fun i j e e' h => by simp at h⟩
theorem MapIs.look {P : Program} {w : World} {b : Nat} {f : List UInt8 → Option Value} {t k e : TypeId} (h : MapIs w b f) (K : IdKeys P k) (ht : P.underlying t = some (.map k e)) {z : Value} (hz : (zeroValue e).run P w = .ok z w) (x : List UInt8) (hx : x.length = 32) :
    (Instr.lookup t (.map (some b)) (.agg (idA x)) false).run P w = .ok ((f x).getD z) w := by
  obtain ⟨es, c, h⟩ := h
  obtain ⟨l, hl⟩ := K.is x hx
  have hkeys : ∀ e ∈ es.toList, ∃ l, keyOf P k e.key = some l := fun e he => by
    obtain ⟨i, hi⟩ := List.mem_iff_getElem?.1 he
    obtain ⟨y, hy, e1, _⟩ := h.reads i e hi
    rw [e1]; exact K.is y hy
  rcases K.law.find w hl es.toList hkeys with ⟨h1, h2⟩ | ⟨j, e0, h1, h2, h3⟩
  · have : f x = none := by
      cases hf : f x with
      | none => rfl
      | some v =>
        obtain ⟨i, e, hi, he⟩ := h.has x v hx hf
        exact absurd he (h2 e (List.mem_of_getElem? hi))
    rw [this]
    simp [Instr.lookup, run_underlying ht, MapKept.run_getObj_map h.heap, K.law.check w _ hl, h1, hz, Result.andThen]
  · obtain ⟨y, hy, e1, e2⟩ := h.reads j e0 h2
    rw [e1] at h3
    have : y = x := idA_inj (by injection h3)
    subst this
    rw [e2]
    simp [Instr.lookup, run_underlying ht, MapKept.run_getObj_map h.heap, K.law.check w _ hl, h1, Result.andThen]
theorem MapIs.look_ok {P : Program} {w : World} {b : Nat} {f : List UInt8 → Option Value} {t k e : TypeId} (h : MapIs w b f) (K : IdKeys P k) (ht : P.underlying t = some (.map k e)) {z : Value} (hz : (zeroValue e).run P w = .ok z w) (x : List UInt8) (hx : x.length = 32) :
    (Instr.lookup t (.map (some b)) (.agg (idA x)) true).run P w = .ok (.tuple #[(f x).getD z, .bool (f x).isSome]) w := by
  obtain ⟨es, c, h⟩ := h
  obtain ⟨l, hl⟩ := K.is x hx
  have hkeys : ∀ e ∈ es.toList, ∃ l, keyOf P k e.key = some l := fun e he => by
    obtain ⟨i, hi⟩ := List.mem_iff_getElem?.1 he
    obtain ⟨y, hy, e1, _⟩ := h.reads i e hi
    rw [e1]; exact K.is y hy
  rcases K.law.find w hl es.toList hkeys with ⟨h1, h2⟩ | ⟨j, e0, h1, h2, h3⟩
  · have : f x = none := by
      cases hf : f x with
      | none => rfl
      | some v =>
        obtain ⟨i, e, hi, he⟩ := h.has x v hx hf
        exact absurd he (h2 e (List.mem_of_getElem? hi))
    rw [this]
    simp [Instr.lookup, run_underlying ht, MapKept.run_getObj_map h.heap, K.law.check w _ hl, h1, hz, Result.andThen]
  · obtain ⟨y, hy, e1, e2⟩ := h.reads j e0 h2
    rw [e1] at h3
    have : y = x := idA_inj (by injection h3)
    subst this
    rw [e2]
    simp [Instr.lookup, run_underlying ht, MapKept.run_getObj_map h.heap, K.law.check w _ hl, h1, Result.andThen]
theorem MapIs.store {P : Program} {w : World} {b : Nat} {f : List UInt8 → Option Value} {t k e : TypeId} (h : MapIs w b f) (K : IdKeys P k) (ht : P.underlying t = some (.map k e)) (x : List UInt8) (hx : x.length = 32) (v : Value) :
    ∃ w', (Instr.mapUpdate t (.map (some b)) (.agg (idA x)) v).run P w = .ok () w' ∧ MapIs w' b (fun y => if y = x then some v else f y) ∧ Turns (fun i => i = b) w w' := by
  obtain ⟨es, c, h⟩ := h
  obtain ⟨l, hl⟩ := K.is x hx
  have hkeys : ∀ e ∈ es.toList, ∃ l, keyOf P k e.key = some l := fun e he => by
    obtain ⟨i, hi⟩ := List.mem_iff_getElem?.1 he
    obtain ⟨y, hy, e1, _⟩ := h.reads i e hi
    rw [e1]; exact K.is y hy
  have hT : ∀ o, Turns (fun i => i = b) w (setBlock w b o) := fun o => ⟨rfl, rfl, rfl, by simp [setBlock], fun i _ hi => heap_setBlock_other h.heap _ hi⟩
  rcases K.law.find w hl es.toList hkeys with ⟨h1, h2⟩ | ⟨j, e0, h1, h2, h3⟩
  · refine ⟨setBlock w b (.map (es.push ⟨.agg (idA x), v, c⟩) (c + 1)), ?_, ⟨_, _, heap_setBlock_same h.heap _, ?_, ?_, ?_⟩, hT _⟩
    · simp [Instr.mapUpdate, run_underlying ht, MapKept.run_getObj_map h.heap, K.law.check w false hl, h1, MapKept.run_setObj_map _ h.heap, Result.andThen, setBlock]
    · intro i e hi
      rw [Array.toList_push, List.getElem?_append] at hi
      split at hi
      · obtain ⟨y, hy, e1, e2⟩ := h.reads i e hi
        refine ⟨y, hy, e1, ?_⟩
        rw [if_neg (fun q => h2 e (List.mem_of_getElem? hi) (by rw [e1, q]))]; exact e2
      · obtain ⟨rfl, _⟩ : e = ⟨.agg (idA x), v, c⟩ ∧ True := by
          have := List.mem_of_getElem? hi
          simp at this
          exact ⟨this, trivial⟩
        exact ⟨x, hx, rfl, by rw [if_pos rfl]⟩
    · intro y u hy hu
      by_cases hyx : y = x
      · refine ⟨es.toList.length, ⟨.agg (idA x), v, c⟩, ?_, by rw [hyx]⟩
        rw [Array.toList_push, List.getElem?_append_right (Nat.le_refl _), Nat.sub_self]; rfl
      · rw [if_neg hyx] at hu
        obtain ⟨i, e, hi, he⟩ := h.has y u hy hu
        refine ⟨i, e, ?_, he⟩
        rw [Array.toList_push, List.getElem?_append_left (List.getElem?_eq_some_iff.1 hi).1]; exact hi
    · intro i j e e' hi hj hk
      rw [Array.toList_push] at hi hj
      have key : ∀ (i : Nat) (e : MapEntry), (es.toList ++ [⟨.agg (idA x), v, c⟩])[i]? = some e → (es.toList[i]? = some e ∧ e.key ≠ .agg (idA x)) ∨ (i = es.toList.length ∧ e.key = .agg (idA x)) := fun i e hi => by
        rw [List.getElem?_append] at hi
        split at hi
        · exact .inl ⟨hi, h2 e (List.mem_of_getElem? hi)⟩
        · rename_i hge
          have hlt := (List.getElem?_eq_some_iff.1 hi).1
          simp at hlt hge
          refine .inr ⟨by rw [Array.length_toList]; omega, ?_⟩
          have := List.mem_of_getElem? hi
          simp at this
          rw [this]
      rcases key i e hi with ⟨a1, a2⟩ | ⟨a1, a2⟩ <;> rcases key j e' hj with ⟨b1, b2⟩ | ⟨b1, b2⟩
      · exact h.one i j e e' a1 b1 hk
      · exact absurd (hk.trans b2) a2
      · exact absurd (hk.symm.trans a2) b2
      · rw [a1, b1]
  · have hj : es[j]? = some e0 := by simpa using h2
    have hj2 : es.toList[j]? = some e0 := h2
    refine ⟨setBlock w b (.map (es.modify j (fun e' => { e' with key := .agg (idA x), val := v })) c), ?_, ⟨_, _, heap_setBlock_same h.heap _, ?_, ?_, ?_⟩, hT _⟩
    · simp [Instr.mapUpdate, run_underlying ht, MapKept.run_getObj_map h.heap, K.law.check w false hl, h1, hj, h3, K.law.stays w hl, MapKept.run_setObj_map _ h.heap, Result.andThen, setBlock]
    · intro i e hi
      rw [Array.toList_modify] at hi
      obtain ⟨e1, hei, rfl⟩ := modify_get hi
      by_cases hij : j = i
      · rw [if_pos hij]
        exact ⟨x, hx, rfl, by rw [if_pos rfl]⟩
      · rw [if_neg hij]
        obtain ⟨y, hy, q1, q2⟩ := h.reads i e1 hei
        refine ⟨y, hy, q1, ?_⟩
        rw [if_neg (fun q => hij (h.one j i e0 e1 hj2 hei (by rw [h3, q1, q])))]; exact q2
    · intro y u hy hu
      by_cases hyx : y = x
      · refine ⟨j, { e0 with key := .agg (idA x), val := v }, ?_, by rw [hyx]⟩
        rw [Array.toList_modify, List.getElem?_modify, hj2]; simp
      · rw [if_neg hyx] at hu
        obtain ⟨i, e, hi, he⟩ := h.has y u hy hu
        have hij : ¬ j = i := fun q => by
          subst q
          rw [hj2] at hi
          cases hi
          rw [h3] at he
          exact hyx (idA_inj (by injection he)).symm
        refine ⟨i, e, ?_, he⟩
        rw [Array.toList_modify, List.getElem?_modify, hi]; simp [hij]
    · intro i i' e e' hi hi' hk
      rw [Array.toList_modify] at hi hi'
      have key : ∀ (i : Nat) (e1 e : MapEntry), es.toList[i]? = some e1 → (e = if j = i then { e1 with key := .agg (idA x), val := v } else e1) → e1.key = e.key := fun i e1 e hi he => by
        by_cases hij : j = i
        · rw [if_pos hij] at he
          subst hij
          rw [hj2] at hi
          cases hi
          rw [he]; exact h3
        · rw [if_neg hij] at he
          rw [he]
      obtain ⟨a, ha, ha'⟩ := modify_get hi
      obtain ⟨a2, ha2, ha2'⟩ := modify_get hi'
      exact h.one i i' a a2 ha ha2 (by rw [key i a e ha ha', key i' a2 e' ha2 ha2', hk])
end Go.Mir
