/- SLICES OF STRUCTS, AND A STRUCT COPIED WHOLE INTO A NEW BLOCK. No program is named. Conditions: none. -/
import Derived.Test.YtmjdpfmofbbknaaDoorOpen
import Derived.Deep.MidRow
namespace Go.Mir
open Go.RowKit

theorem setCells_row (b : Nat) (t : TypeId) : ∀ (vs : List Value) (o : Nat) (w : World) (A : Array Value), w.heap[b]? = some (.cells A t (0, 0)) → o + vs.length ≤ A.size →
    ∃ A', (w.setCells b o vs).heap[b]? = some (.cells A' t (0, 0)) ∧ A'.size = A.size ∧ ∀ i, A'[i]? = if o ≤ i ∧ i < o + vs.length then vs[i - o]? else A[i]?
  | [], o, w, A, h, hs => ⟨A, h, rfl, fun i => by rw [if_neg (by simp <;> omega)]⟩
  | v :: r, o, w, A, h, hs => by
    have h1 := Go.heap_setCell_same w b o A t v h
    simp only [List.length_cons] at hs
    obtain ⟨A', h2, h3, h4⟩ := setCells_row b t r (o + 1) _ _ h1 (by simp; omega)
    refine ⟨A', h2, by rw [h3]; simp, fun i => ?_⟩
    rw [h4 i, Array.getElem?_setIfInBounds]
    by_cases hi : o + 1 ≤ i ∧ i < o + 1 + r.length
    · rw [if_pos hi, if_pos (by simp; omega)]
      rw [show i - o = (i - (o + 1)) + 1 by omega, List.getElem?_cons_succ]
    · rw [if_neg hi]
      by_cases ho : o = i
      · subst ho
        rw [if_pos rfl, if_pos (by omega), if_pos (by simp)]; simp
      · rw [if_neg ho, if_neg (by simp; omega)]
theorem setCells_below {B b : Nat} {w0 : World} (hB : B ≤ b) : ∀ (vs : List Value) (o : Nat) (w : World), Below B w0 w → Below B w0 (w.setCells b o vs)
  | [], _, _, h => h
  | v :: r, o, w, h => setCells_below hB r (o + 1) _ (h.setCell hB v)

/-- a struct copied whole into a new block -/
theorem alloc_stored (w : World) (Z : Array Value) (t : TypeId) (cs : List Value) (b : Nat) (hb : b = w.heap.size) (h : Z.size = cs.length) :
    ((w.alloc (.cells Z t)).setCells b 0 cs).heap[b]? = some (.cells cs.toArray t (0, 0)) ∧ Below w.heap.size w ((w.alloc (.cells Z t)).setCells b 0 cs) := by
  subst hb
  obtain ⟨A', h1, h2, h3⟩ := setCells_row w.heap.size t cs 0 (w.alloc (.cells Z t)) Z (heap_alloc_last _ _) (by omega)
  refine ⟨?_, setCells_below (Nat.le_refl _) _ _ _ (Below.allocs _ _)⟩
  rw [h1]
  have : A' = cs.toArray := by
    apply Array.ext_getElem?
    intro i
    rw [h3 i]
    by_cases hi : i < cs.length
    · rw [if_pos (by omega)]; simp
    · rw [if_neg (by omega), Array.getElem?_eq_none (by omega), Array.getElem?_eq_none (by simp; omega)]
  rw [this]
theorem there_alloc_new (w : World) (Z : Array Value) (t : TypeId) (n : Nat) (h : Z.size = n) : (w.alloc (.cells Z t)).there w.heap.size 0 n := fun j hj => by
  have h1 : (w.alloc (.cells Z t)).heap[w.heap.size]? = some (.cells Z t (0, 0)) := heap_alloc_last _ _
  refine ⟨?_, frozen_of_row _ _ _ _ _ h1⟩
  rw [cell_of_row _ _ _ _ _ _ h1]
  simp; omega

/-- a slice of structs, each of 'size' cells -/
structure Rs (w : World) (p : Option Addr) (n c size : Nat) (rows : List (List Value)) : Prop where
  sl : Sl w p n c size rows.flatten
  each : ∀ r ∈ rows, r.length = size
  count : rows.length = n
theorem Rs.below {w w' : World} {p : Option Addr} {n c size : Nat} {rows : List (List Value)} (h : Rs w p n c size rows) (hb : Below w.heap.size w w') : Rs w' p n c size rows := ⟨h.sl.below hb, h.each, h.count⟩
theorem Rs.row {w : World} {b o n c size : Nat} {rows : List (List Value)} (h : Rs w (some ⟨b, o, none⟩) n c size rows) (i : Nat) (hi : i < rows.length) : w.rangeAt b (o + i * size) rows[i] := fun j v hv => by
  have hj : j < size := by
    have := (List.getElem?_eq_some_iff.1 hv).1
    rwa [h.each _ (List.getElem_mem hi)] at this
  rw [Nat.add_assoc]
  refine h.sl.at ?_
  have := getElem?_flatMap (fun x : List Value => x) size rows h.each i j hi hj
  rw [show rows.flatten = rows.flatMap (fun x => x) by simp [List.flatMap_id'], this]; exact hv

/-- a slice of structs that came in -/
theorem trod_rows {P : Program} {W : World} {H : Type} {enc : TypeId × Value → H} {base fuel t e size : Nat} {held : Bool} {cs : List Value} {x : DataW H × List MemPlace} {α : Type} (R : α → List Value → DataW H → Prop)
    (ht : P.underlying t = some (.slice e)) (hce : P.cellsOf e = size) (hs : 0 < size)
    (one : ∀ m cs' y, DataW.trod enc P W base (fun _ => true) held m e cs' = some y → ∃ a, R a cs' y.1) (h : DataW.trod enc P W base (fun _ => true) held fuel t cs = some x) :
    ∃ p n c, ∃ L : List (List Value × α), cs = [.slice p n c] ∧ Rs W p n c size (L.map (·.1)) ∧ dlen x.1 = n ∧
      ((x.1 = .nil ∧ L = []) ∨ ∃ elems spare, x.1 = .slice elems spare ∧ elems.length = L.length ∧ ∀ i (h1 : i < elems.length) (h2 : i < L.length), R L[i].2 L[i].1 elems[i]) := by
  rcases Deep.open_slice ht h with ⟨rfl, rfl⟩ | ⟨a, len, cap, m, k, D, Pl, rfl, hb, hl, hm, hmm, rfl, hx⟩
  · exact ⟨_, _, _, [], rfl, ⟨Sl.nil _ _, fun _ h => by simp at h, rfl⟩, rfl, .inl ⟨rfl, rfl⟩⟩
  · simp only [if_true] at hmm
    subst hmm
    rw [hce] at hx
    obtain ⟨L, hL, hLs⟩ := build_list (α := List Value × α) len (fun i y => y.1.length = size ∧ R y.2 y.1 (D i) ∧ ∀ j (hj : j < y.1.length), W.cell? (a.add (i * size + j)) = some y.1[j]) (fun i hi => by
      obtain ⟨cs', h1, h2⟩ := hx i (by omega)
      obtain ⟨u, hu⟩ := one _ _ _ h2
      obtain ⟨_, h4, h3⟩ := World.cells?_some h1
      refine ⟨(cs', u), h4, hu, fun j hj => ?_⟩
      rw [← addr_add_add, h3 j (by rw [← h4]; exact hj)]
      simp [hj])
    have heach : ∀ r ∈ L.map (·.1), r.length = size := by
      intro r hr
      obtain ⟨y, hy, rfl⟩ := List.mem_map.1 hr
      obtain ⟨i, hi, rfl⟩ := List.mem_iff_getElem.1 hy
      exact (hLs i hi).1
    refine ⟨_, _, _, L, rfl, ⟨⟨?_, hl, by simpa [maxLen] using hm, fun h => (by cases h), fun a' ha j v hv => ?_⟩, heach, by simpa using hL⟩, by simp [dlen], .inr ⟨_, _, rfl, by simp [hL], fun i h1 h2 => ?_⟩⟩
    · have := flatMap_length (fun x : List Value => x) size (L.map (·.1)) heach
      rw [List.flatMap_id'] at this
      rw [this, List.length_map, hL]
    · obtain rfl := Option.some.inj ha
      have hfl := flatMap_length (fun x : List Value => x) size (L.map (·.1)) heach
      rw [List.flatMap_id', List.length_map] at hfl
      have hj : j < L.length * size := by
        have := (List.getElem?_eq_some_iff.1 hv).1
        rwa [hfl] at this
      have hdm : j / size * size + j % size = j := by rw [Nat.mul_comm]; exact Nat.div_add_mod j size
      have hq : j / size < L.length := (Nat.div_lt_iff_lt_mul hs).2 hj
      have hr : j % size < size := Nat.mod_lt _ hs
      have h4 := getElem?_flatMap (fun x : List Value => x) size (L.map (·.1)) heach (j / size) (j % size) (by simpa using hq) hr
      rw [hdm, List.flatMap_id', hv] at h4
      have h5 := (hLs (j / size) hq).2.2 (j % size) (by rw [(hLs _ hq).1]; exact hr)
      rw [hdm] at h5
      rw [h5, h4, List.getElem?_eq_getElem (by simp; rw [(hLs _ hq).1]; exact hr)]
      simp
    · have := (hLs i h2).2.1
      simpa using this

end Go.Mir
