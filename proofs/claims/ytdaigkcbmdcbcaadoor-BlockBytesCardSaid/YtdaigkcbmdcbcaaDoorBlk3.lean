/- THE WALKS OF BLOCKS, on: the ids with a hint. Conditions: as in the first part. -/
import Derived.Test.YtdaigkcbmdcbcaaDoorBlk2
namespace Go.Proofs.YtdaigkcbmdcbcaaDoor.Blk
open Go.RowKit Go.Mir Go.Mir.Parts

theorem infoIds : (Tryd.prog.info? 23).map (fun i => (i.zero, i.size, i.bytes)) = some (some (.agg (idA zeros)), 32, 32) := by kernel_rfl
/-- what is left of ids gathered -/
def IdsP (ids : List (List UInt8)) (w : World) (e : Ending) (w' : World) : Prop := ∃ p c, e = .returned (.slice p ids.length c) ∧ Is w' p ids.length c 32 ids ∧ (∀ a, p = some a → w.heap.size ≤ a.block) ∧ Below w.heap.size w w'
theorem ids_of_own {w w' : World} {v : Value} {ids : List (List UInt8)} (h : w'.ownsRow w.heap.size 23 32 v ids.length (ids.flatMap bytesV)) (hl : ∀ x ∈ ids, x.length = 32) (hb : Below w.heap.size w w') : IdsP ids w (.returned v) w' := by
  obtain ⟨p, c, rfl, hs⟩ := own_sl h
  refine ⟨p, c, rfl, ⟨hs, hl, rfl⟩, fun a ha => ?_, hb⟩
  subst ha
  obtain ⟨g, cap, e, hg, _⟩ := own_some h (by simp)
  cases e; exact hg
theorem made_id (w : World) (y : List UInt8) (M : Array Value) (t : TypeId) (hM : M.toList = bytesV y) (hy : y.length = 32) : Sl (w.alloc (.cells M t)) (some ⟨w.heap.size, 0, none⟩) 1 1 32 (bytesV y) :=
  ⟨by rw [bytesV_length, hy], Nat.le_refl _, by omega, fun h => (by cases h), fun a ha j u hu => by
    obtain rfl := Option.some.inj ha
    rw [add_none, cell_of_row _ _ _ _ _ _ (heap_alloc_last _ _), ← Array.getElem?_toList, hM, Nat.zero_add]; exact hu⟩
theorem filter_snoc (f : List UInt8 → Bool) (l : List (List UInt8)) (k : Nat) (h : k < l.length) : (l.take (k + 1)).filter f = (l.take k).filter f ++ if f l[k] then [l[k]] else [] := by
  rw [take_snoc l k h, List.filter_append]
  cases hf : f l[k] <;> simp [hf]
/-- what the call owns lies apart from a row of another type -/
theorem own_ne_cells {w : World} {base e size n : Nat} {v : Value} {xs : List Value} {k : Nat} {M : Array Value} {t : TypeId} {fr : Nat × Nat} (h : w.ownsRow base e size v n xs) (hk : w.heap[k]? = some (.cells M t fr)) (hne : t ≠ e) : ∀ i, v.ownBlock = some i → ¬ i = k := by
  intro i hi e1
  subst e1
  rcases h.2 with ⟨rfl, _⟩ | ⟨g, cap, cur, rfl, _, hg, _⟩
  · simp [Value.ownBlock] at hi
  · simp [Value.ownBlock] at hi
    subst hi
    rw [hk] at hg; cases hg; exact hne rfl
/-- which ids have a hint -/
def hintedL (h : List UInt8) (l : List (List UInt8)) : List (List UInt8) := l.filter fun y => y.take 16 == h

end Go.Proofs.YtdaigkcbmdcbcaaDoor.Blk
