/- A [][]byte THAT THE CALL OWNS, each element a slice of bytes that it does not overwrite. Conditions: none. -/
import Derived.Test.YtjbjlmdfgpoadaaDoorChecked
import Derived.Test.YtjbjlmdfgpoadaaDoorCut
namespace Go.Proofs.YtjbjlmdfgpoadaaDoor.Cut
open Go.RowKit Go.Mir Go.Mir.Parts

structure Ls (w : World) (base : Nat) (v : Value) (ls : List (List UInt8)) : Prop where
  all : ∃ hs : List Value, w.ownsRow base 22 1 v ls.length hs ∧ ∀ j (h : j < ls.length), ∃ q k, hs[j]? = some (.slice q ls[j].length k) ∧ Bs w q ls[j].length k ls[j] ∧ (∀ a, q = some a → 0 < ls[j].length → ¬ v.ownBlock = some a.block)
theorem Ls.nil (w : World) (base : Nat) : Ls w base (.slice none 0 0) [] := ⟨[], World.ownsRow_nil _ _ _ _, fun j h => by simp at h⟩
theorem Ls.below {w w' : World} {base : Nat} {v : Value} {ls : List (List UInt8)} (h : Ls w base v ls) (hb : Below w.heap.size w w') : Ls w' base v ls := by
  obtain ⟨hs, h1, h2⟩ := h.all
  exact ⟨hs, own_touch h1 (Turns.of_below (S := fun _ => False) hb) (fun _ _ h => h), fun j hj => by
    obtain ⟨q, k, a, b, c⟩ := h2 j hj
    exact ⟨q, k, a, b.below hb, c⟩⟩
theorem Ls.low {w : World} {base base' : Nat} {v : Value} {ls : List (List UInt8)} (h : Ls w base v ls) (hb : base' ≤ base) : Ls w base' v ls := by
  obtain ⟨hs, h1, h2⟩ := h.all
  exact ⟨hs, own_base h1 (fun k hk => by have := (h1.lt k hk).1; omega), h2⟩
theorem Ls.sl {w : World} {base : Nat} {v : Value} {ls : List (List UInt8)} (h : Ls w base v ls) : ∃ p c, v = .slice p ls.length c ∧ Pts w p ls.length c ls := by
  obtain ⟨hs, h1, h2⟩ := h.all
  obtain ⟨p, c, rfl, hS⟩ := own_sl h1
  refine ⟨p, c, rfl, rfl, hS.le, hS.max, hS.nil0, fun a ha j hj => ?_⟩
  obtain ⟨q, k, e1, e2, _⟩ := h2 j hj
  exact ⟨q, _, k, hS.cell a ha j _ e1, e2⟩
/-- a block of bytes is none of slices -/
theorem no_own {w : World} {base : Nat} {v : Value} {n : Nat} {hs : List Value} (h1 : w.ownsRow base 22 1 v n hs) {b2 m c : Nat} {q : Option Addr} {ys : List Value} (h2 : w.ownsRow b2 5 1 (.slice q m c) m ys) : ∀ a, q = some a → ¬ v.ownBlock = some a.block := fun a ha hv => by
  subst ha
  rcases h1.2 with ⟨rfl, _⟩ | ⟨g, cap, cur, rfl, _, hg, _⟩
  · cases hv
  · rcases h2.2 with ⟨hx, _⟩ | ⟨g2, cap2, cur2, hx, _, hg2, _⟩
    · cases hx
    · cases hx
      simp only [Value.ownBlock, Option.some.injEq] at hv
      rw [← hv, hg] at hg2
      injection hg2 with e1
      injection e1 with _ e2
      revert e2
      decide
/-- one more: behind an append onto it -/
theorem Ls.push {w w0 w1 : World} {base : Nat} {v : Value} {ls : List (List UInt8)} {hs : List Value} {p' : Option Addr} {c' : Nat} {q : Option Addr} {k : Nat} {x : List UInt8}
    (h1 : w.ownsRow base 22 1 v ls.length hs) (h2 : ∀ j (h : j < ls.length), ∃ q k, hs[j]? = some (.slice q ls[j].length k) ∧ Bs w q ls[j].length k ls[j] ∧ (∀ a, q = some a → 0 < ls[j].length → ¬ v.ownBlock = some a.block))
    (hb : Below w.heap.size w w0) (hx : Bs w q x.length k x) (hq : ∀ a, q = some a → 0 < x.length → ¬ v.ownBlock = some a.block)
    (ho : w1.ownsRow base 22 1 (.slice p' (ls.length + 1) c') (ls.length + 1) (hs ++ [.slice q x.length k])) (hg : w0.grownBy w1 v.ownBlock)
    (hn : ∀ i, (Value.slice p' (ls.length + 1) c').ownBlock = some i → v.ownBlock = some i ∨ i = w0.heap.size) : Ls w1 base (.slice p' (ls.length + 1) c') (ls ++ [x]) := by
  have hl : hs.length = ls.length := by have := h1.1; simpa using this
  have ht : Turns (fun i => v.ownBlock = some i) w0 w1 := Turns.grown hg (fun k hk => hk)
  have key : ∀ (q : Option Addr) (k : Nat) (y : List UInt8), Bs w q y.length k y → (∀ a, q = some a → 0 < y.length → ¬ v.ownBlock = some a.block) → Bs w1 q y.length k y ∧ (∀ a, q = some a → 0 < y.length → ¬ (Value.slice p' (ls.length + 1) c').ownBlock = some a.block) := fun q k y hB hne => by
    by_cases hy : 0 < y.length
    · obtain ⟨b, o, rfl⟩ := hB.addr hy (by omega)
      have hlt : b < w.heap.size := block_lt_of_cell (Bs.byte hB (j := 0) hy)
      refine ⟨(hB.below hb).touch ht (fun a ha _ => hne a ha hy), fun a ha hy he => ?_⟩
      rcases hn _ he with h | h
      · exact hne a ha hy h
      · obtain rfl := Option.some.inj ha
        have := hb.size
        simp only at h
        omega
    · have hy0 : y = [] := List.length_eq_zero_iff.1 (by omega)
      subst hy0
      exact ⟨⟨rfl, hB.le, hB.max, hB.nil0, fun a ha j u hu => by simp [bytesV] at hu⟩, fun a ha h => by simp at h⟩
  refine ⟨_, by rw [List.length_append]; exact ho, fun j hj => ?_⟩
  rw [List.length_append, List.length_singleton] at hj
  by_cases hj2 : j < ls.length
  · obtain ⟨q1, k1, e1, e2, e3⟩ := h2 j hj2
    have := key q1 k1 _ e2 e3
    refine ⟨q1, k1, ?_, ?_, ?_⟩
    · rw [List.getElem?_append_left (by omega), List.getElem_append_left hj2]; exact e1
    · rw [List.getElem_append_left hj2]; exact this.1
    · rw [List.getElem_append_left hj2]; exact this.2
  · obtain rfl : j = ls.length := by omega
    have := key q k x hx hq
    refine ⟨q, k, ?_, ?_, ?_⟩
    · rw [List.getElem?_append_right (by omega), hl, Nat.sub_self]
      simp
    · simpa using this.1
    · simpa using this.2
/-- the header that is appended, as a slice of one -/
theorem hdr_sl (w : World) (v : Value) (t : TypeId) (b : Nat) (hb : b = w.heap.size) : Sl (w.alloc (.cells #[v] t)) (some ⟨b, 0, none⟩) 1 1 1 [v] :=
  ⟨rfl, Nat.le_refl _, by omega, fun h => (by cases h), fun a ha j u hu => by
    obtain rfl := Option.some.inj ha
    rw [add_none, hb, cell_alloc_new]
    cases j with
    | zero => simpa using hu
    | succ j => simp at hu⟩
/-- the same, where each element is the call's own, too -/
structure LsO (w : World) (base : Nat) (v : Value) (ls : List (List UInt8)) : Prop where
  all : ∃ hs : List Value, w.ownsRow base 22 1 v ls.length hs ∧ ∀ j (h : j < ls.length), ∃ q k, hs[j]? = some (.slice q ls[j].length k) ∧ w.ownsRow base 5 1 (.slice q ls[j].length k) ls[j].length (bytesV ls[j])
theorem LsO.nil (w : World) (base : Nat) : LsO w base (.slice none 0 0) [] := ⟨[], World.ownsRow_nil _ _ _ _, fun j h => by simp at h⟩
theorem LsO.ls {w : World} {base : Nat} {v : Value} {ls : List (List UInt8)} (h : LsO w base v ls) : Ls w base v ls := by
  obtain ⟨hs, h1, h2⟩ := h.all
  exact ⟨hs, h1, fun j hj => by
    obtain ⟨q, k, a, b⟩ := h2 j hj
    exact ⟨q, k, a, own_bs b, fun ad ha _ => no_own h1 b ad ha⟩⟩
theorem LsO.below {w w' : World} {base : Nat} {v : Value} {ls : List (List UInt8)} (h : LsO w base v ls) (hb : Below w.heap.size w w') : LsO w' base v ls := by
  obtain ⟨hs, h1, h2⟩ := h.all
  exact ⟨hs, own_touch h1 (Turns.of_below (S := fun _ => False) hb) (fun _ _ h => h), fun j hj => by
    obtain ⟨q, k, a, b⟩ := h2 j hj
    exact ⟨q, k, a, own_touch b (Turns.of_below (S := fun _ => False) hb) (fun _ _ h => h)⟩⟩
theorem LsO.push {w w1 : World} {base : Nat} {v v' : Value} {ls : List (List UInt8)} {hs : List Value} {q : Option Addr} {k : Nat} {x : List UInt8} {tmp : Obj}
    (h1 : w.ownsRow base 22 1 v ls.length hs) (h2 : ∀ j (h : j < ls.length), ∃ q k, hs[j]? = some (.slice q ls[j].length k) ∧ w.ownsRow base 5 1 (.slice q ls[j].length k) ls[j].length (bytesV ls[j]))
    (hx : w.ownsRow base 5 1 (.slice q x.length k) x.length (bytesV x))
    (ho : w1.ownsRow base 22 1 v' (ls.length + 1) (hs ++ [.slice q x.length k])) (hg : (w.alloc tmp).grownBy w1 v.ownBlock) : LsO w1 base v' (ls ++ [x]) := by
  have hl : hs.length = ls.length := by have := h1.1; simpa using this
  have ht : Turns (fun i => v.ownBlock = some i) w w1 := (Turns.of_below (Below.allocs w tmp)).trans (Turns.grown hg (fun k hk => hk)) (fun _ _ h => h)
  have key : ∀ (q : Option Addr) (k : Nat) (y : List UInt8), w.ownsRow base 5 1 (.slice q y.length k) y.length (bytesV y) → w1.ownsRow base 5 1 (.slice q y.length k) y.length (bytesV y) := fun q k y hy =>
    own_touch hy ht (fun i hi he => by
      cases q with
      | none => simp [Value.ownBlock] at hi
      | some a => simp only [Value.ownBlock, Option.some.injEq] at hi; exact no_own h1 hy a rfl (by rw [hi]; exact he))
  refine ⟨_, by rw [List.length_append]; exact ho, fun j hj => ?_⟩
  rw [List.length_append, List.length_singleton] at hj
  by_cases hj2 : j < ls.length
  · obtain ⟨q1, k1, e1, e2⟩ := h2 j hj2
    refine ⟨q1, k1, ?_, ?_⟩
    · rw [List.getElem?_append_left (by omega), List.getElem_append_left hj2]; exact e1
    · rw [List.getElem_append_left hj2]; exact key q1 k1 _ e2
  · obtain rfl : j = ls.length := by omega
    refine ⟨q, k, ?_, ?_⟩
    · rw [List.getElem?_append_right (by omega), hl, Nat.sub_self]
      simp
    · simpa using key q k x hx
theorem LsO.set {w : World} {base : Nat} {v : Value} {ls : List (List UInt8)} {B : Nat} {t : TypeId} {u : Value} (h : LsO w base v ls) (hb : w.heap[B]? = some (.cells #[u] t (0, 0))) (h1 : t ≠ 22) (h2 : t ≠ 5) (u' : Value) : LsO (w.setCell ⟨B, 0, none⟩ u') base v ls := by
  have ht : Turns (fun i => i = B) w (w.setCell ⟨B, 0, none⟩ u') := (Turns.refl (fun i => i = B) w).setCell (p := ⟨B, 0, none⟩) (fun _ => rfl) u'
  have ne : ∀ {n size e : Nat} {x : Value} {vs : List Value}, w.ownsRow base e size x n vs → t ≠ e → ∀ i, x.ownBlock = some i → ¬ i = B := fun {n size e x vs} ho hte i hi he => by
    subst he
    rcases ho.2 with ⟨rfl, _⟩ | ⟨g, cap, cur, rfl, _, hg, _⟩
    · cases hi
    · simp only [Value.ownBlock, Option.some.injEq] at hi
      rw [hi, hb] at hg
      injection hg with e1
      injection e1 with _ e2
      exact hte e2
  obtain ⟨hs, a, b⟩ := h.all
  exact ⟨hs, own_touch a ht (ne a h1), fun j hj => by
    obtain ⟨q, k, c, d⟩ := b j hj
    exact ⟨q, k, c, own_touch d ht (ne d h2)⟩⟩
/-- rows of unlike types lie apart -/
theorem own_apart {w : World} {b1 b2 e1 e2 s1 s2 n1 n2 : Nat} {v1 v2 : Value} {x1 x2 : List Value} (h1 : w.ownsRow b1 e1 s1 v1 n1 x1) (h2 : w.ownsRow b2 e2 s2 v2 n2 x2) (he : e1 ≠ e2) : ∀ k, v1.ownBlock = some k → ¬ v2.ownBlock = some k := fun k hk hk2 => by
  rcases h1.2 with ⟨rfl, _⟩ | ⟨g, cap, cur, rfl, _, hg, _⟩
  · cases hk
  · rcases h2.2 with ⟨rfl, _⟩ | ⟨g2, cap2, cur2, rfl, _, hg2, _⟩
    · cases hk2
    · simp only [Value.ownBlock, Option.some.injEq] at hk hk2
      rw [hk] at hg
      rw [hk2, hg] at hg2
      injection hg2 with a
      injection a with _ b
      exact he b
/-- the same, where the elements lay ahead (in w0) -/
structure LsA (w0 w : World) (base : Nat) (v : Value) (ls : List (List UInt8)) : Prop where
  all : ∃ hs : List Value, w.ownsRow base 22 1 v ls.length hs ∧ ∀ j (h : j < ls.length), ∃ q k, hs[j]? = some (.slice q ls[j].length k) ∧ Bs w0 q ls[j].length k ls[j]
theorem LsA.nil (w0 w : World) (base : Nat) : LsA w0 w base (.slice none 0 0) [] := ⟨[], World.ownsRow_nil _ _ _ _, fun j h => by simp at h⟩
theorem LsA.touch {S : Nat → Prop} {w0 w w' : World} {base : Nat} {v : Value} {ls : List (List UInt8)} (h : LsA w0 w base v ls) (ht : Turns S w w') (hv : ∀ k, v.ownBlock = some k → ¬ S k) : LsA w0 w' base v ls := by
  obtain ⟨hs, h1, h2⟩ := h.all
  exact ⟨hs, own_touch h1 ht hv, h2⟩
theorem LsA.below {w0 w w' : World} {base : Nat} {v : Value} {ls : List (List UInt8)} (h : LsA w0 w base v ls) (hb : Below w.heap.size w w') : LsA w0 w' base v ls := h.touch (Turns.of_below (S := fun _ => False) hb) (fun _ _ h => h)
theorem LsA.push {w0 w w1 : World} {base : Nat} {v v' : Value} {ls : List (List UInt8)} {hs : List Value} {q : Option Addr} {k : Nat} {x : List UInt8}
    (h1 : w.ownsRow base 22 1 v ls.length hs) (h2 : ∀ j (h : j < ls.length), ∃ q k, hs[j]? = some (.slice q ls[j].length k) ∧ Bs w0 q ls[j].length k ls[j]) (hx : Bs w0 q x.length k x)
    (ho : w1.ownsRow base 22 1 v' (ls.length + 1) (hs ++ [.slice q x.length k])) : LsA w0 w1 base v' (ls ++ [x]) := by
  have hl : hs.length = ls.length := by have := h1.1; simpa using this
  refine ⟨_, by rw [List.length_append]; exact ho, fun j hj => ?_⟩
  rw [List.length_append, List.length_singleton] at hj
  by_cases hj2 : j < ls.length
  · obtain ⟨q1, k1, e1, e2⟩ := h2 j hj2
    refine ⟨q1, k1, ?_, ?_⟩
    · rw [List.getElem?_append_left (by omega), List.getElem_append_left hj2]; exact e1
    · rw [List.getElem_append_left hj2]; exact e2
  · obtain rfl : j = ls.length := by omega
    refine ⟨q, k, ?_, ?_⟩
    · rw [List.getElem?_append_right (by omega), hl, Nat.sub_self]
      simp
    · simpa using hx
theorem LsA.sl {w0 w : World} {base : Nat} {v : Value} {ls : List (List UInt8)} (h : LsA w0 w base v ls) (hb : Below w0.heap.size w0 w) : ∃ p c, v = .slice p ls.length c ∧ Pts w p ls.length c ls := by
  obtain ⟨hs, h1, h2⟩ := h.all
  obtain ⟨p, c, rfl, hS⟩ := own_sl h1
  refine ⟨p, c, rfl, rfl, hS.le, hS.max, hS.nil0, fun a ha j hj => ?_⟩
  obtain ⟨q, k, e1, e2⟩ := h2 j hj
  exact ⟨q, _, k, hS.cell a ha j _ e1, e2.below hb⟩
end Go.Proofs.YtjbjlmdfgpoadaaDoor.Cut
