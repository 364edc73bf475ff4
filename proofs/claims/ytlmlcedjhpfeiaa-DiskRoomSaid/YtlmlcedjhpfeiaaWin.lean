/- A SLICE THAT THE PROGRAM OWNS, AND THAT MAY HAVE BEEN CUT TO ITS LENGTH ('s[:n:n]'): as it reads, appended to, cut. No program is named. Conditions: none. -/
import Derived.Test.YtlmlcedjhpfeiaaRow
import Derived.ArgAppend
import Derived.Maps.AppendAt
namespace Go.Mir
open Go.RowKit

/-- what is owned: a row with its room known, or a row that is full -/
def World.keepsRow (w : World) (base : Nat) (e : TypeId) (size : Nat) (v : Value) (n : Nat) (xs : List Value) : Prop :=
  xs.length = n * size ∧ ((v = .slice none 0 0 ∧ n = 0) ∨
    ∃ g cap cur, v = .slice (some ⟨g, 0, none⟩) n cap ∧ base ≤ g ∧ w.heap[g]? = some (.cells cur e (0, 0)) ∧ n ≤ cap ∧ cap ≤ maxLen ∧ (cur.size = cap * size ∨ cap = n) ∧ n * size ≤ cur.size ∧ cur.toList.take (n * size) = xs)
theorem keeps_of_owns {w : World} {base e size n : Nat} {v : Value} {xs : List Value} (h : w.ownsRow base e size v n xs) : World.keepsRow w base e size v n xs := by
  refine ⟨h.1, ?_⟩
  rcases h.2 with hn | ⟨g, cap, cur, rfl, hb, hg, hnc, hcm, hs, ht⟩
  · exact .inl hn
  · exact .inr ⟨g, cap, cur, rfl, hb, hg, hnc, hcm, .inl hs, by rw [hs]; exact Nat.mul_le_mul_right _ hnc, ht⟩
theorem keeps_nil (w : World) (base e size : Nat) : World.keepsRow w base e size (.slice none 0 0) 0 [] := ⟨by simp, .inl ⟨rfl, rfl⟩⟩
theorem keeps_lt {w : World} {base e size n : Nat} {v : Value} {xs : List Value} (h : World.keepsRow w base e size v n xs) : ∀ k, v.ownBlock = some k → base ≤ k ∧ k < w.heap.size := by
  intro k hk
  rcases h.2 with ⟨rfl, _⟩ | ⟨g, cap, cur, rfl, hb, hg, _⟩
  · simp [Value.ownBlock] at hk
  · simp [Value.ownBlock] at hk
    subst hk
    exact ⟨hb, (Array.getElem?_eq_some_iff.1 hg).1⟩
theorem keeps_sl {w : World} {base e size n : Nat} {v : Value} {xs : List Value} (h : World.keepsRow w base e size v n xs) : ∃ p c, v = .slice p n c ∧ Sl w p n c size xs := by
  rcases h.2 with ⟨rfl, rfl⟩ | ⟨g, cap, cur, rfl, hb, hg, hn, hm, hs, hz, ht⟩
  · refine ⟨none, 0, rfl, ?_⟩
    have : xs = [] := by have := h.1; simpa using this
    subst this; exact Sl.nil _ _
  · refine ⟨_, _, rfl, ⟨h.1, hn, by simpa [maxLen] using hm, fun h => (by cases h), fun a ha j u hu => ?_⟩⟩
    obtain rfl := Option.some.inj ha
    have hj : j < n * size := by
      have := (List.getElem?_eq_some_iff.1 hu).1
      rwa [h.1] at this
    rw [add_none, Nat.zero_add, cell_of_row _ _ _ _ _ _ hg, ← Array.getElem?_toList]
    rw [← ht, List.getElem?_take, if_pos hj] at hu
    exact hu
theorem keeps_touch {S : Nat → Prop} {w w' : World} {base e size n : Nat} {v : Value} {xs : List Value} (h : World.keepsRow w base e size v n xs) (ht : Turns S w w') (ho : ∀ k, v.ownBlock = some k → ¬ S k) : World.keepsRow w' base e size v n xs := by
  refine ⟨h.1, ?_⟩
  rcases h.2 with hn | ⟨g, cap, cur, rfl, hb, hgg, rest⟩
  · exact .inl hn
  · exact .inr ⟨g, cap, cur, rfl, hb, ht.keep hgg (ho g rfl), rest⟩
theorem keeps_below {w w' : World} {base e size n : Nat} {v : Value} {xs : List Value} (h : World.keepsRow w base e size v n xs) (hb : Below w.heap.size w w') : World.keepsRow w' base e size v n xs :=
  keeps_touch h (Turns.of_below (S := fun _ => False) hb) (fun _ _ h => h)
/-- it lies apart from a row of another type -/
theorem keeps_ne_cells {w : World} {base e size n : Nat} {v : Value} {xs : List Value} {k : Nat} {M : Array Value} {t : TypeId} {fr : Nat × Nat} (h : World.keepsRow w base e size v n xs) (hk : w.heap[k]? = some (.cells M t fr)) (hne : t ≠ e) : ∀ i, v.ownBlock = some i → ¬ i = k := by
  intro i hi e1
  subst e1
  rcases h.2 with ⟨rfl, _⟩ | ⟨g, cap, cur, rfl, _, hg, _⟩
  · simp [Value.ownBlock] at hi
  · simp [Value.ownBlock] at hi
    subst hi
    rw [hk] at hg; cases hg; exact hne rfl
/-- cut: 's[:k:k]' -/
theorem keeps_cut {w : World} {base e size n k : Nat} {p : Option Addr} {c : Nat} {xs : List Value} (h : World.keepsRow w base e size (.slice p n c) n xs) (hk : k ≤ n) (hp : p ≠ none) : World.keepsRow w base e size (.slice p k k) k (xs.take (k * size)) := by
  have hle : k * size ≤ n * size := Nat.mul_le_mul_right _ hk
  refine ⟨by rw [List.length_take, h.1]; omega, ?_⟩
  rcases h.2 with ⟨hv, _⟩ | ⟨g, cap, cur, hv, hb, hg, hn, hm, hs, hz, ht⟩
  · cases hv; exact absurd rfl hp
  · cases hv
    exact .inr ⟨g, k, cur, rfl, hb, hg, Nat.le_refl _, by omega, .inr rfl, by omega, by rw [← ht, List.take_take, Nat.min_eq_left hle]⟩
/-- append -/
theorem wpList_append_keeps {P : Program} {w : World} {ops : Array Oper} {rest : List Oper} {o : Oper} {a : Act} {Q : Exit → Act → World → Prop} (hgd : o.guard = none) (s x : Operand) (t : TypeId)
    (ho : o.op = .call { callee := .builtin .append, args := #[s, x], argTypes := #[t, t] })
    {base e size bytes : Nat} {z : Value} (ht : P.underlying t = some (.slice e)) (hi : (P.info? e).map (fun i => (i.zero, i.size, i.bytes)) = some (some z, size, bytes)) (hzs : z.cells.size = size) (hsz : 0 < size)
    {v : Value} {n : Nat} {xs : List Value} (hs : a.eval s = v) (hown : World.keepsRow w base e size v n xs)
    {ax : Addr} {m c : Nat} {news : List Value} (hx : a.eval x = .slice (some ax) m c) (hS : Sl w (some ax) m c size news) (h1 : ∀ u ∈ news, u.oneCell' = true) (hm0 : 0 < m)
    (hb : n + m ≤ 9223372036854775807 ∧ (n + m) * bytes ≤ 140737488355328) (hbase : base ≤ w.heap.size)
    (h : ∀ p' c' w', World.keepsRow w' base e size (.slice p' (n + m) c') (n + m) (xs ++ news) → w.grownBy w' v.ownBlock → (∀ k, (Value.slice p' (n + m) c').ownBlock = some k → v.ownBlock = some k ∨ w.heap.size ≤ k) → p' ≠ none →
      wpList P ops Q rest (a.put o.dst (.slice p' (n + m) c')) w') : wpList P ops Q (o :: rest) a w := by
  obtain ⟨i, hi0, hz, hsize, hby⟩ := info_parts hi
  have hmax : n + m ≤ maxLen := by simpa [maxLen] using hb.1
  have owned : ∀ (hw : w.ownsRow base e size v n xs), wpList P ops Q (o :: rest) a w := fun hw => by
    refine wpList_append_nx hgd s x t ho ht hi hzs hsz hs hw hx hS h1 hb hbase fun p' c' w' k1 k2 k3 k4 => ?_
    refine h p' c' w' (keeps_of_owns k1) k2 (fun k hk => (k3 k hk).imp id (fun e => by rw [e]; exact Nat.le_refl _)) (fun hp => ?_)
    have := (k4.1 hp).2
    omega
  rcases hown.2 with ⟨hv, hn⟩ | ⟨g, cap, cur, hv, hbg, hg, hnc, hcm, hsh, hzz, htk⟩
  · exact owned ⟨hown.1, .inl ⟨hv, hn⟩⟩
  · rcases hsh with hsh | hsh
    · exact owned ⟨hown.1, .inr ⟨g, cap, cur, hv, hbg, hg, hnc, hcm, hsh, htk⟩⟩
    · subst hsh
      refine wpList_plain hgd fun K hK => ?_
      have holds : ∀ j u, xs[j]? = some u → w.cell? ((⟨g, 0, none⟩ : Addr).add j) = some u := fun j u hu => by
        obtain ⟨p, c', e1, hsl⟩ := keeps_sl hown
        rw [hv] at e1
        cases e1
        exact hsl.cell _ rfl j u hu
      obtain ⟨v', w', hr, k1, k2⟩ := run_append_arg_grows (P := P) w t o.type e i z size bytes ht hi0 hz hsize hby hzs hsz ⟨g, 0, none⟩ cap cap xs hown.1 holds ax m c news hS.len (hS.cell ax rfl) (by omega) hmax hb.2
      unfold Oper.wp execOp
      simp only [ho, resolve, invoke, builtin, Sem.run_bind, Sem.run_pure, Result.andThen_ok, List.map_toArray, List.map_cons, List.map_nil, hs, hv, hx, hr]
      obtain ⟨p', c', rfl, hsl⟩ := own_sl k1
      have hp' : p' ≠ none := fun hp => by
        have hc := hsl.nil0 hp
        have := hsl.le
        omega
      refine hK _ _ (h p' c' w' (keeps_of_owns (own_base k1 (fun k hk => Nat.le_trans hbase (k1.lt k hk).1))) ?_ ?_ hp')
      · exact ⟨k2.os, k2.tape, k2.output, k2.size, fun k hk _ => k2.block k hk (by simp)⟩
      · intro k hk
        exact .inr (k1.lt k hk).1
end Go.Mir
