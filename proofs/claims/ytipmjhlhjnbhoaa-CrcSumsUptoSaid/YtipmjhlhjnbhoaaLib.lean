/- GENERAL LEMMAS FOR ALL WALKS OF THIS SET (no program is named): slices that read as lists, rows of cells, what stays below a block, small facts on numbers. Conditions: none. -/
import Derived.WalkKit
import Derived.WalkSpells
import Derived.WalkLawsBesides
import Derived.Deep.WholeRow
import Derived.Lib.Hide
import Derived.Lib.SlBytesConst
import Derived.Laws.AppendOwnNone
namespace Go.Mir
open Go.RowKit

/-- a slice whose cells read as 'vs': n elements of 'size' cells each, c of room -/
structure Sl (w : World) (p : Option Addr) (n c size : Nat) (vs : List Value) : Prop where
  len : vs.length = n * size
  le : n ≤ c
  max : c ≤ 9223372036854775807
  nil0 : p = none → c = 0
  cell : ∀ a, p = some a → ∀ j u, vs[j]? = some u → w.cell? (a.add j) = some u

theorem Sl.below {w w' : World} {p : Option Addr} {n c size : Nat} {vs : List Value} (h : Sl w p n c size vs) (hb : Below w.heap.size w w') : Sl w' p n c size vs :=
  ⟨h.len, h.le, h.max, h.nil0, fun a ha j u hu => by
    have := h.cell a ha j u hu
    rw [hb.cell (block_lt_of_cell this)]; exact this⟩

theorem addr_add_block (a : Addr) (j : Nat) : (a.add j).block = a.block := by unfold Addr.add; split <;> rfl

/-- the same below a smaller block, where all its cells lie there -/
theorem Sl.below' {B : Nat} {w w' : World} {p : Option Addr} {n c size : Nat} {vs : List Value} (h : Sl w p n c size vs) (hb : Below B w w') (hB : ∀ a, p = some a → a.block < B) : Sl w' p n c size vs :=
  ⟨h.len, h.le, h.max, h.nil0, fun a ha j u hu => by
    have := h.cell a ha j u hu
    rw [hb.cell (by rw [addr_add_block]; exact hB a ha)]; exact this⟩

theorem Sl.nil (w : World) (size : Nat) : Sl w none 0 0 size [] := ⟨by simp, by omega, by omega, fun _ => rfl, fun _ h => by cases h⟩

theorem cell_spot {w : World} {a : Addr} {v : Value} (h : w.cell? a = some v) : a = ⟨a.block, a.off, none⟩ := by
  obtain ⟨b, o, s⟩ := a
  cases s with
  | none => rfl
  | some k => simp only [World.cell?] at h; split at h <;> simp at h

theorem add_none (b o j : Nat) : (⟨b, o, none⟩ : Addr).add j = ⟨b, o + j, none⟩ := Addr.add_lit b o j

/-- where there is an element there is an address -/
theorem Sl.addr {w : World} {p : Option Addr} {n c size : Nat} {vs : List Value} (h : Sl w p n c size vs) (hn : 0 < n) (hs : 0 < size) : ∃ b o, p = some ⟨b, o, none⟩ := by
  cases p with
  | none => have := h.nil0 rfl; have := h.le; omega
  | some a =>
    have hl : 0 < vs.length := by rw [h.len]; exact Nat.mul_pos hn hs
    have := h.cell a rfl 0 vs[0] (by simp [hl])
    rw [show a.add 0 = a from rfl] at this
    exact ⟨a.block, a.off, congrArg some (cell_spot this)⟩

theorem Sl.at {w : World} {b o : Nat} {n c size : Nat} {vs : List Value} (h : Sl w (some ⟨b, o, none⟩) n c size vs) {j : Nat} {u : Value} (hu : vs[j]? = some u) : w.cell? ⟨b, o + j, none⟩ = some u := by
  rw [← add_none]; exact h.cell _ rfl j u hu

/-- bytes, numbers of a kind, as values -/
def bytesV (l : List UInt8) : List Value := l.map fun b => .int .u8 (b.toNat : Int)
theorem bytesV_length (l : List UInt8) : (bytesV l).length = l.length := by simp [bytesV]
theorem bytesV_get (l : List UInt8) (j : Nat) (h : j < l.length) : (bytesV l)[j]? = some (.int .u8 (l[j].toNat : Int)) := by simp [bytesV, h]
theorem bytesV_append (a b : List UInt8) : bytesV (a ++ b) = bytesV a ++ bytesV b := by simp [bytesV]
theorem bytesV_one (l : List UInt8) : ∀ u ∈ bytesV l, u.oneCell' = true := by
  intro u hu; simp only [bytesV, List.mem_map] at hu; obtain ⟨_, _, rfl⟩ := hu; rfl

/-- a []byte that reads as 'l' -/
abbrev Bs (w : World) (p : Option Addr) (n c : Nat) (l : List UInt8) : Prop := Sl w p n c 1 (bytesV l)
theorem Bs.length {w : World} {p : Option Addr} {n c : Nat} {l : List UInt8} (h : Bs w p n c l) : l.length = n := by
  have := h.len; simpa [bytesV_length] using this
theorem Bs.byte {w : World} {b o : Nat} {n c : Nat} {l : List UInt8} (h : Bs w (some ⟨b, o, none⟩) n c l) {j : Nat} (hj : j < l.length) : w.cell? ⟨b, o + j, none⟩ = some (.int .u8 (l[j].toNat : Int)) :=
  h.at (bytesV_get l j hj)

/-- [][]byte: each element a slice of its own -/
structure Pts (w : World) (p : Option Addr) (n c : Nat) (ls : List (List UInt8)) : Prop where
  len : ls.length = n
  le : n ≤ c
  max : c ≤ 9223372036854775807
  nil0 : p = none → c = 0
  cell : ∀ a, p = some a → ∀ j (h : j < ls.length), ∃ q m k, w.cell? (a.add j) = some (.slice q m k) ∧ Bs w q m k ls[j]

theorem Pts.below {w w' : World} {p : Option Addr} {n c : Nat} {ls : List (List UInt8)} (h : Pts w p n c ls) (hb : Below w.heap.size w w') : Pts w' p n c ls :=
  ⟨h.len, h.le, h.max, h.nil0, fun a ha j hj => by
    obtain ⟨q, m, k, h1, h2⟩ := h.cell a ha j hj
    exact ⟨q, m, k, by rw [hb.cell (block_lt_of_cell h1)]; exact h1, h2.below hb⟩⟩
theorem Pts.addr {w : World} {p : Option Addr} {n c : Nat} {ls : List (List UInt8)} (h : Pts w p n c ls) (hn : 0 < n) : ∃ b o, p = some ⟨b, o, none⟩ := by
  cases p with
  | none => have := h.nil0 rfl; have := h.le; omega
  | some a =>
    obtain ⟨q, m, k, h1, _⟩ := h.cell a rfl 0 (by rw [h.len]; exact hn)
    rw [show a.add 0 = a from rfl] at h1
    exact ⟨a.block, a.off, congrArg some (cell_spot h1)⟩

theorem Below.allocs (w : World) (o : Obj) : Below w.heap.size w (w.alloc o) := (Below.refl _ _).alloc (Nat.le_refl _) _
theorem cell_alloc_new (w : World) (cs : Array Value) (t : TypeId) (j : Nat) : (w.alloc (.cells cs t)).cell? ⟨w.heap.size, j, none⟩ = cs[j]? := by
  rw [cell_of_row _ _ _ _ _ _ (heap_alloc_last _ _)]

/-- the slices that a literal has just laid -/
theorem Pts.made0 (w : World) : Pts w none 0 0 [] := ⟨rfl, by omega, by omega, fun _ => rfl, fun _ h => by cases h⟩
theorem Pts.made1 {w : World} {p : Option Addr} {n c b : Nat} {l : List UInt8} (h : Bs w p n c l) (t : TypeId) (hb : b = w.heap.size) : Pts (w.alloc (.cells #[.slice p n c] t)) (some ⟨b, 0, none⟩) 1 1 [l] := by
  subst hb
  exact ⟨rfl, by omega, by omega, fun h => (by cases h), fun a ha j hj => by
    obtain rfl := Option.some.inj ha
    have hj0 : j = 0 := by simp at hj; omega
    subst hj0
    exact ⟨p, n, c, by rw [add_none, cell_alloc_new]; rfl, h.below (Below.allocs _ _)⟩⟩
theorem Pts.made2 {w : World} {p p' : Option Addr} {n c n' c' b : Nat} {l l' : List UInt8} (h : Bs w p n c l) (h' : Bs w p' n' c' l') (t : TypeId) (hb : b = w.heap.size) : Pts (w.alloc (.cells #[.slice p n c, .slice p' n' c'] t)) (some ⟨b, 0, none⟩) 2 2 [l, l'] := by
  subst hb
  exact ⟨rfl, by omega, by omega, fun h => (by cases h), fun a ha j hj => by
    obtain rfl := Option.some.inj ha
    have hj2 : j = 0 ∨ j = 1 := by simp at hj; omega
    rcases hj2 with rfl | rfl
    · exact ⟨p, n, c, by rw [add_none, cell_alloc_new]; rfl, h.below (Below.allocs _ _)⟩
    · exact ⟨p', n', c', by rw [add_none, cell_alloc_new]; rfl, h'.below (Below.allocs _ _)⟩⟩
/-- the bytes that a literal has just laid -/
theorem Bs.made (w : World) (l : List UInt8) (cs : Array Value) (t : TypeId) (fr : Nat × Nat) (n : Nat) (hcs : cs.toList = bytesV l) (hn : l.length = n) (hm : n ≤ 9223372036854775807) : Bs (w.alloc (.cells cs t fr)) (some ⟨w.heap.size, 0, none⟩) n n l :=
  ⟨by rw [bytesV_length, hn, Nat.mul_one], by omega, hm, fun h => (by cases h), fun a ha j u hu => by
    obtain rfl := Option.some.inj ha
    rw [add_none, World.cell?_alloc_mark, ← Array.getElem?_toList, hcs, Nat.zero_add]; exact hu⟩

theorem own_below {w w' : World} {base e size n : Nat} {v : Value} {xs : List Value} (h : w.ownsRow base e size v n xs) (hg : w.grownBy w' v.ownBlock) (hb : base ≤ w.heap.size) : Below base w w' :=
  (Below.refl _ _).grown hg hb (fun k hk => (h.lt k hk).1)

/-- what the call owns reads as a slice -/
theorem own_sl {w : World} {base e size n : Nat} {v : Value} {xs : List Value} (h : w.ownsRow base e size v n xs) : ∃ p c, v = .slice p n c ∧ Sl w p n c size xs := by
  rcases h.2 with ⟨rfl, rfl⟩ | ⟨g, cap, cur, rfl, hb, hg, hn, hm, hs, ht⟩
  · refine ⟨none, 0, rfl, ?_⟩
    have : xs = [] := by have := h.1; simpa using this
    subst this; exact Sl.nil _ _
  · refine ⟨_, _, rfl, ⟨h.1, hn, by simpa [maxLen] using hm, fun h => (by cases h), fun a ha j u hu => ?_⟩⟩
    obtain rfl := Option.some.inj ha
    exact h.cells rfl j u hu

theorem own_some {w : World} {base e size n : Nat} {v : Value} {xs : List Value} (h : w.ownsRow base e size v n xs) (hv : ¬ v = .slice none 0 0) : ∃ g cap, v = .slice (some ⟨g, 0, none⟩) n cap ∧ base ≤ g ∧ n ≤ cap ∧ cap ≤ 9223372036854775807 := by
  rcases h.2 with ⟨rfl, rfl⟩ | ⟨g, cap, cur, rfl, hb, hg, hn, hm, hs, ht⟩
  · exact absurd rfl hv
  · exact ⟨g, cap, rfl, hb, hn, by simpa [maxLen] using hm⟩

/-- append of whatever slice onto what the call owns -/
theorem wpList_append_sl {P : Program} {w : World} {ops : Array Oper} {rest : List Oper} {o : Oper} {a : Act} {Q : Exit → Act → World → Prop} (hgd : o.guard = none) (s x : Operand) (t : TypeId)
    (ho : o.op = .call { callee := .builtin .append, args := #[s, x], argTypes := #[t, t] })
    {base e size bytes : Nat} {z : Value} (ht : P.underlying t = some (.slice e)) (hi : (P.info? e).map (fun i => (i.zero, i.size, i.bytes)) = some (some z, size, bytes)) (hzs : z.cells.size = size) (hsz : 0 < size)
    {v : Value} {n : Nat} {xs : List Value} (hs : a.eval s = v) (hown : w.ownsRow base e size v n xs)
    {px : Option Addr} {m c : Nat} {news : List Value} (hx : a.eval x = .slice px m c) (hS : Sl w px m c size news) (h1 : ∀ u ∈ news, u.oneCell' = true)
    (hb : n + m ≤ 9223372036854775807 ∧ (n + m) * bytes ≤ 140737488355328) (hbase : base ≤ w.heap.size)
    (h : ∀ v' w', w'.ownsRow base e size v' (n + m) (xs ++ news) → w.grownBy w' v.ownBlock → Below base w w' → (v' = .slice none 0 0 ↔ v = .slice none 0 0 ∧ m = 0) → wpList P ops Q rest (a.put o.dst v') w') : wpList P ops Q (o :: rest) a w := by
  obtain ⟨i, hi0, hz, hsize, hby⟩ := info_parts hi
  cases px with
  | some ad =>
    exact wpList_append_own w hgd s x t ho base e i z size bytes ht hi0 hz hsize hby hzs hsz v n xs hs hown ad m c news hx hS.len (hS.cell ad rfl) h1 (by simpa [maxLen] using hb.1) hb.2 hbase
      (fun v' w' h2 h3 h4 => h v' w' h2 h3 (own_below hown h3 hbase) h4)
  | none =>
    have hc := hS.nil0 rfl
    have hm0 : m = 0 := by have := hS.le; omega
    subst hc hm0
    have hn : news = [] := by have := hS.len; simpa using this
    subst hn
    have hxs : xs ++ [] = xs := List.append_nil _
    refine wpList_append_own_none hgd s x t ho base e i size ht hi0 v n xs hs hown hx ?_
    exact h v w (by rw [hxs]; exact hown) (World.grownBy.refl _ _) (Below.refl _ _) ⟨fun h => ⟨h, rfl⟩, fun h => h.1⟩

theorem below_call {w wp W wk : World} (H : Below w.heap.size w wp) (hW : Below wp.heap.size wp W) (h : Below W.heap.size W wk) : Below w.heap.size w wk :=
  H.trans ((hW.trans (h.mono hW.size)).mono H.size)

/-- what a cell holds, behind a name that the walk does not open -/
def cellOr (w : World) (a : Addr) : Value := (w.cell? a).getD undef
theorem cellOr_eq {w : World} {a : Addr} (h : (w.cell? a).isSome = true) : w.cell? a = some (cellOr w a) := by
  unfold cellOr
  cases hc : w.cell? a with
  | none => rw [hc] at h; cases h
  | some v => rfl
theorem below_of_drew {B : Nat} {w w1 : World} (h : Below B w.drew w1) : Below B w w1 := ⟨h.os, h.tape, h.output, h.size, h.block⟩
theorem block_old {w : World} (o : Obj) {i : Nat} {x : Obj} (h : w.heap[i]? = some x) : (w.alloc o).heap[i]? = some x := by
  rw [Below.heap_alloc w o i (Array.getElem?_eq_some_iff.1 h).1]; exact h
theorem Below.keepBlock {B : Nat} {w w' : World} (h : Below B w w') {i : Nat} {x : Obj} (hi : w.heap[i]? = some x) (hB : i < B) : w'.heap[i]? = some x := by rw [h.block i hB]; exact hi
theorem Below.keepOld {w w' : World} (h : Below w.heap.size w w') {i : Nat} {x : Obj} (hi : w.heap[i]? = some x) : w'.heap[i]? = some x := Below.keepBlock h hi (Array.getElem?_eq_some_iff.1 hi).1

end Go.Mir
