/- GENERAL LEMMAS FOR ALL WALKS OF THIS SET (no program is named): slices that read as lists, rows of cells, what stays below a block, small facts on numbers. Conditions: none. -/
import Derived.WalkKit
import Derived.WalkSpells
import Derived.WalkLawsBesides
import Derived.Deep.WholeRow
import Derived.Lib.Hide
import Derived.Lib.SlBytesConst
import Derived.Laws.AppendOwnNone
import Derived.Maps.AppendAt
namespace Go.Mir
open Go.RowKit

/-- a slice whose cells read as 'vs': n elements of 'size' cells each, c of room -/
structure Sl (w : World) (p : Option Addr) (n c size : Nat) (vs : List Value) : Prop where
  len : vs.length = n * size
  le : n ≤ c
  max : c ≤ 9223372036854775807
  nil0 : p = none → c = 0
  cell : ∀ a, p = some a → ∀ j u, vs[j]? = some u → w.cell? (a.add j) = some u

theorem Sl.below {w w' : World} {p : Option Addr} {n c size : Nat} {vs : List Value} (h : Sl w p n c size vs) (hb : Below w.heap.size w w') : Sl w' p n c size vs :=
  ⟨h.len, h.le, h.max, h.nil0, fun a ha j u hu => by
    have := h.cell a ha j u hu
    rw [hb.cell (block_lt_of_cell this)]; exact this⟩

theorem addr_add_block (a : Addr) (j : Nat) : (a.add j).block = a.block := by unfold Addr.add; split <;> rfl

/-- the same below a smaller block, where all its cells lie there -/
theorem Sl.below' {B : Nat} {w w' : World} {p : Option Addr} {n c size : Nat} {vs : List Value} (h : Sl w p n c size vs) (hb : Below B w w') (hB : ∀ a, p = some a → a.block < B) : Sl w' p n c size vs :=
  ⟨h.len, h.le, h.max, h.nil0, fun a ha j u hu => by
    have := h.cell a ha j u hu
    rw [hb.cell (by rw [addr_add_block]; exact hB a ha)]; exact this⟩

theorem Sl.nil (w : World) (size : Nat) : Sl w none 0 0 size [] := ⟨by simp, by omega, by omega, fun _ => rfl, fun _ h => by cases h⟩

theorem cell_spot {w : World} {a : Addr} {v : Value} (h : w.cell? a = some v) : a = ⟨a.block, a.off, none⟩ := by
  obtain ⟨b, o, s⟩ := a
  cases s with
  | none => rfl
  | some k => simp only [World.cell?] at h; split at h <;> simp at h

theorem add_none (b o j : Nat) : (⟨b, o, none⟩ : Addr).add j = ⟨b, o + j, none⟩ := Addr.add_lit b o j

/-- where there is an element there is an address -/
theorem Sl.addr {w : World} {p : Option Addr} {n c size : Nat} {vs : List Value} (h : Sl w p n c size vs) (hn : 0 < n) (hs : 0 < size) : ∃ b o, p = some ⟨b, o, none⟩ := by
  cases p with
  | none => have := h.nil0 rfl; have := h.le; omega
  | some a =>
    have hl : 0 < vs.length := by rw [h.len]; exact Nat.mul_pos hn hs
    have := h.cell a rfl 0 vs[0] (by simp [hl])
    rw [show a.add 0 = a from rfl] at this
    exact ⟨a.block, a.off, congrArg some (cell_spot this)⟩

theorem Sl.at {w : World} {b o : Nat} {n c size : Nat} {vs : List Value} (h : Sl w (some ⟨b, o, none⟩) n c size vs) {j : Nat} {u : Value} (hu : vs[j]? = some u) : w.cell? ⟨b, o + j, none⟩ = some u := by
  rw [← add_none]; exact h.cell _ rfl j u hu

/-- bytes, numbers of a kind, as values -/
def bytesV (l : List UInt8) : List Value := l.map fun b => .int .u8 (b.toNat : Int)
theorem bytesV_length (l : List UInt8) : (bytesV l).length = l.length := by simp [bytesV]
theorem bytesV_get (l : List UInt8) (j : Nat) (h : j < l.length) : (bytesV l)[j]? = some (.int .u8 (l[j].toNat : Int)) := by simp [bytesV, h]
theorem bytesV_append (a b : List UInt8) : bytesV (a ++ b) = bytesV a ++ bytesV b := by simp [bytesV]
theorem bytesV_one (l : List UInt8) : ∀ u ∈ bytesV l, u.oneCell' = true := by
  intro u hu; simp only [bytesV, List.mem_map] at hu; obtain ⟨_, _, rfl⟩ := hu; rfl

/-- a []byte that reads as 'l' -/
abbrev Bs (w : World) (p : Option Addr) (n c : Nat) (l : List UInt8) : Prop := Sl w p n c 1 (bytesV l)
theorem Bs.length {w : World} {p : Option Addr} {n c : Nat} {l : List UInt8} (h : Bs w p n c l) : l.length = n := by
  have := h.len; simpa [bytesV_length] using this
theorem Bs.byte {w : World} {b o : Nat} {n c : Nat} {l : List UInt8} (h : Bs w (some ⟨b, o, none⟩) n c l) {j : Nat} (hj : j < l.length) : w.cell? ⟨b, o + j, none⟩ = some (.int .u8 (l[j].toNat : Int)) :=
  h.at (bytesV_get l j hj)

theorem getElem?_flatMap {α β : Type} (f : α → List β) (m : Nat) : ∀ (l : List α), (∀ x ∈ l, (f x).length = m) → ∀ i j (hi : i < l.length), j < m → (l.flatMap f)[i * m + j]? = (f l[i])[j]?
  | [], _, _, _, hi, _ => by simp at hi
  | x :: l, h, i, j, hi, hj => by
    rw [List.flatMap_cons]
    have hx := h x (by simp)
    cases i with
    | zero => rw [Nat.zero_mul, Nat.zero_add, List.getElem?_append_left (by omega)]; rfl
    | succ i =>
      rw [List.getElem?_append_right (by rw [hx, Nat.add_mul]; omega), hx, show (i + 1) * m + j - m = i * m + j from by rw [Nat.add_mul]; omega]
      exact getElem?_flatMap f m l (fun y hy => h y (by simp [hy])) i j (by simpa using hi) hj
/-- a slice of arrays of bytes, each of 'size' -/
structure Is (w : World) (p : Option Addr) (n c size : Nat) (ids : List (List UInt8)) : Prop where
  sl : Sl w p n c size (ids.flatMap bytesV)
  each : ∀ x ∈ ids, x.length = size
  count : ids.length = n
theorem Is.below {w w' : World} {p : Option Addr} {n c size : Nat} {ids : List (List UInt8)} (h : Is w p n c size ids) (hb : Below w.heap.size w w') : Is w' p n c size ids := ⟨h.sl.below hb, h.each, h.count⟩
theorem Is.one {w : World} {b o n c size : Nat} {ids : List (List UInt8)} (h : Is w (some ⟨b, o, none⟩) n c size ids) (i : Nat) (hi : i < ids.length) (hs : size ≤ 9223372036854775807) : Bs w (some ⟨b, o + i * size, none⟩) size size ids[i] :=
  ⟨by rw [bytesV_length, h.each _ (List.getElem_mem hi), Nat.mul_one], Nat.le_refl _, hs, fun h => (by cases h), fun a ha j u hu => by
    obtain rfl := Option.some.inj ha
    have hj : j < size := by
      have := (List.getElem?_eq_some_iff.1 hu).1
      rwa [bytesV_length, h.each _ (List.getElem_mem hi)] at this
    rw [add_none, Nat.add_assoc]
    refine h.sl.at ?_
    rw [getElem?_flatMap bytesV size ids (fun x hx => by rw [bytesV_length, h.each x hx]) i j hi hj]; exact hu⟩

/-- [][]byte: each element a slice of its own -/
structure Pts (w : World) (p : Option Addr) (n c : Nat) (ls : List (List UInt8)) : Prop where
  len : ls.length = n
  le : n ≤ c
  max : c ≤ 9223372036854775807
  nil0 : p = none → c = 0
  cell : ∀ a, p = some a → ∀ j (h : j < ls.length), ∃ q m k, w.cell? (a.add j) = some (.slice q m k) ∧ Bs w q m k ls[j]

theorem Pts.below {w w' : World} {p : Option Addr} {n c : Nat} {ls : List (List UInt8)} (h : Pts w p n c ls) (hb : Below w.heap.size w w') : Pts w' p n c ls :=
  ⟨h.len, h.le, h.max, h.nil0, fun a ha j hj => by
    obtain ⟨q, m, k, h1, h2⟩ := h.cell a ha j hj
    exact ⟨q, m, k, by rw [hb.cell (block_lt_of_cell h1)]; exact h1, h2.below hb⟩⟩
theorem Pts.addr {w : World} {p : Option Addr} {n c : Nat} {ls : List (List UInt8)} (h : Pts w p n c ls) (hn : 0 < n) : ∃ b o, p = some ⟨b, o, none⟩ := by
  cases p with
  | none => have := h.nil0 rfl; have := h.le; omega
  | some a =>
    obtain ⟨q, m, k, h1, _⟩ := h.cell a rfl 0 (by rw [h.len]; exact hn)
    rw [show a.add 0 = a from rfl] at h1
    exact ⟨a.block, a.off, congrArg some (cell_spot h1)⟩

theorem Below.allocs (w : World) (o : Obj) : Below w.heap.size w (w.alloc o) := (Below.refl _ _).alloc (Nat.le_refl _) _
theorem cell_alloc_new (w : World) (cs : Array Value) (t : TypeId) (j : Nat) : (w.alloc (.cells cs t)).cell? ⟨w.heap.size, j, none⟩ = cs[j]? := by
  rw [cell_of_row _ _ _ _ _ _ (heap_alloc_last _ _)]

/-- the slices that a literal has just laid -/
theorem Pts.made0 (w : World) : Pts w none 0 0 [] := ⟨rfl, by omega, by omega, fun _ => rfl, fun _ h => by cases h⟩
theorem Pts.made1 {w : World} {p : Option Addr} {n c b : Nat} {l : List UInt8} (h : Bs w p n c l) (t : TypeId) (hb : b = w.heap.size) : Pts (w.alloc (.cells #[.slice p n c] t)) (some ⟨b, 0, none⟩) 1 1 [l] := by
  subst hb
  exact ⟨rfl, by omega, by omega, fun h => (by cases h), fun a ha j hj => by
    obtain rfl := Option.some.inj ha
    have hj0 : j = 0 := by simp at hj; omega
    subst hj0
    exact ⟨p, n, c, by rw [add_none, cell_alloc_new]; rfl, h.below (Below.allocs _ _)⟩⟩
theorem Pts.made2 {w : World} {p p' : Option Addr} {n c n' c' b : Nat} {l l' : List UInt8} (h : Bs w p n c l) (h' : Bs w p' n' c' l') (t : TypeId) (hb : b = w.heap.size) : Pts (w.alloc (.cells #[.slice p n c, .slice p' n' c'] t)) (some ⟨b, 0, none⟩) 2 2 [l, l'] := by
  subst hb
  exact ⟨rfl, by omega, by omega, fun h => (by cases h), fun a ha j hj => by
    obtain rfl := Option.some.inj ha
    have hj2 : j = 0 ∨ j = 1 := by simp at hj; omega
    rcases hj2 with rfl | rfl
    · exact ⟨p, n, c, by rw [add_none, cell_alloc_new]; rfl, h.below (Below.allocs _ _)⟩
    · exact ⟨p', n', c', by rw [add_none, cell_alloc_new]; rfl, h'.below (Below.allocs _ _)⟩⟩
/-- the bytes that a literal has just laid -/
theorem Bs.made (w : World) (l : List UInt8) (cs : Array Value) (t : TypeId) (fr : Nat × Nat) (n : Nat) (hcs : cs.toList = bytesV l) (hn : l.length = n) (hm : n ≤ 9223372036854775807) : Bs (w.alloc (.cells cs t fr)) (some ⟨w.heap.size, 0, none⟩) n n l :=
  ⟨by rw [bytesV_length, hn, Nat.mul_one], by omega, hm, fun h => (by cases h), fun a ha j u hu => by
    obtain rfl := Option.some.inj ha
    rw [add_none, World.cell?_alloc_mark, ← Array.getElem?_toList, hcs, Nat.zero_add]; exact hu⟩

theorem own_below {w w' : World} {base e size n : Nat} {v : Value} {xs : List Value} (h : w.ownsRow base e size v n xs) (hg : w.grownBy w' v.ownBlock) (hb : base ≤ w.heap.size) : Below base w w' :=
  (Below.refl _ _).grown hg hb (fun k hk => (h.lt k hk).1)

/-- what the call owns reads as a slice -/
theorem own_sl {w : World} {base e size n : Nat} {v : Value} {xs : List Value} (h : w.ownsRow base e size v n xs) : ∃ p c, v = .slice p n c ∧ Sl w p n c size xs := by
  rcases h.2 with ⟨rfl, rfl⟩ | ⟨g, cap, cur, rfl, hb, hg, hn, hm, hs, ht⟩
  · refine ⟨none, 0, rfl, ?_⟩
    have : xs = [] := by have := h.1; simpa using this
    subst this; exact Sl.nil _ _
  · refine ⟨_, _, rfl, ⟨h.1, hn, by simpa [maxLen] using hm, fun h => (by cases h), fun a ha j u hu => ?_⟩⟩
    obtain rfl := Option.some.inj ha
    exact h.cells rfl j u hu

theorem own_some {w : World} {base e size n : Nat} {v : Value} {xs : List Value} (h : w.ownsRow base e size v n xs) (hv : ¬ v = .slice none 0 0) : ∃ g cap, v = .slice (some ⟨g, 0, none⟩) n cap ∧ base ≤ g ∧ n ≤ cap ∧ cap ≤ 9223372036854775807 := by
  rcases h.2 with ⟨rfl, rfl⟩ | ⟨g, cap, cur, rfl, hb, hg, hn, hm, hs, ht⟩
  · exact absurd rfl hv
  · exact ⟨g, cap, rfl, hb, hn, by simpa [maxLen] using hm⟩

theorem own_made0 (w : World) (e size base g : Nat) (hg : g = w.heap.size) (hb : base ≤ g) : (w.alloc (.cells #[] e)).ownsRow base e size (.slice (some ⟨g, 0, none⟩) 0 0) 0 [] := by
  subst hg
  exact World.ownsRow_made w #[] 0 hb (by simp [maxLen]) (by simp)

/-- append of whatever slice onto what the call owns -/
theorem wpList_append_sl {P : Program} {w : World} {ops : Array Oper} {rest : List Oper} {o : Oper} {a : Act} {Q : Exit → Act → World → Prop} (hgd : o.guard = none) (s x : Operand) (t : TypeId)
    (ho : o.op = .call { callee := .builtin .append, args := #[s, x], argTypes := #[t, t] })
    {base e size bytes : Nat} {z : Value} (ht : P.underlying t = some (.slice e)) (hi : (P.info? e).map (fun i => (i.zero, i.size, i.bytes)) = some (some z, size, bytes)) (hzs : z.cells.size = size) (hsz : 0 < size)
    {v : Value} {n : Nat} {xs : List Value} (hs : a.eval s = v) (hown : w.ownsRow base e size v n xs)
    {px : Option Addr} {m c : Nat} {news : List Value} (hx : a.eval x = .slice px m c) (hS : Sl w px m c size news) (h1 : ∀ u ∈ news, u.oneCell' = true)
    (hb : n + m ≤ 9223372036854775807 ∧ (n + m) * bytes ≤ 140737488355328) (hbase : base ≤ w.heap.size)
    (h : ∀ v' w', w'.ownsRow base e size v' (n + m) (xs ++ news) → w.grownBy w' v.ownBlock → Below base w w' → (v' = .slice none 0 0 ↔ v = .slice none 0 0 ∧ m = 0) → wpList P ops Q rest (a.put o.dst v') w') : wpList P ops Q (o :: rest) a w := by
  obtain ⟨i, hi0, hz, hsize, hby⟩ := info_parts hi
  cases px with
  | some ad =>
    exact wpList_append_own w hgd s x t ho base e i z size bytes ht hi0 hz hsize hby hzs hsz v n xs hs hown ad m c news hx hS.len (hS.cell ad rfl) h1 (by simpa [maxLen] using hb.1) hb.2 hbase
      (fun v' w' h2 h3 h4 => h v' w' h2 h3 (own_below hown h3 hbase) h4)
  | none =>
    have hc := hS.nil0 rfl
    have hm0 : m = 0 := by have := hS.le; omega
    subst hc hm0
    have hn : news = [] := by have := hS.len; simpa using this
    subst hn
    have hxs : xs ++ [] = xs := List.append_nil _
    refine wpList_append_own_none hgd s x t ho base e i size ht hi0 v n xs hs hown hx ?_
    exact h v w (by rw [hxs]; exact hown) (World.grownBy.refl _ _) (Below.refl _ _) ⟨fun h => ⟨h, rfl⟩, fun h => h.1⟩

theorem below_call {w wp W wk : World} (H : Below w.heap.size w wp) (hW : Below wp.heap.size wp W) (h : Below W.heap.size W wk) : Below w.heap.size w wk :=
  H.trans ((hW.trans (h.mono hW.size)).mono H.size)

/-- what a cell holds, behind a name that the walk does not open -/
def cellOr (w : World) (a : Addr) : Value := (w.cell? a).getD undef
theorem cellOr_eq {w : World} {a : Addr} (h : (w.cell? a).isSome = true) : w.cell? a = some (cellOr w a) := by
  unfold cellOr
  cases hc : w.cell? a with
  | none => rw [hc] at h; cases h
  | some v => rfl
theorem below_of_drew {B : Nat} {w w1 : World} (h : Below B w.drew w1) : Below B w w1 := ⟨h.os, h.tape, h.output, h.size, h.block⟩
theorem block_old {w : World} (o : Obj) {i : Nat} {x : Obj} (h : w.heap[i]? = some x) : (w.alloc o).heap[i]? = some x := by
  rw [Below.heap_alloc w o i (Array.getElem?_eq_some_iff.1 h).1]; exact h
theorem Below.keepBlock {B : Nat} {w w' : World} (h : Below B w w') {i : Nat} {x : Obj} (hi : w.heap[i]? = some x) (hB : i < B) : w'.heap[i]? = some x := by rw [h.block i hB]; exact hi
theorem Below.keepOld {w w' : World} (h : Below w.heap.size w w') {i : Nat} {x : Obj} (hi : w.heap[i]? = some x) : w'.heap[i]? = some x := Below.keepBlock h hi (Array.getElem?_eq_some_iff.1 hi).1

/-- append onto what the call owns: where the new value lies: as it lay, or in a new block -/
theorem wpList_append_nx {P : Program} {w : World} {ops : Array Oper} {rest : List Oper} {o : Oper} {a : Act} {Q : Exit → Act → World → Prop} (hgd : o.guard = none) (s x : Operand) (t : TypeId)
    (ho : o.op = .call { callee := .builtin .append, args := #[s, x], argTypes := #[t, t] })
    {base e size bytes : Nat} {z : Value} (ht : P.underlying t = some (.slice e)) (hi : (P.info? e).map (fun i => (i.zero, i.size, i.bytes)) = some (some z, size, bytes)) (hzs : z.cells.size = size) (hsz : 0 < size)
    {v : Value} {n : Nat} {xs : List Value} (hs : a.eval s = v) (hown : w.ownsRow base e size v n xs)
    {px : Option Addr} {m c : Nat} {news : List Value} (hx : a.eval x = .slice px m c) (hS : Sl w px m c size news) (h1 : ∀ u ∈ news, u.oneCell' = true)
    (hb : n + m ≤ 9223372036854775807 ∧ (n + m) * bytes ≤ 140737488355328) (hbase : base ≤ w.heap.size)
    (h : ∀ p' c' w', w'.ownsRow base e size (.slice p' (n + m) c') (n + m) (xs ++ news) → w.grownBy w' v.ownBlock → (∀ k, (Value.slice p' (n + m) c').ownBlock = some k → v.ownBlock = some k ∨ k = w.heap.size) → (p' = none ↔ v = .slice none 0 0 ∧ m = 0) →
      wpList P ops Q rest (a.put o.dst (.slice p' (n + m) c')) w') : wpList P ops Q (o :: rest) a w := by
  obtain ⟨i, hi0, hz, hsize, hby⟩ := info_parts hi
  cases px with
  | some ad =>
    refine wpList_plain hgd fun K hK => ?_
    obtain ⟨v', w', hr, h2, h3, h4, h5⟩ := run_append_own_at (P := P) w base t o.type e i z size bytes ht hi0 hz hsize hby hzs hsz v n xs hown ad m c news hS.len (hS.cell ad rfl) h1 (by simpa [maxLen] using hb.1) hb.2 hbase
    unfold Oper.wp execOp
    simp only [ho, resolve, invoke, builtin, Sem.run_bind, Sem.run_pure, Result.andThen_ok, List.map_toArray, List.map_cons, List.map_nil, hs, hx, hr]
    obtain ⟨p', c', rfl, hsl⟩ := own_sl h2
    refine hK _ _ (h p' c' w' h2 h3 ?_ ?_)
    · intro k hk
      rcases h5 with h5 | h5
      · exact .inl (by rw [← h5]; exact hk)
      · rw [h5] at hk; exact .inr (Option.some.inj hk).symm
    · rw [← h4]
      constructor
      · intro hp
        have hc := hsl.nil0 hp
        have hn : n + m = 0 := by have := hsl.le; omega
        rw [hp, hc, hn]
      · intro hp
        injection hp
  | none =>
    have hc := hS.nil0 rfl
    have hm0 : m = 0 := by have := hS.le; omega
    subst hc hm0
    have hn : news = [] := by have := hS.len; simpa using this
    subst hn
    have hxs : xs ++ [] = xs := List.append_nil _
    obtain ⟨p', c', rfl, _⟩ := own_sl hown
    refine wpList_append_own_none hgd s x t ho base e i size ht hi0 _ n xs hs hown hx ?_
    exact h p' c' w (by rw [hxs]; exact hown) (World.grownBy.refl _ _) (fun k hk => .inl hk) (by
      have := hown.2
      rcases this with ⟨h, rfl⟩ | ⟨g, cap, cur, h, _⟩
      · cases h; simp
      · cases h; simp)

/-- an array behind an address, cut from 'l' on -/
theorem run_sliceAt_from {P : Program} (w : World) (t e : TypeId) (n size : Nat) (ht : P.underlying t = some (.array n e)) (hs : (P.info? e).map (·.size) = some size) (a : Addr) (k : IntKind) (x : Int) (l : Nat) (hx : x = (l : Int)) (hl : l < n) :
    (Instr.sliceAt t (.pointer (some a)) (some (.int k x)) none none).run P w = .ok (.slice (some (a.add (l * size))) (n - l) (n - l)) w := by
  subst hx
  obtain ⟨i, hi, rfl⟩ := Option.map_eq_some_iff.1 hs
  have h1 : ((0 : Int) ≤ (l : Int) ∧ (l : Int) ≤ (n : Int)) := by omega
  have h2 : ¬ n = l := by omega
  simp [Instr.sliceAt, run_underlying ht, Instr.sureAddr, Instr.sliceBounds, Instr.sliceBound, asIntOf, sizeOf, typeInfo, hi, h2, show l ≤ n by omega]

/-! ### what may have turned: blocks out of 'S' alone, of those that were there -/
structure Turns (S : Nat → Prop) (w w' : World) : Prop where
  os : w'.os = w.os
  tape : w'.tape = w.tape
  output : w'.output = w.output
  size : w.heap.size ≤ w'.heap.size
  block : ∀ k, k < w.heap.size → ¬ S k → w'.heap[k]? = w.heap[k]?

theorem Turns.refl (S : Nat → Prop) (w : World) : Turns S w w := ⟨rfl, rfl, rfl, Nat.le_refl _, fun _ _ _ => rfl⟩
theorem Turns.trans {S S' : Nat → Prop} {a b c : World} (h : Turns S a b) (k : Turns S' b c) (hs : ∀ i, i < a.heap.size → S' i → S i) : Turns S a c :=
  ⟨k.os.trans h.os, k.tape.trans h.tape, k.output.trans h.output, Nat.le_trans h.size k.size, fun i hi hS => (k.block i (Nat.lt_of_lt_of_le hi h.size) (fun h' => hS (hs i hi h'))).trans (h.block i hi hS)⟩
theorem Turns.imp {S S' : Nat → Prop} {a b : World} (h : Turns S a b) (hs : ∀ i, i < a.heap.size → S i → S' i) : Turns S' a b :=
  ⟨h.os, h.tape, h.output, h.size, fun i hi hS => h.block i hi (fun h' => hS (hs i hi h'))⟩
theorem Turns.of_below {S : Nat → Prop} {a b : World} (h : Below a.heap.size a b) : Turns S a b := ⟨h.os, h.tape, h.output, h.size, fun i hi _ => h.block i hi⟩
theorem Turns.below {S : Nat → Prop} {a b : World} {B : Nat} (h : Turns S a b) (hB : B ≤ a.heap.size) (hs : ∀ i, S i → B ≤ i) : Below B a b :=
  ⟨h.os, h.tape, h.output, h.size, fun i hi => h.block i (by omega) (fun h' => by have := hs i h'; omega)⟩
theorem Turns.drew {S : Nat → Prop} {a b : World} (h : Turns S a b) : Turns S a b.drew := ⟨h.os, h.tape, h.output, h.size, h.block⟩
theorem Turns.of_drew {S : Nat → Prop} {a b : World} (h : Turns S a.drew b) : Turns S a b := ⟨h.os, h.tape, h.output, h.size, h.block⟩
theorem Turns.grown {S : Nat → Prop} {a b : World} {row : Option Nat} (h : a.grownBy b row) (hs : ∀ k, row = some k → S k) : Turns S a b :=
  ⟨h.os, h.tape, h.output, h.size, fun i hi hS => h.block i hi (fun e => hS (hs i e.symm))⟩
theorem Turns.setCell {S : Nat → Prop} {a b : World} (h : Turns S a b) {p : Addr} (hp : p.block < a.heap.size → S p.block) (u : Value) : Turns S a (b.setCell p u) :=
  ⟨h.os, h.tape, h.output, by simpa [World.setCell] using h.size, fun i hi hS => by
    rw [Below.heap_setCell _ _ _ _ (fun e => hS (by rw [e]; exact hp (by omega)))]; exact h.block i hi hS⟩
theorem Turns.alloc {S : Nat → Prop} {a b : World} (h : Turns S a b) (o : Obj) : Turns S a (b.alloc o) :=
  ⟨h.os, h.tape, h.output, Nat.le_trans h.size (by simp), fun i hi hS => by
    rw [Below.heap_alloc b o i (Nat.lt_of_lt_of_le hi h.size)]; exact h.block i hi hS⟩
theorem Turns.keep {S : Nat → Prop} {a b : World} (h : Turns S a b) {i : Nat} {x : Obj} (hi : a.heap[i]? = some x) (hS : ¬ S i) : b.heap[i]? = some x := by
  rw [h.block i (Array.getElem?_eq_some_iff.1 hi).1 hS]; exact hi
theorem Turns.cell {S : Nat → Prop} {a b : World} (h : Turns S a b) {p : Addr} {v : Value} (hc : a.cell? p = some v) (hS : ¬ S p.block) : b.cell? p = some v := by
  rw [World.cell?_of_block (h.block p.block (block_lt_of_cell hc) hS)]; exact hc

/-- what a slice reads as, where none of its cells lies in 'S' -/
theorem Sl.touch {S : Nat → Prop} {w w' : World} {p : Option Addr} {n c size : Nat} {vs : List Value} (h : Sl w p n c size vs) (ht : Turns S w w') (ho : ∀ a, p = some a → a.block < w.heap.size → ¬ S a.block) : Sl w' p n c size vs :=
  ⟨h.len, h.le, h.max, h.nil0, fun a ha j u hu => by
    have hc := h.cell a ha j u hu
    exact ht.cell hc (by rw [addr_add_block]; exact ho a ha (by have := block_lt_of_cell hc; rwa [addr_add_block] at this))⟩
theorem Pts.touch {S : Nat → Prop} {w w' : World} {p : Option Addr} {n c : Nat} {ls : List (List UInt8)} (h : Pts w p n c ls) (ht : Turns S w w') (ho : ∀ k, k < w.heap.size → ¬ S k) : Pts w' p n c ls :=
  ⟨h.len, h.le, h.max, h.nil0, fun a ha j hj => by
    obtain ⟨q, m, k, h1, h2⟩ := h.cell a ha j hj
    exact ⟨q, m, k, ht.cell h1 (ho _ (block_lt_of_cell h1)), h2.touch ht (fun a _ hlt => ho _ hlt)⟩⟩
theorem own_touch {S : Nat → Prop} {w w' : World} {base e size n : Nat} {v : Value} {xs : List Value} (h : w.ownsRow base e size v n xs) (ht : Turns S w w') (ho : ∀ k, v.ownBlock = some k → ¬ S k) : w'.ownsRow base e size v n xs := by
  refine ⟨h.1, ?_⟩
  rcases h.2 with hn | ⟨g, cap, cur, rfl, hb, hgg, rest⟩
  · exact .inl hn
  · exact .inr ⟨g, cap, cur, rfl, hb, ht.keep hgg (ho g rfl), rest⟩
theorem own_base {w : World} {base base' e size n : Nat} {v : Value} {xs : List Value} (h : w.ownsRow base e size v n xs) (hb : ∀ k, v.ownBlock = some k → base' ≤ k) : w.ownsRow base' e size v n xs := by
  refine ⟨h.1, ?_⟩
  rcases h.2 with hn | ⟨g, cap, cur, rfl, _, hgg, rest⟩
  · exact .inl hn
  · exact .inr ⟨g, cap, cur, rfl, hb g rfl, hgg, rest⟩
/-- the next value of a row that is appended to lies where it lay, or in a new block -/
def NextV (w : World) (v v' : Value) : Prop := ∀ k, v'.ownBlock = some k → k < w.heap.size → v.ownBlock = some k

end Go.Mir
