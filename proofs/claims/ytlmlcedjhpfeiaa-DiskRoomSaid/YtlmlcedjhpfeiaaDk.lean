/- A DISK IN MEMORY, and what it holds, plain. Conditions: none. -/
import Derived.Test.YtlmlcedjhpfeiaaProg
import Derived.Test.YtlmlcedjhpfeiaaWin
import Derived.Test.YtlmlcedjhpfeiaaIdv
import Derived.Test.YtlmlcedjhpfeiaaEager2
import Derived.IntWalk
import Derived.Outline
namespace Go.Proofs.Ytlmlcedjhpfeiaa.Dk
open Go.RowKit Go.Mir

/-! ### plain -/
inductive St where
  | put (b : List UInt8)
  | cut (n : Nat)
def St.units : St → Nat
  | .put b => b.length
  | .cut _ => 1
def St.act : St → List UInt8 → Nat → List UInt8
  | .put p, b, u => b ++ p.take u
  | .cut n, b, u => if u = 0 then b else b.take n
def St.size : St → Nat → Nat
  | .put p, n => n + p.length
  | .cut m, _ => m
/-- may it be done to so many bytes? -/
def St.ok : St → Nat → Prop
  | .put _, _ => True
  | .cut m, n => m ≤ n
/-- all steps -/
def runAll : List UInt8 → List St → List UInt8
  | b, [] => b
  | b, s :: r => runAll (s.act b s.units) r
def okAll : List UInt8 → List St → Prop
  | _, [] => True
  | b, s :: r => s.ok b.length ∧ okAll (s.act b s.units) r
/-- so many units of them -/
def someU : List UInt8 → List St → Nat → List UInt8
  | b, [], _ => b
  | b, s :: r, u => someU (s.act b (min u s.units)) r (u - min u s.units)
def unitsAll : List St → Nat
  | [] => 0
  | s :: r => s.units + unitsAll r
theorem act_full (s : St) (b : List UInt8) : s.act b s.units = match s with | .put p => b ++ p | .cut n => b.take n := by
  cases s with
  | put p => simp [St.act, St.units]
  | cut n => simp [St.act, St.units]
theorem act_len {s : St} {b : List UInt8} (h : s.ok b.length) : (s.act b s.units).length = s.size b.length := by
  rw [act_full]
  cases s with
  | put p => simp [St.size]
  | cut n => simp [St.size]; exact Nat.min_eq_left h
theorem act_zero (s : St) (b : List UInt8) : s.act b 0 = b := by
  cases s with
  | put p => simp [St.act]
  | cut n => simp [St.act]
theorem runAll_snoc (s : St) : ∀ (l : List St) (b : List UInt8), runAll b (l ++ [s]) = s.act (runAll b l) s.units
  | [], _ => rfl
  | x :: l, b => by rw [List.cons_append, runAll, runAll, runAll_snoc s l]
theorem okAll_snoc (s : St) : ∀ (l : List St) (b : List UInt8), okAll b (l ++ [s]) ↔ okAll b l ∧ s.ok (runAll b l).length
  | [], b => by simp [okAll, runAll]
  | x :: l, b => by rw [List.cons_append, okAll, okAll, runAll, okAll_snoc s l, and_assoc]
theorem unitsAll_snoc (s : St) : ∀ (l : List St), unitsAll (l ++ [s]) = unitsAll l + s.units
  | [] => by simp [unitsAll]
  | x :: l => by rw [List.cons_append, unitsAll, unitsAll, unitsAll_snoc s l]; omega
theorem someU_zero : ∀ (l : List St) (b : List UInt8), someU b l 0 = b
  | [], _ => rfl
  | s :: r, b => by rw [someU, Nat.zero_min, act_zero, Nat.zero_sub, someU_zero r]
theorem someU_all : ∀ (l : List St) (b : List UInt8) (u : Nat), unitsAll l ≤ u → someU b l u = runAll b l
  | [], _, _, _ => rfl
  | s :: r, b, u, h => by
    rw [unitsAll] at h
    rw [someU, runAll, Nat.min_eq_right (by omega), someU_all r _ _ (by omega)]
/-- a file -/
structure FD where
  kept : List UInt8
  now : List UInt8
  steps : List St
  need : Nat
structure FD.Ok (f : FD) : Prop where
  now : f.now = runAll f.kept f.steps
  ok : okAll f.kept f.steps
  all : ∀ u, (someU f.kept f.steps u).length ≤ f.need
  un : unitsAll f.steps ≤ 65536 * f.steps.length
  eu : ∀ s ∈ f.steps, s.units ≤ 65536
theorem FD.Ok.le {f : FD} (h : f.Ok) : f.now.length ≤ f.need := by
  have := h.all (unitsAll f.steps)
  rwa [someU_all _ _ _ (Nat.le_refl _), ← h.now] at this
theorem FD.Ok.lek {f : FD} (h : f.Ok) : f.kept.length ≤ f.need := by
  have := h.all 0
  rwa [someU_zero] at this
theorem someU_snoc (s : St) : ∀ (l : List St) (b : List UInt8) (u : Nat), someU b (l ++ [s]) u = s.act (someU b l u) (min (u - unitsAll l) s.units)
  | [], b, u => by simp [someU, unitsAll]
  | x :: l, b, u => by
    rw [List.cons_append, someU, someU, someU_snoc s l, unitsAll]
    congr 2
    omega
def FD.none : FD := ⟨[], [], [], 0⟩
theorem FD.none_ok : FD.none.Ok := ⟨rfl, trivial, fun u => Nat.le_refl _, Nat.le_refl _, fun s hs => (nomatch hs)⟩
def FD.take (f : FD) (s : St) : FD := ⟨f.kept, s.act f.now s.units, f.steps ++ [s], max f.need (s.size f.now.length)⟩
theorem FD.take_ok {f : FD} {s : St} (h : f.Ok) (hs : s.ok f.now.length) (hu : s.units ≤ 65536) : (f.take s).Ok := by
  refine ⟨by show s.act f.now s.units = runAll f.kept (f.steps ++ [s]); rw [runAll_snoc, ← h.now], (okAll_snoc s _ _).2 ⟨h.ok, by show s.ok (runAll f.kept f.steps).length; rw [← h.now]; exact hs⟩, fun u => ?_, by show unitsAll (f.steps ++ [s]) ≤ 65536 * (f.steps ++ [s]).length; rw [unitsAll_snoc, List.length_append, List.length_singleton]; have := h.un; omega, fun x hx => ?_⟩
  rotate_left
  · have hx : x ∈ f.steps ++ [s] := hx
    rcases List.mem_append.1 hx with hx | hx
    · exact h.eu x hx
    · rw [List.mem_singleton] at hx; rw [hx]; exact hu
  show (someU f.kept (f.steps ++ [s]) u).length ≤ max f.need (s.size f.now.length)
  rw [someU_snoc]
  by_cases hu : u ≤ unitsAll f.steps
  · rw [show min (u - unitsAll f.steps) s.units = 0 by omega, act_zero]
    exact Nat.le_trans (h.all u) (Nat.le_max_left ..)
  · rw [someU_all _ _ _ (by omega), ← h.now]
    cases s with
    | put p =>
      refine Nat.le_trans ?_ (Nat.le_max_right ..)
      simp only [St.act, St.size, List.length_append, List.length_take]
      omega
    | cut n =>
      simp only [St.act, St.size]
      split
      · exact Nat.le_trans h.le (Nat.le_max_left ..)
      · rw [List.length_take]
        exact Nat.le_trans (Nat.min_le_left ..) (Nat.le_max_right ..)
def FD.settle (f : FD) (u : Nat) : FD := ⟨someU f.kept f.steps u, someU f.kept f.steps u, [], (someU f.kept f.steps u).length⟩
theorem FD.settle_ok (f : FD) (u : Nat) : (f.settle u).Ok := ⟨rfl, trivial, fun u => Nat.le_refl _, Nat.le_refl _, fun s hs => (nomatch hs)⟩
def usedL : List FD → Nat
  | [] => 0
  | f :: r => f.need + usedL r
theorem usedL_take_succ {l : List FD} {k : Nat} (h : k < l.length) : usedL (l.take (k + 1)) = usedL (l.take k) + l[k].need := by
  have key : ∀ (a b : List FD), usedL (a ++ b) = usedL a + usedL b := by
    intro a b
    induction a with
    | nil => simp [usedL]
    | cons x a ih => rw [List.cons_append, usedL, usedL, ih]; omega
  rw [List.take_succ_eq_append_getElem h, key]
  simp [usedL]
theorem usedL_take_le {l : List FD} (k : Nat) : usedL (l.take k) ≤ usedL l := by
  induction l generalizing k with
  | nil => simp
  | cons x l ih =>
    cases k with
    | zero => exact Nat.zero_le _
    | succ k => rw [List.take_succ_cons, usedL, usedL]; have := ih k; omega
theorem usedL_mem {l : List FD} {i : Nat} (h : i < l.length) : l[i].need ≤ usedL l := by
  have h1 := usedL_take_succ h
  have h2 := usedL_take_le (l := l) (i + 1)
  omega
theorem usedL_set {l : List FD} {i : Nat} (h : i < l.length) (f : FD) : usedL (l.set i f) + l[i].need = usedL l + f.need := by
  induction l generalizing i with
  | nil => simp at h
  | cons x l ih =>
    cases i with
    | zero => simp [usedL]; omega
    | succ i => 
      have := ih (i := i) (by simpa using h)
      simp only [List.set_cons_succ, usedL, List.getElem_cons_succ]
      omega

/-! ### in memory -/
/-- bytes that are only read -/
def Rd (w : World) (base : Nat) (v : Value) (l : List UInt8) : Prop :=
  (v = .slice none 0 0 ∧ l = []) ∨ ∃ g cap cur, v = .slice (some ⟨g, 0, none⟩) l.length cap ∧ base ≤ g ∧ w.heap[g]? = some (.cells cur 5 (0, 0)) ∧ l.length ≤ cap ∧ cap ≤ maxLen ∧ l.length ≤ cur.size ∧ cur.toList.take l.length = bytesV l
theorem Rd.touch {S : Nat → Prop} {w w' : World} {base : Nat} {v : Value} {l : List UInt8} (h : Rd w base v l) (ht : Turns S w w') (hS : ∀ k M fr, w.heap[k]? = some (.cells M 5 fr) → ¬ S k) : Rd w' base v l := by
  rcases h with h | ⟨g, cap, cur, h1, h2, h3, h4⟩
  · exact .inl h
  · exact .inr ⟨g, cap, cur, h1, h2, ht.keep h3 (hS g cur _ h3), h4⟩
theorem Rd.below {w w' : World} {base : Nat} {v : Value} {l : List UInt8} (h : Rd w base v l) (hb : Below w.heap.size w w') : Rd w' base v l :=
  h.touch (Turns.of_below (S := fun _ => False) hb) (fun _ _ _ _ h => h)
theorem Rd.bs {w : World} {base : Nat} {v : Value} {l : List UInt8} (h : Rd w base v l) : ∃ p c, v = .slice p l.length c ∧ Bs w p l.length c l := by
  rcases h with ⟨rfl, rfl⟩ | ⟨g, cap, cur, rfl, hb, hg, hn, hm, hz, ht⟩
  · exact ⟨none, 0, rfl, Sl.nil _ _⟩
  · refine ⟨_, _, rfl, ⟨by rw [bytesV_length, Nat.mul_one], hn, by simpa [maxLen] using hm, fun h => (by cases h), fun a ha j u hu => ?_⟩⟩
    obtain rfl := Option.some.inj ha
    have hj : j < l.length := by
      have := (List.getElem?_eq_some_iff.1 hu).1
      rwa [bytesV_length] at this
    rw [add_none, Nat.zero_add, cell_of_row _ _ _ _ _ _ hg, ← Array.getElem?_toList]
    rw [← ht, List.getElem?_take, if_pos hj] at hu
    exact hu
theorem Rd.of_own {w : World} {base : Nat} {v : Value} {l : List UInt8} (h : w.ownsRow base 5 1 v l.length (bytesV l)) : Rd w base v l := by
  rcases h.2 with ⟨rfl, hn⟩ | ⟨g, cap, cur, rfl, hb, hg, hn, hm, hs, ht⟩
  · exact .inl ⟨rfl, List.length_eq_zero_iff.1 hn⟩
  · exact .inr ⟨g, cap, cur, rfl, hb, hg, hn, hm, by rw [hs]; omega, by rw [Nat.mul_one] at ht; exact ht⟩
theorem Rd.base {w : World} {base b2 : Nat} {v : Value} {l : List UInt8} (h : Rd w base v l) (hb : b2 ≤ base) : Rd w b2 v l := by
  rcases h with h | ⟨g, cap, cur, h1, h2, h3⟩
  · exact .inl h
  · exact .inr ⟨g, cap, cur, h1, Nat.le_trans hb h2, h3⟩
/-- cut to a size -/
theorem Rd.cut {w : World} {base : Nat} {p : Option Addr} {n c : Nat} {l : List UInt8} (h : Rd w base (.slice p n c) l) (k : Nat) (hk : k ≤ l.length) : Rd w base (.slice p k c) (l.take k) := by
  rcases h with ⟨h1, rfl⟩ | ⟨g, cap, cur, h1, h2, h3, h4, h5, h6, h7⟩
  · cases h1
    have : k = 0 := by simpa using hk
    subst this
    exact .inl ⟨rfl, rfl⟩
  · cases h1
    have hl : (l.take k).length = k := by rw [List.length_take]; omega
    exact .inr ⟨g, _, cur, by rw [hl], h2, h3, by omega, h5, by omega, by rw [hl, show cur.toList.take k = (cur.toList.take l.length).take k by rw [List.take_take, Nat.min_eq_left hk], h7]; simp [bytesV, List.map_take]⟩
theorem Rd.full {w : World} {base : Nat} {p : Option Addr} {n c : Nat} {l : List UInt8} (h : Rd w base (.slice p n c) l) : Rd w base (.slice p n n) l := by
  rcases h with ⟨h1, rfl⟩ | ⟨g, cap, cur, h1, h2, h3, h4, h5, h6, h7⟩
  · cases h1; exact .inl ⟨rfl, rfl⟩
  · cases h1
    exact .inr ⟨g, _, cur, rfl, h2, h3, Nat.le_refl _, by omega, h6, h7⟩
theorem own_ne_cells' {w : World} {base e size n : Nat} {v : Value} {xs : List Value} {k : Nat} {M : Array Value} {t : TypeId} {fr : Nat × Nat} (h : w.ownsRow base e size v n xs) (hk : w.heap[k]? = some (.cells M t fr)) (hne : t ≠ e) : ∀ i, v.ownBlock = some i → ¬ i = k := by
  intro i hi e1
  subst e1
  rcases h.2 with ⟨rfl, _⟩ | ⟨g, cap, cur, rfl, _, hg, _⟩
  · simp [Value.ownBlock] at hi
  · simp [Value.ownBlock] at hi
    subst hi
    rw [hk] at hg; cases hg; exact hne rfl
/-- a step -/
def StAt (w : World) (base : Nat) (v : Value) : St → Prop
  | .put b => ∃ bv, v = .iface 68 (.agg #[bv]) ∧ Rd w base bv b
  | .cut n => v = .iface 70 (.agg #[.int .i64 (n : Int)])
theorem StAt.touch {S : Nat → Prop} {w w' : World} {base : Nat} {v : Value} {s : St} (h : StAt w base v s) (ht : Turns S w w') (hS : ∀ k M fr, w.heap[k]? = some (.cells M 5 fr) → ¬ S k) : StAt w' base v s := by
  cases s with
  | put b => obtain ⟨bv, h1, h2⟩ := h; exact ⟨bv, h1, h2.touch ht hS⟩
  | cut n => exact h
theorem StAt.one {w : World} {base : Nat} {v : Value} {s : St} (h : StAt w base v s) : v.oneCell' = true := by
  cases s with
  | put b => obtain ⟨bv, rfl, _⟩ := h; rfl
  | cut n => cases h; rfl
/-- a file's cells -/
structure FV where
  kv : Value
  nv : Value
  sv : Value
  nd : Nat
def fvL (v : FV) : List Value := [v.kv, v.nv, v.sv, .int .i64 (v.nd : Int)]
def dA (vs : List FV) (room fuse : Nat) (down : Bool) : Array Value := (vs.flatMap fvL ++ [Value.int .i64 (room : Int), Value.int .i64 (fuse : Int), Value.bool down]).toArray
structure FAt (w : World) (base : Nat) (v : FV) (f : FD) : Prop where
  kept : Rd w base v.kv f.kept
  now : Rd w base v.nv f.now
  steps : ∃ vals, w.ownsRow base 83 1 v.sv f.steps.length vals ∧ ∀ (i : Nat) x s, vals[i]? = some x → f.steps[i]? = some s → StAt w base x s
  need : v.nd = f.need
  ok : f.Ok
theorem FAt.touch {S : Nat → Prop} {w w' : World} {base : Nat} {v : FV} {f : FD} (h : FAt w base v f) (ht : Turns S w w') (hS : ∀ k M fr, w.heap[k]? = some (.cells M 5 fr) → ¬ S k) (ho : ∀ k, v.sv.ownBlock = some k → ¬ S k) : FAt w' base v f := by
  obtain ⟨vals, h1, h2⟩ := h.steps
  exact ⟨h.kept.touch ht hS, h.now.touch ht hS, ⟨vals, own_touch h1 ht ho, fun i x s hx hs => (h2 i x s hx hs).touch ht hS⟩, h.need, h.ok⟩
theorem FAt.below {w w' : World} {base : Nat} {v : FV} {f : FD} (h : FAt w base v f) (hb : Below w.heap.size w w') : FAt w' base v f :=
  h.touch (Turns.of_below (S := fun _ => False) hb) (fun _ _ _ _ h => h) (fun _ _ h => h)
/-- a disk -/
structure DD where
  fs : List FD
  room : Nat
  fuse : Nat
  down : Bool
structure DAt (w : World) (base db : Nat) (vs : List FV) (d : DD) : Prop where
  row : w.heap[db]? = some (.cells (dA vs d.room d.fuse d.down) 64 (0, 0))
  low : base ≤ db
  n3 : vs.length = 3
  m3 : d.fs.length = 3
  each : ∀ (i : Nat) v f, vs[i]? = some v → d.fs[i]? = some f → FAt w base v f
  apart : ∀ (i j : Nat) v v' k, vs[i]? = some v → vs[j]? = some v' → v.sv.ownBlock = some k → v'.sv.ownBlock = some k → i = j
  room1 : 1 ≤ d.room ∧ d.room ≤ 65536
  fuse1 : d.fuse ≤ 9223372036854775807
  used : usedL d.fs ≤ d.room
  few : ∀ f ∈ d.fs, f.steps.length ≤ 4398046511104
theorem DAt.below {w w' : World} {base db : Nat} {vs : List FV} {d : DD} (h : DAt w base db vs d) (hb : Below w.heap.size w w') : DAt w' base db vs d :=
  ⟨Below.keepOld hb h.row, h.low, h.n3, h.m3, fun i v f h1 h2 => (h.each i v f h1 h2).below hb, h.apart, h.room1, h.fuse1, h.used, h.few⟩
theorem list3 {α : Type} {l : List α} (h : l.length = 3) : ∃ a b c, l = [a, b, c] := by
  match l, h with
  | [a, b, c], _ => exact ⟨a, b, c, rfl⟩
theorem dA_cells {vs : List FV} (h : vs.length = 3) (room fuse : Nat) (down : Bool) : (dA vs room fuse down)[12]? = some (.int .i64 (room : Int)) ∧ (dA vs room fuse down)[13]? = some (.int .i64 (fuse : Int)) ∧ (dA vs room fuse down)[14]? = some (.bool down) ∧
    ∀ (i : Nat) (hi : i < vs.length), (dA vs room fuse down)[i * 4]? = some vs[i].kv ∧ (dA vs room fuse down)[i * 4 + 1]? = some vs[i].nv ∧ (dA vs room fuse down)[i * 4 + 2]? = some vs[i].sv ∧ (dA vs room fuse down)[i * 4 + 3]? = some (.int .i64 (vs[i].nd : Int)) := by
  obtain ⟨a, b, c, rfl⟩ := list3 h
  refine ⟨rfl, rfl, rfl, fun i hi => ?_⟩
  match i, hi with
  | 0, _ => exact ⟨rfl, rfl, rfl, rfl⟩
  | 1, _ => exact ⟨rfl, rfl, rfl, rfl⟩
  | 2, _ => exact ⟨rfl, rfl, rfl, rfl⟩
theorem DAt.cells {w : World} {base db : Nat} {vs : List FV} {d : DD} (h : DAt w base db vs d) : w.cell? ⟨db, 12, none⟩ = some (.int .i64 (d.room : Int)) ∧ w.cell? ⟨db, 13, none⟩ = some (.int .i64 (d.fuse : Int)) ∧ w.cell? ⟨db, 14, none⟩ = some (.bool d.down) ∧ ∀ j, w.frozen? ⟨db, j, none⟩ = false := by
  obtain ⟨h1, h2, h3, h4⟩ := dA_cells h.n3 d.room d.fuse d.down
  refine ⟨by rw [cell_of_row _ _ _ _ _ _ h.row]; exact h1, by rw [cell_of_row _ _ _ _ _ _ h.row]; exact h2, by rw [cell_of_row _ _ _ _ _ _ h.row]; exact h3, fun j => frozen_of_row _ _ _ _ _ h.row⟩
theorem DAt.file {w : World} {base db : Nat} {vs : List FV} {d : DD} (h : DAt w base db vs d) (i : Nat) (hi : i < vs.length) : w.cell? ⟨db, i * 4, none⟩ = some vs[i].kv ∧ w.cell? ⟨db, i * 4 + 1, none⟩ = some vs[i].nv ∧ w.cell? ⟨db, i * 4 + 2, none⟩ = some vs[i].sv ∧ w.cell? ⟨db, i * 4 + 3, none⟩ = some (.int .i64 (vs[i].nd : Int)) := by
  obtain ⟨h1, h2, h3, h4⟩ := dA_cells h.n3 d.room d.fuse d.down
  obtain ⟨g1, g2, g3, g4⟩ := h4 i hi
  exact ⟨by rw [cell_of_row _ _ _ _ _ _ h.row]; exact g1, by rw [cell_of_row _ _ _ _ _ _ h.row]; exact g2, by rw [cell_of_row _ _ _ _ _ _ h.row]; exact g3, by rw [cell_of_row _ _ _ _ _ _ h.row]; exact g4⟩
/-- one cell of a disk stored anew -/
theorem dA_set {vs : List FV} (h : vs.length = 3) (room fuse : Nat) (down : Bool) : (∀ f : Nat, (dA vs room fuse down).setIfInBounds 13 (.int .i64 (f : Int)) = dA vs room f down) ∧ (∀ b : Bool, (dA vs room fuse down).setIfInBounds 14 (.bool b) = dA vs room fuse b) ∧
    ∀ (i : Nat) (hi : i < vs.length), (∀ x, (dA vs room fuse down).setIfInBounds (i * 4) x = dA (vs.set i ⟨x, vs[i].nv, vs[i].sv, vs[i].nd⟩) room fuse down) ∧ (∀ x, (dA vs room fuse down).setIfInBounds (i * 4 + 1) x = dA (vs.set i ⟨vs[i].kv, x, vs[i].sv, vs[i].nd⟩) room fuse down) ∧
      (∀ x, (dA vs room fuse down).setIfInBounds (i * 4 + 2) x = dA (vs.set i ⟨vs[i].kv, vs[i].nv, x, vs[i].nd⟩) room fuse down) ∧ (∀ n : Nat, (dA vs room fuse down).setIfInBounds (i * 4 + 3) (.int .i64 (n : Int)) = dA (vs.set i ⟨vs[i].kv, vs[i].nv, vs[i].sv, n⟩) room fuse down) := by
  obtain ⟨a, b, c, rfl⟩ := list3 h
  refine ⟨fun f => rfl, fun b => rfl, fun i hi => ?_⟩
  match i, hi with
  | 0, _ => exact ⟨fun _ => rfl, fun _ => rfl, fun _ => rfl, fun _ => rfl⟩
  | 1, _ => exact ⟨fun _ => rfl, fun _ => rfl, fun _ => rfl, fun _ => rfl⟩
  | 2, _ => exact ⟨fun _ => rfl, fun _ => rfl, fun _ => rfl, fun _ => rfl⟩
end Go.Proofs.Ytlmlcedjhpfeiaa.Dk
