/- A REGION THAT DRAWS ITS ORDER, WALKED IN ONE ORDER: what reads only what stood at its start is taken at once; the calls come one behind the other. No program is named. Conditions: none. -/
import Derived.Test.YtdaigkcbmdcbcaaDoorIdv
import Derived.OrdersHeld
import Derived.Deep.RegionHeld3
import Derived.NoCompiler
import Derived.IntWalk
namespace Go.Mir
open Go.RowKit

/-- the plan is one that any order comes to -/
def planB (ops : Array Oper) : List (Nat × Bool) → Array Bool → Bool
  | [], listed => (Region.ready .any ops listed).isEmpty
  | (i, true) :: r, listed => (ops[i]?).isSome && Region.free .any ops listed i && (Region.ready .any ops listed).contains i && planB ops r (listed.setIfInBounds i true)
  | (i, false) :: r, listed => (ops[i]?).isSome && Region.ready .any ops listed == [i] && planB ops r (listed.setIfInBounds i true)
/-- the operation at a place of the text -/
def nthO : List Oper → Nat → Option Oper
  | [], _ => none
  | o :: _, 0 => some o
  | _ :: l, n + 1 => nthO l n
theorem nthO_eq : ∀ (l : List Oper) (n : Nat), l.toArray[n]? = nthO l n
  | [], n => by simp [nthO]
  | o :: l, 0 => by simp [nthO]
  | o :: l, n + 1 => by
    have := nthO_eq l n
    simpa [nthO] using this
def planOps (l : List Oper) : List (Nat × Bool) → List (Oper × Bool)
  | [] => []
  | (i, b) :: r => match nthO l i with
    | some o => (o, b) :: planOps l r
    | none => planOps l r
def wpEager (P : Program) (ops : Array Oper) (S : World → Prop) (Q : Exit → Act → World → Prop) : List (Oper × Bool) → Act → World → Prop
  | [], a, w => Q .normal a w
  | (o, true) :: r, a, w => ∃ v, YieldsIf P ops S o v a ∧ wpEager P ops S Q r (a.put o.dst v) w
  | (o, false) :: r, a, w => if Region.wanted o (yielded ops a.tmps) then o.wp P a w (fun a' w' => S w' ∧ wpEager P ops S Q r a' w') Q else wpEager P ops S Q r (a.put o.dst undef) w
theorem wpAnyH_eager {P : Program} {l : List Oper} {ops : Array Oper} (hl : l.toArray = ops) {S : World → Prop} {Q : Exit → Act → World → Prop} (hs : Region.noSelect ops = true) (hQ : ∀ c a d v w, Q (.panic c) (a.put d v) w → Q (.panic c) a w) :
    ∀ (π : List (Nat × Bool)) (listed : Array Bool) (a : Act) (w : World), planB ops π listed = true → S w → wpEager P ops S Q (planOps l π) a w → wpAnyH P .any ops Q S π.length listed a w
  | [], listed, a, w, hp, _, h => by
    refine wpAnyH_done ?_ h _
    simpa [planB, List.isEmpty_iff] using hp
  | (i, true) :: r, listed, a, w, hp, hS, h => by
    simp only [planB, Bool.and_eq_true] at hp
    obtain ⟨⟨⟨h1, h2⟩, h3⟩, h4⟩ := hp
    obtain ⟨o, ho⟩ := Option.isSome_iff_exists.1 h1
    have hn : nthO l i = some o := by rw [← nthO_eq, hl]; exact ho
    simp only [planOps, hn, wpEager] at h
    obtain ⟨v, hy, h⟩ := h
    exact wpAnyH_take ho hs h2 h3 (fun c a w => hQ c a _ _ w) hy hS (wpAnyH_eager hl hs hQ r _ _ _ h4 hS h)
  | (i, false) :: r, listed, a, w, hp, hS, h => by
    simp only [planB, Bool.and_eq_true, beq_iff_eq] at hp
    obtain ⟨⟨h1, h2⟩, h4⟩ := hp
    obtain ⟨o, ho⟩ := Option.isSome_iff_exists.1 h1
    have hn : nthO l i = some o := by rw [← nthO_eq, hl]; exact ho
    simp only [planOps, hn, wpEager] at h
    refine wpAnyH_all h2 (by simp) fun j hj => ?_
    rw [List.mem_singleton] at hj
    subst hj
    unfold wpOp
    simp only [ho]
    split at h
    · rename_i hw
      rw [if_pos hw]
      exact .inl (Oper.wp_mono (fun a' w' ⟨h5, h6⟩ => ⟨h5, wpAnyH_eager hl hs hQ r _ _ _ h4 h5 h6⟩) h)
    · rename_i hw
      rw [if_neg hw]
      exact ⟨hS, wpAnyH_eager hl hs hQ r _ _ _ h4 hS h⟩
/-- the beginning -/
theorem wp_region_eager_in {P : Program} {id : Nat} {Q : Exit → Act → World → Prop} {a : Act} {w : World} {l : List Oper} (S : World → Prop) (π : List (Nat × Bool)) (hm : P.follows .mixedOrders = true)
    (hp : (planB l.toArray π (Array.replicate l.length false) && Region.noSelect l.toArray && π.length == l.length) = true) (hS : S w.drew)
    (h : wpEager P l.toArray S (NoPanic Q) (planOps l π) a w.drew) : (Code.region id l.toArray true).wp P Q a w := by
  refine wp_region_noPanic ?_
  simp only [Bool.and_eq_true, beq_iff_eq] at hp
  obtain ⟨⟨h1, h2⟩, h3⟩ := hp
  have := wpAnyH_eager (P := P) (Q := NoPanic Q) (l := l) rfl h2 (fun _ _ _ _ _ h => h) π (Array.replicate l.length false) a w.drew h1 hS h
  refine wp_region_held hm (S := S) ?_
  rw [h3] at this
  have hz : l.toArray.size = l.length := List.size_toArray ..
  rw [hz]
  exact this
theorem wp_region_eager {P : Program} {id : Nat} {Q : Exit → Act → World → Prop} {a : Act} {w : World} {l : List Oper} (π : List (Nat × Bool)) (hm : P.follows .mixedOrders = true)
    (hp : (planB l.toArray π (Array.replicate l.length false) && Region.noSelect l.toArray && π.length == l.length) = true)
    (h : wpEager P l.toArray (Below w.heap.size w) (NoPanic Q) (planOps l π) a w.drew) : (Code.region id l.toArray true).wp P Q a w :=
  wp_region_eager_in (Below w.heap.size w) π hm hp ⟨rfl, rfl, rfl, Nat.le_refl _, fun _ _ => rfl⟩ h
/-- the next operation, written out -/
theorem eagerOpen {P : Program} {ops : Array Oper} {S : World → Prop} {Q : Exit → Act → World → Prop} {l : List Oper} {i : Nat} {b : Bool} {r : List (Nat × Bool)} {a : Act} {w : World} {o : Oper} (ho : nthO l i = some o)
    (h : wpEager P ops S Q ((o, b) :: planOps l r) a w) : wpEager P ops S Q (planOps l ((i, b) :: r)) a w := by
  unfold planOps; rw [ho]; exact h
theorem eagerEnd {P : Program} {ops : Array Oper} {S : World → Prop} {Q : Exit → Act → World → Prop} {l : List Oper} {a : Act} {w : World} (h : Q .normal a w) : wpEager P ops S (NoPanic Q) (planOps l []) a w := h
/-- its steps -/
theorem wpEager_nil {P : Program} {ops : Array Oper} {S : World → Prop} {Q : Exit → Act → World → Prop} {a : Act} {w : World} (h : Q .normal a w) : wpEager P ops S (NoPanic Q) [] a w := h
theorem wpEager_take {P : Program} {ops : Array Oper} {S : World → Prop} {Q : Exit → Act → World → Prop} {o : Oper} {r : List (Oper × Bool)} {a : Act} {w : World} {v : Value} (hw : Region.wanted o (yielded ops a.tmps) = true)
    (hy : ∀ w', S w' → (execOp a.eval o).run P w' = .ok (.value v) w') (h : wpEager P ops S Q r (a.put o.dst v) w) : wpEager P ops S Q ((o, true) :: r) a w := ⟨v, .inl ⟨hw, hy⟩, h⟩
theorem wpEager_skip {P : Program} {ops : Array Oper} {S : World → Prop} {Q : Exit → Act → World → Prop} {o : Oper} {r : List (Oper × Bool)} {a : Act} {w : World} (hw : Region.wanted o (yielded ops a.tmps) = false)
    (h : wpEager P ops S Q r (a.put o.dst undef) w) : wpEager P ops S Q ((o, true) :: r) a w := ⟨undef, .inr ⟨hw, rfl⟩, h⟩
theorem wpEager_off {P : Program} {ops : Array Oper} {S : World → Prop} {Q : Exit → Act → World → Prop} {o : Oper} {r : List (Oper × Bool)} {a : Act} {w : World} (hw : Region.wanted o (yielded ops a.tmps) = false)
    (h : wpEager P ops S Q r (a.put o.dst undef) w) : wpEager P ops S Q ((o, false) :: r) a w := by
  unfold wpEager; rw [if_neg (by rw [hw]; exact Bool.false_ne_true)]; exact h
theorem wpEager_load {P : Program} {ops : Array Oper} {S : World → Prop} {Q : Exit → Act → World → Prop} {op : Oper} {r : List (Oper × Bool)} {a : Act} {w : World} (hw : Region.wanted op (yielded ops a.tmps) = true) (ty : TypeId) (x : Operand) (ho : op.op = .load ty x)
    (b o : Nat) (hx : a.eval x = .pointer (some ⟨b, o, none⟩)) (M : Array Value) (d : TypeDesc) (hc : ∀ w', S w' → w'.rangeAt b o M.toList)
    (hu : P.underlying ty = some d) (hd : d.isRow = true) (hi : (P.info? ty).map (·.size) = some M.size)
    (h : wpEager P ops S Q r (a.put op.dst (.agg M)) w) : wpEager P ops S Q ((op, true) :: r) a w := by
  refine wpEager_take hw (fun w' hb => ?_) h
  unfold execOp
  simp only [ho, hx, Instr.loadAt, Instr.sureAddr, Sem.run_bind, Sem.run_pure, Result.andThen_ok, run_loadVar_mid w' b o ty M.toList d (hc w' hb) hu hd (by simpa using hi)]
/-- at a call: the way back is shut till 'S' is shown -/
theorem wpEager_op {P : Program} {ops : Array Oper} {S : World → Prop} {Q : Exit → Act → World → Prop} {o : Oper} {r : List (Oper × Bool)} {a : Act} {w : World} (hw : Region.wanted o (yielded ops a.tmps) = true)
    (h : ∀ K : Act → World → Prop, Shut (∀ a w, S w → wpEager P ops S Q r a w → K a w) → Oper.wp P o a w K Q) : wpEager P ops S Q ((o, false) :: r) a w := by
  unfold wpEager; rw [if_pos hw]; exact h _ fun _ _ h1 h2 => ⟨h1, h2⟩
theorem eagerLoadAt {P : Program} {ops : Array Oper} {S : World → Prop} {Q : Exit → Act → World → Prop} {r : List (Oper × Bool)} {a : Act} {w : World} (n : Nat) {d : Option Nat} {ty : TypeId} {t : TypeId} {p : String} {af : Array Edge} {g : Option (Nat × Bool)} {b : Bool}
    (h : wpEager P ops S Q ((⟨d, .load ty (.tmp n), t, p, af, g⟩, b) :: r) a w) : wpEager P ops S Q ((⟨d, .load ty (.tmp n), t, p, af, g⟩, b) :: r) a w := h
theorem range_below {w w' : World} {b o : Nat} {L : List Value} (h : w.rangeAt b o L) (hb : Below w.heap.size w w') : w'.rangeAt b o L := fun j v hv => by
  have := h j v hv
  rw [hb.cell (block_lt_of_cell this)]; exact this
theorem cell_below {w w' : World} {p : Addr} {v : Value} (h : w.cell? p = some v) (hb : Below w.heap.size w w') : w'.cell? p = some v := by
  rw [hb.cell (block_lt_of_cell h)]; exact h

theorem eagerAt {P : Program} {ops : Array Oper} {S : World → Prop} {Q : Exit → Act → World → Prop} {r : List (Oper × Bool)} {a : Act} {w : World} (n : Nat) {op : Op} {t : TypeId} {p : String} {af : Array Edge} {g : Option (Nat × Bool)} {b : Bool}
    (h : wpEager P ops S Q ((⟨some n, op, t, p, af, g⟩, b) :: r) a w) : wpEager P ops S Q ((⟨some n, op, t, p, af, g⟩, b) :: r) a w := h
theorem wpEager_build {P : Program} {ops : Array Oper} {S : World → Prop} {Q : Exit → Act → World → Prop} {o : Oper} {r : List (Oper × Bool)} {a : Act} {w : World} (hw : Region.wanted o (yielded ops a.tmps) = true) (t : TypeId) (parts : Array (Nat × Operand)) (ho : o.op = .build t parts)
    (vals : List (Nat × Value)) (hv : (parts.toList.map fun p => (p.1, a.eval p.2)) = vals) (cells : Array Value) (h : P.built t vals = some cells) (k : wpEager P ops S Q r (a.put o.dst (.agg cells)) w) : wpEager P ops S Q ((o, true) :: r) a w := by
  refine wpEager_take hw (fun w' _ => ?_) k
  have hb : P.built t (parts.map fun p => (p.1, a.eval p.2)).toList = some cells := by rw [Array.toList_map, hv]; exact h
  unfold execOp
  simp only [ho, Sem.run_bind, Sem.run_pure, Result.andThen_ok, run_build w' t _ cells hb]
end Go.Mir
