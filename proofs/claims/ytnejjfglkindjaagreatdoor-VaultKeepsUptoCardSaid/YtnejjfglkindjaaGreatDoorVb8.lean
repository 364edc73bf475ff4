/- PARTS, JOINED: A REGION THAT DRAWS ITS ORDER, WALKED BY A TREE: what reads only what stood at its start is taken at once; where two operations may come next, both ways are walked. No program is named. Conditions: none. -/
import Derived.Test.YtnejjfglkindjaaGreatDoorVb1
import Derived.Test.YtnejjfglkindjaaGreatDoorVb2
import Derived.Test.YtnejjfglkindjaaGreatDoorVb3
import Derived.Test.YtnejjfglkindjaaGreatDoorVb4
import Derived.Test.YtnejjfglkindjaaGreatDoorVb5
import Derived.Test.YtnejjfglkindjaaGreatDoorVb6
import Derived.Test.YtnejjfglkindjaaGreatDoorVb7
namespace Go.Mir
open Go.RowKit

/-- which operation comes next: taken at once; the only one; one of two -/
inductive Tr where
  | nil
  | take (i : Nat) (r : Tr)
  | one (i : Nat) (r : Tr)
  | two (i j : Nat) (r s : Tr)
def Tr.deep : Tr → Nat
  | .nil => 0
  | .take _ r => r.deep + 1
  | .one _ r => r.deep + 1
  | .two _ _ r _ => r.deep + 1
def treeB (ops : Array Oper) : Tr → Array Bool → Bool
  | .nil, l => (Region.ready .any ops l).isEmpty
  | .take i r, l => (ops[i]?).isSome && Region.free .any ops l i && (Region.ready .any ops l).contains i && treeB ops r (l.setIfInBounds i true)
  | .one i r, l => (ops[i]?).isSome && Region.ready .any ops l == [i] && treeB ops r (l.setIfInBounds i true)
  | .two i j r s, l => (ops[i]?).isSome && (ops[j]?).isSome && Region.ready .any ops l == [i, j] && r.deep == s.deep && !(i == j) && treeB ops r (l.setIfInBounds i true) && treeB ops s (l.setIfInBounds j true)
section
variable {P : Program} {ops : Array Oper} {S : World → Prop} {Q : Exit → Act → World → Prop}
/-- one operation, in its turn -/
def wpTurn (P : Program) (ops : Array Oper) (o : Oper) (a : Act) (w : World) (K : Act → World → Prop) (Q : Exit → Act → World → Prop) : Prop :=
  if Region.wanted o (yielded ops a.tmps) then o.wp P a w K Q else K (a.put o.dst undef) w
def wpTree (P : Program) (ops : Array Oper) (S : World → Prop) (Q : Exit → Act → World → Prop) (l : List Oper) : Tr → Act → World → Prop
  | .nil, a, w => Q .normal a w
  | .take i r, a, w => match nthO l i with
    | some o => ∃ v, YieldsIf P ops S o v a ∧ wpTree P ops S Q l r (a.put o.dst v) w
    | none => False
  | .one i r, a, w => match nthO l i with
    | some o => wpTurn P ops o a w (fun a' w' => S w' ∧ wpTree P ops S Q l r a' w') Q
    | none => False
  | .two i j r s, a, w => (match nthO l i with
    | some o => wpTurn P ops o a w (fun a' w' => S w' ∧ wpTree P ops S Q l r a' w') Q
    | none => False) ∧ (match nthO l j with
    | some o => wpTurn P ops o a w (fun a' w' => S w' ∧ wpTree P ops S Q l s a' w') Q
    | none => False)
theorem wpOp_turn {i : Nat} {o : Oper} {K K' : Act → World → Prop} {a : Act} {w : World} (ho : ops[i]? = some o) (hK : ∀ a w, K a w → K' a w) (h : wpTurn P ops o a w K Q) : wpOp P ops Q i K' a w := by
  unfold wpOp
  simp only [ho]
  unfold wpTurn at h
  split at h
  · rename_i hw
    rw [if_pos hw]
    exact .inl (Oper.wp_mono (fun a' w' h5 => hK _ _ h5) h)
  · rename_i hw
    rw [if_neg hw]
    exact hK _ _ h
theorem wpAnyH_tree {l : List Oper} (hl : l.toArray = ops) (hs : Region.noSelect ops = true) (hQ : ∀ c a d v w, Q (.panic c) (a.put d v) w → Q (.panic c) a w) :
    ∀ (t : Tr) (listed : Array Bool) (a : Act) (w : World), treeB ops t listed = true → S w → wpTree P ops S Q l t a w → wpAnyH P .any ops Q S t.deep listed a w
  | .nil, listed, a, w, hp, _, h => by
    refine wpAnyH_done ?_ h _
    simpa [treeB, List.isEmpty_iff] using hp
  | .take i r, listed, a, w, hp, hS, h => by
    simp only [treeB, Bool.and_eq_true] at hp
    obtain ⟨⟨⟨h1, h2⟩, h3⟩, h4⟩ := hp
    obtain ⟨o, ho⟩ := Option.isSome_iff_exists.1 h1
    have hn : nthO l i = some o := by rw [← nthO_eq, hl]; exact ho
    simp only [wpTree, hn] at h
    obtain ⟨v, hy, h⟩ := h
    exact wpAnyH_take ho hs h2 h3 (fun c a w => hQ c a _ _ w) hy hS (wpAnyH_tree hl hs hQ r _ _ _ h4 hS h)
  | .one i r, listed, a, w, hp, hS, h => by
    simp only [treeB, Bool.and_eq_true, beq_iff_eq] at hp
    obtain ⟨⟨h1, h2⟩, h4⟩ := hp
    obtain ⟨o, ho⟩ := Option.isSome_iff_exists.1 h1
    have hn : nthO l i = some o := by rw [← nthO_eq, hl]; exact ho
    simp only [wpTree, hn] at h
    refine wpAnyH_all h2 (by simp) fun j hj => ?_
    rw [List.mem_singleton] at hj
    subst hj
    exact wpOp_turn ho (fun a' w' ⟨h5, h6⟩ => ⟨h5, wpAnyH_tree hl hs hQ r _ _ _ h4 h5 h6⟩) h
  | .two i j r s, listed, a, w, hp, hS, h => by
    simp only [treeB, Bool.and_eq_true, beq_iff_eq] at hp
    obtain ⟨⟨⟨⟨⟨⟨h1, h1'⟩, h2⟩, hd⟩, hne⟩, h4⟩, h4'⟩ := hp
    obtain ⟨o, ho⟩ := Option.isSome_iff_exists.1 h1
    obtain ⟨o', ho'⟩ := Option.isSome_iff_exists.1 h1'
    have hn : nthO l i = some o := by rw [← nthO_eq, hl]; exact ho
    have hn' : nthO l j = some o' := by rw [← nthO_eq, hl]; exact ho'
    simp only [wpTree, hn, hn'] at h
    refine wpAnyH_all h2 (by simp) fun k hk => ?_
    rcases List.mem_cons.1 hk with rfl | hk
    · exact wpOp_turn ho (fun a' w' ⟨h5, h6⟩ => ⟨h5, wpAnyH_tree hl hs hQ r _ _ _ h4 h5 h6⟩) h.1
    · rw [List.mem_singleton] at hk
      subst hk
      exact wpOp_turn ho' (fun a' w' ⟨h5, h6⟩ => ⟨h5, by rw [hd]; exact wpAnyH_tree hl hs hQ s _ _ _ h4' h5 h6⟩) h.2
/-- the beginning -/
theorem wp_region_tree {id : Nat} {a : Act} {w : World} {l : List Oper} (S : World → Prop) (t : Tr) (hm : P.follows .mixedOrders = true)
    (hp : (treeB l.toArray t (Array.replicate l.length false) && Region.noSelect l.toArray && t.deep == l.length) = true) (hS : S w.drew)
    (h : wpTree P l.toArray S (NoPanic Q) l t a w.drew) : (Code.region id l.toArray true).wp P Q a w := by
  refine wp_region_noPanic ?_
  simp only [Bool.and_eq_true, beq_iff_eq] at hp
  obtain ⟨⟨h1, h2⟩, h3⟩ := hp
  have := wpAnyH_tree (P := P) (Q := NoPanic Q) (S := S) (l := l) rfl h2 (fun _ _ _ _ _ h => h) t (Array.replicate l.length false) a w.drew h1 hS h
  refine wp_region_held hm (S := S) ?_
  rw [h3] at this
  have hz : l.toArray.size = l.length := List.size_toArray ..
  rw [hz]
  exact this
/-- its steps -/
theorem tree_take {l : List Oper} {i : Nat} {r : Tr} {a : Act} {w : World} {o : Oper} {v : Value} (hn : nthO l i = some o) (hw : Region.wanted o (yielded ops a.tmps) = true) (hy : ∀ w', S w' → (execOp a.eval o).run P w' = .ok (.value v) w')
    (h : wpTree P ops S Q l r (a.put o.dst v) w) : wpTree P ops S Q l (.take i r) a w := by
  simp only [wpTree, hn]; exact ⟨v, .inl ⟨hw, hy⟩, h⟩
theorem tree_load {l : List Oper} {i : Nat} {r : Tr} {a : Act} {w : World} {op : Oper} (hn : nthO l i = some op) (hw : Region.wanted op (yielded ops a.tmps) = true) (ty : TypeId) (x : Operand) (ho : op.op = .load ty x)
    (b o : Nat) (hx : a.eval x = .pointer (some ⟨b, o, none⟩)) (M : Array Value) (d : TypeDesc) (hc : ∀ w', S w' → w'.rangeAt b o M.toList)
    (hu : P.underlying ty = some d) (hd : d.isRow = true) (hi : (P.info? ty).map (·.size) = some M.size)
    (h : wpTree P ops S Q l r (a.put op.dst (.agg M)) w) : wpTree P ops S Q l (.take i r) a w := by
  refine tree_take hn hw (fun w' hb => ?_) h
  unfold execOp
  simp only [ho, hx, Instr.loadAt, Instr.sureAddr, Sem.run_bind, Sem.run_pure, Result.andThen_ok, run_loadVar_mid w' b o ty M.toList d (hc w' hb) hu hd (by simpa using hi)]
theorem tree_one {l : List Oper} {i : Nat} {r : Tr} {a : Act} {w : World} {o : Oper} (hn : nthO l i = some o) (hw : Region.wanted o (yielded ops a.tmps) = true)
    (h : ∀ K : Act → World → Prop, Shut (∀ a w, S w → wpTree P ops S Q l r a w → K a w) → Oper.wp P o a w K Q) : wpTree P ops S Q l (.one i r) a w := by
  simp only [wpTree, hn, wpTurn]; rw [if_pos hw]; exact h _ fun _ _ h1 h2 => ⟨h1, h2⟩
theorem tree_two {l : List Oper} {i j : Nat} {r s : Tr} {a : Act} {w : World} (h1 : wpTree P ops S Q l (.one i r) a w) (h2 : wpTree P ops S Q l (.one j s) a w) : wpTree P ops S Q l (.two i j r s) a w := by
  simp only [wpTree] at h1 h2 ⊢; exact ⟨h1, h2⟩
theorem tree_nil {l : List Oper} {a : Act} {w : World} (h : Q .normal a w) : wpTree P ops S (NoPanic Q) l .nil a w := h
end
end Go.Mir
