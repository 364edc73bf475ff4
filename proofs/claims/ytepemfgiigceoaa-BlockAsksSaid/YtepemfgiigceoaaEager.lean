/- A REGION THAT DRAWS ITS ORDER, WALKED IN ONE ORDER: what reads only what stood at its start is taken at once; the calls come one behind the other. No program is named. Conditions: none. -/
import Derived.Test.YtepemfgiigceoaaIdv
import Derived.OrdersHeld
import Derived.Deep.RegionHeld3
import Derived.NoCompiler
import Derived.IntWalk
namespace Go.Mir
open Go.RowKit

/-- the plan is one that any order comes to -/
def planB (ops : Array Oper) : List (Nat × Bool) → Array Bool → Bool
  | [], listed => (Region.ready .any ops listed).isEmpty
  | (i, true) :: r, listed => (ops[i]?).isSome && Region.free .any ops listed i && (Region.ready .any ops listed).contains i && planB ops r (listed.setIfInBounds i true)
  | (i, false) :: r, listed => (ops[i]?).isSome && Region.ready .any ops listed == [i] && planB ops r (listed.setIfInBounds i true)
def planOps (ops : Array Oper) : List (Nat × Bool) → List (Oper × Bool)
  | [] => []
  | (i, b) :: r => match ops[i]? with
    | some o => (o, b) :: planOps ops r
    | none => planOps ops r
def wpEager (P : Program) (ops : Array Oper) (S : World → Prop) (Q : Exit → Act → World → Prop) : List (Oper × Bool) → Act → World → Prop
  | [], a, w => Q .normal a w
  | (o, true) :: r, a, w => ∃ v, YieldsIf P ops S o v a ∧ wpEager P ops S Q r (a.put o.dst v) w
  | (o, false) :: r, a, w => if Region.wanted o (yielded ops a.tmps) then o.wp P a w (fun a' w' => S w' ∧ wpEager P ops S Q r a' w') Q else wpEager P ops S Q r (a.put o.dst undef) w
theorem wpAnyH_eager {P : Program} {ops : Array Oper} {S : World → Prop} {Q : Exit → Act → World → Prop} (hs : Region.noSelect ops = true) (hQ : ∀ c a d v w, Q (.panic c) (a.put d v) w → Q (.panic c) a w) :
    ∀ (π : List (Nat × Bool)) (listed : Array Bool) (a : Act) (w : World), planB ops π listed = true → S w → wpEager P ops S Q (planOps ops π) a w → wpAnyH P .any ops Q S π.length listed a w
  | [], listed, a, w, hp, _, h => by
    refine wpAnyH_done ?_ h _
    simpa [planB, List.isEmpty_iff] using hp
  | (i, true) :: r, listed, a, w, hp, hS, h => by
    simp only [planB, Bool.and_eq_true] at hp
    obtain ⟨⟨⟨h1, h2⟩, h3⟩, h4⟩ := hp
    obtain ⟨o, ho⟩ := Option.isSome_iff_exists.1 h1
    simp only [planOps, ho, wpEager] at h
    obtain ⟨v, hy, h⟩ := h
    exact wpAnyH_take ho hs h2 h3 (fun c a w => hQ c a _ _ w) hy hS (wpAnyH_eager hs hQ r _ _ _ h4 hS h)
  | (i, false) :: r, listed, a, w, hp, hS, h => by
    simp only [planB, Bool.and_eq_true, beq_iff_eq] at hp
    obtain ⟨⟨h1, h2⟩, h4⟩ := hp
    obtain ⟨o, ho⟩ := Option.isSome_iff_exists.1 h1
    simp only [planOps, ho, wpEager] at h
    refine wpAnyH_all h2 (by simp) fun j hj => ?_
    rw [List.mem_singleton] at hj
    subst hj
    unfold wpOp
    simp only [ho]
    split at h
    · rename_i hw
      rw [if_pos hw]
      exact .inl (Oper.wp_mono (fun a' w' ⟨h5, h6⟩ => ⟨h5, wpAnyH_eager hs hQ r _ _ _ h4 h5 h6⟩) h)
    · rename_i hw
      rw [if_neg hw]
      exact ⟨hS, wpAnyH_eager hs hQ r _ _ _ h4 hS h⟩
/-- the beginning -/
theorem wp_region_eager {P : Program} {id : Nat} {Q : Exit → Act → World → Prop} {a : Act} {w : World} {l : List Oper} (π : List (Nat × Bool)) (L : List (Oper × Bool)) (hm : P.follows .mixedOrders = true)
    (hp : (planB l.toArray π (Array.replicate l.length false) && Region.noSelect l.toArray && π.length == l.length) = true) (hL : planOps l.toArray π = L)
    (h : wpEager P l.toArray (Below w.heap.size w) (NoPanic Q) L a w.drew) : (Code.region id l.toArray true).wp P Q a w := by
  refine wp_region_noPanic ?_
  simp only [Bool.and_eq_true, beq_iff_eq] at hp
  obtain ⟨⟨h1, h2⟩, h3⟩ := hp
  subst hL
  have := wpAnyH_eager (P := P) (Q := NoPanic Q) h2 (fun _ _ _ _ _ h => h) π (Array.replicate l.length false) a w.drew h1 ⟨rfl, rfl, rfl, Nat.le_refl _, fun _ _ => rfl⟩ h
  refine wp_region_held hm (S := Below w.heap.size w) ?_
  rw [h3] at this
  have hz : l.toArray.size = l.length := List.size_toArray ..
  rw [hz]
  exact this
/-- its steps -/
theorem wpEager_nil {P : Program} {ops : Array Oper} {S : World → Prop} {Q : Exit → Act → World → Prop} {a : Act} {w : World} (h : Q .normal a w) : wpEager P ops S (NoPanic Q) [] a w := h
theorem wpEager_take {P : Program} {ops : Array Oper} {S : World → Prop} {Q : Exit → Act → World → Prop} {o : Oper} {r : List (Oper × Bool)} {a : Act} {w : World} {v : Value} (hw : Region.wanted o (yielded ops a.tmps) = true)
    (hy : ∀ w', S w' → (execOp a.eval o).run P w' = .ok (.value v) w') (h : wpEager P ops S Q r (a.put o.dst v) w) : wpEager P ops S Q ((o, true) :: r) a w := ⟨v, .inl ⟨hw, hy⟩, h⟩
theorem wpEager_skip {P : Program} {ops : Array Oper} {S : World → Prop} {Q : Exit → Act → World → Prop} {o : Oper} {r : List (Oper × Bool)} {a : Act} {w : World} (hw : Region.wanted o (yielded ops a.tmps) = false)
    (h : wpEager P ops S Q r (a.put o.dst undef) w) : wpEager P ops S Q ((o, true) :: r) a w := ⟨undef, .inr ⟨hw, rfl⟩, h⟩
theorem wpEager_off {P : Program} {ops : Array Oper} {S : World → Prop} {Q : Exit → Act → World → Prop} {o : Oper} {r : List (Oper × Bool)} {a : Act} {w : World} (hw : Region.wanted o (yielded ops a.tmps) = false)
    (h : wpEager P ops S Q r (a.put o.dst undef) w) : wpEager P ops S Q ((o, false) :: r) a w := by
  unfold wpEager; rw [if_neg (by rw [hw]; exact Bool.false_ne_true)]; exact h
theorem wpEager_load {P : Program} {ops : Array Oper} {w0 : World} {Q : Exit → Act → World → Prop} {op : Oper} {r : List (Oper × Bool)} {a : Act} {w : World} (hw : Region.wanted op (yielded ops a.tmps) = true) (ty : TypeId) (x : Operand) (ho : op.op = .load ty x)
    (b o : Nat) (hx : a.eval x = .pointer (some ⟨b, o, none⟩)) (M : Array Value) (d : TypeDesc) (hc : ∀ w', Below w0.heap.size w0 w' → w'.rangeAt b o M.toList)
    (hu : P.underlying ty = some d) (hd : d.isRow = true) (hi : (P.info? ty).map (·.size) = some M.size)
    (h : wpEager P ops (Below w0.heap.size w0) Q r (a.put op.dst (.agg M)) w) : wpEager P ops (Below w0.heap.size w0) Q ((op, true) :: r) a w := by
  refine wpEager_take hw (fun w' hb => ?_) h
  unfold execOp
  simp only [ho, hx, Instr.loadAt, Instr.sureAddr, Sem.run_bind, Sem.run_pure, Result.andThen_ok, run_loadVar_mid w' b o ty M.toList d (hc w' hb) hu hd (by simpa using hi)]
/-- at a call: the way back is shut till 'S' is shown -/
theorem wpEager_op {P : Program} {ops : Array Oper} {S : World → Prop} {Q : Exit → Act → World → Prop} {o : Oper} {r : List (Oper × Bool)} {a : Act} {w : World} (hw : Region.wanted o (yielded ops a.tmps) = true)
    (h : ∀ K : Act → World → Prop, Shut (∀ a w, S w → wpEager P ops S Q r a w → K a w) → Oper.wp P o a w K Q) : wpEager P ops S Q ((o, false) :: r) a w := by
  unfold wpEager; rw [if_pos hw]; exact h _ fun _ _ h1 h2 => ⟨h1, h2⟩
theorem eagerLoadAt {P : Program} {ops : Array Oper} {S : World → Prop} {Q : Exit → Act → World → Prop} {r : List (Oper × Bool)} {a : Act} {w : World} (n : Nat) {d : Option Nat} {ty : TypeId} {t : TypeId} {p : String} {af : Array Edge} {g : Option (Nat × Bool)} {b : Bool}
    (h : wpEager P ops S Q ((⟨d, .load ty (.tmp n), t, p, af, g⟩, b) :: r) a w) : wpEager P ops S Q ((⟨d, .load ty (.tmp n), t, p, af, g⟩, b) :: r) a w := h
theorem range_below {w w' : World} {b o : Nat} {L : List Value} (h : w.rangeAt b o L) (hb : Below w.heap.size w w') : w'.rangeAt b o L := fun j v hv => by
  have := h j v hv
  rw [hb.cell (block_lt_of_cell this)]; exact this
theorem cell_below {w w' : World} {p : Addr} {v : Value} (h : w.cell? p = some v) (hb : Below w.heap.size w w') : w'.cell? p = some v := by
  rw [hb.cell (block_lt_of_cell h)]; exact h

open Lean Elab Tactic Meta
/-- the plan, made, and the walk begun -/
elab "go_eager" : tactic => withMainContext do
  let t := (← instantiateMVars (← getMainTarget)).consumeMData
  unless t.isAppOf ``Code.wp && (t.getAppArgs[1]!).isAppOf ``Code.region do throwError "go_eager: no region"
  let ops := (t.getAppArgs[1]!).getAppArgs[1]!
  unless ops.isAppOfArity ``List.toArray 2 do throwError "go_eager: not written out"
  let some elems := listElems (ops.getArg! 1) | throwError "go_eager: not written out"
  let es := elems.toArray
  let md := mkConst ``Region.Mode.any
  let mut listed : Array Bool := Array.replicate es.size false
  let mut plan : Array (Nat × Bool) := #[]
  for _ in [0:es.size] do
    let le ← mkAppM ``List.toArray #[toExpr listed.toList]
    let ready ← kernelNats (mkApp3 (mkConst ``Region.ready) md ops le)
    let mut pick : Option (Nat × Bool) := none
    for i in ready do
      if pick.isNone && opHead ops i != some ``Op.call then
        if ← kernelBool (mkApp4 (mkConst ``Region.free) md ops le (mkNatLit i)) then pick := some (i, true)
    if pick.isNone then
      match ready with
      | [i] => pick := some (i, false)
      | [] => pure ()
      | _ => for i in ready do
          if pick.isNone then
            if ← kernelBool (mkApp4 (mkConst ``Region.free) md ops le (mkNatLit i)) then pick := some (i, true)
    let some p := pick | throwError "go_eager: no plan at {plan}, ready: {ready}"
    plan := plan.push p
    listed := listed.setIfInBounds p.1 true
  let oT := mkConst ``Oper
  let bT := mkConst ``Bool
  let prod := mkApp2 (mkConst ``Prod [.zero, .zero]) oT bT
  let L := plan.foldr (init := mkApp (mkConst ``List.nil [.zero]) prod) fun p acc => mkApp3 (mkConst ``List.cons [.zero]) prod (mkApp4 (mkConst ``Prod.mk [.zero, .zero]) oT bT es[p.1]! (toExpr p.2)) acc
  let lS ← Term.exprToSyntax L
  let pS ← Term.exprToSyntax (toExpr plan.toList)
  evalTactic (← `(tactic| refine wp_region_eager $pS $lS (by kernel_rfl) (by kernel_rfl) (by kernel_rfl) ?_))

/-- a step that reads -/
macro "eager_take" : tactic => `(tactic|
  first
    | (refine wpEager_take (v := ?v) (by rfl) ?hy ?rest
       case hy => (intro w' hb'; go_simp; try with_reducible rfl)
       try simp only [Act.put, List.setIfInBounds_toArray, List.set_cons_zero, List.set_cons_succ])
    | (refine wpEager_skip (by rfl) ?_
       try simp only [Act.put, List.setIfInBounds_toArray, List.set_cons_zero, List.set_cons_succ])
    | (refine wpEager_off (by rfl) ?_
       try simp only [Act.put, List.setIfInBounds_toArray, List.set_cons_zero, List.set_cons_succ]))
/-- a step that calls: the arm leaves one goal, and a fact 'Below ..' of the world behind -/
macro "eager_call " "(" tac:tacticSeq ")" : tactic => `(tactic|
  (refine wpEager_op (by rfl) (fun K hK => ?_)
   go_simp
   ($tac)
   refine Shut.out hK _ _ (by assumption) ?_
   clear hK K
   try simp only [Act.put, List.setIfInBounds_toArray, List.set_cons_zero, List.set_cons_succ]))
end Go.Mir
