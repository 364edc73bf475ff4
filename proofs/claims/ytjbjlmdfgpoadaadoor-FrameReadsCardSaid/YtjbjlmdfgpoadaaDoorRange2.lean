/- A REGION THAT DRAWS ITS ORDER WITHIN A ROUND OF A LOOP OVER A FUNCTION: the eager walk, there. No program is named. Conditions: no deferred call, no row of a table stands in it. -/
import Derived.Test.YtjbjlmdfgpoadaaDoorRange
import Derived.Test.YtjbjlmdfgpoadaaDoorEager2
import Derived.Test.YtjbjlmdfgpoadaaDoorTree
namespace Go.Mir
open Go.RowKit

def plainOp : Op → Bool
  | .defer _ => false
  | _ => true
theorem uponIn_of_upon {P : Program} {n r : Nat} {o : Oper} {a : Act} {K : Act → World → Prop} {Q : Exit → Act → World → Prop} {w : World}
    (h : o.wp P a w K Q) (hd : plainOp o.op = true) : o.wpIn (Fence.wide.inRound r) n P a w K Q := by
  refine ⟨fun _ _ => trivial, ?_⟩
  rw [show (Fence.wide.inRound r).round = some r from rfl, Oper.semAt_some r a.eval o (fun c hc => by rw [hc] at hd; cases hd)]
  unfold Oper.wp at h
  generalize hres : (execOp a.eval o).run P w = res at h
  cases res with
  | ok x w' =>
    cases x with
    | value v => exact h
    | skip => exact h
    | defer d => exact h
    | enter f args => exact ⟨fun hh => by simp [Fence.wide] at hh, CallsIn.inRound r (callsIn_wide.2 h)⟩
    | row row args => exact ⟨fun hh => by simp [Fence.wide] at hh, fun c cs _ => let ⟨v, w2, r1, s1⟩ := h c cs; ⟨v, w2, r1, stepsIn_wide.2 s1⟩⟩
    | _ => exact h.elim
  | halt x w' =>
    cases x with
    | panic v => exact h
    | _ => exact h.elim
theorem wpOpsIn_of_wpOps {P : Program} {n r : Nat} {ops : Array Oper} {Q : Exit → Act → World → Prop} (hpl : ops.toList.all (fun o => plainOp o.op) = true) (hQ : ∀ a w, ¬ Q .outgrown a w) :
    ∀ (is : List Nat) (a : Act) (w : World), wpOps P ops Q is a w → wpOpsIn (Fence.wide.inRound r) n P ops Q is a w
  | [], _, _, h => h
  | i :: is, a, w, h => by
    unfold wpOps at h
    unfold wpOpsIn
    cases ho : ops[i]? with
    | none => simp only [ho] at h ⊢; exact wpOpsIn_of_wpOps hpl hQ is a w h
    | some o =>
      simp only [ho] at h ⊢
      split at h
      · rename_i hw
        rw [if_pos hw]
        have hm : o ∈ ops := Array.mem_of_getElem? ho
        rcases h with h | h
        · exact Oper.wpIn_mono (fun a' w' h' => wpOpsIn_of_wpOps hpl hQ is a' w' h') (uponIn_of_upon h (List.all_eq_true.1 hpl o (Array.mem_toList_iff.2 hm)))
        · obtain ⟨x, y, h2⟩ := h.2
          exact absurd h2 (hQ x y)
      · rename_i hw
        rw [if_neg hw]
        exact ⟨fun _ _ => trivial, wpOpsIn_of_wpOps hpl hQ is _ w h⟩
theorem wpIn_region_of_any {P : Program} {id n r : Nat} {Q : Exit → Act → World → Prop} {a : Act} {w : World} {l : List Oper} (hm : P.follows .mixedOrders = true) (hpl : l.all (fun o => plainOp o.op) = true)
    (hQ : ∀ a w, ¬ Q .outgrown a w) (h : wpAny P .any l.toArray Q l.length (Array.replicate l.length false) a w.drew) : (Code.region id l.toArray true).wpIn (Fence.wide.inRound r) n P Q a w := by
  refine wpIn_region_draw fun t => ?_
  simp only [Region.schedule, hm, Bool.true_or, if_true]
  refine wpOpsIn_of_wpOps hpl hQ _ _ _ (wpAny_sound _ t _ a _ ?_)
  have hz : l.toArray.size = l.length := List.size_toArray ..
  rw [hz]
  exact h
theorem wpIn_region_eager_in {P : Program} {id n r : Nat} {Q : Exit → Act → World → Prop} {a : Act} {w : World} {l : List Oper} (S : World → Prop) (π : List (Nat × Bool)) (hm : P.follows .mixedOrders = true)
    (hp : (planB l.toArray π (Array.replicate l.length false) && Region.noSelect l.toArray && π.length == l.length) = true) (hpl : l.all (fun o => plainOp o.op) = true)
    (hQ : ∀ a w, ¬ Q .outgrown a w) (hQ2 : ∀ c a d v w, Q (.panic c) (a.put d v) w → Q (.panic c) a w) (hS : S w.drew)
    (h : wpEager P l.toArray S Q (planOps l π) a w.drew) : (Code.region id l.toArray true).wpIn (Fence.wide.inRound r) n P Q a w := by
  simp only [Bool.and_eq_true, beq_iff_eq] at hp
  obtain ⟨⟨h1, h2⟩, h3⟩ := hp
  have hh := wpAnyH_eager (P := P) (Q := Q) (l := l) rfl h2 hQ2 π (Array.replicate l.length false) a w.drew h1 hS h
  rw [h3] at hh
  exact wpIn_region_of_any hm hpl hQ (wpAny_of_held _ _ _ _ hh)
theorem wpIn_region_eager_t {P : Program} {id n r : Nat} {Q : Exit → Act → World → Prop} {a : Act} {w : World} {l : List Oper} (S : World → Prop) (marks : List Nat) (π : List (Nat × Bool)) (t : List Nat) (hm : P.follows .mixedOrders = true)
    (hp : (planG l.toArray marks t π (Array.replicate l.length false) && Region.noSelect l.toArray && π.length + t.length == l.length) = true) (hpl : l.all (fun o => plainOp o.op) = true)
    (hQ : ∀ a w, ¬ Q .outgrown a w) (hQ2 : ∀ c a d v w, Q (.panic c) (a.put d v) w → Q (.panic c) a w) (hS : S w.drew)
    (h : wpEagerT P l.toArray S Q (tailOps l t) (planOps l π) a w.drew) : (Code.region id l.toArray true).wpIn (Fence.wide.inRound r) n P Q a w := by
  simp only [Bool.and_eq_true, beq_iff_eq] at hp
  obtain ⟨⟨h1, h2⟩, h3⟩ := hp
  have hcl : closedL l.toArray (Array.replicate l.length false) := fun j o _ hj => by rw [Array.getD_eq_getD_getElem?, Array.getElem?_replicate] at hj; split at hj <;> cases hj
  have hh := wpAnyG_plan (P := P) (Q := Q) (marks := marks) (l := l) rfl h2 hQ2 t π (Array.replicate l.length false) a w.drew h1 hcl hS h
  rw [h3] at hh
  exact wpIn_region_of_any hm hpl hQ (wpAny_of_G _ _ _ _ hh)
theorem wpIn_region_tree {P : Program} {id n r : Nat} {Q : Exit → Act → World → Prop} {a : Act} {w : World} {l : List Oper} (S : World → Prop) (t : Tr) (hm : P.follows .mixedOrders = true)
    (hp : (treeB l.toArray t (Array.replicate l.length false) && Region.noSelect l.toArray && t.deep == l.length) = true) (hpl : l.all (fun o => plainOp o.op) = true)
    (hQ : ∀ a w, ¬ Q .outgrown a w) (hQ2 : ∀ c a d v w, Q (.panic c) (a.put d v) w → Q (.panic c) a w) (hS : S w.drew)
    (h : wpTree P l.toArray S Q l t a w.drew) : (Code.region id l.toArray true).wpIn (Fence.wide.inRound r) n P Q a w := by
  simp only [Bool.and_eq_true, beq_iff_eq] at hp
  obtain ⟨⟨h1, h2⟩, h3⟩ := hp
  have hh := wpAnyH_tree (P := P) (Q := Q) (S := S) (l := l) rfl h2 hQ2 t (Array.replicate l.length false) a w.drew h1 hS h
  rw [h3] at hh
  exact wpIn_region_of_any hm hpl hQ (wpAny_of_held _ _ _ _ hh)
theorem treeDone {P : Program} {ops : Array Oper} {S : World → Prop} {Q : Exit → Act → World → Prop} {l : List Oper} {a : Act} {w : World} (h : Q .normal a w) : wpTree P ops S Q l .nil a w := h
theorem eagerDone {P : Program} {ops : Array Oper} {S : World → Prop} {Q : Exit → Act → World → Prop} {l : List Oper} {a : Act} {w : World} (h : Q .normal a w) : wpEager P ops S Q (planOps l []) a w := h
end Go.Mir
