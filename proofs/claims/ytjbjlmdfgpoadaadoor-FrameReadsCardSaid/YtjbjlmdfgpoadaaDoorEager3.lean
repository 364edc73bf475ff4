/- A REGION THAT DRAWS ITS ORDER, WALKED IN ONE ORDER, WHERE A CALL MAY TELL MORE OF THE WORLD THAN WAS KNOWN AT THE START (the condition may grow behind each operation that runs in its turn). No program is named. Conditions: none. -/
import Derived.Test.YtjbjlmdfgpoadaaDoorEager2
namespace Go.Mir
open Go.RowKit

theorem wpAnyH_mono {P : Program} {md : Region.Mode} {ops : Array Oper} {Q : Exit → Act → World → Prop} {S S' : World → Prop} (hs : ∀ x, S' x → S x) :
    ∀ (n : Nat) (listed : Array Bool) (a : Act) (w : World), wpAnyH P md ops Q S' n listed a w → wpAnyH P md ops Q S n listed a w
  | 0, _, _, _, h => h
  | n + 1, _, _, _, h => ⟨h.1, fun i hi => wpOp_mono (fun a' w' h' => ⟨hs _ h'.1, wpAnyH_mono hs n _ a' w' h'.2⟩) (h.2 i hi)⟩
def wpEagerX (P : Program) (ops : Array Oper) (Q : Exit → Act → World → Prop) : List (Oper × Bool) → (World → Prop) → Act → World → Prop
  | [], _, a, w => Q .normal a w
  | (o, true) :: r, S, a, w => ∃ v, YieldsIf P ops S o v a ∧ wpEagerX P ops Q r S (a.put o.dst v) w
  | (o, false) :: r, S, a, w => if Region.wanted o (yielded ops a.tmps) then o.wp P a w (fun a' w' => ∃ S' : World → Prop, (∀ x, S' x → S x) ∧ S' w' ∧ wpEagerX P ops Q r S' a' w') Q else wpEagerX P ops Q r S (a.put o.dst undef) w
theorem wpAnyH_eagerX {P : Program} {l : List Oper} {ops : Array Oper} (hl : l.toArray = ops) {Q : Exit → Act → World → Prop} (hs : Region.noSelect ops = true) (hQ : ∀ c a d v w, Q (.panic c) (a.put d v) w → Q (.panic c) a w) :
    ∀ (π : List (Nat × Bool)) (listed : Array Bool) (S : World → Prop) (a : Act) (w : World), planB ops π listed = true → S w → wpEagerX P ops Q (planOps l π) S a w → wpAnyH P .any ops Q S π.length listed a w
  | [], listed, S, a, w, hp, _, h => by
    refine wpAnyH_done ?_ h _
    simpa [planB, List.isEmpty_iff] using hp
  | (i, true) :: r, listed, S, a, w, hp, hS, h => by
    simp only [planB, Bool.and_eq_true] at hp
    obtain ⟨⟨⟨h1, h2⟩, h3⟩, h4⟩ := hp
    obtain ⟨o, ho⟩ := Option.isSome_iff_exists.1 h1
    have hn : nthO l i = some o := by rw [← nthO_eq, hl]; exact ho
    simp only [planOps, hn, wpEagerX] at h
    obtain ⟨v, hy, h⟩ := h
    exact wpAnyH_take ho hs h2 h3 (fun c a w => hQ c a _ _ w) hy hS (wpAnyH_eagerX hl hs hQ r _ S _ _ h4 hS h)
  | (i, false) :: r, listed, S, a, w, hp, hS, h => by
    simp only [planB, Bool.and_eq_true, beq_iff_eq] at hp
    obtain ⟨⟨h1, h2⟩, h4⟩ := hp
    obtain ⟨o, ho⟩ := Option.isSome_iff_exists.1 h1
    have hn : nthO l i = some o := by rw [← nthO_eq, hl]; exact ho
    simp only [planOps, hn, wpEagerX] at h
    refine wpAnyH_all h2 (by simp) fun j hj => ?_
    rw [List.mem_singleton] at hj
    subst hj
    unfold wpOp
    simp only [ho]
    split at h
    · rename_i hw
      rw [if_pos hw]
      exact .inl (Oper.wp_mono (fun a' w' ⟨S', h5, h6, h7⟩ => ⟨h5 _ h6, wpAnyH_mono h5 _ _ _ _ (wpAnyH_eagerX hl hs hQ r _ S' _ _ h4 h6 h7)⟩) h)
    · rename_i hw
      rw [if_neg hw]
      exact ⟨hS, wpAnyH_eagerX hl hs hQ r _ S _ _ h4 hS h⟩
/-- the beginning -/
theorem wp_region_eager_x {P : Program} {id : Nat} {Q : Exit → Act → World → Prop} {a : Act} {w : World} {l : List Oper} (S : World → Prop) (π : List (Nat × Bool)) (hm : P.follows .mixedOrders = true)
    (hp : (planB l.toArray π (Array.replicate l.length false) && Region.noSelect l.toArray && π.length == l.length) = true) (hS : S w.drew)
    (h : wpEagerX P l.toArray (NoPanic Q) (planOps l π) S a w.drew) : (Code.region id l.toArray true).wp P Q a w := by
  refine wp_region_noPanic ?_
  simp only [Bool.and_eq_true, beq_iff_eq] at hp
  obtain ⟨⟨h1, h2⟩, h3⟩ := hp
  have := wpAnyH_eagerX (P := P) (Q := NoPanic Q) (l := l) rfl h2 (fun _ _ _ _ _ h => h) π (Array.replicate l.length false) S a w.drew h1 hS h
  refine wp_region_held hm (S := S) ?_
  rw [h3] at this
  have hz : l.toArray.size = l.length := List.size_toArray ..
  rw [hz]
  exact this
section
variable {P : Program} {ops : Array Oper} {S : World → Prop} {Q : Exit → Act → World → Prop}
theorem eagerXOpen {l : List Oper} {i : Nat} {b : Bool} {r : List (Nat × Bool)} {a : Act} {w : World} {o : Oper} (ho : nthO l i = some o)
    (h : wpEagerX P ops Q ((o, b) :: planOps l r) S a w) : wpEagerX P ops Q (planOps l ((i, b) :: r)) S a w := by
  unfold planOps; rw [ho]; exact h
theorem eagerXEnd {l : List Oper} {a : Act} {w : World} (h : Q .normal a w) : wpEagerX P ops (NoPanic Q) (planOps l []) S a w := h
theorem wpEagerX_take {o : Oper} {r : List (Oper × Bool)} {a : Act} {w : World} {v : Value} (hw : Region.wanted o (yielded ops a.tmps) = true)
    (hy : ∀ w', S w' → (execOp a.eval o).run P w' = .ok (.value v) w') (h : wpEagerX P ops Q r S (a.put o.dst v) w) : wpEagerX P ops Q ((o, true) :: r) S a w := ⟨v, .inl ⟨hw, hy⟩, h⟩
theorem wpEagerX_skip {o : Oper} {r : List (Oper × Bool)} {a : Act} {w : World} (hw : Region.wanted o (yielded ops a.tmps) = false)
    (h : wpEagerX P ops Q r S (a.put o.dst undef) w) : wpEagerX P ops Q ((o, true) :: r) S a w := ⟨undef, .inr ⟨hw, rfl⟩, h⟩
theorem wpEagerX_off {o : Oper} {r : List (Oper × Bool)} {a : Act} {w : World} (hw : Region.wanted o (yielded ops a.tmps) = false)
    (h : wpEagerX P ops Q r S (a.put o.dst undef) w) : wpEagerX P ops Q ((o, false) :: r) S a w := by
  unfold wpEagerX; rw [if_neg (by rw [hw]; exact Bool.false_ne_true)]; exact h
theorem wpEagerX_load {op : Oper} {r : List (Oper × Bool)} {a : Act} {w : World} (hw : Region.wanted op (yielded ops a.tmps) = true) (ty : TypeId) (x : Operand) (ho : op.op = .load ty x)
    (b o : Nat) (hx : a.eval x = .pointer (some ⟨b, o, none⟩)) (M : Array Value) (d : TypeDesc) (hc : ∀ w', S w' → w'.rangeAt b o M.toList)
    (hu : P.underlying ty = some d) (hd : d.isRow = true) (hi : (P.info? ty).map (·.size) = some M.size)
    (h : wpEagerX P ops Q r S (a.put op.dst (.agg M)) w) : wpEagerX P ops Q ((op, true) :: r) S a w := by
  refine wpEagerX_take hw (fun w' hb => ?_) h
  unfold execOp
  simp only [ho, hx, Instr.loadAt, Instr.sureAddr, Sem.run_bind, Sem.run_pure, Result.andThen_ok, run_loadVar_mid w' b o ty M.toList d (hc w' hb) hu hd (by simpa using hi)]
/-- at an operation that runs in its turn: the way back is shut till a condition is shown, at least as strong as the one before -/
theorem wpEagerX_op {o : Oper} {r : List (Oper × Bool)} {a : Act} {w : World} (hw : Region.wanted o (yielded ops a.tmps) = true)
    (h : ∀ K : Act → World → Prop, Shut (∀ (S' : World → Prop) a w, (∀ x, S' x → S x) → S' w → wpEagerX P ops Q r S' a w → K a w) → Oper.wp P o a w K Q) : wpEagerX P ops Q ((o, false) :: r) S a w := by
  unfold wpEagerX; rw [if_pos hw]; exact h _ fun S' _ _ h0 h1 h2 => ⟨S', h0, h1, h2⟩
theorem eagerXLoadAt {r : List (Oper × Bool)} {a : Act} {w : World} (n : Nat) {d : Option Nat} {ty : TypeId} {t : TypeId} {p : String} {af : Array Edge} {g : Option (Nat × Bool)} {b : Bool}
    (h : wpEagerX P ops Q ((⟨d, .load ty (.tmp n), t, p, af, g⟩, b) :: r) S a w) : wpEagerX P ops Q ((⟨d, .load ty (.tmp n), t, p, af, g⟩, b) :: r) S a w := h
theorem eagerXAt {r : List (Oper × Bool)} {a : Act} {w : World} (n : Nat) {op : Op} {t : TypeId} {p : String} {af : Array Edge} {g : Option (Nat × Bool)} {b : Bool}
    (h : wpEagerX P ops Q ((⟨some n, op, t, p, af, g⟩, b) :: r) S a w) : wpEagerX P ops Q ((⟨some n, op, t, p, af, g⟩, b) :: r) S a w := h
end
end Go.Mir
