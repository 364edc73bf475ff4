/- PARTS, JOINED: A REGION THAT DRAWS ITS ORDER, WALKED IN ONE ORDER, WHOSE LAST OPERATIONS MAY TURN WHAT THE EARLIER ONES READ. No program is named. Conditions: none. THE WALKS OF A CHAIN, on: a block connected. Conditions: none. THE WALKS OF A CHAIN, on: a block connected. Conditions: none. THE WALKS OF A CHAIN, on: the tip taken away. Conditions: none. THE WALKS OF A CHAIN, on: a chain loaded, and made. Conditions: none. THE WALKS OF A CHAIN, on: its window told. Conditions: none. THE WALKS OF A CHAIN, on: the document's example. Conditions: none. THE CALLS OF A STATEMENT ON CHAINS, as they lie in memory; are there not too many? Conditions: none. -/
import Derived.Test.YtepemfgiigceoaaChP1
import Derived.Test.YtepemfgiigceoaaChP2
import Derived.Test.YtepemfgiigceoaaChP3
namespace Go.Mir
open Go.RowKit

section
variable {P : Program} {ops : Array Oper} {S : World → Prop} {Q : Exit → Act → World → Prop} {marks : List Nat}
/-- it waits for i, by a path of edges -/
def waitsB (ops : Array Oper) : Nat → Nat → Nat → Bool
  | 0, _, _ => false
  | n + 1, j, i => match ops[j]? with
    | some o => o.after.any fun e => Region.binds .any e && (e.on == i || waitsB ops n e.on i)
    | none => false
/-- it waits for every marked operation -/
def lateB (ops : Array Oper) (marks : List Nat) (j : Nat) : Bool := marks.all fun i => waitsB ops 16 j i
/-- what is listed had all that it waits for listed -/
def closedL (ops : Array Oper) (listed : Array Bool) : Prop := ∀ (j : Nat) (o : Oper), ops[j]? = some o → listed.getD j false = true → ∀ e ∈ o.after, Region.binds .any e = true → listed.getD e.on false = true
theorem waits_listed {listed : Array Bool} (hc : closedL ops listed) {i : Nat} : ∀ (n j : Nat) (o : Oper), ops[j]? = some o → (∀ e ∈ o.after, Region.binds .any e = true → listed.getD e.on false = true) → waitsB ops n j i = true → listed.getD i false = true
  | 0, _, _, _, _, h => by cases h
  | n + 1, j, o, ho, hall, h => by
    simp only [waitsB, ho] at h
    rw [Array.any_eq_true] at h
    obtain ⟨k, hk, h4⟩ := h
    simp only [Bool.and_eq_true, Bool.or_eq_true, beq_iff_eq] at h4
    have hl := hall _ (Array.getElem_mem hk) h4.1
    rcases h4.2 with h5 | h5
    · rw [h5] at hl; exact hl
    · cases ho2 : ops[o.after[k].on]? with
      | none => cases n with
        | zero => cases h5
        | succ m => simp [waitsB, ho2] at h5
      | some o2 => exact waits_listed hc n _ o2 ho2 (hc _ o2 ho2 hl) h5
theorem closedL.set {listed : Array Bool} (hc : closedL ops listed) {j : Nat} (hj : j ∈ Region.ready .any ops listed) : closedL ops (listed.setIfInBounds j true) := fun k o ho hk e he hb => by
  obtain ⟨_, oj, hoj, hall⟩ := mem_ready.1 hj
  by_cases hjk : j = k
  · subst hjk
    rw [hoj] at ho
    cases ho
    exact getD_set_true (hall e he hb)
  · rw [getD_set_ne false hjk] at hk
    exact getD_set_true (hc k o ho hk e he hb)
/-- whichever comes up: S is asked only behind what can come ahead of a marked operation -/
def wpAnyG (P : Program) (ops : Array Oper) (Q : Exit → Act → World → Prop) (S : World → Prop) (marks : List Nat) : Nat → Array Bool → Act → World → Prop
  | 0, listed, a, w => Region.ready .any ops listed = [] ∧ Q .normal a w
  | n + 1, listed, a, w => (Region.ready .any ops listed = [] → Q .normal a w) ∧
    ∀ i ∈ Region.ready .any ops listed, wpOp P ops Q i (fun a' w' => (lateB ops marks i = false → S w') ∧ wpAnyG P ops Q S marks n (listed.setIfInBounds i true) a' w') a w
theorem wpAny_of_G : ∀ (n : Nat) (listed : Array Bool) (a : Act) (w : World), wpAnyG P ops Q S marks n listed a w → wpAny P .any ops Q n listed a w
  | 0, _, _, _, h => h
  | n + 1, _, _, _, h => ⟨h.1, fun i hi => wpOp_mono (fun a' w' h' => wpAny_of_G n _ a' w' h'.2) (h.2 i hi)⟩
theorem wpAnyG_take {i : Nat} {oi : Oper} {v : Value} (hi : ops[i]? = some oi) (hmk : i ∈ marks) (hsel : ∀ (j : Nat) (o : Oper) cs b, ops[j]? = some o → o.op ≠ .select cs b)
    (hQ : ∀ c a w, Q (.panic c) (a.put oi.dst v) w → Q (.panic c) a w) :
    ∀ (n : Nat) (listed : Array Bool) (a : Act) (w : World),
      (∀ j oj, ops[j]? = some oj → j ≠ i → listed.getD j true = false → (∀ e ∈ oj.after, Region.binds .any e = true → e.on ≠ i) → oi.apart ops oj = true) →
      i ∈ Region.ready .any ops listed → closedL ops listed → YieldsIf P ops S oi v a → S w →
      wpAnyG P ops Q S marks n (listed.setIfInBounds i true) (a.put oi.dst v) w → wpAnyG P ops Q S marks (n + 1) listed a w := by
  intro n
  induction n with
  | zero =>
    intro listed a w _ hr hcl hy hS H
    refine ⟨fun h => absurd (h ▸ hr) List.not_mem_nil, fun j hj => ?_⟩
    by_cases hji : j = i
    · subst hji; exact hy.wpOp hi hS ⟨fun _ => hS, H⟩
    · exact absurd (H.1 ▸ ready_mono hj hji) List.not_mem_nil
  | succ n ih =>
    intro listed a w hfree hr hcl hy hS H
    refine ⟨fun h => absurd (h ▸ hr) List.not_mem_nil, fun j hj => ?_⟩
    by_cases hji : j = i
    · subst hji; exact hy.wpOp hi hS ⟨fun _ => hS, H⟩
    obtain ⟨hjun, oj, hoj, hall⟩ := mem_ready.1 hj
    have hiun := (mem_ready.1 hr).1
    have hno : ∀ e ∈ oj.after, Region.binds .any e = true → e.on ≠ i := fun e he hb heq => by
      have h1 := hall e he hb
      rw [heq] at h1
      rcases Nat.lt_or_ge i listed.size with h' | h'
      · simp [h'] at hiun h1; rw [hiun] at h1; cases h1
      · simp [Array.getElem?_eq_none h'] at h1
    have hlate : lateB ops marks j = false := by
      cases hl : lateB ops marks j with
      | false => rfl
      | true =>
        simp only [lateB, List.all_eq_true] at hl
        have h3 := waits_listed hcl 16 j oj hoj hall (hl i hmk)
        rcases Nat.lt_or_ge i listed.size with h' | h'
        · simp [h'] at hiun h3; rw [hiun] at h3; cases h3
        · simp [Array.getElem?_eq_none h'] at h3
    have h2 := wpOp_putIf hoj (hfree j oj hoj hji hjun hno) (fun cs b => hsel i oi cs b hi) (fun cs b => hsel j oj cs b hoj) hQ hy (H.2 j (ready_mono hj hji))
    refine wpOp_mono (fun a' w' h3 => ⟨h3.2.1, ih (listed.setIfInBounds j true) a' w' ?_ (ready_mono hr (Ne.symm hji)) (hcl.set hj) h3.1 (h3.2.1 hlate) ?_⟩) h2
    · intro k ok hk hki hun hn'
      refine hfree k ok hk hki ?_ hn'
      by_cases hjk : j = k
      · subst hjk; exact hjun
      · rw [getD_set_ne true hjk] at hun; exact hun
    · rw [Array.setIfInBounds_comm _ _ hji]
      exact h3.2.2
/-- the plan: what is taken or called while S stands; then what is late -/
def planT (ops : Array Oper) (marks : List Nat) : List Nat → Array Bool → Bool
  | j :: t, l => (ops[j]?).isSome && Region.ready .any ops l == [j] && lateB ops marks j && planT ops marks t (l.setIfInBounds j true)
  | [], l => (Region.ready .any ops l).isEmpty
def planG (ops : Array Oper) (marks : List Nat) (t : List Nat) : List (Nat × Bool) → Array Bool → Bool
  | (i, true) :: r, l => (ops[i]?).isSome && marks.contains i && Region.free .any ops l i && (Region.ready .any ops l).contains i && planG ops marks t r (l.setIfInBounds i true)
  | (i, false) :: r, l => (ops[i]?).isSome && Region.ready .any ops l == [i] && planG ops marks t r (l.setIfInBounds i true)
  | [], l => planT ops marks t l
def tailOps (l : List Oper) : List Nat → List Oper
  | [] => []
  | j :: t => match nthO l j with
    | some o => o :: tailOps l t
    | none => tailOps l t
/-- the walk: while S stands, and on -/
def wpEagerT (P : Program) (ops : Array Oper) (S : World → Prop) (Q : Exit → Act → World → Prop) (T : List Oper) : List (Oper × Bool) → Act → World → Prop
  | [], a, w => wpList P ops Q T a w
  | (o, true) :: r, a, w => ∃ v, YieldsIf P ops S o v a ∧ wpEagerT P ops S Q T r (a.put o.dst v) w
  | (o, false) :: r, a, w => if Region.wanted o (yielded ops a.tmps) then o.wp P a w (fun a' w' => S w' ∧ wpEagerT P ops S Q T r a' w') Q else wpEagerT P ops S Q T r (a.put o.dst undef) w
theorem wpAnyG_late {l : List Oper} (hl : l.toArray = ops) (hs : Region.noSelect ops = true) : ∀ (t : List Nat) (listed : Array Bool) (a : Act) (w : World), planT ops marks t listed = true → wpList P ops Q (tailOps l t) a w → wpAnyG P ops Q S marks t.length listed a w
  | [], listed, a, w, hp, h => by
    simp only [planT, List.isEmpty_iff] at hp
    exact ⟨hp, h⟩
  | j :: t, listed, a, w, hp, h => by
    simp only [planT, Bool.and_eq_true, beq_iff_eq] at hp
    obtain ⟨⟨⟨h1, h2⟩, h3⟩, h4⟩ := hp
    obtain ⟨o, ho⟩ := Option.isSome_iff_exists.1 h1
    have hn : nthO l j = some o := by rw [← nthO_eq, hl]; exact ho
    simp only [tailOps, hn] at h
    refine ⟨fun e => (by rw [h2] at e; cases e), fun i hi => ?_⟩
    rw [h2, List.mem_singleton] at hi
    subst hi
    unfold wpOp
    simp only [ho]
    unfold wpList at h
    split at h
    · rename_i hw
      rw [if_pos hw]
      exact h.imp (fun h => Oper.wp_mono (fun a' w' h5 => ⟨fun e => (by rw [h3] at e; cases e), wpAnyG_late hl hs t _ _ _ h4 h5⟩) h) id
    · rename_i hw
      rw [if_neg hw]
      exact ⟨fun e => (by rw [h3] at e; cases e), wpAnyG_late hl hs t _ _ _ h4 h⟩
theorem wpAnyG_plan {l : List Oper} (hl : l.toArray = ops) (hs : Region.noSelect ops = true) (hQ : ∀ c a d v w, Q (.panic c) (a.put d v) w → Q (.panic c) a w) (t : List Nat) :
    ∀ (π : List (Nat × Bool)) (listed : Array Bool) (a : Act) (w : World), planG ops marks t π listed = true → closedL ops listed → S w → wpEagerT P ops S Q (tailOps l t) (planOps l π) a w → wpAnyG P ops Q S marks (π.length + t.length) listed a w
  | [], listed, a, w, hp, _, _, h => by
    rw [List.length_nil, Nat.zero_add]
    exact wpAnyG_late hl hs t _ _ _ hp h
  | (i, true) :: r, listed, a, w, hp, hcl, hS, h => by
    simp only [planG, Bool.and_eq_true] at hp
    obtain ⟨⟨⟨⟨h1, hmk⟩, h2⟩, h3⟩, h4⟩ := hp
    obtain ⟨o, ho⟩ := Option.isSome_iff_exists.1 h1
    have hn : nthO l i = some o := by rw [← nthO_eq, hl]; exact ho
    simp only [planOps, hn, wpEagerT] at h
    obtain ⟨v, hy, h⟩ := h
    rw [List.length_cons, Nat.add_right_comm]
    exact wpAnyG_take ho (by simpa using hmk) (Region.noSelect_spec hs) (fun c a w => hQ c a _ _ w) _ _ _ _ (Region.free_spec ho h2) (by simpa using h3) hcl hy hS (wpAnyG_plan hl hs hQ t r _ _ _ h4 (hcl.set (by simpa using h3)) hS h)
  | (i, false) :: r, listed, a, w, hp, hcl, hS, h => by
    simp only [planG, Bool.and_eq_true, beq_iff_eq] at hp
    obtain ⟨⟨h1, h2⟩, h4⟩ := hp
    obtain ⟨o, ho⟩ := Option.isSome_iff_exists.1 h1
    have hn : nthO l i = some o := by rw [← nthO_eq, hl]; exact ho
    simp only [planOps, hn, wpEagerT] at h
    rw [List.length_cons, Nat.add_right_comm]
    refine ⟨fun e => (by rw [h2] at e; cases e), fun j hj => ?_⟩
    rw [h2, List.mem_singleton] at hj
    subst hj
    unfold wpOp
    simp only [ho]
    split at h
    · rename_i hw
      rw [if_pos hw]
      exact .inl (Oper.wp_mono (fun a' w' ⟨h5, h6⟩ => ⟨fun _ => h5, wpAnyG_plan hl hs hQ t r _ _ _ h4 (hcl.set (by rw [h2]; exact List.mem_singleton.2 rfl)) h5 h6⟩) h)
    · rename_i hw
      rw [if_neg hw]
      exact ⟨fun _ => hS, wpAnyG_plan hl hs hQ t r _ _ _ h4 (hcl.set (by rw [h2]; exact List.mem_singleton.2 rfl)) hS h⟩
/-- the beginning -/
theorem wp_region_eager_t {id : Nat} {a : Act} {w : World} {l : List Oper} (S : World → Prop) (marks : List Nat) (π : List (Nat × Bool)) (t : List Nat) (hm : P.follows .mixedOrders = true)
    (hp : (planG l.toArray marks t π (Array.replicate l.length false) && Region.noSelect l.toArray && π.length + t.length == l.length) = true) (hS : S w.drew)
    (h : wpEagerT P l.toArray S (NoPanic Q) (tailOps l t) (planOps l π) a w.drew) : (Code.region id l.toArray true).wp P Q a w := by
  refine wp_region_noPanic ?_
  simp only [Bool.and_eq_true, beq_iff_eq] at hp
  obtain ⟨⟨h1, h2⟩, h3⟩ := hp
  have := wpAny_of_G _ _ _ _ (wpAnyG_plan (P := P) (Q := NoPanic Q) (S := S) (marks := marks) (l := l) rfl h2 (fun _ _ _ _ _ h => h) t π (Array.replicate l.length false) a w.drew h1 (fun j o _ hj => by rw [Array.getD_eq_getD_getElem?, Array.getElem?_replicate] at hj; split at hj <;> cases hj) hS h)
  refine wp_region_any hm ?_
  rw [h3] at this
  have hz : l.toArray.size = l.length := List.size_toArray ..
  rw [hz]
  exact this
/-- the next operation, written out -/
theorem eagerTOpen {l : List Oper} {T : List Oper} {i : Nat} {b : Bool} {r : List (Nat × Bool)} {a : Act} {w : World} {o : Oper} (ho : nthO l i = some o)
    (h : wpEagerT P ops S Q T ((o, b) :: planOps l r) a w) : wpEagerT P ops S Q T (planOps l ((i, b) :: r)) a w := by
  unfold planOps; rw [ho]; exact h
theorem eagerTEnd {l : List Oper} {T : List Oper} {a : Act} {w : World} (h : wpList P ops Q T a w) : wpEagerT P ops S Q T (planOps l []) a w := h
theorem tail1 {l : List Oper} {j : Nat} {a : Act} {w : World} {o : Oper} (ho : nthO l j = some o) (h : wpList P ops Q [o] a w) : wpList P ops Q (tailOps l [j]) a w := by
  simp only [tailOps, ho]; exact h
theorem tail2 {l : List Oper} {j k : Nat} {a : Act} {w : World} {o o' : Oper} (ho : nthO l j = some o) (ho' : nthO l k = some o') (h : wpList P ops Q [o, o'] a w) : wpList P ops Q (tailOps l [j, k]) a w := by
  simp only [tailOps, ho, ho']; exact h
theorem wpEagerT_tail {T : List Oper} {a : Act} {w : World} (h : wpList P ops Q T a w) : wpEagerT P ops S Q T [] a w := h
theorem wpEagerT_take {T : List Oper} {o : Oper} {r : List (Oper × Bool)} {a : Act} {w : World} {v : Value} (hw : Region.wanted o (yielded ops a.tmps) = true)
    (hy : ∀ w', S w' → (execOp a.eval o).run P w' = .ok (.value v) w') (h : wpEagerT P ops S Q T r (a.put o.dst v) w) : wpEagerT P ops S Q T ((o, true) :: r) a w := ⟨v, .inl ⟨hw, hy⟩, h⟩
theorem wpEagerT_skip {T : List Oper} {o : Oper} {r : List (Oper × Bool)} {a : Act} {w : World} (hw : Region.wanted o (yielded ops a.tmps) = false)
    (h : wpEagerT P ops S Q T r (a.put o.dst undef) w) : wpEagerT P ops S Q T ((o, true) :: r) a w := ⟨undef, .inr ⟨hw, rfl⟩, h⟩
theorem wpEagerT_load {T : List Oper} {op : Oper} {r : List (Oper × Bool)} {a : Act} {w : World} (hw : Region.wanted op (yielded ops a.tmps) = true) (ty : TypeId) (x : Operand) (ho : op.op = .load ty x)
    (b o : Nat) (hx : a.eval x = .pointer (some ⟨b, o, none⟩)) (M : Array Value) (d : TypeDesc) (hc : ∀ w', S w' → w'.rangeAt b o M.toList)
    (hu : P.underlying ty = some d) (hd : d.isRow = true) (hi : (P.info? ty).map (·.size) = some M.size)
    (h : wpEagerT P ops S Q T r (a.put op.dst (.agg M)) w) : wpEagerT P ops S Q T ((op, true) :: r) a w := by
  refine wpEagerT_take hw (fun w' hb => ?_) h
  unfold execOp
  simp only [ho, hx, Instr.loadAt, Instr.sureAddr, Sem.run_bind, Sem.run_pure, Result.andThen_ok, run_loadVar_mid w' b o ty M.toList d (hc w' hb) hu hd (by simpa using hi)]
theorem wpEagerT_op {T : List Oper} {o : Oper} {r : List (Oper × Bool)} {a : Act} {w : World} (hw : Region.wanted o (yielded ops a.tmps) = true)
    (h : ∀ K : Act → World → Prop, Shut (∀ a w, S w → wpEagerT P ops S Q T r a w → K a w) → Oper.wp P o a w K Q) : wpEagerT P ops S Q T ((o, false) :: r) a w := by
  unfold wpEagerT; rw [if_pos hw]; exact h _ fun _ _ h1 h2 => ⟨h1, h2⟩
theorem eagerTLoadAt {T : List Oper} {r : List (Oper × Bool)} {a : Act} {w : World} (n : Nat) {d : Option Nat} {ty : TypeId} {t : TypeId} {p : String} {af : Array Edge} {g : Option (Nat × Bool)} {b : Bool}
    (h : wpEagerT P ops S Q T ((⟨d, .load ty (.tmp n), t, p, af, g⟩, b) :: r) a w) : wpEagerT P ops S Q T ((⟨d, .load ty (.tmp n), t, p, af, g⟩, b) :: r) a w := h
end
/-- where an operation alone ends -/
def OnlyQ (K : Act → World → Prop) (Q : Exit → Act → World → Prop) : Exit → Act → World → Prop
  | .normal, a, w => K a w
  | .panic c, a, w => Q (.panic c) a w
  | _, _, _ => False
/-- an operation by its law for a list -/
theorem oper_of_list {P : Program} {o : Oper} {a : Act} {w : World} {K : Act → World → Prop} {Q : Exit → Act → World → Prop} (hg : o.guard = none)
    (h : wpList P #[] (OnlyQ K Q) [o] a w) : Oper.wp P o a w K Q := by
  have hno : ¬ LetsOut (OnlyQ K Q) := fun ⟨_, _, h⟩ => h
  unfold wpList at h
  rw [if_pos (by simp [Region.wanted, hg])] at h
  rcases h with h | ⟨_, h⟩
  · replace h : Oper.wp P o a w K (OnlyQ K Q) := h
    unfold Oper.wp at h ⊢
    unfold Oper.upon at h ⊢
    split at h
    · exact h
    · exact h
    · exact h
    · refine Calls.mono h ?_
      intro e w' he
      cases e with
      | returned v => exact he
      | panicked c => exact he
      | outgrown => exact absurd he hno
    · exact h
    · exact h
    · exact h.elim
  · exact absurd h hno
theorem only_end {P : Program} {ops : Array Oper} {K : Act → World → Prop} {Q : Exit → Act → World → Prop} {a : Act} {w : World} (h : K a w) : wpList P ops (OnlyQ K Q) [] a w := h
theorem noPanic_end {Q : Exit → Act → World → Prop} {a : Act} {w : World} (h : Q .normal a w) : NoPanic Q .normal a w := h
end Go.Mir

namespace Go.Proofs.Ytepemfgiigceoaa.Chn
open Go.RowKit Go.Mir Go.Mir.Parts Go.Proofs.Ytepemfgiigceoaa.Blk


set_option maxRecDepth 100000 in
/-- a block refused -/
theorem connect_not {base cb depth height : Nat} {ds : List BlkD} {p : Option Addr} {c : Nat} {rows : List (List Value)} (w : World) (h : ChAt w base cb depth height ds p c rows) (M : Array Value) (b : BlkD) (q : Option Addr) (n cc : Nat) (hM : BlkAt w M b q n cc) (hne : ¬ mayE ds height b = 0) :
    Calls Try.prog 13 #[.pointer (some ⟨cb, 0, none⟩), .agg M] w fun e w' => e = .returned (.int .i64 (mayE ds height b)) ∧ Below w.heap.size w w' := by
  have hb1 : Below w.heap.size w (w.alloc (.cells M 33)) := Below.allocs _ _
  have HB1 := Lib.hid hb1
  have H1 := Lib.hid (h.below hb1)
  have HM1 := Lib.hid (hM.below hb1)
  have HS := Lib.hid hM.size
  have HR1 := Lib.hid (heap_alloc_last w (.cells M 33))
  have hn : (mayE ds height b != 0) = true := by rw [bne_iff_ne]; exact hne
  clear h hM hb1 hne
  go_enter Try.func13, Try.ntmps13
  go_wp2_with ((with_reducible refine wpAt 7 ?_); refine wpList_load_row rfl 33 _ rfl w.heap.size rfl 33 M (0, 0) _ HR1.out Try.underlying33 rfl (infoBlk _ HS.out) ?_)
  refine (may_any _ H1.out M b _ _ _ HM1.out).mono ?_
  rintro e w2 ⟨rfl, hb2⟩
  have HB2 := Lib.hid (HB1.out.trans (hb2.mono HB1.out.size))
  clear hb2
  generalize hE : mayE ds height b = E at *
  go_wp2_with fail
  go_ret
  exact ⟨by rw [hE]; rfl, HB2.out⟩
end Go.Proofs.Ytepemfgiigceoaa.Chn

namespace Go.Proofs.Ytepemfgiigceoaa.Chn
open Go.RowKit Go.Mir Go.Mir.Parts Go.Proofs.Ytepemfgiigceoaa.Blk

theorem infoBlocks : (Try.prog.info? 33).map (fun i => (i.zero, i.size, i.bytes)) = some (some (.agg (blkA zeros zeros none 0 0)), 65, 88) := by kernel_rfl
theorem zblk_size : (Value.agg (blkA zeros zeros none 0 0)).cells.size = 65 := by kernel_rfl
theorem row_rangeC {w : World} {b : Nat} {A : Array Value} {t : TypeId} {fr : Nat × Nat} (h : w.heap[b]? = some (.cells A t fr)) : w.rangeAt b 0 A.toList := fun j v hv => by
  rw [cell_of_row _ _ _ _ _ _ h, ← Array.getElem?_toList, Nat.zero_add]; exact hv
theorem row_sl {w : World} {b : Nat} {A : Array Value} {t : TypeId} {fr : Nat × Nat} (h : w.heap[b]? = some (.cells A t fr)) (n : Nat) (hn : A.size = n) : Sl w (some ⟨b, 0, none⟩) 1 1 n A.toList :=
  ⟨by rw [Array.length_toList, hn, Nat.one_mul], by omega, by omega, fun h => (by cases h), fun a ha j u hu => by
    obtain rfl := Option.some.inj ha
    rw [add_none]
    exact row_rangeC h j u hu⟩
/-- a chain while a call is at work: how high it is, and how long, is left open -/
structure ChMid (w : World) (base cb depth height : Nat) (ds : List BlkD) (p : Option Addr) (c : Nat) (rows : List (List Value)) : Prop where
  row : w.heap[cb]? = some (.cells (chA depth height p ds.length c) 70 (0, 0))
  low : base ≤ cb
  keeps : World.keepsRow w base 33 65 (.slice p ds.length c) ds.length rows.flatten
  count : rows.length = ds.length
  each : ∀ (i : Nat) r d, rows[i]? = some r → ds[i]? = some d → ChB w base r d
  few : ∀ d ∈ ds, d.txs.length ≤ 1099511627776
theorem ChMid.below {w w' : World} {base cb depth height : Nat} {ds : List BlkD} {p : Option Addr} {c : Nat} {rows : List (List Value)} (h : ChMid w base cb depth height ds p c rows) (hb : Below w.heap.size w w') : ChMid w' base cb depth height ds p c rows :=
  ⟨Below.keepOld hb h.row, h.low, keeps_below h.keeps hb, h.count, fun i r d h1 h2 => (h.each i r d h1 h2).below hb, h.few⟩
theorem ChAt.mid {w : World} {base cb depth height : Nat} {ds : List BlkD} {p : Option Addr} {c : Nat} {rows : List (List Value)} (h : ChAt w base cb depth height ds p c rows) : ChMid w base cb depth height ds p c rows := ⟨h.row, h.low, h.keeps, h.count, h.each, h.few⟩
theorem ChMid.at {w : World} {base cb depth height : Nat} {ds : List BlkD} {p : Option Addr} {c : Nat} {rows : List (List Value)} (h : ChMid w base cb depth height ds p c rows) (h1 : 1 ≤ depth ∧ depth ≤ 16) (h2 : ds.length ≤ depth + 1 ∧ height ≤ 4294967295) : ChAt w base cb depth height ds p c rows := ⟨h.row, h.low, h.keeps, h.count, h.each, h1, h2, h.few⟩
/-- what a chain's calls may turn -/
def ChOwn (cb : Nat) (p : Option Addr) (n c : Nat) (i : Nat) : Prop := i = cb ∨ (Value.slice p n c).ownBlock = some i
theorem ChMid.noId {w : World} {base cb depth height : Nat} {ds : List BlkD} {p : Option Addr} {c : Nat} {rows : List (List Value)} (h : ChMid w base cb depth height ds p c rows) :
    ∀ k M fr, w.heap[k]? = some (.cells M 30 fr) → ¬ ChOwn cb p ds.length c k := by
  intro k M fr hk hs
  rcases hs with hs | hs
  · subst hs
    rw [h.row] at hk
    injection hk with e1
    injection e1 with _ e2
    exact absurd e2 (by decide)
  · exact keeps_ne_cells h.keeps hk (by decide) _ hs rfl
/-- its rows are the same, where nothing but its own blocks has turned -/
theorem ChMid.eachOn {w w' : World} {base cb depth height : Nat} {ds : List BlkD} {p : Option Addr} {c : Nat} {rows : List (List Value)} (h : ChMid w base cb depth height ds p c rows) (ht : Turns (ChOwn cb p ds.length c) w w') :
    ∀ (i : Nat) r d, rows[i]? = some r → ds[i]? = some d → ChB w' base r d := fun i r d h1 h2 => (h.each i r d h1 h2).touch ht h.noId
theorem get_snoc {α : Type} {l : List α} {x y : α} {i : Nat} (h : (l ++ [x])[i]? = some y) : l[i]? = some y ∨ i = l.length ∧ y = x := by
  by_cases hi : i < l.length
  · rw [List.getElem?_append_left hi] at h; exact .inl h
  · rw [List.getElem?_append_right (by omega)] at h
    have : i - l.length = 0 := by
      cases hj : i - l.length with
      | zero => rfl
      | succ j => rw [hj] at h; simp at h
    rw [this] at h
    simp at h
    exact .inr ⟨by omega, h.symm⟩
/-- what is left of a block put to the window -/
def PutP (base cb depth height : Nat) (ds : List BlkD) (b : BlkD) (p : Option Addr) (c : Nat) (w w' : World) : Prop :=
  ∃ p' c' rows', ChMid w' base cb depth height (ds ++ [b]) p' c' rows' ∧ p' ≠ none ∧ Turns (ChOwn cb p ds.length c) w w' ∧ ∀ k, (Value.slice p' (ds ++ [b]).length c').ownBlock = some k → (Value.slice p ds.length c).ownBlock = some k ∨ w.heap.size ≤ k
theorem put_mid {base cb depth height : Nat} {ds : List BlkD} {p : Option Addr} {c : Nat} {rows : List (List Value)} {b : BlkD} {w2 w5 : World} (h : ChMid w2 base cb depth height ds p c rows) (hb : base ≤ w2.heap.size)
    {p2 p' : Option Addr} {c2 c' B : Nat} (hbl : b.hash.length = 32 ∧ b.par.length = 32 ∧ (∀ x ∈ b.txs, x.length = 32) ∧ b.txs.length ≤ 1099511627776) (hB : w2.heap.size ≤ B) (ho : w5.ownsRow B 30 32 (.slice p2 b.txs.length c2) b.txs.length (b.txs.flatMap bytesV))
    (hk : World.keepsRow w5 base 33 65 (.slice p' (ds.length + 1) c') (ds.length + 1) (rows.flatten ++ (blkA b.hash b.par p2 b.txs.length c2).toList)) (hp : p' ≠ none)
    (ht : Turns (fun i => (Value.slice p ds.length c).ownBlock = some i) w2 w5) (hn : ∀ k, (Value.slice p' (ds.length + 1) c').ownBlock = some k → (Value.slice p ds.length c).ownBlock = some k ∨ w2.heap.size ≤ k) :
    PutP base cb depth height ds b p c w2 (w5.setCell ⟨cb, 2, none⟩ (.slice p' (ds.length + 1) c')) := by
  have hl : (ds ++ [b]).length = ds.length + 1 := by simp
  have hcb : cb < w2.heap.size := (Array.getElem?_eq_some_iff.1 h.row).1
  have hne : ∀ i, (Value.slice p ds.length c).ownBlock = some i → ¬ i = cb := keeps_ne_cells h.keeps h.row (by decide)
  have hr5 : w5.heap[cb]? = some (.cells (chA depth height p ds.length c) 70 (0, 0)) := ht.keep h.row (fun hi => hne _ hi rfl)
  have hnc : ∀ k, (Value.slice p' (ds.length + 1) c').ownBlock = some k → ¬ k = cb := keeps_ne_cells hk hr5 (by decide)
  have hts : Turns (fun i => i = cb) w5 (w5.setCell ⟨cb, 2, none⟩ (.slice p' (ds.length + 1) c')) := (Turns.refl (fun i => i = cb) w5).setCell (p := ⟨cb, 2, none⟩) (fun _ => rfl) _
  have hT : Turns (ChOwn cb p ds.length c) w2 (w5.setCell ⟨cb, 2, none⟩ (.slice p' (ds.length + 1) c')) := (ht.imp (S' := ChOwn cb p ds.length c) (fun _ _ hi => .inr hi)).trans hts (fun i _ hi => .inl hi)
  refine ⟨p', c', rows ++ [(blkA b.hash b.par p2 b.txs.length c2).toList], ⟨?_, h.low, ?_, by rw [hl]; simp [h.count], ?_, ?_⟩, hp, hT, by rw [hl]; exact hn⟩
  · rw [hl, heap_setCell_same _ _ _ _ _ _ hr5]
    rfl
  · rw [hl, List.flatten_append]
    refine keeps_touch (by simpa using hk) hts (fun k hk' e => hnc k hk' e)
  · intro i r d h1 h2
    rcases get_snoc h1 with h1 | ⟨hi, h1⟩
    · rcases get_snoc h2 with h2 | ⟨hj, h2⟩
      · exact h.eachOn hT i r d h1 h2
      · have := (List.getElem?_eq_some_iff.1 h1).1
        have := h.count
        omega
    · rcases get_snoc h2 with h2 | ⟨hj, h2⟩
      · have := (List.getElem?_eq_some_iff.1 h2).1
        have := h.count
        omega
      · subst h1 h2
        refine ⟨p2, c2, rfl, hbl.1, hbl.2.1, hbl.2.2.1, own_base (own_touch ho hts (fun k hk' e => ?_)) (fun k hk' => ?_)⟩
        · have := (ho.lt k hk').1; omega
        · have := (ho.lt k hk').1; omega
  · intro d hd
    rcases List.mem_append.1 hd with hd | hd
    · exact h.few d hd
    · rw [List.mem_singleton] at hd; rw [hd]; exact hbl.2.2.2
theorem own_below_alloc {w : World} {base e size n : Nat} {v : Value} {xs : List Value} (h : w.ownsRow base e size v n xs) (o : Obj) : (w.alloc o).ownsRow base e size v n xs :=
  own_touch h (Turns.of_below (S := fun _ => False) (Below.allocs w o)) (fun _ _ h => h)
/-- cut to the depth, and one more -/
def cutD (depth : Nat) (ds : List BlkD) : List BlkD := if depth + 1 < ds.length then ds.drop 1 else ds
theorem cutD_len {depth height : Nat} {ds : List BlkD} {b : BlkD} (h : ds.length ≤ height) : (cutD depth (ds ++ [b])).length ≤ height + 1 := by
  unfold cutD
  split
  · simp; omega
  · simp; omega
def ConnP (base cb depth height : Nat) (ds : List BlkD) (b : BlkD) (p : Option Addr) (c : Nat) (w : World) (e : Ending) (w' : World) : Prop := e = .returned (.int .i64 0) ∧
  ∃ p' c' rows', ChAt w' base cb depth (height + 1) (cutD depth (ds ++ [b])) p' c' rows' ∧ p' ≠ none ∧ Turns (ChOwn cb p ds.length c) w w' ∧ ∀ k, (Value.slice p' (cutD depth (ds ++ [b])).length c').ownBlock = some k → (Value.slice p ds.length c).ownBlock = some k ∨ w.heap.size ≤ k
theorem may_height {ds : List BlkD} {height : Nat} {b : BlkD} (h : mayE ds height b = 0) : ¬ height = 4294967295 := by
  intro e
  unfold mayE at h
  rw [if_pos e] at h
  split at h
  · omega
  · split at h <;> omega
theorem sl_dropped {w : World} {b o n c size k : Nat} {vs : List Value} (h : Sl w (some ⟨b, o, none⟩) n c size vs) (hk : k ≤ n) : Sl w (some ⟨b, o + k * size, none⟩) (n - k) (c - k) size (vs.drop (k * size)) :=
  ⟨by rw [List.length_drop, h.len, Nat.sub_mul], by have := h.le; omega, by have := h.max; omega, fun e => (by cases e), fun a ha j u hu => by
    obtain rfl := Option.some.inj ha
    rw [add_none, Nat.add_assoc]
    rw [List.getElem?_drop] at hu
    exact h.at hu⟩
theorem mid_cut {base cb depth height : Nat} {ds : List BlkD} {p p' : Option Addr} {c c' n' : Nat} {rows : List (List Value)} {w7 w8 : World} (h : ChMid w7 base cb depth height ds p c rows) (hb : base ≤ w7.heap.size) (hd : 0 < ds.length)
    (ho : w8.ownsRow w7.heap.size 33 65 (.slice p' n' c') n' (rows.flatten.drop 65)) (hn : n' = ds.length - 1) (ht : Below w7.heap.size w7 w8) :
    ChMid (w8.setCell ⟨cb, 2, none⟩ (.slice p' n' c')) base cb depth height (ds.drop 1) p' c' (rows.drop 1) ∧ Turns (fun i => i = cb) w7 (w8.setCell ⟨cb, 2, none⟩ (.slice p' n' c')) ∧ (∀ k, (Value.slice p' n' c').ownBlock = some k → w7.heap.size ≤ k) := by
  have hcb : cb < w7.heap.size := (Array.getElem?_eq_some_iff.1 h.row).1
  have hl : (ds.drop 1).length = n' := by rw [List.length_drop]; exact hn.symm
  have hown : ∀ k, (Value.slice p' n' c').ownBlock = some k → w7.heap.size ≤ k := fun k hk => (ho.lt k hk).1
  have hr8 := Below.keepOld ht h.row
  have hts : Turns (fun i => i = cb) w8 (w8.setCell ⟨cb, 2, none⟩ (.slice p' n' c')) := (Turns.refl (fun i => i = cb) w8).setCell (p := ⟨cb, 2, none⟩) (fun _ => rfl) _
  have hT : Turns (fun i => i = cb) w7 (w8.setCell ⟨cb, 2, none⟩ (.slice p' n' c')) := (Turns.of_below (S := fun i => i = cb) ht).trans hts (fun _ _ h => h)
  have hT2 : Turns (ChOwn cb p ds.length c) w7 (w8.setCell ⟨cb, 2, none⟩ (.slice p' n' c')) := hT.imp (fun _ _ h => .inl h)
  obtain ⟨r0, rs, rfl⟩ : ∃ r0 rs, rows = r0 :: rs := by
    cases rows with
    | nil => have := h.count; simp at this; omega
    | cons r0 rs => exact ⟨r0, rs, rfl⟩
  obtain ⟨d0, dr, rfl⟩ : ∃ d0 dr, ds = d0 :: dr := by
    cases ds with
    | nil => simp at hd
    | cons d0 dr => exact ⟨d0, dr, rfl⟩
  have hr0 := (h.each 0 r0 d0 rfl rfl).len
  have hfl : ((r0 :: rs).flatten).drop 65 = rs.flatten := by
    rw [List.flatten_cons, List.drop_append_of_le_length (by omega), List.drop_of_length_le (by omega), List.nil_append]
  rw [hfl] at ho
  refine ⟨⟨?_, h.low, ?_, by have := h.count; simpa using this, ?_, fun d hd => h.few d (List.mem_of_mem_drop hd)⟩, hT, hown⟩
  · rw [hl, heap_setCell_same _ _ _ _ _ _ hr8]
    rfl
  · rw [hl]
    exact keeps_of_owns (own_base (own_touch ho hts (fun k hk e => by have := hown k hk; omega)) (fun k hk => by have := hown k hk; omega))
  · intro i r d h1 h2
    exact h.eachOn hT2 (i + 1) r d (by simpa using h1) (by simpa using h2)
theorem mid_high {base cb depth height height' : Nat} {ds : List BlkD} {p : Option Addr} {c : Nat} {rows : List (List Value)} {w : World} (h : ChMid w base cb depth height ds p c rows) :
    ChMid (w.setCell ⟨cb, 1, none⟩ (.int .u32 (height' : Int))) base cb depth height' ds p c rows ∧ Turns (fun i => i = cb) w (w.setCell ⟨cb, 1, none⟩ (.int .u32 (height' : Int))) := by
  have hts : Turns (fun i => i = cb) w (w.setCell ⟨cb, 1, none⟩ (.int .u32 (height' : Int))) := (Turns.refl (fun i => i = cb) w).setCell (p := ⟨cb, 1, none⟩) (fun _ => rfl) _
  refine ⟨⟨?_, h.low, keeps_touch h.keeps hts (fun k hk e => keeps_ne_cells h.keeps h.row (by decide) k hk e), h.count, ?_, h.few⟩, hts⟩
  · rw [heap_setCell_same _ _ _ _ _ _ h.row]
    rfl
  · intro i r d h1 h2
    exact h.eachOn (hts.imp (fun _ _ h => .inl h)) i r d h1 h2

theorem conn_end {base cb depth height : Nat} {ds : List BlkD} {b : BlkD} {p : Option Addr} {c : Nat} {w w9 : World} {p9 : Option Addr} {c9 : Nat} {rows9 : List (List Value)} (hd : 1 ≤ depth ∧ depth ≤ 16) (hm : ds.length ≤ depth + 1 ∧ height ≤ 4294967295) (hh : ¬ height = 4294967295)
    (h : ChMid w9 base cb depth height (cutD depth (ds ++ [b])) p9 c9 rows9) (hp : p9 ≠ none) (ht : Turns (ChOwn cb p ds.length c) w w9) (hn : ∀ k, (Value.slice p9 (cutD depth (ds ++ [b])).length c9).ownBlock = some k → (Value.slice p ds.length c).ownBlock = some k ∨ w.heap.size ≤ k) :
    ConnP base cb depth height ds b p c w (.returned (.int .i64 0)) (w9.setCell ⟨cb, 1, none⟩ (.int .u32 ((height : Int) + 1))) := by
  obtain ⟨h1, h2⟩ := mid_high (height' := height + 1) h
  have hlen : (cutD depth (ds ++ [b])).length ≤ depth + 1 := by
    unfold cutD
    split
    · simp; omega
    · rename_i hx
      simp at hx ⊢
      omega
  exact ⟨rfl, p9, c9, rows9, h1.at hd ⟨hlen, by omega⟩, hp, ht.trans h2 (fun _ _ hi => .inl hi), hn⟩
set_option maxRecDepth 100000 in
set_option maxHeartbeats 800000 in
theorem connect_ok {base cb depth height : Nat} {ds : List BlkD} {p : Option Addr} {c : Nat} {rows : List (List Value)} (w : World) (h : ChAt w base cb depth height ds p c rows) (hbase : base ≤ w.heap.size) (M : Array Value) (b : BlkD) (q : Option Addr) (n cc : Nat) (hM : BlkAt w M b q n cc) (hn : n ≤ 1099511627776) (hok : mayE ds height b = 0) :
    Calls Try.prog 13 #[.pointer (some ⟨cb, 0, none⟩), .agg M] w (ConnP base cb depth height ds b p c w) := by
  have hb1 : Below w.heap.size w (w.alloc (.cells M 33)) := Below.allocs _ _
  have HHT := Lib.hid (may_height hok)
  have H := Lib.hid h
  have HM := Lib.hid hM
  have HB1 := Lib.hid hb1
  have H1 := Lib.hid (h.below hb1)
  have HM1 := Lib.hid (hM.below hb1)
  have HS := Lib.hid hM.size
  have HR1 := Lib.hid (heap_alloc_last w (.cells M 33))
  clear h hM hb1
  go_enter Try.func13, Try.ntmps13
  go_wp2_with ((with_reducible refine wpAt 7 ?_); refine wpList_load_row rfl 33 _ rfl w.heap.size rfl 33 M (0, 0) _ HR1.out Try.underlying33 rfl (infoBlk _ HS.out) ?_)
  refine (may_any _ H1.out M b _ _ _ HM1.out).mono ?_
  rintro e w2 ⟨rfl, hb2⟩
  rw [hok]
  have HB2 := Lib.hid (HB1.out.trans (hb2.mono HB1.out.size))
  have HR2 := Lib.hid (Below.keepOld hb2 HR1.out)
  clear hb2 hok
  have H2 := Lib.hid (H.out.below HB2.out)
  have HNE : Hid (∀ i, (Value.slice p ds.length c).ownBlock = some i → ¬ i = cb) := keeps_ne_cells H2.out.keeps H2.out.row (by decide)
  have HNM : Hid (∀ i, (Value.slice p ds.length c).ownBlock = some i → ¬ i = w.heap.size) := fun i hi e => by have := (keeps_lt H.out.keeps i hi).2; omega
  have hk : Hid (∀ w', Turns (fun i => (Value.slice p ds.length c).ownBlock = some i) w2 w' → w'.cell? ⟨cb, 2, none⟩ = some (.slice p ds.length c)) := fun w' ht => ht.cell H2.out.cells.2.2.1 (fun hi => HNE.out _ hi rfl)
  have hkM : Hid (∀ w', Turns (fun i => (Value.slice p ds.length c).ownBlock = some i) w2 w' → w'.rangeAt w.heap.size 0 M.toList) := fun w' ht => row_rangeC (ht.keep HR2.out (fun hi => HNM.out _ hi rfl))
  have HN : Hid (n = b.txs.length) := HM.out.ids.count.symm
  have HNL := Lib.hid hn
  clear hn
  go_upto_region 4 with fail
  refine wp_region_eager_t (Turns (fun i => (Value.slice p ds.length c).ownBlock = some i) w2) [0, 1, 2, 3, 4, 5, 9, 10] [(0, true), (1, true), (2, true), (3, true), (4, true), (5, true), (6, false), (7, false), (8, false), (9, true), (10, true)] [11] (by kernel_rfl) (by kernel_rfl) ?_ (eagerTOpen rfl ?_)
  · exact (Turns.refl _ _).drew
  have hy0 : Turns (fun i => (Value.slice p ds.length c).ownBlock = some i) w2 w2.drew := (Turns.refl _ _).drew
  repeat (first
    | ((with_reducible refine eagerTLoadAt 3 ?_); refine wpEagerT_load (by rfl) 33 _ rfl w.heap.size 0 rfl M _ (fun w' hb => hkM.out w' hb) Try.underlying33 rfl (infoBlk _ HS.out) ?_; (try simp only [Act.put, List.setIfInBounds_toArray, List.set_cons_zero, List.set_cons_succ]); (try refine eagerTOpen rfl ?_))
    | (first | (apply wpEagerT_take; (· rfl); (· (intro w' hb'; go_simp; try with_reducible rfl)); (try simp only [Act.put, List.setIfInBounds_toArray, List.set_cons_zero, List.set_cons_succ]); (try refine eagerTOpen rfl ?_)) | (refine wpEagerT_skip (by rfl) ?_; (try simp only [Act.put, List.setIfInBounds_toArray, List.set_cons_zero, List.set_cons_succ]); (try refine eagerTOpen rfl ?_)))
    | (apply wpEagerT_take; (· rfl); (· (intro w' hb'; have hk' := (hk.out) w' hb'; go_split_ands; go_simp; try with_reducible rfl)); (try simp only [Act.put, List.setIfInBounds_toArray, List.set_cons_zero, List.set_cons_succ]); (try refine eagerTOpen rfl ?_)))
  (refine wpEagerT_op (by rfl) (fun K hK => ?_); go_simp; (refine (copy_any M b _ _ _ _ (HM.out.below (HB2.out.trans (below_drew1 _ _))) HNL.out).mono ?_; rintro e y ⟨p2, c2, rfl, ho, hb⟩; have HO := Lib.hid ho; have HBY := Lib.hid hb; have hy1 : Turns (fun i => (Value.slice p ds.length c).ownBlock = some i) w2 y := hy0.trans (Turns.of_below (S := fun _ => False) hb) (fun _ _ h => h.elim); clear ho hb); refine Shut.out hK _ _ (by assumption) ?_; clear hK K; (try simp only [Act.put, List.setIfInBounds_toArray, List.set_cons_zero, List.set_cons_succ]); (try refine eagerTOpen rfl ?_))
  have HN2 : Hid (BlkAt y (blkA b.hash b.par p2 b.txs.length c2) b p2 b.txs.length c2) := own_blk HM.out.hlen HM.out.plen HM.out.ids.each rfl HO.out
  refine wpEagerT_op (by rfl) (fun K hK => oper_of_list rfl ?_)
  refine wpList_buildOne rfl 37 33 _ rfl (blkA b.hash b.par p2 b.txs.length c2) rfl 65 Try.underlying37 (by kernel_rfl) (by omega) (by omega) HN2.out.size ?_
  have HRN := Lib.hid (heap_alloc_last y (.cells (blkA b.hash b.par p2 b.txs.length c2) 33))
  have hy2 : Turns (fun i => (Value.slice p ds.length c).ownBlock = some i) w2 (y.alloc (.cells (blkA b.hash b.par p2 b.txs.length c2) 33)) := hy1.alloc _
  refine only_end (Shut.out hK _ _ hy2 ?_)
  clear hK K
  (try simp only [Act.put, List.setIfInBounds_toArray, List.set_cons_zero, List.set_cons_succ]); (try refine eagerTOpen rfl ?_)
  refine wpEagerT_op (by rfl) (fun K hK => oper_of_list rfl ?_)
  have hy2s : w2.heap.size ≤ (y.alloc (.cells (blkA b.hash b.par p2 b.txs.length c2) 33)).heap.size := hy2.size
  have hby : Below w2.heap.size w2 y := (below_drew1 _ _).trans HBY.out
  have HBYA : Hid (Below w2.heap.size w2 (y.alloc (.cells (blkA b.hash b.par p2 b.txs.length c2) 33))) := hby.alloc hby.size _
  have hkeep := keeps_below H2.out.keeps HBYA.out
  have HONE : Hid (∀ u ∈ (blkA b.hash b.par p2 b.txs.length c2).toList, u.oneCell' = true) := fun u hu => List.all_eq_true.1 (by rw [Array.all_toList]; exact HN2.out.one) u hu
  have HBS : Hid (base ≤ (y.alloc (.cells (blkA b.hash b.par p2 b.txs.length c2) 33)).heap.size) := Nat.le_trans hbase (Nat.le_trans HB2.out.size HBYA.out.size)
  have hmany := H.out.many
  obtain ⟨hd1, hd2⟩ := H.out.depth1
  refine wpList_append_keeps rfl _ _ 37 rfl (base := base) Try.underlying37 infoBlocks zblk_size (by omega) rfl hkeep rfl (row_sl HRN.out 65 HN2.out.size) HONE.out (by omega) (by omega) HBS.out ?_
  intro p' c' w5 hkp hgr hnx hpn
  have hy5 : Turns (fun i => (Value.slice p ds.length c).ownBlock = some i) w2 w5 := hy2.trans (Turns.grown hgr (S := fun i => (Value.slice p ds.length c).ownBlock = some i) (fun k hk => hk)) (fun _ _ h => h)
  refine only_end (Shut.out hK _ _ hy5 ?_)
  clear hK K
  (try simp only [Act.put, List.setIfInBounds_toArray, List.set_cons_zero, List.set_cons_succ]); (try refine eagerTOpen rfl ?_)
  repeat (first | (apply wpEagerT_take; (· rfl); (· (intro w' hb'; go_simp; try with_reducible rfl)); (try simp only [Act.put, List.setIfInBounds_toArray, List.set_cons_zero, List.set_cons_succ]); (try refine eagerTOpen rfl ?_)) | (refine wpEagerT_skip (by rfl) ?_; (try simp only [Act.put, List.setIfInBounds_toArray, List.set_cons_zero, List.set_cons_succ]); (try refine eagerTOpen rfl ?_)))
  refine eagerTEnd (tail1 rfl ?_)
  have HBY2 : Hid (w2.heap.size ≤ y.heap.size) := hby.size
  have hwl : ∀ k, (Value.slice p ds.length c).ownBlock = some k → k < w2.heap.size := fun k hk => (keeps_lt H2.out.keeps k hk).2
  have ho5 : w5.ownsRow w2.heap.size 30 32 (.slice p2 b.txs.length c2) b.txs.length (b.txs.flatMap bytesV) :=
    own_touch (own_below_alloc HO.out (.cells (blkA b.hash b.par p2 b.txs.length c2) 33)) (Turns.grown hgr (S := fun i => (Value.slice p ds.length c).ownBlock = some i) (fun k hk => hk)) (fun k hk hs => by have h1 := (HO.out.lt k hk).1; have h2 := hwl k hs; have h3 : w2.drew.heap.size = w2.heap.size := rfl; omega)
  have HP := Lib.hid (put_mid H2.out.mid (Nat.le_trans hbase HB2.out.size) ⟨HM.out.hlen, HM.out.plen, HM.out.ids.each, by rw [← HN.out]; exact HNL.out⟩ (Nat.le_refl _) ho5 hkp hpn hy5 (fun k hk => (hnx k hk).imp id (fun h => Nat.le_trans hy2s h)))
  have hc5 : w5.cell? ⟨cb, 2, none⟩ = some (.slice p ds.length c) := hk.out w5 hy5
  have hf5 : w5.frozen? ⟨cb, 2, none⟩ = false := frozen_of_row _ _ _ _ _ (hy5.keep H2.out.row (fun hi => HNE.out _ hi rfl))
  clear hy0 hy1 hy2 hy5 hkp hgr hnx ho5 hwl hkeep hby hy2s hpn
  clear HBY HBYA HBS HRN HONE HN2 HO
  go_wp2_with fail
  refine noPanic_end ?_
  obtain ⟨p6, c6, rows6, hmid6, hp6, hT6, hn6⟩ := HP.out
  clear HP hc5 hf5
  generalize w5.setCell ⟨cb, 2, none⟩ (.slice p' (ds.length + 1) c') = w6 at *
  have HL6 : Hid ((ds ++ [b]).length = ds.length + 1) := by show _ = _; simp
  have HCD : Hid (cutD depth (ds ++ [b]) = if depth + 1 < (ds ++ [b]).length then (ds ++ [b]).drop 1 else ds ++ [b]) := rfl
  generalize hds6 : ds ++ [b] = ds6 at *
  have HDS6 := Lib.hid hds6
  have HM6 := Lib.hid hmid6
  have HP6 := Lib.hid hp6
  have HT6 := Lib.hid hT6
  have HN6 := Lib.hid hn6
  clear hds6 hmid6 hp6 hT6 hn6
  have hrow6 := HM6.out.row
  have hc60 : w6.cell? ⟨cb, 0, none⟩ = some (.int .i64 (depth : Int)) := by rw [cell_of_row _ _ _ _ _ _ hrow6]; rfl
  have hc62 : w6.cell? ⟨cb, 2, none⟩ = some (.slice p6 ds6.length c6) := by rw [cell_of_row _ _ _ _ _ _ hrow6]; rfl
  have hg1 := cell_grown hc60
  have hg2 := cell_grown hc62
  have hwd : IntKind.i64.wrap ((depth : Int) + 1) = (depth : Int) + 1 := IntWalk.i64_in _ (by omega)
  clear hrow6 hc60 hc62
  go_wp2_with fail
  refine wp_region_grow (by kernel_rfl) (by kernel_rfl) ?_
  repeat (first
    | quiet_step (fail))
  refine wpQuiet_nil ?_
  intro w7 hb7
  clear hg1 hg2 hwd
  have HM7 := Lib.hid (HM6.out.below hb7)
  have HB7 := Lib.hid hb7
  clear hb7
  have hrow7 := HM7.out.row
  by_cases hlt : depth + 1 < ds6.length
  · have hdt : decide ((depth : Int) + 1 < (ds6.length : Int)) = true := decide_eq_true (by omega)
    obtain ⟨g, rfl, hgc⟩ : ∃ g, p6 = some ⟨g, 0, none⟩ ∧ ds6.length ≤ c6 ∧ c6 ≤ 9223372036854775807 := by
      rcases HM7.out.keeps.2 with ⟨hv, _⟩ | ⟨g, cap, cur, hv, _, _, h1, h2, _⟩
      · exact absurd (by injection hv) HP6.out
      · cases hv; exact ⟨g, rfl, h1, by simpa [maxLen] using h2⟩
    obtain ⟨hgc, hgm⟩ := hgc
    have hc72 : w7.cell? ⟨cb, 2, none⟩ = some (.slice (some ⟨g, 0, none⟩) ds6.length c6) := by rw [cell_of_row _ _ _ _ _ _ hrow7]; rfl
    have hf72 : w7.frozen? ⟨cb, 2, none⟩ = false := frozen_of_row _ _ _ _ _ hrow7
    have hne1 : ¬ c6 = 1 := by omega
    clear hrow7
    have HSL : Hid (Sl w7 (some ⟨g, 65, none⟩) (ds6.length - 1) (c6 - 1) 65 (rows6.flatten.drop 65)) := by
      obtain ⟨p9, c9, e9, hsl⟩ := keeps_sl HM7.out.keeps
      cases e9
      have := sl_dropped (k := 1) hsl (by omega)
      show Sl _ _ _ _ _ _
      simpa using this
    have HONE : Hid (∀ u ∈ rows6.flatten.drop 65, u.oneCell' = true) := fun u hu => by
      obtain ⟨r, hr, hu⟩ := List.mem_flatten.1 (List.mem_of_mem_drop hu)
      obtain ⟨i, hi⟩ := List.mem_iff_getElem?.1 hr
      have hl := (List.getElem?_eq_some_iff.1 hi).1
      obtain ⟨q', c', e1, hb⟩ := (HM7.out.each i r _ hi (List.getElem?_eq_getElem (by have := HM7.out.count; omega))).blk
      rw [e1] at hu
      exact List.all_eq_true.1 (by rw [Array.all_toList]; exact hb.one) u hu
    have HLB : Hid (ds6.length ≤ 18) := by show _ ≤ _; have := HL6.out; omega
    have HBA : Hid (base ≤ w7.heap.size) := Nat.le_trans hbase (Nat.le_trans HB2.out.size (Nat.le_trans HT6.out.size HB7.out.size))
    go_wp2_with (at_builtin; refine wpList_append_nx rfl _ _ 37 rfl (base := w7.heap.size) Try.underlying37 infoBlocks zblk_size (by omega) rfl (World.ownsRow_nil _ _ _ _) rfl HSL.out HONE.out ⟨by have := HLB.out; omega, by have := HLB.out; omega⟩ (Nat.le_refl _) ?_)
    intro p8 c8 w8 ho8 hg8 hnx8 hz8
    have hb8 : Below w7.heap.size w7 w8 := (Below.refl _ _).grown hg8 (Nat.le_refl _) (fun k hk => by simp [Value.ownBlock] at hk)
    have hrow8 := Below.keepOld hb8 HM7.out.row
    obtain ⟨hmid9, hT9, hn9⟩ := mid_cut HM7.out HBA.out (by omega) ho8 rfl hb8
    have hp9 : p8 ≠ none := fun e => by have := hz8.1 e; omega
    have hcut : cutD depth (ds ++ [b]) = ds6.drop 1 := by rw [HDS6.out, HCD.out, if_pos hlt]
    have HE := Lib.hid (conn_end (b := b) (p := p) (c := c) (w := w) H.out.depth1 H.out.many HHT.out (by rw [hcut]; exact hmid9) hp9
      ((Turns.of_below (S := ChOwn cb p ds.length c) HB2.out).trans (HT6.out.trans ((Turns.of_below (S := ChOwn cb p ds.length c) HB7.out).trans hT9 (fun _ _ h => .inl h)) (fun _ _ h => h)) (fun _ _ h => h))
      (fun k hk => .inr (by
        have h1 : (ds6.drop 1).length = ds6.length - 1 := List.length_drop
        rw [hcut, h1] at hk
        exact Nat.le_trans HB2.out.size (Nat.le_trans HT6.out.size (Nat.le_trans HB7.out.size (hn9 k hk))))))
    have hc82 : w8.cell? ⟨cb, 2, none⟩ = some (.slice (some ⟨g, 0, none⟩) ds6.length c6) := by rw [cell_of_row _ _ _ _ _ _ hrow8]; rfl
    have hf82 : w8.frozen? ⟨cb, 2, none⟩ = false := frozen_of_row _ _ _ _ _ hrow8
    have hc81 : w8.cell? ⟨cb, 1, none⟩ = some (.int .u32 (height : Int)) := by rw [cell_of_row _ _ _ _ _ _ hrow8]; rfl
    have hf81 : w8.frozen? ⟨cb, 1, none⟩ = false := frozen_of_row _ _ _ _ _ hrow8
    have hht : height + 1 ≤ 4294967295 := by have := HHT.out; omega
    clear hb8 hrow8 hmid9 hT9 hn9 hp9 hcut ho8 hg8 hnx8 hz8 hc72 hf72 hlt
    go_wp2_with fail
    go_ret
    exact HE.out
  · have hdt : decide ((depth : Int) + 1 < (ds6.length : Int)) = false := decide_eq_false (by omega)
    have hcut : cutD depth (ds ++ [b]) = ds6 := by rw [HDS6.out, HCD.out, if_neg hlt]
    have HE := Lib.hid (conn_end (b := b) (p := p) (c := c) (w := w) H.out.depth1 H.out.many HHT.out (by rw [hcut]; exact HM7.out) HP6.out
      ((Turns.of_below (S := ChOwn cb p ds.length c) HB2.out).trans (HT6.out.trans (Turns.of_below (S := ChOwn cb p ds.length c) HB7.out) (fun _ _ h => h)) (fun _ _ h => h))
      (fun k hk => by
        rw [hcut] at hk
        exact (HN6.out k hk).imp id (fun h => Nat.le_trans HB2.out.size h)))
    have hc81 : w7.cell? ⟨cb, 1, none⟩ = some (.int .u32 (height : Int)) := by rw [cell_of_row _ _ _ _ _ _ hrow7]; rfl
    have hf81 : w7.frozen? ⟨cb, 1, none⟩ = false := frozen_of_row _ _ _ _ _ hrow7
    have hht : height + 1 ≤ 4294967295 := by have := HHT.out; omega
    have hge : ds6.length ≤ depth + 1 := by omega
    clear hcut hrow7 hlt
    go_wp2_with fail
    go_ret
    exact HE.out
end Go.Proofs.Ytepemfgiigceoaa.Chn

namespace Go.Proofs.Ytepemfgiigceoaa.Chn
open Go.RowKit Go.Mir Go.Mir.Parts Go.Proofs.Ytepemfgiigceoaa.Blk

/-- what taking the tip away answers -/
def discE (ds : List BlkD) (x : List UInt8) : Int := match ds.getLast? with
  | none => 19
  | some t => if (t.hash == x) = true then (if ds.length < 2 then 20 else 0) else 19
def DiscP (base cb depth height : Nat) (ds : List BlkD) (x : List UInt8) (p : Option Addr) (c : Nat) (w : World) (e : Ending) (w' : World) : Prop := e = .returned (.int .i64 (discE ds x)) ∧
  (¬ discE ds x = 0 → Below w.heap.size w w') ∧
  (discE ds x = 0 → ∃ c' rows', ChAt w' base cb depth (height - 1) ds.dropLast p c' rows' ∧ Turns (ChOwn cb p ds.length c) w w')
theorem disc_not {base cb depth height : Nat} {ds : List BlkD} {x : List UInt8} {p : Option Addr} {c : Nat} {w w' : World} {n : Int} (hn : discE ds x = n) (h0 : ¬ n = 0) (hb : Below w.heap.size w w') : DiscP base cb depth height ds x p c w (.returned (.int .i64 n)) w' :=
  ⟨by rw [hn], fun _ => hb, fun h => absurd (hn.symm.trans h) h0⟩
theorem eqI_ne (w : World) (a b : List UInt8) (ha : a.length = 32) (hb : b.length = 32) : (Op.equalIn 10000 30 (.agg (idA a)) (.agg (idA b))).run Try.prog w = .ok (a == b) w := eqI w a b ha hb
theorem mid_pop {base cb depth height : Nat} {ds : List BlkD} {g : Nat} {c : Nat} {rows : List (List Value)} {w : World} (h : ChMid w base cb depth height ds (some ⟨g, 0, none⟩) c rows) (hd : 2 ≤ ds.length) (k : Nat) (hk : k + 1 = ds.length) :
    ChMid (w.setCell ⟨cb, 2, none⟩ (.slice (some ⟨g, 0, none⟩) k k)) base cb depth height ds.dropLast (some ⟨g, 0, none⟩) k rows.dropLast ∧ Turns (fun i => i = cb) w (w.setCell ⟨cb, 2, none⟩ (.slice (some ⟨g, 0, none⟩) k k)) := by
  have hl : ds.dropLast.length = k := by rw [List.length_dropLast]; omega
  have hts : Turns (fun i => i = cb) w (w.setCell ⟨cb, 2, none⟩ (.slice (some ⟨g, 0, none⟩) k k)) := (Turns.refl (fun i => i = cb) w).setCell (p := ⟨cb, 2, none⟩) (fun _ => rfl) _
  have hkc := keeps_cut (k := k) h.keeps (by omega) (by simp)
  have hrl : ∀ r ∈ rows, r.length = 65 := fun r hr => by
    obtain ⟨i, hi⟩ := List.mem_iff_getElem?.1 hr
    have hl := (List.getElem?_eq_some_iff.1 hi).1
    exact (h.each i r _ hi (List.getElem?_eq_getElem (by have := h.count; omega))).len
  have hfl : rows.flatten.take (k * 65) = rows.dropLast.flatten := by
    obtain ⟨rs, r, rfl⟩ : ∃ rs r, rows = rs ++ [r] := by
      rcases List.eq_nil_or_concat rows with e | ⟨rs, r, e⟩
      · have := h.count; rw [e] at this; simp at this; omega
      · exact ⟨rs, r, by rw [e]; simp⟩
    have hn : rs.length = k := by have := h.count; simp at this; omega
    have hf : rs.flatten.length = k * 65 := by
      rw [← hn]
      have := flatMap_length (fun r : List Value => r) 65 rs (fun r hr => hrl r (by simp [hr]))
      simpa [List.flatMap_id] using this
    rw [List.dropLast_concat, List.flatten_append, List.take_append_of_le_length (by omega), List.take_of_length_le (by omega)]
  rw [hfl] at hkc
  refine ⟨⟨?_, h.low, ?_, ?_, ?_, fun d hd => h.few d (List.dropLast_subset _ hd)⟩, hts⟩
  · rw [hl, heap_setCell_same _ _ _ _ _ _ h.row]
    rfl
  · rw [hl]
    exact keeps_touch hkc hts (fun i hi e => keeps_ne_cells h.keeps h.row (by decide) i hi e)
  · have := h.count
    simp [this]
  · intro i r d h1 h2
    rw [List.dropLast_eq_take, List.getElem?_take] at h1 h2
    split at h1
    · split at h2
      · exact h.eachOn (hts.imp (fun _ _ h => .inl h)) i r d h1 h2
      · cases h2
    · cases h1

set_option maxRecDepth 100000 in
set_option maxHeartbeats 800000 in
theorem disc_any {base cb depth height : Nat} {ds : List BlkD} {p : Option Addr} {c : Nat} {rows : List (List Value)} (w : World) (h : ChAt w base cb depth height ds p c rows) (hlh : ds.length ≤ height) (x : List UInt8) (hx : x.length = 32) :
    Calls Try.prog 14 #[.pointer (some ⟨cb, 0, none⟩), .agg (idA x)] w (DiscP base cb depth height ds x p c w) := by
  obtain ⟨Z, hz, hZ⟩ := zBlk
  have HZZ := Lib.hid hZ
  have H := Lib.hid h
  have HX := Lib.hid hx
  have hb1 : Below w.heap.size w (w.alloc (.cells (idA x) 30)) := Below.allocs _ _
  have HB1 := Lib.hid hb1
  have H1 := Lib.hid (h.below hb1)
  have HR1 := Lib.hid (heap_alloc_last w (.cells (idA x) 30))
  have hm := h.many
  obtain ⟨hd1, hd2⟩ := h.depth1
  clear h hb1 hZ hx
  go_enter Try.func14, Try.ntmps14
  go_wp2_with fail
  refine (none_any cb depth _ H1.out.cells.1 H.out.depth1.1).mono ?_
  rintro e w' ⟨rfl, rfl⟩
  go_wp2_with fail
  refine (tip_q _ H1.out).mono ?_
  rintro e w2 ⟨A, t, qt, nt, ct, rfl, ht, hts, hb2⟩
  generalize w.alloc (.cells (idA x) 30) = w1 at *
  have HT := Lib.hid ht
  have HTS := Lib.hid hts
  have HB2 := Lib.hid (HB1.out.trans (hb2.mono HB1.out.size))
  have HR2 := Lib.hid (Below.keepOld hb2 HR1.out)
  have HAS := Lib.hid ht.size
  have HAO := Lib.hid ht.one
  have HNW := Lib.hid (box_new w2 Z 33)
  have hbb := box_below w2 Z A 33
  have HBR := Lib.hid (box_row w2 Z A 33)
  have HB3 := Lib.hid (HB2.out.trans (hbb.mono HB2.out.size))
  have HR3 := Lib.hid (Below.keepOld hbb HR2.out)
  have HPA := Lib.hid (ht.parts HBR.out).1
  have HHS : Hid ((idA t.hash).toList.length = 32) := by show _ = _; rw [Array.length_toList, idA_size, ht.hlen]
  have HHL := Lib.hid ht.hlen
  clear ht hts hb2 hbb
  cases hl : ds.getLast? with
  | none =>
    have HRES : Hid (discE ds x = 19) := by show _ = _; unfold discE; rw [hl]
    clear hl
    dsimp only [Option.isSome]
    go_wp2_with ((with_reducible refine wpStoreAt 5 ?_); refine wpList_store_row rfl 33 _ _ rfl w2.heap.size A rfl rfl 33 Z HNW.out (infoBlk _ HAS.out) (HZZ.out.trans HAS.out.symm) HAO.out ?_)
    go_ret
    exact disc_not HRES.out (by omega) HB3.out
  | some d =>
    obtain rfl := HTS.out d hl
    have hq : ∀ w, (Op.equalIn 10000 30 (.agg (idA t.hash)) (.agg (idA x))).run Try.prog w = .ok (t.hash == x) w := fun w => eqI w t.hash x HHL.out HX.out
    have H3 := Lib.hid (H.out.below HB3.out)
    cases hb : t.hash == x with
    | false =>
      have HRES : Hid (discE ds x = 19) := by show _ = _; unfold discE; rw [hl]; simp [hb]
      clear hl
      dsimp only [Option.isSome]
      go_wp2_with (first
        | ((with_reducible refine wpStoreAt 5 ?_); refine wpList_store_row rfl 33 _ _ rfl w2.heap.size A rfl rfl 33 Z HNW.out (infoBlk _ HAS.out) (HZZ.out.trans HAS.out.symm) HAO.out ?_)
        | ((with_reducible refine wpAt 19 ?_); refine wpList_load_mid rfl 30 _ rfl w2.heap.size 0 rfl (idA t.hash).toList _ HPA.out Try.underlying30 rfl (infoI _ HHS.out) ?_)
        | ((with_reducible refine wpAt 20 ?_); refine wpList_load_row rfl 30 _ rfl w.heap.size rfl 30 (idA x) (0, 0) _ HR3.out Try.underlying30 rfl (infoI _ (by rw [idA_size, HX.out])) ?_))
      go_ret
      exact disc_not HRES.out (by omega) HB3.out
    | true =>
      have hc2 : ((w2.alloc (.cells Z 33)).setRow w2.heap.size A).cell? ⟨cb, 2, none⟩ = some (.slice p ds.length c) := H3.out.cells.2.2.1
      by_cases hlt : ds.length < 2
      · have HRES : Hid (discE ds x = 20) := by show _ = _; unfold discE; rw [hl]; simp [hb, hlt]
        clear hl
        dsimp only [Option.isSome]
        go_wp2_with (first
          | ((with_reducible refine wpStoreAt 5 ?_); refine wpList_store_row rfl 33 _ _ rfl w2.heap.size A rfl rfl 33 Z HNW.out (infoBlk _ HAS.out) (HZZ.out.trans HAS.out.symm) HAO.out ?_)
          | ((with_reducible refine wpAt 19 ?_); refine wpList_load_mid rfl 30 _ rfl w2.heap.size 0 rfl (idA t.hash).toList _ HPA.out Try.underlying30 rfl (infoI _ HHS.out) ?_)
          | ((with_reducible refine wpAt 20 ?_); refine wpList_load_row rfl 30 _ rfl w.heap.size rfl 30 (idA x) (0, 0) _ HR3.out Try.underlying30 rfl (infoI _ (by rw [idA_size, HX.out])) ?_))
        go_ret
        exact disc_not HRES.out (by omega) HB3.out
      · have HRES : Hid (discE ds x = 0) := by show _ = _; unfold discE; rw [hl]; simp [hb, hlt]
        clear hl
        dsimp only [Option.isSome]
        go_wp2_with (first
          | ((with_reducible refine wpStoreAt 5 ?_); refine wpList_store_row rfl 33 _ _ rfl w2.heap.size A rfl rfl 33 Z HNW.out (infoBlk _ HAS.out) (HZZ.out.trans HAS.out.symm) HAO.out ?_)
          | ((with_reducible refine wpAt 19 ?_); refine wpList_load_mid rfl 30 _ rfl w2.heap.size 0 rfl (idA t.hash).toList _ HPA.out Try.underlying30 rfl (infoI _ HHS.out) ?_)
          | ((with_reducible refine wpAt 20 ?_); refine wpList_load_row rfl 30 _ rfl w.heap.size rfl 30 (idA x) (0, 0) _ HR3.out Try.underlying30 rfl (infoI _ (by rw [idA_size, HX.out])) ?_))
        generalize (w2.alloc (.cells Z 33)).setRow w2.heap.size A = w3 at *
        clear hc2
        obtain ⟨g, rfl, hgc⟩ : ∃ g, p = some ⟨g, 0, none⟩ ∧ ds.length ≤ c ∧ c ≤ 9223372036854775807 := by
          rcases H3.out.keeps.2 with ⟨_, hv⟩ | ⟨g, cap, cur, hv, _, _, h1, h2, _⟩
          · exact absurd hv (by omega)
          · cases hv; exact ⟨g, rfl, h1, by simpa [maxLen] using h2⟩
        obtain ⟨hgc, hgm⟩ := hgc
        obtain ⟨i, hi⟩ : ∃ i, i + 1 = ds.length := ⟨ds.length - 1, by omega⟩
        have hsub : (ds.length : Int) - 1 = (i : Int) := by omega
        have hwi : IntKind.i64.wrap ((ds.length : Int) - 1) = (i : Int) := by rw [hsub]; exact IntWalk.i64_in _ (by omega)
        have hwi2 : IntKind.i64.wrap (i : Int) = (i : Int) := IntWalk.i64_in _ (by omega)
        refine wp_region_tail 20 (by kernel_rfl) (by kernel_rfl) ?_
        simp only [List.take_succ_cons, List.take_zero, List.drop_succ_cons, List.drop_zero]
        have HD := Lib.hid (H3.out.below (below_drew1 w3.heap.size w3))
        have HBD := Lib.hid (HB3.out.trans (below_drew1 w.heap.size w3))
        generalize w3.drew = wd at *
        have hcd : wd.cell? ⟨cb, 2, none⟩ = some (.slice (some ⟨g, 0, none⟩) ds.length c) := HD.out.cells.2.2.1
        have hfd : wd.frozen? ⟨cb, 2, none⟩ = false := HD.out.cells.2.2.2 2
        have hcd1 : wd.cell? ⟨cb, 1, none⟩ = some (.int .u32 (height : Int)) := HD.out.cells.2.1
        have hfd1 : wd.frozen? ⟨cb, 1, none⟩ = false := HD.out.cells.2.2.2 1
        have hin : (i : Int) < (ds.length : Int) := by omega
        have hi0 : (0 : Int) ≤ (i : Int) := by omega
        have hic : i ≤ c := by omega
        have hh1 : 1 ≤ height := by omega
        obtain ⟨hmid, hT⟩ := mid_pop HD.out.mid (by omega) i hi
        obtain ⟨hmid2, hT2⟩ := mid_high (height' := height - 1) hmid
        have hcast : ((height - 1 : Nat) : Int) = (height : Int) - 1 := by omega
        have hdl : ds.dropLast.length = i := by rw [List.length_dropLast]; omega
        have hat := hmid2.at H.out.depth1 ⟨by omega, by omega⟩
        have htt := ((Turns.of_below (S := ChOwn cb (some ⟨g, 0, none⟩) ds.length c) HBD.out).trans hT (fun _ _ h => .inl h)).trans hT2 (fun _ _ h => .inl h)
        rw [hcast] at hat htt
        have HE : Hid (DiscP base cb depth height ds x (some ⟨g, 0, none⟩) c w (.returned (.int .i64 0)) _) := ⟨by rw [HRES.out], fun h => absurd HRES.out h, fun _ => ⟨_, _, hat, htt⟩⟩
        clear hmid hT hmid2 hT2 hcast hdl hat htt
        repeat still_step
        refine wpStill_nil ?_
        go_wp2_with fail
        go_ret
        exact HE.out
end Go.Proofs.Ytepemfgiigceoaa.Chn

namespace Go.Proofs.Ytepemfgiigceoaa.Chn
open Go.RowKit Go.Mir Go.Mir.Parts Go.Proofs.Ytepemfgiigceoaa.Blk

/-- blocks, as a slice of them reads -/
structure Bks (w : World) (p : Option Addr) (n c : Nat) (ds : List BlkD) (rows : List (List Value)) : Prop where
  rs : Rs w p n c 65 rows
  count : ds.length = n
  each : ∀ (i : Nat) r d, rows[i]? = some r → ds[i]? = some d → ∃ q cc, r = (blkA d.hash d.par q d.txs.length cc).toList ∧ BlkAt w (blkA d.hash d.par q d.txs.length cc) d q d.txs.length cc
theorem Bks.below {w w' : World} {p : Option Addr} {n c : Nat} {ds : List BlkD} {rows : List (List Value)} (h : Bks w p n c ds rows) (hb : Below w.heap.size w w') : Bks w' p n c ds rows :=
  ⟨h.rs.below hb, h.count, fun i r d h1 h2 => by
    obtain ⟨q, cc, e, hb'⟩ := h.each i r d h1 h2
    exact ⟨q, cc, e, hb'.below hb⟩⟩
theorem Bks.nil (w : World) : Bks w none 0 0 [] [] := ⟨⟨Sl.nil _ _, fun _ h => by simp at h, rfl⟩, rfl, fun i r d h => by simp at h⟩
theorem Bks.at {w : World} {b o n c : Nat} {ds : List BlkD} {rows : List (List Value)} (h : Bks w (some ⟨b, o, none⟩) n c ds rows) (k : Nat) (hk : k < ds.length) : ∃ q cc, BlkAt w (blkA ds[k].hash ds[k].par q ds[k].txs.length cc) ds[k] q ds[k].txs.length cc ∧ w.rangeAt b (o + k * 65) (blkA ds[k].hash ds[k].par q ds[k].txs.length cc).toList := by
  have hkr : k < rows.length := by rw [h.rs.count, ← h.count]; exact hk
  obtain ⟨q, cc, e, hb⟩ := h.each k _ ds[k] (List.getElem?_eq_getElem hkr) (List.getElem?_eq_getElem hk)
  refine ⟨q, cc, hb, ?_⟩
  rw [← e]
  exact h.rs.row k hkr

set_option maxRecDepth 100000 in
theorem fits_yes (d : Nat) (w : World) (h : 1 ≤ d ∧ d ≤ 16) : Calls Try.prog 47 #[.int .i64 (d : Int)] w fun e w' => e = .returned (.bool true) ∧ w = w' := by
  obtain ⟨h1, h2⟩ := h
  have e1 : decide ((1 : Int) ≤ (d : Int)) = true := decide_eq_true (by omega)
  have e2 : decide ((d : Int) ≤ 16) = true := decide_eq_true (by omega)
  go_enter Try.func47, Try.ntmps47
  go_wp2_with fail
  go_ret
  exact ⟨rfl, rfl⟩
set_option maxRecDepth 100000 in
theorem fits_no (d : Int) (w : World) (h : d < 1 ∨ 16 < d) : Calls Try.prog 47 #[.int .i64 d] w fun e w' => e = .returned (.bool false) ∧ w = w' := by
  by_cases h1 : (1 : Int) ≤ d
  · have e1 : decide ((1 : Int) ≤ d) = true := decide_eq_true (by omega)
    have e2 : decide (d ≤ 16) = false := decide_eq_false (by omega)
    have h2 : 16 < d := by omega
    clear h
    go_enter Try.func47, Try.ntmps47
    go_wp2_with fail
    go_ret
    exact ⟨rfl, rfl⟩
  · have e1 : decide ((1 : Int) ≤ d) = false := decide_eq_false (by omega)
    have h2 : d < 1 := by omega
    clear h h1
    go_enter Try.func47, Try.ntmps47
    go_wp2_with fail
    go_ret
    exact ⟨rfl, rfl⟩
/-- which blocks may be connected, one behind the other -/
def goesB (ds : List BlkD) : Nat → Bool
  | 0 => true
  | k + 1 => goesB ds k && (match ds[k]? with | some d => decide (mayE (ds.take k) 0 d = 0) | none => true)
theorem goesB_step {ds : List BlkD} {k : Nat} (hk : k < ds.length) (h : goesB ds k = true) (hm : mayE (ds.take k) 0 ds[k] = 0) : goesB ds (k + 1) = true := by
  unfold goesB
  rw [h, List.getElem?_eq_getElem hk]
  simpa using hm
theorem goesB_mono {ds : List BlkD} : ∀ (n k : Nat), goesB ds k = false → goesB ds (k + n) = false
  | 0, _, h => h
  | n + 1, k, h => by
    rw [← Nat.add_assoc]
    unfold goesB
    rw [goesB_mono n k h]
    rfl
theorem goesB_stop {ds : List BlkD} {k : Nat} (hk : k < ds.length) (hm : ¬ mayE (ds.take k) 0 ds[k] = 0) : goesB ds ds.length = false := by
  have h1 : goesB ds (k + 1) = false := by
    unfold goesB
    rw [List.getElem?_eq_getElem hk]
    simp [hm]
  have := goesB_mono (ds.length - (k + 1)) (k + 1) h1
  rwa [show k + 1 + (ds.length - (k + 1)) = ds.length by omega] at this
/-- what is left of a chain loaded -/
def LoadP (depth height : Nat) (ds : List BlkD) (w : World) (e : Ending) (w' : World) : Prop :=
  (goesB ds ds.length = true ∧ ∃ cb p c rows, e = .returned (.tuple #[.pointer (some ⟨cb, 0, none⟩), .int .i64 0]) ∧ w.heap.size ≤ cb ∧ ChAt w' w.heap.size cb depth height ds p c rows ∧ Below w.heap.size w w' ∧ (ds = [] → p = none)) ∨
  (goesB ds ds.length = false ∧ e = .returned (.tuple #[.pointer none, .int .i64 1]) ∧ Below w.heap.size w w')
/-- what stands at a round's head -/
def LoadR (depth : Nat) (ds : List BlkD) (p0 : Option Addr) (n0 c0 : Nat) (rows0 : List (List Value)) (w : World) (k : Nat) (wr : World) : Prop :=
  Below w.heap.size w wr ∧ goesB ds k = true ∧ ∃ p c rows, ChAt wr w.heap.size w.heap.size depth 0 (ds.take k) p c rows ∧ (k = 0 → p = none)

set_option maxRecDepth 100000 in
set_option maxHeartbeats 1600000 in
theorem load_any (depth height : Nat) (ds : List BlkD) (p0 : Option Addr) (c0 : Nat) (rows0 : List (List Value)) (w : World) (hW : Bks w p0 ds.length c0 ds rows0) (hf : ∀ d ∈ ds, d.txs.length ≤ 1099511627776) (hd : 1 ≤ depth ∧ depth ≤ 16) (hl : ds.length ≤ depth + 1) (hh : ds.length ≤ height) (hh2 : height ≤ 4294967295) :
    Calls Try.prog 30 #[.int .i64 (depth : Int), .int .u32 (height : Int), .slice p0 ds.length c0] w (LoadP depth height ds w) := by
  obtain ⟨Z, hz, hZ⟩ := zBlk
  have HZZ := Lib.hid hZ
  have HW := Lib.hid hW
  have HF := Lib.hid hf
  have HD := Lib.hid hd
  obtain ⟨hd1, hd2⟩ := hd
  have hw1 : IntKind.i64.wrap ((depth : Int) + 1) = (depth : Int) + 1 := IntWalk.i64_in _ (by omega)
  have e1 : decide (((depth : Int) + 1) < (ds.length : Int)) = false := decide_eq_false (by omega)
  have e2 : decide ((height : Int) < (ds.length : Int)) = false := decide_eq_false (by omega)
  have e3 : decide (height < ds.length) = false := decide_eq_false (by omega)
  clear hW hZ hf
  go_enter Try.func30, Try.ntmps30
  go_wp2_with fail
  refine (fits_yes depth w HD.out).mono ?_
  rintro e w' ⟨rfl, rfl⟩
  go_wp2_with fail
  have hrow0 := heap_alloc_last w (.cells (chA depth 0 none 0 0) 70)
  have HST : Hid (LoadR depth ds p0 ds.length c0 rows0 w 0 (w.alloc (.cells (chA depth 0 none 0 0) 70))) :=
    ⟨Below.allocs _ _, rfl, none, 0, [], ⟨hrow0, Nat.le_refl _, keeps_nil _ _ _ _, rfl, fun i r d h => by simp at h, HD.out, ⟨by simp, by omega⟩, fun d h => by simp at h⟩, fun _ => rfl⟩
  clear hrow0
  rw [show #[Value.int IntKind.i64 (depth : Int), Value.int IntKind.u32 0, Value.slice none 0 0] = chA depth 0 none 0 0 from rfl]
  go_loopw [34] (fun j wr => ∃ k : Nat, k ≤ ds.length ∧ j = .int .i64 k ∧ LoadR depth ds p0 ds.length c0 rows0 w k wr) (fun j _ => ds.length - (intOf j).toNat)
  case atStart => exact ⟨0, by omega, rfl, HST.out⟩
  case round =>
    obtain ⟨k, hk, rfl, hb0, hgo, p, c, rows, hch, hp0⟩ := hrel
    have HB0 := Lib.hid hb0
    have HGO := Lib.hid hgo
    have HCH := Lib.hid hch
    have HP0 := Lib.hid hp0
    clear hb0 hgo hch hp0
    by_cases hlt : k < ds.length
    · have hd : decide ((k : Int) < (ds.length : Int)) = true := decide_eq_true (by omega)
      obtain ⟨b, o, rfl⟩ := HW.out.rs.sl.addr (by omega) (by omega)
      obtain ⟨q, cq, hbq, hrg⟩ := HW.out.at k hlt
      have HBQ := Lib.hid (hbq.below HB0.out)
      have HRG0 := Lib.hid (range_below hrg HB0.out)
      have HTK : Hid (ds.take (k + 1) = ds.take k ++ [ds[k]]) := by show _ = _; rw [List.take_succ_eq_append_getElem hlt]
      have HGS := Lib.hid (fun hm => goesB_step hlt HGO.out hm)
      have HGX := Lib.hid (fun hm => goesB_stop (ds := ds) hlt hm)
      have HFK := Lib.hid (HF.out _ (List.getElem_mem hlt))
      clear hbq hrg
      generalize ds[k] = d at *
      obtain ⟨A, hA⟩ : ∃ A, A = blkA d.hash d.par q d.txs.length cq := ⟨_, rfl⟩
      rw [← hA] at HBQ HRG0
      clear hA
      have HAS := Lib.hid HBQ.out.size
      have HAO := Lib.hid HBQ.out.one
      have HAL : Hid (A.toList.length = 65) := by show _ = _; rw [Array.length_toList]; exact HBQ.out.size
      have HNW := Lib.hid (box_new wr Z 33)
      have HBR := Lib.hid (box_row wr Z A 33)
      have HBB := Lib.hid (box_below wr Z A 33)
      have HB3 := Lib.hid (HB0.out.trans (HBB.out.mono HB0.out.size))
      have HCH3 := Lib.hid (HCH.out.below HBB.out)
      have HBQ3 := Lib.hid (HBQ.out.below HBB.out)
      go_wp2_with (first
        | ((with_reducible refine wpAt 37 ?_); refine wpList_load_mid rfl 33 _ rfl b (o + k * 65) rfl A.toList _ HRG0.out Try.underlying33 rfl (infoBlk _ HAL.out) ?_)
        | ((with_reducible refine wpStoreAt 10 ?_); refine wpList_store_row rfl 33 _ _ rfl wr.heap.size A rfl rfl 33 Z HNW.out (infoBlk _ HAS.out) (HZZ.out.trans HAS.out.symm) HAO.out ?_)
        | ((with_reducible refine wpAt 39 ?_); refine wpList_load_row_g rfl 33 _ rfl wr.heap.size rfl 33 A (0, 0) _ HBR.out Try.underlying33 rfl (infoBlk _ HAS.out) ?_))
      generalize (wr.alloc (.cells Z 33)).setRow wr.heap.size A = w3 at *
      refine (may_any w3 HCH3.out A d q _ cq HBQ3.out).mono ?_
      rintro e w4 ⟨rfl, hb4⟩
      have HB4 := Lib.hid (HB3.out.trans (hb4.mono HB3.out.size))
      have HCH4 := Lib.hid (HCH3.out.below hb4)
      have HBQ4 := Lib.hid (HBQ3.out.below hb4)
      have HBR4 := Lib.hid (Below.keepOld hb4 HBR.out)
      have HWS : Hid (wr.heap.size < w3.heap.size) := (Array.getElem?_eq_some_iff.1 HBR.out).1
      have HCS : Hid (w.heap.size < wr.heap.size) := (Array.getElem?_eq_some_iff.1 HCH.out.row).1
      have HS34 := Lib.hid hb4.size
      clear hb4
      by_cases hm : mayE (ds.take k) 0 d = 0
      · have HG1 := Lib.hid (HGS.out hm)
        rw [hm]
        clear hm
        generalize hdk : ds.take k = dk at *
        have HDK := Lib.hid hdk
        clear hdk
        have HNE : Hid (∀ i, (Value.slice p dk.length c).ownBlock = some i → ¬ i = w.heap.size) := keeps_ne_cells HCH4.out.keeps HCH4.out.row (by decide)
        have HNM : Hid (∀ i, (Value.slice p dk.length c).ownBlock = some i → ¬ i = wr.heap.size) := fun i hi e => by have := (keeps_lt HCH.out.keeps i hi).2; omega
        have hk2 : Hid (∀ w', Turns (fun i => (Value.slice p dk.length c).ownBlock = some i) w4 w' → w'.cell? ⟨w.heap.size, 2, none⟩ = some (.slice p dk.length c)) := fun w' ht => ht.cell HCH4.out.cells.2.2.1 (fun hi => HNE.out _ hi rfl)
        have hkM : Hid (∀ w', Turns (fun i => (Value.slice p dk.length c).ownBlock = some i) w4 w' → w'.rangeAt wr.heap.size 0 A.toList) := fun w' ht => row_rangeC (ht.keep HBR4.out (fun hi => HNM.out _ hi rfl))
        go_wp2_with fail
        refine wp_region_eager_t (Turns (fun i => (Value.slice p dk.length c).ownBlock = some i) w4) [0, 1, 2, 3, 4, 5, 9, 10] [(0, true), (1, true), (2, true), (3, true), (4, true), (5, true), (6, false), (7, false), (8, false), (9, true), (10, true)] [11] (by kernel_rfl) (by kernel_rfl) ?_ (eagerTOpen rfl ?_)
        · exact (Turns.refl _ _).drew
        have hy0 : Turns (fun i => (Value.slice p dk.length c).ownBlock = some i) w4 w4.drew := (Turns.refl _ _).drew
        repeat (first
          | ((with_reducible refine eagerTLoadAt 10 ?_); refine wpEagerT_load (by rfl) 33 _ rfl wr.heap.size 0 rfl A _ (fun w' hb => hkM.out w' hb) Try.underlying33 rfl (infoBlk _ HAS.out) ?_; (try simp only [Act.put, List.setIfInBounds_toArray, List.set_cons_zero, List.set_cons_succ]); (try refine eagerTOpen rfl ?_))
          | (first | (apply wpEagerT_take; (· rfl); (· (intro w' hb'; go_simp; try with_reducible rfl)); (try simp only [Act.put, List.setIfInBounds_toArray, List.set_cons_zero, List.set_cons_succ]); (try refine eagerTOpen rfl ?_)) | (refine wpEagerT_skip (by rfl) ?_; (try simp only [Act.put, List.setIfInBounds_toArray, List.set_cons_zero, List.set_cons_succ]); (try refine eagerTOpen rfl ?_)))
          | (apply wpEagerT_take; (· rfl); (· (intro w' hb'; have hk' := (hk2.out) w' hb'; go_split_ands; go_simp; try with_reducible rfl)); (try simp only [Act.put, List.setIfInBounds_toArray, List.set_cons_zero, List.set_cons_succ]); (try refine eagerTOpen rfl ?_)))
        (refine wpEagerT_op (by rfl) (fun K hK => ?_); go_simp; (refine (copy_any A d _ _ _ _ (HBQ4.out.below (below_drew1 _ _)) HFK.out).mono ?_; rintro e y ⟨p2, c2, rfl, ho, hb⟩; have HO := Lib.hid ho; have HBY := Lib.hid hb; have hy1 : Turns (fun i => (Value.slice p dk.length c).ownBlock = some i) w4 y := hy0.trans (Turns.of_below (S := fun _ => False) hb) (fun _ _ h => h.elim); clear ho hb); refine Shut.out hK _ _ (by assumption) ?_; clear hK K; (try simp only [Act.put, List.setIfInBounds_toArray, List.set_cons_zero, List.set_cons_succ]); (try refine eagerTOpen rfl ?_))
        have HN2 : Hid (BlkAt y (blkA d.hash d.par p2 d.txs.length c2) d p2 d.txs.length c2) := own_blk HBQ.out.hlen HBQ.out.plen HBQ.out.ids.each rfl HO.out
        refine wpEagerT_op (by rfl) (fun K hK => oper_of_list rfl ?_)
        refine wpList_buildOne rfl 37 33 _ rfl (blkA d.hash d.par p2 d.txs.length c2) rfl 65 Try.underlying37 (by kernel_rfl) (by omega) (by omega) HN2.out.size ?_
        have HRN := Lib.hid (heap_alloc_last y (.cells (blkA d.hash d.par p2 d.txs.length c2) 33))
        have hy2 : Turns (fun i => (Value.slice p dk.length c).ownBlock = some i) w4 (y.alloc (.cells (blkA d.hash d.par p2 d.txs.length c2) 33)) := hy1.alloc _
        refine only_end (Shut.out hK _ _ hy2 ?_)
        clear hK K
        (try simp only [Act.put, List.setIfInBounds_toArray, List.set_cons_zero, List.set_cons_succ]); (try refine eagerTOpen rfl ?_)
        refine wpEagerT_op (by rfl) (fun K hK => oper_of_list rfl ?_)
        have hy2s : w4.heap.size ≤ (y.alloc (.cells (blkA d.hash d.par p2 d.txs.length c2) 33)).heap.size := hy2.size
        have hby : Below w4.heap.size w4 y := (below_drew1 _ _).trans HBY.out
        have HBYA : Hid (Below w4.heap.size w4 (y.alloc (.cells (blkA d.hash d.par p2 d.txs.length c2) 33))) := hby.alloc hby.size _
        have hkeep := keeps_below HCH4.out.keeps HBYA.out
        have HONE : Hid (∀ u ∈ (blkA d.hash d.par p2 d.txs.length c2).toList, u.oneCell' = true) := fun u hu => List.all_eq_true.1 (by rw [Array.all_toList]; exact HN2.out.one) u hu
        have HBS : Hid (w.heap.size ≤ (y.alloc (.cells (blkA d.hash d.par p2 d.txs.length c2) 33)).heap.size) := Nat.le_trans HB4.out.size HBYA.out.size
        have hmany := HCH4.out.many
        refine wpList_append_keeps rfl _ _ 37 rfl (base := w.heap.size) Try.underlying37 infoBlocks zblk_size (by omega) rfl hkeep rfl (row_sl HRN.out 65 HN2.out.size) HONE.out (by omega) (by omega) HBS.out ?_
        intro p' c' w5 hkp hgr hnx hpn
        have hy5 : Turns (fun i => (Value.slice p dk.length c).ownBlock = some i) w4 w5 := hy2.trans (Turns.grown hgr (S := fun i => (Value.slice p dk.length c).ownBlock = some i) (fun k hk => hk)) (fun _ _ h => h)
        refine only_end (Shut.out hK _ _ hy5 ?_)
        clear hK K
        (try simp only [Act.put, List.setIfInBounds_toArray, List.set_cons_zero, List.set_cons_succ]); (try refine eagerTOpen rfl ?_)
        repeat (first | (apply wpEagerT_take; (· rfl); (· (intro w' hb'; go_simp; try with_reducible rfl)); (try simp only [Act.put, List.setIfInBounds_toArray, List.set_cons_zero, List.set_cons_succ]); (try refine eagerTOpen rfl ?_)) | (refine wpEagerT_skip (by rfl) ?_; (try simp only [Act.put, List.setIfInBounds_toArray, List.set_cons_zero, List.set_cons_succ]); (try refine eagerTOpen rfl ?_)))
        refine eagerTEnd (tail1 rfl ?_)
        have hwl : ∀ k, (Value.slice p dk.length c).ownBlock = some k → k < w4.heap.size := fun k hk => (keeps_lt HCH4.out.keeps k hk).2
        have ho5 : w5.ownsRow w4.heap.size 30 32 (.slice p2 d.txs.length c2) d.txs.length (d.txs.flatMap bytesV) :=
          own_touch (own_below_alloc HO.out (.cells (blkA d.hash d.par p2 d.txs.length c2) 33)) (Turns.grown hgr (S := fun i => (Value.slice p dk.length c).ownBlock = some i) (fun k hk => hk)) (fun k hk hs => by have h1 := (HO.out.lt k hk).1; have h2 := hwl k hs; have h3 : w4.drew.heap.size = w4.heap.size := rfl; omega)
        have HP := Lib.hid (put_mid HCH4.out.mid HB4.out.size ⟨HBQ.out.hlen, HBQ.out.plen, HBQ.out.ids.each, HFK.out⟩ (Nat.le_refl _) ho5 hkp hpn hy5 (fun k hk => (hnx k hk).imp id (fun h => Nat.le_trans hy2s h)))
        have hc5 : w5.cell? ⟨w.heap.size, 2, none⟩ = some (.slice p dk.length c) := hk2.out w5 hy5
        have hf5 : w5.frozen? ⟨w.heap.size, 2, none⟩ = false := frozen_of_row _ _ _ _ _ (hy5.keep HCH4.out.row (fun hi => HNE.out _ hi rfl))
        have HLE : Hid (∀ i, (Value.slice p dk.length c).ownBlock = some i → w.heap.size ≤ i) := fun i hi => (keeps_lt HCH4.out.keeps i hi).1
        clear hy0 hy1 hy2 hy5 hkp hgr hnx ho5 hwl hkeep hby hy2s hpn
        clear HBYA HBS HRN HONE HN2 HO
        go_wp2_with fail
        refine noPanic_end ?_
        obtain ⟨p6, c6, rows6, hmid6, hp6, hT6, hn6⟩ := HP.out
        clear HP hc5 hf5
        generalize w5.setCell ⟨w.heap.size, 2, none⟩ (.slice p' (dk.length + 1) c') = w6 at *
        have HEND : Hid (LoadR depth ds (some ⟨b, o, none⟩) ds.length c0 rows0 w (k + 1) w6) := by
          refine ⟨HB4.out.trans (hT6.below (B := w.heap.size) HB4.out.size (fun i hi => ?_)), HG1.out, p6, c6, rows6, ?_, fun h => absurd h (by omega)⟩
          · rcases hi with hi | hi
            · omega
            · exact HLE.out i hi
          · rw [HTK.out]
            exact hmid6.at HD.out ⟨by have : dk.length = k := by rw [← HDK.out, List.length_take]; omega
                                      simp; omega, by omega⟩
        clear hmid6 hp6 hT6 hn6
        go_wp2_with fail
        go_roundw
        case rel => exact ⟨k + 1, by omega, by go_num, HEND.out⟩
        case measure => simp [intOf]; omega
      · have HG1 := Lib.hid (HGX.out hm)
        have hne : (mayE (ds.take k) 0 d != 0) = true := by rw [bne_iff_ne]; exact hm
        clear hm
        generalize mayE (ds.take k) 0 d = E at *
        go_wp2_with fail
        go_ret2
        exact .inr ⟨HG1.out, rfl, HB4.out⟩
    · have hd : decide ((k : Int) < (ds.length : Int)) = false := decide_eq_false (by omega)
      have HGE : Hid (goesB ds ds.length = true) := by show _ = _; have := HGO.out; rwa [show k = ds.length by omega] at this
      have htk : ds.take k = ds := List.take_of_length_le (by omega)
      have hmid := HCH.out.mid
      have hp0 := HP0.out
      rw [htk] at hmid
      obtain ⟨hmid2, hT2⟩ := mid_high (height' := height) hmid
      have HE : Hid (LoadP depth height ds w (.returned (.tuple #[.pointer (some ⟨w.heap.size, 0, none⟩), .int .i64 0])) (wr.setCell ⟨w.heap.size, 1, none⟩ (.int .u32 (height : Int)))) :=
        .inl ⟨HGE.out, _, _, _, _, rfl, Nat.le_refl _, hmid2.at HD.out ⟨hl, hh2⟩, HB0.out.trans (hT2.below HB0.out.size (fun i hi => by omega)), fun e => hp0 (by rw [e] at hk; simpa using hk)⟩
      have hc1 : wr.cell? ⟨w.heap.size, 1, none⟩ = some (.int .u32 0) := HCH.out.cells.2.1
      have hf1 : wr.frozen? ⟨w.heap.size, 1, none⟩ = false := HCH.out.cells.2.2.2 1
      clear htk hmid hmid2 hT2 hp0
      go_wp2_with fail
      go_ret2
      exact HE.out

/-- what is left of a chain made -/
def NewP (d : Nat) (w : World) (e : Ending) (w' : World) : Prop := ∃ cb rows, e = .returned (.tuple #[.pointer (some ⟨cb, 0, none⟩), .int .i64 0]) ∧ w.heap.size ≤ cb ∧ ChAt w' w.heap.size cb d 0 [] none 0 rows ∧ Below w.heap.size w w'
set_option maxRecDepth 100000 in
theorem new_any (d : Nat) (w : World) (hd : 1 ≤ d ∧ d ≤ 16) : Calls Try.prog 10 #[.int .i64 (d : Int)] w (NewP d w) := by
  have HD := Lib.hid hd
  go_enter Try.func10, Try.ntmps10
  go_wp2_with fail
  refine (load_any d 0 [] none 0 [] _ (Bks.nil _) (fun d h => by simp at h) HD.out (by simp) (by simp) (by omega)).mono ?_
  rintro e w2 (⟨_, cb, p, c, rows, rfl, hcb, hch, hb, hp⟩ | ⟨h, _⟩)
  · obtain rfl := hp rfl
    have hc : c = 0 := by
      obtain ⟨p', c', e1, hs⟩ := keeps_sl hch.keeps
      cases e1
      exact hs.nil0 rfl
    subst hc
    have HE : Hid (NewP d w (.returned (.tuple #[.pointer (some ⟨cb, 0, none⟩), .int .i64 0])) w2) := ⟨cb, rows, rfl, hcb, hch, hb⟩
    clear hcb hch hb hp
    go_wp2_with fail
    go_ret2
    exact HE.out
  · cases h
end Go.Proofs.Ytepemfgiigceoaa.Chn

namespace Go.Proofs.Ytepemfgiigceoaa.Chn
open Go.RowKit Go.Mir Go.Mir.Parts Go.Proofs.Ytepemfgiigceoaa.Blk

/-- blocks that the call laid -/
structure Own (w : World) (base : Nat) (p : Option Addr) (n c : Nat) (ds : List BlkD) (rows : List (List Value)) : Prop where
  own : w.ownsRow base 33 65 (.slice p n c) n rows.flatten
  count : rows.length = n
  each : ∀ (i : Nat) r d, rows[i]? = some r → ds[i]? = some d → ChB w base r d
theorem Own.touch {S : Nat → Prop} {w w' : World} {base : Nat} {p : Option Addr} {n c : Nat} {ds : List BlkD} {rows : List (List Value)} (h : Own w base p n c ds rows) (ht : Turns S w w') (hS : ∀ k M fr, w.heap[k]? = some (.cells M 30 fr) → ¬ S k) (ho : ∀ k, (Value.slice p n c).ownBlock = some k → ¬ S k) : Own w' base p n c ds rows :=
  ⟨own_touch h.own ht ho, h.count, fun i r d h1 h2 => (h.each i r d h1 h2).touch ht hS⟩
theorem Own.below {w w' : World} {base : Nat} {p : Option Addr} {n c : Nat} {ds : List BlkD} {rows : List (List Value)} (h : Own w base p n c ds rows) (hb : Below w.heap.size w w') : Own w' base p n c ds rows :=
  h.touch (Turns.of_below (S := fun _ => False) hb) (fun _ _ _ _ h => h) (fun _ _ h => h)
theorem Own.bks {w : World} {base : Nat} {p : Option Addr} {c : Nat} {ds : List BlkD} {rows : List (List Value)} (h : Own w base p ds.length c ds rows) : Bks w p ds.length c ds rows := by
  obtain ⟨p', c', e, hs⟩ := own_sl h.own
  cases e
  refine ⟨⟨hs, fun r hr => ?_, h.count⟩, rfl, fun i r d h1 h2 => (h.each i r d h1 h2).blk⟩
  obtain ⟨i, hi⟩ := List.mem_iff_getElem?.1 hr
  have hl := (List.getElem?_eq_some_iff.1 hi).1
  exact (h.each i r _ hi (List.getElem?_eq_getElem (by have := h.count; omega))).len
theorem flatten_len65 {w : World} {base : Nat} {ds : List BlkD} : ∀ {rows : List (List Value)}, (∀ r ∈ rows, ∃ d, ChB w base r d) → rows.flatten.length = rows.length * 65
  | [], _ => rfl
  | r :: rs, h => by
    obtain ⟨d, hd⟩ := h r (by simp)
    rw [List.flatten_cons, List.length_append, hd.len, flatten_len65 (ds := ds) (fun r' hr => h r' (by simp [hr])), List.length_cons]
    omega
/-- what is left of a window told -/
def WinP (ds : List BlkD) (w : World) (e : Ending) (w' : World) : Prop := ∃ p c rows, e = .returned (.slice p ds.length c) ∧ Own w' w.heap.size p ds.length c ds rows ∧ Below w.heap.size w w'
def WinR (ds : List BlkD) (w : World) (k : Nat) (v : Value) (wr : World) : Prop := ∃ p c rows, v = .slice p k c ∧ Own wr w.heap.size p k c ds rows ∧ Below w.heap.size w wr

set_option maxRecDepth 100000 in
set_option maxHeartbeats 800000 in
theorem window_any {base cb depth height : Nat} {ds : List BlkD} {p : Option Addr} {c : Nat} {rows : List (List Value)} (w : World) (h : ChAt w base cb depth height ds p c rows) :
    Calls Try.prog 12 #[.pointer (some ⟨cb, 0, none⟩)] w (WinP ds w) := by
  obtain ⟨Z, hz, hZ⟩ := zBlk
  have HZZ := Lib.hid hZ
  have H := Lib.hid h
  have hm := h.many
  obtain ⟨hd1, hd2⟩ := h.depth1
  have hc2 := h.cells.2.2.1
  clear h hZ
  go_enter Try.func12, Try.ntmps12
  go_wp2_with fail
  refine (none_any cb depth _ H.out.cells.1 H.out.depth1.1).mono ?_
  rintro e w' ⟨rfl, hw⟩
  obtain rfl : w = w' := hw.symm
  go_wp2_with fail
  clear hc2
  go_loopw [3, 13] (fun v j wr => ∃ k : Nat, k ≤ ds.length ∧ j = .int .i64 k ∧ WinR ds w k v wr) (fun _ j _ => ds.length - (intOf j).toNat)
  case atStart => exact ⟨0, by omega, rfl, none, 0, [], rfl, ⟨World.ownsRow_nil _ _ _ _, rfl, fun i r d h => by simp at h⟩, Below.refl _ _⟩
  case round =>
    obtain ⟨k, hk, rfl, p1, c1, rows1, rfl, hown, hb0⟩ := hrel
    have HB0 := Lib.hid hb0
    have HO := Lib.hid hown
    clear hb0 hown
    by_cases hlt : k < ds.length
    · have hd : decide ((k : Int) < (ds.length : Int)) = true := decide_eq_true (by omega)
      have hrs := H.out.rs
      have hri : k < rows.length := by rw [H.out.count]; omega
      obtain ⟨b, o, rfl⟩ := hrs.sl.addr (by omega) (by omega)
      have hch := H.out.each k _ (ds[k]'hlt) (List.getElem?_eq_getElem hri) (List.getElem?_eq_getElem hlt)
      obtain ⟨q, cq, hrq, hbq⟩ := hch.blk
      have HRG0 := Lib.hid (range_below (hrs.row k hri) HB0.out)
      rw [hrq] at HRG0
      have HGK : Hid (ds[k]? = some (ds[k]'hlt)) := List.getElem?_eq_getElem hlt
      have HFK := Lib.hid (H.out.few _ (List.getElem_mem hlt))
      generalize (ds[k]'hlt) = d at *
      obtain ⟨A, hA⟩ : ∃ A, A = blkA d.hash d.par q d.txs.length cq := ⟨_, rfl⟩
      rw [← hA] at HRG0 hbq
      clear hA hch hrq hrs
      have HBQ := Lib.hid (hbq.below HB0.out)
      have HAS := Lib.hid hbq.size
      have HAO := Lib.hid hbq.one
      have HAL : Hid (A.toList.length = 65) := by show _ = _; rw [Array.length_toList]; exact hbq.size
      have HNW := Lib.hid (box_new wr Z 33)
      have HBR := Lib.hid (box_row wr Z A 33)
      have HBB := Lib.hid (box_below wr Z A 33)
      have HB3 := Lib.hid (HB0.out.trans (HBB.out.mono HB0.out.size))
      have HO3 := Lib.hid (HO.out.below HBB.out)
      have HBQ3 := Lib.hid (HBQ.out.below HBB.out)
      clear hbq
      go_wp2_with (first
        | ((with_reducible refine wpAt 16 ?_); refine wpList_load_mid rfl 33 _ rfl b (o + k * 65) rfl A.toList _ HRG0.out Try.underlying33 rfl (infoBlk _ HAL.out) ?_)
        | ((with_reducible refine wpStoreAt 5 ?_); refine wpList_store_row rfl 33 _ _ rfl wr.heap.size A rfl rfl 33 Z HNW.out (infoBlk _ HAS.out) (HZZ.out.trans HAS.out.symm) HAO.out ?_)
        | ((with_reducible refine wpAt 18 ?_); refine wpList_load_row_g rfl 33 _ rfl wr.heap.size rfl 33 A (0, 0) _ HBR.out Try.underlying33 rfl (infoBlk _ HAS.out) ?_))
      generalize (wr.alloc (.cells Z 33)).setRow wr.heap.size A = w3 at *
      refine (copy_any A d q _ cq w3 HBQ3.out HFK.out).mono ?_
      rintro e y ⟨p2, c2, rfl, ho, hb4⟩
      have HOC := Lib.hid ho
      have HB4 := Lib.hid (HB3.out.trans (hb4.mono HB3.out.size))
      have HO4 := Lib.hid (HO3.out.below hb4)
      have HN2 : Hid (BlkAt y (blkA d.hash d.par p2 d.txs.length c2) d p2 d.txs.length c2) := own_blk HBQ.out.hlen HBQ.out.plen HBQ.out.ids.each rfl ho
      have HS3 := Lib.hid HB3.out.size
      have HBL := Lib.hid (And.intro HBQ.out.hlen (And.intro HBQ.out.plen HBQ.out.ids.each))
      have HRN := Lib.hid (heap_alloc_last y (.cells (blkA d.hash d.par p2 d.txs.length c2) 33))
      have HOA := Lib.hid (HO4.out.below (Below.allocs y (.cells (blkA d.hash d.par p2 d.txs.length c2) 33)))
      have HOCA := Lib.hid (own_below_alloc ho (.cells (blkA d.hash d.par p2 d.txs.length c2) 33))
      have HB5 := Lib.hid (HB4.out.alloc HB4.out.size (.cells (blkA d.hash d.par p2 d.txs.length c2) 33))
      have HONE : Hid (∀ u ∈ (blkA d.hash d.par p2 d.txs.length c2).toList, u.oneCell' = true) := fun u hu => List.all_eq_true.1 (by rw [Array.all_toList]; exact HN2.out.one) u hu
      have HKL : Hid (k + 1 ≤ 9223372036854775807 ∧ (k + 1) * 88 ≤ 140737488355328) := ⟨by omega, by omega⟩
      clear ho hb4
      go_wp2_with (first
        | ((with_reducible refine wpAt 20 ?_); refine wpList_buildOne rfl 37 33 _ rfl (blkA d.hash d.par p2 d.txs.length c2) rfl 65 Try.underlying37 (by kernel_rfl) (by omega) (by omega) HN2.out.size ?_)
        | ((with_reducible refine wpAt 21 ?_); refine wpList_append_nx rfl _ _ 37 rfl (base := w.heap.size) Try.underlying37 infoBlocks zblk_size (by omega) rfl HOA.out.own rfl (row_sl HRN.out 65 HN2.out.size) HONE.out HKL.out HB5.out.size ?_))
      intro p6 c6 w6 ho6 hg6 hnx6 hz6
      have hb6 : Below w.heap.size w w6 := HB5.out.grown hg6 HB5.out.size (fun i hi => (HOA.out.own.lt i hi).1)
      have hT : Turns (fun i => (Value.slice p1 k c1).ownBlock = some i) (y.alloc (.cells (blkA d.hash d.par p2 d.txs.length c2) 33)) w6 := Turns.grown hg6 (S := fun i => (Value.slice p1 k c1).ownBlock = some i) (fun i hi => hi)
      have hap : ∀ i M fr, (y.alloc (.cells (blkA d.hash d.par p2 d.txs.length c2) 33)).heap[i]? = some (.cells M 30 fr) → ¬ (Value.slice p1 k c1).ownBlock = some i := fun i M fr h e => keeps_ne_cells (keeps_of_owns HOA.out.own) h (by decide) i e rfl
      have HEND : Hid (WinR ds w (k + 1) (.slice p6 (k + 1) c6) w6) := by
        refine ⟨p6, c6, rows1 ++ [(blkA d.hash d.par p2 d.txs.length c2).toList], rfl, ⟨by simpa using ho6, by simp [HO.out.count], fun i r d' h1 h2 => ?_⟩, hb6⟩
        rcases get_snoc h1 with h1 | ⟨hi, h1⟩
        · exact (HOA.out.each i r d' h1 h2).touch hT hap
        · rw [hi, HO.out.count, HGK.out] at h2
          cases h2
          subst h1
          refine ⟨p2, c2, rfl, HBL.out.1, HBL.out.2.1, HBL.out.2.2, own_base (own_touch HOCA.out hT (fun j hj e => ?_)) (fun j hj => ?_)⟩
          · rcases HOCA.out.2 with ⟨hv, _⟩ | ⟨g, cap, cur, hv, _, hg, _⟩
            · rw [hv] at hj; simp [Value.ownBlock] at hj
            · rw [hv] at hj; simp [Value.ownBlock] at hj; subst hj; exact hap _ _ _ hg e
          · exact Nat.le_trans HS3.out (HOCA.out.lt j hj).1
      clear hb6 hT hap ho6 hg6 hnx6 hz6
      go_wp2_with fail
      go_roundw
      case rel => exact ⟨k + 1, by omega, by go_num, HEND.out⟩
      case measure => simp [intOf]; omega
    · have hd : decide ((k : Int) < (ds.length : Int)) = false := decide_eq_false (by omega)
      obtain rfl : k = ds.length := by omega
      have HE : Hid (WinP ds w (.returned (.slice p1 ds.length c1)) wr) := ⟨p1, c1, rows1, rfl, HO.out, HB0.out⟩
      go_wp2_with fail
      go_ret
      exact HE.out
end Go.Proofs.Ytepemfgiigceoaa.Chn

namespace Go.Proofs.Ytepemfgiigceoaa.Chn
open Go.RowKit Go.Mir Go.Mir.Parts Go.Proofs.Ytepemfgiigceoaa.Blk

theorem ChAt.ownLow {w : World} {base cb depth height : Nat} {ds : List BlkD} {p : Option Addr} {c : Nat} {rows : List (List Value)} (h : ChAt w base cb depth height ds p c rows) : ∀ i, ChOwn cb p ds.length c i → base ≤ i := fun i hi => by
  rcases hi with hi | hi
  · rw [hi]; exact h.low
  · exact (keeps_lt h.keeps i hi).1
theorem build2 : Try.prog.built 30 [(0, .int .u8 2)] = some (idA (id1 2)) := by kernel_rfl
theorem buildB2 : Try.prog.built 33 [(0, .agg (idA (id1 2))), (1, .agg (idA (id1 1)))] = some (blkA (id1 2) (id1 1) none 0 0) := by kernel_rfl
theorem may1 : mayE [] 0 ⟨id1 1, zeros, []⟩ = 0 := by decide
theorem may2 : mayE [⟨id1 1, zeros, []⟩] 1 ⟨id1 2, id1 1, []⟩ = 0 := by decide
theorem disc1 : discE [⟨id1 1, zeros, []⟩, ⟨id1 2, id1 1, []⟩] (id1 2) = 0 := by decide
theorem disc2 : discE [⟨id1 1, zeros, []⟩] (id1 1) = 20 := by decide

set_option maxRecDepth 100000 in
set_option maxHeartbeats 400000 in
theorem alive_any (w : World) : Calls Try.prog 9 #[] w fun e w' => e = .returned (.bool true) ∧ Below w.heap.size w w' := by
  have b1 := fun w0 => run_build (P := Try.prog) w0 30 #[(0, .int .u8 1)] _ build1
  have b2 := fun w0 => run_build (P := Try.prog) w0 33 #[(0, .agg (idA (id1 1)))] _ buildB1
  have b3 := fun w0 => run_build (P := Try.prog) w0 30 #[(0, .int .u8 2)] _ build2
  have b4 := fun w0 => run_build (P := Try.prog) w0 33 #[(0, .agg (idA (id1 2))), (1, .agg (idA (id1 1)))] _ buildB2
  have HM1 : Hid (∀ w', BlkAt w' (blkA (id1 1) zeros none 0 0) ⟨id1 1, zeros, []⟩ none 0 0) := fun w' => ⟨rfl, rfl, rfl, Is.nil _ _⟩
  have HM2 : Hid (∀ w', BlkAt w' (blkA (id1 2) (id1 1) none 0 0) ⟨id1 2, id1 1, []⟩ none 0 0) := fun w' => ⟨rfl, rfl, rfl, Is.nil _ _⟩
  go_enter Try.func9, Try.ntmps9
  go_wp2_with fail
  refine (new_any 1 _ ⟨by omega, by omega⟩).mono ?_
  rintro e w1 ⟨cb, rows1, rfl, hcb, hch1, hb1⟩
  have HB1 := Lib.hid hb1
  have H1 := Lib.hid hch1
  clear hb1 hch1
  go_wp2_with fail
  refine (connect_ok w1 H1.out HB1.out.size _ ⟨id1 1, zeros, []⟩ none 0 0 (HM1.out w1) (by omega) may1).mono ?_
  rintro e w2 ⟨rfl, p2, c2, rows2, hch2, _, ht2, _⟩
  have HB2 := Lib.hid (HB1.out.trans (ht2.below HB1.out.size H1.out.ownLow))
  have H2 : Hid (ChAt w2 w.heap.size cb 1 1 [⟨id1 1, zeros, []⟩] p2 c2 rows2) := hch2
  clear ht2 hch2
  go_wp2_with fail
  refine (connect_ok w2 H2.out HB2.out.size _ ⟨id1 2, id1 1, []⟩ none 0 0 (HM2.out w2) (by omega) may2).mono ?_
  rintro e w3 ⟨rfl, p3, c3, rows3, hch3, _, ht3, _⟩
  have HB3 := Lib.hid (HB2.out.trans (ht3.below HB2.out.size H2.out.ownLow))
  have H3 : Hid (ChAt w3 w.heap.size cb 1 2 [⟨id1 1, zeros, []⟩, ⟨id1 2, id1 1, []⟩] p3 c3 rows3) := hch3
  clear ht3 hch3
  go_wp2_with fail
  refine (disc_any w3 H3.out (by simp) (id1 2) rfl).mono ?_
  rintro e w4 ⟨rfl, _, hok⟩
  obtain ⟨c4, rows4, hch4, ht4⟩ := hok disc1
  rw [disc1]
  have HB4 := Lib.hid (HB3.out.trans (ht4.below HB3.out.size H3.out.ownLow))
  have H4 : Hid (ChAt w4 w.heap.size cb 1 1 [⟨id1 1, zeros, []⟩] p3 c4 rows4) := hch4
  clear hok ht4 hch4
  go_wp2_with fail
  refine (disc_any w4 H4.out (by simp) (id1 1) rfl).mono ?_
  rintro e w5 ⟨rfl, hno, _⟩
  rw [disc2]
  have hb5 := hno (by rw [disc2]; omega)
  have HB5 := Lib.hid (HB4.out.trans (hb5.mono HB4.out.size))
  have H5 := Lib.hid (H4.out.below hb5)
  clear hno hb5
  go_wp2_with fail
  refine (height_any w5 H5.out).mono ?_
  rintro e w' ⟨rfl, rfl⟩
  go_wp2_with fail
  go_ret
  exact ⟨rfl, HB5.out⟩
end Go.Proofs.Ytepemfgiigceoaa.Chn

namespace Go.Proofs.Ytepemfgiigceoaa.Chn
open Go.RowKit Go.Mir Go.Mir.Parts Go.Proofs.Ytepemfgiigceoaa.Blk

/-- what a call of the statement is -/
structure COp where
  kind : Int
  nr : Bool
  blk : BlkD
def opA (k : Int) (nr : Bool) (M : Array Value) : Array Value := #[.int .i64 k, .bool nr] ++ M
theorem opA_toList (k : Int) (nr : Bool) (M : Array Value) : (opA k nr M).toList = [.int .i64 k, .bool nr] ++ M.toList := by simp [opA]
structure COpAt (w : World) (cs : List Value) (o : COp) : Prop where
  form : ∃ q c, cs = (opA o.kind o.nr (blkA o.blk.hash o.blk.par q o.blk.txs.length c)).toList ∧ BlkAt w (blkA o.blk.hash o.blk.par q o.blk.txs.length c) o.blk q o.blk.txs.length c
  kindB : -9223372036854775808 ≤ o.kind ∧ o.kind ≤ 9223372036854775807
theorem COpAt.below {w w' : World} {cs : List Value} {o : COp} (h : COpAt w cs o) (hb : Below w.heap.size w w') : COpAt w' cs o := by
  obtain ⟨q, c, h1, h2⟩ := h.form
  exact ⟨⟨q, c, h1, h2.below hb⟩, h.kindB⟩
structure COps (w : World) (p : Option Addr) (n c : Nat) (os : List COp) (rows : List (List Value)) : Prop where
  rs : Rs w p n c 67 rows
  count : os.length = n
  each : ∀ (i : Nat) r o, rows[i]? = some r → os[i]? = some o → COpAt w r o
theorem COps.below {w w' : World} {p : Option Addr} {n c : Nat} {os : List COp} {rows : List (List Value)} (h : COps w p n c os rows) (hb : Below w.heap.size w w') : COps w' p n c os rows :=
  ⟨h.rs.below hb, h.count, fun i r o h1 h2 => (h.each i r o h1 h2).below hb⟩
theorem COps.at {w : World} {b o n c : Nat} {os : List COp} {rows : List (List Value)} (h : COps w (some ⟨b, o, none⟩) n c os rows) (k : Nat) (hk : k < os.length) : ∃ q cc, BlkAt w (blkA os[k].blk.hash os[k].blk.par q os[k].blk.txs.length cc) os[k].blk q os[k].blk.txs.length cc ∧ w.rangeAt b (o + k * 67) (opA os[k].kind os[k].nr (blkA os[k].blk.hash os[k].blk.par q os[k].blk.txs.length cc)).toList := by
  have hkr : k < rows.length := by rw [h.rs.count, ← h.count]; exact hk
  obtain ⟨q, cc, e, hb⟩ := (h.each k _ os[k] (List.getElem?_eq_getElem hkr) (List.getElem?_eq_getElem hk)).form
  refine ⟨q, cc, hb, ?_⟩
  rw [← e]
  exact h.rs.row k hkr
theorem opA_size {k : Int} {nr : Bool} {M : Array Value} (h : M.size = 65) : (opA k nr M).size = 67 := by simp [opA, h]
theorem opA_one {k : Int} {nr : Bool} {M : Array Value} (h : M.all (·.oneCell') = true) : (opA k nr M).all (·.oneCell') = true := by
  unfold opA
  rw [Array.all_append, h]
  simp [Value.oneCell']
theorem opA_blk {w : World} {b : Nat} {k : Int} {nr : Bool} {M : Array Value} {t : TypeId} {fr : Nat × Nat} (h : w.heap[b]? = some (.cells (opA k nr M) t fr)) : w.rangeAt b 2 M.toList := by
  have := range_row h [.int .i64 k, .bool nr] M.toList [] (by rw [opA_toList]; simp)
  simpa using this
theorem opA_cell {w : World} {b : Nat} {k : Int} {nr : Bool} {M : Array Value} {t : TypeId} {fr : Nat × Nat} (h : w.heap[b]? = some (.cells (opA k nr M) t fr)) : w.cell? ⟨b, 0, none⟩ = some (.int .i64 k) ∧ w.cell? ⟨b, 1, none⟩ = some (.bool nr) := by
  refine ⟨?_, ?_⟩
  · rw [cell_of_row _ _ _ _ _ _ h, ← Array.getElem?_toList, opA_toList]; rfl
  · rw [cell_of_row _ _ _ _ _ _ h, ← Array.getElem?_toList, opA_toList]; rfl
theorem infoOp (n : Nat) (h : n = 67) : (Try.prog.info? 35).map (·.size) = some n := by subst h; kernel_rfl
theorem zOp : ∃ Z : Array Value, (∀ w0, (zeroValue 35).run Try.prog w0 = .ok (.agg Z) w0) ∧ Z.size = 67 := ⟨opA 0 false (blkA zeros zeros none 0 0), fun w0 => by kernel_rfl, by kernel_rfl⟩
/-- what 'few' answers -/
def FewP (os : List COp) (w : World) (e : Ending) (w' : World) : Prop := ∃ b : Bool, e = .returned (.bool b) ∧ (b = true → os.length ≤ 100 ∧ ∀ o ∈ os, o.blk.txs.length ≤ 100) ∧ Below w.heap.size w w'

set_option maxRecDepth 100000 in
set_option maxHeartbeats 400000 in
theorem fewOps_any (os : List COp) (p : Option Addr) (c : Nat) (rows : List (List Value)) (w : World) (h : COps w p os.length c os rows) :
    Calls Try.prog 8 #[.slice p os.length c] w (FewP os w) := by
  obtain ⟨Z, hz, hZ⟩ := zOp
  have HZZ := Lib.hid hZ
  have H := Lib.hid h
  have hle := h.rs.sl.le
  have hmax := h.rs.sl.max
  clear h hZ
  go_enter Try.func8, Try.ntmps8
  go_wp2_with fail
  go_loopw [7] (fun j wr => ∃ k : Nat, k ≤ os.length ∧ j = .int .i64 k ∧ (∀ i o, i < k → os[i]? = some o → o.blk.txs.length ≤ 100) ∧ Below w.heap.size w wr) (fun j _ => os.length - (intOf j).toNat)
  case atStart => exact ⟨0, by omega, rfl, fun i o h => absurd h (Nat.not_lt_zero i), Below.refl _ _⟩
  case round =>
    obtain ⟨k, hk, rfl, hall, hb0⟩ := hrel
    have HALL := Lib.hid hall
    have HB0 := Lib.hid hb0
    clear hall hb0
    by_cases hlt : k < os.length
    · have hd : decide ((k : Int) < (os.length : Int)) = true := decide_eq_true (by omega)
      obtain ⟨b, o, rfl⟩ := H.out.rs.sl.addr (by omega) (by omega)
      obtain ⟨q, cq, hbq, hrg⟩ := H.out.at k hlt
      have HGK : Hid (os[k]? = some os[k]) := List.getElem?_eq_getElem hlt
      have HBQ := Lib.hid (hbq.below HB0.out)
      have HRG0 := Lib.hid (range_below hrg HB0.out)
      clear hbq hrg
      generalize os[k] = oo at *
      obtain ⟨A, hA⟩ : ∃ A, A = blkA oo.blk.hash oo.blk.par q oo.blk.txs.length cq := ⟨_, rfl⟩
      rw [← hA] at HBQ HRG0
      clear hA
      have HAS := Lib.hid HBQ.out.size
      have HAL : Hid (A.toList.length = 65) := by show _ = _; rw [Array.length_toList]; exact HBQ.out.size
      have HOS := Lib.hid (opA_size (k := oo.kind) (nr := oo.nr) HBQ.out.size)
      have HOO := Lib.hid (opA_one (k := oo.kind) (nr := oo.nr) HBQ.out.one)
      have HOL : Hid ((opA oo.kind oo.nr A).toList.length = 67) := by show _ = _; rw [Array.length_toList]; exact HOS.out
      have HNW := Lib.hid (box_new wr Z 35)
      have HBR := Lib.hid (box_row wr Z (opA oo.kind oo.nr A) 35)
      have HBB := Lib.hid (box_below wr Z (opA oo.kind oo.nr A) 35)
      have HB3 := Lib.hid (HB0.out.trans (HBB.out.mono HB0.out.size))
      have HBQ3 := Lib.hid (HBQ.out.below HBB.out)
      have HMID := Lib.hid (opA_blk HBR.out)
      go_wp2_with (first
        | ((with_reducible refine wpAt 10 ?_); refine wpList_load_mid rfl 35 _ rfl b (o + k * 67) rfl (opA oo.kind oo.nr A).toList _ HRG0.out Try.underlying35 rfl (infoOp _ HOL.out) ?_)
        | ((with_reducible refine wpStoreAt 4 ?_); refine wpList_store_row rfl 35 _ _ rfl wr.heap.size (opA oo.kind oo.nr A) rfl rfl 35 Z HNW.out (infoOp _ HOS.out) (HZZ.out.trans HOS.out.symm) HOO.out ?_)
        | ((with_reducible refine wpAt 12 ?_); refine wpList_load_mid rfl 33 _ rfl wr.heap.size 2 rfl A.toList _ HMID.out Try.underlying33 rfl (infoBlk _ HAL.out) ?_))
      generalize (wr.alloc (.cells Z 35)).setRow wr.heap.size (opA oo.kind oo.nr A) = w3 at *
      refine (few_any A oo.blk q _ cq w3 HBQ3.out).mono ?_
      rintro e w4 ⟨rfl, hb4⟩
      have HB4 := Lib.hid (HB3.out.trans (hb4.mono HB3.out.size))
      clear hb4
      by_cases hm : oo.blk.txs.length ≤ 100
      · have hdm : decide (oo.blk.txs.length ≤ 100) = true := decide_eq_true hm
        have HM := Lib.hid hm
        clear hm
        go_wp2_with fail
        go_roundw
        case rel =>
          refine ⟨k + 1, by omega, by go_num, fun i o' hi ho' => ?_, HB4.out⟩
          by_cases hik : i = k
          · rw [hik, HGK.out] at ho'
            cases ho'
            exact HM.out
          · exact HALL.out i o' (by omega) ho'
        case measure => simp [intOf]; omega
      · have hdm : decide (oo.blk.txs.length ≤ 100) = false := decide_eq_false hm
        clear hm
        go_wp2_with fail
        go_ret
        exact ⟨false, rfl, fun h => (by cases h), HB4.out⟩
    · have hd : decide ((k : Int) < (os.length : Int)) = false := decide_eq_false (by omega)
      have HALL2 : Hid (∀ o ∈ os, o.blk.txs.length ≤ 100) := fun o ho => by
        obtain ⟨i, hi⟩ := List.mem_iff_getElem?.1 ho
        exact HALL.out i o (by have := (List.getElem?_eq_some_iff.1 hi).1; omega) hi
      by_cases hl : os.length ≤ 100
      · have hdl : decide ((os.length : Int) ≤ 100) = true := decide_eq_true (by omega)
        have hdl2 : decide (os.length ≤ 100) = true := decide_eq_true (by omega)
        have HE : Hid (FewP os w (.returned (.bool true)) wr) := ⟨_, rfl, fun _ => ⟨hl, HALL2.out⟩, HB0.out⟩
        go_wp2_with fail
        go_ret
        exact HE.out
      · have hdl : decide ((os.length : Int) ≤ 100) = false := decide_eq_false (by omega)
        have hdl2 : decide (os.length ≤ 100) = false := decide_eq_false (by omega)
        have HE : Hid (FewP os w (.returned (.bool false)) wr) := ⟨_, rfl, fun h => (by cases h), HB0.out⟩
        go_wp2_with fail
        go_ret
        exact HE.out
end Go.Proofs.Ytepemfgiigceoaa.Chn
