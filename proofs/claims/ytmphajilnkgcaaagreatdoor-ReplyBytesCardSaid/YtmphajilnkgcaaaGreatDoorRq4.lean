/- PARTS, JOINED: A REGION THAT DRAWS ITS ORDER, WALKED IN ONE ORDER AS LONG AS WHAT IS READ EARLY STANDS, THEN BY A TREE. No program is named. Conditions: none. REPLIES: their value; Right; numbers, with. Conditions: none. REPLIES: Parse. Conditions: texts of less than 2^32 bytes; internal/bytealg.MaxLen holds an int. REPLIES: Line. Conditions: numbers of 32 bits. REPLIES: the laws' own trial (alive). Conditions: internal/bytealg.MaxLen holds an int. THE WALKS OF THE WRITER: bytes one behind the other, room and a fault; each call as a plain function of what the writer held. Conditions: parts that stay as they are while the writer's own blocks turn. THE WALKS OF THE WRITER, on: put with any fault, Bytes, Id, Hint, Ids, Num, New, Len, Err, Done. Conditions: as in the first part. -/
import Derived.Test.YtmphajilnkgcaaaGreatDoorRq1
import Derived.Test.YtmphajilnkgcaaaGreatDoorRq2
import Derived.Test.YtmphajilnkgcaaaGreatDoorRq3
import Derived.Test.YtmphajilnkgcaaaGreatDoorProg
import Derived.BigQuiet
import Derived.Deep.QuietTactic
namespace Go.Mir
open Go.RowKit

section
variable {P : Program} {ops : Array Oper} {S : World → Prop} {Q : Exit → Act → World → Prop} {marks : List Nat}
/-- all that is not listed waits for every marked operation -/
def allLate (ops : Array Oper) (marks : List Nat) (l : Array Bool) : Bool := (List.range ops.size).all fun j => l.getD j false || lateB ops marks j
theorem allLate_spec {l : Array Bool} (h : allLate ops marks l = true) {j : Nat} {o : Oper} (ho : ops[j]? = some o) (hl : l.getD j false = false) : lateB ops marks j = true := by
  have hj : j < ops.size := (Array.getElem?_eq_some_iff.1 ho).1
  have := (List.all_eq_true.1 h) j (List.mem_range.2 hj)
  rw [hl, Bool.false_or] at this
  exact this
theorem wpAnyG_of_late : ∀ (n : Nat) (listed : Array Bool) (a : Act) (w : World), (∀ (j : Nat) (o : Oper), ops[j]? = some o → listed.getD j false = false → lateB ops marks j = true) →
    wpAnyH P .any ops Q (fun _ => True) n listed a w → wpAnyG P ops Q S marks n listed a w
  | 0, _, _, _, _, h => h
  | n + 1, listed, a, w, hl, h => by
    refine ⟨h.1, fun i hi => ?_⟩
    obtain ⟨hun, o, ho, _⟩ := mem_ready.1 hi
    have hlate : lateB ops marks i = true := hl i o ho (by
      cases hg : listed.getD i false with
      | false => rfl
      | true =>
        exfalso
        rcases Nat.lt_or_ge i listed.size with h' | h'
        · simp [h'] at hun hg; rw [hun] at hg; cases hg
        · simp [Array.getElem?_eq_none h'] at hg)
    refine wpOp_mono (fun a' w' h3 => ⟨fun e => (by rw [hlate] at e; cases e), wpAnyG_of_late n _ a' w' (fun j oj hoj hj => ?_) h3.2⟩) (h.2 i hi)
    refine hl j oj hoj ?_
    by_cases hij : i = j
    · subst hij
      cases hg : listed.getD i false with
      | false => rfl
      | true =>
        exfalso
        rcases Nat.lt_or_ge i listed.size with h' | h'
        · simp [h'] at hun hg; rw [hun] at hg; cases hg
        · simp [Array.getElem?_eq_none h'] at hg
    · rw [getD_set_ne false hij] at hj; exact hj
/-- the plan: what is taken or called while S stands; then a tree -/
def planU (ops : Array Oper) (marks : List Nat) (t : Tr) : List (Nat × Bool) → Array Bool → Bool
  | (i, true) :: r, l => (ops[i]?).isSome && marks.contains i && Region.free .any ops l i && (Region.ready .any ops l).contains i && planU ops marks t r (l.setIfInBounds i true)
  | (i, false) :: r, l => (ops[i]?).isSome && Region.ready .any ops l == [i] && planU ops marks t r (l.setIfInBounds i true)
  | [], l => allLate ops marks l && treeB ops t l
/-- the walk: while S stands, and on -/
def wpEagerU (P : Program) (ops : Array Oper) (S : World → Prop) (Q : Exit → Act → World → Prop) (l : List Oper) (t : Tr) : List (Oper × Bool) → Act → World → Prop
  | [], a, w => wpTree P ops (fun _ => True) Q l t a w
  | (o, true) :: r, a, w => ∃ v, YieldsIf P ops S o v a ∧ wpEagerU P ops S Q l t r (a.put o.dst v) w
  | (o, false) :: r, a, w => if Region.wanted o (yielded ops a.tmps) then o.wp P a w (fun a' w' => S w' ∧ wpEagerU P ops S Q l t r a' w') Q else wpEagerU P ops S Q l t r (a.put o.dst undef) w
theorem wpAnyG_planU {l : List Oper} (hl : l.toArray = ops) (hs : Region.noSelect ops = true) (hQ : ∀ c a d v w, Q (.panic c) (a.put d v) w → Q (.panic c) a w) (t : Tr) :
    ∀ (π : List (Nat × Bool)) (listed : Array Bool) (a : Act) (w : World), planU ops marks t π listed = true → closedL ops listed → S w → wpEagerU P ops S Q l t (planOps l π) a w → wpAnyG P ops Q S marks (π.length + t.deep) listed a w
  | [], listed, a, w, hp, _, _, h => by
    rw [List.length_nil, Nat.zero_add]
    simp only [planU, Bool.and_eq_true] at hp
    exact wpAnyG_of_late _ _ _ _ (fun j o ho hj => allLate_spec hp.1 ho hj) (wpAnyH_tree hl hs hQ t listed a w hp.2 trivial h)
  | (i, true) :: r, listed, a, w, hp, hcl, hS, h => by
    simp only [planU, Bool.and_eq_true] at hp
    obtain ⟨⟨⟨⟨h1, hmk⟩, h2⟩, h3⟩, h4⟩ := hp
    obtain ⟨o, ho⟩ := Option.isSome_iff_exists.1 h1
    have hn : nthO l i = some o := by rw [← nthO_eq, hl]; exact ho
    simp only [planOps, hn, wpEagerU] at h
    obtain ⟨v, hy, h⟩ := h
    rw [List.length_cons, Nat.add_right_comm]
    exact wpAnyG_take ho (by simpa using hmk) (Region.noSelect_spec hs) (fun c a w => hQ c a _ _ w) _ _ _ _ (Region.free_spec ho h2) (by simpa using h3) hcl hy hS (wpAnyG_planU hl hs hQ t r _ _ _ h4 (hcl.set (by simpa using h3)) hS h)
  | (i, false) :: r, listed, a, w, hp, hcl, hS, h => by
    simp only [planU, Bool.and_eq_true, beq_iff_eq] at hp
    obtain ⟨⟨h1, h2⟩, h4⟩ := hp
    obtain ⟨o, ho⟩ := Option.isSome_iff_exists.1 h1
    have hn : nthO l i = some o := by rw [← nthO_eq, hl]; exact ho
    simp only [planOps, hn, wpEagerU] at h
    rw [List.length_cons, Nat.add_right_comm]
    refine ⟨fun e => (by rw [h2] at e; cases e), fun j hj => ?_⟩
    rw [h2, List.mem_singleton] at hj
    subst hj
    unfold wpOp
    simp only [ho]
    split at h
    · rename_i hw
      rw [if_pos hw]
      exact .inl (Oper.wp_mono (fun a' w' ⟨h5, h6⟩ => ⟨fun _ => h5, wpAnyG_planU hl hs hQ t r _ _ _ h4 (hcl.set (by rw [h2]; exact List.mem_singleton.2 rfl)) h5 h6⟩) h)
    · rename_i hw
      rw [if_neg hw]
      exact ⟨fun _ => hS, wpAnyG_planU hl hs hQ t r _ _ _ h4 (hcl.set (by rw [h2]; exact List.mem_singleton.2 rfl)) hS h⟩
/-- the beginning -/
theorem wp_region_eager_u {id : Nat} {a : Act} {w : World} {l : List Oper} (S : World → Prop) (marks : List Nat) (π : List (Nat × Bool)) (t : Tr) (hm : P.follows .mixedOrders = true)
    (hp : (planU l.toArray marks t π (Array.replicate l.length false) && Region.noSelect l.toArray && π.length + t.deep == l.length) = true) (hS : S w.drew)
    (h : wpEagerU P l.toArray S (NoPanic Q) l t (planOps l π) a w.drew) : (Code.region id l.toArray true).wp P Q a w := by
  refine wp_region_noPanic ?_
  simp only [Bool.and_eq_true, beq_iff_eq] at hp
  obtain ⟨⟨h1, h2⟩, h3⟩ := hp
  have := wpAny_of_G _ _ _ _ (wpAnyG_planU (P := P) (Q := NoPanic Q) (S := S) (marks := marks) (l := l) rfl h2 (fun _ _ _ _ _ h => h) t π (Array.replicate l.length false) a w.drew h1 (fun j o _ hj => by rw [Array.getD_eq_getD_getElem?, Array.getElem?_replicate] at hj; split at hj <;> cases hj) hS h)
  refine wp_region_any hm ?_
  rw [h3] at this
  have hz : l.toArray.size = l.length := List.size_toArray ..
  rw [hz]
  exact this
/-- the next operation, written out -/
theorem eagerUOpen {l : List Oper} {t : Tr} {i : Nat} {b : Bool} {r : List (Nat × Bool)} {a : Act} {w : World} {o : Oper} (ho : nthO l i = some o)
    (h : wpEagerU P ops S Q l t ((o, b) :: planOps l r) a w) : wpEagerU P ops S Q l t (planOps l ((i, b) :: r)) a w := by
  unfold planOps; rw [ho]; exact h
theorem eagerUEnd {l : List Oper} {t : Tr} {a : Act} {w : World} (h : wpTree P ops (fun _ => True) Q l t a w) : wpEagerU P ops S Q l t (planOps l []) a w := h
theorem wpEagerU_take {l : List Oper} {t : Tr} {o : Oper} {r : List (Oper × Bool)} {a : Act} {w : World} {v : Value} (hw : Region.wanted o (yielded ops a.tmps) = true)
    (hy : ∀ w', S w' → (execOp a.eval o).run P w' = .ok (.value v) w') (h : wpEagerU P ops S Q l t r (a.put o.dst v) w) : wpEagerU P ops S Q l t ((o, true) :: r) a w := ⟨v, .inl ⟨hw, hy⟩, h⟩
theorem wpEagerU_skip {l : List Oper} {t : Tr} {o : Oper} {r : List (Oper × Bool)} {a : Act} {w : World} (hw : Region.wanted o (yielded ops a.tmps) = false)
    (h : wpEagerU P ops S Q l t r (a.put o.dst undef) w) : wpEagerU P ops S Q l t ((o, true) :: r) a w := ⟨undef, .inr ⟨hw, rfl⟩, h⟩
theorem wpEagerU_load {l : List Oper} {t : Tr} {op : Oper} {r : List (Oper × Bool)} {a : Act} {w : World} (hw : Region.wanted op (yielded ops a.tmps) = true) (ty : TypeId) (x : Operand) (ho : op.op = .load ty x)
    (b o : Nat) (hx : a.eval x = .pointer (some ⟨b, o, none⟩)) (M : Array Value) (d : TypeDesc) (hc : ∀ w', S w' → w'.rangeAt b o M.toList)
    (hu : P.underlying ty = some d) (hd : d.isRow = true) (hi : (P.info? ty).map (·.size) = some M.size)
    (h : wpEagerU P ops S Q l t r (a.put op.dst (.agg M)) w) : wpEagerU P ops S Q l t ((op, true) :: r) a w := by
  refine wpEagerU_take hw (fun w' hb => ?_) h
  unfold execOp
  simp only [ho, hx, Instr.loadAt, Instr.sureAddr, Sem.run_bind, Sem.run_pure, Result.andThen_ok, run_loadVar_mid w' b o ty M.toList d (hc w' hb) hu hd (by simpa using hi)]
theorem wpEagerU_op {l : List Oper} {t : Tr} {o : Oper} {r : List (Oper × Bool)} {a : Act} {w : World} (hw : Region.wanted o (yielded ops a.tmps) = true)
    (h : ∀ K : Act → World → Prop, Shut (∀ a w, S w → wpEagerU P ops S Q l t r a w → K a w) → Oper.wp P o a w K Q) : wpEagerU P ops S Q l t ((o, false) :: r) a w := by
  unfold wpEagerU; rw [if_pos hw]; exact h _ fun _ _ h1 h2 => ⟨h1, h2⟩
theorem eagerULoadAt {l : List Oper} {t : Tr} {r : List (Oper × Bool)} {a : Act} {w : World} (n : Nat) {d : Option Nat} {ty : TypeId} {t' : TypeId} {p : String} {af : Array Edge} {g : Option (Nat × Bool)} {b : Bool}
    (h : wpEagerU P ops S Q l t ((⟨d, .load ty (.tmp n), t', p, af, g⟩, b) :: r) a w) : wpEagerU P ops S Q l t ((⟨d, .load ty (.tmp n), t', p, af, g⟩, b) :: r) a w := h
end
end Go.Mir

namespace Go.Proofs.YtmphajilnkgcaaaGreatDoor.Rpl
open Go.RowKit Go.Mir Go.Mir.Hx Go.Mir.Parts

def rpA (r : RP) : Array Value := #[.int .i64 r.kind, .int .i64 r.err, .int .u32 (r.se : Int), .int .u32 (r.sq : Int), .int .u32 (r.qu : Int), .int .u32 (r.us : Int), .int .u32 (r.ex : Int)]
def zR : Array Value := rpA RP.zero
theorem zeroR (w : World) : (zeroValue 26).run Tryz.prog w = .ok (.agg zR) w := by kernel_rfl
theorem infoR (n : Nat) (h : n = 7) : (Tryz.prog.info? 26).map (·.size) = some n := by subst h; kernel_rfl
theorem rpA_one (r : RP) : (rpA r).all (·.oneCell') = true := by simp [rpA, Value.oneCell']
theorem built_r0 : Tryz.prog.built 26 [] = some zR := by kernel_rfl
theorem built_r2 (k e : Int) : Tryz.prog.built 26 [(0, .int .i64 k), (1, .int .i64 e)] = some (rpA ⟨k, e, 0, 0, 0, 0, 0⟩) := by kernel_rfl
theorem rp_cells {w : World} {g : Nat} {r : RP} {t : TypeId} {fr : Nat × Nat} (h : w.heap[g]? = some (.cells (rpA r) t fr)) :
    w.cell? ⟨g, 0, none⟩ = some (.int .i64 r.kind) ∧ w.cell? ⟨g, 1, none⟩ = some (.int .i64 r.err) ∧ w.cell? ⟨g, 2, none⟩ = some (.int .u32 (r.se : Int)) ∧ w.cell? ⟨g, 3, none⟩ = some (.int .u32 (r.sq : Int)) ∧ w.cell? ⟨g, 4, none⟩ = some (.int .u32 (r.qu : Int)) ∧ w.cell? ⟨g, 5, none⟩ = some (.int .u32 (r.us : Int)) ∧ w.cell? ⟨g, 6, none⟩ = some (.int .u32 (r.ex : Int)) := by
  refine ⟨?_, ?_, ?_, ?_, ?_, ?_, ?_⟩ <;> (rw [cell_of_row _ _ _ _ _ _ h]; rfl)
theorem built_r3 (k e : Int) : Tryz.prog.built 26 [(0, .int .i64 k), (1, .int .i64 e)] = some #[.int .i64 k, .int .i64 e, .int .u32 0, .int .u32 0, .int .u32 0, .int .u32 0, .int .u32 0] := by kernel_rfl
theorem wpList_build_g {P : Program} {w : World} {ops : Array Oper} {rest : List Oper} {o : Oper} {a : Act} {Q : Exit → Act → World → Prop} (hw : Region.wanted o (yielded ops a.tmps) = true) (t : TypeId) (parts : Array (Nat × Operand)) (ho : o.op = .build t parts)
    (vals : List (Nat × Value)) (hv : (parts.toList.map fun p => (p.1, a.eval p.2)) = vals) (cells : Array Value) (h : P.built t vals = some cells) (k : wpList P ops Q rest (a.put o.dst (.agg cells)) w) : wpList P ops Q (o :: rest) a w :=
  wpList_unguard hw (Rdr.wpList_build rfl t parts ho vals hv cells h k)
/-- the pointers to a reply's numbers -/
def ptrs (g : Nat) : Array Value := #[.pointer (some ⟨g, 2, none⟩), .pointer (some ⟨g, 3, none⟩), .pointer (some ⟨g, 4, none⟩), .pointer (some ⟨g, 5, none⟩), .pointer (some ⟨g, 6, none⟩)]
def zP : Array Value := (List.replicate 5 (Value.pointer none)).toArray
theorem zeroP (w : World) : (zeroValue 42).run Tryz.prog w = .ok (.agg zP) w := by kernel_rfl
theorem infoP (n : Nat) (h : n = 5) : (Tryz.prog.info? 42).map (·.size) = some n := by subst h; kernel_rfl
theorem ptrs_one (g : Nat) : (ptrs g).all (·.oneCell') = true := by simp [ptrs, Value.oneCell']
theorem built_ptrs (g : Nat) : Tryz.prog.built 42 [(0, .pointer (some ⟨g, 2, none⟩)), (1, .pointer (some ⟨g, 3, none⟩)), (2, .pointer (some ⟨g, 4, none⟩)), (3, .pointer (some ⟨g, 5, none⟩)), (4, .pointer (some ⟨g, 6, none⟩))] = some (ptrs g) := by kernel_rfl
set_option maxRecDepth 100000 in
set_option maxHeartbeats 1600000 in
theorem numbers_any (g : Nat) (w : World) : Calls Tryz.prog 15 #[.pointer (some ⟨g, 0, none⟩)] w fun e w' => e = .returned (.agg (ptrs g)) ∧ Below w.heap.size w w' := by
  have hz := zeroP
  have hb := Below.allocs w (.cells zP 42)
  have HR := Lib.hid (heap_alloc_last w (.cells zP 42))
  have HB := Lib.hid hb
  clear hb
  go_enter Tryz.func15, Tryz.ntmps15
  go_upto_region 1 with fail
  generalize w.alloc (.cells zP 42) = w1 at *
  refine wp_region_tree (fun _ => True) (.take 0 (.take 1 (.take 2 (.take 3 (.take 4 (.take 5 (.take 6 (.take 7 (.take 8 (.take 9 (.take 10 (.take 11 (.take 12 (.take 13 (.take 14 (.one 15 (.one 16 .nil))))))))))))))))) (by kernel_rfl) (by kernel_rfl) trivial ?_
  have hy0 : Below w1.heap.size w1 w1.drew := below_drew1 _ _
  have HR1 := Lib.hid (Below.keepOld hy0 HR.out)
  have HB1 := Lib.hid (HB.out.trans (hy0.mono HB.out.size))
  clear hy0 HR HB
  generalize w1.drew = w2 at *
  repeat (apply tree_take; (· rfl); (· rfl); (· (intro w' hb'; go_simp; try with_reducible rfl)); try simp only [Act.put, List.setIfInBounds_toArray, List.set_cons_zero, List.set_cons_succ])
  refine tree_one rfl (by rfl) (fun K hK => oper_of_list rfl ?_)
  refine Rdr.wpList_build rfl 42 _ rfl [(0, .pointer (some ⟨g, 2, none⟩)), (1, .pointer (some ⟨g, 3, none⟩)), (2, .pointer (some ⟨g, 4, none⟩)), (3, .pointer (some ⟨g, 5, none⟩)), (4, .pointer (some ⟨g, 6, none⟩))] rfl _ (built_ptrs g) ?_
  refine only_end (Shut.out hK _ _ trivial ?_)
  clear hK K
  try simp only [Act.put]
  refine tree_one rfl (by rfl) (fun K hK => oper_of_list rfl ?_)
  refine wpList_store_row rfl 42 _ _ rfl w.heap.size (ptrs g) rfl rfl 42 zP HR1.out (infoP _ rfl) rfl (ptrs_one g) ?_
  refine only_end (Shut.out hK _ _ trivial ?_)
  clear hK K
  try simp only [Act.put]
  refine tree_nil ?_
  go_wp2_with fail
  have HS := Lib.hid (setRow_heap _ _ _ (ptrs g) _ _ HR1.out)
  refine bodyPost_ret (results_cell_row rfl _ _ _ _ _ _ _ rfl HS.out Tryz.underlying42 rfl (infoP _ rfl)) rfl ?_
  exact ⟨rfl, below_setRow HB1.out (Nat.le_refl _) _⟩
set_option maxRecDepth 100000 in
set_option maxHeartbeats 1600000 in
theorem right_any (r : RP) (w : World) : Calls Tryz.prog 6 #[.agg (rpA r)] w fun e w' => e = .returned (.bool (decide r.right)) ∧ Below w.heap.size w w' := by
  have HB1 := Lib.hid (Below.allocs w (.cells (rpA r) 26))
  have HR := Lib.hid (heap_alloc_last w (.cells (rpA r) 26))
  obtain ⟨c0, c1, _⟩ := rp_cells HR.out
  by_cases k0 : r.kind < 0
  · have d0 : decide (r.kind < 0) = true := decide_eq_true k0
    have HQ : Hid (decide r.right = false) := decide_eq_false (fun h => by have := h.1.1; omega)
    clear k0
    go_enter Tryz.func6, Tryz.ntmps6
    go_wp2_with fail
    go_ret
    exact ⟨by rw [HQ.out]; rfl, HB1.out⟩
  have d0 : decide (r.kind < 0) = false := decide_eq_false k0
  by_cases k1 : 6 < r.kind
  · have d1 : decide ((6 : Int) < r.kind) = true := decide_eq_true k1
    have HQ : Hid (decide r.right = false) := decide_eq_false (fun h => by have := h.1.2.1; omega)
    clear k0 k1
    go_enter Tryz.func6, Tryz.ntmps6
    go_wp2_with fail
    go_ret
    exact ⟨by rw [HQ.out]; rfl, HB1.out⟩
  have d1 : decide ((6 : Int) < r.kind) = false := decide_eq_false k1
  by_cases e0 : r.err < 0
  · have d2 : decide (r.err < 0) = true := decide_eq_true e0
    have HQ : Hid (decide r.right = false) := decide_eq_false (fun h => by have := h.1.2.2.1; omega)
    clear k0 k1 e0
    go_enter Tryz.func6, Tryz.ntmps6
    go_wp2_with fail
    go_ret
    exact ⟨by rw [HQ.out]; rfl, HB1.out⟩
  have d2 : decide (r.err < 0) = false := decide_eq_false e0
  by_cases e1 : 20 < r.err
  · have d3 : decide ((20 : Int) < r.err) = true := decide_eq_true e1
    have HQ : Hid (decide r.right = false) := decide_eq_false (fun h => by have := h.1.2.2.2; omega)
    clear k0 k1 e0 e1
    go_enter Tryz.func6, Tryz.ntmps6
    go_wp2_with fail
    go_ret
    exact ⟨by rw [HQ.out]; rfl, HB1.out⟩
  have d3 : decide ((20 : Int) < r.err) = false := decide_eq_false e1
  have hk : r.kinds := ⟨by omega, by omega, by omega, by omega⟩
  by_cases z : r.err = 0
  · have d4 : (r.err == 0) = true := beq_iff_eq.2 z
    have HQ : Hid (decide r.right = true) := decide_eq_true ⟨hk, .inl z⟩
    clear k0 k1 e0 e1 z hk
    go_enter Tryz.func6, Tryz.ntmps6
    go_wp2_with fail
    go_ret
    exact ⟨by rw [HQ.out]; rfl, HB1.out⟩
  have d4 : (r.err == 0) = false := beq_eq_false_iff_ne.2 z
  obtain ⟨kind, err, se, sq, qu, us, ex⟩ := r
  dsimp only at c0 c1 k0 k1 e0 e1 d0 d1 d2 d3 d4 z
  have hz5 : ∀ (s q u v x : Nat), (⟨kind, err, s, q, u, v, x⟩ : RP).right ↔ (s = 0 ∧ q = 0 ∧ u = 0 ∧ v = 0 ∧ x = 0) := fun s q u v x => ⟨fun h => h.2.resolve_left z, fun h => ⟨⟨by show 0 ≤ kind; omega, by show kind ≤ 6; omega, by show 0 ≤ err; omega, by show err ≤ 20; omega⟩, .inr h⟩⟩
  have HZ5 := Lib.hid hz5
  unfold rpA at HB1 HR ⊢
  dsimp only at HB1 HR ⊢
  clear k0 k1 e0 e1 z hk hz5
  by_cases zse : se = 0
  rotate_left
  · have g2 : (se == 0) = false := beq_eq_false_iff_ne.2 zse
    have g3 : ((se : Int) == 0) = false := by rw [beq_eq_false_iff_ne]; omega
    have HQ : Hid (decide (⟨kind, err, se, sq, qu, us, ex⟩ : RP).right = false) := decide_eq_false (fun h => zse ((HZ5.out _ _ _ _ _).1 h).1)
    have CROW := HR
    clear zse HR
    skip
    go_enter Tryz.func6, Tryz.ntmps6
    go_upto_region 3 with fail
    go_wp2_with (first
      | refine wpList_load_row_g rfl 26 _ rfl w.heap.size rfl 26 _ (0, 0) _ CROW.out Tryz.underlying26 rfl (infoR _ rfl) ?_
      | refine wpList_build_g rfl 26 _ rfl [(0, .int .i64 kind), (1, .int .i64 err)] rfl _ (built_r3 kind err) ?_)
    go_ret
    exact ⟨by rw [HQ.out]; rfl, HB1.out⟩
  subst zse
  by_cases zsq : sq = 0
  rotate_left
  · have g2 : (sq == 0) = false := beq_eq_false_iff_ne.2 zsq
    have g3 : ((sq : Int) == 0) = false := by rw [beq_eq_false_iff_ne]; omega
    have HQ : Hid (decide (⟨kind, err, 0, sq, qu, us, ex⟩ : RP).right = false) := decide_eq_false (fun h => zsq ((HZ5.out _ _ _ _ _).1 h).2.1)
    have CROW := HR
    clear zsq HR
    skip
    go_enter Tryz.func6, Tryz.ntmps6
    go_upto_region 3 with fail
    go_wp2_with (first
      | refine wpList_load_row_g rfl 26 _ rfl w.heap.size rfl 26 _ (0, 0) _ CROW.out Tryz.underlying26 rfl (infoR _ rfl) ?_
      | refine wpList_build_g rfl 26 _ rfl [(0, .int .i64 kind), (1, .int .i64 err)] rfl _ (built_r3 kind err) ?_)
    go_ret
    exact ⟨by rw [HQ.out]; rfl, HB1.out⟩
  subst zsq
  by_cases zqu : qu = 0
  rotate_left
  · have g2 : (qu == 0) = false := beq_eq_false_iff_ne.2 zqu
    have g3 : ((qu : Int) == 0) = false := by rw [beq_eq_false_iff_ne]; omega
    have HQ : Hid (decide (⟨kind, err, 0, 0, qu, us, ex⟩ : RP).right = false) := decide_eq_false (fun h => zqu ((HZ5.out _ _ _ _ _).1 h).2.2.1)
    have CROW := HR
    clear zqu HR
    skip
    go_enter Tryz.func6, Tryz.ntmps6
    go_upto_region 3 with fail
    go_wp2_with (first
      | refine wpList_load_row_g rfl 26 _ rfl w.heap.size rfl 26 _ (0, 0) _ CROW.out Tryz.underlying26 rfl (infoR _ rfl) ?_
      | refine wpList_build_g rfl 26 _ rfl [(0, .int .i64 kind), (1, .int .i64 err)] rfl _ (built_r3 kind err) ?_)
    go_ret
    exact ⟨by rw [HQ.out]; rfl, HB1.out⟩
  subst zqu
  by_cases zus : us = 0
  rotate_left
  · have g2 : (us == 0) = false := beq_eq_false_iff_ne.2 zus
    have g3 : ((us : Int) == 0) = false := by rw [beq_eq_false_iff_ne]; omega
    have HQ : Hid (decide (⟨kind, err, 0, 0, 0, us, ex⟩ : RP).right = false) := decide_eq_false (fun h => zus ((HZ5.out _ _ _ _ _).1 h).2.2.2.1)
    have CROW := HR
    clear zus HR
    skip
    go_enter Tryz.func6, Tryz.ntmps6
    go_upto_region 3 with fail
    go_wp2_with (first
      | refine wpList_load_row_g rfl 26 _ rfl w.heap.size rfl 26 _ (0, 0) _ CROW.out Tryz.underlying26 rfl (infoR _ rfl) ?_
      | refine wpList_build_g rfl 26 _ rfl [(0, .int .i64 kind), (1, .int .i64 err)] rfl _ (built_r3 kind err) ?_)
    go_ret
    exact ⟨by rw [HQ.out]; rfl, HB1.out⟩
  subst zus
  by_cases zex : ex = 0
  rotate_left
  · have g2 : (ex == 0) = false := beq_eq_false_iff_ne.2 zex
    have g3 : ((ex : Int) == 0) = false := by rw [beq_eq_false_iff_ne]; omega
    have HQ : Hid (decide (⟨kind, err, 0, 0, 0, 0, ex⟩ : RP).right = false) := decide_eq_false (fun h => zex ((HZ5.out _ _ _ _ _).1 h).2.2.2.2)
    have CROW := HR
    clear zex HR
    skip
    go_enter Tryz.func6, Tryz.ntmps6
    go_upto_region 3 with fail
    go_wp2_with (first
      | refine wpList_load_row_g rfl 26 _ rfl w.heap.size rfl 26 _ (0, 0) _ CROW.out Tryz.underlying26 rfl (infoR _ rfl) ?_
      | refine wpList_build_g rfl 26 _ rfl [(0, .int .i64 kind), (1, .int .i64 err)] rfl _ (built_r3 kind err) ?_)
    go_ret
    exact ⟨by rw [HQ.out]; rfl, HB1.out⟩
  subst zex
  have HQ : Hid (decide (⟨kind, err, 0, 0, 0, 0, 0⟩ : RP).right = true) := decide_eq_true ((HZ5.out _ _ _ _ _).2 ⟨rfl, rfl, rfl, rfl, rfl⟩)
  have CROW := HR
  clear HR
  skip
  go_enter Tryz.func6, Tryz.ntmps6
  go_upto_region 3 with fail
  go_wp2_with (first
    | refine wpList_load_row_g rfl 26 _ rfl w.heap.size rfl 26 _ (0, 0) _ CROW.out Tryz.underlying26 rfl (infoR _ rfl) ?_
    | refine wpList_build_g rfl 26 _ rfl [(0, .int .i64 kind), (1, .int .i64 err)] rfl _ (built_r3 kind err) ?_)
  go_ret
  exact ⟨by rw [HQ.out]; rfl, HB1.out⟩
end Go.Proofs.YtmphajilnkgcaaaGreatDoor.Rpl

namespace Go.Proofs.YtmphajilnkgcaaaGreatDoor.Rpl
open Go.RowKit Go.Mir Go.Mir.Hx Go.Mir.Parts HexW

def cutS (p : Option Addr) (c k : Nat) : Option Addr := if c = k then p else p.map (·.add k)
theorem ws_drop {w : World} {p : Option Addr} {L c : Nat} {ls : List (List UInt8)} (h : Ws w p L c ls) (k : Nat) (hk : k ≤ L) : Ws w (cutS p c k) (L - k) (c - k) (ls.drop k) := by
  have hle := h.le
  have hmax := h.max
  have hl := h.length
  unfold cutS
  by_cases hc : c = k
  · have hm : L - k = 0 := by omega
    rw [if_pos hc, hm, hc, Nat.sub_self, List.drop_of_length_le (by omega)]
    exact ⟨by simp [strV], Nat.le_refl _, by omega, fun _ => rfl, fun a ha j u hu => by simp [strV] at hu⟩
  · rw [if_neg hc]
    refine ⟨by rw [strV_length, List.length_drop, Nat.mul_one]; omega, by omega, by omega, fun hq => ?_, fun a ha j u hu => ?_⟩
    · cases p with
      | none => have := h.nil0 rfl; omega
      | some a => cases hq
    · cases p with
      | none => cases ha
      | some a0 =>
        obtain rfl := Option.some.inj ha
        have h1 : (strV ls)[k + j]? = some u := by
          rw [strV, List.getElem?_map] at hu ⊢
          rw [List.getElem?_drop] at hu
          exact hu
        have hj : k + j < ls.length := by
          have := (List.getElem?_eq_some_iff.1 h1).1
          rwa [strV_length] at this
        obtain ⟨b, o, hbo⟩ := h.addr (by omega) (by omega)
        obtain rfl := Option.some.inj hbo
        have h2 := h.cell _ rfl (k + j) u h1
        rw [add_none] at h2
        show w.cell? (((⟨b, o, none⟩ : Addr).add k).add j) = some u
        rw [add_none, add_none, Nat.add_assoc]
        exact h2
theorem cutSR {w : World} {p : Option Addr} {L c : Nat} {ls : List (List UInt8)} (h : Ws w p L c ls) (k : Nat) (lo : Int) (hlo : lo = (k : Int)) (hk : k ≤ L) :
    ∀ w0, (Instr.sliceAt 48 (.slice p L c) (some (.int .i64 lo)) none none).run Tryz.prog w0 = .ok (.slice (cutS p c k) (L - k) (c - k)) w0 := by
  subst hlo
  have hle := h.le
  have hmax := h.max
  have hsz : (Tryz.prog.info? 9).map (·.size) = some 1 := by kernel_rfl
  obtain ⟨i, hi, hi1⟩ := Option.map_eq_some_iff.1 hsz
  intro w0
  have hb1 : (0 : Int) ≤ (L : Int) ∧ (L : Int) ≤ (c : Int) := by omega
  have hb3 : (0 : Int) ≤ (k : Int) ∧ (k : Int) ≤ (L : Int) := by omega
  simp [Instr.sliceAt, Instr.slice, cutS, run_underlying Tryz.underlying48, Instr.sliceBounds, Instr.sliceBound, asIntOf, sizeOf, typeInfo, hi, hi1, hb3]
  try omega
/-- one number more -/
theorem rp_push (k e : Int) (l : List Nat) (h : l.length < 5) (v : Nat) : (rpA (mkR k e l)).setIfInBounds (2 + l.length) (.int .u32 (v : Int)) = rpA (mkR k e (l ++ [v])) := by
  match l, h with
  | [], _ => rfl
  | [_], _ => rfl
  | [_, _], _ => rfl
  | [_, _, _], _ => rfl
  | [_, _, _, _], _ => rfl
theorem ptrs_get (g i : Nat) (h : i < 5) : (ptrs g)[i]? = some (.pointer (some ⟨g, 2 + i, none⟩)) := by
  match i, h with
  | 0, _ => rfl
  | 1, _ => rfl
  | 2, _ => rfl
  | 3, _ => rfl
  | 4, _ => rfl
theorem rp_num (r : RP) (i : Nat) (h : i < 5) : (rpA r)[2 + i]? = some (.int .u32 ((r.nums.getD i 0 : Nat) : Int)) := by
  match i, h with
  | 0, _ => rfl
  | 1, _ => rfl
  | 2, _ => rfl
  | 3, _ => rfl
  | 4, _ => rfl
/-- the numbers of the first words -/
def fst (ws : List (List UInt8)) (i : Nat) : List Nat := ((ws.drop 2).take i).map fun x => (numOf x 4294967295).1
theorem fst_succ (ws : List (List UInt8)) (i : Nat) (h : i < (ws.drop 2).length) : fst ws (i + 1) = fst ws i ++ [(numOf ((ws.drop 2)[i]) 4294967295).1] := by
  unfold fst
  rw [List.take_succ_eq_append_getElem h, List.map_append]
  rfl
theorem fst_len (ws : List (List UInt8)) (i : Nat) (h : i ≤ (ws.drop 2).length) : (fst ws i).length = i := by
  unfold fst
  rw [List.length_map, List.length_take]; omega
/-- the boxes of Parse -/
structure PS (w : World) (r : RP) (X : World) : Prop where
  r2 : X.heap[w.heap.size]? = some (.cells zR 26 (0, 0))
  r4 : X.heap[w.heap.size + 1]? = some (.cells (rpA r) 26 (0, 0))
  low : Below w.heap.size w X
theorem PS.next {w X Y : World} {r : RP} (h : PS w r X) (hb : Below X.heap.size X Y) : PS w r Y := ⟨Below.keepOld hb h.r2, Below.keepOld hb h.r4, h.low.trans (hb.mono h.low.size)⟩
def ParP (s : List UInt8) (w : World) (e : Ending) (w' : World) : Prop := e = .returned (.tuple #[.agg (rpA (parseB s).1), .int .i64 (parseB s).2]) ∧ Below w.heap.size w w'
set_option maxRecDepth 100000 in
set_option maxHeartbeats 6400000 in
theorem parse_any (s : List UInt8) (w : World) (hs : s.length < 4294967281) (hm : MaxL w) :
    Calls Tryz.prog 11 #[.string (S s)] w (ParP s w) := by
  have hz := zeroR
  obtain ⟨q1, q2, q3, q4⟩ := Go.Mir.two_allocs w (.cells zR 26) (.cells zR 26)
  have HPS0 : Hid (PS w RP.zero ((w.alloc (.cells zR 26)).alloc (.cells zR 26))) := ⟨q1, q2, q4⟩
  have HSZ := Lib.hid q3
  have HSP := Lib.hid (split_any s _ hs (hm.below q4))
  have hwl : ∀ x ∈ sp s, x.length ≤ s.length := fun x hx => sp_len s x hx
  clear q1 q2 q3 q4 hm
  go_enter Tryz.func11, Tryz.ntmps11
  go_upto_region 2 with fail
  generalize (w.alloc (.cells zR 26)).alloc (.cells zR 26) = w2 at *
  go_wp2_with fail
  refine HSP.out.mono ?_
  rintro e w3 ⟨rfl, hws, hb3⟩
  have HPS3 := Lib.hid (HPS0.out.next hb3)
  have HW3 := Lib.hid hws
  have HGW : Hid (w.heap.size + 2 ≤ w2.heap.size) := by show _ ≤ _; rw [HSZ.out]; exact Nat.le_refl _
  have HPAR : Hid (parseB s = parseW (sp s)) := rfl
  have hpos := sp_pos s
  have HWL : Hid (∀ x ∈ sp s, x.length ≤ 1099511627776) := fun x hx => by have := hwl x hx; omega
  clear hws hb3 HSP HPS0 hs HSZ hwl
  generalize sp s = ws at *
  generalize w2.heap.size = gw at *
  obtain ⟨n, hn⟩ : ∃ n, ws.length = n := ⟨_, rfl⟩
  rw [hn] at HW3 hpos ⊢
  have HN := Lib.hid hn
  have hn47 : n ≤ 9223372036854775807 := HW3.out.max
  have h0l : 0 < ws.length := by omega
  have HA : Hid (ws.getD 0 [] = ws[0]'h0l) := by show _ = _; rw [List.getD_eq_getElem?_getD, List.getElem?_eq_getElem h0l]; rfl
  have hc0 : w3.cell? ⟨gw, 0, none⟩ = some (.string (S (ws[0]'h0l))) := by have := Ws.str HW3.out h0l; rwa [Nat.zero_add] at this
  generalize ws[0]'h0l = a0 at *
  have HK := Lib.hid (kindOf_any a0 w3)
  have HNF : Hid (∀ (h : ¬ Fits ws), parseW ws = (RP.zero, 4)) := fun h => parse_not h
  clear hn
  generalize hO : ofB a0 K7 = O at *
  obtain ⟨kk, kok⟩ := O
  have HKO := Lib.hid hO
  go_wp2_with fail
  refine HK.out.mono ?_
  rintro e w4 ⟨rfl, hb4⟩
  have HPS4 := Lib.hid (HPS3.out.next hb4)
  have HW4 := Lib.hid (HW3.out.below hb4)
  clear hb4 HK HPS3 HW3 hc0 hO
  cases kok with
  | false =>
    have HBADQ : Hid (parseW ws = (RP.zero, 4)) := HNF.out (fun h => by have := h.k; rw [HA.out, HKO.out] at this; cases this)
    have HPS := HPS4
    go_upto_region 5 with fail
    skip
    -- the zero reply and the error 4 are told: world WX, HPS : Hid (PS w RP.zero WX) (x is as it was), HBADQ
    go_wp2_with (first
      | refine wpList_load_row rfl 26 _ rfl (w.heap.size + 1) rfl 26 zR (0, 0) _ HPS.out.r4 Tryz.underlying26 rfl (infoR _ rfl) ?_
      | refine Rdr.wpList_build rfl 26 _ rfl [] rfl _ built_r0 ?_
      | refine wpList_store_row rfl 26 _ _ rfl w.heap.size zR rfl rfl 26 zR HPS.out.r2 (infoR _ rfl) rfl (rpA_one _) ?_)
    have HS := Lib.hid (setRow_heap _ _ _ zR _ _ HPS.out.r2)
    refine bodyPost_ret (results_row_tmp rfl _ _ _ _ _ _ _ rfl HS.out Tryz.underlying26 rfl (infoR _ rfl)) rfl ?_
    unfold ParP
    rw [HPAR.out, HBADQ.out]
    exact ⟨rfl, below_setRow HPS.out.low (Nat.le_refl _) _⟩
  | true =>
    by_cases h2 : n < 2
    · have d1 : decide ((n : Int) < 2) = true := decide_eq_true (by omega)
      have d2 : decide (n < 2) = true := decide_eq_true h2
      have HBADQ : Hid (parseW ws = (RP.zero, 4)) := HNF.out (fun h => by have := h.two; rw [HN.out] at this; omega)
      have HPS := HPS4
      go_upto_region 5 with fail
      skip
      -- the zero reply and the error 4 are told: world WX, HPS : Hid (PS w RP.zero WX) (x is as it was), HBADQ
      go_wp2_with (first
        | refine wpList_load_row rfl 26 _ rfl (w.heap.size + 1) rfl 26 zR (0, 0) _ HPS.out.r4 Tryz.underlying26 rfl (infoR _ rfl) ?_
        | refine Rdr.wpList_build rfl 26 _ rfl [] rfl _ built_r0 ?_
        | refine wpList_store_row rfl 26 _ _ rfl w.heap.size zR rfl rfl 26 zR HPS.out.r2 (infoR _ rfl) rfl (rpA_one _) ?_)
      have HS := Lib.hid (setRow_heap _ _ _ zR _ _ HPS.out.r2)
      refine bodyPost_ret (results_row_tmp rfl _ _ _ _ _ _ _ rfl HS.out Tryz.underlying26 rfl (infoR _ rfl)) rfl ?_
      unfold ParP
      rw [HPAR.out, HBADQ.out]
      exact ⟨rfl, below_setRow HPS.out.low (Nat.le_refl _) _⟩
    have d1 : decide ((n : Int) < 2) = false := decide_eq_false (by omega)
    have d2 : decide (n < 2) = false := decide_eq_false h2
    have h1l : 1 < ws.length := by rw [HN.out]; omega
    have HA1 : Hid (ws.getD 1 [] = ws[1]'h1l) := by show _ = _; rw [List.getD_eq_getElem?_getD, List.getElem?_eq_getElem h1l]; rfl
    have hc1 : w4.cell? ⟨gw, 1, none⟩ = some (.string (S (ws[1]'h1l))) := by have := Ws.str HW4.out h1l; rwa [Nat.zero_add] at this
    generalize ws[1]'h1l = a1 at *
    have HK := Lib.hid (errOf_any a1 w4)
    generalize hO : ofB a1 E21 = O at *
    obtain ⟨ee, eok⟩ := O
    have HEO := Lib.hid hO
    have h1n : 1 < n := by omega
    go_upto_region 6 with fail
    go_wp2_with fail
    refine HK.out.mono ?_
    rintro e w5 ⟨rfl, hb5⟩
    have HPS5 := Lib.hid (HPS4.out.next hb5)
    have HW5 := Lib.hid (HW4.out.below hb5)
    clear hb5 HK HPS4 HW4 hc1 hO d1 d2
    cases eok with
    | false =>
      have HBADQ : Hid (parseW ws = (RP.zero, 4)) := HNF.out (fun h => by have := h.e; rw [HA1.out, HEO.out] at this; cases this)
      have HPS := HPS5
      go_upto_region 11 with fail
      skip
      -- the zero reply and the error 4 are told: world WX, HPS : Hid (PS w RP.zero WX) (x is as it was), HBADQ
      go_wp2_with (first
        | refine wpList_load_row rfl 26 _ rfl (w.heap.size + 1) rfl 26 zR (0, 0) _ HPS.out.r4 Tryz.underlying26 rfl (infoR _ rfl) ?_
        | refine Rdr.wpList_build rfl 26 _ rfl [] rfl _ built_r0 ?_
        | refine wpList_store_row rfl 26 _ _ rfl w.heap.size zR rfl rfl 26 zR HPS.out.r2 (infoR _ rfl) rfl (rpA_one _) ?_)
      have HS := Lib.hid (setRow_heap _ _ _ zR _ _ HPS.out.r2)
      refine bodyPost_ret (results_row_tmp rfl _ _ _ _ _ _ _ rfl HS.out Tryz.underlying26 rfl (infoR _ rfl)) rfl ?_
      unfold ParP
      rw [HPAR.out, HBADQ.out]
      exact ⟨rfl, below_setRow HPS.out.low (Nat.le_refl _) _⟩
    | true =>
      obtain ⟨wn, hwn⟩ : ∃ wn : Nat, (if ee = 0 then 7 else 2) = wn := ⟨_, rfl⟩
      have HWN : Hid (n = wn → Fits ws) := fun h => ⟨by rw [HA.out, HKO.out], by rw [HN.out]; omega, by rw [HA1.out, HEO.out], by rw [HN.out, HA1.out, HEO.out, hwn]; exact h⟩
      have HNF2 : Hid (¬ n = wn → parseW ws = (RP.zero, 4)) := fun h => HNF.out (fun hf => by have := hf.len; rw [HN.out, HA1.out, HEO.out, hwn] at this; exact h this)
      have HPF : Hid (n = wn → parseW ws = finR (kk : Int) (ee : Int) (numsB (ws.drop 2))) := fun h => by
        rw [parse_fits (HWN.out h), HA.out, HKO.out, HA1.out, HEO.out]
      have HEL : Hid (ee < 21) := by have := ofB_lt (s := a1) (ls := E21) (by rw [HEO.out]); rw [HEO.out] at this; exact this
      have HW27 : Hid (wn = 2 ∨ wn = 7) := by show _ ∨ _; rw [← hwn]; split; exact .inr rfl; exact .inl rfl
      clear HNF HA HA1 HKO
      by_cases he0 : ee = 0
      · have e1 : ((ee : Int) == 0) = true := by rw [he0]; rfl
        rw [if_pos he0] at hwn
        subst hwn
        clear he0
        go_upto_region 10 with fail
        skip
        -- from region 10 on: world w5, HPS5, HW5; want = 7
        by_cases hnw : n = 7
        rotate_left
        · have q1 : ((n : Int) != 7) = true := by rw [bne_iff_ne]; omega
          have q2 : (n != 7) = true := bne_iff_ne.2 hnw
          have HBADQ : Hid (parseW ws = (RP.zero, 4)) := HNF2.out hnw
          have HPS := HPS5
          clear hnw e1
          go_upto_region 11 with fail
          skip
          -- the zero reply and the error 4 are told: world WX, HPS : Hid (PS w RP.zero WX) (x is as it was), HBADQ
          go_wp2_with (first
            | refine wpList_load_row rfl 26 _ rfl (w.heap.size + 1) rfl 26 zR (0, 0) _ HPS.out.r4 Tryz.underlying26 rfl (infoR _ rfl) ?_
            | refine Rdr.wpList_build rfl 26 _ rfl [] rfl _ built_r0 ?_
            | refine wpList_store_row rfl 26 _ _ rfl w.heap.size zR rfl rfl 26 zR HPS.out.r2 (infoR _ rfl) rfl (rpA_one _) ?_)
          have HS := Lib.hid (setRow_heap _ _ _ zR _ _ HPS.out.r2)
          refine bodyPost_ret (results_row_tmp rfl _ _ _ _ _ _ _ rfl HS.out Tryz.underlying26 rfl (infoR _ rfl)) rfl ?_
          unfold ParP
          rw [HPAR.out, HBADQ.out]
          exact ⟨rfl, below_setRow HPS.out.low (Nat.le_refl _) _⟩
        have q1 : ((n : Int) != 7) = false := by rw [bne_eq_false_iff_eq]; omega
        have q2 : (n != 7) = false := by rw [bne_eq_false_iff_eq]; exact hnw
        have HPW := Lib.hid (HPF.out hnw)
        have HNE : Hid (n = 7) := hnw
        clear hnw e1 HNF2 HPF HWN
        obtain ⟨c0, c1, _⟩ := rp_cells HPS5.out.r4
        have hfz : ∀ j, w5.frozen? ⟨w.heap.size + 1, j, none⟩ = false := fun j => frozen_of_row _ _ j _ _ HPS5.out.r4
        go_upto_region 13 with fail
        clear c0 c1 hfz q1 q2
        have hT1 : Turns (fun k => k = w.heap.size + 1) w5 ((w5.setCell ⟨w.heap.size + 1, 0, none⟩ (.int .i64 (kk : Int))).setCell ⟨w.heap.size + 1, 1, none⟩ (.int .i64 (ee : Int))) := ((Turns.refl (fun k => k = w.heap.size + 1) w5).setCell (p := ⟨w.heap.size + 1, 0, none⟩) (fun _ => rfl) _).setCell (p := ⟨w.heap.size + 1, 1, none⟩) (fun _ => rfl) _
        have hr4 : ((w5.setCell ⟨w.heap.size + 1, 0, none⟩ (.int .i64 (kk : Int))).setCell ⟨w.heap.size + 1, 1, none⟩ (.int .i64 (ee : Int))).heap[w.heap.size + 1]? = some (.cells (rpA (mkR (kk : Int) (ee : Int) [])) 26 (0, 0)) := by
          rw [heap_setCell_same _ _ _ _ _ _ (heap_setCell_same _ _ _ _ _ _ HPS5.out.r4)]
          rfl
        have HPS6 : Hid (PS w (mkR (kk : Int) (ee : Int) []) ((w5.setCell ⟨w.heap.size + 1, 0, none⟩ (.int .i64 (kk : Int))).setCell ⟨w.heap.size + 1, 1, none⟩ (.int .i64 (ee : Int)))) := ⟨hT1.keep HPS5.out.r2 (by omega), hr4, HPS5.out.low.trans (hT1.below HPS5.out.low.size (fun k hk => by have hk : k = w.heap.size + 1 := hk; omega))⟩
        have HW6 : Hid (Ws ((w5.setCell ⟨w.heap.size + 1, 0, none⟩ (.int .i64 (kk : Int))).setCell ⟨w.heap.size + 1, 1, none⟩ (.int .i64 (ee : Int))) (some ⟨gw, 0, none⟩) n n ws) := Sl.touch HW5.out hT1 (fun a ha _ hk => by
          obtain rfl := Option.some.inj ha
          have hk : gw = w.heap.size + 1 := hk
          have := HGW.out
          omega)
        clear hT1 hr4 HPS5 HW5
        generalize (w5.setCell ⟨w.heap.size + 1, 0, none⟩ (.int .i64 (kk : Int))).setCell ⟨w.heap.size + 1, 1, none⟩ (.int .i64 (ee : Int)) = w6 at *
        have hz5 := zeroP
        go_wp2_with fail
        refine (numbers_any (w.heap.size + 1) w6).mono ?_
        rintro e w7 ⟨rfl, hb7⟩
        have hps7 := HPS6.out.next hb7
        have hw7 := HW6.out.below hb7
        clear HPS6 HW6 hb7
        go_upto_region 14 with (refine wpList_store_row rfl 42 _ _ rfl w7.heap.size (ptrs (w.heap.size + 1)) rfl rfl 42 zP (heap_alloc_last _ _) (infoP _ rfl) rfl (ptrs_one _) ?_)
        try simp only [Act.put]
        have hb8 : Below w7.heap.size w7 ((w7.alloc (.cells zP 42)).setRow w7.heap.size (ptrs (w.heap.size + 1))) := below_setRow (Below.allocs w7 _) (Nat.le_refl _) _
        have HRP := Lib.hid (setRow_heap _ _ _ (ptrs (w.heap.size + 1)) _ _ (heap_alloc_last w7 (.cells zP 42)))
        have HPS8 := Lib.hid (hps7.next hb8)
        have HW8 := Lib.hid (hw7.below hb8)
        have HG10 : Hid (w.heap.size + 2 ≤ w7.heap.size) := by
          have h1 : w.heap.size + 1 < w7.heap.size := (Array.getElem?_eq_some_iff.1 hps7.r4).1
          exact h1
        clear hps7 hw7 hb8 hz5
        generalize (w7.alloc (.cells zP 42)).setRow w7.heap.size (ptrs (w.heap.size + 1)) = w8 at *
        generalize w7.heap.size = g10 at *
        have hcut := cutSR HW8.out 2 2 rfl (by omega)
        have HD8 := Lib.hid (ws_drop HW8.out 2 (by omega))
        have hdl : (ws.drop 2).length = n - 2 := by rw [List.length_drop, HN.out]
        have HDL := Lib.hid hdl
        have HDM : Hid (∀ x ∈ ws.drop 2, x.length ≤ 1099511627776) := fun x hx => HWL.out x (List.mem_of_mem_drop hx)
        have hn2 : n - 2 ≤ 5 := by have := HNE.out; omega
        have hn22 : 2 ≤ n := by omega
        obtain ⟨m, hm⟩ : ∃ m, n - 2 = m := ⟨_, rfl⟩
        rw [hm] at hcut HD8 hn2 HDL
        have HM := Lib.hid hm
        clear hdl hm HW8
        have HGB : Hid (∀ b o, cutS (some ⟨gw, 0, none⟩) n 2 = some ⟨b, o, none⟩ → w.heap.size + 2 ≤ b) := fun b o h => by
          have h1 := HGW.out
          unfold cutS at h
          split at h
          · cases h; exact h1
          · rw [Option.map_some, add_none] at h
            cases h; exact h1
        generalize cutS (some ⟨gw, 0, none⟩) n 2 = pd at *
        have hmax8 := HD8.out.max
        have hle8 := HD8.out.le
        go_wp2_with fail
        clear hcut
        go_loopw [63] (fun j wr => ∃ i : Nat, i ≤ m ∧ j = .int .i64 i ∧ PS w (mkR (kk : Int) (ee : Int) (fst ws i)) wr ∧ Ws wr pd m (n - 2) (ws.drop 2) ∧ wr.heap[g10]? = some (.cells (ptrs (w.heap.size + 1)) 42 (0, 0)) ∧ (∀ q x, q < i → (ws.drop 2)[q]? = some x → (numOf x 4294967295).2 = 0)) (fun j _ => m - (intOf j).toNat)
        case atStart => exact ⟨0, by omega, rfl, HPS8.out, by (have := HD8.out; rwa [HM.out] at *), HRP.out, fun q x hq _ => absurd hq (Nat.not_lt_zero _)⟩
        case round =>
          clear HPS8 HD8 HRP
          obtain ⟨i, hi, rfl, hps, hwd, hrp, hok⟩ := hrel
          have HPX := Lib.hid hps
          have HWD := Lib.hid hwd
          have HRP := Lib.hid hrp
          have HOK := Lib.hid hok
          clear hps hwd hrp hok
          by_cases hlt : i < m
          · have hdi : decide ((i : Int) < (m : Int)) = true := decide_eq_true (by omega)
            have hdi2 : decide (i < m) = true := decide_eq_true hlt
            have hil : i < (ws.drop 2).length := by rw [HDL.out]; exact hlt
            obtain ⟨b, o, hbo⟩ := HWD.out.addr (by omega) (by omega)
            subst hbo
            have hcx := Ws.str HWD.out hil
            have HGE : Hid ((ws.drop 2)[i]? = some ((ws.drop 2)[i]'hil)) := List.getElem?_eq_getElem hil
            have HMEM : Hid ((ws.drop 2)[i]'hil ∈ ws.drop 2) := List.getElem_mem hil
            have HFS := Lib.hid (fst_succ ws i hil)
            have HFL := Lib.hid (fst_len ws i (by omega))
            generalize (ws.drop 2)[i]'hil = x at *
            have hnum := numOf_any x 4294967295 wr (HDM.out x HMEM.out) (by omega)
            unfold NumP at hnum
            have HLT : Hid ((numOf x 4294967295).2 = 0 → (numOf x 4294967295).1 < 4294967296) := fun h => by have := (numOf_back h).2; omega
            generalize hNO : numOf x 4294967295 = NO at *
            obtain ⟨v, er⟩ := NO
            have HNO := Lib.hid hNO
            have HNUM := Lib.hid hnum
            clear hnum hNO hil
            go_wp2_with fail
            refine HNUM.out.mono ?_
            rintro e w9 ⟨rfl, hb9⟩
            have HP9 := Lib.hid (HPX.out.next hb9)
            have HW9 := Lib.hid (HWD.out.below hb9)
            have HR9 := Lib.hid (Below.keepOld hb9 HRP.out)
            clear hb9 HNUM HPX HWD HRP hcx
            by_cases her : er = 0
            · have q1 : (er != 0) = false := by rw [bne_eq_false_iff_eq]; exact her
              have hv := HLT.out her
              have hv : v < 4294967296 := hv
              have hwrap : IntKind.u32.wrap (v : Int) = (v : Int) := by rw [IntKind.wrap_u32]; omega
              have hi5 : i < 5 := by omega
              have hcp : w9.cell? ⟨g10, i, none⟩ = some (.pointer (some ⟨w.heap.size + 1, 2 + i, none⟩)) := by rw [cell_of_row _ _ _ _ _ _ HR9.out]; exact ptrs_get _ i hi5
              have hco : w9.cell? ⟨w.heap.size + 1, 2 + i, none⟩ = some (.int .u32 (((mkR (kk : Int) (ee : Int) (fst ws i)).nums.getD i 0 : Nat) : Int)) := by rw [cell_of_row _ _ _ _ _ _ HP9.out.r4]; exact rp_num _ i hi5
              have hfz : ∀ j, w9.frozen? ⟨w.heap.size + 1, j, none⟩ = false := fun j => frozen_of_row _ _ j _ _ HP9.out.r4
              generalize (mkR (kk : Int) (ee : Int) (fst ws i)).nums.getD i 0 = old at *
              have hT1 : Turns (fun k => k = w.heap.size + 1) w9 (w9.setCell ⟨w.heap.size + 1, 2 + i, none⟩ (.int .u32 (v : Int))) := (Turns.refl (fun k => k = w.heap.size + 1) w9).setCell (p := ⟨w.heap.size + 1, 2 + i, none⟩) (fun _ => rfl) _
              have hr4 : (w9.setCell ⟨w.heap.size + 1, 2 + i, none⟩ (.int .u32 (v : Int))).heap[w.heap.size + 1]? = some (.cells (rpA (mkR (kk : Int) (ee : Int) (fst ws (i + 1)))) 26 (0, 0)) := by
                rw [heap_setCell_same _ _ _ _ _ _ HP9.out.r4, HFS.out]
                have := rp_push (kk : Int) (ee : Int) (fst ws i) (by rw [HFL.out]; exact hi5) v
                rw [HFL.out] at this
                rw [this]
              have HP10 : Hid (PS w (mkR (kk : Int) (ee : Int) (fst ws (i + 1))) (w9.setCell ⟨w.heap.size + 1, 2 + i, none⟩ (.int .u32 (v : Int)))) := ⟨hT1.keep HP9.out.r2 (by omega), hr4, HP9.out.low.trans (hT1.below HP9.out.low.size (fun k hk => by have hk : k = w.heap.size + 1 := hk; omega))⟩
              have HW10 : Hid (Ws (w9.setCell ⟨w.heap.size + 1, 2 + i, none⟩ (.int .u32 (v : Int))) (some ⟨b, o, none⟩) m (n - 2) (ws.drop 2)) := Sl.touch HW9.out hT1 (fun a ha _ hk => by
                obtain rfl := Option.some.inj ha
                have hk : b = w.heap.size + 1 := hk
                have := HGB.out b o rfl
                omega)
              have HR10 := Lib.hid (hT1.keep HR9.out (by have := HG10.out; omega))
              have HOK2 : Hid (∀ q y, q < i + 1 → (ws.drop 2)[q]? = some y → (numOf y 4294967295).2 = 0) := fun q y hq hy => by
                by_cases hqi : q = i
                · subst hqi
                  rw [HGE.out] at hy
                  obtain rfl := Option.some.inj hy
                  rw [HNO.out]; exact her
                · exact HOK.out q y (by omega) hy
              clear hv hT1 hr4 HP9 HW9 HR9 her HLT
              go_wp2_with fail
              go_roundw
              case rel => exact ⟨i + 1, by omega, by go_num, HP10.out, HW10.out, HR10.out, HOK2.out⟩
              case measure => simp [intOf]; omega
            · have q1 : (er != 0) = true := bne_iff_ne.2 her
              have HBADQ : Hid (parseW ws = (RP.zero, 4)) := by
                show _ = _
                rw [HPW.out]
                have hnone : numsB (ws.drop 2) = none := if_neg (fun h => her (by have := h x HMEM.out; rw [HNO.out] at this; exact this))
                rw [hnone]; rfl
              have HPS := HP9
              clear her HLT HW9 HR9
              go_upto_region 19 with fail
              skip
              -- the zero reply and the error 4 are told: world WX, HPS : Hid (PS w RP.zero WX) (x is as it was), HBADQ
              go_wp2_with (first
                | refine wpList_load_row rfl 26 _ rfl (w.heap.size + 1) rfl 26 zR (0, 0) _ HPS.out.r4 Tryz.underlying26 rfl (infoR _ rfl) ?_
                | refine Rdr.wpList_build rfl 26 _ rfl [] rfl _ built_r0 ?_
                | refine wpList_store_row rfl 26 _ _ rfl w.heap.size zR rfl rfl 26 zR HPS.out.r2 (infoR _ rfl) rfl (rpA_one _) ?_)
              have HS := Lib.hid (setRow_heap _ _ _ zR _ _ HPS.out.r2)
              refine bodyPost_ret (results_row_tmp rfl _ _ _ _ _ _ _ rfl HS.out Tryz.underlying26 rfl (infoR _ rfl)) rfl ?_
              unfold ParP
              rw [HPAR.out, HBADQ.out]
              exact ⟨rfl, below_setRow HPS.out.low (Nat.le_refl _) _⟩
          · obtain rfl : i = m := by omega
            have hdi : decide ((i : Int) < (i : Int)) = false := decide_eq_false (by omega)
            have hdi2 : decide (i < i) = false := decide_eq_false hlt
            have HEND : Hid (parseW ws = (mkR (kk : Int) (ee : Int) (fst ws i), 0)) := by
              show _ = _
              have htk : (ws.drop 2).take i = ws.drop 2 := List.take_of_length_le (by rw [HDL.out]; exact Nat.le_refl _)
              have hsome : numsB (ws.drop 2) = some (fst ws i) := by
                unfold numsB fst
                rw [if_pos (fun x hx => by
                  obtain ⟨q, hq, hqx⟩ := List.mem_iff_getElem.1 hx
                  exact HOK.out q x (by rw [HDL.out] at hq; exact hq) (by rw [← hqx]; exact List.getElem?_eq_getElem hq)), htk]
              rw [HPW.out, hsome]; rfl
            generalize mkR (kk : Int) (ee : Int) (fst ws i) = R at *
            go_upto_region 22 with fail
            go_wp2_with (first
              | refine wpList_load_row rfl 26 _ rfl (w.heap.size + 1) rfl 26 (rpA R) (0, 0) _ HPX.out.r4 Tryz.underlying26 rfl (infoR _ rfl) ?_
              | refine wpList_store_row rfl 26 _ _ rfl w.heap.size (rpA R) rfl rfl 26 zR HPX.out.r2 (infoR _ rfl) rfl (rpA_one _) ?_)
            have HS := Lib.hid (setRow_heap _ _ _ (rpA R) _ _ HPX.out.r2)
            refine bodyPost_ret (results_row_tmp rfl _ _ _ _ _ _ _ rfl HS.out Tryz.underlying26 rfl (infoR _ rfl)) rfl ?_
            unfold ParP
            rw [HPAR.out, HEND.out]
            exact ⟨rfl, below_setRow HPX.out.low (Nat.le_refl _) _⟩
      · have e1 : ((ee : Int) == 0) = false := by rw [beq_eq_false_iff_ne]; omega
        rw [if_neg he0] at hwn
        subst hwn
        clear he0
        go_upto_region 10 with fail
        skip
        -- from region 10 on: world w5, HPS5, HW5; want = 2
        by_cases hnw : n = 2
        rotate_left
        · have q1 : ((n : Int) != 2) = true := by rw [bne_iff_ne]; omega
          have q2 : (n != 2) = true := bne_iff_ne.2 hnw
          have HBADQ : Hid (parseW ws = (RP.zero, 4)) := HNF2.out hnw
          have HPS := HPS5
          clear hnw e1
          go_upto_region 11 with fail
          skip
          -- the zero reply and the error 4 are told: world WX, HPS : Hid (PS w RP.zero WX) (x is as it was), HBADQ
          go_wp2_with (first
            | refine wpList_load_row rfl 26 _ rfl (w.heap.size + 1) rfl 26 zR (0, 0) _ HPS.out.r4 Tryz.underlying26 rfl (infoR _ rfl) ?_
            | refine Rdr.wpList_build rfl 26 _ rfl [] rfl _ built_r0 ?_
            | refine wpList_store_row rfl 26 _ _ rfl w.heap.size zR rfl rfl 26 zR HPS.out.r2 (infoR _ rfl) rfl (rpA_one _) ?_)
          have HS := Lib.hid (setRow_heap _ _ _ zR _ _ HPS.out.r2)
          refine bodyPost_ret (results_row_tmp rfl _ _ _ _ _ _ _ rfl HS.out Tryz.underlying26 rfl (infoR _ rfl)) rfl ?_
          unfold ParP
          rw [HPAR.out, HBADQ.out]
          exact ⟨rfl, below_setRow HPS.out.low (Nat.le_refl _) _⟩
        have q1 : ((n : Int) != 2) = false := by rw [bne_eq_false_iff_eq]; omega
        have q2 : (n != 2) = false := by rw [bne_eq_false_iff_eq]; exact hnw
        have HPW := Lib.hid (HPF.out hnw)
        have HNE : Hid (n = 2) := hnw
        clear hnw e1 HNF2 HPF HWN
        obtain ⟨c0, c1, _⟩ := rp_cells HPS5.out.r4
        have hfz : ∀ j, w5.frozen? ⟨w.heap.size + 1, j, none⟩ = false := fun j => frozen_of_row _ _ j _ _ HPS5.out.r4
        go_upto_region 13 with fail
        clear c0 c1 hfz q1 q2
        have hT1 : Turns (fun k => k = w.heap.size + 1) w5 ((w5.setCell ⟨w.heap.size + 1, 0, none⟩ (.int .i64 (kk : Int))).setCell ⟨w.heap.size + 1, 1, none⟩ (.int .i64 (ee : Int))) := ((Turns.refl (fun k => k = w.heap.size + 1) w5).setCell (p := ⟨w.heap.size + 1, 0, none⟩) (fun _ => rfl) _).setCell (p := ⟨w.heap.size + 1, 1, none⟩) (fun _ => rfl) _
        have hr4 : ((w5.setCell ⟨w.heap.size + 1, 0, none⟩ (.int .i64 (kk : Int))).setCell ⟨w.heap.size + 1, 1, none⟩ (.int .i64 (ee : Int))).heap[w.heap.size + 1]? = some (.cells (rpA (mkR (kk : Int) (ee : Int) [])) 26 (0, 0)) := by
          rw [heap_setCell_same _ _ _ _ _ _ (heap_setCell_same _ _ _ _ _ _ HPS5.out.r4)]
          rfl
        have HPS6 : Hid (PS w (mkR (kk : Int) (ee : Int) []) ((w5.setCell ⟨w.heap.size + 1, 0, none⟩ (.int .i64 (kk : Int))).setCell ⟨w.heap.size + 1, 1, none⟩ (.int .i64 (ee : Int)))) := ⟨hT1.keep HPS5.out.r2 (by omega), hr4, HPS5.out.low.trans (hT1.below HPS5.out.low.size (fun k hk => by have hk : k = w.heap.size + 1 := hk; omega))⟩
        have HW6 : Hid (Ws ((w5.setCell ⟨w.heap.size + 1, 0, none⟩ (.int .i64 (kk : Int))).setCell ⟨w.heap.size + 1, 1, none⟩ (.int .i64 (ee : Int))) (some ⟨gw, 0, none⟩) n n ws) := Sl.touch HW5.out hT1 (fun a ha _ hk => by
          obtain rfl := Option.some.inj ha
          have hk : gw = w.heap.size + 1 := hk
          have := HGW.out
          omega)
        clear hT1 hr4 HPS5 HW5
        generalize (w5.setCell ⟨w.heap.size + 1, 0, none⟩ (.int .i64 (kk : Int))).setCell ⟨w.heap.size + 1, 1, none⟩ (.int .i64 (ee : Int)) = w6 at *
        have hz5 := zeroP
        go_wp2_with fail
        refine (numbers_any (w.heap.size + 1) w6).mono ?_
        rintro e w7 ⟨rfl, hb7⟩
        have hps7 := HPS6.out.next hb7
        have hw7 := HW6.out.below hb7
        clear HPS6 HW6 hb7
        go_upto_region 14 with (refine wpList_store_row rfl 42 _ _ rfl w7.heap.size (ptrs (w.heap.size + 1)) rfl rfl 42 zP (heap_alloc_last _ _) (infoP _ rfl) rfl (ptrs_one _) ?_)
        try simp only [Act.put]
        have hb8 : Below w7.heap.size w7 ((w7.alloc (.cells zP 42)).setRow w7.heap.size (ptrs (w.heap.size + 1))) := below_setRow (Below.allocs w7 _) (Nat.le_refl _) _
        have HRP := Lib.hid (setRow_heap _ _ _ (ptrs (w.heap.size + 1)) _ _ (heap_alloc_last w7 (.cells zP 42)))
        have HPS8 := Lib.hid (hps7.next hb8)
        have HW8 := Lib.hid (hw7.below hb8)
        have HG10 : Hid (w.heap.size + 2 ≤ w7.heap.size) := by
          have h1 : w.heap.size + 1 < w7.heap.size := (Array.getElem?_eq_some_iff.1 hps7.r4).1
          exact h1
        clear hps7 hw7 hb8 hz5
        generalize (w7.alloc (.cells zP 42)).setRow w7.heap.size (ptrs (w.heap.size + 1)) = w8 at *
        generalize w7.heap.size = g10 at *
        have hcut := cutSR HW8.out 2 2 rfl (by omega)
        have HD8 := Lib.hid (ws_drop HW8.out 2 (by omega))
        have hdl : (ws.drop 2).length = n - 2 := by rw [List.length_drop, HN.out]
        have HDL := Lib.hid hdl
        have HDM : Hid (∀ x ∈ ws.drop 2, x.length ≤ 1099511627776) := fun x hx => HWL.out x (List.mem_of_mem_drop hx)
        have hn2 : n - 2 ≤ 5 := by have := HNE.out; omega
        have hn22 : 2 ≤ n := by omega
        obtain ⟨m, hm⟩ : ∃ m, n - 2 = m := ⟨_, rfl⟩
        rw [hm] at hcut HD8 hn2 HDL
        have HM := Lib.hid hm
        clear hdl hm HW8
        have HGB : Hid (∀ b o, cutS (some ⟨gw, 0, none⟩) n 2 = some ⟨b, o, none⟩ → w.heap.size + 2 ≤ b) := fun b o h => by
          have h1 := HGW.out
          unfold cutS at h
          split at h
          · cases h; exact h1
          · rw [Option.map_some, add_none] at h
            cases h; exact h1
        generalize cutS (some ⟨gw, 0, none⟩) n 2 = pd at *
        have hmax8 := HD8.out.max
        have hle8 := HD8.out.le
        go_wp2_with fail
        clear hcut
        go_loopw [63] (fun j wr => ∃ i : Nat, i ≤ m ∧ j = .int .i64 i ∧ PS w (mkR (kk : Int) (ee : Int) (fst ws i)) wr ∧ Ws wr pd m (n - 2) (ws.drop 2) ∧ wr.heap[g10]? = some (.cells (ptrs (w.heap.size + 1)) 42 (0, 0)) ∧ (∀ q x, q < i → (ws.drop 2)[q]? = some x → (numOf x 4294967295).2 = 0)) (fun j _ => m - (intOf j).toNat)
        case atStart => exact ⟨0, by omega, rfl, HPS8.out, by (have := HD8.out; rwa [HM.out] at *), HRP.out, fun q x hq _ => absurd hq (Nat.not_lt_zero _)⟩
        case round =>
          clear HPS8 HD8 HRP
          obtain ⟨i, hi, rfl, hps, hwd, hrp, hok⟩ := hrel
          have HPX := Lib.hid hps
          have HWD := Lib.hid hwd
          have HRP := Lib.hid hrp
          have HOK := Lib.hid hok
          clear hps hwd hrp hok
          by_cases hlt : i < m
          · have hdi : decide ((i : Int) < (m : Int)) = true := decide_eq_true (by omega)
            have hdi2 : decide (i < m) = true := decide_eq_true hlt
            have hil : i < (ws.drop 2).length := by rw [HDL.out]; exact hlt
            obtain ⟨b, o, hbo⟩ := HWD.out.addr (by omega) (by omega)
            subst hbo
            have hcx := Ws.str HWD.out hil
            have HGE : Hid ((ws.drop 2)[i]? = some ((ws.drop 2)[i]'hil)) := List.getElem?_eq_getElem hil
            have HMEM : Hid ((ws.drop 2)[i]'hil ∈ ws.drop 2) := List.getElem_mem hil
            have HFS := Lib.hid (fst_succ ws i hil)
            have HFL := Lib.hid (fst_len ws i (by omega))
            generalize (ws.drop 2)[i]'hil = x at *
            have hnum := numOf_any x 4294967295 wr (HDM.out x HMEM.out) (by omega)
            unfold NumP at hnum
            have HLT : Hid ((numOf x 4294967295).2 = 0 → (numOf x 4294967295).1 < 4294967296) := fun h => by have := (numOf_back h).2; omega
            generalize hNO : numOf x 4294967295 = NO at *
            obtain ⟨v, er⟩ := NO
            have HNO := Lib.hid hNO
            have HNUM := Lib.hid hnum
            clear hnum hNO hil
            go_wp2_with fail
            refine HNUM.out.mono ?_
            rintro e w9 ⟨rfl, hb9⟩
            have HP9 := Lib.hid (HPX.out.next hb9)
            have HW9 := Lib.hid (HWD.out.below hb9)
            have HR9 := Lib.hid (Below.keepOld hb9 HRP.out)
            clear hb9 HNUM HPX HWD HRP hcx
            by_cases her : er = 0
            · have q1 : (er != 0) = false := by rw [bne_eq_false_iff_eq]; exact her
              have hv := HLT.out her
              have hv : v < 4294967296 := hv
              have hwrap : IntKind.u32.wrap (v : Int) = (v : Int) := by rw [IntKind.wrap_u32]; omega
              have hi5 : i < 5 := by omega
              have hcp : w9.cell? ⟨g10, i, none⟩ = some (.pointer (some ⟨w.heap.size + 1, 2 + i, none⟩)) := by rw [cell_of_row _ _ _ _ _ _ HR9.out]; exact ptrs_get _ i hi5
              have hco : w9.cell? ⟨w.heap.size + 1, 2 + i, none⟩ = some (.int .u32 (((mkR (kk : Int) (ee : Int) (fst ws i)).nums.getD i 0 : Nat) : Int)) := by rw [cell_of_row _ _ _ _ _ _ HP9.out.r4]; exact rp_num _ i hi5
              have hfz : ∀ j, w9.frozen? ⟨w.heap.size + 1, j, none⟩ = false := fun j => frozen_of_row _ _ j _ _ HP9.out.r4
              generalize (mkR (kk : Int) (ee : Int) (fst ws i)).nums.getD i 0 = old at *
              have hT1 : Turns (fun k => k = w.heap.size + 1) w9 (w9.setCell ⟨w.heap.size + 1, 2 + i, none⟩ (.int .u32 (v : Int))) := (Turns.refl (fun k => k = w.heap.size + 1) w9).setCell (p := ⟨w.heap.size + 1, 2 + i, none⟩) (fun _ => rfl) _
              have hr4 : (w9.setCell ⟨w.heap.size + 1, 2 + i, none⟩ (.int .u32 (v : Int))).heap[w.heap.size + 1]? = some (.cells (rpA (mkR (kk : Int) (ee : Int) (fst ws (i + 1)))) 26 (0, 0)) := by
                rw [heap_setCell_same _ _ _ _ _ _ HP9.out.r4, HFS.out]
                have := rp_push (kk : Int) (ee : Int) (fst ws i) (by rw [HFL.out]; exact hi5) v
                rw [HFL.out] at this
                rw [this]
              have HP10 : Hid (PS w (mkR (kk : Int) (ee : Int) (fst ws (i + 1))) (w9.setCell ⟨w.heap.size + 1, 2 + i, none⟩ (.int .u32 (v : Int)))) := ⟨hT1.keep HP9.out.r2 (by omega), hr4, HP9.out.low.trans (hT1.below HP9.out.low.size (fun k hk => by have hk : k = w.heap.size + 1 := hk; omega))⟩
              have HW10 : Hid (Ws (w9.setCell ⟨w.heap.size + 1, 2 + i, none⟩ (.int .u32 (v : Int))) (some ⟨b, o, none⟩) m (n - 2) (ws.drop 2)) := Sl.touch HW9.out hT1 (fun a ha _ hk => by
                obtain rfl := Option.some.inj ha
                have hk : b = w.heap.size + 1 := hk
                have := HGB.out b o rfl
                omega)
              have HR10 := Lib.hid (hT1.keep HR9.out (by have := HG10.out; omega))
              have HOK2 : Hid (∀ q y, q < i + 1 → (ws.drop 2)[q]? = some y → (numOf y 4294967295).2 = 0) := fun q y hq hy => by
                by_cases hqi : q = i
                · subst hqi
                  rw [HGE.out] at hy
                  obtain rfl := Option.some.inj hy
                  rw [HNO.out]; exact her
                · exact HOK.out q y (by omega) hy
              clear hv hT1 hr4 HP9 HW9 HR9 her HLT
              go_wp2_with fail
              go_roundw
              case rel => exact ⟨i + 1, by omega, by go_num, HP10.out, HW10.out, HR10.out, HOK2.out⟩
              case measure => simp [intOf]; omega
            · have q1 : (er != 0) = true := bne_iff_ne.2 her
              have HBADQ : Hid (parseW ws = (RP.zero, 4)) := by
                show _ = _
                rw [HPW.out]
                have hnone : numsB (ws.drop 2) = none := if_neg (fun h => her (by have := h x HMEM.out; rw [HNO.out] at this; exact this))
                rw [hnone]; rfl
              have HPS := HP9
              clear her HLT HW9 HR9
              go_upto_region 19 with fail
              skip
              -- the zero reply and the error 4 are told: world WX, HPS : Hid (PS w RP.zero WX) (x is as it was), HBADQ
              go_wp2_with (first
                | refine wpList_load_row rfl 26 _ rfl (w.heap.size + 1) rfl 26 zR (0, 0) _ HPS.out.r4 Tryz.underlying26 rfl (infoR _ rfl) ?_
                | refine Rdr.wpList_build rfl 26 _ rfl [] rfl _ built_r0 ?_
                | refine wpList_store_row rfl 26 _ _ rfl w.heap.size zR rfl rfl 26 zR HPS.out.r2 (infoR _ rfl) rfl (rpA_one _) ?_)
              have HS := Lib.hid (setRow_heap _ _ _ zR _ _ HPS.out.r2)
              refine bodyPost_ret (results_row_tmp rfl _ _ _ _ _ _ _ rfl HS.out Tryz.underlying26 rfl (infoR _ rfl)) rfl ?_
              unfold ParP
              rw [HPAR.out, HBADQ.out]
              exact ⟨rfl, below_setRow HPS.out.low (Nat.le_refl _) _⟩
          · obtain rfl : i = m := by omega
            have hdi : decide ((i : Int) < (i : Int)) = false := decide_eq_false (by omega)
            have hdi2 : decide (i < i) = false := decide_eq_false hlt
            have HEND : Hid (parseW ws = (mkR (kk : Int) (ee : Int) (fst ws i), 0)) := by
              show _ = _
              have htk : (ws.drop 2).take i = ws.drop 2 := List.take_of_length_le (by rw [HDL.out]; exact Nat.le_refl _)
              have hsome : numsB (ws.drop 2) = some (fst ws i) := by
                unfold numsB fst
                rw [if_pos (fun x hx => by
                  obtain ⟨q, hq, hqx⟩ := List.mem_iff_getElem.1 hx
                  exact HOK.out q x (by rw [HDL.out] at hq; exact hq) (by rw [← hqx]; exact List.getElem?_eq_getElem hq)), htk]
              rw [HPW.out, hsome]; rfl
            generalize mkR (kk : Int) (ee : Int) (fst ws i) = R at *
            go_upto_region 22 with fail
            go_wp2_with (first
              | refine wpList_load_row rfl 26 _ rfl (w.heap.size + 1) rfl 26 (rpA R) (0, 0) _ HPX.out.r4 Tryz.underlying26 rfl (infoR _ rfl) ?_
              | refine wpList_store_row rfl 26 _ _ rfl w.heap.size (rpA R) rfl rfl 26 zR HPX.out.r2 (infoR _ rfl) rfl (rpA_one _) ?_)
            have HS := Lib.hid (setRow_heap _ _ _ (rpA R) _ _ HPX.out.r2)
            refine bodyPost_ret (results_row_tmp rfl _ _ _ _ _ _ _ rfl HS.out Tryz.underlying26 rfl (infoR _ rfl)) rfl ?_
            unfold ParP
            rw [HPAR.out, HEND.out]
            exact ⟨rfl, below_setRow HPX.out.low (Nat.le_refl _) _⟩
end Go.Proofs.YtmphajilnkgcaaaGreatDoor.Rpl

namespace Go.Proofs.YtmphajilnkgcaaaGreatDoor.Rpl
open Go.RowKit Go.Mir Go.Mir.Hx Go.Mir.Parts

theorem join_le (ws : List (List UInt8)) (m : Nat) (h : ∀ x ∈ ws, x.length ≤ m) : (Go.Lib.join ws [32]).length ≤ ws.length * (m + 1) := by
  cases ws with
  | nil => rw [Go.Lib.join_nil]; exact Nat.zero_le _
  | cons x r =>
    rw [Go.Lib.join_cons, List.length_append, Go.Lib.joinTail_length, List.length_cons]
    have h1 := h x List.mem_cons_self
    have h2 : Go.Lib.lens r ≤ r.length * m := by
      have hr : ∀ y ∈ r, y.length ≤ m := fun y hy => h y (List.mem_cons_of_mem _ hy)
      clear h h1
      induction r with
      | nil => exact Nat.zero_le _
      | cons y r ih =>
        have := ih (fun z hz => hr z (List.mem_cons_of_mem _ hz))
        have h3 := hr y List.mem_cons_self
        show y.length + Go.Lib.lens r ≤ (r.length + 1) * m
        rw [Nat.add_mul]; omega
    show x.length + ([32].length * r.length + Go.Lib.lens r) ≤ (r.length + 1) * (m + 1)
    rw [Nat.add_mul, Nat.mul_add]
    show x.length + (1 * r.length + Go.Lib.lens r) ≤ _
    omega
theorem dec_short (n : Nat) (h : n < 4294967296) : (decL n).length ≤ 20 := HexW.dec_len n (by omega)
theorem name_short (n : Int) : (nameB n E21).length ≤ 20 ∧ (nameB n K7).length ≤ 20 := by
  have h1 : ∀ x ∈ E21, x.length ≤ 20 := by decide
  have h2 : ∀ x ∈ K7, x.length ≤ 20 := by decide
  refine ⟨?_, ?_⟩
  · unfold nameB
    split
    · rename_i hn
      have hl : n.toNat < E21.length := by omega
      rw [List.getElem?_eq_getElem hl]
      exact h1 _ (List.getElem_mem hl)
    · decide
  · unfold nameB
    split
    · rename_i hn
      have hl : n.toNat < K7.length := by omega
      rw [List.getElem?_eq_getElem hl]
      exact h2 _ (List.getElem_mem hl)
    · decide
theorem words_short (r : RP) (hw : r.wf) : ∀ x ∈ words r, x.length ≤ 20 := by
  intro x hx
  unfold words at hx
  rw [List.mem_append] at hx
  rcases hx with hx | hx
  · simp only [List.mem_cons, List.not_mem_nil, or_false] at hx
    rcases hx with rfl | rfl
    · exact (name_short _).2
    · exact (name_short _).1
  · split at hx
    · obtain ⟨n, hn, rfl⟩ := List.mem_map.1 hx
      exact dec_short n (hw n hn)
    · cases hx
theorem words_len (r : RP) : (words r).length ≤ 7 := by
  unfold words
  split
  · exact Nat.le_refl _
  · show 2 ≤ 7; omega
theorem nums_at (r : RP) (i : Nat) (h : i < 5) : r.nums[i]? = some (r.nums.getD i 0) := by
  match i, h with
  | 0, _ => rfl
  | 1, _ => rfl
  | 2, _ => rfl
  | 3, _ => rfl
  | 4, _ => rfl
theorem idx_ptrs (g i : Nat) (h : i < 5) : (ptrs g)[i]? = some (.pointer (some ⟨g, 2 + i, none⟩)) := ptrs_get g i h
theorem infoStr : (Tryz.prog.info? 9).map (fun i => (i.zero, i.size, i.bytes)) = some (some (.string ⟨#[]⟩), 1, 16) := by kernel_rfl
theorem wpList_buildTwo {ops : Array Oper} {rest : List Oper} {o : Oper} {a : Act} {w : World} {Q : Exit → Act → World → Prop} (hg : o.guard = none) (x y : Operand) (ho : o.op = .buildSlice 48 2 #[(0, x), (1, y)]) (s t : List UInt8) (hx : a.eval x = .string (S s)) (hy : a.eval y = .string (S t))
    (h : wpList Tryz.prog ops Q rest (a.put o.dst (.slice (some ⟨w.heap.size, 0, none⟩) 2 2)) (w.alloc (.cells #[.string (S s), .string (S t)] 9))) : wpList Tryz.prog ops Q (o :: rest) a w := by
  obtain ⟨i, hi, hiv⟩ := Option.map_eq_some_iff.1 infoStr
  obtain ⟨h1, h2, _⟩ := (by simpa using hiv : i.zero = some (.string ⟨#[]⟩) ∧ i.size = 1 ∧ i.bytes = 16)
  refine wpList_buildSlice hg 48 9 2 _ ho _ i _ Tryz.underlying48 hi h1 (by rw [h2]; omega) (by rw [h2]; omega) ?_ h
  have : (#[(0, x), (1, y)].map fun (p : Nat × Operand) => (p.1, a.eval p.2)).toList = [(0, .string (S s)), (1, .string (S t))] := by simp [hx, hy]
  rw [this, h2, show Array.map (fun x => (Value.string ⟨#[]⟩).cells[x % (Value.string ⟨#[]⟩).cells.size]!) (Array.range (2 * 1)) = #[.string ⟨#[]⟩, .string ⟨#[]⟩] from by kernel_rfl]
  simp [Instr.fill, Value.cells]
theorem own_two (w : World) (base : Nat) (s t : List UInt8) (hb : base ≤ w.heap.size) : (w.alloc (.cells #[.string (S s), .string (S t)] 9)).ownsRow base 9 1 (.slice (some ⟨w.heap.size, 0, none⟩) 2 2) 2 (strV [s, t]) :=
  ⟨rfl, .inr ⟨w.heap.size, 2, _, rfl, hb, heap_alloc_last _ _, Nat.le_refl _, by simp [maxLen], rfl, rfl⟩⟩
theorem idx_run (g i : Nat) (h : i < 5) : ∀ w0, (Instr.index 42 (.agg (ptrs g)) (.int .i64 (i : Int))).run Tryz.prog w0 = .ok (.pointer (some ⟨g, 2 + i, none⟩)) w0 := by
  intro w0
  obtain rfl | rfl | rfl | rfl | rfl : i = 0 ∨ i = 1 ∨ i = 2 ∨ i = 3 ∨ i = 4 := by omega
  · kernel_rfl
  · kernel_rfl
  · kernel_rfl
  · kernel_rfl
  · kernel_rfl
theorem own_ws {w : World} {base t : Nat} {p : Option Addr} {n c : Nat} {ls : List (List UInt8)} (h : w.ownsRow base t 1 (.slice p n c) n (strV ls)) : Ws w p n c ls := by
  obtain ⟨p', c', he, hs⟩ := own_sl h
  cases he
  exact hs
set_option maxRecDepth 100000 in
set_option maxHeartbeats 3200000 in
theorem line_any (r : RP) (w : World) (hw : r.wf) : Calls Tryz.prog 5 #[.agg (rpA r)] w fun e w' => e = .returned (.string (S (lineB r))) ∧ Below w.heap.size w w' := by
  have HB1 := Lib.hid (Below.allocs w (.cells (rpA r) 26))
  have HR1 := Lib.hid (heap_alloc_last w (.cells (rpA r) 26))
  have HC := Lib.hid (right_any r (w.alloc (.cells (rpA r) 26)))
  have HWF := Lib.hid hw
  clear hw
  by_cases hr : r.right
  rotate_left
  · have hd : decide r.right = false := decide_eq_false hr
    have HQ : Hid (lineB r = []) := if_neg hr
    rw [hd] at HC
    clear hr hd
    go_enter Tryz.func5, Tryz.ntmps5
    go_wp2_with (refine wpList_load_row rfl 26 _ rfl w.heap.size rfl 26 (rpA r) (0, 0) _ HR1.out Tryz.underlying26 rfl (infoR _ rfl) ?_)
    refine HC.out.mono ?_
    rintro e w2 ⟨rfl, hb2⟩
    go_wp2_with fail
    go_ret
    exact ⟨by rw [HQ.out]; rfl, HB1.out.trans (hb2.mono HB1.out.size)⟩
  have hd : decide r.right = true := decide_eq_true hr
  have HQ : Hid (lineB r = Go.Lib.join (words r) [32]) := if_pos hr
  rw [hd] at HC
  have hk0 := hr.1.1
  have hk1 := hr.1.2.1
  have he0 := hr.1.2.2.1
  have he1 := hr.1.2.2.2
  clear hd hr
  go_enter Tryz.func5, Tryz.ntmps5
  go_wp2_with (refine wpList_load_row rfl 26 _ rfl w.heap.size rfl 26 (rpA r) (0, 0) _ HR1.out Tryz.underlying26 rfl (infoR _ rfl) ?_)
  refine HC.out.mono ?_
  rintro e w2 ⟨rfl, hb2⟩
  have HR2 := Lib.hid (Below.keepOld hb2 HR1.out)
  have HB2 := Lib.hid (HB1.out.trans (hb2.mono HB1.out.size))
  have HS2 : Hid (w.heap.size + 1 ≤ w2.heap.size) := (Array.getElem?_eq_some_iff.1 HR2.out).1
  clear hb2 HC HR1 HB1
  go_upto_region 3 with fail
  have hk : Hid (∀ w', Below w2.heap.size w2 w' → w'.cell? ⟨w.heap.size, 0, none⟩ = some (.int .i64 r.kind)) := fun w' hb => cell_below (rp_cells HR2.out).1 hb
  have he : Hid (∀ w', Below w2.heap.size w2 w' → w'.cell? ⟨w.heap.size, 1, none⟩ = some (.int .i64 r.err)) := fun w' hb => cell_below (rp_cells HR2.out).2.1 hb
  have HKN := Lib.hid (fun w => kindName_any r.kind w ⟨by omega, by omega⟩)
  have HEN := Lib.hid (fun w => errName_any r.err w ⟨by omega, by omega⟩)
  refine wp_region_eager_in (Below w2.heap.size w2) [(0, true), (1, true), (3, true), (4, true), (2, false), (5, false), (6, false), (7, true)] (by kernel_rfl) (by kernel_rfl) ?_ (eagerOpen rfl ?_)
  · exact below_drew1 _ _
  repeat (first
    | (first | (apply wpEager_take; (· rfl); (· (intro w' hb'; go_simp; try with_reducible rfl)); (try simp only [Act.put, List.setIfInBounds_toArray, List.set_cons_zero, List.set_cons_succ]); (try refine eagerOpen rfl ?_)) | (refine wpEager_skip (by rfl) ?_; (try simp only [Act.put, List.setIfInBounds_toArray, List.set_cons_zero, List.set_cons_succ]); (try refine eagerOpen rfl ?_)) | (refine wpEager_off (by rfl) ?_; (try simp only [Act.put, List.setIfInBounds_toArray, List.set_cons_zero, List.set_cons_succ]); (try refine eagerOpen rfl ?_)))
    | (apply wpEager_take; (· rfl); (· (intro w' hb'; have hk' := (hk.out) w' hb'; go_split_ands; go_simp; try with_reducible rfl)); (try simp only [Act.put, List.setIfInBounds_toArray, List.set_cons_zero, List.set_cons_succ]); (try refine eagerOpen rfl ?_))
    | (apply wpEager_take; (· rfl); (· (intro w' hb'; have hk' := (he.out) w' hb'; go_split_ands; go_simp; try with_reducible rfl)); (try simp only [Act.put, List.setIfInBounds_toArray, List.set_cons_zero, List.set_cons_succ]); (try refine eagerOpen rfl ?_)))
  (refine wpEager_op (by rfl) (fun K hK => ?_); go_simp; (refine (HKN.out _).mono ?_; rintro e y ⟨rfl, hb⟩; have hy1 : Below w2.heap.size w2 y := (below_drew1 w2.heap.size w2).trans hb; clear hb); refine Shut.out hK _ _ (by assumption) ?_; clear hK K; (try simp only [Act.put, List.setIfInBounds_toArray, List.set_cons_zero, List.set_cons_succ]); (try refine eagerOpen rfl ?_))
  (refine wpEager_op (by rfl) (fun K hK => ?_); go_simp; (refine (HEN.out _).mono ?_; rintro e y2 ⟨rfl, hb⟩; have hy2 : Below w2.heap.size w2 y2 := hy1.trans (hb.mono hy1.size); clear hb); refine Shut.out hK _ _ (by assumption) ?_; clear hK K; (try simp only [Act.put, List.setIfInBounds_toArray, List.set_cons_zero, List.set_cons_succ]); (try refine eagerOpen rfl ?_))
  refine wpEager_op (by rfl) (fun K hK => oper_of_list rfl ?_)
  refine wpList_buildTwo rfl _ _ rfl (nameB r.kind K7) (nameB r.err E21) rfl rfl ?_
  have hy3 : Below w2.heap.size w2 (y2.alloc (.cells #[.string (S (nameB r.kind K7)), .string (S (nameB r.err E21))] 9)) := hy2.alloc hy2.size _
  have HO3 := Lib.hid (own_two y2 (w.heap.size + 1) (nameB r.kind K7) (nameB r.err E21) (by have := HS2.out; have := hy2.size; omega))
  refine only_end (Shut.out hK _ _ hy3 ?_)
  clear hK K
  (try simp only [Act.put, List.setIfInBounds_toArray, List.set_cons_zero, List.set_cons_succ]); (try refine eagerOpen rfl ?_)
  repeat (first | (apply wpEager_take; (· rfl); (· (intro w' hb'; go_simp; try with_reducible rfl)); (try simp only [Act.put, List.setIfInBounds_toArray, List.set_cons_zero, List.set_cons_succ]); (try refine eagerOpen rfl ?_)) | (refine wpEager_skip (by rfl) ?_; (try simp only [Act.put, List.setIfInBounds_toArray, List.set_cons_zero, List.set_cons_succ]); (try refine eagerOpen rfl ?_)) | (refine wpEager_off (by rfl) ?_; (try simp only [Act.put, List.setIfInBounds_toArray, List.set_cons_zero, List.set_cons_succ]); (try refine eagerOpen rfl ?_)))
  refine eagerEnd ?_
  have HR3 := Lib.hid (Below.keepOld hy3 HR2.out)
  have HB3 := Lib.hid (HB2.out.trans (hy3.mono HB2.out.size))
  clear hy1 hy2 hy3 HR2 HB2 hk he HKN HEN
  have HS3 : Hid (w.heap.size + 1 ≤ (y2.alloc (.cells #[.string (S (nameB r.kind K7)), .string (S (nameB r.err E21))] 9)).heap.size) := (Array.getElem?_eq_some_iff.1 HR3.out).1
  clear HS2
  have HG3 : Hid (w.heap.size + 1 ≤ y2.heap.size) := (HO3.out.lt _ rfl).1
  generalize y2.alloc (.cells #[.string (S (nameB r.kind K7)), .string (S (nameB r.err E21))] 9) = w3 at *
  generalize y2.heap.size = g3 at *
  have hce := (rp_cells HR3.out).2.1
  by_cases hz : r.err = 0
  rotate_left
  · have e1 : (r.err == 0) = false := beq_eq_false_iff_ne.2 hz
    have HW : Hid (words r = [nameB r.kind K7, nameB r.err E21]) := by show words r = _; unfold words; rw [if_neg hz]; rfl
    have hj := join_any g3 0 2 2 (words r) w3 (by rw [HW.out]; exact own_ws HO3.out) (HO3.out.lt _ rfl).2 (by omega) (by have h1 := join_le (words r) 20 (words_short r HWF.out); have h2 := words_len r; omega)
    have HJ := Lib.hid hj
    clear hj hz
    go_wp2_with fail
    refine HJ.out.mono ?_
    rintro e w4 ⟨rfl, hb4⟩
    go_wp2_with fail
    go_ret
    exact ⟨by rw [HQ.out]; rfl, HB3.out.trans (hb4.mono HB3.out.size)⟩
  have e1 : (r.err == 0) = true := beq_iff_eq.2 hz
  have HW : Hid (words r = [nameB r.kind K7, nameB r.err E21] ++ r.nums.map decL) := by show words r = _; unfold words; rw [if_pos hz]
  clear hz
  go_wp2_with fail
  refine (numbers_any w.heap.size w3).mono ?_
  rintro e w4 ⟨rfl, hb4⟩
  have HR4 := Lib.hid (Below.keepOld hb4 HR3.out)
  have HO4 := Lib.hid (own_touch HO3.out (Turns.of_below (S := fun _ => False) hb4) (fun _ _ h => h))
  have HB4 := Lib.hid (HB3.out.trans (hb4.mono HB3.out.size))
  have HS4 : Hid (w.heap.size + 1 ≤ w4.heap.size) := (Array.getElem?_eq_some_iff.1 HR4.out).1
  clear hb4 HR3 HO3 HB3 hce HS3
  go_wp2_with fail
  go_loopw [3, 20] (fun v j wr => ∃ (i m : Nat) (p : Option Addr) (c : Nat), i ≤ 5 ∧ j = .int .i64 i ∧ v = .slice p m c ∧ m = 2 + i ∧ wr.ownsRow (w.heap.size + 1) 9 1 v m (strV ([nameB r.kind K7, nameB r.err E21] ++ (r.nums.take i).map decL)) ∧ wr.heap[w.heap.size]? = some (.cells (rpA r) 26 (0, 0)) ∧ Below w.heap.size w wr) (fun _ j _ => 5 - (intOf j).toNat)
  case atStart => exact ⟨0, 2, _, _, by omega, rfl, rfl, rfl, HO4.out, HR4.out, HB4.out⟩
  case round =>
    clear HO4 HR4 HB4 HS4
    obtain ⟨i, m, p, c, hi, rfl, rfl, hm, ho, hr5, hb5⟩ := hrel
    have HO5 := Lib.hid ho
    have HR5 := Lib.hid hr5
    have HB5 := Lib.hid hb5
    have HM := Lib.hid hm
    clear ho hr5 hb5 hm
    have HS5 : Hid (w.heap.size + 1 ≤ wr.heap.size) := (Array.getElem?_eq_some_iff.1 HR5.out).1
    by_cases hlt : i < 5
    · have hdi : decide ((i : Int) < 5) = true := decide_eq_true (by omega)
      have hdi2 : decide (i < 5) = true := decide_eq_true hlt
      have hpg := idx_run w.heap.size i hlt
      have hcx : wr.cell? ⟨w.heap.size, 2 + i, none⟩ = some (.int .u32 ((r.nums.getD i 0 : Nat) : Int)) := by rw [cell_of_row _ _ _ _ _ _ HR5.out]; exact rp_num r i hlt
      have hnl : i < r.nums.length := hlt
      have HGD : Hid ((r.nums.take (i + 1)).map decL = (r.nums.take i).map decL ++ [decL (r.nums.getD i 0)]) := by
        show _ = _
        rw [List.take_succ_eq_append_getElem hnl, List.map_append, List.getD_eq_getElem?_getD, List.getElem?_eq_getElem hnl]
        rfl
      have hnb : r.nums.getD i 0 < 4294967296 := by
        rw [List.getD_eq_getElem?_getD, List.getElem?_eq_getElem hnl]
        exact HWF.out _ (List.getElem_mem hnl)
      generalize r.nums.getD i 0 = v at *
      have hwrap : IntKind.u64.wrap (v : Int) = (v : Int) := by rw [IntKind.wrap_u64]; omega
      have HNUM := Lib.hid (HexW.num_any v wr (by omega))
      clear hnl
      go_wp2_with fail
      refine HNUM.out.mono ?_
      rintro e w6 ⟨rfl, hb6⟩
      have HR6 := Lib.hid (Below.keepOld hb6 HR5.out)
      have HO6 := Lib.hid (own_touch HO5.out (Turns.of_below (S := fun _ => False) hb6) (fun _ _ h => h))
      have HB6 := Lib.hid (HB5.out.trans (hb6.mono HB5.out.size))
      have HS6 : Hid (w.heap.size + 1 ≤ w6.heap.size) := (Array.getElem?_eq_some_iff.1 HR6.out).1
      clear hb6 HR5 HO5 HB5 HS5 hcx hpg HNUM
      have HO7 : Hid ((w6.alloc (.cells #[.string (S (decL v))] 9)).ownsRow (w.heap.size + 1) 9 1 (.slice p m c) m (strV ([nameB r.kind K7, nameB r.err E21] ++ (r.nums.take i).map decL))) := own_touch HO6.out (Turns.of_below (S := fun _ => False) (Below.allocs w6 _)) (fun _ _ h => h)
      have HX7 : Hid (Ws (w6.alloc (.cells #[.string (S (decL v))] 9)) (some ⟨w6.heap.size, 0, none⟩) 1 1 [decL v]) := Ws.row (ls := [decL v]) (heap_alloc_last w6 _) rfl (by show 1 ≤ _; omega)
      have hB7 := Below.allocs w6 (.cells #[.string (S (decL v))] 9)
      have HR7 := Lib.hid (Below.keepOld hB7 HR6.out)
      have HB7 := Lib.hid (HB6.out.trans (hB7.mono HB6.out.size))
      have HS7 : Hid (w.heap.size + 1 ≤ (w6.alloc (.cells #[.string (S (decL v))] 9)).heap.size) := (Array.getElem?_eq_some_iff.1 HR7.out).1
      have hm7 : m ≤ 7 := by have := HM.out; omega
      clear HR6 HO6 HB6 HS6 hB7
      go_wp2_with (at_builtin; refine wpList_append_nx rfl _ _ 48 rfl (base := w.heap.size + 1) Tryz.underlying48 infoStr rfl (by omega) rfl HO7.out rfl HX7.out (strV_one _) ⟨by omega, by omega⟩ HS7.out ?_)
      intro p' c' w8 ho8 hgr hnx _
      have hb8 := own_below HO7.out hgr HS7.out
      have HR8 := Lib.hid (Below.keepBlock hb8 HR7.out (Nat.lt_succ_self _))
      have HB8 := Lib.hid (HB7.out.trans (hb8.mono (Nat.le_succ _)))
      have HO8 : Hid (w8.ownsRow (w.heap.size + 1) 9 1 (.slice p' (m + 1) c') (m + 1) (strV ([nameB r.kind K7, nameB r.err E21] ++ (r.nums.take (i + 1)).map decL))) := by
        show World.ownsRow _ _ _ _ _ _ _
        rw [HGD.out, ← List.append_assoc]
        unfold strV at ho8 ⊢
        rw [List.map_append]
        rw [← List.map_take] at ho8
        exact ho8
      clear ho8 hgr hnx hb8 HO7 HX7 HR7 HB7 HS7
      go_wp2_with fail
      go_roundw
      case rel => exact ⟨i + 1, m + 1, p', c', by omega, by go_num, rfl, by have := HM.out; omega, HO8.out, HR8.out, HB8.out⟩
      case measure => simp [intOf]; omega
    · obtain rfl : i = 5 := by omega
      have hdi : decide ((5 : Int) < 5) = false := by decide
      have hmm : m = 7 := HM.out
      subst hmm
      have HWS : Hid (Ws wr p 7 c (words r)) := by
        show Ws _ _ _ _ _
        rw [HW.out]
        exact own_ws HO5.out
      obtain ⟨b, o, rfl⟩ := HWS.out.addr (by omega) (by omega)
      have HJ := Lib.hid (join_any b o 7 c (words r) wr HWS.out (HO5.out.lt _ rfl).2 (by omega) (by have h1 := join_le (words r) 20 (words_short r HWF.out); have h2 := words_len r; omega))
      go_wp2_with fail
      refine HJ.out.mono ?_
      rintro e w6 ⟨rfl, hb6⟩
      go_wp2_with fail
      go_ret
      exact ⟨by rw [HQ.out]; rfl, HB5.out.trans (hb6.mono HB5.out.size)⟩
end Go.Proofs.YtmphajilnkgcaaaGreatDoor.Rpl

namespace Go.Proofs.YtmphajilnkgcaaaGreatDoor.Rpl
open Go.RowKit Go.Mir Go.Mir.Hx Go.Mir.Parts

theorem alive_line : lineB ⟨2, 0, 3, 1, 5, 2, 100⟩ = [117, 112, 108, 111, 97, 100, 32, 111, 107, 32, 51, 32, 49, 32, 53, 32, 50, 32, 49, 48, 48] := by
  rw [lineB, if_pos ⟨⟨by decide, by decide, by decide, by decide⟩, .inl rfl⟩]
  decide
theorem alive_line2 : lineB ⟨2, 13, 0, 0, 0, 0, 0⟩ = [117, 112, 108, 111, 97, 100, 32, 101, 120, 112, 105, 114, 101, 100] := by
  rw [lineB, if_pos ⟨⟨by decide, by decide, by decide, by decide⟩, .inr ⟨rfl, rfl, rfl, rfl, rfl⟩⟩]
  decide
theorem alive_parse : parseB [117, 112, 108, 111, 97, 100, 32, 111, 107, 32, 51, 32, 49, 32, 53, 32, 50, 32, 49, 48, 48] = (⟨2, 0, 3, 1, 5, 2, 100⟩, 0) := by
  rw [← alive_line]
  exact parse_line ⟨⟨by decide, by decide, by decide, by decide⟩, .inl rfl⟩ (by intro n hn; simp only [RP.nums, List.mem_cons, List.not_mem_nil, or_false] at hn; omega)
set_option maxRecDepth 100000 in
set_option maxHeartbeats 1600000 in
theorem alive15_any (w : World) (hm : MaxL w) : Calls Tryz.prog 9 #[] w fun e w' => e = .returned (.bool true) ∧ Below w.heap.size w w' := by
  have hz := zeroR
  have hp := parse_any [117, 112, 108, 111, 97, 100, 32, 111, 107, 32, 51, 32, 49, 32, 53, 32, 50, 32, 49, 48, 48] w (by decide) hm
  unfold ParP at hp
  rw [alive_parse] at hp
  have HP := Lib.hid hp
  clear hp hm
  go_enter Tryz.func9, Tryz.ntmps9
  go_wp2_with fail
  refine HP.out.mono ?_
  rintro e w1 ⟨rfl, hb1⟩
  have hal := below_setRow (Below.allocs w1 (.cells zR 26)) (Nat.le_refl _) (rpA ⟨2, 0, 3, 1, 5, 2, 100⟩)
  have HB1 := Lib.hid (hb1.trans (hal.mono hb1.size))
  have hr1 := setRow_heap _ _ _ (rpA ⟨2, 0, 3, 1, 5, 2, 100⟩) _ _ (heap_alloc_last w1 (.cells zR 26))
  have hus := (rp_cells hr1).2.2.2.2.2.1
  clear hb1 HP hr1 hal
  have HL := Lib.hid (fun w => line_any ⟨2, 13, 0, 0, 0, 0, 0⟩ w (by intro n hn; simp only [RP.nums, List.mem_cons, List.not_mem_nil, or_false] at hn; omega))
  rw [alive_line2] at HL
  have HE := Lib.hid (fun w => errName_any 20 w ⟨by omega, by omega⟩)
  have HK := Lib.hid (fun w => kindName_any 77 w ⟨by omega, by omega⟩)
  have he : nameB 20 E21 = [100, 101, 101, 112] := by decide
  have hk : nameB 77 K7 = [63] := by decide
  rw [he] at HE
  rw [hk] at HK
  clear he hk
  go_upto_region 2 with (refine wpList_store_row rfl 26 _ _ rfl w1.heap.size (rpA ⟨2, 0, 3, 1, 5, 2, 100⟩) rfl rfl 26 zR (heap_alloc_last _ _) (infoR _ rfl) rfl (rpA_one _) ?_)
  try simp only [Act.put, List.setIfInBounds_toArray, List.set_cons_zero, List.set_cons_succ]
  generalize (w1.alloc (.cells zR 26)).setRow w1.heap.size (rpA ⟨2, 0, 3, 1, 5, 2, 100⟩) = w2 at *
  go_wp2_with (refine wpList_build_g rfl 26 _ rfl [(0, .int .i64 2), (1, .int .i64 13)] rfl _ (built_r2 2 13) ?_)
  refine (HL.out _).mono ?_
  rintro e w3 ⟨rfl, hb3⟩
  have HB3 := Lib.hid (HB1.out.trans (hb3.mono HB1.out.size))
  clear hb3 HL HB1
  go_wp2_with fail
  refine (HE.out _).mono ?_
  rintro e w4 ⟨rfl, hb4⟩
  have HB4 := Lib.hid (HB3.out.trans (hb4.mono HB3.out.size))
  clear hb4 HE HB3
  go_wp2_with fail
  refine (HK.out _).mono ?_
  rintro e w5 ⟨rfl, hb5⟩
  have HB5 := Lib.hid (HB4.out.trans (hb5.mono HB4.out.size))
  clear hb5 HK HB4
  go_wp2_with fail
  go_ret
  exact ⟨rfl, HB5.out⟩
end Go.Proofs.YtmphajilnkgcaaaGreatDoor.Rpl

namespace Go.Proofs.YtmphajilnkgcaaaGreatDoor.Wr
open Go.RowKit Go.Mir Go.Mir.Parts

theorem infoB : (Tryz.prog.info? 5).map (fun i => (i.zero, i.size, i.bytes)) = some (some (.int .u8 0), 1, 1) := by kernel_rfl

/-- a writer that a call made: its block, its bytes' slice, room, bytes, fault -/
structure WAt (w : World) (wb : Nat) (v : Value) (room : Nat) (l : List UInt8) (bad : Int) : Prop where
  blk : w.heap[wb]? = some (.cells #[.bool true, .int .i64 (room : Int), v, .int .i64 bad] 68 (0, 0))
  own : w.ownsRow 0 5 1 v l.length (bytesV l)
  sep : v.ownBlock ≠ some wb
  fits : l.length ≤ room
  roomy : room ≤ 9223372036854775807
/-- its blocks -/
def foot (wb : Nat) (v : Value) (k : Nat) : Prop := k = wb ∨ v.ownBlock = some k

theorem WAt.touch {S : Nat → Prop} {w w' : World} {wb : Nat} {v : Value} {room : Nat} {l : List UInt8} {bad : Int} (h : WAt w wb v room l bad) (ht : Turns S w w') (hS : ∀ k, foot wb v k → ¬ S k) : WAt w' wb v room l bad :=
  ⟨ht.keep h.blk (hS _ (.inl rfl)), own_touch h.own ht (fun k hk => hS k (.inr hk)), h.sep, h.fits, h.roomy⟩
theorem WAt.drew {w : World} {wb : Nat} {v : Value} {room : Nat} {l : List UInt8} {bad : Int} (h : WAt w wb v room l bad) : WAt w.drew wb v room l bad := ⟨h.blk, h.own, h.sep, h.fits, h.roomy⟩
theorem WAt.lt {w : World} {wb : Nat} {v : Value} {room : Nat} {l : List UInt8} {bad : Int} (h : WAt w wb v room l bad) : ∀ k, foot wb v k → k < w.heap.size := by
  intro k hk
  rcases hk with rfl | hk
  · exact (Array.getElem?_eq_some_iff.1 h.blk).1
  · exact (h.own.lt k hk).2

/-- the four cells -/
theorem WAt.cells {w : World} {wb : Nat} {v : Value} {room : Nat} {l : List UInt8} {bad : Int} (h : WAt w wb v room l bad) :
    w.cell? ⟨wb, 0, none⟩ = some (.bool true) ∧ w.cell? ⟨wb, 1, none⟩ = some (.int .i64 (room : Int)) ∧ w.cell? ⟨wb, 2, none⟩ = some v ∧ w.cell? ⟨wb, 3, none⟩ = some (.int .i64 bad) ∧ w.frozen? ⟨wb, 2, none⟩ = false ∧ w.frozen? ⟨wb, 3, none⟩ = false := by
  refine ⟨?_, ?_, ?_, ?_, frozen_of_row _ _ _ _ _ h.blk, frozen_of_row _ _ _ _ _ h.blk⟩ <;> (rw [cell_of_row _ _ _ _ _ _ h.blk]; rfl)

/-! ### is there none? -/
theorem none_made (wb : Nat) (w : World) (hc : w.cell? ⟨wb, 0, none⟩ = some (.bool true)) :
    Calls Tryz.prog 50 #[.pointer (some ⟨wb, 0, none⟩)] w fun e w' => e = .returned (.bool false) ∧ w = w' := by
  go_enter Tryz.func50, Tryz.ntmps50
  go_wp2
  go_ret
  exact ⟨rfl, rfl⟩
theorem none_zero (wb : Nat) (w : World) (hc : w.cell? ⟨wb, 0, none⟩ = some (.bool false)) :
    Calls Tryz.prog 50 #[.pointer (some ⟨wb, 0, none⟩)] w fun e w' => e = .returned (.bool true) ∧ w = w' := by
  go_enter Tryz.func50, Tryz.ntmps50
  go_wp2
  go_ret
  exact ⟨rfl, rfl⟩
theorem none_nil (w : World) :
    Calls Tryz.prog 50 #[.pointer none] w fun e w' => e = .returned (.bool true) ∧ w = w' := by
  go_enter Tryz.func50, Tryz.ntmps50
  go_wp2
  go_ret
  exact ⟨rfl, rfl⟩

/-! ### Fail -/
theorem fail_any (wb : Nat) (v : Value) (room : Nat) (l : List UInt8) (bad e0 : Int) (w : World) (h : WAt w wb v room l bad) :
    Calls Tryz.prog 51 #[.pointer (some ⟨wb, 0, none⟩), .int .i64 e0] w fun e w' => e = .returned (.tuple #[]) ∧ WAt w' wb v room l (if bad = 0 then e0 else bad) ∧ Turns (foot wb v) w w' := by
  obtain ⟨c0, c1, c2, c3, f2, f3⟩ := h.cells
  have HW := Lib.hid h
  by_cases hb : bad = 0
  · subst hb
    go_enter Tryz.func51, Tryz.ntmps51
    go_wp2_with (go_at_call 50; refine (none_made _ _ c0).mono ?_; rintro e w' ⟨rfl, rfl⟩)
    go_end0
    refine ⟨rfl, ?_, (Turns.refl _ _).setCell (fun _ => .inl rfl) _⟩
    try rw [if_pos rfl]
    exact ⟨by rw [heap_setCell_same _ _ _ _ _ _ HW.out.blk]; rfl, own_touch HW.out.own ((Turns.refl (fun k => k = wb) _).setCell (fun _ => rfl) _) (fun k hk e => HW.out.sep (by rw [hk, e])), HW.out.sep, HW.out.fits, HW.out.roomy⟩
  · have hb' : (bad == 0) = false := by simp [hb]
    go_enter Tryz.func51, Tryz.ntmps51
    go_wp2_with (go_at_call 50; refine (none_made _ _ c0).mono ?_; rintro e w' ⟨rfl, rfl⟩)
    go_end0
    try rw [if_neg hb]
    exact ⟨rfl, HW.out, Turns.refl _ _⟩

/-! ### put -/
/-- what is held behind 'put': bytes, fault -/
def putS (room : Nat) (l : List UInt8) (bad : Int) (fits : Bool) (ps : List (List UInt8)) : List UInt8 × Int :=
  if bad = 0 then (if fits then (if total ps ≤ room - l.length then (l ++ ps.flatten, 0) else (l, 3)) else (l, 1)) else (l, bad)

/-- what a call leaves of a writer -/
def Left (wb : Nat) (v : Value) (room : Nat) (r : List UInt8 × Int) (w w' : World) : Prop :=
  ∃ v', WAt w' wb v' room r.1 r.2 ∧ Turns (foot wb v) w w' ∧ NextV w v v'

set_option maxRecDepth 100000 in
set_option maxHeartbeats 400000 in
theorem put_sum (p : Option Addr) (n c : Nat) (ls : List (List UInt8)) (wb : Nat) (v : Value) (room : Nat) (l : List UInt8) (fits : Bool) (w : World) (h : WAt w wb v room l 0)
    (hP : ∀ w', Turns (foot wb v) w w' → Pts w' p n c ls) (hs : total ls ≤ 70368744177664) (hl : l.length ≤ 70368744177664) :
    Calls Tryz.prog 34 #[.pointer (some ⟨wb, 0, none⟩), .bool fits, .slice p n c] w fun e w' => e = .returned (.tuple #[]) ∧ Left wb v room (putS room l 0 fits ls) w w' := by
  obtain ⟨pv, cv, hv, hsv⟩ := own_sl h.own
  subst hv
  have hvle := hsv.le
  have hvmax := hsv.max
  clear hsv
  obtain ⟨c0, c1, c2, c3, f2, f3⟩ := h.cells
  have hroom := h.roomy
  have hfit := h.fits
  have HW := Lib.hid h
  have hp := hP w (Turns.refl _ _)
  have hle := hp.le
  have hmax := hp.max
  have hn := hp.len
  have HP := Lib.hid hp
  have HPP := Lib.hid hP
  clear h hp hP
  go_enter Tryz.func34, Tryz.ntmps34
  go_wp2_with (go_at_call 50; refine (none_made _ _ c0).mono ?_; rintro e w' ⟨rfl, rfl⟩)
  go_loop [6, 23] (fun x j => ∃ k : Nat, k ≤ n ∧ j = .int .i64 k ∧ x = .int .i64 ((total (ls.take k) : Nat) : Int)) (fun _ j => n - (intOf j).toNat)
  case atStart => exact ⟨0, by omega, rfl, rfl⟩
  case round =>
    obtain ⟨k, hk, rfl, rfl⟩ := hrel
    have htl := total_le ls k
    by_cases hlt : k < n
    · obtain ⟨b, o, rfl⟩ := HP.out.addr (by omega)
      obtain ⟨q, m, d, hc, hB⟩ := HP.out.cell _ rfl k (by omega)
      rw [add_none] at hc
      have htk := total_take ls k (by omega)
      have htl' := total_le ls (k + 1)
      rw [hB.length] at htk
      have HTK := Lib.hid htk
      have hsum : total (ls.take k) + m ≤ 4611686018427387904 := by omega
      clear htk htl' hB
      generalize hT : total (ls.take k) = T at *
      have HT := Lib.hid hT
      clear hT
      go_wp2
      go_round
      case rel => exact ⟨k + 1, by omega, by go_num, by rw [HTK.out]; go_num⟩
      case measure => simp [intOf]; omega
    · have hk' : k = ls.length := by omega
      rw [hk', List.take_length]
      generalize hT : total ls = T at *
      have HT := Lib.hid hT
      clear hT htl
      cases fits with
      | false =>
        go_wp2_with fail
        refine (fail_any wb _ room l 0 1 _ HW.out).mono ?_
        rintro e w1 ⟨rfl, hw1, ht1⟩
        have HW1 := Lib.hid hw1
        have HT1 := Lib.hid ht1
        clear hw1 ht1
        go_wp2_with fail
        refine bodyPost_ret (results_none rfl _ _ _) rfl ?_
        exact ⟨rfl, _, HW1.out, HT1.out, fun _ hk _ => hk⟩
      | true =>
        by_cases hT2 : T ≤ room - l.length
        · have hcmp : decide ((room : Int) - (l.length : Int) < (T : Int)) = false := by simp; omega
          have hput : Hid (putS room l 0 true ls = (l ++ ls.flatten, 0)) := by show _ = _; simp [putS, HT.out, hT2]
          have htot : l.length + T ≤ 140737488355328 ∧ l.length + T ≤ room := by omega
          go_wp2_with fail
          go_quiet (fail)
          go_wp2_with fail
          have HW2 : Hid (WAt (w.drewN nq) wb (.slice pv l.length cv) room l 0) := ⟨HW.out.blk, HW.out.own, HW.out.sep, HW.out.fits, HW.out.roomy⟩
          have HT2 : Hid (Turns (foot wb (.slice pv l.length cv)) w (w.drewN nq)) := ⟨rfl, rfl, rfl, Nat.le_refl _, fun _ _ _ => rfl⟩
          clear c0 c1 c2 c3 f2 f3
          generalize w.drewN nq = w2 at *
          go_loopw [53] (fun j wr => ∃ (k : Nat) (p1 : Option Addr) (n1 c1 : Nat), k ≤ n ∧ j = .int .i64 k ∧ WAt wr wb (.slice p1 n1 c1) room (l ++ (ls.take k).flatten) 0 ∧ Turns (foot wb (.slice pv l.length cv)) w wr ∧ NextV w (.slice pv l.length cv) (.slice p1 n1 c1)) (fun j _ => n - (intOf j).toNat)
          case atStart => exact ⟨0, pv, l.length, cv, by omega, rfl, by simpa using HW2.out, HT2.out, fun _ hk _ => hk⟩
          case round =>
            obtain ⟨k, p1, n1, c1, hk, rfl, hw1, ht1, hnx1⟩ := hrel
            by_cases hlt : k < n
            · obtain ⟨e0, e1, e2, e3, g2, g3⟩ := hw1.cells
              obtain ⟨b, o, rfl⟩ := HP.out.addr (by omega)
              obtain ⟨q, m, d, hc, hB⟩ := (HPP.out wr ht1).cell _ rfl k (by omega)
              rw [add_none] at hc
              have hlen : (l ++ (ls.take k).flatten).length = l.length + total (ls.take k) := by rw [List.length_append, total_flatten]
              have htk := total_take ls k (by omega)
              have htl' := total_le ls (k + 1)
              rw [hB.length] at htk
              rw [HT.out] at htl'
              have hfl : Hid (l ++ (ls.take (k+1)).flatten = (l ++ (ls.take k).flatten) ++ ls[k]) := by
                show _ = _
                rw [take_snoc ls k (by omega), List.flatten_append]; simp
              have hbd : Hid ((l ++ (ls.take k).flatten).length + m ≤ 9223372036854775807 ∧ ((l ++ (ls.take k).flatten).length + m) * 1 ≤ 140737488355328) := by
                show _ ∧ _
                rw [hlen]; omega
              have hfit' : Hid ((l ++ (ls.take (k+1)).flatten).length ≤ room) := by
                show _ ≤ _
                rw [List.length_append, total_flatten]; omega
              have HBm := Lib.hid hB.length
              have HS := Lib.hid hB
              have hleq : (l ++ (ls.take k).flatten).length + m = (l ++ (ls.take (k+1)).flatten).length := by rw [hfl.out, ← hB.length]; exact List.length_append.symm
              clear hlen htk htl' hB
              generalize l ++ (ls.take k).flatten = L at *
              generalize hL' : l ++ (ls.take (k+1)).flatten = L' at *
              have HL' := Lib.hid hL'
              have HLQ := Lib.hid hleq
              have HW1 := Lib.hid hw1
              have HT1 := Lib.hid ht1
              have HN1 := Lib.hid hnx1
              clear hw1 ht1 hnx1 hL' hleq
              go_wp2_with (at_builtin; refine wpList_append_nx rfl _ _ 27 rfl (base := 0) Tryz.underlying27 infoB rfl (by omega) rfl HW1.out.own rfl HS.out (bytesV_one _) hbd.out (Nat.zero_le _) ?_)
              intro p' c' w3 hown hg hnx hne
              have e2' : w3.cell? ⟨wb, 2, none⟩ = some (.slice p1 n1 c1) := hg.cell e2 (fun e => HW1.out.sep e.symm)
              have g2' : w3.frozen? ⟨wb, 2, none⟩ = false := by
                rw [World.frozen?_of_block (hg.block wb (Array.getElem?_eq_some_iff.1 HW1.out.blk).1 (fun e => HW1.out.sep e.symm))]; exact g2
              have HO := Lib.hid hown
              have HG := Lib.hid hg
              have HNX := Lib.hid hnx
              clear hown hg hnx hne
              go_wp2_with fail
              go_roundw
              case rel =>
                have hlt1 : wb < wr.heap.size := (Array.getElem?_eq_some_iff.1 HW1.out.blk).1
                have hb3 : w3.heap[wb]? = some (.cells #[.bool true, .int .i64 (room : Int), .slice p1 n1 c1, .int .i64 0] 68 (0, 0)) := by
                  rw [HG.out.block wb hlt1 (fun e => HW1.out.sep e.symm)]; exact HW1.out.blk
                have hsep : ¬ (Value.slice p' (L.length + m) c').ownBlock = some wb := by
                  intro e
                  rcases HNX.out wb e with h | h
                  · exact HW1.out.sep h
                  · omega
                refine ⟨k + 1, p', L.length + m, c', by omega, by go_num, ?_, ?_, ?_⟩
                rw [HL'.out]
                refine ⟨?_, ?_, hsep, hfit'.out, hroom⟩
                · rw [heap_setCell_same _ _ _ _ _ _ hb3]; rfl
                · have := own_touch HO.out ((Turns.refl (fun k => k = wb) _).setCell (p := ⟨wb, 2, none⟩) (fun _ => rfl) (.slice p' (L.length + m) c')) (fun k hk e => hsep (by rw [hk, e]))
                  rw [hfl.out, bytesV_append, ← hfl.out, ← HLQ.out]
                  exact this
                · refine HT1.out.trans ((Turns.grown (S := foot wb (.slice p1 n1 c1)) HG.out (fun k hk => .inr hk)).setCell (fun _ => .inl rfl) _) ?_
                  intro i hi hfi
                  rcases hfi with rfl | hfi
                  · exact .inl rfl
                  · exact .inr (HN1.out i hfi hi)
                · intro j hj hjl
                  rcases HNX.out j hj with h | h
                  · exact HN1.out j h hjl
                  · have := HT1.out.size; omega
              case measure => simp [intOf]; omega
            · have hk' : k = ls.length := by omega
              rw [hk', List.take_length] at hw1
              have HW1 := Lib.hid hw1
              have HT1 := Lib.hid ht1
              have HN1 := Lib.hid hnx1
              clear hw1 ht1 hnx1
              go_wp2_with fail
              go_end0
              exact ⟨rfl, _, by rw [hput.out]; exact HW1.out, HT1.out, HN1.out⟩
        · have hcmp : decide ((room : Int) - (l.length : Int) < (T : Int)) = true := by simp; omega
          have hput : Hid (putS room l 0 true ls = (l, 3)) := by show _ = _; simp [putS, HT.out, hT2]
          go_wp2_with fail
          go_quiet (fail)
          go_wp2_with fail
          have HW2 : Hid (WAt (w.drewN nq) wb (.slice pv l.length cv) room l 0) := ⟨HW.out.blk, HW.out.own, HW.out.sep, HW.out.fits, HW.out.roomy⟩
          have HT2 : Hid (Turns (foot wb (.slice pv l.length cv)) w (w.drewN nq)) := ⟨rfl, rfl, rfl, Nat.le_refl _, fun _ _ _ => rfl⟩
          refine (fail_any wb _ room l 0 3 _ HW2.out).mono ?_
          rintro e w1 ⟨rfl, hw1, ht1⟩
          have HW1 := Lib.hid hw1
          have HT1 : Hid (Turns (foot wb (.slice pv l.length cv)) w w1) := HT2.out.trans ht1 (fun _ _ h => h)
          clear hw1 ht1
          go_wp2_with fail
          refine bodyPost_ret (results_none rfl _ _ _) rfl ?_
          exact ⟨rfl, _, by rw [hput.out]; exact HW1.out, HT1.out, fun _ hk _ => hk⟩

end Go.Proofs.YtmphajilnkgcaaaGreatDoor.Wr

namespace Go.Proofs.YtmphajilnkgcaaaGreatDoor.Wr
open Go.RowKit Go.Mir Go.Mir.Parts

theorem Left.refl {w : World} {wb : Nat} {v : Value} {room : Nat} {l : List UInt8} {bad : Int} (h : WAt w wb v room l bad) : Left wb v room (l, bad) w w := ⟨v, h, Turns.refl _ _, fun _ hk _ => hk⟩

theorem put_any (p : Option Addr) (n c : Nat) (ls : List (List UInt8)) (wb : Nat) (v : Value) (room : Nat) (l : List UInt8) (bad : Int) (fits : Bool) (w : World) (h : WAt w wb v room l bad)
    (hP : ∀ w', Turns (foot wb v) w w' → Pts w' p n c ls) (hs : total ls ≤ 70368744177664) (hl : l.length ≤ 70368744177664) :
    Calls Tryz.prog 34 #[.pointer (some ⟨wb, 0, none⟩), .bool fits, .slice p n c] w fun e w' => e = .returned (.tuple #[]) ∧ Left wb v room (putS room l bad fits ls) w w' := by
  by_cases hb : bad = 0
  · subst hb
    exact put_sum p n c ls wb v room l fits w h hP hs hl
  · obtain ⟨c0, c1, c2, c3, f2, f3⟩ := h.cells
    have hb' : (bad != 0) = true := by simp [hb]
    have HL : Hid (Left wb v room (putS room l bad fits ls) w w) := by
      show Left _ _ _ _ _ _
      rw [putS, if_neg hb]; exact Left.refl h
    clear h hP
    go_enter Tryz.func34, Tryz.ntmps34
    go_wp2_with (go_at_call 50; refine (none_made _ _ c0).mono ?_; rintro e w' ⟨rfl, rfl⟩)
    refine bodyPost_ret (results_none rfl _ _ _) rfl ?_
    exact ⟨rfl, HL.out⟩

/-- what a part's slices in a new row are, while the writer's own blocks turn -/
theorem stable1 {w : World} {S : Nat → Prop} {p : Option Addr} {n c b : Nat} {l : List UInt8} (hB : ∀ w', Turns S w w' → Bs w' p n c l) (hS : ∀ k, S k → k < w.heap.size) (t : TypeId) (hb : b = w.heap.size) :
    ∀ w', Turns S (w.alloc (.cells #[.slice p n c] t)) w' → Pts w' (some ⟨b, 0, none⟩) 1 1 [l] := by
  intro w' ht
  subst hb
  have hT : Turns S w w' := ((Turns.refl S w).alloc _).trans ht (fun _ _ h => h)
  have hrow : w'.heap[w.heap.size]? = some (.cells #[.slice p n c] t) := ht.keep (heap_alloc_last _ _) (fun h => by have := hS _ h; omega)
  refine ⟨rfl, Nat.le_refl _, by omega, fun h => (by cases h), fun a ha j hj => ?_⟩
  obtain rfl := Option.some.inj ha
  obtain rfl : j = 0 := by simp at hj; omega
  exact ⟨p, n, c, by rw [add_none, cell_of_row _ _ _ _ _ _ hrow]; rfl, hB w' hT⟩

theorem Left.alloc {w : World} {wb : Nat} {v : Value} {room : Nat} {r : List UInt8 × Int} {o : Obj} {w' : World} (h : Left wb v room r (w.alloc o) w') : Left wb v room r w w' := by
  obtain ⟨v', h1, h2, h3⟩ := h
  exact ⟨v', h1, ((Turns.refl _ w).alloc o).trans h2 (fun _ _ h => h), fun k hk hlt => h3 k hk (by simp; omega)⟩
theorem WAt.alloc {w : World} {wb : Nat} {v : Value} {room : Nat} {l : List UInt8} {bad : Int} (h : WAt w wb v room l bad) (o : Obj) : WAt (w.alloc o) wb v room l bad :=
  h.touch (S := fun _ => False) ((Turns.refl _ w).alloc o) (fun _ _ h => h)

theorem err_any (wb : Nat) (v : Value) (room : Nat) (l : List UInt8) (bad : Int) (w : World) (h : WAt w wb v room l bad) :
    Calls Tryz.prog 35 #[.pointer (some ⟨wb, 0, none⟩)] w fun e w' => e = .returned (.int .i64 bad) ∧ w = w' := by
  obtain ⟨c0, c1, c2, c3, f2, f3⟩ := h.cells
  clear h
  go_enter Tryz.func35, Tryz.ntmps35
  go_wp2_with (go_at_call 50; refine (none_made _ _ c0).mono ?_; rintro e w' ⟨rfl, rfl⟩)
  go_ret
  exact ⟨rfl, rfl⟩

theorem done_any (wb : Nat) (v : Value) (room : Nat) (l : List UInt8) (bad : Int) (w : World) (h : WAt w wb v room l bad) (hl : l.length ≤ 140737488355328) :
    Calls Tryz.prog 16 #[.pointer (some ⟨wb, 0, none⟩)] w fun e w' =>
      (∃ p n c, e = .returned (.tuple #[.slice p n c, .int .i64 bad]) ∧ w'.ownsRow w.heap.size 5 1 (.slice p n c) n (bytesV (if bad = 0 then l else []))) ∧ Below w.heap.size w w' := by
  obtain ⟨pv, cv, hv, hsv⟩ := own_sl h.own
  subst hv
  obtain ⟨c0, c1, c2, c3, f2, f3⟩ := h.cells
  have HW := Lib.hid h
  have HV := Lib.hid hsv
  clear h hsv
  by_cases hb : bad = 0
  · subst hb
    have hbd : Hid (0 + l.length ≤ 9223372036854775807 ∧ (0 + l.length) * 1 ≤ 140737488355328) := by
      show _ ∧ _; omega
    go_enter Tryz.func16, Tryz.ntmps16
    go_wp2_with (first | (go_at_call 35; refine (err_any _ _ _ _ _ _ HW.out).mono ?_; rintro e w' ⟨rfl, rfl⟩) | (at_builtin; refine wpList_append_nx rfl _ _ 27 rfl (base := w.heap.size) Tryz.underlying27 infoB rfl (by omega) rfl (World.ownsRow_nil _ _ _ _) rfl HV.out (bytesV_one _) hbd.out (Nat.le_refl _) ?_))
    intro p' c' w1 hown hg hnx hne
    have HO : Hid (w1.ownsRow w.heap.size 5 1 (.slice p' (0 + l.length) c') (0 + l.length) (bytesV (if (0 : Int) = 0 then l else []))) := by
      show World.ownsRow _ _ _ _ _ _ _
      simpa using hown
    have HG : Hid (Below w.heap.size w w1) := (Below.refl _ _).grown hg (Nat.le_refl _) (fun k hk => by simp [Value.ownBlock] at hk)
    clear hown hg hnx hne
    go_wp2
    go_ret2
    refine ⟨⟨p', _, c', rfl, ?_⟩, HG.out⟩
    have := HO.out
    rw [Nat.zero_add] at this
    exact this
  · have hb' : (bad != 0) = true := by simp [hb]
    go_enter Tryz.func16, Tryz.ntmps16
    go_wp2_with (go_at_call 35; refine (err_any _ _ _ _ _ _ HW.out).mono ?_; rintro e w' ⟨rfl, rfl⟩)
    go_ret2
    have ho : w.ownsRow w.heap.size 5 1 (.slice none 0 0) 0 (bytesV (if bad = 0 then l else [])) := by rw [if_neg hb]; exact World.ownsRow_nil _ _ _ _
    exact ⟨⟨none, 0, 0, rfl, by simpa [hb] using ho⟩, Below.refl _ _⟩

theorem new_any (room : Int) (w : World) (hr : room ≤ 9223372036854775807) :
    Calls Tryz.prog 13 #[.int .i64 room] w fun e w' => e = .returned (.pointer (some ⟨w.heap.size, 0, none⟩)) ∧ WAt w' w.heap.size (.slice none 0 0) room.toNat [] 0 ∧ Below w.heap.size w w' := by
  have key : Hid (∀ x : Int, x = (room.toNat : Int) → WAt (w.alloc (.cells #[.bool true, .int .i64 x, .slice none 0 0, .int .i64 0] 68)) w.heap.size (.slice none 0 0) room.toNat [] 0) := by
    intro x hx
    subst hx
    exact ⟨heap_alloc_last _ _, World.ownsRow_nil _ _ _ _, by simp [Value.ownBlock], by simp, by omega⟩
  go_enter Tryz.func13, Tryz.ntmps13
  go_wp2
  all_goals
    go_ret
    exact ⟨rfl, key.out _ (by omega), Below.allocs _ _⟩

end Go.Proofs.YtmphajilnkgcaaaGreatDoor.Wr
