/- PARTS, JOINED: CALLS OF A STATEMENT ON CHAINS, that came in. Conditions: none. BLOCKS OF A STATEMENT ON CHAINS, that came in. Conditions: none. A REGION THAT DRAWS ITS ORDER, WALKED BY A TREE: what reads only what stood at its start is taken at once; where two operations may come next, both ways are walked. No program is named. Conditions: none. THE DOCUMENT'S CHAIN: a block connected. Conditions: none. A CHAIN AND THE DOCUMENT'S, one beside the other, while calls are made. Conditions: none. -/
import Derived.Test.YtepemfgiigceoaaChP1
import Derived.Test.YtepemfgiigceoaaChP2
import Derived.Test.YtepemfgiigceoaaChP3
import Derived.Test.YtepemfgiigceoaaChP4
import Derived.Test.YtepemfgiigceoaaChP5
import Derived.Test.YtepemfgiigceoaaChP6
import Derived.Test.YtepemfgiigceoaaChP7
import Derived.Test.YtepemfgiigceoaaRows
namespace Go.Proofs.Ytepemfgiigceoaa.Chn
open Go.ChangeShapes Go.WideShapes Go.ChangeAt Go.RowKit Go.Mir Go.Proofs.Ytepemfgiigceoaa.Blk

theorem trod_cop {W : World} {H : Type} {enc : TypeId × Value → H} {base fuel : Nat} {held : Bool} {cs : List Value} {x : DataW H × List MemPlace} (h : DataW.trod enc Try.prog W base (fun _ => true) held fuel 35 cs = some x) :
    ∃ o : COp, COpAt W cs o := by
  obtain ⟨y0, y1, y2, m, rfl, hl, h0, h1, h2⟩ := Deep.trod_struct3 Try.underlying35 h
  obtain ⟨z0, e0, _, w0⟩ := DataW.trod_int Try.underlying3 h0
  obtain ⟨b1, e1, _⟩ := DataW.trod_bool Try.underlying4 h1
  obtain ⟨d, q, n, c, e2, hb⟩ := trod_blk h2
  have hc0 : Try.prog.cellsOf 3 = 1 := by kernel_rfl
  have hc1 : Try.prog.cellsOf 4 = 1 := by kernel_rfl
  have hc2 : Try.prog.cellsOf 35 = 67 := by kernel_rfl
  have hc3 : Try.prog.cellsOf 33 = 65 := by kernel_rfl
  simp only [hc0, hc1, hc3] at e0 e1 e2
  rw [hc2] at hl
  obtain rfl := hb.ids.count
  refine ⟨⟨z0, b1, d⟩, ⟨q, c, ?_, hb⟩, i64_bd w0⟩
  rw [opA_toList, blkA_toList]
  have e2' : cs.drop 2 = bytesV d.hash ++ bytesV d.par ++ [Value.slice q d.txs.length c] := by rw [← e2]; rw [List.take_of_length_le (by rw [List.length_drop]; omega)]
  have e0' : cs.take 1 = [.int .i64 z0] := by simpa using e0
  have e1' : (cs.drop 1).take 1 = [.bool b1] := e1
  rw [← e2', show ([Value.int .i64 z0, Value.bool b1] : List Value) = cs.take 1 ++ (cs.drop 1).take 1 by rw [e0', e1']; rfl, List.append_assoc, show cs.drop 2 = (cs.drop 1).drop 1 by rw [List.drop_drop], List.take_append_drop, List.take_append_drop]
/-- a slice of them -/
theorem open_cops {W : World} {H : Type} {enc : TypeId × Value → H} {base : Nat} {v : Value} {d : DataW H} {ps : List MemPlace} (hval : Value.okWide Try.prog W .any base 22 v) (h : DataW.Trod enc Try.prog W 0 (fun _ => true) true 22 v d ps) :
    ∃ p c os rows, v = .slice p os.length c ∧ COps W p os.length c os rows := by
  obtain ⟨a, n, c, rfl⟩ := okWide_slice Try.underlying22 hval
  obtain ⟨fuel, hf⟩ := h
  obtain ⟨p, n', c', L, hcs, hr, hdl, hL⟩ := trod_rows (size := 67) (R := fun (o : COp) cs' _ => COpAt W cs' o) Try.underlying22 (by kernel_rfl) (by omega) (fun m cs' y hy => trod_cop hy) hf
  simp [Value.cells] at hcs
  obtain ⟨rfl, rfl, rfl⟩ := hcs
  have hc : (L.map (·.2)).length = n := by
    have := hr.count
    simpa using this
  refine ⟨a, c, L.map (·.2), L.map (·.1), by rw [hc], by rw [hc]; exact hr, rfl, fun i r o h1 h2 => ?_⟩
  simp only [List.getElem?_map, Option.map_eq_some_iff] at h1 h2
  obtain ⟨x1, hx1, rfl⟩ := h1
  obtain ⟨x2, hx2, rfl⟩ := h2
  rw [hx1] at hx2
  cases hx2
  have hlt := (List.getElem?_eq_some_iff.1 hx1).1
  rcases hL with ⟨_, hL⟩ | ⟨elems, spare, hd, hlen, hall⟩
  · subst hL; simp at hlt
  · have := hall i (by omega) hlt
    rw [List.getElem?_eq_getElem hlt] at hx1
    cases hx1
    exact this
end Go.Proofs.Ytepemfgiigceoaa.Chn

namespace Go.Proofs.Ytepemfgiigceoaa.Chn
open Go.ChangeShapes Go.WideShapes Go.ChangeAt Go.RowKit Go.Mir Go.Proofs.Ytepemfgiigceoaa.Blk

theorem open_blks {W : World} {H : Type} {enc : TypeId × Value → H} {base : Nat} {v : Value} {d : DataW H} {ps : List MemPlace} (hval : Value.okWide Try.prog W .any base 37 v) (h : DataW.Trod enc Try.prog W 0 (fun _ => true) true 37 v d ps) :
    ∃ p c ds rows, v = .slice p ds.length c ∧ Bks W p ds.length c ds rows := by
  obtain ⟨a, n, c, rfl⟩ := okWide_slice Try.underlying37 hval
  obtain ⟨fuel, hf⟩ := h
  obtain ⟨p, n', c', L, hcs, hr, hdl, hL⟩ := trod_rows (size := 65) (R := fun (d : BlkD) cs' _ => ∃ q n c, cs' = bytesV d.hash ++ bytesV d.par ++ [Value.slice q n c] ∧ BlkAt W (blkA d.hash d.par q n c) d q n c) Try.underlying37 (by kernel_rfl) (by omega) (fun m cs' y hy => trod_blk hy) hf
  simp [Value.cells] at hcs
  obtain ⟨rfl, rfl, rfl⟩ := hcs
  have hc : (L.map (·.2)).length = n := by
    have := hr.count
    simpa using this
  refine ⟨a, c, L.map (·.2), L.map (·.1), by rw [hc], by rw [hc]; exact hr, rfl, fun i r o h1 h2 => ?_⟩
  simp only [List.getElem?_map, Option.map_eq_some_iff] at h1 h2
  obtain ⟨x1, hx1, rfl⟩ := h1
  obtain ⟨x2, hx2, rfl⟩ := h2
  rw [hx1] at hx2
  cases hx2
  have hlt := (List.getElem?_eq_some_iff.1 hx1).1
  rcases hL with ⟨_, hL⟩ | ⟨elems, spare, hd, hlen, hall⟩
  · subst hL; simp at hlt
  · have := hall i (by omega) hlt
    rw [List.getElem?_eq_getElem hlt] at hx1
    cases hx1
    obtain ⟨q, n', c', e, hb⟩ := this
    obtain rfl := hb.ids.count
    exact ⟨q, c', by rw [blkA_toList]; exact e, hb⟩
end Go.Proofs.Ytepemfgiigceoaa.Chn

namespace Go.Mir
open Go.RowKit

/-- which operation comes next: taken at once; the only one; one of two -/
inductive Tr where
  | nil
  | take (i : Nat) (r : Tr)
  | one (i : Nat) (r : Tr)
  | two (i j : Nat) (r s : Tr)
def Tr.deep : Tr → Nat
  | .nil => 0
  | .take _ r => r.deep + 1
  | .one _ r => r.deep + 1
  | .two _ _ r _ => r.deep + 1
def treeB (ops : Array Oper) : Tr → Array Bool → Bool
  | .nil, l => (Region.ready .any ops l).isEmpty
  | .take i r, l => (ops[i]?).isSome && Region.free .any ops l i && (Region.ready .any ops l).contains i && treeB ops r (l.setIfInBounds i true)
  | .one i r, l => (ops[i]?).isSome && Region.ready .any ops l == [i] && treeB ops r (l.setIfInBounds i true)
  | .two i j r s, l => (ops[i]?).isSome && (ops[j]?).isSome && Region.ready .any ops l == [i, j] && r.deep == s.deep && !(i == j) && treeB ops r (l.setIfInBounds i true) && treeB ops s (l.setIfInBounds j true)
section
variable {P : Program} {ops : Array Oper} {S : World → Prop} {Q : Exit → Act → World → Prop}
/-- one operation, in its turn -/
def wpTurn (P : Program) (ops : Array Oper) (o : Oper) (a : Act) (w : World) (K : Act → World → Prop) (Q : Exit → Act → World → Prop) : Prop :=
  if Region.wanted o (yielded ops a.tmps) then o.wp P a w K Q else K (a.put o.dst undef) w
def wpTree (P : Program) (ops : Array Oper) (S : World → Prop) (Q : Exit → Act → World → Prop) (l : List Oper) : Tr → Act → World → Prop
  | .nil, a, w => Q .normal a w
  | .take i r, a, w => match nthO l i with
    | some o => ∃ v, YieldsIf P ops S o v a ∧ wpTree P ops S Q l r (a.put o.dst v) w
    | none => False
  | .one i r, a, w => match nthO l i with
    | some o => wpTurn P ops o a w (fun a' w' => S w' ∧ wpTree P ops S Q l r a' w') Q
    | none => False
  | .two i j r s, a, w => (match nthO l i with
    | some o => wpTurn P ops o a w (fun a' w' => S w' ∧ wpTree P ops S Q l r a' w') Q
    | none => False) ∧ (match nthO l j with
    | some o => wpTurn P ops o a w (fun a' w' => S w' ∧ wpTree P ops S Q l s a' w') Q
    | none => False)
theorem wpOp_turn {i : Nat} {o : Oper} {K K' : Act → World → Prop} {a : Act} {w : World} (ho : ops[i]? = some o) (hK : ∀ a w, K a w → K' a w) (h : wpTurn P ops o a w K Q) : wpOp P ops Q i K' a w := by
  unfold wpOp
  simp only [ho]
  unfold wpTurn at h
  split at h
  · rename_i hw
    rw [if_pos hw]
    exact .inl (Oper.wp_mono (fun a' w' h5 => hK _ _ h5) h)
  · rename_i hw
    rw [if_neg hw]
    exact hK _ _ h
theorem wpAnyH_tree {l : List Oper} (hl : l.toArray = ops) (hs : Region.noSelect ops = true) (hQ : ∀ c a d v w, Q (.panic c) (a.put d v) w → Q (.panic c) a w) :
    ∀ (t : Tr) (listed : Array Bool) (a : Act) (w : World), treeB ops t listed = true → S w → wpTree P ops S Q l t a w → wpAnyH P .any ops Q S t.deep listed a w
  | .nil, listed, a, w, hp, _, h => by
    refine wpAnyH_done ?_ h _
    simpa [treeB, List.isEmpty_iff] using hp
  | .take i r, listed, a, w, hp, hS, h => by
    simp only [treeB, Bool.and_eq_true] at hp
    obtain ⟨⟨⟨h1, h2⟩, h3⟩, h4⟩ := hp
    obtain ⟨o, ho⟩ := Option.isSome_iff_exists.1 h1
    have hn : nthO l i = some o := by rw [← nthO_eq, hl]; exact ho
    simp only [wpTree, hn] at h
    obtain ⟨v, hy, h⟩ := h
    exact wpAnyH_take ho hs h2 h3 (fun c a w => hQ c a _ _ w) hy hS (wpAnyH_tree hl hs hQ r _ _ _ h4 hS h)
  | .one i r, listed, a, w, hp, hS, h => by
    simp only [treeB, Bool.and_eq_true, beq_iff_eq] at hp
    obtain ⟨⟨h1, h2⟩, h4⟩ := hp
    obtain ⟨o, ho⟩ := Option.isSome_iff_exists.1 h1
    have hn : nthO l i = some o := by rw [← nthO_eq, hl]; exact ho
    simp only [wpTree, hn] at h
    refine wpAnyH_all h2 (by simp) fun j hj => ?_
    rw [List.mem_singleton] at hj
    subst hj
    exact wpOp_turn ho (fun a' w' ⟨h5, h6⟩ => ⟨h5, wpAnyH_tree hl hs hQ r _ _ _ h4 h5 h6⟩) h
  | .two i j r s, listed, a, w, hp, hS, h => by
    simp only [treeB, Bool.and_eq_true, beq_iff_eq] at hp
    obtain ⟨⟨⟨⟨⟨⟨h1, h1'⟩, h2⟩, hd⟩, hne⟩, h4⟩, h4'⟩ := hp
    obtain ⟨o, ho⟩ := Option.isSome_iff_exists.1 h1
    obtain ⟨o', ho'⟩ := Option.isSome_iff_exists.1 h1'
    have hn : nthO l i = some o := by rw [← nthO_eq, hl]; exact ho
    have hn' : nthO l j = some o' := by rw [← nthO_eq, hl]; exact ho'
    simp only [wpTree, hn, hn'] at h
    refine wpAnyH_all h2 (by simp) fun k hk => ?_
    rcases List.mem_cons.1 hk with rfl | hk
    · exact wpOp_turn ho (fun a' w' ⟨h5, h6⟩ => ⟨h5, wpAnyH_tree hl hs hQ r _ _ _ h4 h5 h6⟩) h.1
    · rw [List.mem_singleton] at hk
      subst hk
      exact wpOp_turn ho' (fun a' w' ⟨h5, h6⟩ => ⟨h5, by rw [hd]; exact wpAnyH_tree hl hs hQ s _ _ _ h4' h5 h6⟩) h.2
/-- the beginning -/
theorem wp_region_tree {id : Nat} {a : Act} {w : World} {l : List Oper} (S : World → Prop) (t : Tr) (hm : P.follows .mixedOrders = true)
    (hp : (treeB l.toArray t (Array.replicate l.length false) && Region.noSelect l.toArray && t.deep == l.length) = true) (hS : S w.drew)
    (h : wpTree P l.toArray S (NoPanic Q) l t a w.drew) : (Code.region id l.toArray true).wp P Q a w := by
  refine wp_region_noPanic ?_
  simp only [Bool.and_eq_true, beq_iff_eq] at hp
  obtain ⟨⟨h1, h2⟩, h3⟩ := hp
  have := wpAnyH_tree (P := P) (Q := NoPanic Q) (S := S) (l := l) rfl h2 (fun _ _ _ _ _ h => h) t (Array.replicate l.length false) a w.drew h1 hS h
  refine wp_region_held hm (S := S) ?_
  rw [h3] at this
  have hz : l.toArray.size = l.length := List.size_toArray ..
  rw [hz]
  exact this
/-- its steps -/
theorem tree_take {l : List Oper} {i : Nat} {r : Tr} {a : Act} {w : World} {o : Oper} {v : Value} (hn : nthO l i = some o) (hw : Region.wanted o (yielded ops a.tmps) = true) (hy : ∀ w', S w' → (execOp a.eval o).run P w' = .ok (.value v) w')
    (h : wpTree P ops S Q l r (a.put o.dst v) w) : wpTree P ops S Q l (.take i r) a w := by
  simp only [wpTree, hn]; exact ⟨v, .inl ⟨hw, hy⟩, h⟩
theorem tree_load {l : List Oper} {i : Nat} {r : Tr} {a : Act} {w : World} {op : Oper} (hn : nthO l i = some op) (hw : Region.wanted op (yielded ops a.tmps) = true) (ty : TypeId) (x : Operand) (ho : op.op = .load ty x)
    (b o : Nat) (hx : a.eval x = .pointer (some ⟨b, o, none⟩)) (M : Array Value) (d : TypeDesc) (hc : ∀ w', S w' → w'.rangeAt b o M.toList)
    (hu : P.underlying ty = some d) (hd : d.isRow = true) (hi : (P.info? ty).map (·.size) = some M.size)
    (h : wpTree P ops S Q l r (a.put op.dst (.agg M)) w) : wpTree P ops S Q l (.take i r) a w := by
  refine tree_take hn hw (fun w' hb => ?_) h
  unfold execOp
  simp only [ho, hx, Instr.loadAt, Instr.sureAddr, Sem.run_bind, Sem.run_pure, Result.andThen_ok, run_loadVar_mid w' b o ty M.toList d (hc w' hb) hu hd (by simpa using hi)]
theorem tree_one {l : List Oper} {i : Nat} {r : Tr} {a : Act} {w : World} {o : Oper} (hn : nthO l i = some o) (hw : Region.wanted o (yielded ops a.tmps) = true)
    (h : ∀ K : Act → World → Prop, Shut (∀ a w, S w → wpTree P ops S Q l r a w → K a w) → Oper.wp P o a w K Q) : wpTree P ops S Q l (.one i r) a w := by
  simp only [wpTree, hn, wpTurn]; rw [if_pos hw]; exact h _ fun _ _ h1 h2 => ⟨h1, h2⟩
theorem tree_two {l : List Oper} {i j : Nat} {r s : Tr} {a : Act} {w : World} (h1 : wpTree P ops S Q l (.one i r) a w) (h2 : wpTree P ops S Q l (.one j s) a w) : wpTree P ops S Q l (.two i j r s) a w := by
  simp only [wpTree] at h1 h2 ⊢; exact ⟨h1, h2⟩
theorem tree_nil {l : List Oper} {a : Act} {w : World} (h : Q .normal a w) : wpTree P ops S (NoPanic Q) l .nil a w := h
end
end Go.Mir

namespace Go.Proofs.Ytepemfgiigceoaa.Chn
open Go.RowKit Go.Mir Go.Mir.Parts Go.Proofs.Ytepemfgiigceoaa.Blk

def cutR (depth : Nat) (rows : List (List Value)) : List (List Value) := if depth + 1 < rows.length then rows.drop 1 else rows
def RConnP (depth height : Nat) (ds : List BlkD) (b : BlkD) (p : Option Addr) (c : Nat) (rows : List (List Value)) (M : Array Value) (w : World) (e : Ending) (w' : World) : Prop :=
  Below w.heap.size w w' ∧ if mayE ds height b = 0 then ∃ p' c', e = .returned (.tuple #[.agg (rcA (depth : Int) (height + 1) p' (cutD depth (ds ++ [b])).length c'), .int .i64 0]) ∧ Bks w' p' (cutD depth (ds ++ [b])).length c' (cutD depth (ds ++ [b])) (cutR depth (rows ++ [M.toList])) ∧ (∀ a, p' = some a → w.heap.size ≤ a.block ∧ a.block < w'.heap.size)
    else e = .returned (.tuple #[.agg (rcA (depth : Int) height p ds.length c), .int .i64 (mayE ds height b)])
theorem Bks.snoc {w : World} {p p' : Option Addr} {n c c' : Nat} {ds : List BlkD} {rows : List (List Value)} {b : BlkD} {M : Array Value} {q : Option Addr} {m cc : Nat} (h : Bks w p n c ds rows) (hM : BlkAt w M b q m cc) (hs : Sl w p' (n + 1) c' 65 (rows.flatten ++ M.toList)) :
    Bks w p' (n + 1) c' (ds ++ [b]) (rows ++ [M.toList]) := by
  refine ⟨⟨by rw [List.flatten_append]; simpa using hs, ?_, by rw [List.length_append, h.rs.count]; rfl⟩, by rw [List.length_append, h.count]; rfl, fun i r d h1 h2 => ?_⟩
  · intro r hr
    rcases List.mem_append.1 hr with hr | hr
    · exact h.rs.each r hr
    · rw [List.mem_singleton] at hr
      rw [hr, Array.length_toList, hM.size]
  · rcases get_snoc h1 with h1' | ⟨hi, rfl⟩
    · rcases get_snoc h2 with h2' | ⟨hi2, rfl⟩
      · exact h.each i r d h1' h2'
      · have := (List.getElem?_eq_some_iff.1 h1').1
        rw [h.rs.count] at this
        rw [h.count] at hi2
        omega
    · rcases get_snoc h2 with h2' | ⟨hi2, rfl⟩
      · have := (List.getElem?_eq_some_iff.1 h2').1
        rw [h.count] at this
        rw [h.rs.count] at hi
        omega
      · obtain rfl := hM.ids.count
        refine ⟨q, cc, by rw [hM.arr], ?_⟩
        have := hM
        rwa [hM.arr] at this
theorem Bks.cut {w : World} {p : Option Addr} {c depth : Nat} {ds : List BlkD} {rows : List (List Value)} (h : Bks w p ds.length c ds rows) (hc : depth + 1 < ds.length) : ∃ b o, p = some ⟨b, o, none⟩ ∧ Bks w (some ⟨b, o + 65, none⟩) (cutD depth ds).length (c - 1) (cutD depth ds) (rows.drop 1) := by
  obtain ⟨b, o, rfl⟩ := h.rs.sl.addr (by omega) (by omega)
  refine ⟨b, o, rfl, ?_⟩
  have := h.dropped 1 (by omega)
  unfold cutD
  rw [if_pos hc, List.length_drop]
  simpa using this
theorem flat_one {w : World} {p : Option Addr} {n c : Nat} {ds : List BlkD} {rows : List (List Value)} (h : Bks w p n c ds rows) : ∀ u ∈ rows.flatten, u.oneCell' = true := fun u hu => by
  obtain ⟨r, hr, hur⟩ := List.mem_flatten.1 hu
  obtain ⟨i, hi⟩ := List.mem_iff_getElem?.1 hr
  have hlt := (List.getElem?_eq_some_iff.1 hi).1
  obtain ⟨q, cc, e, hb⟩ := h.each i r _ hi (List.getElem?_eq_getElem (by rw [h.count, ← h.rs.count]; exact hlt))
  rw [e] at hur
  exact List.all_eq_true.1 (by rw [Array.all_toList]; exact hb.one) u hur

set_option maxRecDepth 100000 in
set_option maxHeartbeats 1600000 in
theorem rConn_any (depth height : Nat) (hd : 1 ≤ depth ∧ depth ≤ 16) (hh : height ≤ 4294967295) (ds : List BlkD) (hn : ds.length ≤ depth + 1) (p : Option Addr) (c : Nat) (rows : List (List Value)) (b : BlkD) (M : Array Value) (q : Option Addr) (n cc : Nat) (w : World) (hW : Bks w p ds.length c ds rows) (hM : BlkAt w M b q n cc) :
    Calls Try.prog 33 #[.agg (rcA (depth : Int) height p ds.length c), .agg M] w (RConnP depth height ds b p c rows M w) := by
  obtain ⟨Z, hz, hZ⟩ := zRC
  obtain ⟨RC, hRC⟩ : ∃ RC, RC = rcA (depth : Int) height p ds.length c := ⟨_, rfl⟩
  have HRC := Lib.hid hRC
  have HRS : Hid (RC.size = 3) := by show _ = _; rw [hRC]; rfl
  have HRO : Hid (RC.all (·.oneCell') = true) := by show _ = _; rw [hRC]; exact rcA_one _ _ _ _ _
  have HW := Lib.hid hW
  have HM := Lib.hid hM
  have HMS := Lib.hid hM.size
  have hle := hW.rs.sl.le
  have hmax := hW.rs.sl.max
  obtain ⟨hd1, hd2⟩ := hd
  rw [← hRC]
  have H2 := Lib.hid (two_allocs w (.cells RC 41) (.cells M 33))
  have hb3 := Below.allocs ((w.alloc (.cells RC 41)).alloc (.cells M 33)) (.cells Z 41)
  have HB3 := Lib.hid (H2.out.2.2.2.trans (hb3.mono H2.out.2.2.2.size))
  have HR0 := Lib.hid (Below.keepOld hb3 H2.out.1)
  have HR1 := Lib.hid (Below.keepOld hb3 H2.out.2.1)
  have HR2 : Hid ((((w.alloc (.cells RC 41)).alloc (.cells M 33)).alloc (.cells Z 41)).heap[w.heap.size + 1 + 1]? = some (.cells Z 41 (0, 0))) := by
    show _ = _
    have := heap_alloc_last ((w.alloc (.cells RC 41)).alloc (.cells M 33)) (.cells Z 41)
    rwa [H2.out.2.2.1] at this
  clear hb3 hW hM hRC
  go_enter Try.func33, Try.ntmps33
  go_upto_region 1 with fail
  generalize ((w.alloc (.cells RC 41)).alloc (.cells M 33)).alloc (.cells Z 41) = w3 at *
  try simp only [Act.put, List.setIfInBounds_toArray, List.set_cons_zero, List.set_cons_succ]
  go_wp2_with (first
    | ((with_reducible refine wpAt 8 ?_); refine wpList_load_row_g rfl 41 _ rfl w.heap.size rfl 41 RC (0, 0) _ HR0.out Try.underlying41 rfl (infoRC _ HRS.out) ?_)
    | ((with_reducible refine wpAt 9 ?_); refine wpList_load_row_g rfl 33 _ rfl (w.heap.size + 1) rfl 33 M (0, 0) _ HR1.out Try.underlying33 rfl (infoBlk _ HMS.out) ?_))
  have hmy := rMay_any (depth : Int) height ds p c rows b M q n cc w3 (HW.out.below HB3.out) (HM.out.below HB3.out)
  rw [← HRC.out] at hmy
  refine hmy.mono ?_
  rintro e w4 ⟨rfl, hb4⟩
  have HB4 := Lib.hid (HB3.out.trans (hb4.mono HB3.out.size))
  have HR04 := Lib.hid (Below.keepOld hb4 HR0.out)
  have HR14 := Lib.hid (Below.keepOld hb4 HR1.out)
  have HR24 := Lib.hid (Below.keepOld hb4 HR2.out)
  clear hb4 hmy HR0 HR1 HR2 HB3 H2
  clear w3
  by_cases hme : mayE ds height b = 0
  · have HME := Lib.hid hme
    rw [hme]
    have hht : ¬ height = 4294967295 := may_height hme
    clear hme
    go_upto_region 4 with fail
    try simp only [Act.put, List.setIfInBounds_toArray, List.set_cons_zero, List.set_cons_succ]
    have hSL : Hid (∀ w', Below w4.heap.size w4 w' → Sl w' p ds.length c 65 rows.flatten) := fun w' hb => ((HW.out.below HB4.out).below hb).rs.sl
    have hkc : Hid (∀ w', Below w4.heap.size w4 w' → w'.cell? ⟨w.heap.size, 2, none⟩ = some (.slice p ds.length c)) := fun w' hb => by rw [cell_of_row _ _ _ _ _ _ (Below.keepOld hb HR04.out), HRC.out]; rfl
    have hkM : Hid (∀ w', Below w4.heap.size w4 w' → w'.rangeAt (w.heap.size + 1) 0 M.toList) := fun w' hb => row_rangeC (Below.keepOld hb HR14.out)
    have HON := Lib.hid (flat_one HW.out)
    have HON2 : Hid (∀ u ∈ M.toList, u.oneCell' = true) := fun u hu => List.all_eq_true.1 (by rw [Array.all_toList]; exact HM.out.one) u hu
    have hK1 : 0 + ds.length ≤ 9223372036854775807 ∧ (0 + ds.length) * 88 ≤ 140737488355328 := ⟨by omega, by omega⟩
    have hK2 : 0 + ds.length + 1 ≤ 9223372036854775807 ∧ (0 + ds.length + 1) * 88 ≤ 140737488355328 := ⟨by omega, by omega⟩
    refine wp_region_tree (Below w4.heap.size w4) (.take 1 (.take 2 (.take 4 (.two 0 5 (.two 3 5 (.one 5 (.one 6 (.take 7 .nil))) (.one 3 (.one 6 (.take 7 .nil)))) (.one 0 (.one 3 (.one 6 (.take 7 .nil)))))))) (by kernel_rfl) (by kernel_rfl) (below_drew1 _ _) ?_
    have hy0 : Below w4.heap.size w4 w4.drew := below_drew1 _ _
    have hz0 : w4.heap.size ≤ w4.drew.heap.size := Nat.le_refl _
    generalize w4.drew = wd at *
    (apply tree_take; (· rfl); (· rfl); (· (intro w' hb'; go_simp; try with_reducible rfl)); try simp only [Act.put, List.setIfInBounds_toArray, List.set_cons_zero, List.set_cons_succ])
    (apply tree_take; (· rfl); (· rfl); (· (intro w' hb'; have hk' := (hkc.out) w' hb'; go_simp; try with_reducible rfl)); try simp only [Act.put, List.setIfInBounds_toArray, List.set_cons_zero, List.set_cons_succ])
    refine tree_load rfl (by rfl) 33 _ rfl (w.heap.size + 1) 0 rfl M _ (fun w' hb => hkM.out w' hb) Try.underlying33 rfl (infoBlk _ HMS.out) ?_
    try simp only [Act.put, List.setIfInBounds_toArray, List.set_cons_zero, List.set_cons_succ]
    have hb0 := hy0.alloc hz0 (.cells #[] 33)
    have hb5 := hy0.alloc hz0 (.cells M 33)
    refine tree_two ?_ (?_)
    · refine tree_one rfl (by rfl) (fun K hK => ?_)
      go_simp
      refine Shut.out hK _ _ hb0 ?_
      clear hK K
      try simp only [Act.put, List.setIfInBounds_toArray, List.set_cons_zero, List.set_cons_succ]
      have o1 : (wd.alloc (.cells #[] 33)).ownsRow w4.heap.size 33 65 (.slice (some ⟨wd.heap.size, 0, none⟩) 0 0) 0 [] := own_made0 wd _ _ _ _ rfl hz0
      have hz1 : w4.heap.size ≤ (wd.alloc (.cells #[] 33)).heap.size := hb0.size
      generalize wd.alloc (.cells #[] 33) = wa at *
      refine tree_two ?_ ?_
      · refine tree_one rfl (by rfl) (fun K hK => oper_of_list rfl ?_)
        refine wpList_append_nx rfl _ _ 37 rfl (base := w4.heap.size) Try.underlying37 infoBlocks zblk_size (by omega) rfl o1 rfl (hSL.out _ hb0) HON.out hK1 hz1 ?_
        intro p2 c2 w5 o2 hg2 hnx2 _
        rw [Nat.zero_add] at *
        have hb2 : Below w4.heap.size w4 w5 := hb0.grown hg2 hz1 (fun i hi => (o1.lt i hi).1)
        refine only_end (Shut.out hK _ _ hb2 ?_)
        clear hK K
        try simp only [Act.put, List.setIfInBounds_toArray, List.set_cons_zero, List.set_cons_succ]
        have hz2 : w4.heap.size ≤ w5.heap.size := hb2.size
        refine tree_one rfl (by rfl) (fun K hK => oper_of_list rfl ?_)
        refine wpList_buildOne rfl 37 33 _ rfl M rfl 65 Try.underlying37 (by kernel_rfl) (by omega) (by omega) HMS.out ?_
        have hb6 := hb2.alloc hz2 (.cells M 33)
        have o6 := own_below_alloc o2 (.cells M 33)
        have r6 := heap_alloc_last w5 (.cells M 33)
        have hz6 : w4.heap.size ≤ (w5.alloc (.cells M 33)).heap.size := hb6.size
        refine only_end (Shut.out hK _ _ hb6 ?_)
        clear hK K
        try simp only [Act.put, List.setIfInBounds_toArray, List.set_cons_zero, List.set_cons_succ]
        generalize w5.alloc (.cells M 33) = w6 at *
        refine tree_one rfl (by rfl) (fun K hK => oper_of_list rfl ?_)
        refine wpList_append_nx rfl _ _ 37 rfl (base := w4.heap.size) Try.underlying37 infoBlocks zblk_size (by omega) rfl o6 rfl (row_sl r6 65 HMS.out) HON2.out hK2 hz6 ?_
        intro p9 c9 wf o9 hg9 hnx9 _
        have hbf : Below w4.heap.size w4 wf := hb6.grown hg9 hz6 (fun i hi => (o6.lt i hi).1)
        refine only_end (Shut.out hK _ _ hbf ?_)
        clear hK K
        try simp only [Act.put, List.setIfInBounds_toArray, List.set_cons_zero, List.set_cons_succ]
        rw [List.nil_append] at o9
        (apply tree_take; (· rfl); (· rfl); (· (intro w' hb'; go_simp; try with_reducible rfl)); try simp only [Act.put, List.setIfInBounds_toArray, List.set_cons_zero, List.set_cons_succ])
        refine tree_nil ?_
        have HBK : Hid (Bks wf p9 (ds.length + 1) c9 (ds ++ [b]) (rows ++ [M.toList])) := by
          obtain ⟨p', c', hv, hs⟩ := own_sl o9
          obtain ⟨rfl, -, rfl⟩ := Value.slice.inj hv
          exact Bks.snoc ((HW.out.below HB4.out).below hbf) ((HM.out.below HB4.out).below hbf) hs
        have HBF := Lib.hid (HB4.out.trans (hbf.mono HB4.out.size))
        have HSN : Hid (∀ NA : Array Value, Bks (wf.setRow (w.heap.size + 1 + 1) NA) p9 (ds.length + 1) c9 (ds ++ [b]) (rows ++ [M.toList])) := fun NA => by
          have hbn : Below w.heap.size w (wf.setRow (w.heap.size + 1 + 1) NA) := below_setRow HBF.out (show w.heap.size ≤ w.heap.size + 1 + 1 by omega) NA
          have on := own_touch o9 (turns_setRow wf (w.heap.size + 1 + 1) NA) (fun k hk e => by
            have h1 := (o9.lt k hk).1
            have h2 := (Array.getElem?_eq_some_iff.1 HR24.out).1
            omega)
          obtain ⟨p', c', hv, hs⟩ := own_sl on
          obtain ⟨rfl, -, rfl⟩ := Value.slice.inj hv
          exact Bks.snoc (HW.out.below hbn) (HM.out.below hbn) hs
        have HNW : Hid (∀ (NA : Array Value) a, p9 = some a → w.heap.size ≤ a.block ∧ a.block < (wf.setRow (w.heap.size + 1 + 1) NA).heap.size) := fun NA a ha => by
          have h1 := o9.lt a.block (by rw [ha]; rfl)
          have h2 := HB4.out.size
          have h3 : (wf.setRow (w.heap.size + 1 + 1) NA).heap.size = wf.heap.size := by simp [World.setRow]
          omega
        have HRL : Hid ((rows ++ [M.toList]).length = ds.length + 1) := by show _ = _; rw [List.length_append, HW.out.rs.count]; rfl
        have HF0 := Lib.hid (Below.keepOld hbf HR04.out)
        have HF2 := Lib.hid (Below.keepOld hbf HR24.out)
        have HL6 : Hid ((ds ++ [b]).length = ds.length + 1) := by show _ = _; simp
        generalize hds6 : ds ++ [b] = ds6 at *
        have HDS6 := Lib.hid hds6
        have hlN : ds.length + 1 ≤ 18 := by omega
        generalize ds.length + 1 = N at *
        have hc0 : wf.cell? ⟨w.heap.size, 0, none⟩ = some (.int .i64 (depth : Int)) := by rw [cell_of_row _ _ _ _ _ _ HF0.out, HRC.out]; rfl
        have hc1 : wf.cell? ⟨w.heap.size, 1, none⟩ = some (.int .u32 (height : Int)) := by rw [cell_of_row _ _ _ _ _ _ HF0.out, HRC.out]; rfl
        have hwd : IntKind.i64.wrap ((depth : Int) + 1) = (depth : Int) + 1 := IntWalk.i64_in _ (by omega)
        have hwh : IntKind.u32.wrap ((height : Int) + 1) = (height : Int) + 1 := IntWalk.u32_in _ (by omega)
        have hNc := HBK.out.rs.sl.le
        have hNm := HBK.out.rs.sl.max
        clear hds6 o9 hbf
        clear hSL hkc hkM HON HON2 hK1 hK2 hb0 hb5 hy0 hz0
        by_cases hcut : (depth : Int) + 1 < (N : Int)
        · have e1 : decide ((depth : Int) + 1 < (N : Int)) = true := decide_eq_true hcut
          have e2 : decide (depth + 1 < N) = true := decide_eq_true (by omega)
          obtain ⟨gb, go, rfl, hbk2⟩ : ∃ gb go, p9 = some ⟨gb, go, none⟩ ∧ Bks wf (some ⟨gb, go + 65, none⟩) (cutD depth ds6).length (c9 - 1) (cutD depth ds6) ((rows ++ [M.toList]).drop 1) := by
            have h1 := HBK.out
            rw [← HL6.out] at h1
            exact h1.cut (depth := depth) (by rw [HL6.out]; omega)
          have HB2 := Lib.hid hbk2
          have HCL : Hid ((cutD depth ds6).length = N - 1) := by show _ = _; unfold cutD; rw [if_pos (by rw [HL6.out]; omega), List.length_drop, HL6.out]
          have h1N : 1 ≤ N := by omega
          clear hbk2
          obtain ⟨NA, hNA⟩ : ∃ NA, NA = rcA (depth : Int) (height + 1) (some ⟨gb, go + 65, none⟩) (N - 1) (c9 - 1) := ⟨_, rfl⟩
          have HNE := Lib.hid hNA
          have HNB : Hid (Try.prog.built 41 [(0, .int .i64 (depth : Int)), (1, .int .u32 ((height : Int) + 1)), (2, .slice (some ⟨gb, go + 65, none⟩) (N - 1) (c9 - 1))] = some NA) := by show _ = _; rw [hNA]; unfold rcA; rw [Int.natCast_add]; exact build_rc4 _ _ _ _ _
          have HNS : Hid (NA.size = 3) := by show _ = _; rw [hNA]; rfl
          have HNO : Hid (NA.all (·.oneCell') = true) := by show _ = _; rw [hNA]; exact rcA_one _ _ _ _ _
          have HBG := Lib.hid (below_setRow HBF.out (show w.heap.size ≤ w.heap.size + 1 + 1 by omega) NA)
          have HSG := Lib.hid (setRow_heap _ _ _ NA _ _ HF2.out)
          have HFIN : Hid (∀ w', Below w.heap.size w w' → Bks w' (some ⟨gb, go + 65, none⟩) (cutD depth ds6).length (c9 - 1) (cutD depth ds6) ((rows ++ [M.toList]).drop 1) → (w.heap.size ≤ gb ∧ gb < w'.heap.size) → RConnP depth height ds b p c rows M w (.returned (.tuple #[.agg NA, .int .i64 0])) w') := fun w' hb hk hg => by
            refine ⟨hb, ?_⟩
            rw [if_pos HME.out, HDS6.out]
            exact ⟨_, _, by rw [HNE.out, HCL.out], by unfold cutR; rw [if_pos (by rw [HRL.out]; omega)]; exact hk, fun a ha => by obtain rfl := Option.some.inj ha; exact hg⟩
          have HNG := Lib.hid (HNW.out NA _ rfl)
          have HBK9 : Hid (Bks (wf.setRow (w.heap.size + 1 + 1) NA) (some ⟨gb, go + 65, none⟩) (cutD depth ds6).length (c9 - 1) (cutD depth ds6) ((rows ++ [M.toList]).drop 1)) := by
            have h1 := HSN.out NA
            rw [← HL6.out] at h1
            obtain ⟨gb', go', e, h2⟩ := h1.cut (depth := depth) (by rw [HL6.out]; omega)
            cases e
            exact h2
          clear hNA
          go_wp2_with (first
            | ((with_reducible refine wpAt 36 ?_); refine wpList_build rfl 41 _ rfl [(0, .int .i64 (depth : Int)), (1, .int .u32 ((height : Int) + 1)), (2, .slice (some ⟨gb, go + 65, none⟩) (N - 1) (c9 - 1))] rfl NA HNB.out ?_)
            | ((with_reducible refine wpStoreAt 4 ?_); refine wpList_store_row rfl 41 _ _ rfl (w.heap.size + 1 + 1) NA rfl rfl 41 Z HF2.out (infoRC _ HNS.out) (by rw [hZ.out, HNS.out]) HNO.out ?_))
          refine bodyPost_ret (results_row_tmp rfl _ _ _ _ _ _ _ rfl HSG.out Try.underlying41 rfl (infoRC _ HNS.out)) rfl ?_
          exact HFIN.out _ HBG.out HBK9.out HNG.out
        · have e1 : decide ((depth : Int) + 1 < (N : Int)) = false := decide_eq_false hcut
          have e2 : decide (depth + 1 < N) = false := decide_eq_false (by omega)
          obtain ⟨NA, hNA⟩ : ∃ NA, NA = rcA (depth : Int) (height + 1) p9 N c9 := ⟨_, rfl⟩
          have HNE := Lib.hid hNA
          have HCD : Hid (cutD depth ds6 = ds6) := by show _ = _; unfold cutD; rw [if_neg (by rw [HL6.out]; omega)]
          have HNB : Hid (Try.prog.built 41 [(0, .int .i64 (depth : Int)), (1, .int .u32 ((height : Int) + 1)), (2, .slice p9 N c9)] = some NA) := by show _ = _; rw [hNA]; unfold rcA; rw [Int.natCast_add]; exact build_rc4 _ _ _ _ _
          have HNS : Hid (NA.size = 3) := by show _ = _; rw [hNA]; rfl
          have HNO : Hid (NA.all (·.oneCell') = true) := by show _ = _; rw [hNA]; exact rcA_one _ _ _ _ _
          have HBG := Lib.hid (below_setRow HBF.out (show w.heap.size ≤ w.heap.size + 1 + 1 by omega) NA)
          have HSG := Lib.hid (setRow_heap _ _ _ NA _ _ HF2.out)
          have HFIN : Hid (∀ w', Below w.heap.size w w' → Bks w' p9 N c9 ds6 (rows ++ [M.toList]) → (∀ a, p9 = some a → w.heap.size ≤ a.block ∧ a.block < w'.heap.size) → RConnP depth height ds b p c rows M w (.returned (.tuple #[.agg NA, .int .i64 0])) w') := fun w' hb hk hg => by
            refine ⟨hb, ?_⟩
            rw [if_pos HME.out, HDS6.out, HCD.out]
            exact ⟨p9, c9, by rw [HNE.out, HL6.out], by rw [HL6.out]; unfold cutR; rw [if_neg (by rw [HRL.out]; omega)]; exact hk, hg⟩
          have HNG := Lib.hid (HNW.out NA)
          have HBK9 := Lib.hid (HSN.out NA)
          clear hNA
          go_wp2_with (first
            | ((with_reducible refine wpAt 36 ?_); refine wpList_build rfl 41 _ rfl [(0, .int .i64 (depth : Int)), (1, .int .u32 ((height : Int) + 1)), (2, .slice p9 N c9)] rfl NA HNB.out ?_)
            | ((with_reducible refine wpStoreAt 4 ?_); refine wpList_store_row rfl 41 _ _ rfl (w.heap.size + 1 + 1) NA rfl rfl 41 Z HF2.out (infoRC _ HNS.out) (by rw [hZ.out, HNS.out]) HNO.out ?_))
          refine bodyPost_ret (results_row_tmp rfl _ _ _ _ _ _ _ rfl HSG.out Try.underlying41 rfl (infoRC _ HNS.out)) rfl ?_
          exact HFIN.out _ HBG.out HBK9.out HNG.out
      · refine tree_one rfl (by rfl) (fun K hK => oper_of_list rfl ?_)
        refine wpList_buildOne rfl 37 33 _ rfl M rfl 65 Try.underlying37 (by kernel_rfl) (by omega) (by omega) HMS.out ?_
        have hb2 := hb0.alloc hz1 (.cells M 33)
        have o2 := own_below_alloc o1 (.cells M 33)
        have r2 := heap_alloc_last wa (.cells M 33)
        have hz2 : w4.heap.size ≤ (wa.alloc (.cells M 33)).heap.size := hb2.size
        have hne : wa.heap.size ≠ wd.heap.size := fun e => by have := (o1.lt wd.heap.size rfl).2; omega
        refine only_end (Shut.out hK _ _ hb2 ?_)
        clear hK K
        try simp only [Act.put, List.setIfInBounds_toArray, List.set_cons_zero, List.set_cons_succ]
        generalize wa.alloc (.cells M 33) = wc at *
        refine tree_one rfl (by rfl) (fun K hK => oper_of_list rfl ?_)
        refine wpList_append_nx rfl _ _ 37 rfl (base := w4.heap.size) Try.underlying37 infoBlocks zblk_size (by omega) rfl o2 rfl (hSL.out _ hb2) HON.out hK1 hz2 ?_
        intro p2 c2 w6 o6 hg2 hnx2 _
        rw [Nat.zero_add] at *
        have hb6 : Below w4.heap.size w4 w6 := hb2.grown hg2 hz2 (fun i hi => (o2.lt i hi).1)
        have r6 : w6.heap[wa.heap.size]? = some (.cells M 33 (0, 0)) := by
          rw [hg2.block _ (Array.getElem?_eq_some_iff.1 r2).1 (fun e => hne (by injection e))]
          exact r2
        refine only_end (Shut.out hK _ _ hb6 ?_)
        clear hK K
        try simp only [Act.put, List.setIfInBounds_toArray, List.set_cons_zero, List.set_cons_succ]
        have hz6 : w4.heap.size ≤ w6.heap.size := hb6.size
        refine tree_one rfl (by rfl) (fun K hK => oper_of_list rfl ?_)
        refine wpList_append_nx rfl _ _ 37 rfl (base := w4.heap.size) Try.underlying37 infoBlocks zblk_size (by omega) rfl o6 rfl (row_sl r6 65 HMS.out) HON2.out hK2 hz6 ?_
        intro p9 c9 wf o9 hg9 hnx9 _
        have hbf : Below w4.heap.size w4 wf := hb6.grown hg9 hz6 (fun i hi => (o6.lt i hi).1)
        refine only_end (Shut.out hK _ _ hbf ?_)
        clear hK K
        try simp only [Act.put, List.setIfInBounds_toArray, List.set_cons_zero, List.set_cons_succ]
        rw [List.nil_append] at o9
        (apply tree_take; (· rfl); (· rfl); (· (intro w' hb'; go_simp; try with_reducible rfl)); try simp only [Act.put, List.setIfInBounds_toArray, List.set_cons_zero, List.set_cons_succ])
        refine tree_nil ?_
        have HBK : Hid (Bks wf p9 (ds.length + 1) c9 (ds ++ [b]) (rows ++ [M.toList])) := by
          obtain ⟨p', c', hv, hs⟩ := own_sl o9
          obtain ⟨rfl, -, rfl⟩ := Value.slice.inj hv
          exact Bks.snoc ((HW.out.below HB4.out).below hbf) ((HM.out.below HB4.out).below hbf) hs
        have HBF := Lib.hid (HB4.out.trans (hbf.mono HB4.out.size))
        have HSN : Hid (∀ NA : Array Value, Bks (wf.setRow (w.heap.size + 1 + 1) NA) p9 (ds.length + 1) c9 (ds ++ [b]) (rows ++ [M.toList])) := fun NA => by
          have hbn : Below w.heap.size w (wf.setRow (w.heap.size + 1 + 1) NA) := below_setRow HBF.out (show w.heap.size ≤ w.heap.size + 1 + 1 by omega) NA
          have on := own_touch o9 (turns_setRow wf (w.heap.size + 1 + 1) NA) (fun k hk e => by
            have h1 := (o9.lt k hk).1
            have h2 := (Array.getElem?_eq_some_iff.1 HR24.out).1
            omega)
          obtain ⟨p', c', hv, hs⟩ := own_sl on
          obtain ⟨rfl, -, rfl⟩ := Value.slice.inj hv
          exact Bks.snoc (HW.out.below hbn) (HM.out.below hbn) hs
        have HNW : Hid (∀ (NA : Array Value) a, p9 = some a → w.heap.size ≤ a.block ∧ a.block < (wf.setRow (w.heap.size + 1 + 1) NA).heap.size) := fun NA a ha => by
          have h1 := o9.lt a.block (by rw [ha]; rfl)
          have h2 := HB4.out.size
          have h3 : (wf.setRow (w.heap.size + 1 + 1) NA).heap.size = wf.heap.size := by simp [World.setRow]
          omega
        have HRL : Hid ((rows ++ [M.toList]).length = ds.length + 1) := by show _ = _; rw [List.length_append, HW.out.rs.count]; rfl
        have HF0 := Lib.hid (Below.keepOld hbf HR04.out)
        have HF2 := Lib.hid (Below.keepOld hbf HR24.out)
        have HL6 : Hid ((ds ++ [b]).length = ds.length + 1) := by show _ = _; simp
        generalize hds6 : ds ++ [b] = ds6 at *
        have HDS6 := Lib.hid hds6
        have hlN : ds.length + 1 ≤ 18 := by omega
        generalize ds.length + 1 = N at *
        have hc0 : wf.cell? ⟨w.heap.size, 0, none⟩ = some (.int .i64 (depth : Int)) := by rw [cell_of_row _ _ _ _ _ _ HF0.out, HRC.out]; rfl
        have hc1 : wf.cell? ⟨w.heap.size, 1, none⟩ = some (.int .u32 (height : Int)) := by rw [cell_of_row _ _ _ _ _ _ HF0.out, HRC.out]; rfl
        have hwd : IntKind.i64.wrap ((depth : Int) + 1) = (depth : Int) + 1 := IntWalk.i64_in _ (by omega)
        have hwh : IntKind.u32.wrap ((height : Int) + 1) = (height : Int) + 1 := IntWalk.u32_in _ (by omega)
        have hNc := HBK.out.rs.sl.le
        have hNm := HBK.out.rs.sl.max
        clear hds6 o9 hbf
        clear hSL hkc hkM HON HON2 hK1 hK2 hb0 hb5 hy0 hz0
        by_cases hcut : (depth : Int) + 1 < (N : Int)
        · have e1 : decide ((depth : Int) + 1 < (N : Int)) = true := decide_eq_true hcut
          have e2 : decide (depth + 1 < N) = true := decide_eq_true (by omega)
          obtain ⟨gb, go, rfl, hbk2⟩ : ∃ gb go, p9 = some ⟨gb, go, none⟩ ∧ Bks wf (some ⟨gb, go + 65, none⟩) (cutD depth ds6).length (c9 - 1) (cutD depth ds6) ((rows ++ [M.toList]).drop 1) := by
            have h1 := HBK.out
            rw [← HL6.out] at h1
            exact h1.cut (depth := depth) (by rw [HL6.out]; omega)
          have HB2 := Lib.hid hbk2
          have HCL : Hid ((cutD depth ds6).length = N - 1) := by show _ = _; unfold cutD; rw [if_pos (by rw [HL6.out]; omega), List.length_drop, HL6.out]
          have h1N : 1 ≤ N := by omega
          clear hbk2
          obtain ⟨NA, hNA⟩ : ∃ NA, NA = rcA (depth : Int) (height + 1) (some ⟨gb, go + 65, none⟩) (N - 1) (c9 - 1) := ⟨_, rfl⟩
          have HNE := Lib.hid hNA
          have HNB : Hid (Try.prog.built 41 [(0, .int .i64 (depth : Int)), (1, .int .u32 ((height : Int) + 1)), (2, .slice (some ⟨gb, go + 65, none⟩) (N - 1) (c9 - 1))] = some NA) := by show _ = _; rw [hNA]; unfold rcA; rw [Int.natCast_add]; exact build_rc4 _ _ _ _ _
          have HNS : Hid (NA.size = 3) := by show _ = _; rw [hNA]; rfl
          have HNO : Hid (NA.all (·.oneCell') = true) := by show _ = _; rw [hNA]; exact rcA_one _ _ _ _ _
          have HBG := Lib.hid (below_setRow HBF.out (show w.heap.size ≤ w.heap.size + 1 + 1 by omega) NA)
          have HSG := Lib.hid (setRow_heap _ _ _ NA _ _ HF2.out)
          have HFIN : Hid (∀ w', Below w.heap.size w w' → Bks w' (some ⟨gb, go + 65, none⟩) (cutD depth ds6).length (c9 - 1) (cutD depth ds6) ((rows ++ [M.toList]).drop 1) → (w.heap.size ≤ gb ∧ gb < w'.heap.size) → RConnP depth height ds b p c rows M w (.returned (.tuple #[.agg NA, .int .i64 0])) w') := fun w' hb hk hg => by
            refine ⟨hb, ?_⟩
            rw [if_pos HME.out, HDS6.out]
            exact ⟨_, _, by rw [HNE.out, HCL.out], by unfold cutR; rw [if_pos (by rw [HRL.out]; omega)]; exact hk, fun a ha => by obtain rfl := Option.some.inj ha; exact hg⟩
          have HNG := Lib.hid (HNW.out NA _ rfl)
          have HBK9 : Hid (Bks (wf.setRow (w.heap.size + 1 + 1) NA) (some ⟨gb, go + 65, none⟩) (cutD depth ds6).length (c9 - 1) (cutD depth ds6) ((rows ++ [M.toList]).drop 1)) := by
            have h1 := HSN.out NA
            rw [← HL6.out] at h1
            obtain ⟨gb', go', e, h2⟩ := h1.cut (depth := depth) (by rw [HL6.out]; omega)
            cases e
            exact h2
          clear hNA
          go_wp2_with (first
            | ((with_reducible refine wpAt 36 ?_); refine wpList_build rfl 41 _ rfl [(0, .int .i64 (depth : Int)), (1, .int .u32 ((height : Int) + 1)), (2, .slice (some ⟨gb, go + 65, none⟩) (N - 1) (c9 - 1))] rfl NA HNB.out ?_)
            | ((with_reducible refine wpStoreAt 4 ?_); refine wpList_store_row rfl 41 _ _ rfl (w.heap.size + 1 + 1) NA rfl rfl 41 Z HF2.out (infoRC _ HNS.out) (by rw [hZ.out, HNS.out]) HNO.out ?_))
          refine bodyPost_ret (results_row_tmp rfl _ _ _ _ _ _ _ rfl HSG.out Try.underlying41 rfl (infoRC _ HNS.out)) rfl ?_
          exact HFIN.out _ HBG.out HBK9.out HNG.out
        · have e1 : decide ((depth : Int) + 1 < (N : Int)) = false := decide_eq_false hcut
          have e2 : decide (depth + 1 < N) = false := decide_eq_false (by omega)
          obtain ⟨NA, hNA⟩ : ∃ NA, NA = rcA (depth : Int) (height + 1) p9 N c9 := ⟨_, rfl⟩
          have HNE := Lib.hid hNA
          have HCD : Hid (cutD depth ds6 = ds6) := by show _ = _; unfold cutD; rw [if_neg (by rw [HL6.out]; omega)]
          have HNB : Hid (Try.prog.built 41 [(0, .int .i64 (depth : Int)), (1, .int .u32 ((height : Int) + 1)), (2, .slice p9 N c9)] = some NA) := by show _ = _; rw [hNA]; unfold rcA; rw [Int.natCast_add]; exact build_rc4 _ _ _ _ _
          have HNS : Hid (NA.size = 3) := by show _ = _; rw [hNA]; rfl
          have HNO : Hid (NA.all (·.oneCell') = true) := by show _ = _; rw [hNA]; exact rcA_one _ _ _ _ _
          have HBG := Lib.hid (below_setRow HBF.out (show w.heap.size ≤ w.heap.size + 1 + 1 by omega) NA)
          have HSG := Lib.hid (setRow_heap _ _ _ NA _ _ HF2.out)
          have HFIN : Hid (∀ w', Below w.heap.size w w' → Bks w' p9 N c9 ds6 (rows ++ [M.toList]) → (∀ a, p9 = some a → w.heap.size ≤ a.block ∧ a.block < w'.heap.size) → RConnP depth height ds b p c rows M w (.returned (.tuple #[.agg NA, .int .i64 0])) w') := fun w' hb hk hg => by
            refine ⟨hb, ?_⟩
            rw [if_pos HME.out, HDS6.out, HCD.out]
            exact ⟨p9, c9, by rw [HNE.out, HL6.out], by rw [HL6.out]; unfold cutR; rw [if_neg (by rw [HRL.out]; omega)]; exact hk, hg⟩
          have HNG := Lib.hid (HNW.out NA)
          have HBK9 := Lib.hid (HSN.out NA)
          clear hNA
          go_wp2_with (first
            | ((with_reducible refine wpAt 36 ?_); refine wpList_build rfl 41 _ rfl [(0, .int .i64 (depth : Int)), (1, .int .u32 ((height : Int) + 1)), (2, .slice p9 N c9)] rfl NA HNB.out ?_)
            | ((with_reducible refine wpStoreAt 4 ?_); refine wpList_store_row rfl 41 _ _ rfl (w.heap.size + 1 + 1) NA rfl rfl 41 Z HF2.out (infoRC _ HNS.out) (by rw [hZ.out, HNS.out]) HNO.out ?_))
          refine bodyPost_ret (results_row_tmp rfl _ _ _ _ _ _ _ rfl HSG.out Try.underlying41 rfl (infoRC _ HNS.out)) rfl ?_
          exact HFIN.out _ HBG.out HBK9.out HNG.out
    · refine tree_one rfl (by rfl) (fun K hK => oper_of_list rfl ?_)
      refine wpList_buildOne rfl 37 33 _ rfl M rfl 65 Try.underlying37 (by kernel_rfl) (by omega) (by omega) HMS.out ?_
      have r1 := heap_alloc_last wd (.cells M 33)
      have hz1 : w4.heap.size ≤ (wd.alloc (.cells M 33)).heap.size := hb5.size
      refine only_end (Shut.out hK _ _ hb5 ?_)
      clear hK K
      try simp only [Act.put, List.setIfInBounds_toArray, List.set_cons_zero, List.set_cons_succ]
      generalize wd.alloc (.cells M 33) = wa at *
      refine tree_one rfl (by rfl) (fun K hK => ?_)
      go_simp
      have hb2 := hb5.alloc hz1 (.cells #[] 33)
      refine Shut.out hK _ _ hb2 ?_
      clear hK K
      try simp only [Act.put, List.setIfInBounds_toArray, List.set_cons_zero, List.set_cons_succ]
      have o2 : (wa.alloc (.cells #[] 33)).ownsRow w4.heap.size 33 65 (.slice (some ⟨wa.heap.size, 0, none⟩) 0 0) 0 [] := own_made0 wa _ _ _ _ rfl hz1
      have r2 := block_old (.cells #[] 33) r1
      have hne : wd.heap.size ≠ wa.heap.size := fun e => by have := (Array.getElem?_eq_some_iff.1 r1).1; omega
      have hz2 : w4.heap.size ≤ (wa.alloc (.cells #[] 33)).heap.size := hb2.size
      generalize wa.alloc (.cells #[] 33) = wc at *
      refine tree_one rfl (by rfl) (fun K hK => oper_of_list rfl ?_)
      refine wpList_append_nx rfl _ _ 37 rfl (base := w4.heap.size) Try.underlying37 infoBlocks zblk_size (by omega) rfl o2 rfl (hSL.out _ hb2) HON.out hK1 hz2 ?_
      intro p2 c2 w6 o6 hg2 hnx2 _
      rw [Nat.zero_add] at *
      have hb6 : Below w4.heap.size w4 w6 := hb2.grown hg2 hz2 (fun i hi => (o2.lt i hi).1)
      have r6 : w6.heap[wd.heap.size]? = some (.cells M 33 (0, 0)) := by
        rw [hg2.block _ (Array.getElem?_eq_some_iff.1 r2).1 (fun e => hne (by injection e))]
        exact r2
      refine only_end (Shut.out hK _ _ hb6 ?_)
      clear hK K
      try simp only [Act.put, List.setIfInBounds_toArray, List.set_cons_zero, List.set_cons_succ]
      have hz6 : w4.heap.size ≤ w6.heap.size := hb6.size
      refine tree_one rfl (by rfl) (fun K hK => oper_of_list rfl ?_)
      refine wpList_append_nx rfl _ _ 37 rfl (base := w4.heap.size) Try.underlying37 infoBlocks zblk_size (by omega) rfl o6 rfl (row_sl r6 65 HMS.out) HON2.out hK2 hz6 ?_
      intro p9 c9 wf o9 hg9 hnx9 _
      have hbf : Below w4.heap.size w4 wf := hb6.grown hg9 hz6 (fun i hi => (o6.lt i hi).1)
      refine only_end (Shut.out hK _ _ hbf ?_)
      clear hK K
      try simp only [Act.put, List.setIfInBounds_toArray, List.set_cons_zero, List.set_cons_succ]
      rw [List.nil_append] at o9
      (apply tree_take; (· rfl); (· rfl); (· (intro w' hb'; go_simp; try with_reducible rfl)); try simp only [Act.put, List.setIfInBounds_toArray, List.set_cons_zero, List.set_cons_succ])
      refine tree_nil ?_
      have HBK : Hid (Bks wf p9 (ds.length + 1) c9 (ds ++ [b]) (rows ++ [M.toList])) := by
        obtain ⟨p', c', hv, hs⟩ := own_sl o9
        obtain ⟨rfl, -, rfl⟩ := Value.slice.inj hv
        exact Bks.snoc ((HW.out.below HB4.out).below hbf) ((HM.out.below HB4.out).below hbf) hs
      have HBF := Lib.hid (HB4.out.trans (hbf.mono HB4.out.size))
      have HSN : Hid (∀ NA : Array Value, Bks (wf.setRow (w.heap.size + 1 + 1) NA) p9 (ds.length + 1) c9 (ds ++ [b]) (rows ++ [M.toList])) := fun NA => by
        have hbn : Below w.heap.size w (wf.setRow (w.heap.size + 1 + 1) NA) := below_setRow HBF.out (show w.heap.size ≤ w.heap.size + 1 + 1 by omega) NA
        have on := own_touch o9 (turns_setRow wf (w.heap.size + 1 + 1) NA) (fun k hk e => by
          have h1 := (o9.lt k hk).1
          have h2 := (Array.getElem?_eq_some_iff.1 HR24.out).1
          omega)
        obtain ⟨p', c', hv, hs⟩ := own_sl on
        obtain ⟨rfl, -, rfl⟩ := Value.slice.inj hv
        exact Bks.snoc (HW.out.below hbn) (HM.out.below hbn) hs
      have HNW : Hid (∀ (NA : Array Value) a, p9 = some a → w.heap.size ≤ a.block ∧ a.block < (wf.setRow (w.heap.size + 1 + 1) NA).heap.size) := fun NA a ha => by
        have h1 := o9.lt a.block (by rw [ha]; rfl)
        have h2 := HB4.out.size
        have h3 : (wf.setRow (w.heap.size + 1 + 1) NA).heap.size = wf.heap.size := by simp [World.setRow]
        omega
      have HRL : Hid ((rows ++ [M.toList]).length = ds.length + 1) := by show _ = _; rw [List.length_append, HW.out.rs.count]; rfl
      have HF0 := Lib.hid (Below.keepOld hbf HR04.out)
      have HF2 := Lib.hid (Below.keepOld hbf HR24.out)
      have HL6 : Hid ((ds ++ [b]).length = ds.length + 1) := by show _ = _; simp
      generalize hds6 : ds ++ [b] = ds6 at *
      have HDS6 := Lib.hid hds6
      have hlN : ds.length + 1 ≤ 18 := by omega
      generalize ds.length + 1 = N at *
      have hc0 : wf.cell? ⟨w.heap.size, 0, none⟩ = some (.int .i64 (depth : Int)) := by rw [cell_of_row _ _ _ _ _ _ HF0.out, HRC.out]; rfl
      have hc1 : wf.cell? ⟨w.heap.size, 1, none⟩ = some (.int .u32 (height : Int)) := by rw [cell_of_row _ _ _ _ _ _ HF0.out, HRC.out]; rfl
      have hwd : IntKind.i64.wrap ((depth : Int) + 1) = (depth : Int) + 1 := IntWalk.i64_in _ (by omega)
      have hwh : IntKind.u32.wrap ((height : Int) + 1) = (height : Int) + 1 := IntWalk.u32_in _ (by omega)
      have hNc := HBK.out.rs.sl.le
      have hNm := HBK.out.rs.sl.max
      clear hds6 o9 hbf
      clear hSL hkc hkM HON HON2 hK1 hK2 hb0 hb5 hy0 hz0
      by_cases hcut : (depth : Int) + 1 < (N : Int)
      · have e1 : decide ((depth : Int) + 1 < (N : Int)) = true := decide_eq_true hcut
        have e2 : decide (depth + 1 < N) = true := decide_eq_true (by omega)
        obtain ⟨gb, go, rfl, hbk2⟩ : ∃ gb go, p9 = some ⟨gb, go, none⟩ ∧ Bks wf (some ⟨gb, go + 65, none⟩) (cutD depth ds6).length (c9 - 1) (cutD depth ds6) ((rows ++ [M.toList]).drop 1) := by
          have h1 := HBK.out
          rw [← HL6.out] at h1
          exact h1.cut (depth := depth) (by rw [HL6.out]; omega)
        have HB2 := Lib.hid hbk2
        have HCL : Hid ((cutD depth ds6).length = N - 1) := by show _ = _; unfold cutD; rw [if_pos (by rw [HL6.out]; omega), List.length_drop, HL6.out]
        have h1N : 1 ≤ N := by omega
        clear hbk2
        obtain ⟨NA, hNA⟩ : ∃ NA, NA = rcA (depth : Int) (height + 1) (some ⟨gb, go + 65, none⟩) (N - 1) (c9 - 1) := ⟨_, rfl⟩
        have HNE := Lib.hid hNA
        have HNB : Hid (Try.prog.built 41 [(0, .int .i64 (depth : Int)), (1, .int .u32 ((height : Int) + 1)), (2, .slice (some ⟨gb, go + 65, none⟩) (N - 1) (c9 - 1))] = some NA) := by show _ = _; rw [hNA]; unfold rcA; rw [Int.natCast_add]; exact build_rc4 _ _ _ _ _
        have HNS : Hid (NA.size = 3) := by show _ = _; rw [hNA]; rfl
        have HNO : Hid (NA.all (·.oneCell') = true) := by show _ = _; rw [hNA]; exact rcA_one _ _ _ _ _
        have HBG := Lib.hid (below_setRow HBF.out (show w.heap.size ≤ w.heap.size + 1 + 1 by omega) NA)
        have HSG := Lib.hid (setRow_heap _ _ _ NA _ _ HF2.out)
        have HFIN : Hid (∀ w', Below w.heap.size w w' → Bks w' (some ⟨gb, go + 65, none⟩) (cutD depth ds6).length (c9 - 1) (cutD depth ds6) ((rows ++ [M.toList]).drop 1) → (w.heap.size ≤ gb ∧ gb < w'.heap.size) → RConnP depth height ds b p c rows M w (.returned (.tuple #[.agg NA, .int .i64 0])) w') := fun w' hb hk hg => by
          refine ⟨hb, ?_⟩
          rw [if_pos HME.out, HDS6.out]
          exact ⟨_, _, by rw [HNE.out, HCL.out], by unfold cutR; rw [if_pos (by rw [HRL.out]; omega)]; exact hk, fun a ha => by obtain rfl := Option.some.inj ha; exact hg⟩
        have HNG := Lib.hid (HNW.out NA _ rfl)
        have HBK9 : Hid (Bks (wf.setRow (w.heap.size + 1 + 1) NA) (some ⟨gb, go + 65, none⟩) (cutD depth ds6).length (c9 - 1) (cutD depth ds6) ((rows ++ [M.toList]).drop 1)) := by
          have h1 := HSN.out NA
          rw [← HL6.out] at h1
          obtain ⟨gb', go', e, h2⟩ := h1.cut (depth := depth) (by rw [HL6.out]; omega)
          cases e
          exact h2
        clear hNA
        go_wp2_with (first
          | ((with_reducible refine wpAt 36 ?_); refine wpList_build rfl 41 _ rfl [(0, .int .i64 (depth : Int)), (1, .int .u32 ((height : Int) + 1)), (2, .slice (some ⟨gb, go + 65, none⟩) (N - 1) (c9 - 1))] rfl NA HNB.out ?_)
          | ((with_reducible refine wpStoreAt 4 ?_); refine wpList_store_row rfl 41 _ _ rfl (w.heap.size + 1 + 1) NA rfl rfl 41 Z HF2.out (infoRC _ HNS.out) (by rw [hZ.out, HNS.out]) HNO.out ?_))
        refine bodyPost_ret (results_row_tmp rfl _ _ _ _ _ _ _ rfl HSG.out Try.underlying41 rfl (infoRC _ HNS.out)) rfl ?_
        exact HFIN.out _ HBG.out HBK9.out HNG.out
      · have e1 : decide ((depth : Int) + 1 < (N : Int)) = false := decide_eq_false hcut
        have e2 : decide (depth + 1 < N) = false := decide_eq_false (by omega)
        obtain ⟨NA, hNA⟩ : ∃ NA, NA = rcA (depth : Int) (height + 1) p9 N c9 := ⟨_, rfl⟩
        have HNE := Lib.hid hNA
        have HCD : Hid (cutD depth ds6 = ds6) := by show _ = _; unfold cutD; rw [if_neg (by rw [HL6.out]; omega)]
        have HNB : Hid (Try.prog.built 41 [(0, .int .i64 (depth : Int)), (1, .int .u32 ((height : Int) + 1)), (2, .slice p9 N c9)] = some NA) := by show _ = _; rw [hNA]; unfold rcA; rw [Int.natCast_add]; exact build_rc4 _ _ _ _ _
        have HNS : Hid (NA.size = 3) := by show _ = _; rw [hNA]; rfl
        have HNO : Hid (NA.all (·.oneCell') = true) := by show _ = _; rw [hNA]; exact rcA_one _ _ _ _ _
        have HBG := Lib.hid (below_setRow HBF.out (show w.heap.size ≤ w.heap.size + 1 + 1 by omega) NA)
        have HSG := Lib.hid (setRow_heap _ _ _ NA _ _ HF2.out)
        have HFIN : Hid (∀ w', Below w.heap.size w w' → Bks w' p9 N c9 ds6 (rows ++ [M.toList]) → (∀ a, p9 = some a → w.heap.size ≤ a.block ∧ a.block < w'.heap.size) → RConnP depth height ds b p c rows M w (.returned (.tuple #[.agg NA, .int .i64 0])) w') := fun w' hb hk hg => by
          refine ⟨hb, ?_⟩
          rw [if_pos HME.out, HDS6.out, HCD.out]
          exact ⟨p9, c9, by rw [HNE.out, HL6.out], by rw [HL6.out]; unfold cutR; rw [if_neg (by rw [HRL.out]; omega)]; exact hk, hg⟩
        have HNG := Lib.hid (HNW.out NA)
        have HBK9 := Lib.hid (HSN.out NA)
        clear hNA
        go_wp2_with (first
          | ((with_reducible refine wpAt 36 ?_); refine wpList_build rfl 41 _ rfl [(0, .int .i64 (depth : Int)), (1, .int .u32 ((height : Int) + 1)), (2, .slice p9 N c9)] rfl NA HNB.out ?_)
          | ((with_reducible refine wpStoreAt 4 ?_); refine wpList_store_row rfl 41 _ _ rfl (w.heap.size + 1 + 1) NA rfl rfl 41 Z HF2.out (infoRC _ HNS.out) (by rw [hZ.out, HNS.out]) HNO.out ?_))
        refine bodyPost_ret (results_row_tmp rfl _ _ _ _ _ _ _ rfl HSG.out Try.underlying41 rfl (infoRC _ HNS.out)) rfl ?_
        exact HFIN.out _ HBG.out HBK9.out HNG.out
  · have HME := Lib.hid hme
    have hne : (mayE ds height b == 0) = false := by rw [beq_eq_false_iff_ne]; exact hme
    have HFIN : Hid (∀ w', Below w.heap.size w w' → RConnP depth height ds b p c rows M w (.returned (.tuple #[.agg RC, .int .i64 (mayE ds height b)])) w') := fun w' hb => by
      refine ⟨hb, ?_⟩
      rw [if_neg HME.out, HRC.out]
    generalize mayE ds height b = me at *
    have HBF := Lib.hid (below_setRow HB4.out (show w.heap.size ≤ w.heap.size + 1 + 1 by omega) RC)
    have HSF := Lib.hid (setRow_heap _ _ _ RC _ _ HR24.out)
    go_wp2_with (first
      | ((with_reducible refine wpAt 13 ?_); refine wpList_load_row_g rfl 41 _ rfl w.heap.size rfl 41 RC (0, 0) _ HR04.out Try.underlying41 rfl (infoRC _ HRS.out) ?_)
      | ((with_reducible refine wpStoreAt 4 ?_); refine wpList_store_row rfl 41 _ _ rfl (w.heap.size + 1 + 1) RC rfl rfl 41 Z HR24.out (infoRC _ HRS.out) (by rw [hZ.out, HRS.out]) HRO.out ?_))
    refine bodyPost_ret (results_row_tmp rfl _ _ _ _ _ _ _ rfl HSF.out Try.underlying41 rfl (infoRC _ HRS.out)) rfl ?_
    exact HFIN.out _ HBF.out
end Go.Proofs.Ytepemfgiigceoaa.Chn

namespace Go.Proofs.Ytepemfgiigceoaa.Chn
open Go.RowKit Go.Mir Go.Mir.Parts Go.Proofs.Ytepemfgiigceoaa.Blk

/-- the document's chain, boxed; its blocks are such as came in -/
structure RfAt (W wr : World) (b7 d h : Nat) (ds : List BlkD) (p2 : Option Addr) (c2 : Nat) (rows2 : List (List Value)) : Prop where
  box : wr.heap[b7]? = some (.cells (rcA (d : Int) h p2 ds.length c2) 41 (0, 0))
  rs : Rs wr p2 ds.length c2 65 rows2
  each : ∀ (i : Nat) r dd, rows2[i]? = some r → ds[i]? = some dd → ∃ q cc, r = (blkA dd.hash dd.par q dd.txs.length cc).toList ∧ BlkAt W (blkA dd.hash dd.par q dd.txs.length cc) dd q dd.txs.length cc
  low : W.heap.size ≤ b7
  lt : ∀ a, p2 = some a → a.block < wr.heap.size
  ne7 : ∀ a, p2 = some a → ¬ a.block = b7
theorem RfAt.bks {W wr : World} {b7 d h : Nat} {ds : List BlkD} {p2 : Option Addr} {c2 : Nat} {rows2 : List (List Value)} (r : RfAt W wr b7 d h ds p2 c2 rows2) (hb : Below W.heap.size W wr) : Bks wr p2 ds.length c2 ds rows2 :=
  ⟨r.rs, rfl, fun i x dd h1 h2 => by
    obtain ⟨q, cc, e, hx⟩ := r.each i x dd h1 h2
    exact ⟨q, cc, e, hx.below hb⟩⟩
theorem RfAt.touch {S : Nat → Prop} {W wr w' : World} {b7 d h : Nat} {ds : List BlkD} {p2 : Option Addr} {c2 : Nat} {rows2 : List (List Value)} (r : RfAt W wr b7 d h ds p2 c2 rows2) (ht : Turns S wr w') (h7 : ¬ S b7) (hp : ∀ a, p2 = some a → ¬ S a.block) : RfAt W w' b7 d h ds p2 c2 rows2 :=
  ⟨ht.keep r.box h7, ⟨r.rs.sl.touch ht (fun a ha _ hs => hp a ha hs), r.rs.each, r.rs.count⟩, r.each, r.low, fun a ha => Nat.lt_of_lt_of_le (r.lt a ha) ht.size, r.ne7⟩
theorem RfAt.below {W wr w' : World} {b7 d h : Nat} {ds : List BlkD} {p2 : Option Addr} {c2 : Nat} {rows2 : List (List Value)} (r : RfAt W wr b7 d h ds p2 c2 rows2) (hb : Below wr.heap.size wr w') : RfAt W w' b7 d h ds p2 c2 rows2 :=
  r.touch (Turns.of_below (S := fun _ => False) hb) (fun h => h) (fun _ _ h => h)
theorem ChAt.touch {S : Nat → Prop} {w w' : World} {base cb depth height : Nat} {ds : List BlkD} {p : Option Addr} {c : Nat} {rows : List (List Value)} (h : ChAt w base cb depth height ds p c rows) (ht : Turns S w w') (ho : ∀ k, ChOwn cb p ds.length c k → ¬ S k) (hi : ∀ k M fr, w.heap[k]? = some (.cells M 30 fr) → ¬ S k) : ChAt w' base cb depth height ds p c rows :=
  ⟨ht.keep h.row (ho cb (.inl rfl)), h.low, keeps_touch h.keeps ht (fun k hk => ho k (.inr hk)), h.count, fun i r d h1 h2 => (h.each i r d h1 h2).touch ht hi, h.depth1, h.many, h.few⟩
/-- both -/
def Md (W wr : World) (cb d hc : Nat) (dc : List BlkD) (b7 hr : Nat) (dr : List BlkD) (p2 : Option Addr) (c2 : Nat) (rows2 : List (List Value)) : Prop :=
  ∃ base p c rows, ChAt wr base cb d hc dc p c rows ∧ dc.length ≤ hc ∧ W.heap.size ≤ base ∧ base ≤ wr.heap.size ∧ RfAt W wr b7 d hr dr p2 c2 rows2 ∧ ¬ ChOwn cb p dc.length c b7 ∧ (∀ a, p2 = some a → ¬ ChOwn cb p dc.length c a.block) ∧ Below W.heap.size W wr
section
variable {W wr w' : World} {cb d hc : Nat} {dc : List BlkD} {b7 hr : Nat} {dr : List BlkD} {p2 : Option Addr} {c2 : Nat} {rows2 : List (List Value)}
theorem Md.belowW (h : Md W wr cb d hc dc b7 hr dr p2 c2 rows2) : Below W.heap.size W wr := by
  obtain ⟨_, _, _, _, _, _, _, _, _, _, _, h⟩ := h
  exact h
theorem Md.below (h : Md W wr cb d hc dc b7 hr dr p2 c2 rows2) (hb : Below wr.heap.size wr w') : Md W w' cb d hc dc b7 hr dr p2 c2 rows2 := by
  obtain ⟨base, p, c, rows, h1, h2, h3, h4, h5, h6, h7, h8⟩ := h
  exact ⟨base, p, c, rows, h1.below hb, h2, h3, Nat.le_trans h4 hb.size, h5.below hb, h6, h7, h8.trans (hb.mono h8.size)⟩
theorem Md.facts (h : Md W wr cb d hc dc b7 hr dr p2 c2 rows2) : (1 ≤ d ∧ d ≤ 16) ∧ dc.length ≤ d + 1 ∧ dc.length ≤ hc ∧ hc ≤ 4294967295 := by
  obtain ⟨base, p, c, rows, h1, h2, h3, h4, h5, h6, h7, h8⟩ := h
  exact ⟨h1.depth1, h1.many.1, h2, h1.many.2⟩
theorem ChAt.ownLt {w : World} {base depth height : Nat} {ds : List BlkD} {p : Option Addr} {c : Nat} {rows : List (List Value)} (h : ChAt w base cb depth height ds p c rows) : ∀ k, ChOwn cb p ds.length c k → base ≤ k ∧ k < w.heap.size := by
  intro k hk
  rcases hk with rfl | hk
  · exact ⟨h.low, (Array.getElem?_eq_some_iff.1 h.row).1⟩
  · exact keeps_lt h.keeps k hk
/-- the chain has turned -/
theorem Md.turn {base : Nat} {p p' : Option Addr} {c c' hc' : Nat} {dc' : List BlkD} {rows rows' : List (List Value)} (h1 : ChAt wr base cb d hc dc p c rows) (h2' : dc'.length ≤ hc') (h3 : W.heap.size ≤ base) (h4 : base ≤ wr.heap.size) (h5 : RfAt W wr b7 d hr dr p2 c2 rows2) (h6 : ¬ ChOwn cb p dc.length c b7) (h7 : ∀ a, p2 = some a → ¬ ChOwn cb p dc.length c a.block) (h8 : Below W.heap.size W wr)
    (hc1 : ChAt w' base cb d hc' dc' p' c' rows') (ht : Turns (ChOwn cb p dc.length c) wr w') (hn : ∀ k, (Value.slice p' dc'.length c').ownBlock = some k → (Value.slice p dc.length c).ownBlock = some k ∨ wr.heap.size ≤ k) : Md W w' cb d hc' dc' b7 hr dr p2 c2 rows2 := by
  have key : ∀ k, k < wr.heap.size → ¬ ChOwn cb p dc.length c k → ¬ ChOwn cb p' dc'.length c' k := fun k hlt hno hs => by
    rcases hs with hs | hs
    · exact hno (.inl hs)
    · rcases hn k hs with hn | hn
      · exact hno (.inr hn)
      · omega
  exact ⟨base, p', c', rows', hc1, h2', h3, Nat.le_trans h4 ht.size, h5.touch ht h6 h7, key b7 (Array.getElem?_eq_some_iff.1 h5.box).1 h6, fun a ha => key a.block (h5.lt a ha) (h7 a ha),
    h8.trans (ht.below h8.size (fun i hi => Nat.le_trans h3 (h1.ownLt i hi).1))⟩
/-- what a chain's calls leave as it is, by its type -/
def KT (wr w' : World) : Prop := ∀ (k : Nat) (M : Array Value) (t : TypeId) (fr : Nat × Nat), wr.heap[k]? = some (.cells M t fr) → t ≠ 70 → t ≠ 33 → w'.heap[k]? = some (.cells M t fr)
theorem KT.of_below (hb : Below wr.heap.size wr w') : KT wr w' := fun k M t fr h _ _ => Below.keepOld hb h
theorem KT.of_turns {base : Nat} {p : Option Addr} {c : Nat} {rows : List (List Value)} (h1 : ChAt wr base cb d hc dc p c rows) (ht : Turns (ChOwn cb p dc.length c) wr w') : KT wr w' := fun k M t fr h n1 n2 => by
  refine ht.keep h (fun hs => ?_)
  rcases hs with hs | hs
  · subst hs
    rw [h1.row] at h
    injection h with e1
    injection e1 with _ e2
    exact n1 e2.symm
  · exact keeps_ne_cells h1.keeps h n2 _ hs rfl
def connH (ds : List BlkD) (h : Nat) (b : BlkD) : Nat := if mayE ds h b = 0 then h + 1 else h
def connD (d : Nat) (ds : List BlkD) (h : Nat) (b : BlkD) : List BlkD := if mayE ds h b = 0 then cutD d (ds ++ [b]) else ds
def discH (ds : List BlkD) (h : Nat) (x : List UInt8) : Nat := if discE ds x = 0 then h - 1 else h
def discD (ds : List BlkD) (x : List UInt8) : List BlkD := if discE ds x = 0 then ds.dropLast else ds
theorem conn_md (h : Md W wr cb d hc dc b7 hr dr p2 c2 rows2) (M : Array Value) (b : BlkD) (q : Option Addr) (n cc : Nat) (hM : BlkAt wr M b q n cc) (hn : n ≤ 1099511627776) :
    Calls Try.prog 13 #[.pointer (some ⟨cb, 0, none⟩), .agg M] wr fun e w' => e = .returned (.int .i64 (mayE dc hc b)) ∧ Md W w' cb d (connH dc hc b) (connD d dc hc b) b7 hr dr p2 c2 rows2 ∧ KT wr w' := by
  have h0 := h
  obtain ⟨base, p, c, rows, h1, h2, h3, h4, h5, h6, h7, h8⟩ := h
  by_cases hm : mayE dc hc b = 0
  · refine (connect_ok wr h1 h4 M b q n cc hM hn hm).mono ?_
    rintro e w' ⟨rfl, p', c', rows', hc1, _, ht, hnn⟩
    unfold connH connD
    rw [if_pos hm, if_pos hm, hm]
    exact ⟨rfl, Md.turn h1 (cutD_len h2) h3 h4 h5 h6 h7 h8 hc1 ht hnn, KT.of_turns h1 ht⟩
  · refine (connect_not wr h1 M b q n cc hM hm).mono ?_
    rintro e w' ⟨rfl, hb⟩
    unfold connH connD
    rw [if_neg hm, if_neg hm]
    exact ⟨rfl, h0.below hb, KT.of_below hb⟩
theorem disc_md (h : Md W wr cb d hc dc b7 hr dr p2 c2 rows2) (x : List UInt8) (hx : x.length = 32) :
    Calls Try.prog 14 #[.pointer (some ⟨cb, 0, none⟩), .agg (idA x)] wr fun e w' => e = .returned (.int .i64 (discE dc x)) ∧ Md W w' cb d (discH dc hc x) (discD dc x) b7 hr dr p2 c2 rows2 ∧ KT wr w' := by
  have h0 := h
  obtain ⟨base, p, c, rows, h1, h2, h3, h4, h5, h6, h7, h8⟩ := h
  refine (disc_any wr h1 h2 x hx).mono ?_
  rintro e w' ⟨rfl, hno, hok⟩
  unfold discH discD
  by_cases hm : discE dc x = 0
  · rw [if_pos hm, if_pos hm]
    obtain ⟨c', rows', hc1, ht⟩ := hok hm
    refine ⟨rfl, Md.turn h1 (by have := disc_two hm; rw [List.length_dropLast]; omega) h3 h4 h5 h6 h7 h8 hc1 ht (fun k hk => .inl ?_), KT.of_turns h1 ht⟩
    cases p with
    | none => simp [Value.ownBlock] at hk
    | some a => exact hk
  · rw [if_neg hm, if_neg hm]
    exact ⟨rfl, h0.below (hno hm), KT.of_below (hno hm)⟩
/-- the document's has turned: a new row in its box -/
theorem Md.box {p2' : Option Addr} {c2' hr' : Nat} {dr' : List BlkD} {rows2' : List (List Value)} (h : Md W wr cb d hc dc b7 hr dr p2 c2 rows2) (hb : Below wr.heap.size wr w') (hs : Rs w' p2' dr'.length c2' 65 rows2')
    (he : ∀ (i : Nat) r dd, rows2'[i]? = some r → dr'[i]? = some dd → ∃ q cc, r = (blkA dd.hash dd.par q dd.txs.length cc).toList ∧ BlkAt W (blkA dd.hash dd.par q dd.txs.length cc) dd q dd.txs.length cc)
    (hp : ∀ a, p2' = some a → p2 = some a ∨ (wr.heap.size ≤ a.block ∧ a.block < w'.heap.size)) :
    Md W (w'.setRow b7 (rcA (d : Int) hr' p2' dr'.length c2')) cb d hc dc b7 hr' dr' p2' c2' rows2' := by
  have hBW := h.belowW.trans (hb.mono h.belowW.size)
  obtain ⟨base, p, c, rows, h1, h2, h3, h4, h5, h6, h7, h8⟩ := h
  have ht := turns_setRow w' b7 (rcA (d : Int) hr' p2' dr'.length c2')
  have hbox := Below.keepOld hb h5.box
  have h7lt := (Array.getElem?_eq_some_iff.1 h5.box).1
  have hid : ∀ k M fr, w'.heap[k]? = some (.cells M 30 fr) → ¬ k = b7 := fun k M fr hk e => by
    subst e
    rw [hbox] at hk
    injection hk with e1
    injection e1 with _ e2
    exact absurd e2 (by decide)
  have hsz : (w'.setRow b7 (rcA (d : Int) hr' p2' dr'.length c2')).heap.size = w'.heap.size := by simp [World.setRow]
  have hpp : ∀ a, p2' = some a → a.block < w'.heap.size ∧ ¬ a.block = b7 ∧ ¬ ChOwn cb p dc.length c a.block := fun a ha => by
    rcases hp a ha with h9 | ⟨h9, h10⟩
    · exact ⟨Nat.lt_of_lt_of_le (h5.lt a h9) hb.size, h5.ne7 a h9, h7 a h9⟩
    · exact ⟨h10, by omega, fun hk => by have := (h1.ownLt _ hk).2; omega⟩
  exact ⟨base, p, c, rows, (h1.below hb).touch ht (fun k hk e => h6 (e ▸ hk)) hid, h2, h3, by rw [hsz]; exact Nat.le_trans h4 hb.size,
    ⟨setRow_heap _ _ _ _ _ _ hbox, ⟨hs.sl.touch ht (fun a ha _ hs => (hpp a ha).2.1 hs), hs.each, hs.count⟩, he, h5.low, fun a ha => by rw [hsz]; exact (hpp a ha).1, fun a ha => (hpp a ha).2.1⟩,
    h6, fun a ha => (hpp a ha).2.2, hBW.trans (ht.below hBW.size (fun i hi => by rw [hi]; exact h5.low))⟩
/-- a chain cloned: the clone, and the old one, one beside the other -/
def Tw (W wr : World) (cb cb' d h : Nat) (ds : List BlkD) (b7 hr : Nat) (dr : List BlkD) (p2 : Option Addr) (c2 : Nat) (rows2 : List (List Value)) : Prop :=
  ∃ base p c rows base' p' c' rows', ChAt wr base cb d h ds p c rows ∧ ChAt wr base' cb' d h ds p' c' rows' ∧ ds.length ≤ h ∧ W.heap.size ≤ base ∧ base ≤ base' ∧ base' ≤ wr.heap.size ∧ (∀ k, ChOwn cb p ds.length c k → k < base') ∧ RfAt W wr b7 d hr dr p2 c2 rows2 ∧ b7 < base' ∧ (∀ a, p2 = some a → a.block < base') ∧ ¬ ChOwn cb p ds.length c b7 ∧ (∀ a, p2 = some a → ¬ ChOwn cb p ds.length c a.block) ∧ Below W.heap.size W wr
theorem clone_tw (h : Md W wr cb d hc dc b7 hr dr p2 c2 rows2) :
    Calls Try.prog 35 #[.pointer (some ⟨cb, 0, none⟩)] wr fun e w' => ∃ cb', e = .returned (.pointer (some ⟨cb', 0, none⟩)) ∧ Tw W w' cb cb' d hc dc b7 hr dr p2 c2 rows2 ∧ KT wr w' := by
  obtain ⟨base, p, c, rows, h1, h2, h3, h4, h5, h6, h7, h8⟩ := h
  refine (clone_any wr h1).mono ?_
  rintro e w' ⟨cb', p', c', rows', rfl, hcb, hch, hb⟩
  exact ⟨cb', rfl, ⟨base, p, c, rows, wr.heap.size, p', c', rows', h1.below hb, hch, h2, h3, h4, hb.size, fun k hk => (h1.ownLt k hk).2, h5.below hb, (Array.getElem?_eq_some_iff.1 h5.box).1, h5.lt, h6, h7, h8.trans (hb.mono h8.size)⟩, KT.of_below hb⟩
theorem Tw.belowW {cb' : Nat} (h : Tw W wr cb cb' d hc dc b7 hr dr p2 c2 rows2) : Below W.heap.size W wr := by
  obtain ⟨_, _, _, _, _, _, _, _, _, _, _, _, _, _, _, _, _, _, _, _, h⟩ := h
  exact h
theorem Tw.below {cb' : Nat} (h : Tw W wr cb cb' d hc dc b7 hr dr p2 c2 rows2) (hb : Below wr.heap.size wr w') : Tw W w' cb cb' d hc dc b7 hr dr p2 c2 rows2 := by
  obtain ⟨base, p, c, rows, base', p', c', rows', h1, h1', h2, h3, h4, h4', hlt, h5, h5', h5'', h6, h7, h8⟩ := h
  exact ⟨base, p, c, rows, base', p', c', rows', h1.below hb, h1'.below hb, h2, h3, h4, Nat.le_trans h4' hb.size, hlt, h5.below hb, h5', h5'', h6, h7, h8.trans (hb.mono h8.size)⟩
theorem conn_tw {cb' : Nat} (h : Tw W wr cb cb' d hc dc b7 hr dr p2 c2 rows2) (M : Array Value) (b : BlkD) (q : Option Addr) (n cc : Nat) (hM : BlkAt wr M b q n cc) (hn : n ≤ 1099511627776) :
    Calls Try.prog 13 #[.pointer (some ⟨cb, 0, none⟩), .agg M] wr fun e w' => (∃ v, e = .returned (.int .i64 v)) ∧ Md W w' cb' d hc dc b7 hr dr p2 c2 rows2 ∧ KT wr w' := by
  obtain ⟨base, p, c, rows, base', p', c', rows', h1, h1', h2, h3, h4, h4', hlt, h5, h5', h5'', h6, h7, h8⟩ := h
  have hnew : ∀ k, k < base' → ¬ ChOwn cb' p' dc.length c' k := fun k hk hs => by have := (h1'.ownLt k hs).1; omega
  by_cases hm : mayE dc hc b = 0
  · refine (connect_ok wr h1 (Nat.le_trans h4 h4') M b q n cc hM hn hm).mono ?_
    rintro e w' ⟨rfl, p3, c3, rows3, hc1, _, ht, hnn⟩
    refine ⟨⟨_, rfl⟩, ⟨base', p', c', rows', h1'.touch ht (fun k hk hs => by have := hlt k hs; exact hnew k this hk) h1.mid.noId, h2, Nat.le_trans h3 h4, Nat.le_trans h4' ht.size, h5.touch ht h6 h7, hnew b7 h5', fun a ha => hnew _ (h5'' a ha), h8.trans (ht.below h8.size (fun i hi => Nat.le_trans h3 (h1.ownLt i hi).1))⟩, KT.of_turns h1 ht⟩
  · refine (connect_not wr h1 M b q n cc hM hm).mono ?_
    rintro e w' ⟨rfl, hb⟩
    exact ⟨⟨_, rfl⟩, ⟨base', p', c', rows', h1'.below hb, h2, Nat.le_trans h3 h4, Nat.le_trans h4' hb.size, h5.below hb, hnew b7 h5', fun a ha => hnew _ (h5'' a ha), h8.trans (hb.mono h8.size)⟩, KT.of_below hb⟩
/-- 'like', where both stand alike -/
theorem like_md (h : Md W wr cb d hc dc b7 hc dc p2 c2 rows2) (hg : ∀ x ∈ dc, x.txs.length ≤ 1000000 ∧ x.txs.Nodup) (M : Array Value) (b : BlkD) (q : Option Addr) (n cc : Nat) (hM : BlkAt wr M b q n cc) (hn : n ≤ 100) :
    Calls Try.prog 32 #[.pointer (some ⟨cb, 0, none⟩), .agg (rcA (d : Int) hc p2 dc.length c2), .agg M] wr fun e w' => e = .returned (.bool true) ∧ Below wr.heap.size wr w' := by
  have hBW := h.belowW
  obtain ⟨base, p, c, rows, h1, h2, h3, h4, h5, h6, h7, h8⟩ := h
  exact like_any wr h1 (fun x hx => (hg x hx).1) (fun x hx => (hg x hx).2) p2 c2 rows2 (h5.bks hBW) M b q n cc hM hn
end
/-- what the blocks of a chain are -/
def GoodL (ds : List BlkD) : Prop := ∀ x ∈ ds, x.txs.length ≤ 100 ∧ x.txs.Nodup
theorem GoodL.conn {d h : Nat} {ds : List BlkD} {b : BlkD} (hg : GoodL ds) (hb : b.txs.length ≤ 100) : GoodL (connD d ds h b) := by
  unfold connD
  split
  · rename_i hm
    have hr : rightB b = true := by
      unfold mayE at hm
      cases hr : rightB b with
      | true => rfl
      | false => rw [if_pos hr] at hm; omega
    have hnd : b.txs.Nodup := by
      unfold rightB at hr
      simp only [Bool.and_eq_true, decide_eq_true_iff] at hr
      exact hr.2
    intro x hx
    have hx2 : x ∈ ds ++ [b] := by
      unfold cutD at hx
      split at hx
      · exact List.mem_of_mem_drop hx
      · exact hx
    rcases List.mem_append.1 hx2 with hx2 | hx2
    · exact hg x hx2
    · rw [List.mem_singleton] at hx2; rw [hx2]; exact ⟨hb, hnd⟩
  · exact hg
theorem GoodL.disc {ds : List BlkD} {x : List UInt8} (hg : GoodL ds) : GoodL (discD ds x) := by
  unfold discD
  split
  · exact fun y hy => hg y ((List.dropLast_sublist ds).mem hy)
  · exact hg
end Go.Proofs.Ytepemfgiigceoaa.Chn
