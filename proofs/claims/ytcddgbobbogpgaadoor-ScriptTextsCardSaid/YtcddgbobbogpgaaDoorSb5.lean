/- PARTS, JOINED: SCRIPTS: are two events the same? (the program's) Conditions: none. SCRIPTS: strings.Builder, strings.Cut, strings.HasPrefix. Conditions: texts of less than 2^32 bytes; the shape of bytealg.MaxLen. SCRIPTS: the lines of a text, an iterator. Conditions: texts of at most 20000 signs. SCRIPTS: are two events the same? (the document's) Conditions: none. SLICES OF BYTES, CUT: b[k:k+m], b[:m], b[k:]. Conditions: none. A [][]byte THAT THE CALL OWNS, each element a slice of bytes that it does not overwrite. Conditions: none. SCRIPTS: nums: numbers as words. Conditions: numbers of 64 bits. SCRIPTS IN MEMORY: lists of events. Conditions: none. -/
import Derived.Test.YtcddgbobbogpgaaDoorSb1
import Derived.Test.YtcddgbobbogpgaaDoorSb2
import Derived.Test.YtcddgbobbogpgaaDoorSb3
import Derived.Test.YtcddgbobbogpgaaDoorSb4
import Derived.Shelf.Strings.Cut
import Derived.Shelf.Strings.Prefix
import Derived.Test.YtcddgbobbogpgaaDoorChecked
namespace Go.Proofs.YtcddgbobbogpgaaDoor.Scr
open Go.RowKit Go.Mir Go.Mir.Hx Go.Mir.Parts HexW Rpl

/-! ### arrays of three numbers -/
theorem run_items_i {w : World} (d : Nat) (a b : List Int) : ∀ is : List Nat, (∀ i ∈ is, i < a.length ∧ i < b.length) →
    (Op.eqItems (d + 1) 3 (Tryd.prog.cellsOf 3) (a.map (Value.int .i64)).toArray (b.map (Value.int .i64)).toArray is).run Tryd.prog w = .ok (is.all fun i => a[i]? == b[i]?) w
  | [], _ => by simp [Op.eqItems]
  | i :: is, h => by
    have hi := h i (by simp)
    have ih := run_items_i (w := w) d a b is (fun j hj => h j (by simp [hj]))
    have hc : Tryd.prog.cellsOf 3 = 1 := by kernel_rfl
    have hp : Tryd.prog.plainKey 3 = true := by kernel_rfl
    have ga : (a.map (Value.int .i64)).toArray[i * Tryd.prog.cellsOf 3]? = some (.int .i64 a[i]) := by rw [hc, Nat.mul_one, List.getElem?_toArray]; simp [hi.1]
    have gb : (b.map (Value.int .i64)).toArray[i * Tryd.prog.cellsOf 3]? = some (.int .i64 b[i]) := by rw [hc, Nat.mul_one, List.getElem?_toArray]; simp [hi.2]
    have hbq : (a[i] == b[i]) = (a[i]? == b[i]?) := by
      rw [List.getElem?_eq_getElem hi.1, List.getElem?_eq_getElem hi.2, Bool.eq_iff_iff]
      simp only [beq_iff_eq, Option.some.injEq]
    simp only [Op.eqItems, Sem.run_bind, run_part_plain w hp ga, run_part_plain w hp gb, Result.andThen_ok, run_equalIn_int w d 3 .i64 .i64 _ _ Tryd.underlying3, hbq, List.all_cons]
    cases a[i]? == b[i]?
    · simp
    · simpa using ih
theorem infoInt : ∃ i, Tryd.prog.info? 3 = some i := Option.isSome_iff_exists.1 (by kernel_rfl)
theorem eqU3 (w : World) (a b : Ev) : (Op.equalIn 10000 29 (.agg (u3L a).toArray) (.agg (u3L b).toArray)).run Tryd.prog w = .ok (decide (a.u0 = b.u0 ∧ a.u1 = b.u1 ∧ a.u2 = b.u2)) w := by
  obtain ⟨i, hi⟩ := infoInt
  have h1 := run_items_i (w := w) 9998 [a.u0, a.u1, a.u2] [b.u0, b.u1, b.u2] (List.range 3) (fun i hi => List.mem_range.1 hi |> fun h => ⟨h, h⟩)
  rw [run_equalIn_array w 9999 _ _ Tryd.underlying29 hi]
  have h2 : ((List.range 3).all fun i => [a.u0, a.u1, a.u2][i]? == [b.u0, b.u1, b.u2][i]?) = decide (a.u0 = b.u0 ∧ a.u1 = b.u1 ∧ a.u2 = b.u2) := by
    rw [Bool.eq_iff_iff, decide_eq_true_eq]
    simp [List.range, List.range.loop]
  rw [h2] at h1
  exact h1
theorem eqIdT (w : World) {x y : List UInt8} (hx : x.length = 32) (hy : y.length = 32) (v : Bool) (h : (x == y) = v) : (Op.equalIn 10000 25 (.agg (idA x)) (.agg (idA y))).run Tryd.prog w = .ok v w := by rw [← h]; exact RR.eqI w x y hx hy
theorem eqU3T (w : World) {a b : Ev} (v : Bool) (h : decide (a.u0 = b.u0 ∧ a.u1 = b.u1 ∧ a.u2 = b.u2) = v) : (Op.equalIn 10000 29 (.agg (u3L a).toArray) (.agg (u3L b).toArray)).run Tryd.prog w = .ok v w := by rw [← h]; exact eqU3 w a b
theorem ev_eq (a b : Ev) : a = b ↔ a.k = b.k ∧ a.b = b.b ∧ a.id = b.id ∧ a.n = b.n ∧ (a.u0 = b.u0 ∧ a.u1 = b.u1 ∧ a.u2 = b.u2) ∧ a.h = b.h ∧ a.p = b.p ∧ a.tx = b.tx := by
  obtain ⟨k, b1, h, p, tx, id, n, u0, u1, u2⟩ := a
  obtain ⟨k', b1', h', p', tx', id', n', u0', u1', u2'⟩ := b
  constructor
  · intro e
    injection e with e0 e1 e2 e3 e4 e5 e6 e7 e8 e9
    exact ⟨e0, e1, e5, e6, ⟨e7, e8, e9⟩, e2, e3, e4⟩
  · rintro ⟨rfl, rfl, rfl, rfl, ⟨rfl, rfl, rfl⟩, rfl, rfl, rfl⟩; rfl
theorem row_rangeS {w : World} {b : Nat} {A : Array Value} {t : TypeId} {fr : Nat × Nat} (h : w.heap[b]? = some (.cells A t fr)) : w.rangeAt b 0 A.toList := fun j v hv => by
  rw [Nat.zero_add, cell_of_row _ _ _ _ _ _ h, ← Array.getElem?_toList]; exact hv
theorem bret {a b : Bool} (h : a = b) : Ending.returned (.bool a) = .returned (.bool b) := by rw [h]

set_option maxRecDepth 100000 in
set_option maxHeartbeats 6400000 in
theorem same_any {a b : Ev} {pa pb qa qb : Option Addr} {ca cb ka kb : Nat} (w : World) (hA : EvAt w a pa ca qa ka) (hB : EvAt w b pb cb qb kb) :
    Calls Tryd.prog 19 #[.agg (evA a pa ca qa ka), .agg (evA b pb cb qb kb)] w fun x w' => x = .returned (.bool (decide (a = b))) ∧ Below w.heap.size w w' := by
  obtain ⟨a1, a2, a3, a4⟩ := Go.Mir.two_allocs w (.cells (evA a pa ca qa ka) 31) (.cells (evA b pb cb qb kb) 31)
  have HC := Lib.hid (ev_row hA.wf a1)
  have HD := Lib.hid (ev_row hB.wf a2)
  have HX := Lib.hid a4
  have HA := Lib.hid hA.wf
  have HB := Lib.hid hB.wf
  have HAT := Lib.hid (hA.below a4)
  have HBT := Lib.hid (hB.below a4)
  have c0 := HC.out.k
  have d0 := HD.out.k
  have c1 := HC.out.b
  have d1 := HD.out.b
  have c3 := HC.out.n
  have d3 := HD.out.n
  have c7 := HC.out.tx
  have d7 := HD.out.tx
  have v1 := cv HAT.out.bs
  have v2 := cv HBT.out.bs
  clear a1 a2 a3 a4 hA hB
  by_cases n0 : a.k = b.k
  rotate_left
  · have HR : Hid (decide (a = b) = false) := decide_eq_false (fun e => n0 (by rw [e]))
    have q0 : (a.k == b.k) = false := (beq_eq_false_iff_ne.2 n0)
    have p0 : (a.k != b.k) = true := (bne_iff_ne.2 n0)
    clear n0
    skip
    go_enter Tryd.func19, Tryd.ntmps19
    go_upto_region 1 with fail
    generalize (w.alloc (.cells (evA a pa ca qa ka) 31)).alloc (.cells (evA b pb cb qb kb) 31) = w1 at *
    skip
    go_wp2_with (first
      | ((with_reducible refine wpAt 23 ?_); refine loadM (by rfl) 25 _ rfl w.heap.size 67 rfl (idA a.id) _ HC.out.id Tryd.underlying25 rfl (infoId _ (by rw [idA_size, HA.out.id])) ?_)
      | ((with_reducible refine wpAt 25 ?_); refine loadM (by rfl) 25 _ rfl (w.heap.size + 1) 67 rfl (idA b.id) _ HD.out.id Tryd.underlying25 rfl (infoId _ (by rw [idA_size, HB.out.id])) ?_)
      | ((with_reducible refine wpAt 37 ?_); refine loadM (by rfl) 29 _ rfl w.heap.size 100 rfl (u3L a).toArray _ HC.out.us Tryd.underlying29 rfl (infoU3 _ rfl) ?_)
      | ((with_reducible refine wpAt 39 ?_); refine loadM (by rfl) 29 _ rfl (w.heap.size + 1) 100 rfl (u3L b).toArray _ HD.out.us Tryd.underlying29 rfl (infoU3 _ rfl) ?_)
      | ((with_reducible refine wpAt 45 ?_); refine loadM (by rfl) 25 _ rfl w.heap.size 2 rfl (idA a.h) _ HC.out.h Tryd.underlying25 rfl (infoId _ (by rw [idA_size, HA.out.h])) ?_)
      | ((with_reducible refine wpAt 48 ?_); refine loadM (by rfl) 25 _ rfl (w.heap.size + 1) 2 rfl (idA b.h) _ HD.out.h Tryd.underlying25 rfl (infoId _ (by rw [idA_size, HB.out.h])) ?_)
      | ((with_reducible refine wpAt 54 ?_); refine loadM (by rfl) 25 _ rfl w.heap.size 34 rfl (idA a.p) _ HC.out.p Tryd.underlying25 rfl (infoId _ (by rw [idA_size, HA.out.p])) ?_)
      | ((with_reducible refine wpAt 57 ?_); refine loadM (by rfl) 25 _ rfl (w.heap.size + 1) 34 rfl (idA b.p) _ HD.out.p Tryd.underlying25 rfl (infoId _ (by rw [idA_size, HB.out.p])) ?_))
    go_ret
    exact ⟨bret HR.out.symm, HX.out⟩
  by_cases n1 : a.b = b.b
  rotate_left
  · have HR : Hid (decide (a = b) = false) := decide_eq_false (fun e => n1 (by rw [e]))
    have q0 : (a.k == b.k) = true := (beq_iff_eq.2 n0)
    have p0 : (a.k != b.k) = false := (by rw [bne_eq_false_iff_eq]; exact n0)
    have q1 : (a.b == b.b) = false := (beq_eq_false_iff_ne.2 n1)
    have p1 : (a.b != b.b) = true := (bne_iff_ne.2 n1)
    clear n0 n1
    skip
    go_enter Tryd.func19, Tryd.ntmps19
    go_upto_region 1 with fail
    generalize (w.alloc (.cells (evA a pa ca qa ka) 31)).alloc (.cells (evA b pb cb qb kb) 31) = w1 at *
    skip
    go_wp2_with (first
      | ((with_reducible refine wpAt 23 ?_); refine loadM (by rfl) 25 _ rfl w.heap.size 67 rfl (idA a.id) _ HC.out.id Tryd.underlying25 rfl (infoId _ (by rw [idA_size, HA.out.id])) ?_)
      | ((with_reducible refine wpAt 25 ?_); refine loadM (by rfl) 25 _ rfl (w.heap.size + 1) 67 rfl (idA b.id) _ HD.out.id Tryd.underlying25 rfl (infoId _ (by rw [idA_size, HB.out.id])) ?_)
      | ((with_reducible refine wpAt 37 ?_); refine loadM (by rfl) 29 _ rfl w.heap.size 100 rfl (u3L a).toArray _ HC.out.us Tryd.underlying29 rfl (infoU3 _ rfl) ?_)
      | ((with_reducible refine wpAt 39 ?_); refine loadM (by rfl) 29 _ rfl (w.heap.size + 1) 100 rfl (u3L b).toArray _ HD.out.us Tryd.underlying29 rfl (infoU3 _ rfl) ?_)
      | ((with_reducible refine wpAt 45 ?_); refine loadM (by rfl) 25 _ rfl w.heap.size 2 rfl (idA a.h) _ HC.out.h Tryd.underlying25 rfl (infoId _ (by rw [idA_size, HA.out.h])) ?_)
      | ((with_reducible refine wpAt 48 ?_); refine loadM (by rfl) 25 _ rfl (w.heap.size + 1) 2 rfl (idA b.h) _ HD.out.h Tryd.underlying25 rfl (infoId _ (by rw [idA_size, HB.out.h])) ?_)
      | ((with_reducible refine wpAt 54 ?_); refine loadM (by rfl) 25 _ rfl w.heap.size 34 rfl (idA a.p) _ HC.out.p Tryd.underlying25 rfl (infoId _ (by rw [idA_size, HA.out.p])) ?_)
      | ((with_reducible refine wpAt 57 ?_); refine loadM (by rfl) 25 _ rfl (w.heap.size + 1) 34 rfl (idA b.p) _ HD.out.p Tryd.underlying25 rfl (infoId _ (by rw [idA_size, HB.out.p])) ?_))
    go_ret
    exact ⟨bret HR.out.symm, HX.out⟩
  by_cases n2 : a.id = b.id
  rotate_left
  · have HR : Hid (decide (a = b) = false) := decide_eq_false (fun e => n2 (by rw [e]))
    have q0 : (a.k == b.k) = true := (beq_iff_eq.2 n0)
    have p0 : (a.k != b.k) = false := (by rw [bne_eq_false_iff_eq]; exact n0)
    have q1 : (a.b == b.b) = true := (beq_iff_eq.2 n1)
    have p1 : (a.b != b.b) = false := (by rw [bne_eq_false_iff_eq]; exact n1)
    have q2 : ∀ w, (Op.equalIn 10000 25 (.agg (idA a.id)) (.agg (idA b.id))).run Tryd.prog w = .ok false w := fun w => eqIdT w HA.out.id HB.out.id _ (beq_eq_false_iff_ne.2 n2)
    clear n0 n1 n2
    skip
    go_enter Tryd.func19, Tryd.ntmps19
    go_upto_region 1 with fail
    generalize (w.alloc (.cells (evA a pa ca qa ka) 31)).alloc (.cells (evA b pb cb qb kb) 31) = w1 at *
    skip
    go_wp2_with (first
      | ((with_reducible refine wpAt 23 ?_); refine loadM (by rfl) 25 _ rfl w.heap.size 67 rfl (idA a.id) _ HC.out.id Tryd.underlying25 rfl (infoId _ (by rw [idA_size, HA.out.id])) ?_)
      | ((with_reducible refine wpAt 25 ?_); refine loadM (by rfl) 25 _ rfl (w.heap.size + 1) 67 rfl (idA b.id) _ HD.out.id Tryd.underlying25 rfl (infoId _ (by rw [idA_size, HB.out.id])) ?_)
      | ((with_reducible refine wpAt 37 ?_); refine loadM (by rfl) 29 _ rfl w.heap.size 100 rfl (u3L a).toArray _ HC.out.us Tryd.underlying29 rfl (infoU3 _ rfl) ?_)
      | ((with_reducible refine wpAt 39 ?_); refine loadM (by rfl) 29 _ rfl (w.heap.size + 1) 100 rfl (u3L b).toArray _ HD.out.us Tryd.underlying29 rfl (infoU3 _ rfl) ?_)
      | ((with_reducible refine wpAt 45 ?_); refine loadM (by rfl) 25 _ rfl w.heap.size 2 rfl (idA a.h) _ HC.out.h Tryd.underlying25 rfl (infoId _ (by rw [idA_size, HA.out.h])) ?_)
      | ((with_reducible refine wpAt 48 ?_); refine loadM (by rfl) 25 _ rfl (w.heap.size + 1) 2 rfl (idA b.h) _ HD.out.h Tryd.underlying25 rfl (infoId _ (by rw [idA_size, HB.out.h])) ?_)
      | ((with_reducible refine wpAt 54 ?_); refine loadM (by rfl) 25 _ rfl w.heap.size 34 rfl (idA a.p) _ HC.out.p Tryd.underlying25 rfl (infoId _ (by rw [idA_size, HA.out.p])) ?_)
      | ((with_reducible refine wpAt 57 ?_); refine loadM (by rfl) 25 _ rfl (w.heap.size + 1) 34 rfl (idA b.p) _ HD.out.p Tryd.underlying25 rfl (infoId _ (by rw [idA_size, HB.out.p])) ?_))
    go_ret
    exact ⟨bret HR.out.symm, HX.out⟩
  by_cases n3 : a.n = b.n
  rotate_left
  · have HR : Hid (decide (a = b) = false) := decide_eq_false (fun e => n3 (by rw [e]))
    have q0 : (a.k == b.k) = true := (beq_iff_eq.2 n0)
    have p0 : (a.k != b.k) = false := (by rw [bne_eq_false_iff_eq]; exact n0)
    have q1 : (a.b == b.b) = true := (beq_iff_eq.2 n1)
    have p1 : (a.b != b.b) = false := (by rw [bne_eq_false_iff_eq]; exact n1)
    have q2 : ∀ w, (Op.equalIn 10000 25 (.agg (idA a.id)) (.agg (idA b.id))).run Tryd.prog w = .ok true w := fun w => eqIdT w HA.out.id HB.out.id _ (beq_iff_eq.2 n2)
    have q3 : (a.n == b.n) = false := (beq_eq_false_iff_ne.2 n3)
    have p3 : (a.n != b.n) = true := (bne_iff_ne.2 n3)
    clear n0 n1 n2 n3
    skip
    go_enter Tryd.func19, Tryd.ntmps19
    go_upto_region 1 with fail
    generalize (w.alloc (.cells (evA a pa ca qa ka) 31)).alloc (.cells (evA b pb cb qb kb) 31) = w1 at *
    skip
    go_wp2_with (first
      | ((with_reducible refine wpAt 23 ?_); refine loadM (by rfl) 25 _ rfl w.heap.size 67 rfl (idA a.id) _ HC.out.id Tryd.underlying25 rfl (infoId _ (by rw [idA_size, HA.out.id])) ?_)
      | ((with_reducible refine wpAt 25 ?_); refine loadM (by rfl) 25 _ rfl (w.heap.size + 1) 67 rfl (idA b.id) _ HD.out.id Tryd.underlying25 rfl (infoId _ (by rw [idA_size, HB.out.id])) ?_)
      | ((with_reducible refine wpAt 37 ?_); refine loadM (by rfl) 29 _ rfl w.heap.size 100 rfl (u3L a).toArray _ HC.out.us Tryd.underlying29 rfl (infoU3 _ rfl) ?_)
      | ((with_reducible refine wpAt 39 ?_); refine loadM (by rfl) 29 _ rfl (w.heap.size + 1) 100 rfl (u3L b).toArray _ HD.out.us Tryd.underlying29 rfl (infoU3 _ rfl) ?_)
      | ((with_reducible refine wpAt 45 ?_); refine loadM (by rfl) 25 _ rfl w.heap.size 2 rfl (idA a.h) _ HC.out.h Tryd.underlying25 rfl (infoId _ (by rw [idA_size, HA.out.h])) ?_)
      | ((with_reducible refine wpAt 48 ?_); refine loadM (by rfl) 25 _ rfl (w.heap.size + 1) 2 rfl (idA b.h) _ HD.out.h Tryd.underlying25 rfl (infoId _ (by rw [idA_size, HB.out.h])) ?_)
      | ((with_reducible refine wpAt 54 ?_); refine loadM (by rfl) 25 _ rfl w.heap.size 34 rfl (idA a.p) _ HC.out.p Tryd.underlying25 rfl (infoId _ (by rw [idA_size, HA.out.p])) ?_)
      | ((with_reducible refine wpAt 57 ?_); refine loadM (by rfl) 25 _ rfl (w.heap.size + 1) 34 rfl (idA b.p) _ HD.out.p Tryd.underlying25 rfl (infoId _ (by rw [idA_size, HB.out.p])) ?_))
    go_ret
    exact ⟨bret HR.out.symm, HX.out⟩
  by_cases n4 : (a.u0 = b.u0 ∧ a.u1 = b.u1 ∧ a.u2 = b.u2)
  rotate_left
  · have HR : Hid (decide (a = b) = false) := decide_eq_false (fun e => n4 (by rw [e]; exact ⟨rfl, rfl, rfl⟩))
    have q0 : (a.k == b.k) = true := (beq_iff_eq.2 n0)
    have p0 : (a.k != b.k) = false := (by rw [bne_eq_false_iff_eq]; exact n0)
    have q1 : (a.b == b.b) = true := (beq_iff_eq.2 n1)
    have p1 : (a.b != b.b) = false := (by rw [bne_eq_false_iff_eq]; exact n1)
    have q2 : ∀ w, (Op.equalIn 10000 25 (.agg (idA a.id)) (.agg (idA b.id))).run Tryd.prog w = .ok true w := fun w => eqIdT w HA.out.id HB.out.id _ (beq_iff_eq.2 n2)
    have q3 : (a.n == b.n) = true := (beq_iff_eq.2 n3)
    have p3 : (a.n != b.n) = false := (by rw [bne_eq_false_iff_eq]; exact n3)
    have q4 : ∀ w, (Op.equalIn 10000 29 (.agg (u3L a).toArray) (.agg (u3L b).toArray)).run Tryd.prog w = .ok false w := fun w => eqU3T w _ (decide_eq_false n4)
    clear n0 n1 n2 n3 n4
    skip
    go_enter Tryd.func19, Tryd.ntmps19
    go_upto_region 1 with fail
    generalize (w.alloc (.cells (evA a pa ca qa ka) 31)).alloc (.cells (evA b pb cb qb kb) 31) = w1 at *
    skip
    go_wp2_with (first
      | ((with_reducible refine wpAt 23 ?_); refine loadM (by rfl) 25 _ rfl w.heap.size 67 rfl (idA a.id) _ HC.out.id Tryd.underlying25 rfl (infoId _ (by rw [idA_size, HA.out.id])) ?_)
      | ((with_reducible refine wpAt 25 ?_); refine loadM (by rfl) 25 _ rfl (w.heap.size + 1) 67 rfl (idA b.id) _ HD.out.id Tryd.underlying25 rfl (infoId _ (by rw [idA_size, HB.out.id])) ?_)
      | ((with_reducible refine wpAt 37 ?_); refine loadM (by rfl) 29 _ rfl w.heap.size 100 rfl (u3L a).toArray _ HC.out.us Tryd.underlying29 rfl (infoU3 _ rfl) ?_)
      | ((with_reducible refine wpAt 39 ?_); refine loadM (by rfl) 29 _ rfl (w.heap.size + 1) 100 rfl (u3L b).toArray _ HD.out.us Tryd.underlying29 rfl (infoU3 _ rfl) ?_)
      | ((with_reducible refine wpAt 45 ?_); refine loadM (by rfl) 25 _ rfl w.heap.size 2 rfl (idA a.h) _ HC.out.h Tryd.underlying25 rfl (infoId _ (by rw [idA_size, HA.out.h])) ?_)
      | ((with_reducible refine wpAt 48 ?_); refine loadM (by rfl) 25 _ rfl (w.heap.size + 1) 2 rfl (idA b.h) _ HD.out.h Tryd.underlying25 rfl (infoId _ (by rw [idA_size, HB.out.h])) ?_)
      | ((with_reducible refine wpAt 54 ?_); refine loadM (by rfl) 25 _ rfl w.heap.size 34 rfl (idA a.p) _ HC.out.p Tryd.underlying25 rfl (infoId _ (by rw [idA_size, HA.out.p])) ?_)
      | ((with_reducible refine wpAt 57 ?_); refine loadM (by rfl) 25 _ rfl (w.heap.size + 1) 34 rfl (idA b.p) _ HD.out.p Tryd.underlying25 rfl (infoId _ (by rw [idA_size, HB.out.p])) ?_))
    go_ret
    exact ⟨bret HR.out.symm, HX.out⟩
  by_cases n5 : a.h = b.h
  rotate_left
  · have HR : Hid (decide (a = b) = false) := decide_eq_false (fun e => n5 (by rw [e]))
    have q0 : (a.k == b.k) = true := (beq_iff_eq.2 n0)
    have p0 : (a.k != b.k) = false := (by rw [bne_eq_false_iff_eq]; exact n0)
    have q1 : (a.b == b.b) = true := (beq_iff_eq.2 n1)
    have p1 : (a.b != b.b) = false := (by rw [bne_eq_false_iff_eq]; exact n1)
    have q2 : ∀ w, (Op.equalIn 10000 25 (.agg (idA a.id)) (.agg (idA b.id))).run Tryd.prog w = .ok true w := fun w => eqIdT w HA.out.id HB.out.id _ (beq_iff_eq.2 n2)
    have q3 : (a.n == b.n) = true := (beq_iff_eq.2 n3)
    have p3 : (a.n != b.n) = false := (by rw [bne_eq_false_iff_eq]; exact n3)
    have q4 : ∀ w, (Op.equalIn 10000 29 (.agg (u3L a).toArray) (.agg (u3L b).toArray)).run Tryd.prog w = .ok true w := fun w => eqU3T w _ (decide_eq_true n4)
    have q5 : ∀ w, (Op.equalIn 10000 25 (.agg (idA a.h)) (.agg (idA b.h))).run Tryd.prog w = .ok false w := fun w => eqIdT w HA.out.h HB.out.h _ (beq_eq_false_iff_ne.2 n5)
    clear n0 n1 n2 n3 n4 n5
    skip
    go_enter Tryd.func19, Tryd.ntmps19
    go_upto_region 1 with fail
    generalize (w.alloc (.cells (evA a pa ca qa ka) 31)).alloc (.cells (evA b pb cb qb kb) 31) = w1 at *
    skip
    go_wp2_with (first
      | ((with_reducible refine wpAt 23 ?_); refine loadM (by rfl) 25 _ rfl w.heap.size 67 rfl (idA a.id) _ HC.out.id Tryd.underlying25 rfl (infoId _ (by rw [idA_size, HA.out.id])) ?_)
      | ((with_reducible refine wpAt 25 ?_); refine loadM (by rfl) 25 _ rfl (w.heap.size + 1) 67 rfl (idA b.id) _ HD.out.id Tryd.underlying25 rfl (infoId _ (by rw [idA_size, HB.out.id])) ?_)
      | ((with_reducible refine wpAt 37 ?_); refine loadM (by rfl) 29 _ rfl w.heap.size 100 rfl (u3L a).toArray _ HC.out.us Tryd.underlying29 rfl (infoU3 _ rfl) ?_)
      | ((with_reducible refine wpAt 39 ?_); refine loadM (by rfl) 29 _ rfl (w.heap.size + 1) 100 rfl (u3L b).toArray _ HD.out.us Tryd.underlying29 rfl (infoU3 _ rfl) ?_)
      | ((with_reducible refine wpAt 45 ?_); refine loadM (by rfl) 25 _ rfl w.heap.size 2 rfl (idA a.h) _ HC.out.h Tryd.underlying25 rfl (infoId _ (by rw [idA_size, HA.out.h])) ?_)
      | ((with_reducible refine wpAt 48 ?_); refine loadM (by rfl) 25 _ rfl (w.heap.size + 1) 2 rfl (idA b.h) _ HD.out.h Tryd.underlying25 rfl (infoId _ (by rw [idA_size, HB.out.h])) ?_)
      | ((with_reducible refine wpAt 54 ?_); refine loadM (by rfl) 25 _ rfl w.heap.size 34 rfl (idA a.p) _ HC.out.p Tryd.underlying25 rfl (infoId _ (by rw [idA_size, HA.out.p])) ?_)
      | ((with_reducible refine wpAt 57 ?_); refine loadM (by rfl) 25 _ rfl (w.heap.size + 1) 34 rfl (idA b.p) _ HD.out.p Tryd.underlying25 rfl (infoId _ (by rw [idA_size, HB.out.p])) ?_))
    go_ret
    exact ⟨bret HR.out.symm, HX.out⟩
  by_cases n6 : a.p = b.p
  rotate_left
  · have HR : Hid (decide (a = b) = false) := decide_eq_false (fun e => n6 (by rw [e]))
    have q0 : (a.k == b.k) = true := (beq_iff_eq.2 n0)
    have p0 : (a.k != b.k) = false := (by rw [bne_eq_false_iff_eq]; exact n0)
    have q1 : (a.b == b.b) = true := (beq_iff_eq.2 n1)
    have p1 : (a.b != b.b) = false := (by rw [bne_eq_false_iff_eq]; exact n1)
    have q2 : ∀ w, (Op.equalIn 10000 25 (.agg (idA a.id)) (.agg (idA b.id))).run Tryd.prog w = .ok true w := fun w => eqIdT w HA.out.id HB.out.id _ (beq_iff_eq.2 n2)
    have q3 : (a.n == b.n) = true := (beq_iff_eq.2 n3)
    have p3 : (a.n != b.n) = false := (by rw [bne_eq_false_iff_eq]; exact n3)
    have q4 : ∀ w, (Op.equalIn 10000 29 (.agg (u3L a).toArray) (.agg (u3L b).toArray)).run Tryd.prog w = .ok true w := fun w => eqU3T w _ (decide_eq_true n4)
    have q5 : ∀ w, (Op.equalIn 10000 25 (.agg (idA a.h)) (.agg (idA b.h))).run Tryd.prog w = .ok true w := fun w => eqIdT w HA.out.h HB.out.h _ (beq_iff_eq.2 n5)
    have q6 : ∀ w, (Op.equalIn 10000 25 (.agg (idA a.p)) (.agg (idA b.p))).run Tryd.prog w = .ok false w := fun w => eqIdT w HA.out.p HB.out.p _ (beq_eq_false_iff_ne.2 n6)
    clear n0 n1 n2 n3 n4 n5 n6
    skip
    go_enter Tryd.func19, Tryd.ntmps19
    go_upto_region 1 with fail
    generalize (w.alloc (.cells (evA a pa ca qa ka) 31)).alloc (.cells (evA b pb cb qb kb) 31) = w1 at *
    skip
    go_wp2_with (first
      | ((with_reducible refine wpAt 23 ?_); refine loadM (by rfl) 25 _ rfl w.heap.size 67 rfl (idA a.id) _ HC.out.id Tryd.underlying25 rfl (infoId _ (by rw [idA_size, HA.out.id])) ?_)
      | ((with_reducible refine wpAt 25 ?_); refine loadM (by rfl) 25 _ rfl (w.heap.size + 1) 67 rfl (idA b.id) _ HD.out.id Tryd.underlying25 rfl (infoId _ (by rw [idA_size, HB.out.id])) ?_)
      | ((with_reducible refine wpAt 37 ?_); refine loadM (by rfl) 29 _ rfl w.heap.size 100 rfl (u3L a).toArray _ HC.out.us Tryd.underlying29 rfl (infoU3 _ rfl) ?_)
      | ((with_reducible refine wpAt 39 ?_); refine loadM (by rfl) 29 _ rfl (w.heap.size + 1) 100 rfl (u3L b).toArray _ HD.out.us Tryd.underlying29 rfl (infoU3 _ rfl) ?_)
      | ((with_reducible refine wpAt 45 ?_); refine loadM (by rfl) 25 _ rfl w.heap.size 2 rfl (idA a.h) _ HC.out.h Tryd.underlying25 rfl (infoId _ (by rw [idA_size, HA.out.h])) ?_)
      | ((with_reducible refine wpAt 48 ?_); refine loadM (by rfl) 25 _ rfl (w.heap.size + 1) 2 rfl (idA b.h) _ HD.out.h Tryd.underlying25 rfl (infoId _ (by rw [idA_size, HB.out.h])) ?_)
      | ((with_reducible refine wpAt 54 ?_); refine loadM (by rfl) 25 _ rfl w.heap.size 34 rfl (idA a.p) _ HC.out.p Tryd.underlying25 rfl (infoId _ (by rw [idA_size, HA.out.p])) ?_)
      | ((with_reducible refine wpAt 57 ?_); refine loadM (by rfl) 25 _ rfl (w.heap.size + 1) 34 rfl (idA b.p) _ HD.out.p Tryd.underlying25 rfl (infoId _ (by rw [idA_size, HB.out.p])) ?_))
    go_ret
    exact ⟨bret HR.out.symm, HX.out⟩
  have q0 : (a.k == b.k) = true := (beq_iff_eq.2 n0)
  have p0 : (a.k != b.k) = false := (by rw [bne_eq_false_iff_eq]; exact n0)
  have q1 : (a.b == b.b) = true := (beq_iff_eq.2 n1)
  have p1 : (a.b != b.b) = false := (by rw [bne_eq_false_iff_eq]; exact n1)
  have q2 : ∀ w, (Op.equalIn 10000 25 (.agg (idA a.id)) (.agg (idA b.id))).run Tryd.prog w = .ok true w := fun w => eqIdT w HA.out.id HB.out.id _ (beq_iff_eq.2 n2)
  have q3 : (a.n == b.n) = true := (beq_iff_eq.2 n3)
  have p3 : (a.n != b.n) = false := (by rw [bne_eq_false_iff_eq]; exact n3)
  have q4 : ∀ w, (Op.equalIn 10000 29 (.agg (u3L a).toArray) (.agg (u3L b).toArray)).run Tryd.prog w = .ok true w := fun w => eqU3T w _ (decide_eq_true n4)
  have q5 : ∀ w, (Op.equalIn 10000 25 (.agg (idA a.h)) (.agg (idA b.h))).run Tryd.prog w = .ok true w := fun w => eqIdT w HA.out.h HB.out.h _ (beq_iff_eq.2 n5)
  have q6 : ∀ w, (Op.equalIn 10000 25 (.agg (idA a.p)) (.agg (idA b.p))).run Tryd.prog w = .ok true w := fun w => eqIdT w HA.out.p HB.out.p _ (beq_iff_eq.2 n6)
  have HEQ : Hid (a.tx = b.tx ↔ a = b) := ⟨fun e => (ev_eq a b).2 ⟨n0, n1, n2, n3, n4, n5, n6, e⟩, fun e => by rw [e]⟩
  clear n0 n1 n2 n3 n4 n5 n6
  have ha := HAT.out.ids.sl.le
  have hb := HBT.out.ids.sl.le
  have ham := HAT.out.ids.sl.max
  have hbm := HBT.out.ids.sl.max
  by_cases n7 : a.tx.length = b.tx.length
  rotate_left
  · have HR : Hid (decide (a = b) = false) := decide_eq_false (fun e => n7 (by rw [e]))
    have q7 : ((a.tx.length : Int) == (b.tx.length : Int)) = false := beq_eq_false_iff_ne.2 (by omega)
    have p7 : ((a.tx.length : Int) != (b.tx.length : Int)) = true := bne_iff_ne.2 (by omega)
    have q8 : (a.tx.length == b.tx.length) = false := beq_eq_false_iff_ne.2 n7
    have p8 : (a.tx.length != b.tx.length) = true := bne_iff_ne.2 n7
    clear n7
    skip
    go_enter Tryd.func19, Tryd.ntmps19
    go_upto_region 1 with fail
    generalize (w.alloc (.cells (evA a pa ca qa ka) 31)).alloc (.cells (evA b pb cb qb kb) 31) = w1 at *
    skip
    go_wp2_with (first
      | ((with_reducible refine wpAt 23 ?_); refine loadM (by rfl) 25 _ rfl w.heap.size 67 rfl (idA a.id) _ HC.out.id Tryd.underlying25 rfl (infoId _ (by rw [idA_size, HA.out.id])) ?_)
      | ((with_reducible refine wpAt 25 ?_); refine loadM (by rfl) 25 _ rfl (w.heap.size + 1) 67 rfl (idA b.id) _ HD.out.id Tryd.underlying25 rfl (infoId _ (by rw [idA_size, HB.out.id])) ?_)
      | ((with_reducible refine wpAt 37 ?_); refine loadM (by rfl) 29 _ rfl w.heap.size 100 rfl (u3L a).toArray _ HC.out.us Tryd.underlying29 rfl (infoU3 _ rfl) ?_)
      | ((with_reducible refine wpAt 39 ?_); refine loadM (by rfl) 29 _ rfl (w.heap.size + 1) 100 rfl (u3L b).toArray _ HD.out.us Tryd.underlying29 rfl (infoU3 _ rfl) ?_)
      | ((with_reducible refine wpAt 45 ?_); refine loadM (by rfl) 25 _ rfl w.heap.size 2 rfl (idA a.h) _ HC.out.h Tryd.underlying25 rfl (infoId _ (by rw [idA_size, HA.out.h])) ?_)
      | ((with_reducible refine wpAt 48 ?_); refine loadM (by rfl) 25 _ rfl (w.heap.size + 1) 2 rfl (idA b.h) _ HD.out.h Tryd.underlying25 rfl (infoId _ (by rw [idA_size, HB.out.h])) ?_)
      | ((with_reducible refine wpAt 54 ?_); refine loadM (by rfl) 25 _ rfl w.heap.size 34 rfl (idA a.p) _ HC.out.p Tryd.underlying25 rfl (infoId _ (by rw [idA_size, HA.out.p])) ?_)
      | ((with_reducible refine wpAt 57 ?_); refine loadM (by rfl) 25 _ rfl (w.heap.size + 1) 34 rfl (idA b.p) _ HD.out.p Tryd.underlying25 rfl (infoId _ (by rw [idA_size, HB.out.p])) ?_))
    go_ret
    exact ⟨bret HR.out.symm, HX.out⟩
  have q7 : ((a.tx.length : Int) == (b.tx.length : Int)) = true := beq_iff_eq.2 (by omega)
  have p7 : ((a.tx.length : Int) != (b.tx.length : Int)) = false := by rw [bne_eq_false_iff_eq]; omega
  have q8 : (a.tx.length == b.tx.length) = true := beq_iff_eq.2 n7
  have p8 : (a.tx.length != b.tx.length) = false := by rw [bne_eq_false_iff_eq]; exact n7
  have HLN := Lib.hid n7
  have HDC := Lib.hid d7
  clear n7
  skip
  go_enter Tryd.func19, Tryd.ntmps19
  go_upto_region 1 with fail
  generalize (w.alloc (.cells (evA a pa ca qa ka) 31)).alloc (.cells (evA b pb cb qb kb) 31) = w1 at *
  skip
  go_upto_region 3 with (first
    | ((with_reducible refine wpAt 23 ?_); refine loadM (by rfl) 25 _ rfl w.heap.size 67 rfl (idA a.id) _ HC.out.id Tryd.underlying25 rfl (infoId _ (by rw [idA_size, HA.out.id])) ?_)
    | ((with_reducible refine wpAt 25 ?_); refine loadM (by rfl) 25 _ rfl (w.heap.size + 1) 67 rfl (idA b.id) _ HD.out.id Tryd.underlying25 rfl (infoId _ (by rw [idA_size, HB.out.id])) ?_)
    | ((with_reducible refine wpAt 37 ?_); refine loadM (by rfl) 29 _ rfl w.heap.size 100 rfl (u3L a).toArray _ HC.out.us Tryd.underlying29 rfl (infoU3 _ rfl) ?_)
    | ((with_reducible refine wpAt 39 ?_); refine loadM (by rfl) 29 _ rfl (w.heap.size + 1) 100 rfl (u3L b).toArray _ HD.out.us Tryd.underlying29 rfl (infoU3 _ rfl) ?_)
    | ((with_reducible refine wpAt 45 ?_); refine loadM (by rfl) 25 _ rfl w.heap.size 2 rfl (idA a.h) _ HC.out.h Tryd.underlying25 rfl (infoId _ (by rw [idA_size, HA.out.h])) ?_)
    | ((with_reducible refine wpAt 48 ?_); refine loadM (by rfl) 25 _ rfl (w.heap.size + 1) 2 rfl (idA b.h) _ HD.out.h Tryd.underlying25 rfl (infoId _ (by rw [idA_size, HB.out.h])) ?_)
    | ((with_reducible refine wpAt 54 ?_); refine loadM (by rfl) 25 _ rfl w.heap.size 34 rfl (idA a.p) _ HC.out.p Tryd.underlying25 rfl (infoId _ (by rw [idA_size, HA.out.p])) ?_)
    | ((with_reducible refine wpAt 57 ?_); refine loadM (by rfl) 25 _ rfl (w.heap.size + 1) 34 rfl (idA b.p) _ HD.out.p Tryd.underlying25 rfl (infoId _ (by rw [idA_size, HB.out.p])) ?_))
  clear q0 p0 q1 p1 q2 q3 p3 q4 q5 q6 q7 p7 q8 p8 c0 d0 c1 d1 c3 d3 v1 v2
  go_wp2_with fail
  have hzi := zeroId
  go_loopw [5, 6, 75] (fun _ _ j wr => ∃ k : Nat, k ≤ a.tx.length ∧ j = .int .i64 k ∧ a.tx.take k = b.tx.take k ∧ Below w1.heap.size w1 wr) (fun _ _ j _ => a.tx.length - (intOf j).toNat)
  case atStart => exact ⟨0, by omega, rfl, rfl, Below.refl _ _⟩
  case round =>
    obtain ⟨k, hk, rfl, heq, hbw⟩ := hrel
    have HTK := Lib.hid heq
    have HBW := Lib.hid hbw
    clear heq hbw
    by_cases hlt : k < a.tx.length
    · have hlt2 : k < b.tx.length := by rw [← HLN.out]; exact hlt
      have hd : decide ((k : Int) < (a.tx.length : Int)) = true := decide_eq_true (by omega)
      have hd2 : decide (k < a.tx.length) = true := decide_eq_true hlt
      obtain ⟨ba, oa, rfl⟩ := HAT.out.ids.sl.addr (by omega) (by omega)
      obtain ⟨bb, ob, rfl⟩ := HBT.out.ids.sl.addr (by omega) (by omega)
      have hx1 := HAT.out.ids
      have hx2 := HBT.out.ids
      have hr1 := hx1.range (by omega) k hlt
      have hr2 := hx2.range (by omega) k hlt2
      have HLA : Hid ((a.tx[k]'hlt).length = 32) := hx1.each _ (List.getElem_mem _)
      have HLB : Hid ((b.tx[k]'hlt2).length = 32) := hx2.each _ (List.getElem_mem _)
      have HST : Hid (a.tx[k]'hlt = b.tx[k]'hlt2 → a.tx.take (k + 1) = b.tx.take (k + 1)) := fun e => RR.take_eq_step HTK.out hlt hlt2 e
      have HNE : Hid (¬ a.tx[k]'hlt = b.tx[k]'hlt2 → decide (a = b) = false) := fun h => decide_eq_false (fun e => h (by subst e; rfl))
      generalize a.tx[k]'hlt = x at *
      generalize b.tx[k]'hlt2 = y at *
      have hb0 := box_below wr Z32 (idA x) 25
      have HBX := Lib.hid hb0
      have HRW := Lib.hid (box_row wr Z32 (idA x) 25)
      have HR1 := Lib.hid (range_below hr1 HBW.out)
      have HR2 := Lib.hid (range_below (range_below hr2 HBW.out) hb0)
      have hcb := HDC.out
      have d7b := cell_below (cell_below hcb HBW.out) hb0
      clear hx1 hx2 hr1 hr2 hb0 hcb
      go_upto_region 6 with (first
        | ((with_reducible refine wpAt 79 ?_); refine loadM (by rfl) 25 _ rfl ba (oa + k * 32) rfl (idA x) _ HR1.out Tryd.underlying25 rfl (infoId _ (by rw [idA_size, HLA.out])) ?_)
        | ((with_reducible refine wpStoreAt 6 ?_); refine wpList_store_row rfl 25 _ _ rfl wr.heap.size (idA x) rfl rfl 25 Z32 (box_new _ _ _) (infoId _ (by rw [idA_size, HLA.out])) (by rw [idA_size, HLA.out]; rfl) (idA_one _) ?_))
      generalize (wr.alloc (.cells Z32 25)).setRow wr.heap.size (idA x) = w5 at *
      have HB5 := Lib.hid (HBW.out.trans (HBX.out.mono HBW.out.size))
      have hr3 := row_rangeS HRW.out
      have HRG := Lib.hid (range_grown hr3)
      have HRH := Lib.hid (range_grown HR2.out)
      have hcg := cell_grown d7b
      clear hr3 d7b
      by_cases hxy : x = y
      · have hq : ∀ w, (Op.equalIn 10000 25 (.agg (idA x)) (.agg (idA y))).run Tryd.prog w = .ok true w := fun w => eqIdT w HLA.out HLB.out _ (beq_iff_eq.2 hxy)
        have HN := Lib.hid (HST.out hxy)
        clear hxy
        refine wp_region_grow (by kernel_rfl) (by kernel_rfl) ?_
        repeat (first
          | refine wpQuiet_load rfl 25 _ rfl wr.heap.size 0 rfl (idA x) _ HRG.out Tryd.underlying25 rfl (infoId _ (by rw [idA_size, HLA.out])) ?_
          | refine wpQuiet_load rfl 25 _ rfl bb (ob + k * 32) rfl (idA y) _ HRH.out Tryd.underlying25 rfl (infoId _ (by rw [idA_size, HLB.out])) ?_
          | quiet_step (fail))
        refine wpQuiet_nil ?_
        intro w3 hb3
        have HB6 := Lib.hid (HB5.out.trans (hb3.mono HB5.out.size))
        clear hb3 hq
        go_wp2_with fail
        go_roundw
        case rel => exact ⟨k + 1, by omega, by go_num, HN.out, HB6.out⟩
        case measure => simp [intOf]; omega
      · have hq : ∀ w, (Op.equalIn 10000 25 (.agg (idA x)) (.agg (idA y))).run Tryd.prog w = .ok false w := fun w => eqIdT w HLA.out HLB.out _ (beq_eq_false_iff_ne.2 hxy)
        have HN := Lib.hid (HNE.out hxy)
        clear hxy
        refine wp_region_grow (by kernel_rfl) (by kernel_rfl) ?_
        repeat (first
          | refine wpQuiet_load rfl 25 _ rfl wr.heap.size 0 rfl (idA x) _ HRG.out Tryd.underlying25 rfl (infoId _ (by rw [idA_size, HLA.out])) ?_
          | refine wpQuiet_load rfl 25 _ rfl bb (ob + k * 32) rfl (idA y) _ HRH.out Tryd.underlying25 rfl (infoId _ (by rw [idA_size, HLB.out])) ?_
          | quiet_step (fail))
        refine wpQuiet_nil ?_
        intro w3 hb3
        have HB6 := Lib.hid (HB5.out.trans (hb3.mono HB5.out.size))
        clear hb3 hq
        go_wp2_with fail
        go_ret
        exact ⟨bret HN.out.symm, HX.out.trans (HB6.out.mono HX.out.size)⟩
    · have HR : Hid (decide (a = b) = true) := by
        show _ = _
        have h1 := HTK.out
        rw [List.take_of_length_le (by omega), List.take_of_length_le (by rw [← HLN.out]; omega)] at h1
        exact decide_eq_true (HEQ.out.1 h1)
      have hd : decide ((k : Int) < (a.tx.length : Int)) = false := decide_eq_false (by omega)
      have hd2 : decide (k < a.tx.length) = false := decide_eq_false hlt
      go_wp2_with fail
      go_ret
      exact ⟨bret HR.out.symm, HX.out.trans (HBW.out.mono HX.out.size)⟩
end Go.Proofs.YtcddgbobbogpgaaDoor.Scr

namespace Go.Proofs
open Go.Shelf
def Tryd.lays170_ren : Go.Shelf.Ren := ⟨fun | 170 => 42 | n => n, fun | 70 => 93 | 3 => 3 | 0 => 0 | 72 => 95 | 37 => 23 | 5 => 5 | n => n, fun | n => n⟩
theorem Tryd.lays170 : Go.Proofs.Lays.n170 Tryd.prog Tryd.lays170_ren := {
  mixed := by kernel_rfl
  f170 := Tryd.func42.trans (congrArg some (by kernel_rfl))
  t0 := Tryd.underlying0
  a0 := Tryd.isAgg0
  z0 := Tryd.sizeOf0
  v0 := Tryd.zeroValue0
  t3 := Tryd.underlying3
  a3 := Tryd.isAgg3
  z3 := Tryd.sizeOf3
  v3 := Tryd.zeroValue3
  t37 := Tryd.underlying23
  a37 := Tryd.isAgg23
  z37 := Tryd.sizeOf23
  v37 := Tryd.zeroValue23
  t70 := Tryd.underlying93
  a70 := Tryd.isAgg93
  z70 := Tryd.sizeOf93
  v70 := Tryd.zeroValue93
  t72 := Tryd.underlying95
  a72 := Tryd.isAgg95
  z72 := Tryd.sizeOf95
  v72 := Tryd.zeroValue95 }
open Go.RowKit in
/-- (*strings.Builder).Len: "Len returns the number of accumulated bytes; b.Len() == len(b.String()).": the world is as it was. (LAID: no walk: one application.) -/
theorem Tryd.Builder_Len (B b : Nat) (bs : List Value) (w : World) (h : Lib.IsBuilder 95 5 B b bs w) :
    Calls Tryd.prog 42 #[.pointer (some ⟨b, 0, none⟩)] w fun e w' => e = .returned (.int .i64 bs.length) ∧ w' = w := Any.Builder_Len Tryd.lays170 B b bs w h
def Tryd.lays169_ren : Go.Shelf.Ren := ⟨fun | 169 => 43 | n => n, fun | 70 => 93 | 9 => 9 | 0 => 0 | 72 => 95 | 37 => 23 | 127 => 116 | 3 => 3 | 5 => 5 | n => n, fun | n => n⟩
theorem Tryd.lays169 : Go.Proofs.Lays.n169 Tryd.prog Tryd.lays169_ren := {
  mixed := by kernel_rfl
  f169 := Tryd.func43.trans (congrArg some (by kernel_rfl))
  t0 := Tryd.underlying0
  a0 := Tryd.isAgg0
  z0 := Tryd.sizeOf0
  v0 := Tryd.zeroValue0
  t3 := Tryd.underlying3
  a3 := Tryd.isAgg3
  z3 := Tryd.sizeOf3
  v3 := Tryd.zeroValue3
  t9 := Tryd.underlying9
  a9 := Tryd.isAgg9
  z9 := Tryd.sizeOf9
  v9 := Tryd.zeroValue9
  t37 := Tryd.underlying23
  a37 := Tryd.isAgg23
  z37 := Tryd.sizeOf23
  v37 := Tryd.zeroValue23
  t70 := Tryd.underlying93
  a70 := Tryd.isAgg93
  z70 := Tryd.sizeOf93
  v70 := Tryd.zeroValue93
  t72 := Tryd.underlying95
  a72 := Tryd.isAgg95
  z72 := Tryd.sizeOf95
  v72 := Tryd.zeroValue95
  t127 := Tryd.underlying116
  a127 := Tryd.isAgg116
  z127 := Tryd.sizeOf116
  v127 := Tryd.zeroValue116 }
theorem Tryd.Builder_Extra_169 : Builder.Extra Tryd.prog Tryd.lays169_ren := {
  sizeBuilder := by kernel_rfl
  liesBuilder := by kernel_rfl
  t5 := Tryd.underlying5
  a5 := Tryd.isAgg5
  z5 := Tryd.sizeOf5
  v5 := Tryd.zeroValue5
  infoByte := by kernel_rfl
  cellsByte := by kernel_rfl
  sizeByte := by kernel_rfl
  neB5 := by decide }
open Go.RowKit in
/-- (*strings.Builder).String: "String returns the accumulated string.": WHATEVER THE BUILDER HOLDS. (LAID: no walk: one application.) -/
theorem Tryd.Builder_String_any (B b : Nat) (l : List UInt8) (w : World) (h : Lib.IsBuilder 95 5 B b (Lib.byteCells l) w) (hBw : B ≤ w.heap.size) :
    Calls Tryd.prog 43 #[.pointer (some ⟨b, 0, none⟩)] w fun e w' => e = .returned (.string ⟨l.toArray⟩) ∧ Below B w w' := Any.Builder_String_any Tryd.lays169 Tryd.Builder_Extra_169 B b l w h hBw
def Tryd.lays145_ren : Go.Shelf.Ren := ⟨fun | 145 => 64 | 220 => 75 | 219 => 80 | 217 => 83 | 225 => 84 | 224 => 85 | 267 => 86 | 266 => 87 | 314 => 88 | n => n, fun | 9 => 9 | 4 => 4 | 59 => 118 | 3 => 3 | 5 => 5 | 46 => 122 | 146 => 142 | 51 => 141 | n => n, fun | 1 => 0 | n => n⟩
theorem Tryd.lays145 : Go.Proofs.Lays.n145 Tryd.prog Tryd.lays145_ren := {
  mixed := by kernel_rfl
  f145 := Tryd.func64.trans (congrArg some (by kernel_rfl))
  f217 := Tryd.func83.trans (congrArg some (by kernel_rfl))
  f219 := Tryd.func80.trans (congrArg some (by kernel_rfl))
  f220 := Tryd.func75.trans (congrArg some (by kernel_rfl))
  f224 := Tryd.func85.trans (congrArg some (by kernel_rfl))
  f225 := Tryd.func84.trans (congrArg some (by kernel_rfl))
  f266 := Tryd.func87.trans (congrArg some (by kernel_rfl))
  f267 := Tryd.func86.trans (congrArg some (by kernel_rfl))
  f314 := Tryd.func88.trans (congrArg some (by kernel_rfl))
  t3 := Tryd.underlying3
  a3 := Tryd.isAgg3
  z3 := Tryd.sizeOf3
  v3 := Tryd.zeroValue3
  t4 := Tryd.underlying4
  a4 := Tryd.isAgg4
  z4 := Tryd.sizeOf4
  v4 := Tryd.zeroValue4
  t5 := Tryd.underlying5
  a5 := Tryd.isAgg5
  z5 := Tryd.sizeOf5
  v5 := Tryd.zeroValue5
  t9 := Tryd.underlying9
  a9 := Tryd.isAgg9
  z9 := Tryd.sizeOf9
  v9 := Tryd.zeroValue9
  t46 := Tryd.underlying122
  a46 := Tryd.isAgg122
  z46 := Tryd.sizeOf122
  v46 := Tryd.zeroValue122
  t51 := Tryd.underlying141
  a51 := Tryd.isAgg141
  z51 := Tryd.sizeOf141
  v51 := Tryd.zeroValue141
  t59 := Tryd.underlying118
  a59 := Tryd.isAgg118
  z59 := Tryd.sizeOf118
  v59 := Tryd.zeroValue118
  t146 := Tryd.underlying142
  a146 := Tryd.isAgg142
  z146 := Tryd.sizeOf142
  v146 := Tryd.zeroValue142
  g1 := by kernel_rfl }
open Go.RowKit Go.Lib in
/-- strings.Cut: "Cut slices s around the first instance of sep, returning the text before and after sep. The found result reports whether sep appears in s. If sep does not appear in s, cut returns s, "", false.": IT RETURNS 'Lib.cut s sep'; the world is as it was but for the count of draws. (LAID: no walk: one application.) -/
theorem Tryd.strings_Cut (s sep : ByteArray) (m : Int) (w : World) (hs : s.size < 4294967281) (hm : w.cell? ⟨0, 0, none⟩ = some (.int .i64 m)) :
    Calls Tryd.prog 64 #[.string s, .string sep] w fun e w' => e = .returned (.tuple #[.string ⟨(Lib.cut s.data.toList sep.data.toList).1.toArray⟩, .string ⟨(Lib.cut s.data.toList sep.data.toList).2.1.toArray⟩, .bool (Lib.cut s.data.toList sep.data.toList).2.2]) ∧ ∃ n, w' = w.drewN n := Any.strings_Cut Tryd.lays145 s sep m w hs hm
def Tryd.lays99_ren : Go.Shelf.Ren := ⟨fun | 99 => 45 | 206 => 65 | n => n, fun | 9 => 9 | 4 => 4 | 3 => 3 | n => n, fun | n => n⟩
theorem Tryd.lays99 : Go.Proofs.Lays.n99 Tryd.prog Tryd.lays99_ren := {
  mixed := by kernel_rfl
  f99 := Tryd.func45.trans (congrArg some (by kernel_rfl))
  f206 := Tryd.func65.trans (congrArg some (by kernel_rfl))
  t3 := Tryd.underlying3
  a3 := Tryd.isAgg3
  z3 := Tryd.sizeOf3
  v3 := Tryd.zeroValue3
  t4 := Tryd.underlying4
  a4 := Tryd.isAgg4
  z4 := Tryd.sizeOf4
  v4 := Tryd.zeroValue4
  t9 := Tryd.underlying9
  a9 := Tryd.isAgg9
  z9 := Tryd.sizeOf9
  v9 := Tryd.zeroValue9 }
open Go.RowKit Go.Lib in
/-- strings.HasPrefix: "HasPrefix reports whether the string s begins with prefix.": IT RETURNS 'Lib.hasPrefix s prefix'; the world is as it was. (LAID: no walk: one application.) -/
theorem Tryd.strings_HasPrefix (s p : ByteArray) (w : World) :
    Calls Tryd.prog 45 #[.string s, .string p] w fun e w' => e = .returned (.bool (Lib.hasPrefix s.data.toList p.data.toList)) ∧ w' = w := Any.strings_HasPrefix Tryd.lays99 s p w
open Go.RowKit in
/-- (*strings.Builder).WriteString: "WriteString appends the contents of s to b's buffer. It returns the length of s and a nil error.": UNDER Go's OWN LIMIT: the new length takes at most 2^47 bytes. (LAID: no walk: one application.) -/
theorem Tryd.Builder_WriteString (B b : Nat) (bs : List Value) (s : ByteArray) (w : World) (h : Lib.IsBuilder 95 5 B b bs w) (hlen : bs.length + s.size ≤ 140737488355328) (hBw : B ≤ w.heap.size) :
    Calls Tryd.prog 41 #[.pointer (some ⟨b, 0, none⟩), .string s] w fun e w' => e = .returned (.tuple #[.int .i64 s.size, .nilIface]) ∧ (Lib.BuilderAt 95 5 B b (.pointer (some ⟨b, 0, none⟩)) (bs ++ Lib.strCells s) w' ∧ Below B w w') := Any.Builder_WriteString { Tryd.lays156 with } Tryd.Builder_Extra_156 B b bs s w h hlen hBw
end Go.Proofs

namespace Go.Proofs.YtcddgbobbogpgaaDoor.Scr
open Go.RowKit Go.Mir Go.Mir.Hx Go.Mir.Parts HexW Rpl

/-- a builder of the call's own -/
def BB (B b : Nat) (l : List UInt8) (w : World) : Prop := Go.Lib.IsBuilder 95 5 B b (Go.Lib.byteCells l) w
theorem zeroB (w : World) : (zeroValue 95).run Tryd.prog w = .ok (.agg #[.pointer none, .slice none 0 0]) w := by kernel_rfl
theorem bb_new (w : World) : BB w.heap.size w.heap.size [] (w.alloc (.cells #[.pointer none, .slice none 0 0] 95)) :=
  .inl ⟨Nat.le_refl _, .slice none 0 0, heap_alloc_last _ _, World.ownsRow_nil _ _ _ _, by simp [Value.ownBlock]⟩
theorem at_below {T e B b : Nat} {p : Value} {bs : List Value} {w w' : World} (h : Go.Lib.BuilderAt T e B b p bs w) (hb : Below w.heap.size w w') : Go.Lib.BuilderAt T e B b p bs w' := by
  obtain ⟨hB, v, hr, ho, hn⟩ := h
  exact ⟨hB, v, Below.keepOld hb hr, own_touch ho (Turns.of_below (S := fun _ => False) hb) (fun _ _ h => h), hn⟩
theorem BB.below {B b : Nat} {l : List UInt8} {w w' : World} (h : BB B b l w) (hb : Below w.heap.size w w') : BB B b l w' := by
  rcases h with h | h
  · exact .inl (at_below h hb)
  · exact .inr (at_below h hb)
theorem bwrite_any (B b : Nat) (l x : List UInt8) (w : World) (h : BB B b l w) (hl : l.length + x.length ≤ 140737488355328) (hB : B ≤ w.heap.size) :
    Calls Tryd.prog 41 #[.pointer (some ⟨b, 0, none⟩), .string (S x)] w fun e w' => e = .returned (.tuple #[.int .i64 (x.length : Int), .nilIface]) ∧ BB B b (l ++ x) w' ∧ Below B w w' := by
  refine (Tryd.Builder_WriteString B b (Go.Lib.byteCells l) (S x) w h (by rw [Go.Lib.byteCells_length, S_size]; exact hl) hB).mono ?_
  rintro e w' ⟨rfl, h1, h2⟩
  refine ⟨by rw [S_size], .inr ?_, h2⟩
  rw [Go.Lib.byteCells_append]
  have : Go.Lib.strCells (S x) = Go.Lib.byteCells x := by rw [Go.Lib.strCells_eq, S_data]
  rw [← this]
  exact h1
theorem blen_any (B b : Nat) (l : List UInt8) (w : World) (h : BB B b l w) :
    Calls Tryd.prog 42 #[.pointer (some ⟨b, 0, none⟩)] w fun e w' => e = .returned (.int .i64 (l.length : Int)) ∧ w' = w := by
  have := Tryd.Builder_Len B b (Go.Lib.byteCells l) w h
  rw [Go.Lib.byteCells_length] at this
  exact this
theorem bstr_any (B b : Nat) (l : List UInt8) (w : World) (h : BB B b l w) (hB : B ≤ w.heap.size) :
    Calls Tryd.prog 43 #[.pointer (some ⟨b, 0, none⟩)] w fun e w' => e = .returned (.string (S l)) ∧ Below B w w' := Tryd.Builder_String_any B b l w h hB
theorem cut_idx : ∀ s : List UInt8, Go.Lib.cut s [10] = ((cutL s).1, (cutL s).2, decide (0 ≤ Go.Lib.index s [10]))
  | [] => by
    unfold Go.Lib.cut
    have : Go.Lib.index [] [10] = -1 := by decide
    rw [this]; rfl
  | c :: r => by
    have ih := cut_idx r
    by_cases hc : c = 10
    · subst hc
      have hix : Go.Lib.index (10 :: r) [10] = ((0 : Nat) : Int) := by rw [Go.Lib.index]; simp [List.isPrefixOf]
      unfold Go.Lib.cut
      rw [hix]
      simp [cutL]
    · have hp : [(10 : UInt8)].isPrefixOf (c :: r) = false := by simp [List.isPrefixOf, Ne.symm hc]
      have hix : Go.Lib.index (c :: r) [10] = if Go.Lib.index r [10] == -1 then -1 else Go.Lib.index r [10] + 1 := by rw [Go.Lib.index, hp]; simp
      have hge := Go.Lib.index_ge r [10]
      by_cases hm : Go.Lib.index r [10] = -1
      · have h1 : Go.Lib.index (c :: r) [10] = -1 := by rw [hix, hm]; rfl
        unfold Go.Lib.cut at ih ⊢
        rw [hm] at ih
        rw [h1]
        simp only [Int.reduceNeg, show ¬ (0 : Int) ≤ -1 by decide, if_false, decide_false] at ih ⊢
        injection ih with i1 i2
        injection i2 with i2 _
        rw [cutL, if_neg hc, ← i1, ← i2]
      · obtain ⟨j, hj⟩ : ∃ j : Nat, Go.Lib.index r [10] = j := ⟨(Go.Lib.index r [10]).toNat, by omega⟩
        have h1 : Go.Lib.index (c :: r) [10] = ((j + 1 : Nat) : Int) := by rw [hix, if_neg (fun e => hm (beq_iff_eq.1 e)), hj]; omega
        unfold Go.Lib.cut at ih ⊢
        rw [hj] at ih
        rw [h1]
        rw [if_pos (by omega)] at ih ⊢
        rw [decide_eq_true (by omega)] at ih ⊢
        injection ih with i1 i2
        injection i2 with i2 _
        rw [cutL, if_neg hc, ← i1, ← i2]
        simp
theorem cut_any (s : List UInt8) (w : World) (hs : s.length < 4294967281) (hm : MaxL w) :
    Calls Tryd.prog 64 #[.string (S s), .string ⟨#[10]⟩] w fun e w' => ∃ b, e = .returned (.tuple #[.string (S (cutL s).1), .string (S (cutL s).2), .bool b]) ∧ Below w.heap.size w w' := by
  obtain ⟨m, hm⟩ := hm
  refine (Tryd.strings_Cut (S s) ⟨#[10]⟩ m w (by rw [S_size]; exact hs) hm).mono ?_
  rintro e w' ⟨rfl, n, rfl⟩
  rw [S_data]
  refine ⟨decide (0 ≤ Go.Lib.index s [10]), ?_, ⟨rfl, rfl, rfl, Nat.le_refl _, fun i _ => rfl⟩⟩
  show Ending.returned (.tuple #[.string ⟨(Go.Lib.cut s [10]).1.toArray⟩, .string ⟨(Go.Lib.cut s [10]).2.1.toArray⟩, .bool (Go.Lib.cut s [10]).2.2]) = _
  rw [cut_idx]; rfl
theorem hasp_any (x : List UInt8) (w : World) :
    Calls Tryd.prog 45 #[.string (S x), .string ⟨#[35]⟩] w fun e w' => e = .returned (.bool (decide (x.head? = some 35))) ∧ w' = w := by
  refine (Tryd.strings_HasPrefix (S x) ⟨#[35]⟩ w).mono ?_
  rintro e w' ⟨rfl, rfl⟩
  refine ⟨?_, rfl⟩
  rw [S_data]
  congr 2
  cases x with
  | nil => rfl
  | cons a r =>
    unfold Go.Lib.hasPrefix
    by_cases h : a = 35
    · subst h; simp
    · simp [h, List.isPrefixOf, Ne.symm h]
end Go.Proofs.YtcddgbobbogpgaaDoor.Scr

namespace Go.Proofs.YtcddgbobbogpgaaDoor.Scr
open Go.RowKit Go.Mir Go.Mir.Hx Go.Mir.Parts Go.Shelf HexW Rpl
attribute [local go_sem] Oper.semAt_some

theorem lines_any (s : List UInt8) (w : World) :
    Calls Tryd.prog 44 #[.string (S s)] w fun e w' => e = .returned (.func (.func 63) #[] #[.pointer (some ⟨w.heap.size, 0, none⟩)]) ∧ w' = w.alloc (.cells #[.string (S s)] 9) := by
  go_enter Tryd.func44, Tryd.ntmps44
  go_wp2_with fail
  go_ret
  exact ⟨rfl, rfl⟩
def lEnc (LS : List (List UInt8)) (i : Nat) : Array Value := #[.int .i64 ((i : Int) + 1), .string (S (LS.getD i []))]
def LG (LS : List (List UInt8)) (pre : List Nat) (i : Nat) (_ : World) : Prop := pre = List.range i ∧ i < LS.length
def LT (n₀ Bn : Nat) (k : Nat) : Prop := n₀ ≤ k ∧ ¬ k = Bn
theorem maxL_turns {w w' : World} {S : Nat → Prop} (h : MaxL w) (ht : Turns S w w') (h0 : ¬ S (Tryd.lays146_ren.g 1)) : MaxL w' := by
  obtain ⟨m, hm⟩ := h
  exact ⟨m, ht.cell hm h0⟩
theorem lines_le (s : List UInt8) : (linesL s).length ≤ s.length := by
  have : ∀ (n : Nat) (s : List UInt8), s.length ≤ n → (linesL s).length ≤ s.length := by
    intro n
    induction n with
    | zero =>
      intro s hs
      have : s = [] := List.length_eq_zero_iff.1 (by omega)
      subst this; exact Nat.le_refl _
    | succ n ih =>
      intro s hs
      by_cases h0 : s = []
      · subst h0; exact Nat.le_refl _
      · rw [lines_cut s h0, List.length_cons]
        have h1 := cut_lt s h0
        have := ih (cutL s).2 (by omega)
        omega
  exact this s.length s (Nat.le_refl _)
set_option maxRecDepth 100000 in
set_option maxHeartbeats 2000000 in
theorem lines1_seq (m : Nat) (hm1 : 1 ≤ m) (Bn n₀ : Nat) (s : List UInt8) (w : World) (hm : MaxL w) (hm0 : Tryd.lays146_ren.g 1 < n₀) (hn0 : n₀ ≤ Bn) (hc : w.heap[Bn]? = some (.cells #[.string (S s)] 9 (0, 0))) (hs : s.length ≤ 1000000) :
    SeqU Tryd.prog m 63 #[.pointer (some ⟨Bn, 0, none⟩)] (lEnc (linesL s)) (fun k => k = Bn) (LT n₀ Bn) (LG (linesL s)) (fun xs => xs = List.range (linesL s).length) (fun _ => True) w := by
  intro y J Jx W hW hJ hJx hY h0
  have HM := Lib.hid (hm.below hW)
  have HBX := Lib.hid (Below.keepOld hW hc)
  have HY := Lib.hid hY
  have HLL := Lib.hid (lines_le s)
  have HJC := Lib.hid hJ
  obtain ⟨LS, hLS⟩ : ∃ LS, linesL s = LS := ⟨_, rfl⟩
  have HLS := Lib.hid hLS
  rw [hLS] at HY HLL ⊢
  clear hm hc hW hY hJ hLS
  refine callsIn_of_wp Tryd.func63 rfl trivial ?_ rfl
  simp only [Tryd.ntmps63, List.size_toArray, List.length_cons, List.length_nil, Nat.reduceAdd, Nat.reduceSub, Array.replicate_succ, Array.replicate_zero, List.push_toArray, List.append_toArray, List.nil_append, List.cons_append]
  gi_wp2
  gi_loopw [3] (fun v wr => ∃ (i : Nat) (r : List UInt8), v = .int .i64 ((i + 1 : Nat) : Int) ∧ i ≤ LS.length ∧ linesL r = LS.drop i ∧ r.length ≤ s.length ∧ J (List.range i) wr ∧ wr.heap[Bn]? = some (.cells #[.string (S r)] 9 (0, 0)) ∧ MaxL wr) (fun v _ => LS.length + 1 - (intOf v).toNat)
  case atStart => exact ⟨0, s, rfl, by omega, HLS.out, Nat.le_refl _, h0, HBX.out, HM.out⟩
  case round =>
    obtain ⟨i, r, rfl, hi, hr, hrl, hJp, hbx, hml⟩ := hrel
    have hcx : wr.cell? ⟨Bn, 0, none⟩ = some (.string (S r)) := by rw [cell_of_row _ _ _ _ _ _ hbx]; rfl
    have hfz : wr.frozen? ⟨Bn, 0, none⟩ = false := frozen_of_row _ _ _ _ _ hbx
    have HJ := Lib.hid hJp
    have HR := Lib.hid hr
    have HML := Lib.hid hml
    have HBX := Lib.hid hbx
    have HRL := Lib.hid hrl
    clear hJp hr hml hbx hrl
    by_cases he : r = []
    · have q1 : (r != []) = false := by rw [bne_eq_false_iff_eq]; exact he
      have q2 : (r == []) = true := beq_iff_eq.2 he
      have HLAST : Hid (i = LS.length) := by
        show _ = _
        have h1 := HR.out
        rw [he] at h1
        have h2 : (LS.drop i).length = 0 := by rw [← h1]; rfl
        rw [List.length_drop] at h2
        omega
      gi_wp2
      refine bodyPost_end (results_none rfl _ _ _) rfl ?_
      exact ⟨⟨_, rfl⟩, .inl ⟨List.range LS.length, rfl, by rw [← HLAST.out]; exact HJ.out⟩⟩
    · have q1 : (r != []) = true := bne_iff_ne.2 he
      have q2 : (r == []) = false := beq_eq_false_iff_ne.2 he
      have HLC := Lib.hid (lines_cut r he)
      have HCT := Lib.hid (cut_any r wr (by have := HRL.out; omega) HML.out)
      have hib : i ≤ 1000000 := by have := HLL.out; omega
      have HLT := Lib.hid (cut_lt r he)
      clear he
      gi_wp2_with fail
      refine ⟨trivial, ?_⟩
      refine (callsIn_wide.2 HCT.out).mono ?_
      rintro e w1 ⟨bb, rfl, hb1⟩
      obtain ⟨x, hx⟩ : ∃ x, (cutL r).1 = x := ⟨_, rfl⟩
      obtain ⟨r', hr'⟩ : ∃ r', (cutL r).2 = r' := ⟨_, rfl⟩
      rw [hx, hr'] at HLC
      rw [hr'] at HLT
      rw [hx, hr']
      have HDR : Hid (x :: linesL r' = LS.drop i) := HLC.out.symm.trans HR.out
      have HILT : Hid (i < LS.length) := by
        show _ < _
        have h1 := congrArg List.length HDR.out
        rw [List.length_cons, List.length_drop] at h1
        omega
      have HGET : Hid (LS.getD i [] = x ∧ linesL r' = LS.drop (i + 1)) := by
        have h1 := HDR.out
        rw [List.drop_eq_getElem_cons HILT.out] at h1
        injection h1 with h2 h3
        exact ⟨by rw [List.getD_eq_getElem?_getD, List.getElem?_eq_getElem HILT.out]; exact h2.symm, h3⟩
      have hbx1 := Below.keepOld hb1 HBX.out
      have hcx1 : w1.cell? ⟨Bn, 0, none⟩ = some (.string (S r)) := by rw [cell_of_row _ _ _ _ _ _ hbx1]; rfl
      have hfz1 : w1.frozen? ⟨Bn, 0, none⟩ = false := frozen_of_row _ _ _ _ _ hbx1
      have hT2 : Turns (fun k => k = Bn) w1 (w1.setCell ⟨Bn, 0, none⟩ (.string (S r'))) := (Turns.refl (fun k => k = Bn) w1).setCell (p := ⟨Bn, 0, none⟩) (fun _ => rfl) _
      have HBX2 : Hid ((w1.setCell ⟨Bn, 0, none⟩ (.string (S r'))).heap[Bn]? = some (.cells #[.string (S r')] 9 (0, 0))) := by
        show _ = _
        rw [heap_setCell_same _ _ _ _ _ _ hbx1]; rfl
      have HJ2 := Lib.hid (HJC.out _ _ _ (HJC.out _ _ _ HJ.out (Turns.of_below hb1)) hT2)
      have HM2 := Lib.hid (maxL_turns (HML.out.below hb1) hT2 (by show ¬ _ = Bn; omega))
      obtain ⟨fn, tmps, assign, bod, hy, hR⟩ := HY.out (List.range i) i _ HJ2.out ⟨rfl, HILT.out⟩
      dsimp only [lEnc] at hy
      rw [HGET.out.1] at hy
      have HRR := Lib.hid hR
      clear hx hr' hb1 hbx1 hT2 HML HBX HJ HCT HLC hR hcx hfz
      gi_wp2_with fail
      refine HRR.out.mono ?_
      rintro e w3 (⟨rfl, hJ3, hk3⟩ | ⟨rfl, hJ3⟩)
      · have HBX3 := Lib.hid (hk3.keep HBX2.out (fun h => h.2 rfl))
        have HM3 := Lib.hid (maxL_turns HM2.out hk3 (fun h => Nat.not_le_of_lt hm0 h.1))
        have HJ3 : Hid (J (List.range (i + 1)) w3) := by
          show J _ _
          rw [List.range_succ]
          exact hJ3
        clear hJ3 hk3 HRR hy hcx1 hfz1
        gi_wp2
        go_roundw
        case rel => exact ⟨i + 1, r', by go_num, HILT.out, HGET.out.2, by have := HLT.out; have := HRL.out; omega, HJ3.out, HBX3.out, HM3.out⟩
        case measure => have := HILT.out; simp [intOf]; omega
      · have HJ3 := Lib.hid hJ3
        clear hJ3 HRR hy hcx1 hfz1
        gi_wp2
        refine bodyPost_ret (results_none rfl _ _ _) rfl ?_
        exact ⟨⟨_, rfl⟩, .inr ⟨_, trivial, HJ3.out⟩⟩
end Go.Proofs.YtcddgbobbogpgaaDoor.Scr

namespace Go.Proofs.YtcddgbobbogpgaaDoor.Scr
open Go.RowKit Go.Mir Go.Mir.Hx Go.Mir.Parts HexW Rpl

set_option maxRecDepth 100000 in
set_option maxHeartbeats 6400000 in
theorem rsame_any {a b : Ev} {pa pb qa qb : Option Addr} {ca cb ka kb : Nat} (w : World) (hA : EvAt w a pa ca qa ka) (hB : EvAt w b pb cb qb kb) :
    Calls Tryd.prog 11 #[.agg (evA a pa ca qa ka), .agg (evA b pb cb qb kb)] w fun x w' => x = .returned (.bool (decide (a = b))) ∧ Below w.heap.size w w' := by
  obtain ⟨a1, a2, a3, a4⟩ := Go.Mir.two_allocs w (.cells (evA a pa ca qa ka) 37) (.cells (evA b pb cb qb kb) 37)
  have HC := Lib.hid (ev_row hA.wf a1)
  have HD := Lib.hid (ev_row hB.wf a2)
  have HX := Lib.hid a4
  have HA := Lib.hid hA.wf
  have HB := Lib.hid hB.wf
  have HAT := Lib.hid (hA.below a4)
  have HBT := Lib.hid (hB.below a4)
  have c0 := HC.out.k
  have d0 := HD.out.k
  have c1 := HC.out.b
  have d1 := HD.out.b
  have c3 := HC.out.n
  have d3 := HD.out.n
  have c7 := HC.out.tx
  have d7 := HD.out.tx
  have v1 := cv HAT.out.bs
  have v2 := cv HBT.out.bs
  clear a1 a2 a3 a4 hA hB
  by_cases n0 : a.k = b.k
  rotate_left
  · have HR : Hid (decide (a = b) = false) := decide_eq_false (fun e => n0 (by rw [e]))
    have q0 : (a.k == b.k) = false := (beq_eq_false_iff_ne.2 n0)
    have p0 : (a.k != b.k) = true := (bne_iff_ne.2 n0)
    clear n0
    skip
    go_enter Tryd.func11, Tryd.ntmps11
    go_upto_region 1 with fail
    generalize (w.alloc (.cells (evA a pa ca qa ka) 37)).alloc (.cells (evA b pb cb qb kb) 37) = w1 at *
    skip
    go_wp2_with (first
      | ((with_reducible refine wpAt 21 ?_); refine loadM (by rfl) 25 _ rfl w.heap.size 67 rfl (idA a.id) _ HC.out.id Tryd.underlying25 rfl (infoId _ (by rw [idA_size, HA.out.id])) ?_)
      | ((with_reducible refine wpAt 23 ?_); refine loadM (by rfl) 25 _ rfl (w.heap.size + 1) 67 rfl (idA b.id) _ HD.out.id Tryd.underlying25 rfl (infoId _ (by rw [idA_size, HB.out.id])) ?_)
      | ((with_reducible refine wpAt 35 ?_); refine loadM (by rfl) 29 _ rfl w.heap.size 100 rfl (u3L a).toArray _ HC.out.us Tryd.underlying29 rfl (infoU3 _ rfl) ?_)
      | ((with_reducible refine wpAt 37 ?_); refine loadM (by rfl) 29 _ rfl (w.heap.size + 1) 100 rfl (u3L b).toArray _ HD.out.us Tryd.underlying29 rfl (infoU3 _ rfl) ?_)
      | ((with_reducible refine wpAt 43 ?_); refine loadM (by rfl) 25 _ rfl w.heap.size 2 rfl (idA a.h) _ HC.out.h Tryd.underlying25 rfl (infoId _ (by rw [idA_size, HA.out.h])) ?_)
      | ((with_reducible refine wpAt 46 ?_); refine loadM (by rfl) 25 _ rfl (w.heap.size + 1) 2 rfl (idA b.h) _ HD.out.h Tryd.underlying25 rfl (infoId _ (by rw [idA_size, HB.out.h])) ?_)
      | ((with_reducible refine wpAt 52 ?_); refine loadM (by rfl) 25 _ rfl w.heap.size 34 rfl (idA a.p) _ HC.out.p Tryd.underlying25 rfl (infoId _ (by rw [idA_size, HA.out.p])) ?_)
      | ((with_reducible refine wpAt 55 ?_); refine loadM (by rfl) 25 _ rfl (w.heap.size + 1) 34 rfl (idA b.p) _ HD.out.p Tryd.underlying25 rfl (infoId _ (by rw [idA_size, HB.out.p])) ?_))
    go_ret
    exact ⟨bret HR.out.symm, HX.out⟩
  by_cases n1 : a.b = b.b
  rotate_left
  · have HR : Hid (decide (a = b) = false) := decide_eq_false (fun e => n1 (by rw [e]))
    have q0 : (a.k == b.k) = true := (beq_iff_eq.2 n0)
    have p0 : (a.k != b.k) = false := (by rw [bne_eq_false_iff_eq]; exact n0)
    have q1 : (a.b == b.b) = false := (beq_eq_false_iff_ne.2 n1)
    have p1 : (a.b != b.b) = true := (bne_iff_ne.2 n1)
    clear n0 n1
    skip
    go_enter Tryd.func11, Tryd.ntmps11
    go_upto_region 1 with fail
    generalize (w.alloc (.cells (evA a pa ca qa ka) 37)).alloc (.cells (evA b pb cb qb kb) 37) = w1 at *
    skip
    go_wp2_with (first
      | ((with_reducible refine wpAt 21 ?_); refine loadM (by rfl) 25 _ rfl w.heap.size 67 rfl (idA a.id) _ HC.out.id Tryd.underlying25 rfl (infoId _ (by rw [idA_size, HA.out.id])) ?_)
      | ((with_reducible refine wpAt 23 ?_); refine loadM (by rfl) 25 _ rfl (w.heap.size + 1) 67 rfl (idA b.id) _ HD.out.id Tryd.underlying25 rfl (infoId _ (by rw [idA_size, HB.out.id])) ?_)
      | ((with_reducible refine wpAt 35 ?_); refine loadM (by rfl) 29 _ rfl w.heap.size 100 rfl (u3L a).toArray _ HC.out.us Tryd.underlying29 rfl (infoU3 _ rfl) ?_)
      | ((with_reducible refine wpAt 37 ?_); refine loadM (by rfl) 29 _ rfl (w.heap.size + 1) 100 rfl (u3L b).toArray _ HD.out.us Tryd.underlying29 rfl (infoU3 _ rfl) ?_)
      | ((with_reducible refine wpAt 43 ?_); refine loadM (by rfl) 25 _ rfl w.heap.size 2 rfl (idA a.h) _ HC.out.h Tryd.underlying25 rfl (infoId _ (by rw [idA_size, HA.out.h])) ?_)
      | ((with_reducible refine wpAt 46 ?_); refine loadM (by rfl) 25 _ rfl (w.heap.size + 1) 2 rfl (idA b.h) _ HD.out.h Tryd.underlying25 rfl (infoId _ (by rw [idA_size, HB.out.h])) ?_)
      | ((with_reducible refine wpAt 52 ?_); refine loadM (by rfl) 25 _ rfl w.heap.size 34 rfl (idA a.p) _ HC.out.p Tryd.underlying25 rfl (infoId _ (by rw [idA_size, HA.out.p])) ?_)
      | ((with_reducible refine wpAt 55 ?_); refine loadM (by rfl) 25 _ rfl (w.heap.size + 1) 34 rfl (idA b.p) _ HD.out.p Tryd.underlying25 rfl (infoId _ (by rw [idA_size, HB.out.p])) ?_))
    go_ret
    exact ⟨bret HR.out.symm, HX.out⟩
  by_cases n2 : a.id = b.id
  rotate_left
  · have HR : Hid (decide (a = b) = false) := decide_eq_false (fun e => n2 (by rw [e]))
    have q0 : (a.k == b.k) = true := (beq_iff_eq.2 n0)
    have p0 : (a.k != b.k) = false := (by rw [bne_eq_false_iff_eq]; exact n0)
    have q1 : (a.b == b.b) = true := (beq_iff_eq.2 n1)
    have p1 : (a.b != b.b) = false := (by rw [bne_eq_false_iff_eq]; exact n1)
    have q2 : ∀ w, (Op.equalIn 10000 25 (.agg (idA a.id)) (.agg (idA b.id))).run Tryd.prog w = .ok false w := fun w => eqIdT w HA.out.id HB.out.id _ (beq_eq_false_iff_ne.2 n2)
    clear n0 n1 n2
    skip
    go_enter Tryd.func11, Tryd.ntmps11
    go_upto_region 1 with fail
    generalize (w.alloc (.cells (evA a pa ca qa ka) 37)).alloc (.cells (evA b pb cb qb kb) 37) = w1 at *
    skip
    go_wp2_with (first
      | ((with_reducible refine wpAt 21 ?_); refine loadM (by rfl) 25 _ rfl w.heap.size 67 rfl (idA a.id) _ HC.out.id Tryd.underlying25 rfl (infoId _ (by rw [idA_size, HA.out.id])) ?_)
      | ((with_reducible refine wpAt 23 ?_); refine loadM (by rfl) 25 _ rfl (w.heap.size + 1) 67 rfl (idA b.id) _ HD.out.id Tryd.underlying25 rfl (infoId _ (by rw [idA_size, HB.out.id])) ?_)
      | ((with_reducible refine wpAt 35 ?_); refine loadM (by rfl) 29 _ rfl w.heap.size 100 rfl (u3L a).toArray _ HC.out.us Tryd.underlying29 rfl (infoU3 _ rfl) ?_)
      | ((with_reducible refine wpAt 37 ?_); refine loadM (by rfl) 29 _ rfl (w.heap.size + 1) 100 rfl (u3L b).toArray _ HD.out.us Tryd.underlying29 rfl (infoU3 _ rfl) ?_)
      | ((with_reducible refine wpAt 43 ?_); refine loadM (by rfl) 25 _ rfl w.heap.size 2 rfl (idA a.h) _ HC.out.h Tryd.underlying25 rfl (infoId _ (by rw [idA_size, HA.out.h])) ?_)
      | ((with_reducible refine wpAt 46 ?_); refine loadM (by rfl) 25 _ rfl (w.heap.size + 1) 2 rfl (idA b.h) _ HD.out.h Tryd.underlying25 rfl (infoId _ (by rw [idA_size, HB.out.h])) ?_)
      | ((with_reducible refine wpAt 52 ?_); refine loadM (by rfl) 25 _ rfl w.heap.size 34 rfl (idA a.p) _ HC.out.p Tryd.underlying25 rfl (infoId _ (by rw [idA_size, HA.out.p])) ?_)
      | ((with_reducible refine wpAt 55 ?_); refine loadM (by rfl) 25 _ rfl (w.heap.size + 1) 34 rfl (idA b.p) _ HD.out.p Tryd.underlying25 rfl (infoId _ (by rw [idA_size, HB.out.p])) ?_))
    go_ret
    exact ⟨bret HR.out.symm, HX.out⟩
  by_cases n3 : a.n = b.n
  rotate_left
  · have HR : Hid (decide (a = b) = false) := decide_eq_false (fun e => n3 (by rw [e]))
    have q0 : (a.k == b.k) = true := (beq_iff_eq.2 n0)
    have p0 : (a.k != b.k) = false := (by rw [bne_eq_false_iff_eq]; exact n0)
    have q1 : (a.b == b.b) = true := (beq_iff_eq.2 n1)
    have p1 : (a.b != b.b) = false := (by rw [bne_eq_false_iff_eq]; exact n1)
    have q2 : ∀ w, (Op.equalIn 10000 25 (.agg (idA a.id)) (.agg (idA b.id))).run Tryd.prog w = .ok true w := fun w => eqIdT w HA.out.id HB.out.id _ (beq_iff_eq.2 n2)
    have q3 : (a.n == b.n) = false := (beq_eq_false_iff_ne.2 n3)
    have p3 : (a.n != b.n) = true := (bne_iff_ne.2 n3)
    clear n0 n1 n2 n3
    skip
    go_enter Tryd.func11, Tryd.ntmps11
    go_upto_region 1 with fail
    generalize (w.alloc (.cells (evA a pa ca qa ka) 37)).alloc (.cells (evA b pb cb qb kb) 37) = w1 at *
    skip
    go_wp2_with (first
      | ((with_reducible refine wpAt 21 ?_); refine loadM (by rfl) 25 _ rfl w.heap.size 67 rfl (idA a.id) _ HC.out.id Tryd.underlying25 rfl (infoId _ (by rw [idA_size, HA.out.id])) ?_)
      | ((with_reducible refine wpAt 23 ?_); refine loadM (by rfl) 25 _ rfl (w.heap.size + 1) 67 rfl (idA b.id) _ HD.out.id Tryd.underlying25 rfl (infoId _ (by rw [idA_size, HB.out.id])) ?_)
      | ((with_reducible refine wpAt 35 ?_); refine loadM (by rfl) 29 _ rfl w.heap.size 100 rfl (u3L a).toArray _ HC.out.us Tryd.underlying29 rfl (infoU3 _ rfl) ?_)
      | ((with_reducible refine wpAt 37 ?_); refine loadM (by rfl) 29 _ rfl (w.heap.size + 1) 100 rfl (u3L b).toArray _ HD.out.us Tryd.underlying29 rfl (infoU3 _ rfl) ?_)
      | ((with_reducible refine wpAt 43 ?_); refine loadM (by rfl) 25 _ rfl w.heap.size 2 rfl (idA a.h) _ HC.out.h Tryd.underlying25 rfl (infoId _ (by rw [idA_size, HA.out.h])) ?_)
      | ((with_reducible refine wpAt 46 ?_); refine loadM (by rfl) 25 _ rfl (w.heap.size + 1) 2 rfl (idA b.h) _ HD.out.h Tryd.underlying25 rfl (infoId _ (by rw [idA_size, HB.out.h])) ?_)
      | ((with_reducible refine wpAt 52 ?_); refine loadM (by rfl) 25 _ rfl w.heap.size 34 rfl (idA a.p) _ HC.out.p Tryd.underlying25 rfl (infoId _ (by rw [idA_size, HA.out.p])) ?_)
      | ((with_reducible refine wpAt 55 ?_); refine loadM (by rfl) 25 _ rfl (w.heap.size + 1) 34 rfl (idA b.p) _ HD.out.p Tryd.underlying25 rfl (infoId _ (by rw [idA_size, HB.out.p])) ?_))
    go_ret
    exact ⟨bret HR.out.symm, HX.out⟩
  by_cases n4 : (a.u0 = b.u0 ∧ a.u1 = b.u1 ∧ a.u2 = b.u2)
  rotate_left
  · have HR : Hid (decide (a = b) = false) := decide_eq_false (fun e => n4 (by rw [e]; exact ⟨rfl, rfl, rfl⟩))
    have q0 : (a.k == b.k) = true := (beq_iff_eq.2 n0)
    have p0 : (a.k != b.k) = false := (by rw [bne_eq_false_iff_eq]; exact n0)
    have q1 : (a.b == b.b) = true := (beq_iff_eq.2 n1)
    have p1 : (a.b != b.b) = false := (by rw [bne_eq_false_iff_eq]; exact n1)
    have q2 : ∀ w, (Op.equalIn 10000 25 (.agg (idA a.id)) (.agg (idA b.id))).run Tryd.prog w = .ok true w := fun w => eqIdT w HA.out.id HB.out.id _ (beq_iff_eq.2 n2)
    have q3 : (a.n == b.n) = true := (beq_iff_eq.2 n3)
    have p3 : (a.n != b.n) = false := (by rw [bne_eq_false_iff_eq]; exact n3)
    have q4 : ∀ w, (Op.equalIn 10000 29 (.agg (u3L a).toArray) (.agg (u3L b).toArray)).run Tryd.prog w = .ok false w := fun w => eqU3T w _ (decide_eq_false n4)
    clear n0 n1 n2 n3 n4
    skip
    go_enter Tryd.func11, Tryd.ntmps11
    go_upto_region 1 with fail
    generalize (w.alloc (.cells (evA a pa ca qa ka) 37)).alloc (.cells (evA b pb cb qb kb) 37) = w1 at *
    skip
    go_wp2_with (first
      | ((with_reducible refine wpAt 21 ?_); refine loadM (by rfl) 25 _ rfl w.heap.size 67 rfl (idA a.id) _ HC.out.id Tryd.underlying25 rfl (infoId _ (by rw [idA_size, HA.out.id])) ?_)
      | ((with_reducible refine wpAt 23 ?_); refine loadM (by rfl) 25 _ rfl (w.heap.size + 1) 67 rfl (idA b.id) _ HD.out.id Tryd.underlying25 rfl (infoId _ (by rw [idA_size, HB.out.id])) ?_)
      | ((with_reducible refine wpAt 35 ?_); refine loadM (by rfl) 29 _ rfl w.heap.size 100 rfl (u3L a).toArray _ HC.out.us Tryd.underlying29 rfl (infoU3 _ rfl) ?_)
      | ((with_reducible refine wpAt 37 ?_); refine loadM (by rfl) 29 _ rfl (w.heap.size + 1) 100 rfl (u3L b).toArray _ HD.out.us Tryd.underlying29 rfl (infoU3 _ rfl) ?_)
      | ((with_reducible refine wpAt 43 ?_); refine loadM (by rfl) 25 _ rfl w.heap.size 2 rfl (idA a.h) _ HC.out.h Tryd.underlying25 rfl (infoId _ (by rw [idA_size, HA.out.h])) ?_)
      | ((with_reducible refine wpAt 46 ?_); refine loadM (by rfl) 25 _ rfl (w.heap.size + 1) 2 rfl (idA b.h) _ HD.out.h Tryd.underlying25 rfl (infoId _ (by rw [idA_size, HB.out.h])) ?_)
      | ((with_reducible refine wpAt 52 ?_); refine loadM (by rfl) 25 _ rfl w.heap.size 34 rfl (idA a.p) _ HC.out.p Tryd.underlying25 rfl (infoId _ (by rw [idA_size, HA.out.p])) ?_)
      | ((with_reducible refine wpAt 55 ?_); refine loadM (by rfl) 25 _ rfl (w.heap.size + 1) 34 rfl (idA b.p) _ HD.out.p Tryd.underlying25 rfl (infoId _ (by rw [idA_size, HB.out.p])) ?_))
    go_ret
    exact ⟨bret HR.out.symm, HX.out⟩
  by_cases n5 : a.h = b.h
  rotate_left
  · have HR : Hid (decide (a = b) = false) := decide_eq_false (fun e => n5 (by rw [e]))
    have q0 : (a.k == b.k) = true := (beq_iff_eq.2 n0)
    have p0 : (a.k != b.k) = false := (by rw [bne_eq_false_iff_eq]; exact n0)
    have q1 : (a.b == b.b) = true := (beq_iff_eq.2 n1)
    have p1 : (a.b != b.b) = false := (by rw [bne_eq_false_iff_eq]; exact n1)
    have q2 : ∀ w, (Op.equalIn 10000 25 (.agg (idA a.id)) (.agg (idA b.id))).run Tryd.prog w = .ok true w := fun w => eqIdT w HA.out.id HB.out.id _ (beq_iff_eq.2 n2)
    have q3 : (a.n == b.n) = true := (beq_iff_eq.2 n3)
    have p3 : (a.n != b.n) = false := (by rw [bne_eq_false_iff_eq]; exact n3)
    have q4 : ∀ w, (Op.equalIn 10000 29 (.agg (u3L a).toArray) (.agg (u3L b).toArray)).run Tryd.prog w = .ok true w := fun w => eqU3T w _ (decide_eq_true n4)
    have q5 : ∀ w, (Op.equalIn 10000 25 (.agg (idA a.h)) (.agg (idA b.h))).run Tryd.prog w = .ok false w := fun w => eqIdT w HA.out.h HB.out.h _ (beq_eq_false_iff_ne.2 n5)
    clear n0 n1 n2 n3 n4 n5
    skip
    go_enter Tryd.func11, Tryd.ntmps11
    go_upto_region 1 with fail
    generalize (w.alloc (.cells (evA a pa ca qa ka) 37)).alloc (.cells (evA b pb cb qb kb) 37) = w1 at *
    skip
    go_wp2_with (first
      | ((with_reducible refine wpAt 21 ?_); refine loadM (by rfl) 25 _ rfl w.heap.size 67 rfl (idA a.id) _ HC.out.id Tryd.underlying25 rfl (infoId _ (by rw [idA_size, HA.out.id])) ?_)
      | ((with_reducible refine wpAt 23 ?_); refine loadM (by rfl) 25 _ rfl (w.heap.size + 1) 67 rfl (idA b.id) _ HD.out.id Tryd.underlying25 rfl (infoId _ (by rw [idA_size, HB.out.id])) ?_)
      | ((with_reducible refine wpAt 35 ?_); refine loadM (by rfl) 29 _ rfl w.heap.size 100 rfl (u3L a).toArray _ HC.out.us Tryd.underlying29 rfl (infoU3 _ rfl) ?_)
      | ((with_reducible refine wpAt 37 ?_); refine loadM (by rfl) 29 _ rfl (w.heap.size + 1) 100 rfl (u3L b).toArray _ HD.out.us Tryd.underlying29 rfl (infoU3 _ rfl) ?_)
      | ((with_reducible refine wpAt 43 ?_); refine loadM (by rfl) 25 _ rfl w.heap.size 2 rfl (idA a.h) _ HC.out.h Tryd.underlying25 rfl (infoId _ (by rw [idA_size, HA.out.h])) ?_)
      | ((with_reducible refine wpAt 46 ?_); refine loadM (by rfl) 25 _ rfl (w.heap.size + 1) 2 rfl (idA b.h) _ HD.out.h Tryd.underlying25 rfl (infoId _ (by rw [idA_size, HB.out.h])) ?_)
      | ((with_reducible refine wpAt 52 ?_); refine loadM (by rfl) 25 _ rfl w.heap.size 34 rfl (idA a.p) _ HC.out.p Tryd.underlying25 rfl (infoId _ (by rw [idA_size, HA.out.p])) ?_)
      | ((with_reducible refine wpAt 55 ?_); refine loadM (by rfl) 25 _ rfl (w.heap.size + 1) 34 rfl (idA b.p) _ HD.out.p Tryd.underlying25 rfl (infoId _ (by rw [idA_size, HB.out.p])) ?_))
    go_ret
    exact ⟨bret HR.out.symm, HX.out⟩
  by_cases n6 : a.p = b.p
  rotate_left
  · have HR : Hid (decide (a = b) = false) := decide_eq_false (fun e => n6 (by rw [e]))
    have q0 : (a.k == b.k) = true := (beq_iff_eq.2 n0)
    have p0 : (a.k != b.k) = false := (by rw [bne_eq_false_iff_eq]; exact n0)
    have q1 : (a.b == b.b) = true := (beq_iff_eq.2 n1)
    have p1 : (a.b != b.b) = false := (by rw [bne_eq_false_iff_eq]; exact n1)
    have q2 : ∀ w, (Op.equalIn 10000 25 (.agg (idA a.id)) (.agg (idA b.id))).run Tryd.prog w = .ok true w := fun w => eqIdT w HA.out.id HB.out.id _ (beq_iff_eq.2 n2)
    have q3 : (a.n == b.n) = true := (beq_iff_eq.2 n3)
    have p3 : (a.n != b.n) = false := (by rw [bne_eq_false_iff_eq]; exact n3)
    have q4 : ∀ w, (Op.equalIn 10000 29 (.agg (u3L a).toArray) (.agg (u3L b).toArray)).run Tryd.prog w = .ok true w := fun w => eqU3T w _ (decide_eq_true n4)
    have q5 : ∀ w, (Op.equalIn 10000 25 (.agg (idA a.h)) (.agg (idA b.h))).run Tryd.prog w = .ok true w := fun w => eqIdT w HA.out.h HB.out.h _ (beq_iff_eq.2 n5)
    have q6 : ∀ w, (Op.equalIn 10000 25 (.agg (idA a.p)) (.agg (idA b.p))).run Tryd.prog w = .ok false w := fun w => eqIdT w HA.out.p HB.out.p _ (beq_eq_false_iff_ne.2 n6)
    clear n0 n1 n2 n3 n4 n5 n6
    skip
    go_enter Tryd.func11, Tryd.ntmps11
    go_upto_region 1 with fail
    generalize (w.alloc (.cells (evA a pa ca qa ka) 37)).alloc (.cells (evA b pb cb qb kb) 37) = w1 at *
    skip
    go_wp2_with (first
      | ((with_reducible refine wpAt 21 ?_); refine loadM (by rfl) 25 _ rfl w.heap.size 67 rfl (idA a.id) _ HC.out.id Tryd.underlying25 rfl (infoId _ (by rw [idA_size, HA.out.id])) ?_)
      | ((with_reducible refine wpAt 23 ?_); refine loadM (by rfl) 25 _ rfl (w.heap.size + 1) 67 rfl (idA b.id) _ HD.out.id Tryd.underlying25 rfl (infoId _ (by rw [idA_size, HB.out.id])) ?_)
      | ((with_reducible refine wpAt 35 ?_); refine loadM (by rfl) 29 _ rfl w.heap.size 100 rfl (u3L a).toArray _ HC.out.us Tryd.underlying29 rfl (infoU3 _ rfl) ?_)
      | ((with_reducible refine wpAt 37 ?_); refine loadM (by rfl) 29 _ rfl (w.heap.size + 1) 100 rfl (u3L b).toArray _ HD.out.us Tryd.underlying29 rfl (infoU3 _ rfl) ?_)
      | ((with_reducible refine wpAt 43 ?_); refine loadM (by rfl) 25 _ rfl w.heap.size 2 rfl (idA a.h) _ HC.out.h Tryd.underlying25 rfl (infoId _ (by rw [idA_size, HA.out.h])) ?_)
      | ((with_reducible refine wpAt 46 ?_); refine loadM (by rfl) 25 _ rfl (w.heap.size + 1) 2 rfl (idA b.h) _ HD.out.h Tryd.underlying25 rfl (infoId _ (by rw [idA_size, HB.out.h])) ?_)
      | ((with_reducible refine wpAt 52 ?_); refine loadM (by rfl) 25 _ rfl w.heap.size 34 rfl (idA a.p) _ HC.out.p Tryd.underlying25 rfl (infoId _ (by rw [idA_size, HA.out.p])) ?_)
      | ((with_reducible refine wpAt 55 ?_); refine loadM (by rfl) 25 _ rfl (w.heap.size + 1) 34 rfl (idA b.p) _ HD.out.p Tryd.underlying25 rfl (infoId _ (by rw [idA_size, HB.out.p])) ?_))
    go_ret
    exact ⟨bret HR.out.symm, HX.out⟩
  have q0 : (a.k == b.k) = true := (beq_iff_eq.2 n0)
  have p0 : (a.k != b.k) = false := (by rw [bne_eq_false_iff_eq]; exact n0)
  have q1 : (a.b == b.b) = true := (beq_iff_eq.2 n1)
  have p1 : (a.b != b.b) = false := (by rw [bne_eq_false_iff_eq]; exact n1)
  have q2 : ∀ w, (Op.equalIn 10000 25 (.agg (idA a.id)) (.agg (idA b.id))).run Tryd.prog w = .ok true w := fun w => eqIdT w HA.out.id HB.out.id _ (beq_iff_eq.2 n2)
  have q3 : (a.n == b.n) = true := (beq_iff_eq.2 n3)
  have p3 : (a.n != b.n) = false := (by rw [bne_eq_false_iff_eq]; exact n3)
  have q4 : ∀ w, (Op.equalIn 10000 29 (.agg (u3L a).toArray) (.agg (u3L b).toArray)).run Tryd.prog w = .ok true w := fun w => eqU3T w _ (decide_eq_true n4)
  have q5 : ∀ w, (Op.equalIn 10000 25 (.agg (idA a.h)) (.agg (idA b.h))).run Tryd.prog w = .ok true w := fun w => eqIdT w HA.out.h HB.out.h _ (beq_iff_eq.2 n5)
  have q6 : ∀ w, (Op.equalIn 10000 25 (.agg (idA a.p)) (.agg (idA b.p))).run Tryd.prog w = .ok true w := fun w => eqIdT w HA.out.p HB.out.p _ (beq_iff_eq.2 n6)
  have HEQ : Hid (a.tx = b.tx ↔ a = b) := ⟨fun e => (ev_eq a b).2 ⟨n0, n1, n2, n3, n4, n5, n6, e⟩, fun e => by rw [e]⟩
  clear n0 n1 n2 n3 n4 n5 n6
  have HSM := Lib.hid (RR.idsSame_any qa qb a.tx.length ka b.tx.length kb a.tx b.tx _ HAT.out.ids HBT.out.ids)
  have HR : Hid ((a.tx == b.tx) = decide (a = b)) := by
    show _ = _
    rw [Bool.eq_iff_iff, beq_iff_eq, decide_eq_true_eq]
    exact HEQ.out
  skip
  go_enter Tryd.func11, Tryd.ntmps11
  go_upto_region 1 with fail
  generalize (w.alloc (.cells (evA a pa ca qa ka) 37)).alloc (.cells (evA b pb cb qb kb) 37) = w1 at *
  skip
  go_wp2_with (first
    | ((with_reducible refine wpAt 21 ?_); refine loadM (by rfl) 25 _ rfl w.heap.size 67 rfl (idA a.id) _ HC.out.id Tryd.underlying25 rfl (infoId _ (by rw [idA_size, HA.out.id])) ?_)
    | ((with_reducible refine wpAt 23 ?_); refine loadM (by rfl) 25 _ rfl (w.heap.size + 1) 67 rfl (idA b.id) _ HD.out.id Tryd.underlying25 rfl (infoId _ (by rw [idA_size, HB.out.id])) ?_)
    | ((with_reducible refine wpAt 35 ?_); refine loadM (by rfl) 29 _ rfl w.heap.size 100 rfl (u3L a).toArray _ HC.out.us Tryd.underlying29 rfl (infoU3 _ rfl) ?_)
    | ((with_reducible refine wpAt 37 ?_); refine loadM (by rfl) 29 _ rfl (w.heap.size + 1) 100 rfl (u3L b).toArray _ HD.out.us Tryd.underlying29 rfl (infoU3 _ rfl) ?_)
    | ((with_reducible refine wpAt 43 ?_); refine loadM (by rfl) 25 _ rfl w.heap.size 2 rfl (idA a.h) _ HC.out.h Tryd.underlying25 rfl (infoId _ (by rw [idA_size, HA.out.h])) ?_)
    | ((with_reducible refine wpAt 46 ?_); refine loadM (by rfl) 25 _ rfl (w.heap.size + 1) 2 rfl (idA b.h) _ HD.out.h Tryd.underlying25 rfl (infoId _ (by rw [idA_size, HB.out.h])) ?_)
    | ((with_reducible refine wpAt 52 ?_); refine loadM (by rfl) 25 _ rfl w.heap.size 34 rfl (idA a.p) _ HC.out.p Tryd.underlying25 rfl (infoId _ (by rw [idA_size, HA.out.p])) ?_)
    | ((with_reducible refine wpAt 55 ?_); refine loadM (by rfl) 25 _ rfl (w.heap.size + 1) 34 rfl (idA b.p) _ HD.out.p Tryd.underlying25 rfl (infoId _ (by rw [idA_size, HB.out.p])) ?_))
  refine HSM.out.mono ?_
  rintro e w2 ⟨rfl, hb2⟩
  have HX2 := Lib.hid (HX.out.trans (hb2.mono HX.out.size))
  go_wp2_with fail
  go_ret
  exact ⟨bret HR.out, HX2.out⟩
end Go.Proofs.YtcddgbobbogpgaaDoor.Scr

namespace Go.Proofs.YtcddgbobbogpgaaDoor.Cut
open Go.RowKit Go.Mir Go.Mir.Parts

def cutQ (p : Option Addr) (c k : Nat) : Option Addr := if c = k then p else p.map (·.add k)
theorem bs_cut {w : World} {p : Option Addr} {L c : Nat} {l : List UInt8} (h : Bs w p L c l) (k m : Nat) (hk : k + m ≤ L) : Bs w (cutQ p c k) m (c - k) ((l.drop k).take m) := by
  have hle := h.le
  have hmax := h.max
  have hl := h.length
  unfold cutQ
  by_cases hc : c = k
  · have hm : m = 0 := by omega
    subst hm
    rw [if_pos hc, hc, Nat.sub_self, List.take_zero]
    exact ⟨by simp [bytesV], Nat.le_refl _, by omega, fun _ => rfl, fun a ha j u hu => by simp [bytesV] at hu⟩
  · rw [if_neg hc]
    refine ⟨by rw [bytesV_length, List.length_take, List.length_drop, Nat.mul_one]; omega, by omega, by omega, fun hq => ?_, fun a ha j u hu => ?_⟩
    · cases p with
      | none => have := h.nil0 rfl; omega
      | some a => cases hq
    · cases p with
      | none => cases ha
      | some a0 =>
        have hj : j < m := by
          have := (List.getElem?_eq_some_iff.1 hu).1
          rw [bytesV_length, List.length_take] at this
          omega
        obtain ⟨b, o, hbo⟩ := h.addr (by omega) (by omega)
        obtain rfl := Option.some.inj hbo
        obtain rfl := Option.some.inj ha
        have h1 : (bytesV l)[k + j]? = some u := by
          rw [bytesV, List.getElem?_map] at hu ⊢
          rw [List.getElem?_take, if_pos hj, List.getElem?_drop] at hu
          exact hu
        have h2 := h.cell _ rfl (k + j) u h1
        rw [add_none] at h2
        show w.cell? (((⟨b, o, none⟩ : Addr).add k).add j) = some u
        rw [add_none, add_none, Nat.add_assoc]
        exact h2
theorem bs_drop {w : World} {p : Option Addr} {L c : Nat} {l : List UInt8} (h : Bs w p L c l) (k : Nat) (hk : k ≤ L) : Bs w (cutQ p c k) (L - k) (c - k) (l.drop k) := by
  have := bs_cut h k (L - k) (by omega)
  rwa [List.take_of_length_le (by rw [List.length_drop, h.length]; omega)] at this
theorem bs_take {w : World} {p : Option Addr} {n c k : Nat} {l : List UInt8} (h : Bs w p n c l) (hk : k ≤ n) : Bs w p k c (l.take k) :=
  ⟨by rw [bytesV_length, List.length_take, h.length, Nat.mul_one]; exact Nat.min_eq_left hk, Nat.le_trans hk h.le, h.max, h.nil0, fun a ha j u hu => by
    rw [show bytesV (l.take k) = (bytesV l).take k by simp [bytesV, List.map_take], List.getElem?_take] at hu
    split at hu
    · exact h.cell a ha j u hu
    · cases hu⟩
theorem cut3 {w : World} {p : Option Addr} {L c : Nat} {l : List UInt8} (h : Bs w p L c l) (k m : Nat) (lo hi : Int) (hlo : lo = (k : Int)) (hhi : hi = ((k + m : Nat) : Int)) (hk : k + m ≤ L) :
    ∀ w0, (Instr.sliceAt 23 (.slice p L c) (some (.int .i64 lo)) (some (.int .i64 hi)) none).run Tryd.prog w0 = .ok (.slice (cutQ p c k) m (c - k)) w0 := by
  subst hlo hhi
  have hle := h.le
  have hmax := h.max
  have hsz : (Tryd.prog.info? 5).map (·.size) = some 1 := by kernel_rfl
  obtain ⟨i, hi, hi1⟩ := Option.map_eq_some_iff.1 hsz
  have e1 : ((k : Int) + (m : Int)).toNat = k + m := by omega
  intro w0
  have hb1 : (0 : Int) ≤ (k : Int) + (m : Int) ∧ (k : Int) + (m : Int) ≤ (c : Int) := by omega
  have hb3 : (0 : Int) ≤ (k : Int) ∧ (k : Int) ≤ ((k + m : Nat) : Int) := by omega
  simp [Instr.sliceAt, Instr.slice, cutQ, run_underlying Tryd.underlying23, Instr.sliceBounds, Instr.sliceBound, asIntOf, sizeOf, typeInfo, hi, hi1, e1, hb1, hb3]
  try omega
theorem cut0 {w : World} {p : Option Addr} {L c : Nat} {l : List UInt8} (h : Bs w p L c l) (m : Nat) (hi : Int) (hhi : hi = (m : Int)) (hk : m ≤ L) :
    ∀ w0, (Instr.sliceAt 23 (.slice p L c) none (some (.int .i64 hi)) none).run Tryd.prog w0 = .ok (.slice p m c) w0 := by
  subst hhi
  have hle := h.le
  have hmax := h.max
  have hsz : (Tryd.prog.info? 5).map (·.size) = some 1 := by kernel_rfl
  obtain ⟨i, hi, hi1⟩ := Option.map_eq_some_iff.1 hsz
  intro w0
  have hb1 : (0 : Int) ≤ (m : Int) ∧ (m : Int) ≤ (c : Int) := by omega
  have hp : p.map (fun a => a.add 0) = p := by cases p <;> rfl
  simp [Instr.sliceAt, Instr.slice, run_underlying Tryd.underlying23, Instr.sliceBounds, Instr.sliceBound, asIntOf, sizeOf, typeInfo, hi, hb1, hp]
  try omega
/-- from a place on -/
theorem cutR {w : World} {p : Option Addr} {L c : Nat} {l : List UInt8} (h : Bs w p L c l) (k : Nat) (lo : Int) (hlo : lo = (k : Int)) (hk : k ≤ L) :
    ∀ w0, (Instr.sliceAt 23 (.slice p L c) (some (.int .i64 lo)) none none).run Tryd.prog w0 = .ok (.slice (cutQ p c k) (L - k) (c - k)) w0 := by
  subst hlo
  have hle := h.le
  have hmax := h.max
  have hsz : (Tryd.prog.info? 5).map (·.size) = some 1 := by kernel_rfl
  obtain ⟨i, hi, hi1⟩ := Option.map_eq_some_iff.1 hsz
  intro w0
  have hb1 : (0 : Int) ≤ (L : Int) ∧ (L : Int) ≤ (c : Int) := by omega
  have hb3 : (0 : Int) ≤ (k : Int) ∧ (k : Int) ≤ (L : Int) := by omega
  simp [Instr.sliceAt, Instr.slice, cutQ, run_underlying Tryd.underlying23, Instr.sliceBounds, Instr.sliceBound, asIntOf, sizeOf, typeInfo, hi, hi1, hb3]
  try omega
theorem bconv {w : World} {p : Option Addr} {n c : Nat} {l : List UInt8} (h : Bs w p n c l) : (convert 23 9 (.slice p n c)).run Tryd.prog w = .ok (.string (S l)) w :=
  run_conv (P := Tryd.prog) 23 9 5 Tryd.underlying23 Tryd.underlying5 Tryd.underlying9 h
theorem own_bs {w : World} {base n : Nat} {p : Option Addr} {c : Nat} {l : List UInt8} (h : w.ownsRow base 5 1 (.slice p n c) n (bytesV l)) : Bs w p n c l := by
  obtain ⟨p9, c9, e9, h9⟩ := own_sl h
  cases e9
  exact h9
/-- no bytes: nothing that could turn -/
theorem bs_zero {w w' : World} {p : Option Addr} {n c : Nat} {l : List UInt8} (h : Bs w p n c l) (hn : n = 0) : Bs w' p n c l := by
  subst hn
  have hl : l = [] := List.length_eq_zero_iff.1 h.length
  subst hl
  exact ⟨h.len, h.le, h.max, h.nil0, fun a ha j u hu => by simp [bytesV] at hu⟩
theorem bs_touch {S : Nat → Prop} {w w' : World} {p : Option Addr} {n c : Nat} {l : List UInt8} (h : Bs w p n c l) (ht : Turns S w w') (ho : 0 < n → ∀ a, p = some a → ¬ S a.block) : Bs w' p n c l := by
  by_cases h0 : 0 < n
  · exact h.touch ht (fun a ha _ => ho h0 a ha)
  · exact bs_zero h (by omega)
end Go.Proofs.YtcddgbobbogpgaaDoor.Cut

namespace Go.Proofs.YtcddgbobbogpgaaDoor.Cut
open Go.RowKit Go.Mir Go.Mir.Parts

structure Ls (w : World) (base : Nat) (v : Value) (ls : List (List UInt8)) : Prop where
  all : ∃ hs : List Value, w.ownsRow base 23 1 v ls.length hs ∧ ∀ j (h : j < ls.length), ∃ q k, hs[j]? = some (.slice q ls[j].length k) ∧ Bs w q ls[j].length k ls[j] ∧ (∀ a, q = some a → 0 < ls[j].length → ¬ v.ownBlock = some a.block)
theorem Ls.nil (w : World) (base : Nat) : Ls w base (.slice none 0 0) [] := ⟨[], World.ownsRow_nil _ _ _ _, fun j h => by simp at h⟩
theorem Ls.below {w w' : World} {base : Nat} {v : Value} {ls : List (List UInt8)} (h : Ls w base v ls) (hb : Below w.heap.size w w') : Ls w' base v ls := by
  obtain ⟨hs, h1, h2⟩ := h.all
  exact ⟨hs, own_touch h1 (Turns.of_below (S := fun _ => False) hb) (fun _ _ h => h), fun j hj => by
    obtain ⟨q, k, a, b, c⟩ := h2 j hj
    exact ⟨q, k, a, b.below hb, c⟩⟩
theorem Ls.low {w : World} {base base' : Nat} {v : Value} {ls : List (List UInt8)} (h : Ls w base v ls) (hb : base' ≤ base) : Ls w base' v ls := by
  obtain ⟨hs, h1, h2⟩ := h.all
  exact ⟨hs, own_base h1 (fun k hk => by have := (h1.lt k hk).1; omega), h2⟩
theorem Ls.sl {w : World} {base : Nat} {v : Value} {ls : List (List UInt8)} (h : Ls w base v ls) : ∃ p c, v = .slice p ls.length c ∧ Pts w p ls.length c ls := by
  obtain ⟨hs, h1, h2⟩ := h.all
  obtain ⟨p, c, rfl, hS⟩ := own_sl h1
  refine ⟨p, c, rfl, rfl, hS.le, hS.max, hS.nil0, fun a ha j hj => ?_⟩
  obtain ⟨q, k, e1, e2, _⟩ := h2 j hj
  exact ⟨q, _, k, hS.cell a ha j _ e1, e2⟩
/-- a block of bytes is none of slices -/
theorem no_own {w : World} {base : Nat} {v : Value} {n : Nat} {hs : List Value} (h1 : w.ownsRow base 23 1 v n hs) {b2 m c : Nat} {q : Option Addr} {ys : List Value} (h2 : w.ownsRow b2 5 1 (.slice q m c) m ys) : ∀ a, q = some a → ¬ v.ownBlock = some a.block := fun a ha hv => by
  subst ha
  rcases h1.2 with ⟨rfl, _⟩ | ⟨g, cap, cur, rfl, _, hg, _⟩
  · cases hv
  · rcases h2.2 with ⟨hx, _⟩ | ⟨g2, cap2, cur2, hx, _, hg2, _⟩
    · cases hx
    · cases hx
      simp only [Value.ownBlock, Option.some.injEq] at hv
      rw [← hv, hg] at hg2
      injection hg2 with e1
      injection e1 with _ e2
      revert e2
      decide
/-- one more: behind an append onto it -/
theorem Ls.push {w w0 w1 : World} {base : Nat} {v : Value} {ls : List (List UInt8)} {hs : List Value} {p' : Option Addr} {c' : Nat} {q : Option Addr} {k : Nat} {x : List UInt8}
    (h1 : w.ownsRow base 23 1 v ls.length hs) (h2 : ∀ j (h : j < ls.length), ∃ q k, hs[j]? = some (.slice q ls[j].length k) ∧ Bs w q ls[j].length k ls[j] ∧ (∀ a, q = some a → 0 < ls[j].length → ¬ v.ownBlock = some a.block))
    (hb : Below w.heap.size w w0) (hx : Bs w q x.length k x) (hq : ∀ a, q = some a → 0 < x.length → ¬ v.ownBlock = some a.block)
    (ho : w1.ownsRow base 23 1 (.slice p' (ls.length + 1) c') (ls.length + 1) (hs ++ [.slice q x.length k])) (hg : w0.grownBy w1 v.ownBlock)
    (hn : ∀ i, (Value.slice p' (ls.length + 1) c').ownBlock = some i → v.ownBlock = some i ∨ i = w0.heap.size) : Ls w1 base (.slice p' (ls.length + 1) c') (ls ++ [x]) := by
  have hl : hs.length = ls.length := by have := h1.1; simpa using this
  have ht : Turns (fun i => v.ownBlock = some i) w0 w1 := Turns.grown hg (fun k hk => hk)
  have key : ∀ (q : Option Addr) (k : Nat) (y : List UInt8), Bs w q y.length k y → (∀ a, q = some a → 0 < y.length → ¬ v.ownBlock = some a.block) → Bs w1 q y.length k y ∧ (∀ a, q = some a → 0 < y.length → ¬ (Value.slice p' (ls.length + 1) c').ownBlock = some a.block) := fun q k y hB hne => by
    by_cases hy : 0 < y.length
    · obtain ⟨b, o, rfl⟩ := hB.addr hy (by omega)
      have hlt : b < w.heap.size := block_lt_of_cell (Bs.byte hB (j := 0) hy)
      refine ⟨(hB.below hb).touch ht (fun a ha _ => hne a ha hy), fun a ha hy he => ?_⟩
      rcases hn _ he with h | h
      · exact hne a ha hy h
      · obtain rfl := Option.some.inj ha
        have := hb.size
        simp only at h
        omega
    · have hy0 : y = [] := List.length_eq_zero_iff.1 (by omega)
      subst hy0
      exact ⟨⟨rfl, hB.le, hB.max, hB.nil0, fun a ha j u hu => by simp [bytesV] at hu⟩, fun a ha h => by simp at h⟩
  refine ⟨_, by rw [List.length_append]; exact ho, fun j hj => ?_⟩
  rw [List.length_append, List.length_singleton] at hj
  by_cases hj2 : j < ls.length
  · obtain ⟨q1, k1, e1, e2, e3⟩ := h2 j hj2
    have := key q1 k1 _ e2 e3
    refine ⟨q1, k1, ?_, ?_, ?_⟩
    · rw [List.getElem?_append_left (by omega), List.getElem_append_left hj2]; exact e1
    · rw [List.getElem_append_left hj2]; exact this.1
    · rw [List.getElem_append_left hj2]; exact this.2
  · obtain rfl : j = ls.length := by omega
    have := key q k x hx hq
    refine ⟨q, k, ?_, ?_, ?_⟩
    · rw [List.getElem?_append_right (by omega), hl, Nat.sub_self]
      simp
    · simpa using this.1
    · simpa using this.2
/-- the header that is appended, as a slice of one -/
theorem hdr_sl (w : World) (v : Value) (t : TypeId) (b : Nat) (hb : b = w.heap.size) : Sl (w.alloc (.cells #[v] t)) (some ⟨b, 0, none⟩) 1 1 1 [v] :=
  ⟨rfl, Nat.le_refl _, by omega, fun h => (by cases h), fun a ha j u hu => by
    obtain rfl := Option.some.inj ha
    rw [add_none, hb, cell_alloc_new]
    cases j with
    | zero => simpa using hu
    | succ j => simp at hu⟩
/-- the same, where each element is the call's own, too -/
structure LsO (w : World) (base : Nat) (v : Value) (ls : List (List UInt8)) : Prop where
  all : ∃ hs : List Value, w.ownsRow base 23 1 v ls.length hs ∧ ∀ j (h : j < ls.length), ∃ q k, hs[j]? = some (.slice q ls[j].length k) ∧ w.ownsRow base 5 1 (.slice q ls[j].length k) ls[j].length (bytesV ls[j])
theorem LsO.nil (w : World) (base : Nat) : LsO w base (.slice none 0 0) [] := ⟨[], World.ownsRow_nil _ _ _ _, fun j h => by simp at h⟩
theorem LsO.ls {w : World} {base : Nat} {v : Value} {ls : List (List UInt8)} (h : LsO w base v ls) : Ls w base v ls := by
  obtain ⟨hs, h1, h2⟩ := h.all
  exact ⟨hs, h1, fun j hj => by
    obtain ⟨q, k, a, b⟩ := h2 j hj
    exact ⟨q, k, a, own_bs b, fun ad ha _ => no_own h1 b ad ha⟩⟩
theorem LsO.below {w w' : World} {base : Nat} {v : Value} {ls : List (List UInt8)} (h : LsO w base v ls) (hb : Below w.heap.size w w') : LsO w' base v ls := by
  obtain ⟨hs, h1, h2⟩ := h.all
  exact ⟨hs, own_touch h1 (Turns.of_below (S := fun _ => False) hb) (fun _ _ h => h), fun j hj => by
    obtain ⟨q, k, a, b⟩ := h2 j hj
    exact ⟨q, k, a, own_touch b (Turns.of_below (S := fun _ => False) hb) (fun _ _ h => h)⟩⟩
theorem LsO.push {w w1 : World} {base : Nat} {v v' : Value} {ls : List (List UInt8)} {hs : List Value} {q : Option Addr} {k : Nat} {x : List UInt8} {tmp : Obj}
    (h1 : w.ownsRow base 23 1 v ls.length hs) (h2 : ∀ j (h : j < ls.length), ∃ q k, hs[j]? = some (.slice q ls[j].length k) ∧ w.ownsRow base 5 1 (.slice q ls[j].length k) ls[j].length (bytesV ls[j]))
    (hx : w.ownsRow base 5 1 (.slice q x.length k) x.length (bytesV x))
    (ho : w1.ownsRow base 23 1 v' (ls.length + 1) (hs ++ [.slice q x.length k])) (hg : (w.alloc tmp).grownBy w1 v.ownBlock) : LsO w1 base v' (ls ++ [x]) := by
  have hl : hs.length = ls.length := by have := h1.1; simpa using this
  have ht : Turns (fun i => v.ownBlock = some i) w w1 := (Turns.of_below (Below.allocs w tmp)).trans (Turns.grown hg (fun k hk => hk)) (fun _ _ h => h)
  have key : ∀ (q : Option Addr) (k : Nat) (y : List UInt8), w.ownsRow base 5 1 (.slice q y.length k) y.length (bytesV y) → w1.ownsRow base 5 1 (.slice q y.length k) y.length (bytesV y) := fun q k y hy =>
    own_touch hy ht (fun i hi he => by
      cases q with
      | none => simp [Value.ownBlock] at hi
      | some a => simp only [Value.ownBlock, Option.some.injEq] at hi; exact no_own h1 hy a rfl (by rw [hi]; exact he))
  refine ⟨_, by rw [List.length_append]; exact ho, fun j hj => ?_⟩
  rw [List.length_append, List.length_singleton] at hj
  by_cases hj2 : j < ls.length
  · obtain ⟨q1, k1, e1, e2⟩ := h2 j hj2
    refine ⟨q1, k1, ?_, ?_⟩
    · rw [List.getElem?_append_left (by omega), List.getElem_append_left hj2]; exact e1
    · rw [List.getElem_append_left hj2]; exact key q1 k1 _ e2
  · obtain rfl : j = ls.length := by omega
    refine ⟨q, k, ?_, ?_⟩
    · rw [List.getElem?_append_right (by omega), hl, Nat.sub_self]
      simp
    · simpa using key q k x hx
theorem LsO.set {w : World} {base : Nat} {v : Value} {ls : List (List UInt8)} {B : Nat} {t : TypeId} {u : Value} (h : LsO w base v ls) (hb : w.heap[B]? = some (.cells #[u] t (0, 0))) (h1 : t ≠ 23) (h2 : t ≠ 5) (u' : Value) : LsO (w.setCell ⟨B, 0, none⟩ u') base v ls := by
  have ht : Turns (fun i => i = B) w (w.setCell ⟨B, 0, none⟩ u') := (Turns.refl (fun i => i = B) w).setCell (p := ⟨B, 0, none⟩) (fun _ => rfl) u'
  have ne : ∀ {n size e : Nat} {x : Value} {vs : List Value}, w.ownsRow base e size x n vs → t ≠ e → ∀ i, x.ownBlock = some i → ¬ i = B := fun {n size e x vs} ho hte i hi he => by
    subst he
    rcases ho.2 with ⟨rfl, _⟩ | ⟨g, cap, cur, rfl, _, hg, _⟩
    · cases hi
    · simp only [Value.ownBlock, Option.some.injEq] at hi
      rw [hi, hb] at hg
      injection hg with e1
      injection e1 with _ e2
      exact hte e2
  obtain ⟨hs, a, b⟩ := h.all
  exact ⟨hs, own_touch a ht (ne a h1), fun j hj => by
    obtain ⟨q, k, c, d⟩ := b j hj
    exact ⟨q, k, c, own_touch d ht (ne d h2)⟩⟩
/-- rows of unlike types lie apart -/
theorem own_apart {w : World} {b1 b2 e1 e2 s1 s2 n1 n2 : Nat} {v1 v2 : Value} {x1 x2 : List Value} (h1 : w.ownsRow b1 e1 s1 v1 n1 x1) (h2 : w.ownsRow b2 e2 s2 v2 n2 x2) (he : e1 ≠ e2) : ∀ k, v1.ownBlock = some k → ¬ v2.ownBlock = some k := fun k hk hk2 => by
  rcases h1.2 with ⟨rfl, _⟩ | ⟨g, cap, cur, rfl, _, hg, _⟩
  · cases hk
  · rcases h2.2 with ⟨rfl, _⟩ | ⟨g2, cap2, cur2, rfl, _, hg2, _⟩
    · cases hk2
    · simp only [Value.ownBlock, Option.some.injEq] at hk hk2
      rw [hk] at hg
      rw [hk2, hg] at hg2
      injection hg2 with a
      injection a with _ b
      exact he b
/-- the same, where the elements lay ahead (in w0) -/
structure LsA (w0 w : World) (base : Nat) (v : Value) (ls : List (List UInt8)) : Prop where
  all : ∃ hs : List Value, w.ownsRow base 23 1 v ls.length hs ∧ ∀ j (h : j < ls.length), ∃ q k, hs[j]? = some (.slice q ls[j].length k) ∧ Bs w0 q ls[j].length k ls[j]
theorem LsA.nil (w0 w : World) (base : Nat) : LsA w0 w base (.slice none 0 0) [] := ⟨[], World.ownsRow_nil _ _ _ _, fun j h => by simp at h⟩
theorem LsA.touch {S : Nat → Prop} {w0 w w' : World} {base : Nat} {v : Value} {ls : List (List UInt8)} (h : LsA w0 w base v ls) (ht : Turns S w w') (hv : ∀ k, v.ownBlock = some k → ¬ S k) : LsA w0 w' base v ls := by
  obtain ⟨hs, h1, h2⟩ := h.all
  exact ⟨hs, own_touch h1 ht hv, h2⟩
theorem LsA.below {w0 w w' : World} {base : Nat} {v : Value} {ls : List (List UInt8)} (h : LsA w0 w base v ls) (hb : Below w.heap.size w w') : LsA w0 w' base v ls := h.touch (Turns.of_below (S := fun _ => False) hb) (fun _ _ h => h)
theorem LsA.push {w0 w w1 : World} {base : Nat} {v v' : Value} {ls : List (List UInt8)} {hs : List Value} {q : Option Addr} {k : Nat} {x : List UInt8}
    (h1 : w.ownsRow base 23 1 v ls.length hs) (h2 : ∀ j (h : j < ls.length), ∃ q k, hs[j]? = some (.slice q ls[j].length k) ∧ Bs w0 q ls[j].length k ls[j]) (hx : Bs w0 q x.length k x)
    (ho : w1.ownsRow base 23 1 v' (ls.length + 1) (hs ++ [.slice q x.length k])) : LsA w0 w1 base v' (ls ++ [x]) := by
  have hl : hs.length = ls.length := by have := h1.1; simpa using this
  refine ⟨_, by rw [List.length_append]; exact ho, fun j hj => ?_⟩
  rw [List.length_append, List.length_singleton] at hj
  by_cases hj2 : j < ls.length
  · obtain ⟨q1, k1, e1, e2⟩ := h2 j hj2
    refine ⟨q1, k1, ?_, ?_⟩
    · rw [List.getElem?_append_left (by omega), List.getElem_append_left hj2]; exact e1
    · rw [List.getElem_append_left hj2]; exact e2
  · obtain rfl : j = ls.length := by omega
    refine ⟨q, k, ?_, ?_⟩
    · rw [List.getElem?_append_right (by omega), hl, Nat.sub_self]
      simp
    · simpa using hx
theorem LsA.sl {w0 w : World} {base : Nat} {v : Value} {ls : List (List UInt8)} (h : LsA w0 w base v ls) (hb : Below w0.heap.size w0 w) : ∃ p c, v = .slice p ls.length c ∧ Pts w p ls.length c ls := by
  obtain ⟨hs, h1, h2⟩ := h.all
  obtain ⟨p, c, rfl, hS⟩ := own_sl h1
  refine ⟨p, c, rfl, rfl, hS.le, hS.max, hS.nil0, fun a ha j hj => ?_⟩
  obtain ⟨q, k, e1, e2⟩ := h2 j hj
  exact ⟨q, _, k, hS.cell a ha j _ e1, e2.below hb⟩
end Go.Proofs.YtcddgbobbogpgaaDoor.Cut

namespace Go.Proofs.YtcddgbobbogpgaaDoor.Scr
open Go.RowKit Go.Mir Go.Mir.Hx Go.Mir.Parts HexW Rpl

theorem join_le (ws : List (List UInt8)) (m : Nat) (h : ∀ x ∈ ws, x.length ≤ m) : (Go.Lib.join ws [32]).length ≤ ws.length * (m + 1) := by
  cases ws with
  | nil => rw [Go.Lib.join_nil]; exact Nat.zero_le _
  | cons x r =>
    rw [Go.Lib.join_cons, List.length_append, Go.Lib.joinTail_length, List.length_cons]
    have h1 := h x List.mem_cons_self
    have h2 : Go.Lib.lens r ≤ r.length * m := by
      have hr : ∀ y ∈ r, y.length ≤ m := fun y hy => h y (List.mem_cons_of_mem _ hy)
      clear h h1
      induction r with
      | nil => exact Nat.zero_le _
      | cons y r ih =>
        have := ih (fun z hz => hr z (List.mem_cons_of_mem _ hz))
        have h3 := hr y List.mem_cons_self
        show y.length + Go.Lib.lens r ≤ (r.length + 1) * m
        rw [Nat.add_mul]; omega
    show x.length + ([32].length * r.length + Go.Lib.lens r) ≤ (r.length + 1) * (m + 1)
    rw [Nat.add_mul, Nat.mul_add]
    show x.length + (1 * r.length + Go.Lib.lens r) ≤ _
    omega
theorem infoStr : (Tryd.prog.info? 9).map (fun i => (i.zero, i.size, i.bytes)) = some (some (.string ⟨#[]⟩), 1, 16) := by kernel_rfl
theorem own_ws {w : World} {base t : Nat} {p : Option Addr} {n c : Nat} {ls : List (List UInt8)} (h : w.ownsRow base t 1 (.slice p n c) n (strV ls)) : Ws w p n c ls := by
  obtain ⟨p', c', he, hs⟩ := own_sl h
  cases he
  exact hs
theorem strV_app (a b : List (List UInt8)) : strV (a ++ b) = strV a ++ strV b := by simp [strV]
/-- numbers in memory -/
def Zs (w : World) (p : Option Addr) (n c : Nat) (l : List Int) : Prop := Sl w p n c 1 (l.map (Value.int .i64))
theorem Zs.below {w w' : World} {p : Option Addr} {n c : Nat} {l : List Int} (h : Zs w p n c l) (hb : Below w.heap.size w w') : Zs w' p n c l := Sl.below h hb
theorem Zs.length {w : World} {p : Option Addr} {n c : Nat} {l : List Int} (h : Zs w p n c l) : l.length = n := by have := h.len; simpa using this
theorem Zs.at {w : World} {b o : Nat} {n c : Nat} {l : List Int} (h : Zs w (some ⟨b, o, none⟩) n c l) (j : Nat) (hj : j < l.length) : w.cell? ⟨b, o + j, none⟩ = some (.int .i64 l[j]) := Sl.at h (by simp [hj])
theorem Zs.lit (w : World) (t : TypeId) (l : List Int) (hl : l.length ≤ 65536) : Zs (w.alloc (.cells (l.map (Value.int .i64)).toArray t)) (some ⟨w.heap.size, 0, none⟩) l.length l.length l :=
  ⟨by simp, Nat.le_refl _, by omega, fun h => (by cases h), fun a ha j u hu => by
    obtain rfl := Option.some.inj ha
    rw [add_none, Nat.zero_add, cell_of_row _ _ _ _ _ _ (heap_alloc_last _ _), ← Array.getElem?_toList]
    exact hu⟩
def okZ (bnd : Int) (l : List Int) : Prop := ∀ x ∈ l, 0 ≤ x ∧ x ≤ bnd
instance (bnd : Int) (l : List Int) : Decidable (okZ bnd l) := by unfold okZ; infer_instance
def decs (l : List Int) : List (List UInt8) := l.map fun x => decL x.toNat
def NumsP (bnd : Int) (l : List Int) (w : World) (e : Ending) (w' : World) : Prop := Below w.heap.size w w' ∧
  ((okZ bnd l ∧ ∃ p c, e = .returned (.tuple #[.slice p l.length c, .bool true]) ∧ w'.ownsRow w.heap.size 9 1 (.slice p l.length c) l.length (strV (decs l))) ∨ (¬ okZ bnd l ∧ e = .returned (.tuple #[.slice none 0 0, .bool false])))
set_option maxRecDepth 100000 in
set_option maxHeartbeats 3200000 in
theorem nums_any (bnd : Int) (hbd : 0 ≤ bnd ∧ bnd ≤ 1000000) (q : Option Addr) (n c : Nat) (l : List Int) (w : World) (hN : Zs w q n c l) (hn : n ≤ 1000) :
    Calls Tryd.prog 24 #[.int .i64 bnd, .slice q n c] w (NumsP bnd l w) := by
  have HZS := Lib.hid hN
  have HBD := Lib.hid hbd
  obtain rfl : l.length = n := hN.length
  have hle := hN.le
  have hmax := hN.max
  clear hN
  go_enter Tryd.func24, Tryd.ntmps24
  go_wp2_with fail
  go_loopw [6, 8, 11] (fun v _ j wr => ∃ (i : Nat) (p : Option Addr) (k : Nat), i ≤ l.length ∧ j = .int .i64 i ∧ v = .slice p i k ∧ wr.ownsRow w.heap.size 9 1 v i (strV (decs (l.take i))) ∧ okZ bnd (l.take i) ∧ Below w.heap.size w wr) (fun _ _ j _ => l.length - (intOf j).toNat)
  case atStart => exact ⟨0, none, 0, by omega, rfl, rfl, World.ownsRow_nil _ _ _ _, fun x hx => by simp at hx, Below.refl _ _⟩
  case round =>
    obtain ⟨i, p, k, hi, rfl, rfl, ho, hok, hb⟩ := hrel
    have HO := Lib.hid ho
    have HOK := Lib.hid hok
    have HB := Lib.hid hb
    clear ho hok hb
    by_cases hlt : i < l.length
    · have hd : decide ((i : Int) < (l.length : Int)) = true := decide_eq_true (by omega)
      have hd2 : decide (i < l.length) = true := decide_eq_true hlt
      obtain ⟨b, o, rfl⟩ := HZS.out.addr (by omega) (by omega)
      have hcx := cell_below (HZS.out.at i hlt) HB.out
      have HTK : Hid (l.take (i + 1) = l.take i ++ [l[i]]) := List.take_succ_eq_append_getElem hlt
      have HMEM : Hid (l[i] ∈ l) := List.getElem_mem hlt
      generalize l[i] = x at *
      by_cases h0 : 0 ≤ x ∧ x ≤ bnd
      · obtain ⟨v, rfl⟩ : ∃ v : Nat, x = (v : Int) := ⟨x.toNat, by omega⟩
        have d0 : decide ((v : Int) < 0) = false := decide_eq_false (by omega)
        have d1 : decide (bnd < (v : Int)) = false := decide_eq_false (by omega)
        have hw : IntKind.u64.wrap (v : Int) = (v : Int) := by rw [IntKind.wrap_u64]; have := HBD.out; omega
        have HOK2 : Hid (okZ bnd (l.take (i + 1))) := by
          intro y hy
          rw [HTK.out, List.mem_append, List.mem_singleton] at hy
          rcases hy with hy | rfl
          · exact HOK.out y hy
          · exact h0
        have HDC : Hid (decs (l.take (i + 1)) = decs (l.take i) ++ [decL v]) := by
          show _ = _
          rw [HTK.out]
          unfold decs
          rw [List.map_append]; rfl
        have HNUM := Lib.hid (num_any v wr (by have := HBD.out; omega))
        clear h0
        go_wp2_with fail
        refine HNUM.out.mono ?_
        rintro e w6 ⟨rfl, hb6⟩
        have HO6 := Lib.hid (own_touch HO.out (Turns.of_below (S := fun _ => False) hb6) (fun _ _ h => h))
        have HB6 := Lib.hid (HB.out.trans (hb6.mono HB.out.size))
        clear hb6 HNUM hcx
        have hB7 := Below.allocs w6 (.cells #[.string (S (decL v))] 9)
        have HO7 := Lib.hid (own_touch HO6.out (Turns.of_below (S := fun _ => False) hB7) (fun _ _ h => h))
        have HX7 : Hid (Ws (w6.alloc (.cells #[.string (S (decL v))] 9)) (some ⟨w6.heap.size, 0, none⟩) 1 1 [decL v]) := Ws.row (ls := [decL v]) (heap_alloc_last w6 _) rfl (by show 1 ≤ _; omega)
        have HB7 := Lib.hid (HB6.out.trans (hB7.mono HB6.out.size))
        have HS7 : Hid (w.heap.size ≤ (w6.alloc (.cells #[.string (S (decL v))] 9)).heap.size) := HB7.out.size
        clear HO6 HB6 hB7
        go_wp2_with (at_builtin; refine wpList_append_nx rfl _ _ 65 rfl (base := w.heap.size) Tryd.underlying65 infoStr rfl (by omega) rfl HO7.out rfl HX7.out (strV_one _) ⟨by omega, by omega⟩ HS7.out ?_)
        intro p' c' w8 ho8 hgr hnx _
        have hb8 := own_below HO7.out hgr HS7.out
        have HB8 := Lib.hid (HB7.out.trans hb8)
        have HO8 : Hid (w8.ownsRow w.heap.size 9 1 (.slice p' (i + 1) c') (i + 1) (strV (decs (l.take (i + 1))))) := by
          show World.ownsRow _ _ _ _ _ _ _
          rw [HDC.out, strV_app]
          exact ho8
        clear ho8 hgr hnx hb8 HO7 HX7 HB7 HS7
        go_wp2_with fail
        go_roundw
        case rel => exact ⟨i + 1, p', c', by omega, by go_num, rfl, HO8.out, HOK2.out, HB8.out⟩
        case measure => simp [intOf]; omega
      · have HBAD : Hid (¬ okZ bnd l) := fun h => h0 (h x HMEM.out)
        by_cases h1 : x < 0
        · have d0 : decide (x < 0) = true := decide_eq_true h1
          clear h0 h1
          go_wp2_with fail
          go_ret2
          exact ⟨HB.out, .inr ⟨HBAD.out, rfl⟩⟩
        · have d0 : decide (x < 0) = false := decide_eq_false h1
          have d1 : decide (bnd < x) = true := decide_eq_true (by omega)
          clear h0 h1
          go_wp2_with fail
          go_ret2
          exact ⟨HB.out, .inr ⟨HBAD.out, rfl⟩⟩
    · have hd : decide ((i : Int) < (l.length : Int)) = false := decide_eq_false (by omega)
      have hd2 : decide (i < l.length) = false := decide_eq_false hlt
      obtain rfl : i = l.length := by omega
      rw [List.take_length] at HO HOK
      go_wp2_with fail
      go_ret2
      exact ⟨HB.out, .inl ⟨HOK.out, p, k, rfl, HO.out⟩⟩
end Go.Proofs.YtcddgbobbogpgaaDoor.Scr

namespace Go.Proofs.YtcddgbobbogpgaaDoor.Scr
open Go.RowKit Go.Mir Go.Mir.Hx Go.Mir.Parts HexW Rpl

/-- an event with the places of its parts -/
structure ER where
  e : Ev
  pb : Option Addr
  cb : Nat
  q : Option Addr
  c : Nat
def ER.l (r : ER) : List Value := evL r.e r.pb r.cb r.q r.c
def ER.A (r : ER) : Array Value := evA r.e r.pb r.cb r.q r.c
def ER.At (r : ER) (w : World) : Prop := EvAt w r.e r.pb r.cb r.q r.c
def evs (l : List ER) : List Ev := l.map (·.e)
theorem flat_len {α β : Type} (f : α → List β) (m : Nat) : ∀ l : List α, (∀ x ∈ l, (f x).length = m) → (l.flatMap f).length = l.length * m
  | [], _ => by simp
  | x :: l, h => by
    rw [List.flatMap_cons, List.length_append, h x (by simp), flat_len f m l (fun y hy => h y (List.mem_cons_of_mem _ hy)), List.length_cons, Nat.add_mul]
    omega
theorem flat_get {α β : Type} (f : α → List β) (m : Nat) : ∀ (l : List α) (i j : Nat) (hi : i < l.length), (∀ x ∈ l, (f x).length = m) → j < m → (l.flatMap f)[i * m + j]? = (f l[i])[j]?
  | [], i, j, hi, _, _ => absurd hi (Nat.not_lt_zero _)
  | x :: l, 0, j, _, h, hj => by
    rw [List.flatMap_cons, Nat.zero_mul, Nat.zero_add, List.getElem?_append_left (by rw [h x (by simp)]; exact hj)]; rfl
  | x :: l, i + 1, j, hi, h, hj => by
    have hx := h x (by simp)
    rw [List.flatMap_cons, List.getElem?_append_right (by rw [hx, Nat.add_mul]; omega), hx, show (i + 1) * m + j - m = i * m + j by rw [Nat.add_mul]; omega,
      flat_get f m l i j (by simpa using hi) (fun y hy => h y (List.mem_cons_of_mem _ hy)) hj]
    rfl
/-- a slice of events -/
structure Es (w : World) (p : Option Addr) (n c : Nat) (l : List ER) : Prop where
  sl : Sl w p n c 103 (l.flatMap ER.l)
  each : ∀ r ∈ l, r.At w
  count : l.length = n
theorem Es.below {w w' : World} {p : Option Addr} {n c : Nat} {l : List ER} (h : Es w p n c l) (hb : Below w.heap.size w w') : Es w' p n c l := ⟨h.sl.below hb, fun r hr => (h.each r hr).below hb, h.count⟩
theorem Es.nil (w : World) : Es w none 0 0 [] := ⟨Sl.nil _ _, fun _ h => (nomatch h), rfl⟩
theorem ER.len {r : ER} {w : World} (h : r.At w) : r.l.length = 103 := evL_len h.wf _ _ _ _
theorem Es.range {w : World} {b o n c : Nat} {l : List ER} (h : Es w (some ⟨b, o, none⟩) n c l) (i : Nat) (hi : i < l.length) : w.rangeAt b (o + i * 103) (l[i]).A.toList := fun j v hv => by
  have hv : (l[i]).l[j]? = some v := hv
  have hlen : ∀ r ∈ l, r.l.length = 103 := fun r hr => ER.len (h.each r hr)
  have hj : j < 103 := by
    have := (List.getElem?_eq_some_iff.1 hv).1
    rwa [hlen _ (List.getElem_mem hi)] at this
  have h1 : (l.flatMap ER.l)[i * 103 + j]? = some v := by rw [flat_get ER.l 103 l i j hi hlen hj]; exact hv
  have h2 := h.sl.at h1
  rwa [← Nat.add_assoc] at h2
theorem ER.size {r : ER} {w : World} (h : r.At w) : r.A.size = 103 := evA_size h.wf _ _ _ _
theorem ER.one (r : ER) : r.A.all (·.oneCell') = true := evA_one _ _ _ _ _
theorem ER.ones (r : ER) : ∀ u ∈ r.l, u.oneCell' = true := fun u hu => by
  have h := evA_one r.e r.pb r.cb r.q r.c
  rw [Array.all_eq_true'] at h
  exact h u (by unfold evA; exact List.mem_toArray.2 hu)
/-- a row of one event that was just made -/
theorem made_er (w : World) (r : ER) (t : TypeId) (h : r.l.length = 103) : Sl (w.alloc (.cells r.A t)) (some ⟨w.heap.size, 0, none⟩) 1 1 103 r.l :=
  ⟨by rw [h], Nat.le_refl _, by omega, fun h => (by cases h), fun a ha j u hu => by
    obtain rfl := Option.some.inj ha
    rw [add_none, Nat.zero_add, cell_of_row _ _ _ _ _ _ (heap_alloc_last _ _), ← Array.getElem?_toList]
    exact hu⟩
end Go.Proofs.YtcddgbobbogpgaaDoor.Scr
