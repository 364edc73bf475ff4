/- PARTS, JOINED: SCRIPTS: are two events the same? (the program's) Conditions: none. SLICES OF BYTES, CUT: b[k:k+m], b[:m], b[k:]. Conditions: none. A [][]byte THAT THE CALL OWNS, each element a slice of bytes that it does not overwrite. Conditions: none. SCRIPTS: nums: numbers as words. Conditions: numbers of 64 bits. SCRIPTS: what an event of a kind may have, both ways. Conditions: one of the six kinds. A REGION THAT DRAWS ITS ORDER, WALKED IN ONE ORDER, WHOSE LAST OPERATIONS MAY TURN WHAT THE EARLIER ONES READ. No program is named. Conditions: none. -/
import Derived.Test.YtcddgbobbogpgaaDoorSa1
import Derived.Test.YtcddgbobbogpgaaDoorSa2
import Derived.Test.YtcddgbobbogpgaaDoorSa3
import Derived.Test.YtcddgbobbogpgaaDoorChecked
namespace Go.Proofs.YtcddgbobbogpgaaDoor.Scr
open Go.RowKit Go.Mir Go.Mir.Hx Go.Mir.Parts HexW Rpl

/-! ### arrays of three numbers -/
theorem run_items_i {w : World} (d : Nat) (a b : List Int) : ∀ is : List Nat, (∀ i ∈ is, i < a.length ∧ i < b.length) →
    (Op.eqItems (d + 1) 3 (Tryd.prog.cellsOf 3) (a.map (Value.int .i64)).toArray (b.map (Value.int .i64)).toArray is).run Tryd.prog w = .ok (is.all fun i => a[i]? == b[i]?) w
  | [], _ => by simp [Op.eqItems]
  | i :: is, h => by
    have hi := h i (by simp)
    have ih := run_items_i (w := w) d a b is (fun j hj => h j (by simp [hj]))
    have hc : Tryd.prog.cellsOf 3 = 1 := by kernel_rfl
    have hp : Tryd.prog.plainKey 3 = true := by kernel_rfl
    have ga : (a.map (Value.int .i64)).toArray[i * Tryd.prog.cellsOf 3]? = some (.int .i64 a[i]) := by rw [hc, Nat.mul_one, List.getElem?_toArray]; simp [hi.1]
    have gb : (b.map (Value.int .i64)).toArray[i * Tryd.prog.cellsOf 3]? = some (.int .i64 b[i]) := by rw [hc, Nat.mul_one, List.getElem?_toArray]; simp [hi.2]
    have hbq : (a[i] == b[i]) = (a[i]? == b[i]?) := by
      rw [List.getElem?_eq_getElem hi.1, List.getElem?_eq_getElem hi.2, Bool.eq_iff_iff]
      simp only [beq_iff_eq, Option.some.injEq]
    simp only [Op.eqItems, Sem.run_bind, run_part_plain w hp ga, run_part_plain w hp gb, Result.andThen_ok, run_equalIn_int w d 3 .i64 .i64 _ _ Tryd.underlying3, hbq, List.all_cons]
    cases a[i]? == b[i]?
    · simp
    · simpa using ih
theorem infoInt : ∃ i, Tryd.prog.info? 3 = some i := Option.isSome_iff_exists.1 (by kernel_rfl)
theorem eqU3 (w : World) (a b : Ev) : (Op.equalIn 10000 29 (.agg (u3L a).toArray) (.agg (u3L b).toArray)).run Tryd.prog w = .ok (decide (a.u0 = b.u0 ∧ a.u1 = b.u1 ∧ a.u2 = b.u2)) w := by
  obtain ⟨i, hi⟩ := infoInt
  have h1 := run_items_i (w := w) 9998 [a.u0, a.u1, a.u2] [b.u0, b.u1, b.u2] (List.range 3) (fun i hi => List.mem_range.1 hi |> fun h => ⟨h, h⟩)
  rw [run_equalIn_array w 9999 _ _ Tryd.underlying29 hi]
  have h2 : ((List.range 3).all fun i => [a.u0, a.u1, a.u2][i]? == [b.u0, b.u1, b.u2][i]?) = decide (a.u0 = b.u0 ∧ a.u1 = b.u1 ∧ a.u2 = b.u2) := by
    rw [Bool.eq_iff_iff, decide_eq_true_eq]
    simp [List.range, List.range.loop]
  rw [h2] at h1
  exact h1
theorem eqIdT (w : World) {x y : List UInt8} (hx : x.length = 32) (hy : y.length = 32) (v : Bool) (h : (x == y) = v) : (Op.equalIn 10000 25 (.agg (idA x)) (.agg (idA y))).run Tryd.prog w = .ok v w := by rw [← h]; exact RR.eqI w x y hx hy
theorem eqU3T (w : World) {a b : Ev} (v : Bool) (h : decide (a.u0 = b.u0 ∧ a.u1 = b.u1 ∧ a.u2 = b.u2) = v) : (Op.equalIn 10000 29 (.agg (u3L a).toArray) (.agg (u3L b).toArray)).run Tryd.prog w = .ok v w := by rw [← h]; exact eqU3 w a b
theorem ev_eq (a b : Ev) : a = b ↔ a.k = b.k ∧ a.b = b.b ∧ a.id = b.id ∧ a.n = b.n ∧ (a.u0 = b.u0 ∧ a.u1 = b.u1 ∧ a.u2 = b.u2) ∧ a.h = b.h ∧ a.p = b.p ∧ a.tx = b.tx := by
  obtain ⟨k, b1, h, p, tx, id, n, u0, u1, u2⟩ := a
  obtain ⟨k', b1', h', p', tx', id', n', u0', u1', u2'⟩ := b
  constructor
  · intro e
    injection e with e0 e1 e2 e3 e4 e5 e6 e7 e8 e9
    exact ⟨e0, e1, e5, e6, ⟨e7, e8, e9⟩, e2, e3, e4⟩
  · rintro ⟨rfl, rfl, rfl, rfl, ⟨rfl, rfl, rfl⟩, rfl, rfl, rfl⟩; rfl
theorem row_rangeS {w : World} {b : Nat} {A : Array Value} {t : TypeId} {fr : Nat × Nat} (h : w.heap[b]? = some (.cells A t fr)) : w.rangeAt b 0 A.toList := fun j v hv => by
  rw [Nat.zero_add, cell_of_row _ _ _ _ _ _ h, ← Array.getElem?_toList]; exact hv
theorem bret {a b : Bool} (h : a = b) : Ending.returned (.bool a) = .returned (.bool b) := by rw [h]

set_option maxRecDepth 100000 in
set_option maxHeartbeats 6400000 in
theorem same_any {a b : Ev} {pa pb qa qb : Option Addr} {ca cb ka kb : Nat} (w : World) (hA : EvAt w a pa ca qa ka) (hB : EvAt w b pb cb qb kb) :
    Calls Tryd.prog 19 #[.agg (evA a pa ca qa ka), .agg (evA b pb cb qb kb)] w fun x w' => x = .returned (.bool (decide (a = b))) ∧ Below w.heap.size w w' := by
  obtain ⟨a1, a2, a3, a4⟩ := Go.Mir.two_allocs w (.cells (evA a pa ca qa ka) 31) (.cells (evA b pb cb qb kb) 31)
  have HC := Lib.hid (ev_row hA.wf a1)
  have HD := Lib.hid (ev_row hB.wf a2)
  have HX := Lib.hid a4
  have HA := Lib.hid hA.wf
  have HB := Lib.hid hB.wf
  have HAT := Lib.hid (hA.below a4)
  have HBT := Lib.hid (hB.below a4)
  have c0 := HC.out.k
  have d0 := HD.out.k
  have c1 := HC.out.b
  have d1 := HD.out.b
  have c3 := HC.out.n
  have d3 := HD.out.n
  have c7 := HC.out.tx
  have d7 := HD.out.tx
  have v1 := cv HAT.out.bs
  have v2 := cv HBT.out.bs
  clear a1 a2 a3 a4 hA hB
  by_cases n0 : a.k = b.k
  rotate_left
  · have HR : Hid (decide (a = b) = false) := decide_eq_false (fun e => n0 (by rw [e]))
    have q0 : (a.k == b.k) = false := (beq_eq_false_iff_ne.2 n0)
    have p0 : (a.k != b.k) = true := (bne_iff_ne.2 n0)
    clear n0
    skip
    go_enter Tryd.func19, Tryd.ntmps19
    go_upto_region 1 with fail
    generalize (w.alloc (.cells (evA a pa ca qa ka) 31)).alloc (.cells (evA b pb cb qb kb) 31) = w1 at *
    skip
    go_wp2_with (first
      | ((with_reducible refine wpAt 23 ?_); refine loadM (by rfl) 25 _ rfl w.heap.size 67 rfl (idA a.id) _ HC.out.id Tryd.underlying25 rfl (infoId _ (by rw [idA_size, HA.out.id])) ?_)
      | ((with_reducible refine wpAt 25 ?_); refine loadM (by rfl) 25 _ rfl (w.heap.size + 1) 67 rfl (idA b.id) _ HD.out.id Tryd.underlying25 rfl (infoId _ (by rw [idA_size, HB.out.id])) ?_)
      | ((with_reducible refine wpAt 37 ?_); refine loadM (by rfl) 29 _ rfl w.heap.size 100 rfl (u3L a).toArray _ HC.out.us Tryd.underlying29 rfl (infoU3 _ rfl) ?_)
      | ((with_reducible refine wpAt 39 ?_); refine loadM (by rfl) 29 _ rfl (w.heap.size + 1) 100 rfl (u3L b).toArray _ HD.out.us Tryd.underlying29 rfl (infoU3 _ rfl) ?_)
      | ((with_reducible refine wpAt 45 ?_); refine loadM (by rfl) 25 _ rfl w.heap.size 2 rfl (idA a.h) _ HC.out.h Tryd.underlying25 rfl (infoId _ (by rw [idA_size, HA.out.h])) ?_)
      | ((with_reducible refine wpAt 48 ?_); refine loadM (by rfl) 25 _ rfl (w.heap.size + 1) 2 rfl (idA b.h) _ HD.out.h Tryd.underlying25 rfl (infoId _ (by rw [idA_size, HB.out.h])) ?_)
      | ((with_reducible refine wpAt 54 ?_); refine loadM (by rfl) 25 _ rfl w.heap.size 34 rfl (idA a.p) _ HC.out.p Tryd.underlying25 rfl (infoId _ (by rw [idA_size, HA.out.p])) ?_)
      | ((with_reducible refine wpAt 57 ?_); refine loadM (by rfl) 25 _ rfl (w.heap.size + 1) 34 rfl (idA b.p) _ HD.out.p Tryd.underlying25 rfl (infoId _ (by rw [idA_size, HB.out.p])) ?_))
    go_ret
    exact ⟨bret HR.out.symm, HX.out⟩
  by_cases n1 : a.b = b.b
  rotate_left
  · have HR : Hid (decide (a = b) = false) := decide_eq_false (fun e => n1 (by rw [e]))
    have q0 : (a.k == b.k) = true := (beq_iff_eq.2 n0)
    have p0 : (a.k != b.k) = false := (by rw [bne_eq_false_iff_eq]; exact n0)
    have q1 : (a.b == b.b) = false := (beq_eq_false_iff_ne.2 n1)
    have p1 : (a.b != b.b) = true := (bne_iff_ne.2 n1)
    clear n0 n1
    skip
    go_enter Tryd.func19, Tryd.ntmps19
    go_upto_region 1 with fail
    generalize (w.alloc (.cells (evA a pa ca qa ka) 31)).alloc (.cells (evA b pb cb qb kb) 31) = w1 at *
    skip
    go_wp2_with (first
      | ((with_reducible refine wpAt 23 ?_); refine loadM (by rfl) 25 _ rfl w.heap.size 67 rfl (idA a.id) _ HC.out.id Tryd.underlying25 rfl (infoId _ (by rw [idA_size, HA.out.id])) ?_)
      | ((with_reducible refine wpAt 25 ?_); refine loadM (by rfl) 25 _ rfl (w.heap.size + 1) 67 rfl (idA b.id) _ HD.out.id Tryd.underlying25 rfl (infoId _ (by rw [idA_size, HB.out.id])) ?_)
      | ((with_reducible refine wpAt 37 ?_); refine loadM (by rfl) 29 _ rfl w.heap.size 100 rfl (u3L a).toArray _ HC.out.us Tryd.underlying29 rfl (infoU3 _ rfl) ?_)
      | ((with_reducible refine wpAt 39 ?_); refine loadM (by rfl) 29 _ rfl (w.heap.size + 1) 100 rfl (u3L b).toArray _ HD.out.us Tryd.underlying29 rfl (infoU3 _ rfl) ?_)
      | ((with_reducible refine wpAt 45 ?_); refine loadM (by rfl) 25 _ rfl w.heap.size 2 rfl (idA a.h) _ HC.out.h Tryd.underlying25 rfl (infoId _ (by rw [idA_size, HA.out.h])) ?_)
      | ((with_reducible refine wpAt 48 ?_); refine loadM (by rfl) 25 _ rfl (w.heap.size + 1) 2 rfl (idA b.h) _ HD.out.h Tryd.underlying25 rfl (infoId _ (by rw [idA_size, HB.out.h])) ?_)
      | ((with_reducible refine wpAt 54 ?_); refine loadM (by rfl) 25 _ rfl w.heap.size 34 rfl (idA a.p) _ HC.out.p Tryd.underlying25 rfl (infoId _ (by rw [idA_size, HA.out.p])) ?_)
      | ((with_reducible refine wpAt 57 ?_); refine loadM (by rfl) 25 _ rfl (w.heap.size + 1) 34 rfl (idA b.p) _ HD.out.p Tryd.underlying25 rfl (infoId _ (by rw [idA_size, HB.out.p])) ?_))
    go_ret
    exact ⟨bret HR.out.symm, HX.out⟩
  by_cases n2 : a.id = b.id
  rotate_left
  · have HR : Hid (decide (a = b) = false) := decide_eq_false (fun e => n2 (by rw [e]))
    have q0 : (a.k == b.k) = true := (beq_iff_eq.2 n0)
    have p0 : (a.k != b.k) = false := (by rw [bne_eq_false_iff_eq]; exact n0)
    have q1 : (a.b == b.b) = true := (beq_iff_eq.2 n1)
    have p1 : (a.b != b.b) = false := (by rw [bne_eq_false_iff_eq]; exact n1)
    have q2 : ∀ w, (Op.equalIn 10000 25 (.agg (idA a.id)) (.agg (idA b.id))).run Tryd.prog w = .ok false w := fun w => eqIdT w HA.out.id HB.out.id _ (beq_eq_false_iff_ne.2 n2)
    clear n0 n1 n2
    skip
    go_enter Tryd.func19, Tryd.ntmps19
    go_upto_region 1 with fail
    generalize (w.alloc (.cells (evA a pa ca qa ka) 31)).alloc (.cells (evA b pb cb qb kb) 31) = w1 at *
    skip
    go_wp2_with (first
      | ((with_reducible refine wpAt 23 ?_); refine loadM (by rfl) 25 _ rfl w.heap.size 67 rfl (idA a.id) _ HC.out.id Tryd.underlying25 rfl (infoId _ (by rw [idA_size, HA.out.id])) ?_)
      | ((with_reducible refine wpAt 25 ?_); refine loadM (by rfl) 25 _ rfl (w.heap.size + 1) 67 rfl (idA b.id) _ HD.out.id Tryd.underlying25 rfl (infoId _ (by rw [idA_size, HB.out.id])) ?_)
      | ((with_reducible refine wpAt 37 ?_); refine loadM (by rfl) 29 _ rfl w.heap.size 100 rfl (u3L a).toArray _ HC.out.us Tryd.underlying29 rfl (infoU3 _ rfl) ?_)
      | ((with_reducible refine wpAt 39 ?_); refine loadM (by rfl) 29 _ rfl (w.heap.size + 1) 100 rfl (u3L b).toArray _ HD.out.us Tryd.underlying29 rfl (infoU3 _ rfl) ?_)
      | ((with_reducible refine wpAt 45 ?_); refine loadM (by rfl) 25 _ rfl w.heap.size 2 rfl (idA a.h) _ HC.out.h Tryd.underlying25 rfl (infoId _ (by rw [idA_size, HA.out.h])) ?_)
      | ((with_reducible refine wpAt 48 ?_); refine loadM (by rfl) 25 _ rfl (w.heap.size + 1) 2 rfl (idA b.h) _ HD.out.h Tryd.underlying25 rfl (infoId _ (by rw [idA_size, HB.out.h])) ?_)
      | ((with_reducible refine wpAt 54 ?_); refine loadM (by rfl) 25 _ rfl w.heap.size 34 rfl (idA a.p) _ HC.out.p Tryd.underlying25 rfl (infoId _ (by rw [idA_size, HA.out.p])) ?_)
      | ((with_reducible refine wpAt 57 ?_); refine loadM (by rfl) 25 _ rfl (w.heap.size + 1) 34 rfl (idA b.p) _ HD.out.p Tryd.underlying25 rfl (infoId _ (by rw [idA_size, HB.out.p])) ?_))
    go_ret
    exact ⟨bret HR.out.symm, HX.out⟩
  by_cases n3 : a.n = b.n
  rotate_left
  · have HR : Hid (decide (a = b) = false) := decide_eq_false (fun e => n3 (by rw [e]))
    have q0 : (a.k == b.k) = true := (beq_iff_eq.2 n0)
    have p0 : (a.k != b.k) = false := (by rw [bne_eq_false_iff_eq]; exact n0)
    have q1 : (a.b == b.b) = true := (beq_iff_eq.2 n1)
    have p1 : (a.b != b.b) = false := (by rw [bne_eq_false_iff_eq]; exact n1)
    have q2 : ∀ w, (Op.equalIn 10000 25 (.agg (idA a.id)) (.agg (idA b.id))).run Tryd.prog w = .ok true w := fun w => eqIdT w HA.out.id HB.out.id _ (beq_iff_eq.2 n2)
    have q3 : (a.n == b.n) = false := (beq_eq_false_iff_ne.2 n3)
    have p3 : (a.n != b.n) = true := (bne_iff_ne.2 n3)
    clear n0 n1 n2 n3
    skip
    go_enter Tryd.func19, Tryd.ntmps19
    go_upto_region 1 with fail
    generalize (w.alloc (.cells (evA a pa ca qa ka) 31)).alloc (.cells (evA b pb cb qb kb) 31) = w1 at *
    skip
    go_wp2_with (first
      | ((with_reducible refine wpAt 23 ?_); refine loadM (by rfl) 25 _ rfl w.heap.size 67 rfl (idA a.id) _ HC.out.id Tryd.underlying25 rfl (infoId _ (by rw [idA_size, HA.out.id])) ?_)
      | ((with_reducible refine wpAt 25 ?_); refine loadM (by rfl) 25 _ rfl (w.heap.size + 1) 67 rfl (idA b.id) _ HD.out.id Tryd.underlying25 rfl (infoId _ (by rw [idA_size, HB.out.id])) ?_)
      | ((with_reducible refine wpAt 37 ?_); refine loadM (by rfl) 29 _ rfl w.heap.size 100 rfl (u3L a).toArray _ HC.out.us Tryd.underlying29 rfl (infoU3 _ rfl) ?_)
      | ((with_reducible refine wpAt 39 ?_); refine loadM (by rfl) 29 _ rfl (w.heap.size + 1) 100 rfl (u3L b).toArray _ HD.out.us Tryd.underlying29 rfl (infoU3 _ rfl) ?_)
      | ((with_reducible refine wpAt 45 ?_); refine loadM (by rfl) 25 _ rfl w.heap.size 2 rfl (idA a.h) _ HC.out.h Tryd.underlying25 rfl (infoId _ (by rw [idA_size, HA.out.h])) ?_)
      | ((with_reducible refine wpAt 48 ?_); refine loadM (by rfl) 25 _ rfl (w.heap.size + 1) 2 rfl (idA b.h) _ HD.out.h Tryd.underlying25 rfl (infoId _ (by rw [idA_size, HB.out.h])) ?_)
      | ((with_reducible refine wpAt 54 ?_); refine loadM (by rfl) 25 _ rfl w.heap.size 34 rfl (idA a.p) _ HC.out.p Tryd.underlying25 rfl (infoId _ (by rw [idA_size, HA.out.p])) ?_)
      | ((with_reducible refine wpAt 57 ?_); refine loadM (by rfl) 25 _ rfl (w.heap.size + 1) 34 rfl (idA b.p) _ HD.out.p Tryd.underlying25 rfl (infoId _ (by rw [idA_size, HB.out.p])) ?_))
    go_ret
    exact ⟨bret HR.out.symm, HX.out⟩
  by_cases n4 : (a.u0 = b.u0 ∧ a.u1 = b.u1 ∧ a.u2 = b.u2)
  rotate_left
  · have HR : Hid (decide (a = b) = false) := decide_eq_false (fun e => n4 (by rw [e]; exact ⟨rfl, rfl, rfl⟩))
    have q0 : (a.k == b.k) = true := (beq_iff_eq.2 n0)
    have p0 : (a.k != b.k) = false := (by rw [bne_eq_false_iff_eq]; exact n0)
    have q1 : (a.b == b.b) = true := (beq_iff_eq.2 n1)
    have p1 : (a.b != b.b) = false := (by rw [bne_eq_false_iff_eq]; exact n1)
    have q2 : ∀ w, (Op.equalIn 10000 25 (.agg (idA a.id)) (.agg (idA b.id))).run Tryd.prog w = .ok true w := fun w => eqIdT w HA.out.id HB.out.id _ (beq_iff_eq.2 n2)
    have q3 : (a.n == b.n) = true := (beq_iff_eq.2 n3)
    have p3 : (a.n != b.n) = false := (by rw [bne_eq_false_iff_eq]; exact n3)
    have q4 : ∀ w, (Op.equalIn 10000 29 (.agg (u3L a).toArray) (.agg (u3L b).toArray)).run Tryd.prog w = .ok false w := fun w => eqU3T w _ (decide_eq_false n4)
    clear n0 n1 n2 n3 n4
    skip
    go_enter Tryd.func19, Tryd.ntmps19
    go_upto_region 1 with fail
    generalize (w.alloc (.cells (evA a pa ca qa ka) 31)).alloc (.cells (evA b pb cb qb kb) 31) = w1 at *
    skip
    go_wp2_with (first
      | ((with_reducible refine wpAt 23 ?_); refine loadM (by rfl) 25 _ rfl w.heap.size 67 rfl (idA a.id) _ HC.out.id Tryd.underlying25 rfl (infoId _ (by rw [idA_size, HA.out.id])) ?_)
      | ((with_reducible refine wpAt 25 ?_); refine loadM (by rfl) 25 _ rfl (w.heap.size + 1) 67 rfl (idA b.id) _ HD.out.id Tryd.underlying25 rfl (infoId _ (by rw [idA_size, HB.out.id])) ?_)
      | ((with_reducible refine wpAt 37 ?_); refine loadM (by rfl) 29 _ rfl w.heap.size 100 rfl (u3L a).toArray _ HC.out.us Tryd.underlying29 rfl (infoU3 _ rfl) ?_)
      | ((with_reducible refine wpAt 39 ?_); refine loadM (by rfl) 29 _ rfl (w.heap.size + 1) 100 rfl (u3L b).toArray _ HD.out.us Tryd.underlying29 rfl (infoU3 _ rfl) ?_)
      | ((with_reducible refine wpAt 45 ?_); refine loadM (by rfl) 25 _ rfl w.heap.size 2 rfl (idA a.h) _ HC.out.h Tryd.underlying25 rfl (infoId _ (by rw [idA_size, HA.out.h])) ?_)
      | ((with_reducible refine wpAt 48 ?_); refine loadM (by rfl) 25 _ rfl (w.heap.size + 1) 2 rfl (idA b.h) _ HD.out.h Tryd.underlying25 rfl (infoId _ (by rw [idA_size, HB.out.h])) ?_)
      | ((with_reducible refine wpAt 54 ?_); refine loadM (by rfl) 25 _ rfl w.heap.size 34 rfl (idA a.p) _ HC.out.p Tryd.underlying25 rfl (infoId _ (by rw [idA_size, HA.out.p])) ?_)
      | ((with_reducible refine wpAt 57 ?_); refine loadM (by rfl) 25 _ rfl (w.heap.size + 1) 34 rfl (idA b.p) _ HD.out.p Tryd.underlying25 rfl (infoId _ (by rw [idA_size, HB.out.p])) ?_))
    go_ret
    exact ⟨bret HR.out.symm, HX.out⟩
  by_cases n5 : a.h = b.h
  rotate_left
  · have HR : Hid (decide (a = b) = false) := decide_eq_false (fun e => n5 (by rw [e]))
    have q0 : (a.k == b.k) = true := (beq_iff_eq.2 n0)
    have p0 : (a.k != b.k) = false := (by rw [bne_eq_false_iff_eq]; exact n0)
    have q1 : (a.b == b.b) = true := (beq_iff_eq.2 n1)
    have p1 : (a.b != b.b) = false := (by rw [bne_eq_false_iff_eq]; exact n1)
    have q2 : ∀ w, (Op.equalIn 10000 25 (.agg (idA a.id)) (.agg (idA b.id))).run Tryd.prog w = .ok true w := fun w => eqIdT w HA.out.id HB.out.id _ (beq_iff_eq.2 n2)
    have q3 : (a.n == b.n) = true := (beq_iff_eq.2 n3)
    have p3 : (a.n != b.n) = false := (by rw [bne_eq_false_iff_eq]; exact n3)
    have q4 : ∀ w, (Op.equalIn 10000 29 (.agg (u3L a).toArray) (.agg (u3L b).toArray)).run Tryd.prog w = .ok true w := fun w => eqU3T w _ (decide_eq_true n4)
    have q5 : ∀ w, (Op.equalIn 10000 25 (.agg (idA a.h)) (.agg (idA b.h))).run Tryd.prog w = .ok false w := fun w => eqIdT w HA.out.h HB.out.h _ (beq_eq_false_iff_ne.2 n5)
    clear n0 n1 n2 n3 n4 n5
    skip
    go_enter Tryd.func19, Tryd.ntmps19
    go_upto_region 1 with fail
    generalize (w.alloc (.cells (evA a pa ca qa ka) 31)).alloc (.cells (evA b pb cb qb kb) 31) = w1 at *
    skip
    go_wp2_with (first
      | ((with_reducible refine wpAt 23 ?_); refine loadM (by rfl) 25 _ rfl w.heap.size 67 rfl (idA a.id) _ HC.out.id Tryd.underlying25 rfl (infoId _ (by rw [idA_size, HA.out.id])) ?_)
      | ((with_reducible refine wpAt 25 ?_); refine loadM (by rfl) 25 _ rfl (w.heap.size + 1) 67 rfl (idA b.id) _ HD.out.id Tryd.underlying25 rfl (infoId _ (by rw [idA_size, HB.out.id])) ?_)
      | ((with_reducible refine wpAt 37 ?_); refine loadM (by rfl) 29 _ rfl w.heap.size 100 rfl (u3L a).toArray _ HC.out.us Tryd.underlying29 rfl (infoU3 _ rfl) ?_)
      | ((with_reducible refine wpAt 39 ?_); refine loadM (by rfl) 29 _ rfl (w.heap.size + 1) 100 rfl (u3L b).toArray _ HD.out.us Tryd.underlying29 rfl (infoU3 _ rfl) ?_)
      | ((with_reducible refine wpAt 45 ?_); refine loadM (by rfl) 25 _ rfl w.heap.size 2 rfl (idA a.h) _ HC.out.h Tryd.underlying25 rfl (infoId _ (by rw [idA_size, HA.out.h])) ?_)
      | ((with_reducible refine wpAt 48 ?_); refine loadM (by rfl) 25 _ rfl (w.heap.size + 1) 2 rfl (idA b.h) _ HD.out.h Tryd.underlying25 rfl (infoId _ (by rw [idA_size, HB.out.h])) ?_)
      | ((with_reducible refine wpAt 54 ?_); refine loadM (by rfl) 25 _ rfl w.heap.size 34 rfl (idA a.p) _ HC.out.p Tryd.underlying25 rfl (infoId _ (by rw [idA_size, HA.out.p])) ?_)
      | ((with_reducible refine wpAt 57 ?_); refine loadM (by rfl) 25 _ rfl (w.heap.size + 1) 34 rfl (idA b.p) _ HD.out.p Tryd.underlying25 rfl (infoId _ (by rw [idA_size, HB.out.p])) ?_))
    go_ret
    exact ⟨bret HR.out.symm, HX.out⟩
  by_cases n6 : a.p = b.p
  rotate_left
  · have HR : Hid (decide (a = b) = false) := decide_eq_false (fun e => n6 (by rw [e]))
    have q0 : (a.k == b.k) = true := (beq_iff_eq.2 n0)
    have p0 : (a.k != b.k) = false := (by rw [bne_eq_false_iff_eq]; exact n0)
    have q1 : (a.b == b.b) = true := (beq_iff_eq.2 n1)
    have p1 : (a.b != b.b) = false := (by rw [bne_eq_false_iff_eq]; exact n1)
    have q2 : ∀ w, (Op.equalIn 10000 25 (.agg (idA a.id)) (.agg (idA b.id))).run Tryd.prog w = .ok true w := fun w => eqIdT w HA.out.id HB.out.id _ (beq_iff_eq.2 n2)
    have q3 : (a.n == b.n) = true := (beq_iff_eq.2 n3)
    have p3 : (a.n != b.n) = false := (by rw [bne_eq_false_iff_eq]; exact n3)
    have q4 : ∀ w, (Op.equalIn 10000 29 (.agg (u3L a).toArray) (.agg (u3L b).toArray)).run Tryd.prog w = .ok true w := fun w => eqU3T w _ (decide_eq_true n4)
    have q5 : ∀ w, (Op.equalIn 10000 25 (.agg (idA a.h)) (.agg (idA b.h))).run Tryd.prog w = .ok true w := fun w => eqIdT w HA.out.h HB.out.h _ (beq_iff_eq.2 n5)
    have q6 : ∀ w, (Op.equalIn 10000 25 (.agg (idA a.p)) (.agg (idA b.p))).run Tryd.prog w = .ok false w := fun w => eqIdT w HA.out.p HB.out.p _ (beq_eq_false_iff_ne.2 n6)
    clear n0 n1 n2 n3 n4 n5 n6
    skip
    go_enter Tryd.func19, Tryd.ntmps19
    go_upto_region 1 with fail
    generalize (w.alloc (.cells (evA a pa ca qa ka) 31)).alloc (.cells (evA b pb cb qb kb) 31) = w1 at *
    skip
    go_wp2_with (first
      | ((with_reducible refine wpAt 23 ?_); refine loadM (by rfl) 25 _ rfl w.heap.size 67 rfl (idA a.id) _ HC.out.id Tryd.underlying25 rfl (infoId _ (by rw [idA_size, HA.out.id])) ?_)
      | ((with_reducible refine wpAt 25 ?_); refine loadM (by rfl) 25 _ rfl (w.heap.size + 1) 67 rfl (idA b.id) _ HD.out.id Tryd.underlying25 rfl (infoId _ (by rw [idA_size, HB.out.id])) ?_)
      | ((with_reducible refine wpAt 37 ?_); refine loadM (by rfl) 29 _ rfl w.heap.size 100 rfl (u3L a).toArray _ HC.out.us Tryd.underlying29 rfl (infoU3 _ rfl) ?_)
      | ((with_reducible refine wpAt 39 ?_); refine loadM (by rfl) 29 _ rfl (w.heap.size + 1) 100 rfl (u3L b).toArray _ HD.out.us Tryd.underlying29 rfl (infoU3 _ rfl) ?_)
      | ((with_reducible refine wpAt 45 ?_); refine loadM (by rfl) 25 _ rfl w.heap.size 2 rfl (idA a.h) _ HC.out.h Tryd.underlying25 rfl (infoId _ (by rw [idA_size, HA.out.h])) ?_)
      | ((with_reducible refine wpAt 48 ?_); refine loadM (by rfl) 25 _ rfl (w.heap.size + 1) 2 rfl (idA b.h) _ HD.out.h Tryd.underlying25 rfl (infoId _ (by rw [idA_size, HB.out.h])) ?_)
      | ((with_reducible refine wpAt 54 ?_); refine loadM (by rfl) 25 _ rfl w.heap.size 34 rfl (idA a.p) _ HC.out.p Tryd.underlying25 rfl (infoId _ (by rw [idA_size, HA.out.p])) ?_)
      | ((with_reducible refine wpAt 57 ?_); refine loadM (by rfl) 25 _ rfl (w.heap.size + 1) 34 rfl (idA b.p) _ HD.out.p Tryd.underlying25 rfl (infoId _ (by rw [idA_size, HB.out.p])) ?_))
    go_ret
    exact ⟨bret HR.out.symm, HX.out⟩
  have q0 : (a.k == b.k) = true := (beq_iff_eq.2 n0)
  have p0 : (a.k != b.k) = false := (by rw [bne_eq_false_iff_eq]; exact n0)
  have q1 : (a.b == b.b) = true := (beq_iff_eq.2 n1)
  have p1 : (a.b != b.b) = false := (by rw [bne_eq_false_iff_eq]; exact n1)
  have q2 : ∀ w, (Op.equalIn 10000 25 (.agg (idA a.id)) (.agg (idA b.id))).run Tryd.prog w = .ok true w := fun w => eqIdT w HA.out.id HB.out.id _ (beq_iff_eq.2 n2)
  have q3 : (a.n == b.n) = true := (beq_iff_eq.2 n3)
  have p3 : (a.n != b.n) = false := (by rw [bne_eq_false_iff_eq]; exact n3)
  have q4 : ∀ w, (Op.equalIn 10000 29 (.agg (u3L a).toArray) (.agg (u3L b).toArray)).run Tryd.prog w = .ok true w := fun w => eqU3T w _ (decide_eq_true n4)
  have q5 : ∀ w, (Op.equalIn 10000 25 (.agg (idA a.h)) (.agg (idA b.h))).run Tryd.prog w = .ok true w := fun w => eqIdT w HA.out.h HB.out.h _ (beq_iff_eq.2 n5)
  have q6 : ∀ w, (Op.equalIn 10000 25 (.agg (idA a.p)) (.agg (idA b.p))).run Tryd.prog w = .ok true w := fun w => eqIdT w HA.out.p HB.out.p _ (beq_iff_eq.2 n6)
  have HEQ : Hid (a.tx = b.tx ↔ a = b) := ⟨fun e => (ev_eq a b).2 ⟨n0, n1, n2, n3, n4, n5, n6, e⟩, fun e => by rw [e]⟩
  clear n0 n1 n2 n3 n4 n5 n6
  have ha := HAT.out.ids.sl.le
  have hb := HBT.out.ids.sl.le
  have ham := HAT.out.ids.sl.max
  have hbm := HBT.out.ids.sl.max
  by_cases n7 : a.tx.length = b.tx.length
  rotate_left
  · have HR : Hid (decide (a = b) = false) := decide_eq_false (fun e => n7 (by rw [e]))
    have q7 : ((a.tx.length : Int) == (b.tx.length : Int)) = false := beq_eq_false_iff_ne.2 (by omega)
    have p7 : ((a.tx.length : Int) != (b.tx.length : Int)) = true := bne_iff_ne.2 (by omega)
    have q8 : (a.tx.length == b.tx.length) = false := beq_eq_false_iff_ne.2 n7
    have p8 : (a.tx.length != b.tx.length) = true := bne_iff_ne.2 n7
    clear n7
    skip
    go_enter Tryd.func19, Tryd.ntmps19
    go_upto_region 1 with fail
    generalize (w.alloc (.cells (evA a pa ca qa ka) 31)).alloc (.cells (evA b pb cb qb kb) 31) = w1 at *
    skip
    go_wp2_with (first
      | ((with_reducible refine wpAt 23 ?_); refine loadM (by rfl) 25 _ rfl w.heap.size 67 rfl (idA a.id) _ HC.out.id Tryd.underlying25 rfl (infoId _ (by rw [idA_size, HA.out.id])) ?_)
      | ((with_reducible refine wpAt 25 ?_); refine loadM (by rfl) 25 _ rfl (w.heap.size + 1) 67 rfl (idA b.id) _ HD.out.id Tryd.underlying25 rfl (infoId _ (by rw [idA_size, HB.out.id])) ?_)
      | ((with_reducible refine wpAt 37 ?_); refine loadM (by rfl) 29 _ rfl w.heap.size 100 rfl (u3L a).toArray _ HC.out.us Tryd.underlying29 rfl (infoU3 _ rfl) ?_)
      | ((with_reducible refine wpAt 39 ?_); refine loadM (by rfl) 29 _ rfl (w.heap.size + 1) 100 rfl (u3L b).toArray _ HD.out.us Tryd.underlying29 rfl (infoU3 _ rfl) ?_)
      | ((with_reducible refine wpAt 45 ?_); refine loadM (by rfl) 25 _ rfl w.heap.size 2 rfl (idA a.h) _ HC.out.h Tryd.underlying25 rfl (infoId _ (by rw [idA_size, HA.out.h])) ?_)
      | ((with_reducible refine wpAt 48 ?_); refine loadM (by rfl) 25 _ rfl (w.heap.size + 1) 2 rfl (idA b.h) _ HD.out.h Tryd.underlying25 rfl (infoId _ (by rw [idA_size, HB.out.h])) ?_)
      | ((with_reducible refine wpAt 54 ?_); refine loadM (by rfl) 25 _ rfl w.heap.size 34 rfl (idA a.p) _ HC.out.p Tryd.underlying25 rfl (infoId _ (by rw [idA_size, HA.out.p])) ?_)
      | ((with_reducible refine wpAt 57 ?_); refine loadM (by rfl) 25 _ rfl (w.heap.size + 1) 34 rfl (idA b.p) _ HD.out.p Tryd.underlying25 rfl (infoId _ (by rw [idA_size, HB.out.p])) ?_))
    go_ret
    exact ⟨bret HR.out.symm, HX.out⟩
  have q7 : ((a.tx.length : Int) == (b.tx.length : Int)) = true := beq_iff_eq.2 (by omega)
  have p7 : ((a.tx.length : Int) != (b.tx.length : Int)) = false := by rw [bne_eq_false_iff_eq]; omega
  have q8 : (a.tx.length == b.tx.length) = true := beq_iff_eq.2 n7
  have p8 : (a.tx.length != b.tx.length) = false := by rw [bne_eq_false_iff_eq]; exact n7
  have HLN := Lib.hid n7
  have HDC := Lib.hid d7
  clear n7
  skip
  go_enter Tryd.func19, Tryd.ntmps19
  go_upto_region 1 with fail
  generalize (w.alloc (.cells (evA a pa ca qa ka) 31)).alloc (.cells (evA b pb cb qb kb) 31) = w1 at *
  skip
  go_upto_region 3 with (first
    | ((with_reducible refine wpAt 23 ?_); refine loadM (by rfl) 25 _ rfl w.heap.size 67 rfl (idA a.id) _ HC.out.id Tryd.underlying25 rfl (infoId _ (by rw [idA_size, HA.out.id])) ?_)
    | ((with_reducible refine wpAt 25 ?_); refine loadM (by rfl) 25 _ rfl (w.heap.size + 1) 67 rfl (idA b.id) _ HD.out.id Tryd.underlying25 rfl (infoId _ (by rw [idA_size, HB.out.id])) ?_)
    | ((with_reducible refine wpAt 37 ?_); refine loadM (by rfl) 29 _ rfl w.heap.size 100 rfl (u3L a).toArray _ HC.out.us Tryd.underlying29 rfl (infoU3 _ rfl) ?_)
    | ((with_reducible refine wpAt 39 ?_); refine loadM (by rfl) 29 _ rfl (w.heap.size + 1) 100 rfl (u3L b).toArray _ HD.out.us Tryd.underlying29 rfl (infoU3 _ rfl) ?_)
    | ((with_reducible refine wpAt 45 ?_); refine loadM (by rfl) 25 _ rfl w.heap.size 2 rfl (idA a.h) _ HC.out.h Tryd.underlying25 rfl (infoId _ (by rw [idA_size, HA.out.h])) ?_)
    | ((with_reducible refine wpAt 48 ?_); refine loadM (by rfl) 25 _ rfl (w.heap.size + 1) 2 rfl (idA b.h) _ HD.out.h Tryd.underlying25 rfl (infoId _ (by rw [idA_size, HB.out.h])) ?_)
    | ((with_reducible refine wpAt 54 ?_); refine loadM (by rfl) 25 _ rfl w.heap.size 34 rfl (idA a.p) _ HC.out.p Tryd.underlying25 rfl (infoId _ (by rw [idA_size, HA.out.p])) ?_)
    | ((with_reducible refine wpAt 57 ?_); refine loadM (by rfl) 25 _ rfl (w.heap.size + 1) 34 rfl (idA b.p) _ HD.out.p Tryd.underlying25 rfl (infoId _ (by rw [idA_size, HB.out.p])) ?_))
  clear q0 p0 q1 p1 q2 q3 p3 q4 q5 q6 q7 p7 q8 p8 c0 d0 c1 d1 c3 d3 v1 v2
  go_wp2_with fail
  have hzi := zeroId
  go_loopw [5, 6, 75] (fun _ _ j wr => ∃ k : Nat, k ≤ a.tx.length ∧ j = .int .i64 k ∧ a.tx.take k = b.tx.take k ∧ Below w1.heap.size w1 wr) (fun _ _ j _ => a.tx.length - (intOf j).toNat)
  case atStart => exact ⟨0, by omega, rfl, rfl, Below.refl _ _⟩
  case round =>
    obtain ⟨k, hk, rfl, heq, hbw⟩ := hrel
    have HTK := Lib.hid heq
    have HBW := Lib.hid hbw
    clear heq hbw
    by_cases hlt : k < a.tx.length
    · have hlt2 : k < b.tx.length := by rw [← HLN.out]; exact hlt
      have hd : decide ((k : Int) < (a.tx.length : Int)) = true := decide_eq_true (by omega)
      have hd2 : decide (k < a.tx.length) = true := decide_eq_true hlt
      obtain ⟨ba, oa, rfl⟩ := HAT.out.ids.sl.addr (by omega) (by omega)
      obtain ⟨bb, ob, rfl⟩ := HBT.out.ids.sl.addr (by omega) (by omega)
      have hx1 := HAT.out.ids
      have hx2 := HBT.out.ids
      have hr1 := hx1.range (by omega) k hlt
      have hr2 := hx2.range (by omega) k hlt2
      have HLA : Hid ((a.tx[k]'hlt).length = 32) := hx1.each _ (List.getElem_mem _)
      have HLB : Hid ((b.tx[k]'hlt2).length = 32) := hx2.each _ (List.getElem_mem _)
      have HST : Hid (a.tx[k]'hlt = b.tx[k]'hlt2 → a.tx.take (k + 1) = b.tx.take (k + 1)) := fun e => RR.take_eq_step HTK.out hlt hlt2 e
      have HNE : Hid (¬ a.tx[k]'hlt = b.tx[k]'hlt2 → decide (a = b) = false) := fun h => decide_eq_false (fun e => h (by subst e; rfl))
      generalize a.tx[k]'hlt = x at *
      generalize b.tx[k]'hlt2 = y at *
      have hb0 := box_below wr Z32 (idA x) 25
      have HBX := Lib.hid hb0
      have HRW := Lib.hid (box_row wr Z32 (idA x) 25)
      have HR1 := Lib.hid (range_below hr1 HBW.out)
      have HR2 := Lib.hid (range_below (range_below hr2 HBW.out) hb0)
      have hcb := HDC.out
      have d7b := cell_below (cell_below hcb HBW.out) hb0
      clear hx1 hx2 hr1 hr2 hb0 hcb
      go_upto_region 6 with (first
        | ((with_reducible refine wpAt 79 ?_); refine loadM (by rfl) 25 _ rfl ba (oa + k * 32) rfl (idA x) _ HR1.out Tryd.underlying25 rfl (infoId _ (by rw [idA_size, HLA.out])) ?_)
        | ((with_reducible refine wpStoreAt 6 ?_); refine wpList_store_row rfl 25 _ _ rfl wr.heap.size (idA x) rfl rfl 25 Z32 (box_new _ _ _) (infoId _ (by rw [idA_size, HLA.out])) (by rw [idA_size, HLA.out]; rfl) (idA_one _) ?_))
      generalize (wr.alloc (.cells Z32 25)).setRow wr.heap.size (idA x) = w5 at *
      have HB5 := Lib.hid (HBW.out.trans (HBX.out.mono HBW.out.size))
      have hr3 := row_rangeS HRW.out
      have HRG := Lib.hid (range_grown hr3)
      have HRH := Lib.hid (range_grown HR2.out)
      have hcg := cell_grown d7b
      clear hr3 d7b
      by_cases hxy : x = y
      · have hq : ∀ w, (Op.equalIn 10000 25 (.agg (idA x)) (.agg (idA y))).run Tryd.prog w = .ok true w := fun w => eqIdT w HLA.out HLB.out _ (beq_iff_eq.2 hxy)
        have HN := Lib.hid (HST.out hxy)
        clear hxy
        refine wp_region_grow (by kernel_rfl) (by kernel_rfl) ?_
        repeat (first
          | refine wpQuiet_load rfl 25 _ rfl wr.heap.size 0 rfl (idA x) _ HRG.out Tryd.underlying25 rfl (infoId _ (by rw [idA_size, HLA.out])) ?_
          | refine wpQuiet_load rfl 25 _ rfl bb (ob + k * 32) rfl (idA y) _ HRH.out Tryd.underlying25 rfl (infoId _ (by rw [idA_size, HLB.out])) ?_
          | quiet_step (fail))
        refine wpQuiet_nil ?_
        intro w3 hb3
        have HB6 := Lib.hid (HB5.out.trans (hb3.mono HB5.out.size))
        clear hb3 hq
        go_wp2_with fail
        go_roundw
        case rel => exact ⟨k + 1, by omega, by go_num, HN.out, HB6.out⟩
        case measure => simp [intOf]; omega
      · have hq : ∀ w, (Op.equalIn 10000 25 (.agg (idA x)) (.agg (idA y))).run Tryd.prog w = .ok false w := fun w => eqIdT w HLA.out HLB.out _ (beq_eq_false_iff_ne.2 hxy)
        have HN := Lib.hid (HNE.out hxy)
        clear hxy
        refine wp_region_grow (by kernel_rfl) (by kernel_rfl) ?_
        repeat (first
          | refine wpQuiet_load rfl 25 _ rfl wr.heap.size 0 rfl (idA x) _ HRG.out Tryd.underlying25 rfl (infoId _ (by rw [idA_size, HLA.out])) ?_
          | refine wpQuiet_load rfl 25 _ rfl bb (ob + k * 32) rfl (idA y) _ HRH.out Tryd.underlying25 rfl (infoId _ (by rw [idA_size, HLB.out])) ?_
          | quiet_step (fail))
        refine wpQuiet_nil ?_
        intro w3 hb3
        have HB6 := Lib.hid (HB5.out.trans (hb3.mono HB5.out.size))
        clear hb3 hq
        go_wp2_with fail
        go_ret
        exact ⟨bret HN.out.symm, HX.out.trans (HB6.out.mono HX.out.size)⟩
    · have HR : Hid (decide (a = b) = true) := by
        show _ = _
        have h1 := HTK.out
        rw [List.take_of_length_le (by omega), List.take_of_length_le (by rw [← HLN.out]; omega)] at h1
        exact decide_eq_true (HEQ.out.1 h1)
      have hd : decide ((k : Int) < (a.tx.length : Int)) = false := decide_eq_false (by omega)
      have hd2 : decide (k < a.tx.length) = false := decide_eq_false hlt
      go_wp2_with fail
      go_ret
      exact ⟨bret HR.out.symm, HX.out.trans (HBW.out.mono HX.out.size)⟩
end Go.Proofs.YtcddgbobbogpgaaDoor.Scr

namespace Go.Proofs.YtcddgbobbogpgaaDoor.Cut
open Go.RowKit Go.Mir Go.Mir.Parts

theorem own_bs {w : World} {base n : Nat} {p : Option Addr} {c : Nat} {l : List UInt8} (h : w.ownsRow base 5 1 (.slice p n c) n (bytesV l)) : Bs w p n c l := by
  obtain ⟨p9, c9, e9, h9⟩ := own_sl h
  cases e9
  exact h9
end Go.Proofs.YtcddgbobbogpgaaDoor.Cut

namespace Go.Proofs.YtcddgbobbogpgaaDoor.Cut
open Go.RowKit Go.Mir Go.Mir.Parts

structure Ls (w : World) (base : Nat) (v : Value) (ls : List (List UInt8)) : Prop where
  all : ∃ hs : List Value, w.ownsRow base 23 1 v ls.length hs ∧ ∀ j (h : j < ls.length), ∃ q k, hs[j]? = some (.slice q ls[j].length k) ∧ Bs w q ls[j].length k ls[j] ∧ (∀ a, q = some a → 0 < ls[j].length → ¬ v.ownBlock = some a.block)
theorem Ls.nil (w : World) (base : Nat) : Ls w base (.slice none 0 0) [] := ⟨[], World.ownsRow_nil _ _ _ _, fun j h => by simp at h⟩
theorem Ls.below {w w' : World} {base : Nat} {v : Value} {ls : List (List UInt8)} (h : Ls w base v ls) (hb : Below w.heap.size w w') : Ls w' base v ls := by
  obtain ⟨hs, h1, h2⟩ := h.all
  exact ⟨hs, own_touch h1 (Turns.of_below (S := fun _ => False) hb) (fun _ _ h => h), fun j hj => by
    obtain ⟨q, k, a, b, c⟩ := h2 j hj
    exact ⟨q, k, a, b.below hb, c⟩⟩
theorem Ls.low {w : World} {base base' : Nat} {v : Value} {ls : List (List UInt8)} (h : Ls w base v ls) (hb : base' ≤ base) : Ls w base' v ls := by
  obtain ⟨hs, h1, h2⟩ := h.all
  exact ⟨hs, own_base h1 (fun k hk => by have := (h1.lt k hk).1; omega), h2⟩
theorem Ls.sl {w : World} {base : Nat} {v : Value} {ls : List (List UInt8)} (h : Ls w base v ls) : ∃ p c, v = .slice p ls.length c ∧ Pts w p ls.length c ls := by
  obtain ⟨hs, h1, h2⟩ := h.all
  obtain ⟨p, c, rfl, hS⟩ := own_sl h1
  refine ⟨p, c, rfl, rfl, hS.le, hS.max, hS.nil0, fun a ha j hj => ?_⟩
  obtain ⟨q, k, e1, e2, _⟩ := h2 j hj
  exact ⟨q, _, k, hS.cell a ha j _ e1, e2⟩
/-- a block of bytes is none of slices -/
theorem no_own {w : World} {base : Nat} {v : Value} {n : Nat} {hs : List Value} (h1 : w.ownsRow base 23 1 v n hs) {b2 m c : Nat} {q : Option Addr} {ys : List Value} (h2 : w.ownsRow b2 5 1 (.slice q m c) m ys) : ∀ a, q = some a → ¬ v.ownBlock = some a.block := fun a ha hv => by
  subst ha
  rcases h1.2 with ⟨rfl, _⟩ | ⟨g, cap, cur, rfl, _, hg, _⟩
  · cases hv
  · rcases h2.2 with ⟨hx, _⟩ | ⟨g2, cap2, cur2, hx, _, hg2, _⟩
    · cases hx
    · cases hx
      simp only [Value.ownBlock, Option.some.injEq] at hv
      rw [← hv, hg] at hg2
      injection hg2 with e1
      injection e1 with _ e2
      revert e2
      decide
/-- one more: behind an append onto it -/
theorem Ls.push {w w0 w1 : World} {base : Nat} {v : Value} {ls : List (List UInt8)} {hs : List Value} {p' : Option Addr} {c' : Nat} {q : Option Addr} {k : Nat} {x : List UInt8}
    (h1 : w.ownsRow base 23 1 v ls.length hs) (h2 : ∀ j (h : j < ls.length), ∃ q k, hs[j]? = some (.slice q ls[j].length k) ∧ Bs w q ls[j].length k ls[j] ∧ (∀ a, q = some a → 0 < ls[j].length → ¬ v.ownBlock = some a.block))
    (hb : Below w.heap.size w w0) (hx : Bs w q x.length k x) (hq : ∀ a, q = some a → 0 < x.length → ¬ v.ownBlock = some a.block)
    (ho : w1.ownsRow base 23 1 (.slice p' (ls.length + 1) c') (ls.length + 1) (hs ++ [.slice q x.length k])) (hg : w0.grownBy w1 v.ownBlock)
    (hn : ∀ i, (Value.slice p' (ls.length + 1) c').ownBlock = some i → v.ownBlock = some i ∨ i = w0.heap.size) : Ls w1 base (.slice p' (ls.length + 1) c') (ls ++ [x]) := by
  have hl : hs.length = ls.length := by have := h1.1; simpa using this
  have ht : Turns (fun i => v.ownBlock = some i) w0 w1 := Turns.grown hg (fun k hk => hk)
  have key : ∀ (q : Option Addr) (k : Nat) (y : List UInt8), Bs w q y.length k y → (∀ a, q = some a → 0 < y.length → ¬ v.ownBlock = some a.block) → Bs w1 q y.length k y ∧ (∀ a, q = some a → 0 < y.length → ¬ (Value.slice p' (ls.length + 1) c').ownBlock = some a.block) := fun q k y hB hne => by
    by_cases hy : 0 < y.length
    · obtain ⟨b, o, rfl⟩ := hB.addr hy (by omega)
      have hlt : b < w.heap.size := block_lt_of_cell (Bs.byte hB (j := 0) hy)
      refine ⟨(hB.below hb).touch ht (fun a ha _ => hne a ha hy), fun a ha hy he => ?_⟩
      rcases hn _ he with h | h
      · exact hne a ha hy h
      · obtain rfl := Option.some.inj ha
        have := hb.size
        simp only at h
        omega
    · have hy0 : y = [] := List.length_eq_zero_iff.1 (by omega)
      subst hy0
      exact ⟨⟨rfl, hB.le, hB.max, hB.nil0, fun a ha j u hu => by simp [bytesV] at hu⟩, fun a ha h => by simp at h⟩
  refine ⟨_, by rw [List.length_append]; exact ho, fun j hj => ?_⟩
  rw [List.length_append, List.length_singleton] at hj
  by_cases hj2 : j < ls.length
  · obtain ⟨q1, k1, e1, e2, e3⟩ := h2 j hj2
    have := key q1 k1 _ e2 e3
    refine ⟨q1, k1, ?_, ?_, ?_⟩
    · rw [List.getElem?_append_left (by omega), List.getElem_append_left hj2]; exact e1
    · rw [List.getElem_append_left hj2]; exact this.1
    · rw [List.getElem_append_left hj2]; exact this.2
  · obtain rfl : j = ls.length := by omega
    have := key q k x hx hq
    refine ⟨q, k, ?_, ?_, ?_⟩
    · rw [List.getElem?_append_right (by omega), hl, Nat.sub_self]
      simp
    · simpa using this.1
    · simpa using this.2
/-- the same, where each element is the call's own, too -/
structure LsO (w : World) (base : Nat) (v : Value) (ls : List (List UInt8)) : Prop where
  all : ∃ hs : List Value, w.ownsRow base 23 1 v ls.length hs ∧ ∀ j (h : j < ls.length), ∃ q k, hs[j]? = some (.slice q ls[j].length k) ∧ w.ownsRow base 5 1 (.slice q ls[j].length k) ls[j].length (bytesV ls[j])
theorem LsO.nil (w : World) (base : Nat) : LsO w base (.slice none 0 0) [] := ⟨[], World.ownsRow_nil _ _ _ _, fun j h => by simp at h⟩
theorem LsO.ls {w : World} {base : Nat} {v : Value} {ls : List (List UInt8)} (h : LsO w base v ls) : Ls w base v ls := by
  obtain ⟨hs, h1, h2⟩ := h.all
  exact ⟨hs, h1, fun j hj => by
    obtain ⟨q, k, a, b⟩ := h2 j hj
    exact ⟨q, k, a, own_bs b, fun ad ha _ => no_own h1 b ad ha⟩⟩
theorem LsO.below {w w' : World} {base : Nat} {v : Value} {ls : List (List UInt8)} (h : LsO w base v ls) (hb : Below w.heap.size w w') : LsO w' base v ls := by
  obtain ⟨hs, h1, h2⟩ := h.all
  exact ⟨hs, own_touch h1 (Turns.of_below (S := fun _ => False) hb) (fun _ _ h => h), fun j hj => by
    obtain ⟨q, k, a, b⟩ := h2 j hj
    exact ⟨q, k, a, own_touch b (Turns.of_below (S := fun _ => False) hb) (fun _ _ h => h)⟩⟩
theorem LsO.push {w w1 : World} {base : Nat} {v v' : Value} {ls : List (List UInt8)} {hs : List Value} {q : Option Addr} {k : Nat} {x : List UInt8} {tmp : Obj}
    (h1 : w.ownsRow base 23 1 v ls.length hs) (h2 : ∀ j (h : j < ls.length), ∃ q k, hs[j]? = some (.slice q ls[j].length k) ∧ w.ownsRow base 5 1 (.slice q ls[j].length k) ls[j].length (bytesV ls[j]))
    (hx : w.ownsRow base 5 1 (.slice q x.length k) x.length (bytesV x))
    (ho : w1.ownsRow base 23 1 v' (ls.length + 1) (hs ++ [.slice q x.length k])) (hg : (w.alloc tmp).grownBy w1 v.ownBlock) : LsO w1 base v' (ls ++ [x]) := by
  have hl : hs.length = ls.length := by have := h1.1; simpa using this
  have ht : Turns (fun i => v.ownBlock = some i) w w1 := (Turns.of_below (Below.allocs w tmp)).trans (Turns.grown hg (fun k hk => hk)) (fun _ _ h => h)
  have key : ∀ (q : Option Addr) (k : Nat) (y : List UInt8), w.ownsRow base 5 1 (.slice q y.length k) y.length (bytesV y) → w1.ownsRow base 5 1 (.slice q y.length k) y.length (bytesV y) := fun q k y hy =>
    own_touch hy ht (fun i hi he => by
      cases q with
      | none => simp [Value.ownBlock] at hi
      | some a => simp only [Value.ownBlock, Option.some.injEq] at hi; exact no_own h1 hy a rfl (by rw [hi]; exact he))
  refine ⟨_, by rw [List.length_append]; exact ho, fun j hj => ?_⟩
  rw [List.length_append, List.length_singleton] at hj
  by_cases hj2 : j < ls.length
  · obtain ⟨q1, k1, e1, e2⟩ := h2 j hj2
    refine ⟨q1, k1, ?_, ?_⟩
    · rw [List.getElem?_append_left (by omega), List.getElem_append_left hj2]; exact e1
    · rw [List.getElem_append_left hj2]; exact key q1 k1 _ e2
  · obtain rfl : j = ls.length := by omega
    refine ⟨q, k, ?_, ?_⟩
    · rw [List.getElem?_append_right (by omega), hl, Nat.sub_self]
      simp
    · simpa using key q k x hx
theorem LsO.set {w : World} {base : Nat} {v : Value} {ls : List (List UInt8)} {B : Nat} {t : TypeId} {u : Value} (h : LsO w base v ls) (hb : w.heap[B]? = some (.cells #[u] t (0, 0))) (h1 : t ≠ 23) (h2 : t ≠ 5) (u' : Value) : LsO (w.setCell ⟨B, 0, none⟩ u') base v ls := by
  have ht : Turns (fun i => i = B) w (w.setCell ⟨B, 0, none⟩ u') := (Turns.refl (fun i => i = B) w).setCell (p := ⟨B, 0, none⟩) (fun _ => rfl) u'
  have ne : ∀ {n size e : Nat} {x : Value} {vs : List Value}, w.ownsRow base e size x n vs → t ≠ e → ∀ i, x.ownBlock = some i → ¬ i = B := fun {n size e x vs} ho hte i hi he => by
    subst he
    rcases ho.2 with ⟨rfl, _⟩ | ⟨g, cap, cur, rfl, _, hg, _⟩
    · cases hi
    · simp only [Value.ownBlock, Option.some.injEq] at hi
      rw [hi, hb] at hg
      injection hg with e1
      injection e1 with _ e2
      exact hte e2
  obtain ⟨hs, a, b⟩ := h.all
  exact ⟨hs, own_touch a ht (ne a h1), fun j hj => by
    obtain ⟨q, k, c, d⟩ := b j hj
    exact ⟨q, k, c, own_touch d ht (ne d h2)⟩⟩
/-- the same, where the elements lay ahead (in w0) -/
structure LsA (w0 w : World) (base : Nat) (v : Value) (ls : List (List UInt8)) : Prop where
  all : ∃ hs : List Value, w.ownsRow base 23 1 v ls.length hs ∧ ∀ j (h : j < ls.length), ∃ q k, hs[j]? = some (.slice q ls[j].length k) ∧ Bs w0 q ls[j].length k ls[j]
theorem LsA.nil (w0 w : World) (base : Nat) : LsA w0 w base (.slice none 0 0) [] := ⟨[], World.ownsRow_nil _ _ _ _, fun j h => by simp at h⟩
theorem LsA.touch {S : Nat → Prop} {w0 w w' : World} {base : Nat} {v : Value} {ls : List (List UInt8)} (h : LsA w0 w base v ls) (ht : Turns S w w') (hv : ∀ k, v.ownBlock = some k → ¬ S k) : LsA w0 w' base v ls := by
  obtain ⟨hs, h1, h2⟩ := h.all
  exact ⟨hs, own_touch h1 ht hv, h2⟩
theorem LsA.below {w0 w w' : World} {base : Nat} {v : Value} {ls : List (List UInt8)} (h : LsA w0 w base v ls) (hb : Below w.heap.size w w') : LsA w0 w' base v ls := h.touch (Turns.of_below (S := fun _ => False) hb) (fun _ _ h => h)
theorem LsA.push {w0 w w1 : World} {base : Nat} {v v' : Value} {ls : List (List UInt8)} {hs : List Value} {q : Option Addr} {k : Nat} {x : List UInt8}
    (h1 : w.ownsRow base 23 1 v ls.length hs) (h2 : ∀ j (h : j < ls.length), ∃ q k, hs[j]? = some (.slice q ls[j].length k) ∧ Bs w0 q ls[j].length k ls[j]) (hx : Bs w0 q x.length k x)
    (ho : w1.ownsRow base 23 1 v' (ls.length + 1) (hs ++ [.slice q x.length k])) : LsA w0 w1 base v' (ls ++ [x]) := by
  have hl : hs.length = ls.length := by have := h1.1; simpa using this
  refine ⟨_, by rw [List.length_append]; exact ho, fun j hj => ?_⟩
  rw [List.length_append, List.length_singleton] at hj
  by_cases hj2 : j < ls.length
  · obtain ⟨q1, k1, e1, e2⟩ := h2 j hj2
    refine ⟨q1, k1, ?_, ?_⟩
    · rw [List.getElem?_append_left (by omega), List.getElem_append_left hj2]; exact e1
    · rw [List.getElem_append_left hj2]; exact e2
  · obtain rfl : j = ls.length := by omega
    refine ⟨q, k, ?_, ?_⟩
    · rw [List.getElem?_append_right (by omega), hl, Nat.sub_self]
      simp
    · simpa using hx
theorem LsA.sl {w0 w : World} {base : Nat} {v : Value} {ls : List (List UInt8)} (h : LsA w0 w base v ls) (hb : Below w0.heap.size w0 w) : ∃ p c, v = .slice p ls.length c ∧ Pts w p ls.length c ls := by
  obtain ⟨hs, h1, h2⟩ := h.all
  obtain ⟨p, c, rfl, hS⟩ := own_sl h1
  refine ⟨p, c, rfl, rfl, hS.le, hS.max, hS.nil0, fun a ha j hj => ?_⟩
  obtain ⟨q, k, e1, e2⟩ := h2 j hj
  exact ⟨q, _, k, hS.cell a ha j _ e1, e2.below hb⟩
end Go.Proofs.YtcddgbobbogpgaaDoor.Cut

namespace Go.Proofs.YtcddgbobbogpgaaDoor.Scr
open Go.RowKit Go.Mir Go.Mir.Hx Go.Mir.Parts HexW Rpl

theorem join_le (ws : List (List UInt8)) (m : Nat) (h : ∀ x ∈ ws, x.length ≤ m) : (Go.Lib.join ws [32]).length ≤ ws.length * (m + 1) := by
  cases ws with
  | nil => rw [Go.Lib.join_nil]; exact Nat.zero_le _
  | cons x r =>
    rw [Go.Lib.join_cons, List.length_append, Go.Lib.joinTail_length, List.length_cons]
    have h1 := h x List.mem_cons_self
    have h2 : Go.Lib.lens r ≤ r.length * m := by
      have hr : ∀ y ∈ r, y.length ≤ m := fun y hy => h y (List.mem_cons_of_mem _ hy)
      clear h h1
      induction r with
      | nil => exact Nat.zero_le _
      | cons y r ih =>
        have := ih (fun z hz => hr z (List.mem_cons_of_mem _ hz))
        have h3 := hr y List.mem_cons_self
        show y.length + Go.Lib.lens r ≤ (r.length + 1) * m
        rw [Nat.add_mul]; omega
    show x.length + ([32].length * r.length + Go.Lib.lens r) ≤ (r.length + 1) * (m + 1)
    rw [Nat.add_mul, Nat.mul_add]
    show x.length + (1 * r.length + Go.Lib.lens r) ≤ _
    omega
theorem infoStr : (Tryd.prog.info? 9).map (fun i => (i.zero, i.size, i.bytes)) = some (some (.string ⟨#[]⟩), 1, 16) := by kernel_rfl
theorem own_ws {w : World} {base t : Nat} {p : Option Addr} {n c : Nat} {ls : List (List UInt8)} (h : w.ownsRow base t 1 (.slice p n c) n (strV ls)) : Ws w p n c ls := by
  obtain ⟨p', c', he, hs⟩ := own_sl h
  cases he
  exact hs
theorem strV_app (a b : List (List UInt8)) : strV (a ++ b) = strV a ++ strV b := by simp [strV]
/-- numbers in memory -/
def Zs (w : World) (p : Option Addr) (n c : Nat) (l : List Int) : Prop := Sl w p n c 1 (l.map (Value.int .i64))
theorem Zs.below {w w' : World} {p : Option Addr} {n c : Nat} {l : List Int} (h : Zs w p n c l) (hb : Below w.heap.size w w') : Zs w' p n c l := Sl.below h hb
theorem Zs.length {w : World} {p : Option Addr} {n c : Nat} {l : List Int} (h : Zs w p n c l) : l.length = n := by have := h.len; simpa using this
theorem Zs.at {w : World} {b o : Nat} {n c : Nat} {l : List Int} (h : Zs w (some ⟨b, o, none⟩) n c l) (j : Nat) (hj : j < l.length) : w.cell? ⟨b, o + j, none⟩ = some (.int .i64 l[j]) := Sl.at h (by simp [hj])
theorem Zs.lit (w : World) (t : TypeId) (l : List Int) (hl : l.length ≤ 65536) : Zs (w.alloc (.cells (l.map (Value.int .i64)).toArray t)) (some ⟨w.heap.size, 0, none⟩) l.length l.length l :=
  ⟨by simp, Nat.le_refl _, by omega, fun h => (by cases h), fun a ha j u hu => by
    obtain rfl := Option.some.inj ha
    rw [add_none, Nat.zero_add, cell_of_row _ _ _ _ _ _ (heap_alloc_last _ _), ← Array.getElem?_toList]
    exact hu⟩
def okZ (bnd : Int) (l : List Int) : Prop := ∀ x ∈ l, 0 ≤ x ∧ x ≤ bnd
instance (bnd : Int) (l : List Int) : Decidable (okZ bnd l) := by unfold okZ; infer_instance
def decs (l : List Int) : List (List UInt8) := l.map fun x => decL x.toNat
def NumsP (bnd : Int) (l : List Int) (w : World) (e : Ending) (w' : World) : Prop := Below w.heap.size w w' ∧
  ((okZ bnd l ∧ ∃ p c, e = .returned (.tuple #[.slice p l.length c, .bool true]) ∧ w'.ownsRow w.heap.size 9 1 (.slice p l.length c) l.length (strV (decs l))) ∨ (¬ okZ bnd l ∧ e = .returned (.tuple #[.slice none 0 0, .bool false])))
set_option maxRecDepth 100000 in
set_option maxHeartbeats 3200000 in
theorem nums_any (bnd : Int) (hbd : 0 ≤ bnd ∧ bnd ≤ 1000000) (q : Option Addr) (n c : Nat) (l : List Int) (w : World) (hN : Zs w q n c l) (hn : n ≤ 1000) :
    Calls Tryd.prog 24 #[.int .i64 bnd, .slice q n c] w (NumsP bnd l w) := by
  have HZS := Lib.hid hN
  have HBD := Lib.hid hbd
  obtain rfl : l.length = n := hN.length
  have hle := hN.le
  have hmax := hN.max
  clear hN
  go_enter Tryd.func24, Tryd.ntmps24
  go_wp2_with fail
  go_loopw [6, 8, 11] (fun v _ j wr => ∃ (i : Nat) (p : Option Addr) (k : Nat), i ≤ l.length ∧ j = .int .i64 i ∧ v = .slice p i k ∧ wr.ownsRow w.heap.size 9 1 v i (strV (decs (l.take i))) ∧ okZ bnd (l.take i) ∧ Below w.heap.size w wr) (fun _ _ j _ => l.length - (intOf j).toNat)
  case atStart => exact ⟨0, none, 0, by omega, rfl, rfl, World.ownsRow_nil _ _ _ _, fun x hx => by simp at hx, Below.refl _ _⟩
  case round =>
    obtain ⟨i, p, k, hi, rfl, rfl, ho, hok, hb⟩ := hrel
    have HO := Lib.hid ho
    have HOK := Lib.hid hok
    have HB := Lib.hid hb
    clear ho hok hb
    by_cases hlt : i < l.length
    · have hd : decide ((i : Int) < (l.length : Int)) = true := decide_eq_true (by omega)
      have hd2 : decide (i < l.length) = true := decide_eq_true hlt
      obtain ⟨b, o, rfl⟩ := HZS.out.addr (by omega) (by omega)
      have hcx := cell_below (HZS.out.at i hlt) HB.out
      have HTK : Hid (l.take (i + 1) = l.take i ++ [l[i]]) := List.take_succ_eq_append_getElem hlt
      have HMEM : Hid (l[i] ∈ l) := List.getElem_mem hlt
      generalize l[i] = x at *
      by_cases h0 : 0 ≤ x ∧ x ≤ bnd
      · obtain ⟨v, rfl⟩ : ∃ v : Nat, x = (v : Int) := ⟨x.toNat, by omega⟩
        have d0 : decide ((v : Int) < 0) = false := decide_eq_false (by omega)
        have d1 : decide (bnd < (v : Int)) = false := decide_eq_false (by omega)
        have hw : IntKind.u64.wrap (v : Int) = (v : Int) := by rw [IntKind.wrap_u64]; have := HBD.out; omega
        have HOK2 : Hid (okZ bnd (l.take (i + 1))) := by
          intro y hy
          rw [HTK.out, List.mem_append, List.mem_singleton] at hy
          rcases hy with hy | rfl
          · exact HOK.out y hy
          · exact h0
        have HDC : Hid (decs (l.take (i + 1)) = decs (l.take i) ++ [decL v]) := by
          show _ = _
          rw [HTK.out]
          unfold decs
          rw [List.map_append]; rfl
        have HNUM := Lib.hid (num_any v wr (by have := HBD.out; omega))
        clear h0
        go_wp2_with fail
        refine HNUM.out.mono ?_
        rintro e w6 ⟨rfl, hb6⟩
        have HO6 := Lib.hid (own_touch HO.out (Turns.of_below (S := fun _ => False) hb6) (fun _ _ h => h))
        have HB6 := Lib.hid (HB.out.trans (hb6.mono HB.out.size))
        clear hb6 HNUM hcx
        have hB7 := Below.allocs w6 (.cells #[.string (S (decL v))] 9)
        have HO7 := Lib.hid (own_touch HO6.out (Turns.of_below (S := fun _ => False) hB7) (fun _ _ h => h))
        have HX7 : Hid (Ws (w6.alloc (.cells #[.string (S (decL v))] 9)) (some ⟨w6.heap.size, 0, none⟩) 1 1 [decL v]) := Ws.row (ls := [decL v]) (heap_alloc_last w6 _) rfl (by show 1 ≤ _; omega)
        have HB7 := Lib.hid (HB6.out.trans (hB7.mono HB6.out.size))
        have HS7 : Hid (w.heap.size ≤ (w6.alloc (.cells #[.string (S (decL v))] 9)).heap.size) := HB7.out.size
        clear HO6 HB6 hB7
        go_wp2_with (at_builtin; refine wpList_append_nx rfl _ _ 65 rfl (base := w.heap.size) Tryd.underlying65 infoStr rfl (by omega) rfl HO7.out rfl HX7.out (strV_one _) ⟨by omega, by omega⟩ HS7.out ?_)
        intro p' c' w8 ho8 hgr hnx _
        have hb8 := own_below HO7.out hgr HS7.out
        have HB8 := Lib.hid (HB7.out.trans hb8)
        have HO8 : Hid (w8.ownsRow w.heap.size 9 1 (.slice p' (i + 1) c') (i + 1) (strV (decs (l.take (i + 1))))) := by
          show World.ownsRow _ _ _ _ _ _ _
          rw [HDC.out, strV_app]
          exact ho8
        clear ho8 hgr hnx hb8 HO7 HX7 HB7 HS7
        go_wp2_with fail
        go_roundw
        case rel => exact ⟨i + 1, p', c', by omega, by go_num, rfl, HO8.out, HOK2.out, HB8.out⟩
        case measure => simp [intOf]; omega
      · have HBAD : Hid (¬ okZ bnd l) := fun h => h0 (h x HMEM.out)
        by_cases h1 : x < 0
        · have d0 : decide (x < 0) = true := decide_eq_true h1
          clear h0 h1
          go_wp2_with fail
          go_ret2
          exact ⟨HB.out, .inr ⟨HBAD.out, rfl⟩⟩
        · have d0 : decide (x < 0) = false := decide_eq_false h1
          have d1 : decide (bnd < x) = true := decide_eq_true (by omega)
          clear h0 h1
          go_wp2_with fail
          go_ret2
          exact ⟨HB.out, .inr ⟨HBAD.out, rfl⟩⟩
    · have hd : decide ((i : Int) < (l.length : Int)) = false := decide_eq_false (by omega)
      have hd2 : decide (i < l.length) = false := decide_eq_false hlt
      obtain rfl : i = l.length := by omega
      rw [List.take_length] at HO HOK
      go_wp2_with fail
      go_ret2
      exact ⟨HB.out, .inl ⟨HOK.out, p, k, rfl, HO.out⟩⟩
end Go.Proofs.YtcddgbobbogpgaaDoor.Scr

namespace Go.Proofs.YtcddgbobbogpgaaDoor.Scr
open Go.RowKit Go.Mir Go.Mir.Hx Go.Mir.Parts HexW Rpl

theorem zero_i64 : i64B 0 := ⟨by decide, by decide⟩
set_option maxRecDepth 100000 in
set_option maxHeartbeats 1600000 in
theorem only1 (b hh p : List UInt8) (tx : List (List UInt8)) (id : List UInt8) (n u0 u1 u2 : Int) (pb : Option Addr) (cb : Nat) (q : Option Addr) (c : Nat) (w : World) (h : EvAt w ⟨1, b, hh, p, tx, id, n, u0, u1, u2⟩ pb cb q c) :
    Calls Tryd.prog 20 #[.agg (evA ⟨1, b, hh, p, tx, id, n, u0, u1, u2⟩ pb cb q c)] w (EvP ⟨1, b, zeros, zeros, [], zeros, 0, 0, 0, 0⟩ w) := by
  have HIN := Lib.hid h
  skip
  -- up to the switch; the new event's row HEW at world w3, its box g3; the kind 1
  have hz := zeroE
  obtain ⟨a1, a2, a3, a4⟩ := Go.Mir.two_allocs w (.cells (evA ⟨1, b, hh, p, tx, id, n, u0, u1, u2⟩ pb cb q c) 31) (.cells zE 31)
  have HC := Lib.hid (ev_row h.wf a1)
  have HB := Lib.hid a4
  have HZ := Lib.hid a2
  have HR1 := Lib.hid a1
  have HAT := Lib.hid (h.below a4)
  have hk : _ = some (Value.int .i64 1) := HC.out.k
  have HS3 := Lib.hid a3
  have HWF := Lib.hid h.wf
  obtain ⟨A, hA⟩ : ∃ A, A = evA ⟨1, b, hh, p, tx, id, n, u0, u1, u2⟩ pb cb q c := ⟨_, rfl⟩
  rw [← hA]
  rw [← hA] at HC HB HZ hk HAT HS3 HR1
  have HAE := Lib.hid hA
  clear a1 a2 a3 a4 h hA
  go_enter Tryd.func20, Tryd.ntmps20
  go_upto_region 1 with fail
  generalize (w.alloc (.cells A 31)).alloc (.cells zE 31) = w1 at *
  have hal := Below.allocs w1 (.cells zE 31)
  have hnew := heap_alloc_last w1 (.cells zE 31)
  have NEW := Lib.hid hnew
  have HK0 : Hid (i64B 1) := ⟨by decide, by decide⟩
  obtain ⟨Z3, hZ3⟩ : ∃ Z3, Z3 = evA (Ev.zero 1) none 0 none 0 := ⟨_, rfl⟩
  have hbl := below_setRow hal (Nat.le_refl _) Z3
  have HEW : Hid (EW ((w1.alloc (.cells zE 31)).setRow w1.heap.size Z3) w1.heap.size 31 (Ev.zero 1) none 0 none 0 ((w1.alloc (.cells zE 31)).setRow w1.heap.size Z3)) := ⟨by rw [← hZ3]; exact setRow_heap _ _ _ _ _ _ hnew, zero_wf HK0.out, Turns.refl _ _⟩
  have HZS : Hid (Z3.size = 103 ∧ Z3.all (·.oneCell') = true) := by show _ ∧ _; rw [hZ3]; exact ⟨evA_size (zero_wf HK0.out) _ _ _ _, evA_one _ _ _ _ _⟩
  have hbu := built_ek 1
  rw [← hZ3] at hbu
  have HBU := Lib.hid hbu
  have hkk := cell_below hk hbl
  have HR3 := Lib.hid (Below.keepOld hbl HR1.out)
  have HZ3 := Lib.hid (Below.keepOld hbl HZ.out)
  have HB3 := Lib.hid (HB.out.trans (hbl.mono HB.out.size))
  have HG3 : Hid (w.heap.size + 2 ≤ w1.heap.size) := by show _ ≤ _; rw [HS3.out]; exact Nat.le_refl _
  have HAT3 := Lib.hid (HAT.out.below hbl)
  clear hal hnew hbl hZ3 hbu
  go_upto_region 3 with (first
    | refine Rdr.wpList_build rfl 31 _ rfl [(0, .int .i64 1)] rfl _ HBU.out ?_
    | ((with_reducible refine wpStoreAt 3 ?_); refine wpList_store_row rfl 31 _ _ rfl w1.heap.size Z3 rfl rfl 31 zE NEW.out (infoE _ HZS.out.1) (by rw [HZS.out.1]; exact zE_size) HZS.out.2 ?_))
  try simp only [Act.put, List.setIfInBounds_toArray, List.set_cons_zero, List.set_cons_succ]
  clear hk hkk NEW HBU HZS HC HB HZ HR1 HAT HS3
  generalize (w1.alloc (.cells zE 31)).setRow w1.heap.size Z3 = w3 at *
  generalize w1.heap.size = g3 at *
  rw [HAE.out] at HR3
  have HC3 := Lib.hid (ev_row HWF.out HR3.out)
  have hfz : ∀ j, w3.frozen? ⟨g3, j, none⟩ = false := fun j => HEW.out.frozen j
  have hE1 : w3.cell? ⟨g3, 1, none⟩ = some (.slice none 0 0) := HEW.out.cells.b
  have hE99 : w3.cell? ⟨g3, 99, none⟩ = some (.int .i64 0) := HEW.out.cells.n
  have hP1 : w3.cell? ⟨w.heap.size, 1, none⟩ = some (.slice pb b.length cb) := HC3.out.b
  have hP99 : w3.cell? ⟨w.heap.size, 99, none⟩ = some (.int .i64 n) := HC3.out.n
  have HEX := Lib.hid (HEW.out.bytes b pb cb)
  go_upto_region 14 with fail
  clear hfz hE1 hE99 hP1 hP99
  generalize w3.setCell ⟨g3, 1, none⟩ (.slice pb b.length cb) = wX at *
  skip
  -- the event is told: world wX; HEX : Hid (EW w3 g3 .. ⟨1, b, zeros, zeros, [], zeros, 0, 0, 0, 0⟩ pb cb none 0 wX)
  have hbx := HEX.out.turn.below HB3.out.size (fun k hk => by have hk : k = g3 := hk; have := HG3.out; omega)
  have HBX := Lib.hid (HB3.out.trans hbx)
  have hzx := HEX.out.turn.keep HZ3.out (by show ¬ w.heap.size + 1 = g3; have := HG3.out; omega)
  have HZX := Lib.hid hzx
  have HRX : Hid ((wX).heap[g3]? = some (.cells (evA (⟨1, b, zeros, zeros, [], zeros, 0, 0, 0, 0⟩) pb cb none 0) 31 (0, 0))) := HEX.out.row
  have HWX : Hid (Ev.Wf (⟨1, b, zeros, zeros, [], zeros, 0, 0, 0, 0⟩)) := HEX.out.wf
  obtain ⟨X, hX⟩ : ∃ X, X = evA (⟨1, b, zeros, zeros, [], zeros, 0, 0, 0, 0⟩) pb cb none 0 := ⟨_, rfl⟩
  rw [← hX] at HRX
  have HXS : Hid (X.size = 103 ∧ X.all (·.oneCell') = true) := by show _ ∧ _; rw [hX]; exact ⟨evA_size HWX.out _ _ _ _, evA_one _ _ _ _ _⟩
  have HXE := Lib.hid hX
  clear hbx hzx hX
  go_wp2_with (first
    | refine wpList_load_row rfl 31 _ rfl g3 rfl 31 X (0, 0) _ HRX.out Tryd.underlying31 rfl (infoE _ HXS.out.1) ?_
    | refine wpList_store_row rfl 31 _ _ rfl (w.heap.size + 1) X rfl rfl 31 zE HZX.out (infoE _ HXS.out.1) (by rw [HXS.out.1]; exact zE_size) HXS.out.2 ?_)
  have HS := Lib.hid (setRow_heap _ _ _ X _ _ HZX.out)
  have hbe := below_setRow HBX.out (show w.heap.size ≤ w.heap.size + 1 by omega) X
  have HTT : Hid (Turns (fun k => k = g3 ∨ k = w.heap.size + 1) w3 ((wX).setRow (w.heap.size + 1) X)) := (HEX.out.turn.imp (fun k _ hk => .inl hk)).trans (turns_setRow _ _ _) (fun k _ hk => .inr hk)
  refine bodyPost_ret (results_cell_row rfl _ _ _ _ _ _ _ rfl HS.out Tryd.underlying31 rfl (infoE _ HXS.out.1)) rfl ?_
  refine ⟨pb, cb, none, 0, congrArg (fun z => Ending.returned (Value.agg z)) HXE.out, ⟨HWX.out, ?_, ?_⟩, hbe⟩
  · exact HIN.out.bs.below hbe
  · exact Is.nil _ _
set_option maxRecDepth 100000 in
set_option maxHeartbeats 1600000 in
theorem only2 (b hh p : List UInt8) (tx : List (List UInt8)) (id : List UInt8) (n u0 u1 u2 : Int) (pb : Option Addr) (cb : Nat) (q : Option Addr) (c : Nat) (w : World) (h : EvAt w ⟨2, b, hh, p, tx, id, n, u0, u1, u2⟩ pb cb q c) :
    Calls Tryd.prog 20 #[.agg (evA ⟨2, b, hh, p, tx, id, n, u0, u1, u2⟩ pb cb q c)] w (EvP ⟨2, [], hh, p, tx, zeros, 0, 0, 0, 0⟩ w) := by
  have HIN := Lib.hid h
  skip
  -- up to the switch; the new event's row HEW at world w3, its box g3; the kind 2
  have hz := zeroE
  obtain ⟨a1, a2, a3, a4⟩ := Go.Mir.two_allocs w (.cells (evA ⟨2, b, hh, p, tx, id, n, u0, u1, u2⟩ pb cb q c) 31) (.cells zE 31)
  have HC := Lib.hid (ev_row h.wf a1)
  have HB := Lib.hid a4
  have HZ := Lib.hid a2
  have HR1 := Lib.hid a1
  have HAT := Lib.hid (h.below a4)
  have hk : _ = some (Value.int .i64 2) := HC.out.k
  have HS3 := Lib.hid a3
  have HWF := Lib.hid h.wf
  obtain ⟨A, hA⟩ : ∃ A, A = evA ⟨2, b, hh, p, tx, id, n, u0, u1, u2⟩ pb cb q c := ⟨_, rfl⟩
  rw [← hA]
  rw [← hA] at HC HB HZ hk HAT HS3 HR1
  have HAE := Lib.hid hA
  clear a1 a2 a3 a4 h hA
  go_enter Tryd.func20, Tryd.ntmps20
  go_upto_region 1 with fail
  generalize (w.alloc (.cells A 31)).alloc (.cells zE 31) = w1 at *
  have hal := Below.allocs w1 (.cells zE 31)
  have hnew := heap_alloc_last w1 (.cells zE 31)
  have NEW := Lib.hid hnew
  have HK0 : Hid (i64B 2) := ⟨by decide, by decide⟩
  obtain ⟨Z3, hZ3⟩ : ∃ Z3, Z3 = evA (Ev.zero 2) none 0 none 0 := ⟨_, rfl⟩
  have hbl := below_setRow hal (Nat.le_refl _) Z3
  have HEW : Hid (EW ((w1.alloc (.cells zE 31)).setRow w1.heap.size Z3) w1.heap.size 31 (Ev.zero 2) none 0 none 0 ((w1.alloc (.cells zE 31)).setRow w1.heap.size Z3)) := ⟨by rw [← hZ3]; exact setRow_heap _ _ _ _ _ _ hnew, zero_wf HK0.out, Turns.refl _ _⟩
  have HZS : Hid (Z3.size = 103 ∧ Z3.all (·.oneCell') = true) := by show _ ∧ _; rw [hZ3]; exact ⟨evA_size (zero_wf HK0.out) _ _ _ _, evA_one _ _ _ _ _⟩
  have hbu := built_ek 2
  rw [← hZ3] at hbu
  have HBU := Lib.hid hbu
  have hkk := cell_below hk hbl
  have HR3 := Lib.hid (Below.keepOld hbl HR1.out)
  have HZ3 := Lib.hid (Below.keepOld hbl HZ.out)
  have HB3 := Lib.hid (HB.out.trans (hbl.mono HB.out.size))
  have HG3 : Hid (w.heap.size + 2 ≤ w1.heap.size) := by show _ ≤ _; rw [HS3.out]; exact Nat.le_refl _
  have HAT3 := Lib.hid (HAT.out.below hbl)
  clear hal hnew hbl hZ3 hbu
  go_upto_region 3 with (first
    | refine Rdr.wpList_build rfl 31 _ rfl [(0, .int .i64 2)] rfl _ HBU.out ?_
    | ((with_reducible refine wpStoreAt 3 ?_); refine wpList_store_row rfl 31 _ _ rfl w1.heap.size Z3 rfl rfl 31 zE NEW.out (infoE _ HZS.out.1) (by rw [HZS.out.1]; exact zE_size) HZS.out.2 ?_))
  try simp only [Act.put, List.setIfInBounds_toArray, List.set_cons_zero, List.set_cons_succ]
  clear hk hkk NEW HBU HZS HC HB HZ HR1 HAT HS3
  generalize (w1.alloc (.cells zE 31)).setRow w1.heap.size Z3 = w3 at *
  generalize w1.heap.size = g3 at *
  rw [HAE.out] at HR3
  have HC3 := Lib.hid (ev_row HWF.out HR3.out)
  have hfz : ∀ j, w3.frozen? ⟨g3, j, none⟩ = false := fun j => HEW.out.frozen j
  have hE1 : w3.cell? ⟨g3, 1, none⟩ = some (.slice none 0 0) := HEW.out.cells.b
  have hE99 : w3.cell? ⟨g3, 99, none⟩ = some (.int .i64 0) := HEW.out.cells.n
  have hP1 : w3.cell? ⟨w.heap.size, 1, none⟩ = some (.slice pb b.length cb) := HC3.out.b
  have hP99 : w3.cell? ⟨w.heap.size, 99, none⟩ = some (.int .i64 n) := HC3.out.n
  have HEX := Lib.hid (HEW.out.block hh p tx HWF.out.h HWF.out.p HWF.out.tx q c)
  have HTH := Lib.hid (HEW.out.there 2 65 (by omega))
  have HBS : Hid ((blkA hh p q tx.length c).size = 65) := blkA_size HWF.out.h HWF.out.p _ _ _
  go_upto_region 14 with (first
    | refine loadM (by rfl) 28 _ rfl w.heap.size 2 rfl (blkA hh p q tx.length c) _ HC3.out.blk Tryd.underlying28 rfl (infoBl _ HBS.out) ?_
    | refine wpList_store_mid rfl 28 _ _ rfl g3 2 (blkA hh p q tx.length c) rfl rfl (by rw [HBS.out]; exact HTH.out) (infoBl _ HBS.out) (blkA_one _ _ _ _ _) ?_)
  clear hfz hE1 hE99 hP1 hP99
  generalize w3.setCells g3 2 (blkA hh p q tx.length c).toList = wX at *
  skip
  -- the event is told: world wX; HEX : Hid (EW w3 g3 .. ⟨2, [], hh, p, tx, zeros, 0, 0, 0, 0⟩ none 0 q c wX)
  have hbx := HEX.out.turn.below HB3.out.size (fun k hk => by have hk : k = g3 := hk; have := HG3.out; omega)
  have HBX := Lib.hid (HB3.out.trans hbx)
  have hzx := HEX.out.turn.keep HZ3.out (by show ¬ w.heap.size + 1 = g3; have := HG3.out; omega)
  have HZX := Lib.hid hzx
  have HRX : Hid ((wX).heap[g3]? = some (.cells (evA (⟨2, [], hh, p, tx, zeros, 0, 0, 0, 0⟩) none 0 q c) 31 (0, 0))) := HEX.out.row
  have HWX : Hid (Ev.Wf (⟨2, [], hh, p, tx, zeros, 0, 0, 0, 0⟩)) := HEX.out.wf
  obtain ⟨X, hX⟩ : ∃ X, X = evA (⟨2, [], hh, p, tx, zeros, 0, 0, 0, 0⟩) none 0 q c := ⟨_, rfl⟩
  rw [← hX] at HRX
  have HXS : Hid (X.size = 103 ∧ X.all (·.oneCell') = true) := by show _ ∧ _; rw [hX]; exact ⟨evA_size HWX.out _ _ _ _, evA_one _ _ _ _ _⟩
  have HXE := Lib.hid hX
  clear hbx hzx hX
  go_wp2_with (first
    | refine wpList_load_row rfl 31 _ rfl g3 rfl 31 X (0, 0) _ HRX.out Tryd.underlying31 rfl (infoE _ HXS.out.1) ?_
    | refine wpList_store_row rfl 31 _ _ rfl (w.heap.size + 1) X rfl rfl 31 zE HZX.out (infoE _ HXS.out.1) (by rw [HXS.out.1]; exact zE_size) HXS.out.2 ?_)
  have HS := Lib.hid (setRow_heap _ _ _ X _ _ HZX.out)
  have hbe := below_setRow HBX.out (show w.heap.size ≤ w.heap.size + 1 by omega) X
  have HTT : Hid (Turns (fun k => k = g3 ∨ k = w.heap.size + 1) w3 ((wX).setRow (w.heap.size + 1) X)) := (HEX.out.turn.imp (fun k _ hk => .inl hk)).trans (turns_setRow _ _ _) (fun k _ hk => .inr hk)
  refine bodyPost_ret (results_cell_row rfl _ _ _ _ _ _ _ rfl HS.out Tryd.underlying31 rfl (infoE _ HXS.out.1)) rfl ?_
  refine ⟨none, 0, q, c, congrArg (fun z => Ending.returned (Value.agg z)) HXE.out, ⟨HWX.out, ?_, ?_⟩, hbe⟩
  · exact Sl.nil _ _
  · exact HIN.out.ids.below hbe
set_option maxRecDepth 100000 in
set_option maxHeartbeats 1600000 in
theorem only3 (b hh p : List UInt8) (tx : List (List UInt8)) (id : List UInt8) (n u0 u1 u2 : Int) (pb : Option Addr) (cb : Nat) (q : Option Addr) (c : Nat) (w : World) (h : EvAt w ⟨3, b, hh, p, tx, id, n, u0, u1, u2⟩ pb cb q c) :
    Calls Tryd.prog 20 #[.agg (evA ⟨3, b, hh, p, tx, id, n, u0, u1, u2⟩ pb cb q c)] w (EvP ⟨3, [], zeros, zeros, [], id, 0, 0, 0, 0⟩ w) := by
  have HIN := Lib.hid h
  skip
  -- up to the switch; the new event's row HEW at world w3, its box g3; the kind 3
  have hz := zeroE
  obtain ⟨a1, a2, a3, a4⟩ := Go.Mir.two_allocs w (.cells (evA ⟨3, b, hh, p, tx, id, n, u0, u1, u2⟩ pb cb q c) 31) (.cells zE 31)
  have HC := Lib.hid (ev_row h.wf a1)
  have HB := Lib.hid a4
  have HZ := Lib.hid a2
  have HR1 := Lib.hid a1
  have HAT := Lib.hid (h.below a4)
  have hk : _ = some (Value.int .i64 3) := HC.out.k
  have HS3 := Lib.hid a3
  have HWF := Lib.hid h.wf
  obtain ⟨A, hA⟩ : ∃ A, A = evA ⟨3, b, hh, p, tx, id, n, u0, u1, u2⟩ pb cb q c := ⟨_, rfl⟩
  rw [← hA]
  rw [← hA] at HC HB HZ hk HAT HS3 HR1
  have HAE := Lib.hid hA
  clear a1 a2 a3 a4 h hA
  go_enter Tryd.func20, Tryd.ntmps20
  go_upto_region 1 with fail
  generalize (w.alloc (.cells A 31)).alloc (.cells zE 31) = w1 at *
  have hal := Below.allocs w1 (.cells zE 31)
  have hnew := heap_alloc_last w1 (.cells zE 31)
  have NEW := Lib.hid hnew
  have HK0 : Hid (i64B 3) := ⟨by decide, by decide⟩
  obtain ⟨Z3, hZ3⟩ : ∃ Z3, Z3 = evA (Ev.zero 3) none 0 none 0 := ⟨_, rfl⟩
  have hbl := below_setRow hal (Nat.le_refl _) Z3
  have HEW : Hid (EW ((w1.alloc (.cells zE 31)).setRow w1.heap.size Z3) w1.heap.size 31 (Ev.zero 3) none 0 none 0 ((w1.alloc (.cells zE 31)).setRow w1.heap.size Z3)) := ⟨by rw [← hZ3]; exact setRow_heap _ _ _ _ _ _ hnew, zero_wf HK0.out, Turns.refl _ _⟩
  have HZS : Hid (Z3.size = 103 ∧ Z3.all (·.oneCell') = true) := by show _ ∧ _; rw [hZ3]; exact ⟨evA_size (zero_wf HK0.out) _ _ _ _, evA_one _ _ _ _ _⟩
  have hbu := built_ek 3
  rw [← hZ3] at hbu
  have HBU := Lib.hid hbu
  have hkk := cell_below hk hbl
  have HR3 := Lib.hid (Below.keepOld hbl HR1.out)
  have HZ3 := Lib.hid (Below.keepOld hbl HZ.out)
  have HB3 := Lib.hid (HB.out.trans (hbl.mono HB.out.size))
  have HG3 : Hid (w.heap.size + 2 ≤ w1.heap.size) := by show _ ≤ _; rw [HS3.out]; exact Nat.le_refl _
  have HAT3 := Lib.hid (HAT.out.below hbl)
  clear hal hnew hbl hZ3 hbu
  go_upto_region 3 with (first
    | refine Rdr.wpList_build rfl 31 _ rfl [(0, .int .i64 3)] rfl _ HBU.out ?_
    | ((with_reducible refine wpStoreAt 3 ?_); refine wpList_store_row rfl 31 _ _ rfl w1.heap.size Z3 rfl rfl 31 zE NEW.out (infoE _ HZS.out.1) (by rw [HZS.out.1]; exact zE_size) HZS.out.2 ?_))
  try simp only [Act.put, List.setIfInBounds_toArray, List.set_cons_zero, List.set_cons_succ]
  clear hk hkk NEW HBU HZS HC HB HZ HR1 HAT HS3
  generalize (w1.alloc (.cells zE 31)).setRow w1.heap.size Z3 = w3 at *
  generalize w1.heap.size = g3 at *
  rw [HAE.out] at HR3
  have HC3 := Lib.hid (ev_row HWF.out HR3.out)
  have hfz : ∀ j, w3.frozen? ⟨g3, j, none⟩ = false := fun j => HEW.out.frozen j
  have hE1 : w3.cell? ⟨g3, 1, none⟩ = some (.slice none 0 0) := HEW.out.cells.b
  have hE99 : w3.cell? ⟨g3, 99, none⟩ = some (.int .i64 0) := HEW.out.cells.n
  have hP1 : w3.cell? ⟨w.heap.size, 1, none⟩ = some (.slice pb b.length cb) := HC3.out.b
  have hP99 : w3.cell? ⟨w.heap.size, 99, none⟩ = some (.int .i64 n) := HC3.out.n
  have HEX := Lib.hid (HEW.out.ident id HWF.out.id)
  have HTH := Lib.hid (HEW.out.there 67 32 (by omega))
  have HBS : Hid ((idA id).size = 32) := by show _ = _; rw [idA_size]; exact HWF.out.id
  go_upto_region 14 with (first
    | refine loadM (by rfl) 25 _ rfl w.heap.size 67 rfl (idA id) _ HC3.out.id Tryd.underlying25 rfl (infoId _ HBS.out) ?_
    | refine wpList_store_mid rfl 25 _ _ rfl g3 67 (idA id) rfl rfl (by rw [HBS.out]; exact HTH.out) (infoId _ HBS.out) (idA_one _) ?_)
  clear hfz hE1 hE99 hP1 hP99
  generalize w3.setCells g3 67 (idA id).toList = wX at *
  skip
  -- the event is told: world wX; HEX : Hid (EW w3 g3 .. ⟨3, [], zeros, zeros, [], id, 0, 0, 0, 0⟩ none 0 none 0 wX)
  have hbx := HEX.out.turn.below HB3.out.size (fun k hk => by have hk : k = g3 := hk; have := HG3.out; omega)
  have HBX := Lib.hid (HB3.out.trans hbx)
  have hzx := HEX.out.turn.keep HZ3.out (by show ¬ w.heap.size + 1 = g3; have := HG3.out; omega)
  have HZX := Lib.hid hzx
  have HRX : Hid ((wX).heap[g3]? = some (.cells (evA (⟨3, [], zeros, zeros, [], id, 0, 0, 0, 0⟩) none 0 none 0) 31 (0, 0))) := HEX.out.row
  have HWX : Hid (Ev.Wf (⟨3, [], zeros, zeros, [], id, 0, 0, 0, 0⟩)) := HEX.out.wf
  obtain ⟨X, hX⟩ : ∃ X, X = evA (⟨3, [], zeros, zeros, [], id, 0, 0, 0, 0⟩) none 0 none 0 := ⟨_, rfl⟩
  rw [← hX] at HRX
  have HXS : Hid (X.size = 103 ∧ X.all (·.oneCell') = true) := by show _ ∧ _; rw [hX]; exact ⟨evA_size HWX.out _ _ _ _, evA_one _ _ _ _ _⟩
  have HXE := Lib.hid hX
  clear hbx hzx hX
  go_wp2_with (first
    | refine wpList_load_row rfl 31 _ rfl g3 rfl 31 X (0, 0) _ HRX.out Tryd.underlying31 rfl (infoE _ HXS.out.1) ?_
    | refine wpList_store_row rfl 31 _ _ rfl (w.heap.size + 1) X rfl rfl 31 zE HZX.out (infoE _ HXS.out.1) (by rw [HXS.out.1]; exact zE_size) HXS.out.2 ?_)
  have HS := Lib.hid (setRow_heap _ _ _ X _ _ HZX.out)
  have hbe := below_setRow HBX.out (show w.heap.size ≤ w.heap.size + 1 by omega) X
  have HTT : Hid (Turns (fun k => k = g3 ∨ k = w.heap.size + 1) w3 ((wX).setRow (w.heap.size + 1) X)) := (HEX.out.turn.imp (fun k _ hk => .inl hk)).trans (turns_setRow _ _ _) (fun k _ hk => .inr hk)
  refine bodyPost_ret (results_cell_row rfl _ _ _ _ _ _ _ rfl HS.out Tryd.underlying31 rfl (infoE _ HXS.out.1)) rfl ?_
  refine ⟨none, 0, none, 0, congrArg (fun z => Ending.returned (Value.agg z)) HXE.out, ⟨HWX.out, ?_, ?_⟩, hbe⟩
  · exact Sl.nil _ _
  · exact Is.nil _ _
set_option maxRecDepth 100000 in
set_option maxHeartbeats 1600000 in
theorem only4 (b hh p : List UInt8) (tx : List (List UInt8)) (id : List UInt8) (n u0 u1 u2 : Int) (pb : Option Addr) (cb : Nat) (q : Option Addr) (c : Nat) (w : World) (h : EvAt w ⟨4, b, hh, p, tx, id, n, u0, u1, u2⟩ pb cb q c) :
    Calls Tryd.prog 20 #[.agg (evA ⟨4, b, hh, p, tx, id, n, u0, u1, u2⟩ pb cb q c)] w (EvP ⟨4, [], zeros, zeros, [], id, 0, 0, 0, 0⟩ w) := by
  have HIN := Lib.hid h
  skip
  -- up to the switch; the new event's row HEW at world w3, its box g3; the kind 4
  have hz := zeroE
  obtain ⟨a1, a2, a3, a4⟩ := Go.Mir.two_allocs w (.cells (evA ⟨4, b, hh, p, tx, id, n, u0, u1, u2⟩ pb cb q c) 31) (.cells zE 31)
  have HC := Lib.hid (ev_row h.wf a1)
  have HB := Lib.hid a4
  have HZ := Lib.hid a2
  have HR1 := Lib.hid a1
  have HAT := Lib.hid (h.below a4)
  have hk : _ = some (Value.int .i64 4) := HC.out.k
  have HS3 := Lib.hid a3
  have HWF := Lib.hid h.wf
  obtain ⟨A, hA⟩ : ∃ A, A = evA ⟨4, b, hh, p, tx, id, n, u0, u1, u2⟩ pb cb q c := ⟨_, rfl⟩
  rw [← hA]
  rw [← hA] at HC HB HZ hk HAT HS3 HR1
  have HAE := Lib.hid hA
  clear a1 a2 a3 a4 h hA
  go_enter Tryd.func20, Tryd.ntmps20
  go_upto_region 1 with fail
  generalize (w.alloc (.cells A 31)).alloc (.cells zE 31) = w1 at *
  have hal := Below.allocs w1 (.cells zE 31)
  have hnew := heap_alloc_last w1 (.cells zE 31)
  have NEW := Lib.hid hnew
  have HK0 : Hid (i64B 4) := ⟨by decide, by decide⟩
  obtain ⟨Z3, hZ3⟩ : ∃ Z3, Z3 = evA (Ev.zero 4) none 0 none 0 := ⟨_, rfl⟩
  have hbl := below_setRow hal (Nat.le_refl _) Z3
  have HEW : Hid (EW ((w1.alloc (.cells zE 31)).setRow w1.heap.size Z3) w1.heap.size 31 (Ev.zero 4) none 0 none 0 ((w1.alloc (.cells zE 31)).setRow w1.heap.size Z3)) := ⟨by rw [← hZ3]; exact setRow_heap _ _ _ _ _ _ hnew, zero_wf HK0.out, Turns.refl _ _⟩
  have HZS : Hid (Z3.size = 103 ∧ Z3.all (·.oneCell') = true) := by show _ ∧ _; rw [hZ3]; exact ⟨evA_size (zero_wf HK0.out) _ _ _ _, evA_one _ _ _ _ _⟩
  have hbu := built_ek 4
  rw [← hZ3] at hbu
  have HBU := Lib.hid hbu
  have hkk := cell_below hk hbl
  have HR3 := Lib.hid (Below.keepOld hbl HR1.out)
  have HZ3 := Lib.hid (Below.keepOld hbl HZ.out)
  have HB3 := Lib.hid (HB.out.trans (hbl.mono HB.out.size))
  have HG3 : Hid (w.heap.size + 2 ≤ w1.heap.size) := by show _ ≤ _; rw [HS3.out]; exact Nat.le_refl _
  have HAT3 := Lib.hid (HAT.out.below hbl)
  clear hal hnew hbl hZ3 hbu
  go_upto_region 3 with (first
    | refine Rdr.wpList_build rfl 31 _ rfl [(0, .int .i64 4)] rfl _ HBU.out ?_
    | ((with_reducible refine wpStoreAt 3 ?_); refine wpList_store_row rfl 31 _ _ rfl w1.heap.size Z3 rfl rfl 31 zE NEW.out (infoE _ HZS.out.1) (by rw [HZS.out.1]; exact zE_size) HZS.out.2 ?_))
  try simp only [Act.put, List.setIfInBounds_toArray, List.set_cons_zero, List.set_cons_succ]
  clear hk hkk NEW HBU HZS HC HB HZ HR1 HAT HS3
  generalize (w1.alloc (.cells zE 31)).setRow w1.heap.size Z3 = w3 at *
  generalize w1.heap.size = g3 at *
  rw [HAE.out] at HR3
  have HC3 := Lib.hid (ev_row HWF.out HR3.out)
  have hfz : ∀ j, w3.frozen? ⟨g3, j, none⟩ = false := fun j => HEW.out.frozen j
  have hE1 : w3.cell? ⟨g3, 1, none⟩ = some (.slice none 0 0) := HEW.out.cells.b
  have hE99 : w3.cell? ⟨g3, 99, none⟩ = some (.int .i64 0) := HEW.out.cells.n
  have hP1 : w3.cell? ⟨w.heap.size, 1, none⟩ = some (.slice pb b.length cb) := HC3.out.b
  have hP99 : w3.cell? ⟨w.heap.size, 99, none⟩ = some (.int .i64 n) := HC3.out.n
  have HEX := Lib.hid (HEW.out.ident id HWF.out.id)
  have HTH := Lib.hid (HEW.out.there 67 32 (by omega))
  have HBS : Hid ((idA id).size = 32) := by show _ = _; rw [idA_size]; exact HWF.out.id
  go_upto_region 14 with (first
    | refine loadM (by rfl) 25 _ rfl w.heap.size 67 rfl (idA id) _ HC3.out.id Tryd.underlying25 rfl (infoId _ HBS.out) ?_
    | refine wpList_store_mid rfl 25 _ _ rfl g3 67 (idA id) rfl rfl (by rw [HBS.out]; exact HTH.out) (infoId _ HBS.out) (idA_one _) ?_)
  clear hfz hE1 hE99 hP1 hP99
  generalize w3.setCells g3 67 (idA id).toList = wX at *
  skip
  -- the event is told: world wX; HEX : Hid (EW w3 g3 .. ⟨4, [], zeros, zeros, [], id, 0, 0, 0, 0⟩ none 0 none 0 wX)
  have hbx := HEX.out.turn.below HB3.out.size (fun k hk => by have hk : k = g3 := hk; have := HG3.out; omega)
  have HBX := Lib.hid (HB3.out.trans hbx)
  have hzx := HEX.out.turn.keep HZ3.out (by show ¬ w.heap.size + 1 = g3; have := HG3.out; omega)
  have HZX := Lib.hid hzx
  have HRX : Hid ((wX).heap[g3]? = some (.cells (evA (⟨4, [], zeros, zeros, [], id, 0, 0, 0, 0⟩) none 0 none 0) 31 (0, 0))) := HEX.out.row
  have HWX : Hid (Ev.Wf (⟨4, [], zeros, zeros, [], id, 0, 0, 0, 0⟩)) := HEX.out.wf
  obtain ⟨X, hX⟩ : ∃ X, X = evA (⟨4, [], zeros, zeros, [], id, 0, 0, 0, 0⟩) none 0 none 0 := ⟨_, rfl⟩
  rw [← hX] at HRX
  have HXS : Hid (X.size = 103 ∧ X.all (·.oneCell') = true) := by show _ ∧ _; rw [hX]; exact ⟨evA_size HWX.out _ _ _ _, evA_one _ _ _ _ _⟩
  have HXE := Lib.hid hX
  clear hbx hzx hX
  go_wp2_with (first
    | refine wpList_load_row rfl 31 _ rfl g3 rfl 31 X (0, 0) _ HRX.out Tryd.underlying31 rfl (infoE _ HXS.out.1) ?_
    | refine wpList_store_row rfl 31 _ _ rfl (w.heap.size + 1) X rfl rfl 31 zE HZX.out (infoE _ HXS.out.1) (by rw [HXS.out.1]; exact zE_size) HXS.out.2 ?_)
  have HS := Lib.hid (setRow_heap _ _ _ X _ _ HZX.out)
  have hbe := below_setRow HBX.out (show w.heap.size ≤ w.heap.size + 1 by omega) X
  have HTT : Hid (Turns (fun k => k = g3 ∨ k = w.heap.size + 1) w3 ((wX).setRow (w.heap.size + 1) X)) := (HEX.out.turn.imp (fun k _ hk => .inl hk)).trans (turns_setRow _ _ _) (fun k _ hk => .inr hk)
  refine bodyPost_ret (results_cell_row rfl _ _ _ _ _ _ _ rfl HS.out Tryd.underlying31 rfl (infoE _ HXS.out.1)) rfl ?_
  refine ⟨none, 0, none, 0, congrArg (fun z => Ending.returned (Value.agg z)) HXE.out, ⟨HWX.out, ?_, ?_⟩, hbe⟩
  · exact Sl.nil _ _
  · exact Is.nil _ _
set_option maxRecDepth 100000 in
set_option maxHeartbeats 1600000 in
theorem only5 (b hh p : List UInt8) (tx : List (List UInt8)) (id : List UInt8) (n u0 u1 u2 : Int) (pb : Option Addr) (cb : Nat) (q : Option Addr) (c : Nat) (w : World) (h : EvAt w ⟨5, b, hh, p, tx, id, n, u0, u1, u2⟩ pb cb q c) :
    Calls Tryd.prog 20 #[.agg (evA ⟨5, b, hh, p, tx, id, n, u0, u1, u2⟩ pb cb q c)] w (EvP ⟨5, [], zeros, zeros, [], zeros, n, 0, 0, 0⟩ w) := by
  have HIN := Lib.hid h
  skip
  -- up to the switch; the new event's row HEW at world w3, its box g3; the kind 5
  have hz := zeroE
  obtain ⟨a1, a2, a3, a4⟩ := Go.Mir.two_allocs w (.cells (evA ⟨5, b, hh, p, tx, id, n, u0, u1, u2⟩ pb cb q c) 31) (.cells zE 31)
  have HC := Lib.hid (ev_row h.wf a1)
  have HB := Lib.hid a4
  have HZ := Lib.hid a2
  have HR1 := Lib.hid a1
  have HAT := Lib.hid (h.below a4)
  have hk : _ = some (Value.int .i64 5) := HC.out.k
  have HS3 := Lib.hid a3
  have HWF := Lib.hid h.wf
  obtain ⟨A, hA⟩ : ∃ A, A = evA ⟨5, b, hh, p, tx, id, n, u0, u1, u2⟩ pb cb q c := ⟨_, rfl⟩
  rw [← hA]
  rw [← hA] at HC HB HZ hk HAT HS3 HR1
  have HAE := Lib.hid hA
  clear a1 a2 a3 a4 h hA
  go_enter Tryd.func20, Tryd.ntmps20
  go_upto_region 1 with fail
  generalize (w.alloc (.cells A 31)).alloc (.cells zE 31) = w1 at *
  have hal := Below.allocs w1 (.cells zE 31)
  have hnew := heap_alloc_last w1 (.cells zE 31)
  have NEW := Lib.hid hnew
  have HK0 : Hid (i64B 5) := ⟨by decide, by decide⟩
  obtain ⟨Z3, hZ3⟩ : ∃ Z3, Z3 = evA (Ev.zero 5) none 0 none 0 := ⟨_, rfl⟩
  have hbl := below_setRow hal (Nat.le_refl _) Z3
  have HEW : Hid (EW ((w1.alloc (.cells zE 31)).setRow w1.heap.size Z3) w1.heap.size 31 (Ev.zero 5) none 0 none 0 ((w1.alloc (.cells zE 31)).setRow w1.heap.size Z3)) := ⟨by rw [← hZ3]; exact setRow_heap _ _ _ _ _ _ hnew, zero_wf HK0.out, Turns.refl _ _⟩
  have HZS : Hid (Z3.size = 103 ∧ Z3.all (·.oneCell') = true) := by show _ ∧ _; rw [hZ3]; exact ⟨evA_size (zero_wf HK0.out) _ _ _ _, evA_one _ _ _ _ _⟩
  have hbu := built_ek 5
  rw [← hZ3] at hbu
  have HBU := Lib.hid hbu
  have hkk := cell_below hk hbl
  have HR3 := Lib.hid (Below.keepOld hbl HR1.out)
  have HZ3 := Lib.hid (Below.keepOld hbl HZ.out)
  have HB3 := Lib.hid (HB.out.trans (hbl.mono HB.out.size))
  have HG3 : Hid (w.heap.size + 2 ≤ w1.heap.size) := by show _ ≤ _; rw [HS3.out]; exact Nat.le_refl _
  have HAT3 := Lib.hid (HAT.out.below hbl)
  clear hal hnew hbl hZ3 hbu
  go_upto_region 3 with (first
    | refine Rdr.wpList_build rfl 31 _ rfl [(0, .int .i64 5)] rfl _ HBU.out ?_
    | ((with_reducible refine wpStoreAt 3 ?_); refine wpList_store_row rfl 31 _ _ rfl w1.heap.size Z3 rfl rfl 31 zE NEW.out (infoE _ HZS.out.1) (by rw [HZS.out.1]; exact zE_size) HZS.out.2 ?_))
  try simp only [Act.put, List.setIfInBounds_toArray, List.set_cons_zero, List.set_cons_succ]
  clear hk hkk NEW HBU HZS HC HB HZ HR1 HAT HS3
  generalize (w1.alloc (.cells zE 31)).setRow w1.heap.size Z3 = w3 at *
  generalize w1.heap.size = g3 at *
  rw [HAE.out] at HR3
  have HC3 := Lib.hid (ev_row HWF.out HR3.out)
  have hfz : ∀ j, w3.frozen? ⟨g3, j, none⟩ = false := fun j => HEW.out.frozen j
  have hE1 : w3.cell? ⟨g3, 1, none⟩ = some (.slice none 0 0) := HEW.out.cells.b
  have hE99 : w3.cell? ⟨g3, 99, none⟩ = some (.int .i64 0) := HEW.out.cells.n
  have hP1 : w3.cell? ⟨w.heap.size, 1, none⟩ = some (.slice pb b.length cb) := HC3.out.b
  have hP99 : w3.cell? ⟨w.heap.size, 99, none⟩ = some (.int .i64 n) := HC3.out.n
  have HEX := Lib.hid (HEW.out.num n HWF.out.n)
  go_upto_region 14 with fail
  clear hfz hE1 hE99 hP1 hP99
  generalize w3.setCell ⟨g3, 99, none⟩ (.int .i64 n) = wX at *
  skip
  -- the event is told: world wX; HEX : Hid (EW w3 g3 .. ⟨5, [], zeros, zeros, [], zeros, n, 0, 0, 0⟩ none 0 none 0 wX)
  have hbx := HEX.out.turn.below HB3.out.size (fun k hk => by have hk : k = g3 := hk; have := HG3.out; omega)
  have HBX := Lib.hid (HB3.out.trans hbx)
  have hzx := HEX.out.turn.keep HZ3.out (by show ¬ w.heap.size + 1 = g3; have := HG3.out; omega)
  have HZX := Lib.hid hzx
  have HRX : Hid ((wX).heap[g3]? = some (.cells (evA (⟨5, [], zeros, zeros, [], zeros, n, 0, 0, 0⟩) none 0 none 0) 31 (0, 0))) := HEX.out.row
  have HWX : Hid (Ev.Wf (⟨5, [], zeros, zeros, [], zeros, n, 0, 0, 0⟩)) := HEX.out.wf
  obtain ⟨X, hX⟩ : ∃ X, X = evA (⟨5, [], zeros, zeros, [], zeros, n, 0, 0, 0⟩) none 0 none 0 := ⟨_, rfl⟩
  rw [← hX] at HRX
  have HXS : Hid (X.size = 103 ∧ X.all (·.oneCell') = true) := by show _ ∧ _; rw [hX]; exact ⟨evA_size HWX.out _ _ _ _, evA_one _ _ _ _ _⟩
  have HXE := Lib.hid hX
  clear hbx hzx hX
  go_wp2_with (first
    | refine wpList_load_row rfl 31 _ rfl g3 rfl 31 X (0, 0) _ HRX.out Tryd.underlying31 rfl (infoE _ HXS.out.1) ?_
    | refine wpList_store_row rfl 31 _ _ rfl (w.heap.size + 1) X rfl rfl 31 zE HZX.out (infoE _ HXS.out.1) (by rw [HXS.out.1]; exact zE_size) HXS.out.2 ?_)
  have HS := Lib.hid (setRow_heap _ _ _ X _ _ HZX.out)
  have hbe := below_setRow HBX.out (show w.heap.size ≤ w.heap.size + 1 by omega) X
  have HTT : Hid (Turns (fun k => k = g3 ∨ k = w.heap.size + 1) w3 ((wX).setRow (w.heap.size + 1) X)) := (HEX.out.turn.imp (fun k _ hk => .inl hk)).trans (turns_setRow _ _ _) (fun k _ hk => .inr hk)
  refine bodyPost_ret (results_cell_row rfl _ _ _ _ _ _ _ rfl HS.out Tryd.underlying31 rfl (infoE _ HXS.out.1)) rfl ?_
  refine ⟨none, 0, none, 0, congrArg (fun z => Ending.returned (Value.agg z)) HXE.out, ⟨HWX.out, ?_, ?_⟩, hbe⟩
  · exact Sl.nil _ _
  · exact Is.nil _ _
set_option maxRecDepth 100000 in
set_option maxHeartbeats 1600000 in
theorem only6 (b hh p : List UInt8) (tx : List (List UInt8)) (id : List UInt8) (n u0 u1 u2 : Int) (pb : Option Addr) (cb : Nat) (q : Option Addr) (c : Nat) (w : World) (h : EvAt w ⟨6, b, hh, p, tx, id, n, u0, u1, u2⟩ pb cb q c) :
    Calls Tryd.prog 20 #[.agg (evA ⟨6, b, hh, p, tx, id, n, u0, u1, u2⟩ pb cb q c)] w (EvP ⟨6, [], zeros, zeros, [], zeros, n, u0, u1, u2⟩ w) := by
  have HIN := Lib.hid h
  skip
  -- up to the switch; the new event's row HEW at world w3, its box g3; the kind 6
  have hz := zeroE
  obtain ⟨a1, a2, a3, a4⟩ := Go.Mir.two_allocs w (.cells (evA ⟨6, b, hh, p, tx, id, n, u0, u1, u2⟩ pb cb q c) 31) (.cells zE 31)
  have HC := Lib.hid (ev_row h.wf a1)
  have HB := Lib.hid a4
  have HZ := Lib.hid a2
  have HR1 := Lib.hid a1
  have HAT := Lib.hid (h.below a4)
  have hk : _ = some (Value.int .i64 6) := HC.out.k
  have HS3 := Lib.hid a3
  have HWF := Lib.hid h.wf
  obtain ⟨A, hA⟩ : ∃ A, A = evA ⟨6, b, hh, p, tx, id, n, u0, u1, u2⟩ pb cb q c := ⟨_, rfl⟩
  rw [← hA]
  rw [← hA] at HC HB HZ hk HAT HS3 HR1
  have HAE := Lib.hid hA
  clear a1 a2 a3 a4 h hA
  go_enter Tryd.func20, Tryd.ntmps20
  go_upto_region 1 with fail
  generalize (w.alloc (.cells A 31)).alloc (.cells zE 31) = w1 at *
  have hal := Below.allocs w1 (.cells zE 31)
  have hnew := heap_alloc_last w1 (.cells zE 31)
  have NEW := Lib.hid hnew
  have HK0 : Hid (i64B 6) := ⟨by decide, by decide⟩
  obtain ⟨Z3, hZ3⟩ : ∃ Z3, Z3 = evA (Ev.zero 6) none 0 none 0 := ⟨_, rfl⟩
  have hbl := below_setRow hal (Nat.le_refl _) Z3
  have HEW : Hid (EW ((w1.alloc (.cells zE 31)).setRow w1.heap.size Z3) w1.heap.size 31 (Ev.zero 6) none 0 none 0 ((w1.alloc (.cells zE 31)).setRow w1.heap.size Z3)) := ⟨by rw [← hZ3]; exact setRow_heap _ _ _ _ _ _ hnew, zero_wf HK0.out, Turns.refl _ _⟩
  have HZS : Hid (Z3.size = 103 ∧ Z3.all (·.oneCell') = true) := by show _ ∧ _; rw [hZ3]; exact ⟨evA_size (zero_wf HK0.out) _ _ _ _, evA_one _ _ _ _ _⟩
  have hbu := built_ek 6
  rw [← hZ3] at hbu
  have HBU := Lib.hid hbu
  have hkk := cell_below hk hbl
  have HR3 := Lib.hid (Below.keepOld hbl HR1.out)
  have HZ3 := Lib.hid (Below.keepOld hbl HZ.out)
  have HB3 := Lib.hid (HB.out.trans (hbl.mono HB.out.size))
  have HG3 : Hid (w.heap.size + 2 ≤ w1.heap.size) := by show _ ≤ _; rw [HS3.out]; exact Nat.le_refl _
  have HAT3 := Lib.hid (HAT.out.below hbl)
  clear hal hnew hbl hZ3 hbu
  go_upto_region 3 with (first
    | refine Rdr.wpList_build rfl 31 _ rfl [(0, .int .i64 6)] rfl _ HBU.out ?_
    | ((with_reducible refine wpStoreAt 3 ?_); refine wpList_store_row rfl 31 _ _ rfl w1.heap.size Z3 rfl rfl 31 zE NEW.out (infoE _ HZS.out.1) (by rw [HZS.out.1]; exact zE_size) HZS.out.2 ?_))
  try simp only [Act.put, List.setIfInBounds_toArray, List.set_cons_zero, List.set_cons_succ]
  clear hk hkk NEW HBU HZS HC HB HZ HR1 HAT HS3
  generalize (w1.alloc (.cells zE 31)).setRow w1.heap.size Z3 = w3 at *
  generalize w1.heap.size = g3 at *
  rw [HAE.out] at HR3
  have HC3 := Lib.hid (ev_row HWF.out HR3.out)
  have hfz : ∀ j, w3.frozen? ⟨g3, j, none⟩ = false := fun j => HEW.out.frozen j
  have hE1 : w3.cell? ⟨g3, 1, none⟩ = some (.slice none 0 0) := HEW.out.cells.b
  have hE99 : w3.cell? ⟨g3, 99, none⟩ = some (.int .i64 0) := HEW.out.cells.n
  have hP1 : w3.cell? ⟨w.heap.size, 1, none⟩ = some (.slice pb b.length cb) := HC3.out.b
  have hP99 : w3.cell? ⟨w.heap.size, 99, none⟩ = some (.int .i64 n) := HC3.out.n
  have hew := HEW.out.units u0 u1 u2 HWF.out.u0 HWF.out.u1 HWF.out.u2
  have HTH := Lib.hid (HEW.out.there 100 3 (by omega))
  go_upto_region 13 with (first
    | refine loadM (by rfl) 29 _ rfl w.heap.size 100 rfl #[.int .i64 u0, .int .i64 u1, .int .i64 u2] _ HC3.out.us Tryd.underlying29 rfl (infoU3 _ rfl) ?_
    | refine wpList_store_mid rfl 29 _ _ rfl g3 100 #[.int .i64 u0, .int .i64 u1, .int .i64 u2] rfl rfl HTH.out (infoU3 _ rfl) (by simp [Value.oneCell']) ?_)
  clear hfz hE1 hE99 hP1 hP99
  have hpn := hew.turn.keep HR3.out (by show ¬ w.heap.size = g3; have := HG3.out; omega)
  have hP99 : (w3.setCells g3 100 [.int .i64 u0, .int .i64 u1, .int .i64 u2]).cell? ⟨w.heap.size, 99, none⟩ = some (.int .i64 n) := (ev_row HWF.out hpn).n
  have hfz : ∀ j, (w3.setCells g3 100 [.int .i64 u0, .int .i64 u1, .int .i64 u2]).frozen? ⟨g3, j, none⟩ = false := fun j => hew.frozen j
  have hE99 : (w3.setCells g3 100 [.int .i64 u0, .int .i64 u1, .int .i64 u2]).cell? ⟨g3, 99, none⟩ = some (.int .i64 0) := hew.cells.n
  have HEX := Lib.hid (hew.num n HWF.out.n)
  clear hpn hew
  generalize w3.setCells g3 100 [.int .i64 u0, .int .i64 u1, .int .i64 u2] = w5 at *
  go_upto_region 14 with fail
  clear hfz hE99 hP99
  generalize w5.setCell ⟨g3, 99, none⟩ (.int .i64 n) = wX at *
  skip
  -- the event is told: world wX; HEX : Hid (EW w3 g3 .. ⟨6, [], zeros, zeros, [], zeros, n, u0, u1, u2⟩ none 0 none 0 wX)
  have hbx := HEX.out.turn.below HB3.out.size (fun k hk => by have hk : k = g3 := hk; have := HG3.out; omega)
  have HBX := Lib.hid (HB3.out.trans hbx)
  have hzx := HEX.out.turn.keep HZ3.out (by show ¬ w.heap.size + 1 = g3; have := HG3.out; omega)
  have HZX := Lib.hid hzx
  have HRX : Hid ((wX).heap[g3]? = some (.cells (evA (⟨6, [], zeros, zeros, [], zeros, n, u0, u1, u2⟩) none 0 none 0) 31 (0, 0))) := HEX.out.row
  have HWX : Hid (Ev.Wf (⟨6, [], zeros, zeros, [], zeros, n, u0, u1, u2⟩)) := HEX.out.wf
  obtain ⟨X, hX⟩ : ∃ X, X = evA (⟨6, [], zeros, zeros, [], zeros, n, u0, u1, u2⟩) none 0 none 0 := ⟨_, rfl⟩
  rw [← hX] at HRX
  have HXS : Hid (X.size = 103 ∧ X.all (·.oneCell') = true) := by show _ ∧ _; rw [hX]; exact ⟨evA_size HWX.out _ _ _ _, evA_one _ _ _ _ _⟩
  have HXE := Lib.hid hX
  clear hbx hzx hX
  go_wp2_with (first
    | refine wpList_load_row rfl 31 _ rfl g3 rfl 31 X (0, 0) _ HRX.out Tryd.underlying31 rfl (infoE _ HXS.out.1) ?_
    | refine wpList_store_row rfl 31 _ _ rfl (w.heap.size + 1) X rfl rfl 31 zE HZX.out (infoE _ HXS.out.1) (by rw [HXS.out.1]; exact zE_size) HXS.out.2 ?_)
  have HS := Lib.hid (setRow_heap _ _ _ X _ _ HZX.out)
  have hbe := below_setRow HBX.out (show w.heap.size ≤ w.heap.size + 1 by omega) X
  have HTT : Hid (Turns (fun k => k = g3 ∨ k = w.heap.size + 1) w3 ((wX).setRow (w.heap.size + 1) X)) := (HEX.out.turn.imp (fun k _ hk => .inl hk)).trans (turns_setRow _ _ _) (fun k _ hk => .inr hk)
  refine bodyPost_ret (results_cell_row rfl _ _ _ _ _ _ _ rfl HS.out Tryd.underlying31 rfl (infoE _ HXS.out.1)) rfl ?_
  refine ⟨none, 0, none, 0, congrArg (fun z => Ending.returned (Value.agg z)) HXE.out, ⟨HWX.out, ?_, ?_⟩, hbe⟩
  · exact Sl.nil _ _
  · exact Is.nil _ _
theorem only_any (e : Ev) (hk : 1 ≤ e.k ∧ e.k ≤ 6) (pb : Option Addr) (cb : Nat) (q : Option Addr) (c : Nat) (w : World) (h : EvAt w e pb cb q c) :
    Calls Tryd.prog 20 #[.agg (evA e pb cb q c)] w (EvP (only e) w) := by
  obtain ⟨k, b, hh, p, tx, id, n, u0, u1, u2⟩ := e
  have h1 : 1 ≤ k := hk.1
  have h2 : k ≤ 6 := hk.2
  have hc : k = 1 ∨ k = 2 ∨ k = 3 ∨ k = 4 ∨ k = 5 ∨ k = 6 := by omega
  rcases hc with rfl | rfl | rfl | rfl | rfl | rfl
  · exact only1 b hh p tx id n u0 u1 u2 pb cb q c w h
  · exact only2 b hh p tx id n u0 u1 u2 pb cb q c w h
  · exact only3 b hh p tx id n u0 u1 u2 pb cb q c w h
  · exact only4 b hh p tx id n u0 u1 u2 pb cb q c w h
  · exact only5 b hh p tx id n u0 u1 u2 pb cb q c w h
  · exact only6 b hh p tx id n u0 u1 u2 pb cb q c w h
end Go.Proofs.YtcddgbobbogpgaaDoor.Scr

namespace Go.Mir
open Go.RowKit

section
variable {P : Program} {ops : Array Oper} {S : World → Prop} {Q : Exit → Act → World → Prop} {marks : List Nat}
/-- what is listed had all that it waits for listed -/
def closedL (ops : Array Oper) (listed : Array Bool) : Prop := ∀ (j : Nat) (o : Oper), ops[j]? = some o → listed.getD j false = true → ∀ e ∈ o.after, Region.binds .any e = true → listed.getD e.on false = true
theorem closedL.set {listed : Array Bool} (hc : closedL ops listed) {j : Nat} (hj : j ∈ Region.ready .any ops listed) : closedL ops (listed.setIfInBounds j true) := fun k o ho hk e he hb => by
  obtain ⟨_, oj, hoj, hall⟩ := mem_ready.1 hj
  by_cases hjk : j = k
  · subst hjk
    rw [hoj] at ho
    cases ho
    exact getD_set_true (hall e he hb)
  · rw [getD_set_ne false hjk] at hk
    exact getD_set_true (hc k o ho hk e he hb)
end
/-- where an operation alone ends -/
def OnlyQ (K : Act → World → Prop) (Q : Exit → Act → World → Prop) : Exit → Act → World → Prop
  | .normal, a, w => K a w
  | .panic c, a, w => Q (.panic c) a w
  | _, _, _ => False
/-- an operation by its law for a list -/
theorem oper_of_list {P : Program} {o : Oper} {a : Act} {w : World} {K : Act → World → Prop} {Q : Exit → Act → World → Prop} (hg : o.guard = none)
    (h : wpList P #[] (OnlyQ K Q) [o] a w) : Oper.wp P o a w K Q := by
  have hno : ¬ LetsOut (OnlyQ K Q) := fun ⟨_, _, h⟩ => h
  unfold wpList at h
  rw [if_pos (by simp [Region.wanted, hg])] at h
  rcases h with h | ⟨_, h⟩
  · replace h : Oper.wp P o a w K (OnlyQ K Q) := h
    unfold Oper.wp at h ⊢
    unfold Oper.upon at h ⊢
    split at h
    · exact h
    · exact h
    · exact h
    · refine Calls.mono h ?_
      intro e w' he
      cases e with
      | returned v => exact he
      | panicked c => exact he
      | outgrown => exact absurd he hno
    · exact h
    · exact h
    · exact h.elim
  · exact absurd h hno
theorem only_end {P : Program} {ops : Array Oper} {K : Act → World → Prop} {Q : Exit → Act → World → Prop} {a : Act} {w : World} (h : K a w) : wpList P ops (OnlyQ K Q) [] a w := h
end Go.Mir
