/- LAYER 9: one call both ways. Conditions: sizes that fit. -/
import Derived.Test.YtbfddfmglkhimaaDoorRdRef3
import Derived.Test.YtbfddfmglkhimaaDoorSame
import Derived.Test.YtbfddfmglkhimaaDoorEager3
namespace Go.Proofs.YtbfddfmglkhimaaDoor.RR
open Go.RowKit Go.Mir Go.Mir.Parts Rdr

abbrev stepW (w : World) (p : Option Addr) (n c : Nat) (pos bad : Int) (kind a b : Int) : World :=
  ((w.alloc (.cells #[.slice p n c, .int .i64 pos, .int .i64 bad] 39)).alloc (.cells #[.int .i64 kind, .int .i64 a, .int .i64 b] 41)).alloc (.cells #[.slice none 0 0, .int .i64 0, .int .i64 0] 39)
theorem stepW_rows (w : World) (p : Option Addr) (n c : Nat) (pos bad : Int) (kind a b : Int) :
    (stepW w p n c pos bad kind a b).heap[w.heap.size]? = some (.cells #[.slice p n c, .int .i64 pos, .int .i64 bad] 39 (0, 0)) ∧
    (stepW w p n c pos bad kind a b).heap[w.heap.size + 1]? = some (.cells #[.int .i64 kind, .int .i64 a, .int .i64 b] 41 (0, 0)) ∧
    (stepW w p n c pos bad kind a b).heap[w.heap.size + 2]? = some (.cells #[.slice none 0 0, .int .i64 0, .int .i64 0] 39 (0, 0)) ∧
    (stepW w p n c pos bad kind a b).heap.size = w.heap.size + 3 ∧ Below w.heap.size w (stepW w p n c pos bad kind a b) := by
  refine ⟨block_old _ (block_old _ (heap_alloc_last _ _)), block_old _ ?_, ?_, by simp [stepW], ((Below.allocs _ _).alloc (by simp) _).alloc (by simp; omega) _⟩
  · have h := heap_alloc_last (w.alloc (.cells #[.slice p n c, .int .i64 pos, .int .i64 bad] 39)) (.cells #[.int .i64 kind, .int .i64 a, .int .i64 b] 41)
    simpa using h
  · have h := heap_alloc_last ((w.alloc (.cells #[.slice p n c, .int .i64 pos, .int .i64 bad] 39)).alloc (.cells #[.int .i64 kind, .int .i64 a, .int .i64 b] 41)) (.cells #[.slice none 0 0, .int .i64 0, .int .i64 0] 39)
    simpa using h
/-- what the reference's call left, and the rows of this call -/
structure Mid (w w3 : World) (b8 : Nat) (p : Option Addr) (n c : Nat) (P2 E2 kind a b : Int) : Prop where
  low : Below w.heap.size w w3
  r1 : w3.heap[w.heap.size + 1]? = some (.cells #[.int .i64 kind, .int .i64 a, .int .i64 b] 41 (0, 0))
  r2 : w3.heap[w.heap.size + 2]? = some (.cells #[.slice none 0 0, .int .i64 0, .int .i64 0] 39 (0, 0))
  r8 : w3.heap[b8]? = some (.cells #[.slice p n c, .int .i64 P2, .int .i64 E2] 39 (0, 0))
  h8 : w.heap.size + 3 ≤ b8
theorem Mid.turn {w w3 w4 : World} {b8 rb : Nat} {p : Option Addr} {n c : Nat} {P2 E2 kind a b : Int} (h : Mid w w3 b8 p n c P2 E2 kind a b) (ht : Turns (fun k => k = rb) w3 w4) (hr : rb < w.heap.size) :
    w4.heap[w.heap.size + 1]? = some (.cells #[.int .i64 kind, .int .i64 a, .int .i64 b] 41 (0, 0)) ∧ w4.heap[w.heap.size + 2]? = some (.cells #[.slice none 0 0, .int .i64 0, .int .i64 0] 39 (0, 0)) ∧
    w4.heap[b8]? = some (.cells #[.slice p n c, .int .i64 P2, .int .i64 E2] 39 (0, 0)) :=
  ⟨ht.keep h.r1 (by omega), ht.keep h.r2 (by omega), ht.keep h.r8 (by have := h.h8; omega)⟩
theorem Mid.make {w W2 w1 : World} {p : Option Addr} {n c : Nat} {P2 E2 pos bad kind a b : Int} (hW : W2 = stepW w p n c pos bad kind a b) (hb : Below W2.heap.size W2 w1) :
    Mid w (w1.alloc (.cells #[.slice p n c, .int .i64 P2, .int .i64 E2] 39)) w1.heap.size p n c P2 E2 kind a b := by
  obtain ⟨_, r1, r2, hs, hb0⟩ := stepW_rows w p n c pos bad kind a b
  rw [← hW] at r1 r2 hs hb0
  have h1 := hb.size
  have hal := Below.allocs w1 (.cells #[.slice p n c, .int .i64 P2, .int .i64 E2] 39)
  exact ⟨(hb0.trans (hb.mono hb0.size)).trans (hal.mono (by omega)), Below.keepOld hal (Below.keepOld hb r1), Below.keepOld hal (Below.keepOld hb r2), heap_alloc_last _ _, by omega⟩
theorem one3 (p : Option Addr) (n c : Nat) (P E : Int) : (#[Value.slice p n c, .int .i64 P, .int .i64 E] : Array Value).all (·.oneCell') = true := by simp [Value.oneCell']
theorem LeftR.set {base rb b2 : Nat} {s : RD} {w y : World} {M : Array Value} (h : LeftR base rb s w y) (hr : rb < w.heap.size) (hb : w.heap.size ≤ b2) (hrow : y.heap[b2]? = some (.cells M 39 (0, 0))) (X : Array Value) : LeftR base rb s w (y.setRow b2 X) := by
  have ht := turns_setRow y b2 X
  refine ⟨h.there.touch ht (fun k M' t fr hk h2 h3 => ?_), ?_, ?_⟩
  · subst h3
    rw [hrow] at hk
    injection hk with e1
    injection e1 with _ e2
    subst e2
    revert h2
    decide
  · exact h.turn.trans ht (fun k hk e => by omega)
  · rw [← h.same1]
    obtain ⟨v, bv, h1⟩ := h.there
    have hc := h1.cells.2.1
    rw [hc, ht.cell hc (by show ¬ rb = b2; omega)]
theorem bytes_turn {rb : Nat} (p : Option Addr) (n c : Nat) (s : RD) (k : Int) (hk : -9223372036854775808 ≤ k ∧ k ≤ 9223372036854775807) (W w : World) (hs : RD.ok s) (hB : Bs W p n c s.l) (hp : 0 < n → ∀ a, p = some a → a.block < rb) (hb : Below W.heap.size W w) :
    Calls Tryd.prog 36 #[rs p n c s, .int .i64 k] w fun e w' => ∃ q d, e = .returned (.tuple #[rs p n c (s.takeS k true), .slice q (s.takeB k true).length d]) ∧ (∀ w'', Turns (fun k => k = rb ∨ W.heap.size ≤ k) W w'' → Bs w'' q (s.takeB k true).length d (s.takeB k true)) ∧ Below w.heap.size w w' := by
  have H := bytes_any p n c s k hk W w hs hB
  refine H.mono ?_
  rintro e w' ⟨q, d, he, h1, h2⟩
  refine ⟨q, d, he, fun w'' ht => h1 w'' (fun hn a ha j v hv => ht.cell hv ?_), h2⟩
  have hlt := block_lt_of_cell hv
  rw [addr_add_block] at hlt ⊢
  have := hp hn a ha
  omega
/-- a row of ids, one behind the other -/
def chunks (L : List UInt8) (k : Nat) : List (List UInt8) := (List.range k).map fun i => (L.drop (32 * i)).take 32
theorem chunks_flat (L : List UInt8) : ∀ k, (chunks L k).flatMap bytesV = bytesV (L.take (32 * k))
  | 0 => rfl
  | k + 1 => by
    have ih := chunks_flat L k
    unfold chunks at ih ⊢
    rw [List.range_succ, List.map_append, List.flatMap_append, ih, Nat.mul_add, List.take_add, bytesV_append]
    simp
theorem is_chunks {w : World} {base : Nat} {p : Option Addr} {k c : Nat} {L : List UInt8} (h : w.ownsRow base 55 32 (.slice p k c) k (bytesV L)) (hl : L.length = 32 * k) : Is w p k c 32 (chunks L k) := by
  obtain ⟨p', c', he, hs⟩ := own_sl h
  cases he
  refine ⟨by rw [chunks_flat, List.take_of_length_le (by omega)]; exact hs, fun x hx => ?_, by simp [chunks]⟩
  simp only [chunks, List.mem_map, List.mem_range] at hx
  obtain ⟨i, hi, rfl⟩ := hx
  rw [List.length_take, List.length_drop]
  omega
set_option maxRecDepth 100000 in
set_option maxHeartbeats 3200000 in
theorem step_num {base rb : Nat} {s : RD} (p : Option Addr) (n c : Nat) (kind a b : Int) (w : World) (h : RAt w base rb s) (hB : Bs w p n c s.l) (hpb : 0 < n → ∀ a, p = some a → a.block < base) (ha : -9223372036854775808 ≤ a ∧ a ≤ 9223372036854775807) (hb0 : -9223372036854775808 ≤ b ∧ b ≤ 9223372036854775807) (hk : kind = 0) :
    Calls Tryd.prog 16 #[.pointer (some ⟨rb, 0, none⟩), rs p n c s, .agg #[.int .i64 kind, .int .i64 a, .int .i64 b]] w fun e w' => e = .returned (.tuple #[rs p n c (s.numS a), .bool true]) ∧ LeftR base rb (s.numS a) w w' := by
  have t0 : (kind == 0) = true := by rw [beq_iff_eq]; omega
  have hrl : rb < w.heap.size ∧ base ≤ rb := by obtain ⟨v, bv, h⟩ := h; exact ⟨h.lt, h.low⟩
  have hok := Rdr_ok h
  have HR : Hid (∀ w0, Below w.heap.size w w0 → Calls Tryd.prog 35 #[rr p n c (s.pos : Int) s.err, .int .i64 a] w0 (fun e w' => e = .returned (.tuple #[rr p n c ((s.numS a).pos : Int) (s.numS a).err, .int .u64 (s.numV a : Int)]) ∧ Below w0.heap.size w0 w')) := fun w0 hb => num_any p n c s a ha w0 hok (hB.below hb)
  have HN : Hid (∀ w0, Below w.heap.size w w0 → Calls Tryd.prog 10 #[.pointer (some ⟨rb, 0, none⟩), .int .i64 a] w0 (fun e w' => e = .returned (.int .u64 (s.numV a : Int)) ∧ LeftR base rb (s.numS a) w0 w')) := fun w0 hb => Rdr.num_any w0 (h.below hb) a ha
  have HF : Hid (∀ w0 w', Below w.heap.size w w0 → LeftR base rb (s.numS a) w0 w' → LeftR base rb (s.numS a) w w') := fun w0 w' hb hl => LeftR.trans (LeftR.same h hb) hl
  have HG := Lib.hid (show rr p n c ((s.numS a).pos : Int) (s.numS a).err = rs p n c (s.numS a) from rfl)
  show Calls _ _ #[_, rr p n c (s.pos : Int) s.err, _] _ _
  clear h hB hk hok
  generalize ((s.numS a).pos : Int) = P2 at *
  generalize (s.numS a).err = E2 at *
  generalize (s.pos : Int) = P at *
  generalize s.err = E at *
  generalize s.numV a = V at *
  go_enter Tryd.func16, Tryd.ntmps16
  go_wp2_with fail
  generalize hW2 : ((w.alloc (.cells #[.slice p n c, .int .i64 P, .int .i64 E] 39)).alloc (.cells #[.int .i64 kind, .int .i64 a, .int .i64 b] 41)).alloc (.cells #[.slice none 0 0, .int .i64 0, .int .i64 0] 39) = W2
  have HW2 : Hid (W2 = stepW w p n c P E kind a b) := hW2.symm
  clear hW2
  refine (HR.out _ (by rw [HW2.out]; exact (stepW_rows _ _ _ _ _ _ _ _ _).2.2.2.2)).mono ?_
  rintro e w1 ⟨rfl, hb⟩
  have HM := Lib.hid (Mid.make (P2 := P2) (E2 := E2) HW2.out hb)
  clear hb
  go_upto_region 4 with fail
  generalize w1.alloc (.cells #[.slice p n c, .int .i64 P2, .int .i64 E2] 39) = w3 at *
  have HS0 : Hid (∀ w', Turns (fun k => k = rb ∨ k = w.heap.size + 2) w3 w' → w'.heap[w.heap.size + 1]? = some (.cells #[.int .i64 kind, .int .i64 a, .int .i64 b] 41 (0, 0)) ∧ w'.heap[w1.heap.size]? = some (.cells #[.slice p n c, .int .i64 P2, .int .i64 E2] 39 (0, 0))) :=
    fun w' ht => ⟨ht.keep HM.out.r1 (by omega), ht.keep HM.out.r8 (by have := HM.out.h8; omega)⟩
  have HK : Hid (∀ w', Turns (fun k => k = rb ∨ k = w.heap.size + 2) w3 w' → w'.cell? ⟨w.heap.size + 1, 1, none⟩ = some (.int .i64 a) ∧ w'.cell? ⟨w.heap.size + 1, 2, none⟩ = some (.int .i64 b)) := fun w' ht => ⟨(row3 (HS0.out w' ht).1).2.1, (row3 (HS0.out w' ht).1).2.2.1⟩
  have HKR : Hid (∀ w', Turns (fun k => k = rb ∨ k = w.heap.size + 2) w3 w' → w'.rangeAt w1.heap.size 0 (#[.slice p n c, .int .i64 P2, .int .i64 E2] : Array Value).toList) := fun w' ht j v hv => by rw [cell_of_row _ _ _ _ _ _ (HS0.out w' ht).2, ← Array.getElem?_toList, Nat.zero_add]; exact hv
  refine wp_region_eager_in (Turns (fun k => k = rb ∨ k = w.heap.size + 2) w3) [(0, true), (1, true), (2, true), (3, true), (5, true), (4, false), (6, true), (7, false), (8, true)] (by kernel_rfl) (by kernel_rfl) ?_ (eagerOpen rfl ?_)
  · exact (Turns.refl _ _).drew
  have hy0 : Turns (fun k => k = rb ∨ k = w.heap.size + 2) w3 w3.drew := (Turns.refl _ _).drew
  repeat (first
    | ((with_reducible refine eagerLoadAt 8 ?_); refine wpEager_load (by rfl) 39 _ rfl w1.heap.size 0 rfl #[.slice p n c, .int .i64 P2, .int .i64 E2] _ (fun w' hb => HKR.out w' hb) Tryd.underlying39 rfl sizeR ?_; (try simp only [Act.put, List.setIfInBounds_toArray, List.set_cons_zero, List.set_cons_succ]); (try refine eagerOpen rfl ?_))
    | (first | (apply wpEager_take; (· rfl); (· (intro w' hb'; go_simp; try with_reducible rfl)); (try simp only [Act.put, List.setIfInBounds_toArray, List.set_cons_zero, List.set_cons_succ]); (try refine eagerOpen rfl ?_)) | (refine wpEager_skip (by rfl) ?_; (try simp only [Act.put, List.setIfInBounds_toArray, List.set_cons_zero, List.set_cons_succ]); (try refine eagerOpen rfl ?_)) | (refine wpEager_off (by rfl) ?_; (try simp only [Act.put, List.setIfInBounds_toArray, List.set_cons_zero, List.set_cons_succ]); (try refine eagerOpen rfl ?_)))
    | (apply wpEager_take; (· rfl); (· (intro w' hb'; have hk' := (HK.out) w' hb'; go_split_ands; go_simp; try with_reducible rfl)); (try simp only [Act.put, List.setIfInBounds_toArray, List.set_cons_zero, List.set_cons_succ]); (try refine eagerOpen rfl ?_)))
  (refine wpEager_op (by rfl) (fun K hK => ?_); go_simp; (refine (HN.out _ (HM.out.low.drew)).mono ?_; rintro e y ⟨rfl, hl⟩; have HL := Lib.hid hl; have hy1 : Turns (fun k => k = rb ∨ k = w.heap.size + 2) w3 y := hy0.trans hl.turn (fun _ _ h => .inl h); clear hl); refine Shut.out hK _ _ (by assumption) ?_; clear hK K; (try simp only [Act.put, List.setIfInBounds_toArray, List.set_cons_zero, List.set_cons_succ]); (try refine eagerOpen rfl ?_))
  repeat (first | (apply wpEager_take; (· rfl); (· (intro w' hb'; go_simp; try with_reducible rfl)); (try simp only [Act.put, List.setIfInBounds_toArray, List.set_cons_zero, List.set_cons_succ]); (try refine eagerOpen rfl ?_)) | (refine wpEager_skip (by rfl) ?_; (try simp only [Act.put, List.setIfInBounds_toArray, List.set_cons_zero, List.set_cons_succ]); (try refine eagerOpen rfl ?_)) | (refine wpEager_off (by rfl) ?_; (try simp only [Act.put, List.setIfInBounds_toArray, List.set_cons_zero, List.set_cons_succ]); (try refine eagerOpen rfl ?_)))
  have HR2 : Hid (y.heap[w.heap.size + 2]? = some (.cells #[.slice none 0 0, .int .i64 0, .int .i64 0] 39 (0, 0))) := HL.out.turn.keep HM.out.r2 (by omega)
  refine wpEager_op (by rfl) (fun K hK => ?_)
  refine wp_store_row 39 _ _ rfl (w.heap.size + 2) #[.slice p n c, .int .i64 P2, .int .i64 E2] rfl rfl 39 #[.slice none 0 0, .int .i64 0, .int .i64 0] HR2.out sizeR rfl (one3 _ _ _ _ _) ?_
  refine Shut.out hK _ _ (hy1.trans (turns_setRow y (w.heap.size + 2) _) (fun _ _ h => .inr h)) ?_
  clear hK K
  (try simp only [Act.put, List.setIfInBounds_toArray, List.set_cons_zero, List.set_cons_succ]); (try refine eagerOpen rfl ?_)
  repeat (first | (apply wpEager_take; (· rfl); (· (intro w' hb'; go_simp; try with_reducible rfl)); (try simp only [Act.put, List.setIfInBounds_toArray, List.set_cons_zero, List.set_cons_succ]); (try refine eagerOpen rfl ?_)) | (refine wpEager_skip (by rfl) ?_; (try simp only [Act.put, List.setIfInBounds_toArray, List.set_cons_zero, List.set_cons_succ]); (try refine eagerOpen rfl ?_)) | (refine wpEager_off (by rfl) ?_; (try simp only [Act.put, List.setIfInBounds_toArray, List.set_cons_zero, List.set_cons_succ]); (try refine eagerOpen rfl ?_)))
  refine eagerEnd ?_
  have HRS := Lib.hid (setRow_heap _ _ _ #[.slice p n c, .int .i64 P2, .int .i64 E2] _ _ HR2.out)
  go_wp2_with fail
  refine bodyPost_ret (results_cell_tmp rfl _ _ _ _ _ _ _ rfl HRS.out Tryd.underlying39 rfl sizeR) rfl ?_
  exact ⟨by rw [← HG.out]; rfl, LeftR.set (HF.out _ _ HM.out.low.drew HL.out) hrl.1 (by omega) HR2.out _⟩
set_option maxRecDepth 100000 in
set_option maxHeartbeats 3200000 in
theorem step_count {base rb : Nat} {s : RD} (p : Option Addr) (n c : Nat) (kind a b : Int) (w : World) (h : RAt w base rb s) (hB : Bs w p n c s.l) (hpb : 0 < n → ∀ a, p = some a → a.block < base) (ha : -9223372036854775808 ≤ a ∧ a ≤ 9223372036854775807) (hb0 : -9223372036854775808 ≤ b ∧ b ≤ 9223372036854775807) (hk : kind = 2) :
    Calls Tryd.prog 16 #[.pointer (some ⟨rb, 0, none⟩), rs p n c s, .agg #[.int .i64 kind, .int .i64 a, .int .i64 b]] w fun e w' => e = .returned (.tuple #[rs p n c (s.cntS a b), .bool true]) ∧ LeftR base rb (s.cntS a b) w w' := by
  have t0 : (kind == 0) = false := by rw [beq_eq_false_iff_ne]; omega
  have t1 : (kind == 1) = false := by rw [beq_eq_false_iff_ne]; omega
  have t2 : (kind == 2) = true := by rw [beq_iff_eq]; omega
  have hrl : rb < w.heap.size ∧ base ≤ rb := by obtain ⟨v, bv, h⟩ := h; exact ⟨h.lt, h.low⟩
  have hok := Rdr_ok h
  have HR : Hid (∀ w0, Below w.heap.size w w0 → Calls Tryd.prog 37 #[rr p n c (s.pos : Int) s.err, .int .i64 a, .int .i64 b] w0 (fun e w' => e = .returned (.tuple #[rr p n c ((s.cntS a b).pos : Int) (s.cntS a b).err, .int .i64 (s.cntV a b)]) ∧ Below w0.heap.size w0 w')) := fun w0 hb => count_any p n c s a ha b hb0 w0 hok (hB.below hb)
  have HN : Hid (∀ w0, Below w.heap.size w w0 → Calls Tryd.prog 21 #[.pointer (some ⟨rb, 0, none⟩), .int .i64 a, .int .i64 b] w0 (fun e w' => e = .returned (.int .i64 (s.cntV a b)) ∧ LeftR base rb (s.cntS a b) w0 w')) := fun w0 hb => Rdr.count_any w0 (h.below hb) a ha b hb0
  have HF : Hid (∀ w0 w', Below w.heap.size w w0 → LeftR base rb (s.cntS a b) w0 w' → LeftR base rb (s.cntS a b) w w') := fun w0 w' hb hl => LeftR.trans (LeftR.same h hb) hl
  have HG := Lib.hid (show rr p n c ((s.cntS a b).pos : Int) (s.cntS a b).err = rs p n c (s.cntS a b) from rfl)
  show Calls _ _ #[_, rr p n c (s.pos : Int) s.err, _] _ _
  clear h hB hk hok
  generalize ((s.cntS a b).pos : Int) = P2 at *
  generalize (s.cntS a b).err = E2 at *
  generalize (s.pos : Int) = P at *
  generalize s.err = E at *
  generalize s.cntV a b = V at *
  go_enter Tryd.func16, Tryd.ntmps16
  go_wp2_with fail
  generalize hW2 : ((w.alloc (.cells #[.slice p n c, .int .i64 P, .int .i64 E] 39)).alloc (.cells #[.int .i64 kind, .int .i64 a, .int .i64 b] 41)).alloc (.cells #[.slice none 0 0, .int .i64 0, .int .i64 0] 39) = W2
  have HW2 : Hid (W2 = stepW w p n c P E kind a b) := hW2.symm
  clear hW2
  refine (HR.out _ (by rw [HW2.out]; exact (stepW_rows _ _ _ _ _ _ _ _ _).2.2.2.2)).mono ?_
  rintro e w1 ⟨rfl, hb⟩
  have HM := Lib.hid (Mid.make (P2 := P2) (E2 := E2) HW2.out hb)
  clear hb
  go_upto_region 10 with fail
  generalize w1.alloc (.cells #[.slice p n c, .int .i64 P2, .int .i64 E2] 39) = w3 at *
  have HS0 : Hid (∀ w', Turns (fun k => k = rb ∨ k = w.heap.size + 2) w3 w' → w'.heap[w.heap.size + 1]? = some (.cells #[.int .i64 kind, .int .i64 a, .int .i64 b] 41 (0, 0)) ∧ w'.heap[w1.heap.size]? = some (.cells #[.slice p n c, .int .i64 P2, .int .i64 E2] 39 (0, 0))) :=
    fun w' ht => ⟨ht.keep HM.out.r1 (by omega), ht.keep HM.out.r8 (by have := HM.out.h8; omega)⟩
  have HK : Hid (∀ w', Turns (fun k => k = rb ∨ k = w.heap.size + 2) w3 w' → w'.cell? ⟨w.heap.size + 1, 1, none⟩ = some (.int .i64 a) ∧ w'.cell? ⟨w.heap.size + 1, 2, none⟩ = some (.int .i64 b)) := fun w' ht => ⟨(row3 (HS0.out w' ht).1).2.1, (row3 (HS0.out w' ht).1).2.2.1⟩
  have HKR : Hid (∀ w', Turns (fun k => k = rb ∨ k = w.heap.size + 2) w3 w' → w'.rangeAt w1.heap.size 0 (#[.slice p n c, .int .i64 P2, .int .i64 E2] : Array Value).toList) := fun w' ht j v hv => by rw [cell_of_row _ _ _ _ _ _ (HS0.out w' ht).2, ← Array.getElem?_toList, Nat.zero_add]; exact hv
  refine wp_region_eager_in (Turns (fun k => k = rb ∨ k = w.heap.size + 2) w3) [(0, true), (1, true), (2, true), (3, true), (4, true), (5, true), (7, true), (6, false), (8, true), (9, false), (10, true)] (by kernel_rfl) (by kernel_rfl) ?_ (eagerOpen rfl ?_)
  · exact (Turns.refl _ _).drew
  have hy0 : Turns (fun k => k = rb ∨ k = w.heap.size + 2) w3 w3.drew := (Turns.refl _ _).drew
  repeat (first
    | ((with_reducible refine eagerLoadAt 12 ?_); refine wpEager_load (by rfl) 39 _ rfl w1.heap.size 0 rfl #[.slice p n c, .int .i64 P2, .int .i64 E2] _ (fun w' hb => HKR.out w' hb) Tryd.underlying39 rfl sizeR ?_; (try simp only [Act.put, List.setIfInBounds_toArray, List.set_cons_zero, List.set_cons_succ]); (try refine eagerOpen rfl ?_))
    | (first | (apply wpEager_take; (· rfl); (· (intro w' hb'; go_simp; try with_reducible rfl)); (try simp only [Act.put, List.setIfInBounds_toArray, List.set_cons_zero, List.set_cons_succ]); (try refine eagerOpen rfl ?_)) | (refine wpEager_skip (by rfl) ?_; (try simp only [Act.put, List.setIfInBounds_toArray, List.set_cons_zero, List.set_cons_succ]); (try refine eagerOpen rfl ?_)) | (refine wpEager_off (by rfl) ?_; (try simp only [Act.put, List.setIfInBounds_toArray, List.set_cons_zero, List.set_cons_succ]); (try refine eagerOpen rfl ?_)))
    | (apply wpEager_take; (· rfl); (· (intro w' hb'; have hk' := (HK.out) w' hb'; go_split_ands; go_simp; try with_reducible rfl)); (try simp only [Act.put, List.setIfInBounds_toArray, List.set_cons_zero, List.set_cons_succ]); (try refine eagerOpen rfl ?_)))
  (refine wpEager_op (by rfl) (fun K hK => ?_); go_simp; (refine (HN.out _ (HM.out.low.drew)).mono ?_; rintro e y ⟨rfl, hl⟩; have HL := Lib.hid hl; have hy1 : Turns (fun k => k = rb ∨ k = w.heap.size + 2) w3 y := hy0.trans hl.turn (fun _ _ h => .inl h); clear hl); refine Shut.out hK _ _ (by assumption) ?_; clear hK K; (try simp only [Act.put, List.setIfInBounds_toArray, List.set_cons_zero, List.set_cons_succ]); (try refine eagerOpen rfl ?_))
  repeat (first | (apply wpEager_take; (· rfl); (· (intro w' hb'; go_simp; try with_reducible rfl)); (try simp only [Act.put, List.setIfInBounds_toArray, List.set_cons_zero, List.set_cons_succ]); (try refine eagerOpen rfl ?_)) | (refine wpEager_skip (by rfl) ?_; (try simp only [Act.put, List.setIfInBounds_toArray, List.set_cons_zero, List.set_cons_succ]); (try refine eagerOpen rfl ?_)) | (refine wpEager_off (by rfl) ?_; (try simp only [Act.put, List.setIfInBounds_toArray, List.set_cons_zero, List.set_cons_succ]); (try refine eagerOpen rfl ?_)))
  have HR2 : Hid (y.heap[w.heap.size + 2]? = some (.cells #[.slice none 0 0, .int .i64 0, .int .i64 0] 39 (0, 0))) := HL.out.turn.keep HM.out.r2 (by omega)
  refine wpEager_op (by rfl) (fun K hK => ?_)
  refine wp_store_row 39 _ _ rfl (w.heap.size + 2) #[.slice p n c, .int .i64 P2, .int .i64 E2] rfl rfl 39 #[.slice none 0 0, .int .i64 0, .int .i64 0] HR2.out sizeR rfl (one3 _ _ _ _ _) ?_
  refine Shut.out hK _ _ (hy1.trans (turns_setRow y (w.heap.size + 2) _) (fun _ _ h => .inr h)) ?_
  clear hK K
  (try simp only [Act.put, List.setIfInBounds_toArray, List.set_cons_zero, List.set_cons_succ]); (try refine eagerOpen rfl ?_)
  repeat (first | (apply wpEager_take; (· rfl); (· (intro w' hb'; go_simp; try with_reducible rfl)); (try simp only [Act.put, List.setIfInBounds_toArray, List.set_cons_zero, List.set_cons_succ]); (try refine eagerOpen rfl ?_)) | (refine wpEager_skip (by rfl) ?_; (try simp only [Act.put, List.setIfInBounds_toArray, List.set_cons_zero, List.set_cons_succ]); (try refine eagerOpen rfl ?_)) | (refine wpEager_off (by rfl) ?_; (try simp only [Act.put, List.setIfInBounds_toArray, List.set_cons_zero, List.set_cons_succ]); (try refine eagerOpen rfl ?_)))
  refine eagerEnd ?_
  have HRS := Lib.hid (setRow_heap _ _ _ #[.slice p n c, .int .i64 P2, .int .i64 E2] _ _ HR2.out)
  go_wp2_with fail
  refine bodyPost_ret (results_cell_tmp rfl _ _ _ _ _ _ _ rfl HRS.out Tryd.underlying39 rfl sizeR) rfl ?_
  exact ⟨by rw [← HG.out]; rfl, LeftR.set (HF.out _ _ HM.out.low.drew HL.out) hrl.1 (by omega) HR2.out _⟩
set_option maxRecDepth 100000 in
set_option maxHeartbeats 3200000 in
theorem step_bytes {base rb : Nat} {s : RD} (p : Option Addr) (n c : Nat) (kind a b : Int) (w : World) (h : RAt w base rb s) (hB : Bs w p n c s.l) (hpb : 0 < n → ∀ a, p = some a → a.block < base) (ha : -9223372036854775808 ≤ a ∧ a ≤ 9223372036854775807) (hb0 : -9223372036854775808 ≤ b ∧ b ≤ 9223372036854775807) (hk : kind = 1) :
    Calls Tryd.prog 16 #[.pointer (some ⟨rb, 0, none⟩), rs p n c s, .agg #[.int .i64 kind, .int .i64 a, .int .i64 b]] w fun e w' => e = .returned (.tuple #[rs p n c (s.takeS a true), .bool true]) ∧ LeftR base rb (s.takeS a true) w w' := by
  have t0 : (kind == 0) = false := by rw [beq_eq_false_iff_ne]; omega
  have t1 : (kind == 1) = true := by rw [beq_iff_eq]; omega
  have hrl : rb < w.heap.size ∧ base ≤ rb := by obtain ⟨v, bv, h⟩ := h; exact ⟨h.lt, h.low⟩
  have hok := Rdr_ok h
  have HR : Hid (∀ w0, Below w.heap.size w w0 → Calls Tryd.prog 36 #[rr p n c (s.pos : Int) s.err, .int .i64 a] w0 (fun e w' => ∃ q d, e = .returned (.tuple #[rr p n c ((s.takeS a true).pos : Int) (s.takeS a true).err, .slice q (s.takeB a true).length d]) ∧ (∀ w'', Turns (fun k => k = rb ∨ w.heap.size ≤ k) w w'' → Bs w'' q (s.takeB a true).length d (s.takeB a true)) ∧ Below w0.heap.size w0 w')) := fun w0 hb => bytes_turn p n c s a ha w w0 hok hB (fun hn x hx => by have := hpb hn x hx; have := hrl.2; omega) hb
  have HN : Hid (∀ w0, Below w.heap.size w w0 → Calls Tryd.prog 13 #[.pointer (some ⟨rb, 0, none⟩), .int .i64 a] w0 (fun e w' => ∃ q d, e = .returned (.slice q (s.takeB a true).length d) ∧ w'.ownsRow w0.heap.size 5 1 (.slice q (s.takeB a true).length d) (s.takeB a true).length (bytesV (s.takeB a true)) ∧ LeftR base rb (s.takeS a true) w0 w')) := fun w0 hb => Rdr.bytes_any w0 (h.below hb) a ha
  have HF : Hid (∀ w0 w', Below w.heap.size w w0 → LeftR base rb (s.takeS a true) w0 w' → LeftR base rb (s.takeS a true) w w') := fun w0 w' hb hl => LeftR.trans (LeftR.same h hb) hl
  have HG := Lib.hid (show rr p n c ((s.takeS a true).pos : Int) (s.takeS a true).err = rs p n c (s.takeS a true) from rfl)
  show Calls _ _ #[_, rr p n c (s.pos : Int) s.err, _] _ _
  clear h hB hk hok
  generalize ((s.takeS a true).pos : Int) = P2 at *
  generalize (s.takeS a true).err = E2 at *
  generalize (s.pos : Int) = P at *
  generalize s.err = E at *
  generalize s.takeB a true = L at *
  go_enter Tryd.func16, Tryd.ntmps16
  go_wp2_with fail
  generalize hW2 : ((w.alloc (.cells #[.slice p n c, .int .i64 P, .int .i64 E] 39)).alloc (.cells #[.int .i64 kind, .int .i64 a, .int .i64 b] 41)).alloc (.cells #[.slice none 0 0, .int .i64 0, .int .i64 0] 39) = W2
  have HW2 : Hid (W2 = stepW w p n c P E kind a b) := hW2.symm
  clear hW2
  refine (HR.out _ (by rw [HW2.out]; exact (stepW_rows _ _ _ _ _ _ _ _ _).2.2.2.2)).mono ?_
  rintro e w1 ⟨q, d, rfl, hbq, hb⟩
  have HBQ := Lib.hid hbq
  clear hbq
  have HM := Lib.hid (Mid.make (P2 := P2) (E2 := E2) HW2.out hb)
  clear hb
  go_upto_region 7 with fail
  generalize w1.alloc (.cells #[.slice p n c, .int .i64 P2, .int .i64 E2] 39) = w3 at *
  have HC1 : Hid (∀ w', Turns (fun k => k = rb ∨ k = w.heap.size + 2) w3 w' → (convert 25 9 (.slice q L.length d)).run Tryd.prog w' = .ok (.string (S L)) w') := fun w' ht =>
    run_conv (P := Tryd.prog) 25 9 5 Tryd.underlying25 Tryd.underlying5 Tryd.underlying9 (HBQ.out w' ((Turns.of_below (S := fun k => k = rb ∨ w.heap.size ≤ k) HM.out.low).trans ht (fun k _ h => by rcases h with h | h; (· exact .inl h); (· exact .inr (by omega)))))
  have HS0 : Hid (∀ w', Turns (fun k => k = rb ∨ k = w.heap.size + 2) w3 w' → w'.heap[w.heap.size + 1]? = some (.cells #[.int .i64 kind, .int .i64 a, .int .i64 b] 41 (0, 0)) ∧ w'.heap[w1.heap.size]? = some (.cells #[.slice p n c, .int .i64 P2, .int .i64 E2] 39 (0, 0))) :=
    fun w' ht => ⟨ht.keep HM.out.r1 (by omega), ht.keep HM.out.r8 (by have := HM.out.h8; omega)⟩
  have HK : Hid (∀ w', Turns (fun k => k = rb ∨ k = w.heap.size + 2) w3 w' → w'.cell? ⟨w.heap.size + 1, 1, none⟩ = some (.int .i64 a) ∧ w'.cell? ⟨w.heap.size + 1, 2, none⟩ = some (.int .i64 b)) := fun w' ht => ⟨(row3 (HS0.out w' ht).1).2.1, (row3 (HS0.out w' ht).1).2.2.1⟩
  have HKR : Hid (∀ w', Turns (fun k => k = rb ∨ k = w.heap.size + 2) w3 w' → w'.rangeAt w1.heap.size 0 (#[.slice p n c, .int .i64 P2, .int .i64 E2] : Array Value).toList) := fun w' ht j v hv => by rw [cell_of_row _ _ _ _ _ _ (HS0.out w' ht).2, ← Array.getElem?_toList, Nat.zero_add]; exact hv
  refine wp_region_eager_x (Turns (fun k => k = rb ∨ k = w.heap.size + 2) w3) [(0, true), (1, true), (2, true), (3, true), (6, true), (7, true), (4, false), (5, true), (8, true), (9, false), (10, true)] (by kernel_rfl) (by kernel_rfl) ?_ (eagerXOpen rfl ?_)
  · exact (Turns.refl _ _).drew
  have hy0 : Turns (fun k => k = rb ∨ k = w.heap.size + 2) w3 w3.drew := (Turns.refl _ _).drew
  repeat (first
    | ((with_reducible refine eagerXLoadAt 10 ?_); refine wpEagerX_load (by rfl) 39 _ rfl w1.heap.size 0 rfl #[.slice p n c, .int .i64 P2, .int .i64 E2] _ (fun w' hb => HKR.out w' hb) Tryd.underlying39 rfl sizeR ?_; (try simp only [Act.put, List.setIfInBounds_toArray, List.set_cons_zero, List.set_cons_succ]); (try refine eagerXOpen rfl ?_))
    | (apply wpEagerX_take; (· rfl); (· (intro w' hb'; have hk' := (fun w' hb => HC1.out w' hb) w' hb'; go_split_ands; go_simp; try with_reducible rfl)); (try simp only [Act.put, List.setIfInBounds_toArray, List.set_cons_zero, List.set_cons_succ]); (try refine eagerXOpen rfl ?_))
    | (first | (apply wpEagerX_take; (· rfl); (· (intro w' hb'; go_simp; try with_reducible rfl)); (try simp only [Act.put, List.setIfInBounds_toArray, List.set_cons_zero, List.set_cons_succ]); (try refine eagerXOpen rfl ?_)) | (refine wpEagerX_skip (by rfl) ?_; (try simp only [Act.put, List.setIfInBounds_toArray, List.set_cons_zero, List.set_cons_succ]); (try refine eagerXOpen rfl ?_)) | (refine wpEager_off (by rfl) ?_; (try simp only [Act.put, List.setIfInBounds_toArray, List.set_cons_zero, List.set_cons_succ]); (try refine eagerXOpen rfl ?_)))
    | (apply wpEagerX_take; (· rfl); (· (intro w' hb'; have hk' := (HK.out) w' hb'; go_split_ands; go_simp; try with_reducible rfl)); (try simp only [Act.put, List.setIfInBounds_toArray, List.set_cons_zero, List.set_cons_succ]); (try refine eagerXOpen rfl ?_)))
  (refine wpEagerX_op (by rfl) (fun K hK => ?_); go_simp; (refine (HN.out _ (HM.out.low.drew)).mono ?_; rintro e y ⟨q2, d2, rfl, ho, hl⟩; have HL := Lib.hid hl; have HO := Lib.hid ho; have hy2 : Turns (fun k => k = rb ∨ k = w.heap.size + 2) w3 y := hy0.trans hl.turn (fun _ _ h => .inl h); have hsub : ∀ x, (Turns (fun k => k = w.heap.size + 2) y x) → Turns (fun k => k = rb ∨ k = w.heap.size + 2) w3 x := fun x hx => hy2.trans hx (fun _ _ h => .inr h); have hy1 : Turns (fun k => k = w.heap.size + 2) y y := Turns.refl _ _; clear hl ho hy2); refine Shut.out hK _ _ _ hsub (by assumption) ?_; clear hK K hsub; (try simp only [Act.put, List.setIfInBounds_toArray, List.set_cons_zero, List.set_cons_succ]); (try refine eagerXOpen rfl ?_))
  have HC2 : Hid (∀ w', Turns (fun k => k = w.heap.size + 2) y w' → (convert 25 9 (.slice q2 L.length d2)).run Tryd.prog w' = .ok (.string (S L)) w') := fun w' ht => by
    obtain ⟨p9, c9, e9, hs9⟩ := own_sl (own_touch HO.out ht (fun k hk e => by have h1 := (HO.out.lt k hk).1; have h2 := HM.out.h8; have h3 := (Array.getElem?_eq_some_iff.1 HM.out.r8).1; have h4 : w3.drew.heap.size = w3.heap.size := rfl; omega))
    cases e9
    exact run_conv (P := Tryd.prog) 25 9 5 Tryd.underlying25 Tryd.underlying5 Tryd.underlying9 hs9
  repeat (first
    | (first | (apply wpEagerX_take; (· rfl); (· (intro w' hb'; go_simp; try with_reducible rfl)); (try simp only [Act.put, List.setIfInBounds_toArray, List.set_cons_zero, List.set_cons_succ]); (try refine eagerXOpen rfl ?_)) | (refine wpEagerX_skip (by rfl) ?_; (try simp only [Act.put, List.setIfInBounds_toArray, List.set_cons_zero, List.set_cons_succ]); (try refine eagerXOpen rfl ?_)) | (refine wpEager_off (by rfl) ?_; (try simp only [Act.put, List.setIfInBounds_toArray, List.set_cons_zero, List.set_cons_succ]); (try refine eagerXOpen rfl ?_)))
    | (apply wpEagerX_take; (· rfl); (· (intro w' hb'; have hk' := (fun w' hb => HC2.out w' hb) w' hb'; go_split_ands; go_simp; try with_reducible rfl)); (try simp only [Act.put, List.setIfInBounds_toArray, List.set_cons_zero, List.set_cons_succ]); (try refine eagerXOpen rfl ?_)))
  have HR2 : Hid (y.heap[w.heap.size + 2]? = some (.cells #[.slice none 0 0, .int .i64 0, .int .i64 0] 39 (0, 0))) := HL.out.turn.keep HM.out.r2 (by omega)
  refine wpEagerX_op (by rfl) (fun K hK => ?_)
  refine wp_store_row 39 _ _ rfl (w.heap.size + 2) #[.slice p n c, .int .i64 P2, .int .i64 E2] rfl rfl 39 #[.slice none 0 0, .int .i64 0, .int .i64 0] HR2.out sizeR rfl (one3 _ _ _ _ _) ?_
  refine Shut.out hK _ _ _ (fun _ h => h) (turns_setRow y (w.heap.size + 2) _) ?_
  clear hK K
  (try simp only [Act.put, List.setIfInBounds_toArray, List.set_cons_zero, List.set_cons_succ]); (try refine eagerXOpen rfl ?_)
  repeat (first | (apply wpEagerX_take; (· rfl); (· (intro w' hb'; go_simp; try with_reducible rfl)); (try simp only [Act.put, List.setIfInBounds_toArray, List.set_cons_zero, List.set_cons_succ]); (try refine eagerXOpen rfl ?_)) | (refine wpEagerX_skip (by rfl) ?_; (try simp only [Act.put, List.setIfInBounds_toArray, List.set_cons_zero, List.set_cons_succ]); (try refine eagerXOpen rfl ?_)) | (refine wpEager_off (by rfl) ?_; (try simp only [Act.put, List.setIfInBounds_toArray, List.set_cons_zero, List.set_cons_succ]); (try refine eagerXOpen rfl ?_)))
  refine eagerXEnd ?_
  have HRS := Lib.hid (setRow_heap _ _ _ #[.slice p n c, .int .i64 P2, .int .i64 E2] _ _ HR2.out)
  go_wp2_with fail
  refine bodyPost_ret (results_cell_tmp rfl _ _ _ _ _ _ _ rfl HRS.out Tryd.underlying39 rfl sizeR) rfl ?_
  exact ⟨by rw [← HG.out]; rfl, LeftR.set (HF.out _ _ HM.out.low.drew HL.out) hrl.1 (by omega) HR2.out _⟩
set_option maxRecDepth 100000 in
set_option maxHeartbeats 3200000 in
theorem step_id {base rb : Nat} {s : RD} (p : Option Addr) (n c : Nat) (kind a b : Int) (w : World) (h : RAt w base rb s) (hB : Bs w p n c s.l) (hpb : 0 < n → ∀ a, p = some a → a.block < base) (ha : -9223372036854775808 ≤ a ∧ a ≤ 9223372036854775807) (hb0 : -9223372036854775808 ≤ b ∧ b ≤ 9223372036854775807) (hk : kind = 3) :
    Calls Tryd.prog 16 #[.pointer (some ⟨rb, 0, none⟩), rs p n c s, .agg #[.int .i64 kind, .int .i64 a, .int .i64 b]] w fun e w' => e = .returned (.tuple #[rs p n c (s.takeS 32 true), .bool true]) ∧ LeftR base rb (s.takeS 32 true) w w' := by
  have t0 : (kind == 0) = false := by rw [beq_eq_false_iff_ne]; omega
  have t1 : (kind == 1) = false := by rw [beq_eq_false_iff_ne]; omega
  have t2 : (kind == 2) = false := by rw [beq_eq_false_iff_ne]; omega
  have t3 : (kind == 3) = true := by rw [beq_iff_eq]; omega
  have hrl : rb < w.heap.size ∧ base ≤ rb := by obtain ⟨v, bv, h⟩ := h; exact ⟨h.lt, h.low⟩
  have hok := Rdr_ok h
  have HR : Hid (∀ w0, Below w.heap.size w w0 → Calls Tryd.prog 36 #[rr p n c (s.pos : Int) s.err, .int .i64 32] w0 (fun e w' => ∃ q d, e = .returned (.tuple #[rr p n c ((s.takeS 32 true).pos : Int) (s.takeS 32 true).err, .slice q (s.takeB 32 true).length d]) ∧ (∀ w'', Turns (fun k => k = rb ∨ w.heap.size ≤ k) w w'' → Bs w'' q (s.takeB 32 true).length d (s.takeB 32 true)) ∧ Below w0.heap.size w0 w')) := fun w0 hb => bytes_turn p n c s 32 (by omega) w w0 hok hB (fun hn x hx => by have := hpb hn x hx; have := hrl.2; omega) hb
  have HN : Hid (∀ w0, Below w.heap.size w w0 → Calls Tryd.prog 22 #[.pointer (some ⟨rb, 0, none⟩)] w0 (fun e w' => e = .returned (.agg (idA (s.idV 32))) ∧ LeftR base rb (s.takeS 32 true) w0 w')) := fun w0 hb => Rdr.id_any w0 (h.below hb)
  have HLE : Hid ((s.takeB 32 true).length ≤ 32) := by
    have := takeB_len s 32 true
    simp at this
    show _ ≤ _
    omega
  have HID : Hid (s.idV 32 = (s.takeB 32 true) ++ List.replicate (32 - (s.takeB 32 true).length) 0) := rfl
  have HF : Hid (∀ w0 w', Below w.heap.size w w0 → LeftR base rb (s.takeS 32 true) w0 w' → LeftR base rb (s.takeS 32 true) w w') := fun w0 w' hb hl => LeftR.trans (LeftR.same h hb) hl
  have HG := Lib.hid (show rr p n c ((s.takeS 32 true).pos : Int) (s.takeS 32 true).err = rs p n c (s.takeS 32 true) from rfl)
  show Calls _ _ #[_, rr p n c (s.pos : Int) s.err, _] _ _
  clear h hB hk hok
  generalize ((s.takeS 32 true).pos : Int) = P2 at *
  generalize (s.takeS 32 true).err = E2 at *
  generalize (s.pos : Int) = P at *
  generalize s.err = E at *
  generalize (s.takeB 32 true) = L at *
  generalize hXv : s.idV 32 = X at *
  have HXV := Lib.hid hXv
  clear hXv
  go_enter Tryd.func16, Tryd.ntmps16
  go_wp2_with fail
  generalize hW2 : ((w.alloc (.cells #[.slice p n c, .int .i64 P, .int .i64 E] 39)).alloc (.cells #[.int .i64 kind, .int .i64 a, .int .i64 b] 41)).alloc (.cells #[.slice none 0 0, .int .i64 0, .int .i64 0] 39) = W2
  have HW2 : Hid (W2 = stepW w p n c P E kind a b) := hW2.symm
  clear hW2
  refine (HR.out _ (by rw [HW2.out]; exact (stepW_rows _ _ _ _ _ _ _ _ _).2.2.2.2)).mono ?_
  rintro e w1 ⟨q, d, rfl, hbq, hb⟩
  have HBQ := Lib.hid hbq
  clear hbq
  have hsl : ∀ w' g, (Instr.sliceAt 55 (.pointer (some ⟨g, 0, none⟩)) none none none).run Tryd.prog w' = .ok (.slice (some ⟨g, 0, none⟩) 32 32) w' := fun w' g => by kernel_rfl
  have hz := zeroid
  have HM := Lib.hid (Mid.make (P2 := P2) (E2 := E2) HW2.out hb)
  clear hb
  go_upto_region 13 with fail
  generalize w1.alloc (.cells #[.slice p n c, .int .i64 P2, .int .i64 E2] 39) = w3 at *
  have HZ0 : Hid ((w3.alloc (.cells zid 55)).heap[w3.heap.size]? = some (.cells zid 55 (0, 0))) := heap_alloc_last _ _
  have HMIN : Hid ((bytesV L).length = Nat.min L.length 32) := by
    show _ = _
    rw [bytesV_length]
    exact (Nat.min_eq_left HLE.out).symm
  have HFIT : Hid (0 + (bytesV L).length ≤ zid.size) := by
    show _ ≤ _
    rw [bytesV_length, show zid.size = 32 by rfl]
    have := HLE.out
    omega
  have HB3 : Hid (Bs (w3.alloc (.cells zid 55)) q L.length d L) := HBQ.out _ (((Turns.of_below (S := fun k => k = rb ∨ w.heap.size ≤ k) HM.out.low)).alloc _)
  have HPOS : Hid (0 < (bytesV L).length → some (⟨w3.heap.size, 0, none⟩ : Addr) = some ⟨w3.heap.size, 0, none⟩ ∧ ∃ ad, q = some ad ∧ ∀ j v, (bytesV L)[j]? = some v → (w3.alloc (.cells zid 55)).cell? (ad.add j) = some v) := fun hp => by
    rw [bytesV_length] at hp
    obtain ⟨b, o, rfl⟩ := HB3.out.addr hp (by omega)
    exact ⟨rfl, _, rfl, fun j v hv => HB3.out.cell _ rfl j v hv⟩
  have HROW : Hid ((bytesV L ++ zid.toList.drop (bytesV L).length).toArray = idA X) := by
    show _ = _
    rw [HID.out, show zid.toList = bytesV (List.replicate 32 0) from idA_toList _]
    unfold idA
    rw [bytesV_append, bytesV_length, bytesV_rep]
  have HXL : Hid (X.length = 32) := by
    show _ = _
    rw [HID.out, List.length_append, List.length_replicate]
    have := HLE.out
    omega
  have HIL : Hid ((idA X).size = 32) := by show _ = _; rw [idA_size, HXL.out]
  go_upto_region 14 with fail
  go_wp2_with (refine wpList_copy_turn rfl _ _ 25 25 rfl 5 Tryd.underlying25 (by kernel_rfl) _ _ _ _ _ _ rfl rfl w3.heap.size 0 zid 55 HZ0.out (bytesV L) HMIN.out HPOS.out HFIT.out (bytesV_one _) ?_)
  intro w4 HX4 ht4
  rw [HROW.out] at HX4
  go_upto_region 15 with fail
  have HM3 := HM
  clear HM
  have HM : Hid (Mid w w4 w1.heap.size p n c P2 E2 kind a b) := by
    have hh := HM3.out
    have h1 := hh.low.size
    have h8 := (Array.getElem?_eq_some_iff.1 hh.r8).1
    have h9 := hh.h8
    have hal := Below.allocs w3 (.cells zid 55)
    exact ⟨(hh.low.trans (hal.mono (by omega))).trans (ht4.below (by simp; omega) (fun i hi => by omega)), ht4.keep (Below.keepOld hal hh.r1) (by omega), ht4.keep (Below.keepOld hal hh.r2) (by omega), ht4.keep (Below.keepOld hal hh.r8) (by omega), hh.h8⟩
  have HX5 : Hid (w3.heap.size ≠ rb ∧ w3.heap.size ≠ w.heap.size + 2) := by
    have h8 := (Array.getElem?_eq_some_iff.1 HM3.out.r8).1
    have h9 := HM3.out.h8
    show _ ∧ _
    omega
  clear ht4
  have HKX : Hid (∀ w', Turns (fun k => k = rb ∨ k = w.heap.size + 2) w4 w' → w'.rangeAt w3.heap.size 0 (idA X).toList) := fun w' ht j v hv => by
    rw [cell_of_row _ _ _ _ _ _ (ht.keep HX4.out (by have := HX5.out; omega)), ← Array.getElem?_toList, Nat.zero_add]; exact hv
  have hq : ∀ w, (Op.equalIn 10000 55 (.agg (idA X)) (.agg (idA X))).run Tryd.prog w = .ok (X == X) w := fun w => run_equal_ids w 9998 Tryd.underlying55 Tryd.underlying5 (by kernel_rfl) (by kernel_rfl) (by kernel_rfl) X X HXL.out HXL.out
  have hxx : (X == X) = true := by simp
  have HS0 : Hid (∀ w', Turns (fun k => k = rb ∨ k = w.heap.size + 2) w4 w' → w'.heap[w.heap.size + 1]? = some (.cells #[.int .i64 kind, .int .i64 a, .int .i64 b] 41 (0, 0)) ∧ w'.heap[w1.heap.size]? = some (.cells #[.slice p n c, .int .i64 P2, .int .i64 E2] 39 (0, 0))) :=
    fun w' ht => ⟨ht.keep HM.out.r1 (by omega), ht.keep HM.out.r8 (by have := HM.out.h8; omega)⟩
  have HK : Hid (∀ w', Turns (fun k => k = rb ∨ k = w.heap.size + 2) w4 w' → w'.cell? ⟨w.heap.size + 1, 1, none⟩ = some (.int .i64 a) ∧ w'.cell? ⟨w.heap.size + 1, 2, none⟩ = some (.int .i64 b)) := fun w' ht => ⟨(row3 (HS0.out w' ht).1).2.1, (row3 (HS0.out w' ht).1).2.2.1⟩
  have HKR : Hid (∀ w', Turns (fun k => k = rb ∨ k = w.heap.size + 2) w4 w' → w'.rangeAt w1.heap.size 0 (#[.slice p n c, .int .i64 P2, .int .i64 E2] : Array Value).toList) := fun w' ht j v hv => by rw [cell_of_row _ _ _ _ _ _ (HS0.out w' ht).2, ← Array.getElem?_toList, Nat.zero_add]; exact hv
  refine wp_region_eager_in (Turns (fun k => k = rb ∨ k = w.heap.size + 2) w4) [(0, true), (1, true), (3, true), (2, false), (4, true), (5, false), (6, true)] (by kernel_rfl) (by kernel_rfl) ?_ (eagerOpen rfl ?_)
  · exact (Turns.refl _ _).drew
  have hy0 : Turns (fun k => k = rb ∨ k = w.heap.size + 2) w4 w4.drew := (Turns.refl _ _).drew
  repeat (first
    | ((with_reducible refine eagerLoadAt 14 ?_); refine wpEager_load (by rfl) 39 _ rfl w1.heap.size 0 rfl #[.slice p n c, .int .i64 P2, .int .i64 E2] _ (fun w' hb => HKR.out w' hb) Tryd.underlying39 rfl sizeR ?_; (try simp only [Act.put, List.setIfInBounds_toArray, List.set_cons_zero, List.set_cons_succ]); (try refine eagerOpen rfl ?_))
    | ((with_reducible refine eagerLoadAt 16 ?_); refine wpEager_load (by rfl) 55 _ rfl w3.heap.size 0 rfl (idA X) _ (fun w' hb => HKX.out w' hb) Tryd.underlying55 rfl (infoid _ HIL.out) ?_; (try simp only [Act.put, List.setIfInBounds_toArray, List.set_cons_zero, List.set_cons_succ]); (try refine eagerOpen rfl ?_))
    | (first | (apply wpEager_take; (· rfl); (· (intro w' hb'; go_simp; try with_reducible rfl)); (try simp only [Act.put, List.setIfInBounds_toArray, List.set_cons_zero, List.set_cons_succ]); (try refine eagerOpen rfl ?_)) | (refine wpEager_skip (by rfl) ?_; (try simp only [Act.put, List.setIfInBounds_toArray, List.set_cons_zero, List.set_cons_succ]); (try refine eagerOpen rfl ?_)) | (refine wpEager_off (by rfl) ?_; (try simp only [Act.put, List.setIfInBounds_toArray, List.set_cons_zero, List.set_cons_succ]); (try refine eagerOpen rfl ?_)))
    | (apply wpEager_take; (· rfl); (· (intro w' hb'; have hk' := (HK.out) w' hb'; go_split_ands; go_simp; try with_reducible rfl)); (try simp only [Act.put, List.setIfInBounds_toArray, List.set_cons_zero, List.set_cons_succ]); (try refine eagerOpen rfl ?_)))
  (refine wpEager_op (by rfl) (fun K hK => ?_); go_simp; (refine (HN.out _ (HM.out.low.drew)).mono ?_; rintro e y ⟨rfl, hl⟩; have HL := Lib.hid hl; have hy1 : Turns (fun k => k = rb ∨ k = w.heap.size + 2) w4 y := hy0.trans hl.turn (fun _ _ h => .inl h); clear hl); refine Shut.out hK _ _ (by assumption) ?_; clear hK K; (try simp only [Act.put, List.setIfInBounds_toArray, List.set_cons_zero, List.set_cons_succ]); (try refine eagerOpen rfl ?_))
  repeat (first | (apply wpEager_take; (· rfl); (· (intro w' hb'; go_simp; try with_reducible rfl)); (try simp only [Act.put, List.setIfInBounds_toArray, List.set_cons_zero, List.set_cons_succ]); (try refine eagerOpen rfl ?_)) | (refine wpEager_skip (by rfl) ?_; (try simp only [Act.put, List.setIfInBounds_toArray, List.set_cons_zero, List.set_cons_succ]); (try refine eagerOpen rfl ?_)) | (refine wpEager_off (by rfl) ?_; (try simp only [Act.put, List.setIfInBounds_toArray, List.set_cons_zero, List.set_cons_succ]); (try refine eagerOpen rfl ?_)))
  have HR2 : Hid (y.heap[w.heap.size + 2]? = some (.cells #[.slice none 0 0, .int .i64 0, .int .i64 0] 39 (0, 0))) := HL.out.turn.keep HM.out.r2 (by omega)
  refine wpEager_op (by rfl) (fun K hK => ?_)
  refine wp_store_row 39 _ _ rfl (w.heap.size + 2) #[.slice p n c, .int .i64 P2, .int .i64 E2] rfl rfl 39 #[.slice none 0 0, .int .i64 0, .int .i64 0] HR2.out sizeR rfl (one3 _ _ _ _ _) ?_
  refine Shut.out hK _ _ (hy1.trans (turns_setRow y (w.heap.size + 2) _) (fun _ _ h => .inr h)) ?_
  clear hK K
  (try simp only [Act.put, List.setIfInBounds_toArray, List.set_cons_zero, List.set_cons_succ]); (try refine eagerOpen rfl ?_)
  repeat (first | (apply wpEager_take; (· rfl); (· (intro w' hb'; go_simp; try with_reducible rfl)); (try simp only [Act.put, List.setIfInBounds_toArray, List.set_cons_zero, List.set_cons_succ]); (try refine eagerOpen rfl ?_)) | (refine wpEager_skip (by rfl) ?_; (try simp only [Act.put, List.setIfInBounds_toArray, List.set_cons_zero, List.set_cons_succ]); (try refine eagerOpen rfl ?_)) | (refine wpEager_off (by rfl) ?_; (try simp only [Act.put, List.setIfInBounds_toArray, List.set_cons_zero, List.set_cons_succ]); (try refine eagerOpen rfl ?_)))
  refine eagerEnd ?_
  have HRS := Lib.hid (setRow_heap _ _ _ #[.slice p n c, .int .i64 P2, .int .i64 E2] _ _ HR2.out)
  go_wp2_with fail
  refine bodyPost_ret (results_cell_tmp rfl _ _ _ _ _ _ _ rfl HRS.out Tryd.underlying39 rfl sizeR) rfl ?_
  exact ⟨by rw [← HG.out]; rfl, LeftR.set (HF.out _ _ HM.out.low.drew HL.out) hrl.1 (by omega) HR2.out _⟩
set_option maxRecDepth 100000 in
set_option maxHeartbeats 3200000 in
theorem step_hint {base rb : Nat} {s : RD} (p : Option Addr) (n c : Nat) (kind a b : Int) (w : World) (h : RAt w base rb s) (hB : Bs w p n c s.l) (hpb : 0 < n → ∀ a, p = some a → a.block < base) (ha : -9223372036854775808 ≤ a ∧ a ≤ 9223372036854775807) (hb0 : -9223372036854775808 ≤ b ∧ b ≤ 9223372036854775807) (hk : kind = 4) :
    Calls Tryd.prog 16 #[.pointer (some ⟨rb, 0, none⟩), rs p n c s, .agg #[.int .i64 kind, .int .i64 a, .int .i64 b]] w fun e w' => e = .returned (.tuple #[rs p n c (s.takeS 16 true), .bool true]) ∧ LeftR base rb (s.takeS 16 true) w w' := by
  have t0 : (kind == 0) = false := by rw [beq_eq_false_iff_ne]; omega
  have t1 : (kind == 1) = false := by rw [beq_eq_false_iff_ne]; omega
  have t2 : (kind == 2) = false := by rw [beq_eq_false_iff_ne]; omega
  have t3 : (kind == 3) = false := by rw [beq_eq_false_iff_ne]; omega
  have t4 : (kind == 4) = true := by rw [beq_iff_eq]; omega
  have hrl : rb < w.heap.size ∧ base ≤ rb := by obtain ⟨v, bv, h⟩ := h; exact ⟨h.lt, h.low⟩
  have hok := Rdr_ok h
  have HR : Hid (∀ w0, Below w.heap.size w w0 → Calls Tryd.prog 36 #[rr p n c (s.pos : Int) s.err, .int .i64 16] w0 (fun e w' => ∃ q d, e = .returned (.tuple #[rr p n c ((s.takeS 16 true).pos : Int) (s.takeS 16 true).err, .slice q (s.takeB 16 true).length d]) ∧ (∀ w'', Turns (fun k => k = rb ∨ w.heap.size ≤ k) w w'' → Bs w'' q (s.takeB 16 true).length d (s.takeB 16 true)) ∧ Below w0.heap.size w0 w')) := fun w0 hb => bytes_turn p n c s 16 (by omega) w w0 hok hB (fun hn x hx => by have := hpb hn x hx; have := hrl.2; omega) hb
  have HN : Hid (∀ w0, Below w.heap.size w w0 → Calls Tryd.prog 23 #[.pointer (some ⟨rb, 0, none⟩)] w0 (fun e w' => e = .returned (.agg (idA (s.idV 16))) ∧ LeftR base rb (s.takeS 16 true) w0 w')) := fun w0 hb => Rdr.hint_any w0 (h.below hb)
  have HLE : Hid ((s.takeB 16 true).length ≤ 16) := by
    have := takeB_len s 16 true
    simp at this
    show _ ≤ _
    omega
  have HID : Hid (s.idV 16 = (s.takeB 16 true) ++ List.replicate (16 - (s.takeB 16 true).length) 0) := rfl
  have HF : Hid (∀ w0 w', Below w.heap.size w w0 → LeftR base rb (s.takeS 16 true) w0 w' → LeftR base rb (s.takeS 16 true) w w') := fun w0 w' hb hl => LeftR.trans (LeftR.same h hb) hl
  have HG := Lib.hid (show rr p n c ((s.takeS 16 true).pos : Int) (s.takeS 16 true).err = rs p n c (s.takeS 16 true) from rfl)
  show Calls _ _ #[_, rr p n c (s.pos : Int) s.err, _] _ _
  clear h hB hk hok
  generalize ((s.takeS 16 true).pos : Int) = P2 at *
  generalize (s.takeS 16 true).err = E2 at *
  generalize (s.pos : Int) = P at *
  generalize s.err = E at *
  generalize (s.takeB 16 true) = L at *
  generalize hXv : s.idV 16 = X at *
  have HXV := Lib.hid hXv
  clear hXv
  go_enter Tryd.func16, Tryd.ntmps16
  go_wp2_with fail
  generalize hW2 : ((w.alloc (.cells #[.slice p n c, .int .i64 P, .int .i64 E] 39)).alloc (.cells #[.int .i64 kind, .int .i64 a, .int .i64 b] 41)).alloc (.cells #[.slice none 0 0, .int .i64 0, .int .i64 0] 39) = W2
  have HW2 : Hid (W2 = stepW w p n c P E kind a b) := hW2.symm
  clear hW2
  refine (HR.out _ (by rw [HW2.out]; exact (stepW_rows _ _ _ _ _ _ _ _ _).2.2.2.2)).mono ?_
  rintro e w1 ⟨q, d, rfl, hbq, hb⟩
  have HBQ := Lib.hid hbq
  clear hbq
  have hsl : ∀ w' g, (Instr.sliceAt 58 (.pointer (some ⟨g, 0, none⟩)) none none none).run Tryd.prog w' = .ok (.slice (some ⟨g, 0, none⟩) 16 16) w' := fun w' g => by kernel_rfl
  have hz := zerohint
  have HM := Lib.hid (Mid.make (P2 := P2) (E2 := E2) HW2.out hb)
  clear hb
  go_upto_region 18 with fail
  generalize w1.alloc (.cells #[.slice p n c, .int .i64 P2, .int .i64 E2] 39) = w3 at *
  have HZ0 : Hid ((w3.alloc (.cells zhint 58)).heap[w3.heap.size]? = some (.cells zhint 58 (0, 0))) := heap_alloc_last _ _
  have HMIN : Hid ((bytesV L).length = Nat.min L.length 16) := by
    show _ = _
    rw [bytesV_length]
    exact (Nat.min_eq_left HLE.out).symm
  have HFIT : Hid (0 + (bytesV L).length ≤ zhint.size) := by
    show _ ≤ _
    rw [bytesV_length, show zhint.size = 16 by rfl]
    have := HLE.out
    omega
  have HB3 : Hid (Bs (w3.alloc (.cells zhint 58)) q L.length d L) := HBQ.out _ (((Turns.of_below (S := fun k => k = rb ∨ w.heap.size ≤ k) HM.out.low)).alloc _)
  have HPOS : Hid (0 < (bytesV L).length → some (⟨w3.heap.size, 0, none⟩ : Addr) = some ⟨w3.heap.size, 0, none⟩ ∧ ∃ ad, q = some ad ∧ ∀ j v, (bytesV L)[j]? = some v → (w3.alloc (.cells zhint 58)).cell? (ad.add j) = some v) := fun hp => by
    rw [bytesV_length] at hp
    obtain ⟨b, o, rfl⟩ := HB3.out.addr hp (by omega)
    exact ⟨rfl, _, rfl, fun j v hv => HB3.out.cell _ rfl j v hv⟩
  have HROW : Hid ((bytesV L ++ zhint.toList.drop (bytesV L).length).toArray = idA X) := by
    show _ = _
    rw [HID.out, show zhint.toList = bytesV (List.replicate 16 0) from idA_toList _]
    unfold idA
    rw [bytesV_append, bytesV_length, bytesV_rep]
  have HXL : Hid (X.length = 16) := by
    show _ = _
    rw [HID.out, List.length_append, List.length_replicate]
    have := HLE.out
    omega
  have HIL : Hid ((idA X).size = 16) := by show _ = _; rw [idA_size, HXL.out]
  go_upto_region 19 with fail
  go_wp2_with (refine wpList_copy_turn rfl _ _ 25 25 rfl 5 Tryd.underlying25 (by kernel_rfl) _ _ _ _ _ _ rfl rfl w3.heap.size 0 zhint 58 HZ0.out (bytesV L) HMIN.out HPOS.out HFIT.out (bytesV_one _) ?_)
  intro w4 HX4 ht4
  rw [HROW.out] at HX4
  go_upto_region 20 with fail
  have HM3 := HM
  clear HM
  have HM : Hid (Mid w w4 w1.heap.size p n c P2 E2 kind a b) := by
    have hh := HM3.out
    have h1 := hh.low.size
    have h8 := (Array.getElem?_eq_some_iff.1 hh.r8).1
    have h9 := hh.h8
    have hal := Below.allocs w3 (.cells zhint 58)
    exact ⟨(hh.low.trans (hal.mono (by omega))).trans (ht4.below (by simp; omega) (fun i hi => by omega)), ht4.keep (Below.keepOld hal hh.r1) (by omega), ht4.keep (Below.keepOld hal hh.r2) (by omega), ht4.keep (Below.keepOld hal hh.r8) (by omega), hh.h8⟩
  have HX5 : Hid (w3.heap.size ≠ rb ∧ w3.heap.size ≠ w.heap.size + 2) := by
    have h8 := (Array.getElem?_eq_some_iff.1 HM3.out.r8).1
    have h9 := HM3.out.h8
    show _ ∧ _
    omega
  clear ht4
  have HKX : Hid (∀ w', Turns (fun k => k = rb ∨ k = w.heap.size + 2) w4 w' → w'.rangeAt w3.heap.size 0 (idA X).toList) := fun w' ht j v hv => by
    rw [cell_of_row _ _ _ _ _ _ (ht.keep HX4.out (by have := HX5.out; omega)), ← Array.getElem?_toList, Nat.zero_add]; exact hv
  have hq : ∀ w, (Op.equalIn 10000 58 (.agg (idA X)) (.agg (idA X))).run Tryd.prog w = .ok (X == X) w := fun w => run_equal_ids w 9998 Tryd.underlying58 Tryd.underlying5 (by kernel_rfl) (by kernel_rfl) (by kernel_rfl) X X HXL.out HXL.out
  have hxx : (X == X) = true := by simp
  have HS0 : Hid (∀ w', Turns (fun k => k = rb ∨ k = w.heap.size + 2) w4 w' → w'.heap[w.heap.size + 1]? = some (.cells #[.int .i64 kind, .int .i64 a, .int .i64 b] 41 (0, 0)) ∧ w'.heap[w1.heap.size]? = some (.cells #[.slice p n c, .int .i64 P2, .int .i64 E2] 39 (0, 0))) :=
    fun w' ht => ⟨ht.keep HM.out.r1 (by omega), ht.keep HM.out.r8 (by have := HM.out.h8; omega)⟩
  have HK : Hid (∀ w', Turns (fun k => k = rb ∨ k = w.heap.size + 2) w4 w' → w'.cell? ⟨w.heap.size + 1, 1, none⟩ = some (.int .i64 a) ∧ w'.cell? ⟨w.heap.size + 1, 2, none⟩ = some (.int .i64 b)) := fun w' ht => ⟨(row3 (HS0.out w' ht).1).2.1, (row3 (HS0.out w' ht).1).2.2.1⟩
  have HKR : Hid (∀ w', Turns (fun k => k = rb ∨ k = w.heap.size + 2) w4 w' → w'.rangeAt w1.heap.size 0 (#[.slice p n c, .int .i64 P2, .int .i64 E2] : Array Value).toList) := fun w' ht j v hv => by rw [cell_of_row _ _ _ _ _ _ (HS0.out w' ht).2, ← Array.getElem?_toList, Nat.zero_add]; exact hv
  refine wp_region_eager_in (Turns (fun k => k = rb ∨ k = w.heap.size + 2) w4) [(0, true), (1, true), (3, true), (2, false), (4, true), (5, false), (6, true)] (by kernel_rfl) (by kernel_rfl) ?_ (eagerOpen rfl ?_)
  · exact (Turns.refl _ _).drew
  have hy0 : Turns (fun k => k = rb ∨ k = w.heap.size + 2) w4 w4.drew := (Turns.refl _ _).drew
  repeat (first
    | ((with_reducible refine eagerLoadAt 17 ?_); refine wpEager_load (by rfl) 39 _ rfl w1.heap.size 0 rfl #[.slice p n c, .int .i64 P2, .int .i64 E2] _ (fun w' hb => HKR.out w' hb) Tryd.underlying39 rfl sizeR ?_; (try simp only [Act.put, List.setIfInBounds_toArray, List.set_cons_zero, List.set_cons_succ]); (try refine eagerOpen rfl ?_))
    | ((with_reducible refine eagerLoadAt 19 ?_); refine wpEager_load (by rfl) 58 _ rfl w3.heap.size 0 rfl (idA X) _ (fun w' hb => HKX.out w' hb) Tryd.underlying58 rfl (infohint _ HIL.out) ?_; (try simp only [Act.put, List.setIfInBounds_toArray, List.set_cons_zero, List.set_cons_succ]); (try refine eagerOpen rfl ?_))
    | (first | (apply wpEager_take; (· rfl); (· (intro w' hb'; go_simp; try with_reducible rfl)); (try simp only [Act.put, List.setIfInBounds_toArray, List.set_cons_zero, List.set_cons_succ]); (try refine eagerOpen rfl ?_)) | (refine wpEager_skip (by rfl) ?_; (try simp only [Act.put, List.setIfInBounds_toArray, List.set_cons_zero, List.set_cons_succ]); (try refine eagerOpen rfl ?_)) | (refine wpEager_off (by rfl) ?_; (try simp only [Act.put, List.setIfInBounds_toArray, List.set_cons_zero, List.set_cons_succ]); (try refine eagerOpen rfl ?_)))
    | (apply wpEager_take; (· rfl); (· (intro w' hb'; have hk' := (HK.out) w' hb'; go_split_ands; go_simp; try with_reducible rfl)); (try simp only [Act.put, List.setIfInBounds_toArray, List.set_cons_zero, List.set_cons_succ]); (try refine eagerOpen rfl ?_)))
  (refine wpEager_op (by rfl) (fun K hK => ?_); go_simp; (refine (HN.out _ (HM.out.low.drew)).mono ?_; rintro e y ⟨rfl, hl⟩; have HL := Lib.hid hl; have hy1 : Turns (fun k => k = rb ∨ k = w.heap.size + 2) w4 y := hy0.trans hl.turn (fun _ _ h => .inl h); clear hl); refine Shut.out hK _ _ (by assumption) ?_; clear hK K; (try simp only [Act.put, List.setIfInBounds_toArray, List.set_cons_zero, List.set_cons_succ]); (try refine eagerOpen rfl ?_))
  repeat (first | (apply wpEager_take; (· rfl); (· (intro w' hb'; go_simp; try with_reducible rfl)); (try simp only [Act.put, List.setIfInBounds_toArray, List.set_cons_zero, List.set_cons_succ]); (try refine eagerOpen rfl ?_)) | (refine wpEager_skip (by rfl) ?_; (try simp only [Act.put, List.setIfInBounds_toArray, List.set_cons_zero, List.set_cons_succ]); (try refine eagerOpen rfl ?_)) | (refine wpEager_off (by rfl) ?_; (try simp only [Act.put, List.setIfInBounds_toArray, List.set_cons_zero, List.set_cons_succ]); (try refine eagerOpen rfl ?_)))
  have HR2 : Hid (y.heap[w.heap.size + 2]? = some (.cells #[.slice none 0 0, .int .i64 0, .int .i64 0] 39 (0, 0))) := HL.out.turn.keep HM.out.r2 (by omega)
  refine wpEager_op (by rfl) (fun K hK => ?_)
  refine wp_store_row 39 _ _ rfl (w.heap.size + 2) #[.slice p n c, .int .i64 P2, .int .i64 E2] rfl rfl 39 #[.slice none 0 0, .int .i64 0, .int .i64 0] HR2.out sizeR rfl (one3 _ _ _ _ _) ?_
  refine Shut.out hK _ _ (hy1.trans (turns_setRow y (w.heap.size + 2) _) (fun _ _ h => .inr h)) ?_
  clear hK K
  (try simp only [Act.put, List.setIfInBounds_toArray, List.set_cons_zero, List.set_cons_succ]); (try refine eagerOpen rfl ?_)
  repeat (first | (apply wpEager_take; (· rfl); (· (intro w' hb'; go_simp; try with_reducible rfl)); (try simp only [Act.put, List.setIfInBounds_toArray, List.set_cons_zero, List.set_cons_succ]); (try refine eagerOpen rfl ?_)) | (refine wpEager_skip (by rfl) ?_; (try simp only [Act.put, List.setIfInBounds_toArray, List.set_cons_zero, List.set_cons_succ]); (try refine eagerOpen rfl ?_)) | (refine wpEager_off (by rfl) ?_; (try simp only [Act.put, List.setIfInBounds_toArray, List.set_cons_zero, List.set_cons_succ]); (try refine eagerOpen rfl ?_)))
  refine eagerEnd ?_
  have HRS := Lib.hid (setRow_heap _ _ _ #[.slice p n c, .int .i64 P2, .int .i64 E2] _ _ HR2.out)
  go_wp2_with fail
  refine bodyPost_ret (results_cell_tmp rfl _ _ _ _ _ _ _ rfl HRS.out Tryd.underlying39 rfl sizeR) rfl ?_
  exact ⟨by rw [← HG.out]; rfl, LeftR.set (HF.out _ _ HM.out.low.drew HL.out) hrl.1 (by omega) HR2.out _⟩
set_option maxRecDepth 100000 in
set_option maxHeartbeats 3200000 in
theorem step_ids {base rb : Nat} {s : RD} (p : Option Addr) (n c : Nat) (kind a b : Int) (w : World) (h : RAt w base rb s) (hB : Bs w p n c s.l) (hpb : 0 < n → ∀ a, p = some a → a.block < base) (ha : -9223372036854775808 ≤ a ∧ a ≤ 9223372036854775807) (hb0 : -9223372036854775808 ≤ b ∧ b ≤ 9223372036854775807) (hk : kind = 5) :
    Calls Tryd.prog 16 #[.pointer (some ⟨rb, 0, none⟩), rs p n c s, .agg #[.int .i64 kind, .int .i64 a, .int .i64 b]] w fun e w' => e = .returned (.tuple #[rs p n c (s.takeS (32 * a) true), .bool true]) ∧ LeftR base rb (s.takeS (32 * a) true) w w' := by
  have t0 : (kind == 0) = false := by rw [beq_eq_false_iff_ne]; omega
  have t1 : (kind == 1) = false := by rw [beq_eq_false_iff_ne]; omega
  have t2 : (kind == 2) = false := by rw [beq_eq_false_iff_ne]; omega
  have t3 : (kind == 3) = false := by rw [beq_eq_false_iff_ne]; omega
  have t4 : (kind == 4) = false := by rw [beq_eq_false_iff_ne]; omega
  have t5 : (kind == 5) = true := by rw [beq_iff_eq]; omega
  have hrl : rb < w.heap.size ∧ base ≤ rb := by obtain ⟨v, bv, h⟩ := h; exact ⟨h.lt, h.low⟩
  have hok := Rdr_ok h
  have HR : Hid (∀ w0, Below w.heap.size w w0 → Calls Tryd.prog 38 #[rr p n c (s.pos : Int) s.err, .int .i64 a] w0 (fun e w' => ∃ q kk d, (s.takeB (32 * a) true).length = 32 * kk ∧ e = .returned (.tuple #[rr p n c ((s.takeS (32 * a) true).pos : Int) (s.takeS (32 * a) true).err, .slice q kk d]) ∧ w'.ownsRow w0.heap.size 55 32 (.slice q kk d) kk (bytesV (s.takeB (32 * a) true)) ∧ Below w0.heap.size w0 w')) := fun w0 hb => ids_any p n c s a ha w0 hok (hB.below hb)
  have HN : Hid (∀ w0, Below w.heap.size w w0 → Calls Tryd.prog 20 #[.pointer (some ⟨rb, 0, none⟩), .int .i64 a] w0 (fun e w' => ∃ q kk d, (s.takeB (32 * a) true).length = 32 * kk ∧ e = .returned (.slice q kk d) ∧ w'.ownsRow w0.heap.size 55 32 (.slice q kk d) kk (bytesV (s.takeB (32 * a) true)) ∧ LeftR base rb (s.takeS (32 * a) true) w0 w')) := fun w0 hb => Rdr.ids_any w0 (h.below hb) a ha
  have HF : Hid (∀ w0 w', Below w.heap.size w w0 → LeftR base rb (s.takeS (32 * a) true) w0 w' → LeftR base rb (s.takeS (32 * a) true) w w') := fun w0 w' hb hl => LeftR.trans (LeftR.same h hb) hl
  have HG := Lib.hid (show rr p n c ((s.takeS (32 * a) true).pos : Int) (s.takeS (32 * a) true).err = rs p n c (s.takeS (32 * a) true) from rfl)
  show Calls _ _ #[_, rr p n c (s.pos : Int) s.err, _] _ _
  clear h hB hk hok
  generalize ((s.takeS (32 * a) true).pos : Int) = P2 at *
  generalize (s.takeS (32 * a) true).err = E2 at *
  generalize (s.pos : Int) = P at *
  generalize s.err = E at *
  generalize s.takeB (32 * a) true = L at *
  go_enter Tryd.func16, Tryd.ntmps16
  go_wp2_with fail
  generalize hW2 : ((w.alloc (.cells #[.slice p n c, .int .i64 P, .int .i64 E] 39)).alloc (.cells #[.int .i64 kind, .int .i64 a, .int .i64 b] 41)).alloc (.cells #[.slice none 0 0, .int .i64 0, .int .i64 0] 39) = W2
  have HW2 : Hid (W2 = stepW w p n c P E kind a b) := hW2.symm
  clear hW2
  refine (HR.out _ (by rw [HW2.out]; exact (stepW_rows _ _ _ _ _ _ _ _ _).2.2.2.2)).mono ?_
  rintro e w1 ⟨q, kk, d, hkk, rfl, ho, hb⟩
  have HKK := Lib.hid hkk
  have HO1 := Lib.hid ho
  clear hkk ho
  have HM := Lib.hid (Mid.make (P2 := P2) (E2 := E2) HW2.out hb)
  clear hb
  go_upto_region 23 with fail
  generalize hA3 : w1.alloc (.cells #[.slice p n c, .int .i64 P2, .int .i64 E2] 39) = w3 at HM ⊢
  have HA3 := Lib.hid hA3
  clear hA3
  have HO : Hid (w3.ownsRow (w.heap.size + 3) 55 32 (.slice q kk d) kk (bytesV L)) := by
    have h1 := own_base (base' := w.heap.size + 3) HO1.out (fun k hk => by have h2 := (HO1.out.lt k hk).1; have h3 := (stepW_rows w p n c P E kind a b).2.2.2.1; rw [← HW2.out] at h3; omega)
    exact HA3.out ▸ h1.alloc _

  have HS0 : Hid (∀ w', Turns (fun k => k = rb ∨ k = w.heap.size + 2) w3 w' → w'.heap[w.heap.size + 1]? = some (.cells #[.int .i64 kind, .int .i64 a, .int .i64 b] 41 (0, 0)) ∧ w'.heap[w1.heap.size]? = some (.cells #[.slice p n c, .int .i64 P2, .int .i64 E2] 39 (0, 0))) :=
    fun w' ht => ⟨ht.keep HM.out.r1 (by omega), ht.keep HM.out.r8 (by have := HM.out.h8; omega)⟩
  have HK : Hid (∀ w', Turns (fun k => k = rb ∨ k = w.heap.size + 2) w3 w' → w'.cell? ⟨w.heap.size + 1, 1, none⟩ = some (.int .i64 a) ∧ w'.cell? ⟨w.heap.size + 1, 2, none⟩ = some (.int .i64 b)) := fun w' ht => ⟨(row3 (HS0.out w' ht).1).2.1, (row3 (HS0.out w' ht).1).2.2.1⟩
  have HKR : Hid (∀ w', Turns (fun k => k = rb ∨ k = w.heap.size + 2) w3 w' → w'.rangeAt w1.heap.size 0 (#[.slice p n c, .int .i64 P2, .int .i64 E2] : Array Value).toList) := fun w' ht j v hv => by rw [cell_of_row _ _ _ _ _ _ (HS0.out w' ht).2, ← Array.getElem?_toList, Nat.zero_add]; exact hv
  refine wp_region_eager_in (Turns (fun k => k = rb ∨ k = w.heap.size + 2) w3) [(0, true), (1, true), (2, true), (3, true), (5, true), (4, false), (6, false), (7, false), (8, true)] (by kernel_rfl) (by kernel_rfl) ?_ (eagerOpen rfl ?_)
  · exact (Turns.refl _ _).drew
  have hy0 : Turns (fun k => k = rb ∨ k = w.heap.size + 2) w3 w3.drew := (Turns.refl _ _).drew
  repeat (first
    | ((with_reducible refine eagerLoadAt 20 ?_); refine wpEager_load (by rfl) 39 _ rfl w1.heap.size 0 rfl #[.slice p n c, .int .i64 P2, .int .i64 E2] _ (fun w' hb => HKR.out w' hb) Tryd.underlying39 rfl sizeR ?_; (try simp only [Act.put, List.setIfInBounds_toArray, List.set_cons_zero, List.set_cons_succ]); (try refine eagerOpen rfl ?_))
    | (first | (apply wpEager_take; (· rfl); (· (intro w' hb'; go_simp; try with_reducible rfl)); (try simp only [Act.put, List.setIfInBounds_toArray, List.set_cons_zero, List.set_cons_succ]); (try refine eagerOpen rfl ?_)) | (refine wpEager_skip (by rfl) ?_; (try simp only [Act.put, List.setIfInBounds_toArray, List.set_cons_zero, List.set_cons_succ]); (try refine eagerOpen rfl ?_)) | (refine wpEager_off (by rfl) ?_; (try simp only [Act.put, List.setIfInBounds_toArray, List.set_cons_zero, List.set_cons_succ]); (try refine eagerOpen rfl ?_)))
    | (apply wpEager_take; (· rfl); (· (intro w' hb'; have hk' := (HK.out) w' hb'; go_split_ands; go_simp; try with_reducible rfl)); (try simp only [Act.put, List.setIfInBounds_toArray, List.set_cons_zero, List.set_cons_succ]); (try refine eagerOpen rfl ?_)))
  (refine wpEager_op (by rfl) (fun K hK => ?_); go_simp; (refine (HN.out _ (HM.out.low.drew)).mono ?_; rintro e y ⟨q2, kk2, d2, hl2, rfl, ho, hl⟩; have HL := Lib.hid hl; have HO2 := Lib.hid ho; have HL2 := Lib.hid hl2; have hy1 : Turns (fun k => k = rb ∨ k = w.heap.size + 2) w3 y := hy0.trans hl.turn (fun _ _ h => .inl h); clear hl ho hl2); refine Shut.out hK _ _ (by assumption) ?_; clear hK K; (try simp only [Act.put, List.setIfInBounds_toArray, List.set_cons_zero, List.set_cons_succ]); (try refine eagerOpen rfl ?_))
  have HI1 : Hid (Is y q kk d 32 (chunks L kk)) := is_chunks (own_touch HO.out hy1 (fun k hk e => by have h1 := (HO.out.lt k hk).1; omega)) HKK.out
  have HI2 : Hid (Is y q2 kk2 d2 32 (chunks L kk2)) := is_chunks HO2.out HL2.out
  (refine wpEager_op (by rfl) (fun K hK => ?_); go_simp; (refine (idsSame_any _ _ _ _ _ _ _ _ y HI2.out HI1.out).mono ?_; rintro e y2 ⟨rfl, hby⟩; have HBY := Lib.hid hby; have hy2 : Turns (fun k => k = rb ∨ k = w.heap.size + 2) w3 y2 := hy1.trans (Turns.of_below (S := fun _ => False) hby) (fun _ _ h => h.elim); clear hby); refine Shut.out hK _ _ (by assumption) ?_; clear hK K; (try simp only [Act.put, List.setIfInBounds_toArray, List.set_cons_zero, List.set_cons_succ]); (try refine eagerOpen rfl ?_))
  have HEQ : Hid ((chunks L kk2 == chunks L kk) = true) := by
    have h1 := HKK.out
    have h2 := HL2.out
    show _ = _
    rw [show kk2 = kk by omega]
    simp
  rw [HEQ.out]
  repeat (first | (apply wpEager_take; (· rfl); (· (intro w' hb'; go_simp; try with_reducible rfl)); (try simp only [Act.put, List.setIfInBounds_toArray, List.set_cons_zero, List.set_cons_succ]); (try refine eagerOpen rfl ?_)) | (refine wpEager_skip (by rfl) ?_; (try simp only [Act.put, List.setIfInBounds_toArray, List.set_cons_zero, List.set_cons_succ]); (try refine eagerOpen rfl ?_)) | (refine wpEager_off (by rfl) ?_; (try simp only [Act.put, List.setIfInBounds_toArray, List.set_cons_zero, List.set_cons_succ]); (try refine eagerOpen rfl ?_)))
  have HR2 : Hid (y2.heap[w.heap.size + 2]? = some (.cells #[.slice none 0 0, .int .i64 0, .int .i64 0] 39 (0, 0))) := (HL.out.trans (LeftR.same HL.out.there HBY.out)).turn.keep HM.out.r2 (by omega)
  refine wpEager_op (by rfl) (fun K hK => ?_)
  refine wp_store_row 39 _ _ rfl (w.heap.size + 2) #[.slice p n c, .int .i64 P2, .int .i64 E2] rfl rfl 39 #[.slice none 0 0, .int .i64 0, .int .i64 0] HR2.out sizeR rfl (one3 _ _ _ _ _) ?_
  refine Shut.out hK _ _ (hy2.trans (turns_setRow y2 (w.heap.size + 2) _) (fun _ _ h => .inr h)) ?_
  clear hK K
  (try simp only [Act.put, List.setIfInBounds_toArray, List.set_cons_zero, List.set_cons_succ]); (try refine eagerOpen rfl ?_)
  repeat (first | (apply wpEager_take; (· rfl); (· (intro w' hb'; go_simp; try with_reducible rfl)); (try simp only [Act.put, List.setIfInBounds_toArray, List.set_cons_zero, List.set_cons_succ]); (try refine eagerOpen rfl ?_)) | (refine wpEager_skip (by rfl) ?_; (try simp only [Act.put, List.setIfInBounds_toArray, List.set_cons_zero, List.set_cons_succ]); (try refine eagerOpen rfl ?_)) | (refine wpEager_off (by rfl) ?_; (try simp only [Act.put, List.setIfInBounds_toArray, List.set_cons_zero, List.set_cons_succ]); (try refine eagerOpen rfl ?_)))
  refine eagerEnd ?_
  have HRS := Lib.hid (setRow_heap _ _ _ #[.slice p n c, .int .i64 P2, .int .i64 E2] _ _ HR2.out)
  go_wp2_with fail
  refine bodyPost_ret (results_cell_tmp rfl _ _ _ _ _ _ _ rfl HRS.out Tryd.underlying39 rfl sizeR) rfl ?_
  exact ⟨by rw [← HG.out]; rfl, LeftR.set (HF.out _ _ HM.out.low.drew (HL.out.trans (LeftR.same HL.out.there HBY.out))) hrl.1 (by omega) HR2.out _⟩
set_option maxRecDepth 100000 in
set_option maxHeartbeats 3200000 in
theorem step_fail {base rb : Nat} {s : RD} (p : Option Addr) (n c : Nat) (kind a b : Int) (w : World) (h : RAt w base rb s) (hB : Bs w p n c s.l) (hpb : 0 < n → ∀ a, p = some a → a.block < base) (ha : -9223372036854775808 ≤ a ∧ a ≤ 9223372036854775807) (hb0 : -9223372036854775808 ≤ b ∧ b ≤ 9223372036854775807) (hk : kind ≠ 0 ∧ kind ≠ 1 ∧ kind ≠ 2 ∧ kind ≠ 3 ∧ kind ≠ 4 ∧ kind ≠ 5) :
    Calls Tryd.prog 16 #[.pointer (some ⟨rb, 0, none⟩), rs p n c s, .agg #[.int .i64 kind, .int .i64 a, .int .i64 b]] w fun e w' => e = .returned (.tuple #[rs p n c (s.fail b), .bool true]) ∧ LeftR base rb (s.fail b) w w' := by
  have t0 : (kind == 0) = false := by rw [beq_eq_false_iff_ne]; omega
  have t1 : (kind == 1) = false := by rw [beq_eq_false_iff_ne]; omega
  have t2 : (kind == 2) = false := by rw [beq_eq_false_iff_ne]; omega
  have t3 : (kind == 3) = false := by rw [beq_eq_false_iff_ne]; omega
  have t4 : (kind == 4) = false := by rw [beq_eq_false_iff_ne]; omega
  have t5 : (kind == 5) = false := by rw [beq_eq_false_iff_ne]; omega
  have hrl : rb < w.heap.size ∧ base ≤ rb := by obtain ⟨v, bv, h⟩ := h; exact ⟨h.lt, h.low⟩
  have hok := Rdr_ok h
  have HR : Hid (∀ w0, Calls Tryd.prog 39 #[rr p n c (s.pos : Int) s.err, .int .i64 b] w0 (fun e w' => e = .returned (rr p n c ((s.fail b).pos : Int) (s.fail b).err) ∧ Below w0.heap.size w0 w')) := fun w0 => by
    have h1 := Fail_any p n c (s.pos : Int) s.err b w0
    rw [rs_fail hok] at h1
    exact h1
  have HN : Hid (∀ w0, Below w.heap.size w w0 → Calls Tryd.prog 19 #[.pointer (some ⟨rb, 0, none⟩), .int .i64 b] w0 (fun e w' => e = .returned (.tuple #[]) ∧ LeftR base rb (s.fail b) w0 w')) := fun w0 hb => Rdr.fail_any w0 (h.below hb) b hb0
  have HF : Hid (∀ w0 w', Below w.heap.size w w0 → LeftR base rb (s.fail b) w0 w' → LeftR base rb (s.fail b) w w') := fun w0 w' hb hl => LeftR.trans (LeftR.same h hb) hl
  have HG := Lib.hid (show rr p n c ((s.fail b).pos : Int) (s.fail b).err = rs p n c (s.fail b) from rfl)
  show Calls _ _ #[_, rr p n c (s.pos : Int) s.err, _] _ _
  clear h hB hk hok
  generalize ((s.fail b).pos : Int) = P2 at *
  generalize (s.fail b).err = E2 at *
  generalize (s.pos : Int) = P at *
  generalize s.err = E at *
  go_enter Tryd.func16, Tryd.ntmps16
  go_wp2_with fail
  generalize hW2 : ((w.alloc (.cells #[.slice p n c, .int .i64 P, .int .i64 E] 39)).alloc (.cells #[.int .i64 kind, .int .i64 a, .int .i64 b] 41)).alloc (.cells #[.slice none 0 0, .int .i64 0, .int .i64 0] 39) = W2
  have HW2 : Hid (W2 = stepW w p n c P E kind a b) := hW2.symm
  clear hW2
  have hS := stepW_rows w p n c P E kind a b
  rw [← HW2.out] at hS
  have HS := Lib.hid hS
  clear hS
  refine (HN.out _ HS.out.2.2.2.2).mono ?_
  rintro e w2 ⟨rfl, hl⟩
  have HL := Lib.hid hl
  have e0 := hl.turn.keep HS.out.1 (by omega)
  have e1 := hl.turn.keep HS.out.2.1 (by omega)
  have e2 := hl.turn.keep HS.out.2.2.1 (by omega)
  obtain ⟨c00, c01, c02, f00, f01, f02⟩ := row3 e0
  obtain ⟨c10, c11, c12, f10, f11, f12⟩ := row3 e1
  have HE2 := Lib.hid e2
  have HZ2 : Hid (w.heap.size + 2 < w2.heap.size) := (Array.getElem?_eq_some_iff.1 e2).1
  clear hl e0 e1 e2
  go_wp2_with fail
  refine (HR.out _).mono ?_
  rintro e w3 ⟨rfl, hb⟩
  have e2 := Below.keepOld hb HE2.out
  have HR2 := Lib.hid e2
  have HB3 := Lib.hid hb
  clear hb e2 c00 c01 c02 f00 f01 f02 c10 c11 c12 f10 f11 f12
  go_wp2_with ((with_reducible refine wpStoreAt 6 ?_); refine wpList_store_row rfl 39 _ _ rfl (w.heap.size + 2) #[.slice p n c, .int .i64 P2, .int .i64 E2] rfl rfl 39 #[.slice none 0 0, .int .i64 0, .int .i64 0] HR2.out sizeR rfl (one3 _ _ _ _ _) ?_)
  have HRS := Lib.hid (setRow_heap _ _ _ #[.slice p n c, .int .i64 P2, .int .i64 E2] _ _ HR2.out)
  refine bodyPost_ret (results_cell_tmp rfl _ _ _ _ _ _ _ rfl HRS.out Tryd.underlying39 rfl sizeR) rfl ?_
  exact ⟨by rw [← HG.out]; rfl, LeftR.set ((HF.out _ _ HS.out.2.2.2.2 HL.out).trans (LeftR.same HL.out.there HB3.out)) hrl.1 (by omega) HR2.out _⟩

def stepD (s : RD) (kind a b : Int) : RD :=
  if kind = 0 then s.numS a else if kind = 1 then s.takeS a true else if kind = 2 then s.cntS a b else if kind = 3 then s.takeS 32 true else if kind = 4 then s.takeS 16 true else if kind = 5 then s.takeS (32 * a) true else s.fail b
theorem step_any {base rb : Nat} {s : RD} (p : Option Addr) (n c : Nat) (kind a b : Int) (w : World) (h : RAt w base rb s) (hB : Bs w p n c s.l) (hpb : 0 < n → ∀ a, p = some a → a.block < base) (ha : -9223372036854775808 ≤ a ∧ a ≤ 9223372036854775807) (hb0 : -9223372036854775808 ≤ b ∧ b ≤ 9223372036854775807) :
    Calls Tryd.prog 16 #[.pointer (some ⟨rb, 0, none⟩), rs p n c s, .agg #[.int .i64 kind, .int .i64 a, .int .i64 b]] w fun e w' => e = .returned (.tuple #[rs p n c (stepD s kind a b), .bool true]) ∧ LeftR base rb (stepD s kind a b) w w' := by
  unfold stepD
  by_cases h0 : kind = 0
  · rw [if_pos h0]; exact step_num p n c kind a b w h hB hpb ha hb0 h0
  rw [if_neg h0]
  by_cases h1 : kind = 1
  · rw [if_pos h1]; exact step_bytes p n c kind a b w h hB hpb ha hb0 h1
  rw [if_neg h1]
  by_cases h2 : kind = 2
  · rw [if_pos h2]; exact step_count p n c kind a b w h hB hpb ha hb0 h2
  rw [if_neg h2]
  by_cases h3 : kind = 3
  · rw [if_pos h3]; exact step_id p n c kind a b w h hB hpb ha hb0 h3
  rw [if_neg h3]
  by_cases h4 : kind = 4
  · rw [if_pos h4]; exact step_hint p n c kind a b w h hB hpb ha hb0 h4
  rw [if_neg h4]
  by_cases h5 : kind = 5
  · rw [if_pos h5]; exact step_ids p n c kind a b w h hB hpb ha hb0 h5
  rw [if_neg h5]
  exact step_fail p n c kind a b w h hB hpb ha hb0 ⟨h0, h1, h2, h3, h4, h5⟩
theorem stepD_l (s : RD) (kind a b : Int) : (stepD s kind a b).l = s.l := by
  have hT : ∀ n f, (s.takeS n f).l = s.l := fun n f => by unfold RD.takeS; split <;> (try rfl); split <;> (try rfl); split <;> rfl
  have hF : ∀ (s : RD) e, (s.fail e).l = s.l := fun s e => by unfold RD.fail; split <;> rfl
  unfold stepD RD.numS RD.cntS RD.numS
  split
  · exact hT _ _
  split
  · exact hT _ _
  split
  · split
    · rw [hF]; exact hT _ _
    · exact hT _ _
  split
  · exact hT _ _
  split
  · exact hT _ _
  split
  · exact hT _ _
  · exact hF _ _
end Go.Proofs.YtbfddfmglkhimaaDoor.RR
