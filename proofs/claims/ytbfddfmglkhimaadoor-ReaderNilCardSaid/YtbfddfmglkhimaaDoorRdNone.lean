/- THE READER THAT IS NONE: nil, or that no call made. Conditions: none. -/
import Derived.Test.YtbfddfmglkhimaaDoorRdNum
namespace Go.Proofs.YtbfddfmglkhimaaDoor.Rdr
open Go.RowKit Go.Mir Go.Mir.Parts

def NoR (w : World) (p : Option Addr) : Prop := p = none ∨ ∃ b, p = some ⟨b, 0, none⟩ ∧ w.cell? ⟨b, 0, none⟩ = some (.bool false)
theorem NoR.below {w w' : World} {p : Option Addr} (h : NoR w p) (hb : Below w.heap.size w w') : NoR w' p := by
  rcases h with h | ⟨b, h1, h2⟩
  · exact .inl h
  · exact .inr ⟨b, h1, cell_below h2 hb⟩
theorem no_none {p : Option Addr} (w : World) (h : NoR w p) : Calls Tryd.prog 34 #[.pointer p] w fun e w' => e = .returned (.bool true) ∧ w = w' := by
  rcases h with rfl | ⟨b, rfl, hc⟩
  · go_enter Tryd.func34, Tryd.ntmps34
    go_wp2_with fail
    go_ret
    exact ⟨rfl, rfl⟩
  · go_enter Tryd.func34, Tryd.ntmps34
    go_wp2_with fail
    go_ret
    exact ⟨rfl, rfl⟩
theorem no_fail {p : Option Addr} (w : World) (h : NoR w p) (z : Int) : Calls Tryd.prog 19 #[.pointer p, .int .i64 z] w fun e w' => e = .returned (.tuple #[]) ∧ w = w' := by
  have H := Lib.hid h
  clear h
  go_enter Tryd.func19, Tryd.ntmps19
  go_wp2_with fail
  refine (no_none _ H.out).mono ?_
  rintro e w' ⟨rfl, rfl⟩
  go_wp2_with fail
  go_end0
  exact ⟨rfl, rfl⟩
theorem no_take {p : Option Addr} (w : World) (h : NoR w p) (n : Int) (b : Bool) : Calls Tryd.prog 33 #[.pointer p, .int .i64 n, .bool b] w fun e w' => e = .returned (.slice none 0 0) ∧ w = w' := by
  have H := Lib.hid h
  clear h
  go_enter Tryd.func33, Tryd.ntmps33
  go_wp2_with fail
  refine (no_none _ H.out).mono ?_
  rintro e w' ⟨rfl, rfl⟩
  go_wp2_with fail
  go_ret
  exact ⟨rfl, rfl⟩
set_option maxRecDepth 100000 in
theorem no_num {p : Option Addr} (w : World) (h : NoR w p) (n : Int) (hn : -9223372036854775808 ≤ n ∧ n ≤ 9223372036854775807) : Calls Tryd.prog 10 #[.pointer p, .int .i64 n] w fun e w' => e = .returned (.int .u64 0) ∧ w = w' := by
  have H := Lib.hid h
  clear h
  cases ha : decide ((1 : Int) ≤ n) with
  | true =>
    cases hb : decide (n ≤ 8) with
    | true =>
      go_enter Tryd.func10, Tryd.ntmps10
      go_wp2_with fail
      refine (no_take _ H.out _ _).mono ?_
      rintro e w' ⟨rfl, rfl⟩
      go_wp2_with fail
      refine wp_loop_rounds 1 ?_
      rw [rounds_succ]
      go_wp2_with fail
      go_ret
      exact ⟨rfl, rfl⟩
    | false =>
      go_enter Tryd.func10, Tryd.ntmps10
      go_wp2_with fail
      refine (no_take _ H.out _ _).mono ?_
      rintro e w' ⟨rfl, rfl⟩
      go_wp2_with fail
      refine wp_loop_rounds 1 ?_
      rw [rounds_succ]
      go_wp2_with fail
      go_ret
      exact ⟨rfl, rfl⟩
  | false =>
    go_enter Tryd.func10, Tryd.ntmps10
    go_wp2_with fail
    refine (no_take _ H.out _ _).mono ?_
    rintro e w' ⟨rfl, rfl⟩
    go_wp2_with fail
    refine wp_loop_rounds 1 ?_
    rw [rounds_succ]
    go_wp2_with fail
    go_ret
    exact ⟨rfl, rfl⟩
theorem no_bytes {p : Option Addr} (w : World) (h : NoR w p) (n : Int) : Calls Tryd.prog 13 #[.pointer p, .int .i64 n] w fun e w' => e = .returned (.slice none 0 0) ∧ w = w' := by
  have H := Lib.hid h
  clear h
  go_enter Tryd.func13, Tryd.ntmps13
  go_wp2_with fail
  refine (no_take _ H.out _ _).mono ?_
  rintro e w' ⟨rfl, rfl⟩
  go_wp2_with fail
  go_ret
  exact ⟨rfl, rfl⟩
theorem no_at {p : Option Addr} (w : World) (h : NoR w p) : Calls Tryd.prog 15 #[.pointer p] w fun e w' => e = .returned (.int .i64 0) ∧ w = w' := by
  have H := Lib.hid h
  clear h
  go_enter Tryd.func15, Tryd.ntmps15
  go_wp2_with fail
  refine (no_none _ H.out).mono ?_
  rintro e w' ⟨rfl, rfl⟩
  go_wp2_with fail
  go_ret
  exact ⟨rfl, rfl⟩
theorem no_left {p : Option Addr} (w : World) (h : NoR w p) : Calls Tryd.prog 14 #[.pointer p] w fun e w' => e = .returned (.int .i64 0) ∧ w = w' := by
  have H := Lib.hid h
  clear h
  go_enter Tryd.func14, Tryd.ntmps14
  go_wp2_with fail
  refine (no_none _ H.out).mono ?_
  rintro e w' ⟨rfl, rfl⟩
  go_wp2_with fail
  go_ret
  exact ⟨rfl, rfl⟩
theorem no_err {p : Option Addr} (w : World) (h : NoR w p) : Calls Tryd.prog 17 #[.pointer p] w fun e w' => e = .returned (.int .i64 7) ∧ w = w' := by
  have H := Lib.hid h
  clear h
  go_enter Tryd.func17, Tryd.ntmps17
  go_wp2_with fail
  refine (no_none _ H.out).mono ?_
  rintro e w' ⟨rfl, rfl⟩
  go_wp2_with fail
  go_ret
  exact ⟨rfl, rfl⟩
theorem no_done {p : Option Addr} (w : World) (h : NoR w p) : Calls Tryd.prog 11 #[.pointer p] w fun e w' => e = .returned (.int .i64 7) ∧ w = w' := by
  have H := Lib.hid h
  clear h
  go_enter Tryd.func11, Tryd.ntmps11
  go_wp2_with fail
  refine (no_err _ H.out).mono ?_
  rintro e w' ⟨rfl, rfl⟩
  go_wp2_with fail
  go_ret
  exact ⟨rfl, rfl⟩
set_option maxRecDepth 100000 in
theorem no_count {p : Option Addr} (w : World) (h : NoR w p) (n : Int) (hn : -9223372036854775808 ≤ n ∧ n ≤ 9223372036854775807) (m : Int) (hm : -9223372036854775808 ≤ m ∧ m ≤ 9223372036854775807) :
    Calls Tryd.prog 21 #[.pointer p, .int .i64 n, .int .i64 m] w fun e w' => e = .returned (.int .i64 0) ∧ w = w' := by
  have H := Lib.hid h
  clear h
  by_cases hneg : m < 0
  · have hd : decide (m < 0) = true := decide_eq_true hneg
    go_enter Tryd.func21, Tryd.ntmps21
    go_wp2_with fail
    refine (no_num _ H.out n hn).mono ?_
    rintro e w' ⟨rfl, rfl⟩
    go_wp2_with fail
    refine (no_fail _ H.out 4).mono ?_
    rintro e w' ⟨rfl, rfl⟩
    go_wp2_with fail
    refine (no_none _ H.out).mono ?_
    rintro e w' ⟨rfl, rfl⟩
    go_wp2_with fail
    go_ret
    exact ⟨rfl, rfl⟩
  · have hd : decide (m < 0) = false := decide_eq_false hneg
    obtain ⟨M, rfl⟩ : ∃ M : Nat, m = (M : Int) := ⟨m.toNat, by omega⟩
    have hd2 : decide ((M : Int) < (0 : Int)) = false := decide_eq_false (by omega)
    have hwm : IntKind.u64.wrap (M : Int) = (M : Int) := by rw [IntKind.wrap_u64]; omega
    go_enter Tryd.func21, Tryd.ntmps21
    go_wp2_with fail
    refine (no_num _ H.out n hn).mono ?_
    rintro e w' ⟨rfl, rfl⟩
    go_wp2_with fail
    refine (no_none _ H.out).mono ?_
    rintro e w' ⟨rfl, rfl⟩
    go_wp2_with fail
    go_ret
    exact ⟨rfl, rfl⟩
set_option maxRecDepth 100000 in
theorem no_ids {p : Option Addr} (w : World) (h : NoR w p) (n : Int) (hn : -9223372036854775808 ≤ n ∧ n ≤ 9223372036854775807) :
    Calls Tryd.prog 20 #[.pointer p, .int .i64 n] w fun e w' => e = .returned (.slice none 0 0) ∧ w = w' := by
  have H := Lib.hid h
  clear h
  by_cases hneg : n < 0
  · have hd0 : decide ((0 : Int) ≤ n) = false := decide_eq_false (by omega)
    go_enter Tryd.func20, Tryd.ntmps20
    go_wp2_with fail
    refine (no_none _ H.out).mono ?_
    rintro e w' ⟨rfl, rfl⟩
    go_wp2_with fail
    refine (no_left _ H.out).mono ?_
    rintro e w' ⟨rfl, rfl⟩
    go_wp2_with fail
    refine (no_take _ H.out _ _).mono ?_
    rintro e w' ⟨rfl, rfl⟩
    go_wp2_with fail
    refine wp_loop_rounds 1 ?_
    rw [rounds_succ]
    go_wp2_with fail
    go_ret
    exact ⟨rfl, rfl⟩
  · by_cases hz0 : n = 0
    · subst hz0
      go_enter Tryd.func20, Tryd.ntmps20
      go_wp2_with fail
      refine (no_none _ H.out).mono ?_
      rintro e w' ⟨rfl, rfl⟩
      go_wp2_with fail
      refine (no_left _ H.out).mono ?_
      rintro e w' ⟨rfl, rfl⟩
      go_wp2_with fail
      refine (no_take _ H.out _ _).mono ?_
      rintro e w' ⟨rfl, rfl⟩
      go_wp2_with fail
      refine wp_loop_rounds 1 ?_
      rw [rounds_succ]
      go_wp2_with fail
      go_ret
      exact ⟨rfl, rfl⟩
    · have hd0 : decide ((0 : Int) ≤ n) = true := decide_eq_true (by omega)
      have hd1 : 0 < n := by omega
      have hd2 : ¬ n ≤ 0 := by omega
      go_enter Tryd.func20, Tryd.ntmps20
      go_wp2_with fail
      refine (no_none _ H.out).mono ?_
      rintro e w' ⟨rfl, rfl⟩
      go_wp2_with fail
      refine (no_left _ H.out).mono ?_
      rintro e w' ⟨rfl, rfl⟩
      go_wp2_with fail
      refine (no_take _ H.out _ _).mono ?_
      rintro e w' ⟨rfl, rfl⟩
      go_wp2_with fail
      refine wp_loop_rounds 1 ?_
      rw [rounds_succ]
      go_wp2_with fail
      go_ret
      exact ⟨rfl, rfl⟩

set_option maxRecDepth 100000 in
theorem no_id {p : Option Addr} (w : World) (h : NoR w p) : Calls Tryd.prog 22 #[.pointer p] w fun e w' => e = .returned (.agg zid) ∧ Below w.heap.size w w' := by
  have hz := zeroid
  have H2 := Lib.hid (two_allocs w (.cells zid 55) (.cells zid 55))
  have H := Lib.hid h
  clear h
  go_enter Tryd.func22, Tryd.ntmps22
  go_upto_region 2 with fail
  generalize (w.alloc (.cells zid 55)).alloc (.cells zid 55) = w2 at *
  have HB2 := Lib.hid H2.out.2.2.2
  have hsl : ∀ w', (Instr.sliceAt 55 (.pointer (some ⟨w.heap.size + 1, 0, none⟩)) none none none).run Tryd.prog w' = .ok (.slice (some ⟨w.heap.size + 1, 0, none⟩) 32 32) w' := fun w' => by kernel_rfl
  have HT := Lib.hid (no_take w2.drew ((H.out.below HB2.out).below (below_drew1 _ _)) 32 true)
  refine wp_region_eager_t (Below w2.heap.size w2) [0, 1] [(0, true), (1, true), (2, false)] [3] (by kernel_rfl) (by kernel_rfl) ?_ (eagerTOpen rfl ?_)
  · exact below_drew1 _ _
  have hy0 : Below w2.heap.size w2 w2.drew := below_drew1 _ _
  repeat (first
    | (first | (apply wpEagerT_take; (· rfl); (· (intro w' hb'; go_simp; try with_reducible rfl)); (try simp only [Act.put, List.setIfInBounds_toArray, List.set_cons_zero, List.set_cons_succ]); (try refine eagerTOpen rfl ?_)) | (refine wpEagerT_skip (by rfl) ?_; (try simp only [Act.put, List.setIfInBounds_toArray, List.set_cons_zero, List.set_cons_succ]); (try refine eagerTOpen rfl ?_))))
  (refine wpEagerT_op (by rfl) (fun K hK => ?_); go_simp; (refine (HT.out).mono ?_; rintro e y ⟨rfl, rfl⟩); refine Shut.out hK _ _ (by assumption) ?_; clear hK K; (try simp only [Act.put, List.setIfInBounds_toArray, List.set_cons_zero, List.set_cons_succ]); (try refine eagerTOpen rfl ?_))
  refine eagerTEnd (tail1 rfl ?_)
  have HR0 : Hid (w2.drew.heap[w.heap.size]? = some (.cells zid 55 (0, 0))) := H2.out.1
  have HR1 : Hid (w2.drew.heap[w.heap.size + 1]? = some (.cells zid 55 (0, 0))) := H2.out.2.1
  have HBD : Hid (Below w.heap.size w w2.drew) := HB2.out.trans ((below_drew1 _ _).mono HB2.out.size)
  generalize w2.drew = y at *
  clear hy0
  have HZS : Hid (zid.size = 32) := rfl
  go_wp2_with (refine wpList_copy_nothing rfl _ _ 25 25 rfl 5 Tryd.underlying25 (by kernel_rfl) _ _ _ _ _ _ rfl rfl (by rfl) ?_)
  refine noPanic_end ?_
  go_wp2_with (first
    | refine wpList_load_row rfl 55 _ rfl (w.heap.size + 1) rfl 55 zid (0, 0) _ HR1.out Tryd.underlying55 rfl (infoid _ HZS.out) ?_
    | refine wpList_store_row rfl 55 _ _ rfl w.heap.size zid rfl rfl 55 zid HR0.out (infoid _ HZS.out) rfl (idA_one _) ?_)
  have HS := Lib.hid (setRow_heap _ _ _ zid _ _ HR0.out)
  refine bodyPost_ret (results_cell_row rfl _ _ _ _ _ _ _ rfl HS.out Tryd.underlying55 rfl (infoid _ HZS.out)) rfl ?_
  exact ⟨rfl, below_setRow HBD.out (Nat.le_refl _) _⟩

set_option maxRecDepth 100000 in
theorem no_hint {p : Option Addr} (w : World) (h : NoR w p) : Calls Tryd.prog 23 #[.pointer p] w fun e w' => e = .returned (.agg zhint) ∧ Below w.heap.size w w' := by
  have hz := zerohint
  have H2 := Lib.hid (two_allocs w (.cells zhint 58) (.cells zhint 58))
  have H := Lib.hid h
  clear h
  go_enter Tryd.func23, Tryd.ntmps23
  go_upto_region 2 with fail
  generalize (w.alloc (.cells zhint 58)).alloc (.cells zhint 58) = w2 at *
  have HB2 := Lib.hid H2.out.2.2.2
  have hsl : ∀ w', (Instr.sliceAt 58 (.pointer (some ⟨w.heap.size + 1, 0, none⟩)) none none none).run Tryd.prog w' = .ok (.slice (some ⟨w.heap.size + 1, 0, none⟩) 16 16) w' := fun w' => by kernel_rfl
  have HT := Lib.hid (no_take w2.drew ((H.out.below HB2.out).below (below_drew1 _ _)) 16 true)
  refine wp_region_eager_t (Below w2.heap.size w2) [0, 1] [(0, true), (1, true), (2, false)] [3] (by kernel_rfl) (by kernel_rfl) ?_ (eagerTOpen rfl ?_)
  · exact below_drew1 _ _
  have hy0 : Below w2.heap.size w2 w2.drew := below_drew1 _ _
  repeat (first
    | (first | (apply wpEagerT_take; (· rfl); (· (intro w' hb'; go_simp; try with_reducible rfl)); (try simp only [Act.put, List.setIfInBounds_toArray, List.set_cons_zero, List.set_cons_succ]); (try refine eagerTOpen rfl ?_)) | (refine wpEagerT_skip (by rfl) ?_; (try simp only [Act.put, List.setIfInBounds_toArray, List.set_cons_zero, List.set_cons_succ]); (try refine eagerTOpen rfl ?_))))
  (refine wpEagerT_op (by rfl) (fun K hK => ?_); go_simp; (refine (HT.out).mono ?_; rintro e y ⟨rfl, rfl⟩); refine Shut.out hK _ _ (by assumption) ?_; clear hK K; (try simp only [Act.put, List.setIfInBounds_toArray, List.set_cons_zero, List.set_cons_succ]); (try refine eagerTOpen rfl ?_))
  refine eagerTEnd (tail1 rfl ?_)
  have HR0 : Hid (w2.drew.heap[w.heap.size]? = some (.cells zhint 58 (0, 0))) := H2.out.1
  have HR1 : Hid (w2.drew.heap[w.heap.size + 1]? = some (.cells zhint 58 (0, 0))) := H2.out.2.1
  have HBD : Hid (Below w.heap.size w w2.drew) := HB2.out.trans ((below_drew1 _ _).mono HB2.out.size)
  generalize w2.drew = y at *
  clear hy0
  have HZS : Hid (zhint.size = 16) := rfl
  go_wp2_with (refine wpList_copy_nothing rfl _ _ 25 25 rfl 5 Tryd.underlying25 (by kernel_rfl) _ _ _ _ _ _ rfl rfl (by rfl) ?_)
  refine noPanic_end ?_
  go_wp2_with (first
    | refine wpList_load_row rfl 58 _ rfl (w.heap.size + 1) rfl 58 zhint (0, 0) _ HR1.out Tryd.underlying58 rfl (infohint _ HZS.out) ?_
    | refine wpList_store_row rfl 58 _ _ rfl w.heap.size zhint rfl rfl 58 zhint HR0.out (infohint _ HZS.out) rfl (idA_one _) ?_)
  have HS := Lib.hid (setRow_heap _ _ _ zhint _ _ HR0.out)
  refine bodyPost_ret (results_cell_row rfl _ _ _ _ _ _ _ rfl HS.out Tryd.underlying58 rfl (infohint _ HZS.out)) rfl ?_
  exact ⟨rfl, below_setRow HBD.out (Nat.le_refl _) _⟩
end Go.Proofs.YtbfddfmglkhimaaDoor.Rdr
