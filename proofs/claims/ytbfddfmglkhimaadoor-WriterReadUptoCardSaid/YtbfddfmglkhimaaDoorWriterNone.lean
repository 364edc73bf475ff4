/- THE WALKS OF A WRITER THAT IS NONE (nil, or one that no call made): every call answers as of none, and writes nothing that was there. Conditions: none. -/
import Derived.Test.YtbfddfmglkhimaaDoorWriter3
namespace Go.Proofs.YtbfddfmglkhimaaDoor.Wr
open Go.RowKit Go.Mir Go.Mir.Parts

/-- nil, or a writer that no call made -/
def NoneAt (w : World) (pv : Value) : Prop := pv = .pointer none ∨ ∃ wb, pv = .pointer (some ⟨wb, 0, none⟩) ∧ w.heap[wb]? = some (.cells #[.bool false, .int .i64 0, .slice none 0 0, .int .i64 0] 93 (0, 0))
theorem NoneAt.below {w w' : World} {pv : Value} (h : NoneAt w pv) (hb : Below w.heap.size w w') : NoneAt w' pv := by
  rcases h with h | ⟨wb, h, hc⟩
  · exact .inl h
  · exact .inr ⟨wb, h, Below.keepOld hb hc⟩
theorem none_none (w : World) (pv : Value) (h : NoneAt w pv) : Calls Tryd.prog 52 #[pv] w fun e w' => e = .returned (.bool true) ∧ w = w' := by
  rcases h with rfl | ⟨wb, rfl, hc⟩
  · exact none_nil w
  · exact none_zero wb w (by rw [cell_of_row _ _ _ _ _ _ hc]; rfl)

theorem put_none (w : World) (pv : Value) (b : Bool) (s : Value) (h : NoneAt w pv) : Calls Tryd.prog 43 #[pv, .bool b, s] w fun e w' => e = .returned (.tuple #[]) ∧ w = w' := by
  have H := Lib.hid h
  clear h
  go_enter Tryd.func43, Tryd.ntmps43
  go_wp2_with fail
  refine (none_none _ _ H.out).mono ?_
  rintro e w' ⟨rfl, rfl⟩
  go_wp2_with fail
  refine bodyPost_ret (results_none rfl _ _ _) rfl ?_
  exact ⟨rfl, rfl⟩
theorem fail_none (w : World) (pv : Value) (x : Int) (h : NoneAt w pv) : Calls Tryd.prog 53 #[pv, .int .i64 x] w fun e w' => e = .returned (.tuple #[]) ∧ w = w' := by
  have H := Lib.hid h
  clear h
  go_enter Tryd.func53, Tryd.ntmps53
  go_wp2_with fail
  refine (none_none _ _ H.out).mono ?_
  rintro e w' ⟨rfl, rfl⟩
  go_wp2_with fail
  go_end0
  exact ⟨rfl, rfl⟩
theorem err_none (w : World) (pv : Value) (h : NoneAt w pv) : Calls Tryd.prog 44 #[pv] w fun e w' => e = .returned (.int .i64 7) ∧ w = w' := by
  have H := Lib.hid h
  clear h
  go_enter Tryd.func44, Tryd.ntmps44
  go_wp2_with fail
  refine (none_none _ _ H.out).mono ?_
  rintro e w' ⟨rfl, rfl⟩
  go_wp2_with fail
  go_ret
  exact ⟨rfl, rfl⟩
theorem len_none (w : World) (pv : Value) (h : NoneAt w pv) : Calls Tryd.prog 42 #[pv] w fun e w' => e = .returned (.int .i64 0) ∧ w = w' := by
  have H := Lib.hid h
  clear h
  go_enter Tryd.func42, Tryd.ntmps42
  go_wp2_with fail
  refine (none_none _ _ H.out).mono ?_
  rintro e w' ⟨rfl, rfl⟩
  go_wp2_with fail
  go_ret
  exact ⟨rfl, rfl⟩
theorem done_none (w : World) (pv : Value) (h : NoneAt w pv) : Calls Tryd.prog 31 #[pv] w fun e w' => e = .returned (.tuple #[.slice none 0 0, .int .i64 7]) ∧ w = w' := by
  have H := Lib.hid h
  clear h
  go_enter Tryd.func31, Tryd.ntmps31
  go_wp2_with fail
  refine (err_none _ _ H.out).mono ?_
  rintro e w' ⟨rfl, rfl⟩
  go_wp2_with fail
  go_ret2
  exact ⟨rfl, rfl⟩
theorem bytes_none (w : World) (pv : Value) (p : Option Addr) (n c : Nat) (h : NoneAt w pv) : Calls Tryd.prog 29 #[pv, .slice p n c] w fun e w' => e = .returned (.tuple #[]) ∧ Below w.heap.size w w' := by
  have H := Lib.hid h
  clear h
  go_enter Tryd.func29, Tryd.ntmps29
  go_wp2_with fail
  refine (put_none _ _ _ _ (H.out.below (Below.allocs _ _))).mono ?_
  rintro e w' ⟨rfl, rfl⟩
  go_wp2_with fail
  go_end0
  exact ⟨rfl, Below.allocs _ _⟩
theorem id_none (w : World) (pv : Value) (M : Array Value) (h : NoneAt w pv) : Calls Tryd.prog 28 #[pv, .agg M] w fun e w' => e = .returned (.tuple #[]) ∧ Below w.heap.size w w' := by
  have H := Lib.hid h
  clear h
  go_enter Tryd.func28, Tryd.ntmps28
  go_wp2_with fail
  refine (put_none _ _ _ _ (H.out.below ((Below.allocs _ _).alloc (by simp) _))).mono ?_
  rintro e w' ⟨rfl, rfl⟩
  go_wp2_with fail
  go_end0
  exact ⟨rfl, (Below.allocs _ _).alloc (by simp) _⟩

set_option maxRecDepth 100000 in
set_option maxHeartbeats 400000 in
theorem ids_none (p : Option Addr) (n c : Nat) (ids : List (List UInt8)) (w : World) (pv : Value) (h : NoneAt w pv) (hI : Is w p n c 32 ids) (hs : n ≤ 4398046511104) :
    Calls Tryd.prog 30 #[pv, .slice p n c] w fun e w' => e = .returned (.tuple #[]) ∧ Below w.heap.size w w' := by
  have hle := hI.sl.le
  have hmax := hI.sl.max
  have HI0 := Lib.hid hI
  have H := Lib.hid h
  clear hI h
  go_enter Tryd.func30, Tryd.ntmps30
  go_wp2
  go_loopw [4, 8] (fun x j wr => ∃ k : Nat, k ≤ n ∧ j = .int .i64 k ∧ wr.ownsRow w.heap.size 25 1 x k (idsV p k) ∧ Below w.heap.size w wr) (fun _ j _ => n - (intOf j).toNat)
  case atStart => exact ⟨0, by omega, rfl, World.ownsRow_nil _ _ _ _, Below.refl _ _⟩
  case round =>
    obtain ⟨k, hk, rfl, how, hbl⟩ := hrel
    have HO := Lib.hid how
    have HB := Lib.hid hbl
    clear how hbl
    by_cases hlt : k < n
    · obtain ⟨b, o, rfl⟩ := HI0.out.sl.addr (by omega) (by omega)
      have hbd : Hid (k + 1 ≤ 9223372036854775807 ∧ (k + 1) * 24 ≤ 140737488355328) := by show _ ∧ _; omega
      have hnew : Hid (Sl (wr.alloc (.cells #[.slice (some ⟨b, o + k * 32, none⟩) 32 32] 25)) (some ⟨wr.heap.size, 0, none⟩) 1 1 1 [idV (some ⟨b, o, none⟩) k]) :=
        ⟨rfl, Nat.le_refl _, by omega, fun h => (by cases h), fun a ha j u hu => by
          obtain rfl := Option.some.inj ha
          rw [add_none, cell_alloc_new]
          cases j with
          | zero => simpa [idV] using hu
          | succ j => simp at hu⟩
      go_wp2_with (at_builtin; refine wpList_append_nx rfl _ _ 96 rfl (base := w.heap.size) Tryd.underlying96 infoS rfl (by omega) rfl (HO.out.alloc _) rfl hnew.out (by simp [idV, Value.oneCell']) hbd.out (by have := HB.out.size; simp; omega) ?_)
      intro p' c' w1 hown hg hnx hne
      have HO' : Hid (w1.ownsRow w.heap.size 25 1 (.slice p' (k + 1) c') (k + 1) (idsV (some ⟨b, o, none⟩) (k + 1))) := by
        show World.ownsRow _ _ _ _ _ _ _
        rw [idsV_succ]; exact hown
      have HB' : Hid (Below w.heap.size w w1) := (HB.out.alloc HB.out.size _).trans ((Below.refl _ _).grown hg (by have := HB.out.size; simp; omega) (fun i hi => (HO.out.lt i hi).1))
      clear hown hg hnx hne
      go_wp2
      go_roundw
      case rel => exact ⟨k + 1, by omega, by go_num, HO'.out, HB'.out⟩
      case measure => simp [intOf]; omega
    · go_wp2_with fail
      refine (put_none _ _ _ _ (H.out.below HB.out)).mono ?_
      rintro e w' ⟨rfl, rfl⟩
      go_wp2_with fail
      go_end0
      exact ⟨rfl, HB.out⟩

set_option maxRecDepth 100000 in
set_option maxHeartbeats 400000 in
theorem num_none (n : Nat) (width : Int) (pv : Value) (w : World) (h : NoneAt w pv) (hn : n < 18446744073709551616) (hw1 : -9223372036854775808 ≤ width) (hw2 : width ≤ 9223372036854775807) :
    Calls Tryd.prog 27 #[pv, .int .u64 (n : Int), .int .i64 width] w fun e w' => e = .returned (.tuple #[]) ∧ Below w.heap.size w w' := by
  have hz : ∀ w, (zeroValue 94).run Tryd.prog w = .ok (.agg Z8) w := fun w => by kernel_rfl
  have HW := Lib.hid h
  clear h
  go_enter Tryd.func27, Tryd.ntmps27
  go_wp2
  go_loopw [10] (fun j wr => ∃ k : Nat, k ≤ 8 ∧ j = .int .i64 k ∧ wr.heap.size = w.heap.size + 1 ∧ wr.heap[w.heap.size]? = some (.cells (numArr n k) 94 (0, 0)) ∧ Below w.heap.size w wr) (fun j _ => 8 - (intOf j).toNat)
  case atStart => exact ⟨0, by omega, rfl, by simp, by rw [numArr_0]; exact heap_alloc_last _ _, Below.allocs _ _⟩
  case round =>
    obtain ⟨k, hk, rfl, hsz, hb0, hbl⟩ := hrel
    by_cases hlt : k < 8
    · have hd : decide ((k:Int) < 8) = true := by simp; omega
      have hc : wr.cell? ⟨w.heap.size, 7 - k, none⟩ = some (.int .u8 0) := by
        rw [cell_of_row _ _ _ _ _ _ hb0, numArr_get _ _ _ (by omega), if_neg (by omega)]
      have hf := frozen_of_row _ _ (7 - k) _ _ hb0
      have hv := nb_int n k hlt
      go_wp2
      go_roundw
      case rel =>
        exact ⟨k + 1, by omega, by go_num, by simp [World.setCell, hsz], by rw [heap_setCell_same _ _ _ _ _ _ hb0, numArr_set n k hlt], hbl.setCell (by simp) _⟩
      case measure => simp [intOf]; omega
    · have hd : decide ((k:Int) < 8) = false := by simp; omega
      have hk8 : k = 8 := by omega
      have hrow : wr.heap[w.heap.size]? = some (.cells (numArr n 8) 94 (0, 0)) := by rw [← hk8]; exact hb0
      have HR := Lib.hid hrow
      have HB := Lib.hid hbl
      have HW' : Hid (NoneAt wr pv) := HW.out.below HB.out
      clear hb0 hbl hrow
      by_cases hw : 1 ≤ width ∧ width ≤ 8
      · obtain ⟨m, rfl⟩ : ∃ m : Nat, width = (m : Int) := ⟨width.toNat, by omega⟩
        have hsl : ∀ wx, (Instr.sliceAt 94 (.pointer (some ⟨w.heap.size, 0, none⟩)) (some (.int .i64 (8 - (m : Int)))) none none).run Tryd.prog wx = .ok (.slice (some ⟨w.heap.size, 8 - m, none⟩) m m) wx := fun wx => by
          have h1 := run_sliceAt_from (P := Tryd.prog) wx 94 5 8 1 Tryd.underlying94 (by kernel_rfl) ⟨w.heap.size, 0, none⟩ .i64 (8 - (m : Int)) (8 - m) (by omega) (by omega)
          rw [h1, add_none, show 0 + (8 - m) * 1 = 8 - m by omega, show 8 - (8 - m) = m by omega]
        have hm1 : (1 : Int) ≤ (m : Int) := by omega
        have hm8 : (m : Int) ≤ 8 := by omega
        by_cases hm : m = 8
        · have he : ((m : Int) == 8) = true := by rw [beq_iff_eq]; omega
          clear hm
          go_wp2_with (go_at_call 43; refine (put_none _ _ _ _ (HW'.out.below (Below.allocs _ _))).mono ?_; rintro e w' ⟨rfl, rfl⟩)
          go_end0
          exact ⟨rfl, HB.out.alloc HB.out.size _⟩
        · have he : ((m : Int) == 8) = false := by rw [beq_eq_false_iff_ne]; omega
          have hpw : ((n : Int) / 2 ^ (8 * m)) = ((n / 2 ^ (8 * m) : Nat) : Int) := by rw [Int.natCast_ediv, Int.natCast_pow]; rfl
          by_cases hnm : n < 2 ^ (8 * m)
          · have hs0 : ((n : Int) / 2 ^ (8 * m) == 0) = true := by rw [hpw, Nat.div_eq_of_lt hnm]; rfl
            clear hm hpw hnm
            go_wp2_with (go_at_call 43; refine (put_none _ _ _ _ (HW'.out.below (Below.allocs _ _))).mono ?_; rintro e w' ⟨rfl, rfl⟩)
            go_end0
            exact ⟨rfl, HB.out.alloc HB.out.size _⟩
          · have hs0 : ((n : Int) / 2 ^ (8 * m) == 0) = false := by
              rw [hpw, beq_eq_false_iff_ne]
              have : 0 < n / 2 ^ (8 * m) := Nat.div_pos (by omega) (Nat.two_pow_pos _)
              omega
            clear hm hpw hnm
            go_wp2_with (go_at_call 43; refine (put_none _ _ _ _ (HW'.out.below (Below.allocs _ _))).mono ?_; rintro e w' ⟨rfl, rfl⟩)
            go_end0
            exact ⟨rfl, HB.out.alloc HB.out.size _⟩
      · have hsl : ∀ wx, (Instr.sliceAt 94 (.pointer (some ⟨w.heap.size, 0, none⟩)) (some (.int .i64 0)) none none).run Tryd.prog wx = .ok (.slice (some ⟨w.heap.size, 0, none⟩) 8 8) wx := fun wx => by
          have h1 := run_sliceAt_from (P := Tryd.prog) wx 94 5 8 1 Tryd.underlying94 (by kernel_rfl) ⟨w.heap.size, 0, none⟩ .i64 0 0 rfl (by omega)
          rw [h1, add_none]
        by_cases hw0 : width < 1
        · go_wp2_with (go_at_call 43; refine (put_none _ _ _ _ (HW'.out.below (Below.allocs _ _))).mono ?_; rintro e w' ⟨rfl, rfl⟩)
          go_end0
          exact ⟨rfl, HB.out.alloc HB.out.size _⟩
        · have hw9 : 8 < width := by omega
          have hd9 : decide (width ≤ 8) = false := by simp; omega
          go_wp2_with (go_at_call 43; refine (put_none _ _ _ _ (HW'.out.below (Below.allocs _ _))).mono ?_; rintro e w' ⟨rfl, rfl⟩)
          go_end0
          exact ⟨rfl, HB.out.alloc HB.out.size _⟩

end Go.Proofs.YtbfddfmglkhimaaDoor.Wr
