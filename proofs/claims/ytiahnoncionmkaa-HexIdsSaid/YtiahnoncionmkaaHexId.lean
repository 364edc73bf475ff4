/- LAYER 12: the walks of ids told and read, both ways. Conditions: texts of at most 2^40. -/
import Derived.Test.YtiahnoncionmkaaHexW2
import Derived.Deep.MidRow
import Derived.Laws.Rows
import Derived.Laws.Tables
namespace Go.Proofs.Ytiahnoncionmkaa.HexW
open Go.RowKit Bld Go.Mir Go.Mir.Hx Go.Mir.Parts

/-- an id, told -/
def idText (x : List UInt8) : List UInt8 := pairsL (x.take (trimN x 32))
/-- bytes in a row of their own -/
theorem bs_row {w : World} {b : Nat} {M : Array Value} {t : TypeId} {fr : Nat × Nat} {x : List UInt8} (h : w.heap[b]? = some (.cells M t fr)) (hM : M.toList = bytesV x) (k c : Nat) (hk : k ≤ x.length) (hc : k ≤ c) (hc2 : c ≤ 9223372036854775807) : Bs w (some ⟨b, 0, none⟩) k c (x.take k) :=
  ⟨by rw [bytesV_length, List.length_take]; omega, hc, hc2, fun h => (by cases h), fun a ha j u hu => by
    obtain rfl := Option.some.inj ha
    have hj := (List.getElem?_eq_some_iff.1 hu).1
    rw [bytesV_length, List.length_take] at hj
    rw [bytesV_get _ _ (by rw [List.length_take]; omega)] at hu
    rw [add_none, cell_of_row _ _ _ _ _ _ h, ← Array.getElem?_toList, hM, Nat.zero_add, bytesV_get _ _ (by omega), ← hu]
    simp⟩
theorem row_byte {w : World} {b : Nat} {M : Array Value} {t : TypeId} {fr : Nat × Nat} {x : List UInt8} (h : w.heap[b]? = some (.cells M t fr)) (hM : M.toList = bytesV x) (k : Nat) (hk : k < x.length) : w.cell? ⟨b, k, none⟩ = some (.int .u8 (x[k].toNat : Int)) := by
  rw [cell_of_row _ _ _ _ _ _ h, ← Array.getElem?_toList, hM, bytesV_get _ _ hk]

set_option maxRecDepth 100000 in
theorem idText_any (M : Array Value) (x : List UInt8) (w : World) (hM : M.toList = bytesV x) (hx : x.length = 32) :
    Calls Try.prog 7 #[.agg M] w fun e w' => e = .returned (.string (S (idText x))) ∧ Below w.heap.size w w' := by
  have HM := Lib.hid hM
  have HX := Lib.hid hx
  clear hM hx
  go_enter Try.func7, Try.ntmps7
  go_wp2_with fail
  have HR : Hid ((w.alloc (.cells M 23)).heap[w.heap.size]? = some (.cells M 23)) := heap_alloc_last _ _
  have HB : Hid (Below w.heap.size w (w.alloc (.cells M 23))) := Below.allocs _ _
  generalize w.alloc (.cells M 23) = w0 at *
  go_loop [3] (fun j => ∃ k : Nat, 1 ≤ k ∧ k ≤ 32 ∧ j = .int .i64 k ∧ trimN x k = trimN x 32) (fun j => (intOf j).toNat)
  case atStart => exact ⟨32, by omega, by omega, rfl, rfl⟩
  case round =>
    obtain ⟨k, hk1, hk, rfl, ht⟩ := hrel
    have HT := Lib.hid ht
    clear ht
    by_cases h1 : 1 < k
    · have hc := row_byte HR.out HM.out (k - 1) (by rw [HX.out]; omega)
      have hb : decide ((1 : Int) < (k : Int)) = true := by simp; omega
      have hcast : ((k - 1 : Nat) : Int) = (k : Int) - 1 := by omega
      by_cases hz : x[k - 1]'(by rw [HX.out]; omega) = 0
      · have HZ := Lib.hid (trimN_step x k h1 (by rw [List.getElem?_eq_getElem (by rw [HX.out]; omega), hz]))
        have hq : (((x[k - 1]'(by rw [HX.out]; omega)).toNat : Int) == 0) = true := by rw [hz]; rfl
        clear hz
        go_wp2_with fail
        go_round
        case rel => exact ⟨k - 1, by omega, by omega, by rw [hcast], HZ.out.symm.trans HT.out⟩
        case measure => simp [intOf]; omega
      · have HZ := Lib.hid (trimN_stop x k (.inr (by rw [List.getElem?_eq_getElem (by rw [HX.out]; omega)]; intro e; exact hz (Option.some.inj e))))
        have hq : (((x[k - 1]'(by rw [HX.out]; omega)).toNat : Int) == 0) = false := by
          rw [beq_eq_false_iff_ne]; intro e
          exact hz (UInt8.toNat_inj.1 (by have h0 : (0 : UInt8).toNat = 0 := rfl; omega))
        clear hz
        have hsl : (Instr.sliceAt 23 (.pointer (some ⟨w.heap.size, 0, none⟩)) none (some (.int .i64 (k : Int))) none).run Try.prog w0 = .ok (.slice (some ⟨w.heap.size, 0, none⟩) k 32) w0 := run_sliceAt_upto w0 23 5 32 1 Try.underlying23 (by kernel_rfl) _ _ _ k rfl (by omega) (by omega)
        go_wp2_with fail
        refine (pairs_any _ _ _ (x.take k) _ (bs_row HR.out HM.out k 32 (by rw [HX.out]; exact hk) hk (by omega)) (by omega) (by omega)).mono ?_
        rintro e w1 ⟨rfl, hb1⟩
        have HB1 := Lib.hid hb1
        clear hb1
        go_wp2_with fail
        go_ret
        exact ⟨str_ret (congrArg S (congrArg (fun m => pairsL (x.take m)) (HZ.out.symm.trans HT.out))), HB.out.trans (HB1.out.mono HB.out.size)⟩
    · have HZ := Lib.hid (trimN_stop x k (.inl (by omega)))
      have hb : decide ((1 : Int) < (k : Int)) = false := by simp; omega
      have hsl : (Instr.sliceAt 23 (.pointer (some ⟨w.heap.size, 0, none⟩)) none (some (.int .i64 (k : Int))) none).run Try.prog w0 = .ok (.slice (some ⟨w.heap.size, 0, none⟩) k 32) w0 := run_sliceAt_upto w0 23 5 32 1 Try.underlying23 (by kernel_rfl) _ _ _ k rfl (by omega) (by omega)
      go_wp2_with fail
      refine (pairs_any _ _ _ (x.take k) _ (bs_row HR.out HM.out k 32 (by rw [HX.out]; exact hk) hk (by omega)) (by omega) (by omega)).mono ?_
      rintro e w1 ⟨rfl, hb1⟩
      have HB1 := Lib.hid hb1
      clear hb1
      go_wp2_with fail
      go_ret
      exact ⟨str_ret (congrArg S (congrArg (fun m => pairsL (x.take m)) (HZ.out.symm.trans HT.out))), HB.out.trans (HB1.out.mono HB.out.size)⟩
theorem text_take (x : List UInt8) (k : Nat) (h1 : 1 ≤ k) (h2 : k ≤ x.length) : textL (x.take k) = pairsL (x.take k) := by
  unfold textL
  rw [if_neg (fun e => by have := congrArg List.length e; rw [List.length_take, List.length_nil] at this; omega)]
set_option maxRecDepth 100000 in
theorem rId_any (M : Array Value) (x : List UInt8) (w : World) (hM : M.toList = bytesV x) (hx : x.length = 32) :
    Calls Try.prog 9 #[.agg M] w fun e w' => e = .returned (.string (S (idText x))) ∧ Below w.heap.size w w' := by
  have HM := Lib.hid hM
  have HX := Lib.hid hx
  clear hM hx
  go_enter Try.func9, Try.ntmps9
  go_wp2_with fail
  have HR : Hid ((w.alloc (.cells M 23)).heap[w.heap.size]? = some (.cells M 23)) := heap_alloc_last _ _
  have HB : Hid (Below w.heap.size w (w.alloc (.cells M 23))) := Below.allocs _ _
  generalize w.alloc (.cells M 23) = w0 at *
  go_loop [3] (fun j => ∃ k : Nat, 1 ≤ k ∧ k ≤ 32 ∧ j = .int .i64 k ∧ trimN x k = trimN x 32) (fun j => (intOf j).toNat)
  case atStart => exact ⟨32, by omega, by omega, rfl, rfl⟩
  case round =>
    obtain ⟨k, hk1, hk, rfl, ht⟩ := hrel
    have HT := Lib.hid ht
    clear ht
    by_cases h1 : 1 < k
    · have hc := row_byte HR.out HM.out (k - 1) (by rw [HX.out]; omega)
      have hb : decide ((1 : Int) < (k : Int)) = true := by simp; omega
      have hcast : ((k - 1 : Nat) : Int) = (k : Int) - 1 := by omega
      by_cases hz : x[k - 1]'(by rw [HX.out]; omega) = 0
      · have HZ := Lib.hid (trimN_step x k h1 (by rw [List.getElem?_eq_getElem (by rw [HX.out]; omega), hz]))
        have hq : (((x[k - 1]'(by rw [HX.out]; omega)).toNat : Int) == 0) = true := by rw [hz]; rfl
        clear hz
        go_wp2_with fail
        go_round
        case rel => exact ⟨k - 1, by omega, by omega, by rw [hcast], HZ.out.symm.trans HT.out⟩
        case measure => simp [intOf]; omega
      · have HZ := Lib.hid (trimN_stop x k (.inr (by rw [List.getElem?_eq_getElem (by rw [HX.out]; omega)]; intro e; exact hz (Option.some.inj e))))
        have hq : (((x[k - 1]'(by rw [HX.out]; omega)).toNat : Int) == 0) = false := by
          rw [beq_eq_false_iff_ne]; intro e
          exact hz (UInt8.toNat_inj.1 (by have h0 : (0 : UInt8).toNat = 0 := rfl; omega))
        clear hz
        have hsl : (Instr.sliceAt 23 (.pointer (some ⟨w.heap.size, 0, none⟩)) none (some (.int .i64 (k : Int))) none).run Try.prog w0 = .ok (.slice (some ⟨w.heap.size, 0, none⟩) k 32) w0 := run_sliceAt_upto w0 23 5 32 1 Try.underlying23 (by kernel_rfl) _ _ _ k rfl (by omega) (by omega)
        go_wp2_with fail
        refine (rText_any _ _ _ (x.take k) _ (bs_row HR.out HM.out k 32 (by rw [HX.out]; exact hk) hk (by omega)) (by omega)).mono ?_
        rintro e w1 ⟨rfl, hb1⟩
        have HB1 := Lib.hid hb1
        clear hb1
        go_wp2_with fail
        go_ret
        exact ⟨str_ret (congrArg S ((text_take x k hk1 (by rw [HX.out]; exact hk)).trans <| congrArg (fun m => pairsL (x.take m)) (HZ.out.symm.trans HT.out))), HB.out.trans (HB1.out.mono HB.out.size)⟩
    · have HZ := Lib.hid (trimN_stop x k (.inl (by omega)))
      have hb : decide ((1 : Int) < (k : Int)) = false := by simp; omega
      have hsl : (Instr.sliceAt 23 (.pointer (some ⟨w.heap.size, 0, none⟩)) none (some (.int .i64 (k : Int))) none).run Try.prog w0 = .ok (.slice (some ⟨w.heap.size, 0, none⟩) k 32) w0 := run_sliceAt_upto w0 23 5 32 1 Try.underlying23 (by kernel_rfl) _ _ _ k rfl (by omega) (by omega)
      go_wp2_with fail
      refine (rText_any _ _ _ (x.take k) _ (bs_row HR.out HM.out k 32 (by rw [HX.out]; exact hk) hk (by omega)) (by omega)).mono ?_
      rintro e w1 ⟨rfl, hb1⟩
      have HB1 := Lib.hid hb1
      clear hb1
      go_wp2_with fail
      go_ret
      exact ⟨str_ret (congrArg S ((text_take x k hk1 (by rw [HX.out]; exact hk)).trans <| congrArg (fun m => pairsL (x.take m)) (HZ.out.symm.trans HT.out))), HB.out.trans (HB1.out.mono HB.out.size)⟩

/-! ### ids read -/
def idL (l : List UInt8) : Option (List UInt8) := match readL l with
  | none => none
  | some b => if b = [] ∨ 32 < b.length ∨ (1 < b.length ∧ b[b.length - 1]? = some 0) then none else some (padId b)
def zeros : List UInt8 := List.replicate 32 0
def IdP (l : List UInt8) (w : World) (e : Ending) (w' : World) : Prop := Below w.heap.size w w' ∧ ((∃ x M, idL l = some x ∧ x.length = 32 ∧ M.toList = bytesV x ∧ e = .returned (.tuple #[.agg M, .int .i64 0])) ∨ (idL l = none ∧ ∃ M, M.toList = bytesV zeros ∧ e = .returned (.tuple #[.agg M, .int .i64 4])))
def Z32 : Array Value := (bytesV zeros).toArray
theorem zeroId (w : World) : (zeroValue 23).run Try.prog w = .ok (.agg Z32) w := by kernel_rfl
theorem Z32_list : Z32.toList = bytesV zeros := by rw [Z32]
theorem Z32_size : Z32.size = 32 := by decide
theorem Z32_one : Z32.all (·.oneCell') = true := all_oneCell_toArray (bytesV_one zeros)
theorem two_allocs (w : World) (o o2 : Obj) : ((w.alloc o).alloc o2).heap[w.heap.size]? = some o ∧ ((w.alloc o).alloc o2).heap[w.heap.size + 1]? = some o2 ∧ ((w.alloc o).alloc o2).heap.size = w.heap.size + 2 ∧ Below w.heap.size w ((w.alloc o).alloc o2) := by
  refine ⟨block_old _ (heap_alloc_last _ _), ?_, by simp, (Below.allocs _ _).alloc (by simp) _⟩
  have := heap_alloc_last (w.alloc o) o2
  simpa using this
theorem splice_pad (b : List UInt8) (h : b.length ≤ 32) : splice (bytesV zeros) 0 (bytesV b) = bytesV (padId b) := by
  unfold splice padId
  rw [List.take_zero, List.nil_append, bytesV_append, bytesV_length, Nat.zero_add]
  congr 1
  unfold bytesV zeros
  rw [← List.map_drop, List.drop_replicate]
theorem id_cases (l b : List UInt8) (hr : readL l = some b) (hne : l ≠ []) : (32 < b.length → idL l = none) ∧ (b.length ≤ 32 → idL l = if idText (padId b) = l then some (padId b) else none) := by
  have hlen := read_length hr
  have hb : b ≠ [] := fun e => hne (by rw [e] at hlen; exact List.length_eq_zero_iff.1 hlen)
  have hpos : 0 < b.length := List.length_pos_iff.2 hb
  have hp := pairs_read l b hr
  unfold idL
  rw [hr]
  refine ⟨fun h => by simp only; rw [if_pos (.inr (.inl h))], fun h => ?_⟩
  simp only
  have hiff := trim_pad b hpos h
  have hinj : idText (padId b) = l ↔ (padId b).take (trimN (padId b) 32) = b := by
    unfold idText
    constructor
    · intro e
      rw [← hp] at e
      have := congrArg readL e
      rw [readL_pairs, readL_pairs] at this
      exact Option.some.inj this
    · intro e; rw [e, hp]
  by_cases hc : idText (padId b) = l
  · rw [if_pos hc, if_neg]
    rintro (h1 | h1 | ⟨h1, h2⟩)
    · exact hb h1
    · omega
    · rcases hiff.1 (hinj.1 hc) with h3 | h3
      · omega
      · exact h3 h2
  · rw [if_neg hc, if_pos]
    refine .inr (.inr ?_)
    by_cases h1 : 1 < b.length
    · refine ⟨h1, ?_⟩
      by_cases h2 : b[b.length - 1]? = some 0
      · exact h2
      · exact absurd (hinj.2 (hiff.2 (.inr h2))) hc
    · exact absurd (hinj.2 (hiff.2 (.inl (by omega)))) hc
set_option maxRecDepth 100000 in
set_option maxHeartbeats 400000 in
theorem idOf_any (l : List UInt8) (w : World) (hl : l.length ≤ 1099511627776) : Calls Try.prog 8 #[.string (S l)] w (IdP l w) := by
  have hz := zeroId
  go_enter Try.func8, Try.ntmps8
  go_wp2_with fail
  have H2 := Lib.hid (two_allocs w (.cells Z32 23) (.cells Z32 23))
  generalize (w.alloc (.cells Z32 23)).alloc (.cells Z32 23) = w2 at *
  refine (read_any (S l) _ (by rw [S_size]; exact hl)).mono ?_
  rw [S_data]
  rintro e w3 ⟨hb3, ⟨b, p, c, hr, hne, rfl, hB, hp⟩ | ⟨hr, v, rfl⟩⟩
  · have HIC := Lib.hid (id_cases l b hr hne)
    have HR0 := Lib.hid (Below.keepOld hb3 H2.out.1)
    have HRX := Lib.hid (Below.keepOld hb3 H2.out.2.1)
    have HB0 := Lib.hid (H2.out.2.2.2.trans (hb3.mono (by have := H2.out.2.2.1; omega)))
    have HBS := Lib.hid hB
    have hbl : b.length ≤ 1099511627776 := by have := read_length hr; omega
    have HP2 : Hid (0 < b.length) := List.length_pos_iff.2 (fun e => hne (by have := read_length hr; rw [e] at this; exact List.length_eq_zero_iff.1 this))
    obtain ⟨pb, po, rfl⟩ := hB.addr HP2.out (by omega)
    have HCP : Hid (∀ (m : Nat) j v, (bytesV (b.take m))[j]? = some v → w3.cell? ((⟨pb, po, none⟩ : Addr).add j) = some v) := fun m j v hv => by
      refine HBS.out.cell _ rfl j v ?_
      have hj := (List.getElem?_eq_some_iff.1 hv).1
      rw [bytesV_length, List.length_take] at hj
      rw [← hv, bytesV_get _ _ (by omega), bytesV_get _ _ (by rw [List.length_take]; omega)]
      simp
    clear hb3 hr hne hB hp
    by_cases h32 : 32 < b.length
    · have HN := Lib.hid (HIC.out.1 h32)
      have hlen : (bytesV (b.take 32)).length = 32 := by rw [bytesV_length, List.length_take]; omega
      have HLEN := Lib.hid hlen
      have hq : ((32 : Int) == (b.length : Int)) = false := by rw [beq_eq_false_iff_ne]; omega
      have HMIN : Hid ((bytesV (b.take 32)).length = Nat.min b.length 32) := by show _ = _; rw [hlen]; exact (Nat.min_eq_right (by omega)).symm
      have HFIT : Hid (0 + (bytesV (b.take 32)).length ≤ (bytesV zeros).length) := by show _ ≤ _; rw [hlen]; decide
      go_wp2_with (refine wpList_copy_g rfl _ _ 30 30 rfl 5 Try.underlying30 (by kernel_rfl) _ _ _ _ _ _ rfl rfl (w.heap.size + 1) 0 (bytesV zeros) 23 HRX.out (bytesV (b.take 32)) HMIN.out (fun _ => ⟨rfl, _, rfl, HCP.out 32⟩) HFIT.out (bytesV_one _) (w.heap.size + 1) w3 (Below.refl _ _) (Nat.le_refl _) ?_)
      intro w4 HX4 hb4
      have HR1 := Lib.hid (Below.keepBlock hb4 HR0.out (by omega))
      have HB := Lib.hid (HB0.out.trans (hb4.mono (Nat.le_succ _)))
      clear hb4
      go_wp2_with (refine wpList_store_row rfl 23 _ _ rfl w.heap.size Z32 rfl rfl 23 Z32 HR1.out (by rw [Z32_size]; kernel_rfl) rfl Z32_one ?_)
      have HS : Hid ((w4.setRow w.heap.size Z32).heap[w.heap.size]? = some (.cells Z32 23)) := setRow_heap w4 _ _ _ _ _ HR1.out
      have HBB : Hid (Below w.heap.size w (w4.setRow w.heap.size Z32)) := below_setRow HB.out (Nat.le_refl _) _
      refine bodyPost_ret (results_row_tmp rfl _ _ _ _ _ _ _ rfl HS.out Try.underlying23 rfl (by rw [Z32_size]; kernel_rfl)) rfl ?_
      exact ⟨HBB.out, .inr ⟨HN.out, Z32, Z32_list, rfl⟩⟩
    · have hlen : (bytesV (b.take 32)).length = b.length := by rw [bytesV_length, List.length_take]; omega
      have HLEN := Lib.hid hlen
      have HT : Hid (b.take 32 = b) := List.take_of_length_le (by omega)
      have HMIN : Hid ((bytesV (b.take 32)).length = Nat.min b.length 32) := by show _ = _; rw [hlen]; exact (Nat.min_eq_left (by omega)).symm
      have HFIT : Hid (0 + (bytesV (b.take 32)).length ≤ (bytesV zeros).length) := by show _ ≤ _; rw [hlen]; show 0 + b.length ≤ 32; omega
      have hble : b.length ≤ 32 := by omega
      have HC := Lib.hid (HIC.out.2 hble)
      clear h32
      go_wp2_with (refine wpList_copy_g rfl _ _ 30 30 rfl 5 Try.underlying30 (by kernel_rfl) _ _ _ _ _ _ rfl rfl (w.heap.size + 1) 0 (bytesV zeros) 23 HRX.out (bytesV (b.take 32)) HMIN.out (fun _ => ⟨rfl, _, rfl, HCP.out 32⟩) HFIT.out (bytesV_one _) (w.heap.size + 1) w3 (Below.refl _ _) (Nat.le_refl _) ?_)
      intro w4 HX4 hb4
      have HR1 := Lib.hid (Below.keepBlock hb4 HR0.out (by omega))
      have HB := Lib.hid (HB0.out.trans (hb4.mono (Nat.le_succ _)))
      clear hb4
      obtain ⟨X, hX⟩ : ∃ X : Array Value, X.toList = bytesV (padId b) := ⟨(bytesV (padId b)).toArray, by simp⟩
      have HXL := Lib.hid hX
      have HX5 : Hid (w4.heap[w.heap.size + 1]? = some (.cells X 23)) := by
        have := HX4.out
        rw [HT.out, splice_pad b hble, ← hX, Array.toArray_toList] at this
        exact this
      have HXS : Hid (X.size = 32) := by show _ = _; rw [← Array.length_toList, hX, bytesV_length, padId_length b hble]
      have HX1 : Hid (X.all (·.oneCell') = true) := by
        have := all_oneCell_toArray (bytesV_one (padId b))
        rw [← hX, Array.toArray_toList] at this; exact this
      clear hX HX4 hlen
      go_wp2_with (refine wpList_load_row_g rfl 23 _ rfl (w.heap.size + 1) rfl 23 X (0, 0) _ HX5.out Try.underlying23 rfl (by rw [HXS.out]; kernel_rfl) ?_)
      refine (idText_any X (padId b) _ HXL.out (padId_length b hble)).mono ?_
      rintro e w5 ⟨rfl, hb5⟩
      have HR1 := Lib.hid (Below.keepOld hb5 HR1.out)
      have HX6 := Lib.hid (Below.keepOld hb5 HX5.out)
      have HB := Lib.hid (HB.out.trans (hb5.mono HB.out.size))
      clear hb5
      by_cases hc : idText (padId b) = l
      · have HY : Hid (idL l = some (padId b)) := by show _ = _; rw [HC.out, if_pos hc]
        have hq : (idText (padId b) == l) = true := by rw [beq_iff_eq]; exact hc
        clear hc
        go_wp2_with (first
          | refine wpList_load_row rfl 23 _ rfl (w.heap.size + 1) rfl 23 X (0, 0) _ HX6.out Try.underlying23 rfl (by rw [HXS.out]; kernel_rfl) ?_
          | refine wpList_store_row rfl 23 _ _ rfl w.heap.size X rfl rfl 23 Z32 HR1.out (by rw [HXS.out]; kernel_rfl) (by rw [HXS.out]; exact Z32_size) HX1.out ?_)
        have HS : Hid ((w5.setRow w.heap.size X).heap[w.heap.size]? = some (.cells X 23)) := setRow_heap w5 _ _ _ _ _ HR1.out
        have HBB : Hid (Below w.heap.size w (w5.setRow w.heap.size X)) := below_setRow HB.out (Nat.le_refl _) _
        refine bodyPost_ret (results_row_tmp rfl _ _ _ _ _ _ _ rfl HS.out Try.underlying23 rfl (by rw [HXS.out]; kernel_rfl)) rfl ?_
        exact ⟨HBB.out, .inl ⟨padId b, X, HY.out, padId_length b hble, HXL.out, rfl⟩⟩
      · have HN : Hid (idL l = none) := by show _ = _; rw [HC.out, if_neg hc]
        have hq : (idText (padId b) == l) = false := by rw [beq_eq_false_iff_ne]; exact hc
        clear hc
        go_wp2_with (refine wpList_store_row rfl 23 _ _ rfl w.heap.size Z32 rfl rfl 23 Z32 HR1.out (by rw [Z32_size]; kernel_rfl) rfl Z32_one ?_)
        have HS : Hid ((w5.setRow w.heap.size Z32).heap[w.heap.size]? = some (.cells Z32 23)) := setRow_heap w5 _ _ _ _ _ HR1.out
        have HBB : Hid (Below w.heap.size w (w5.setRow w.heap.size Z32)) := below_setRow HB.out (Nat.le_refl _) _
        refine bodyPost_ret (results_row_tmp rfl _ _ _ _ _ _ _ rfl HS.out Try.underlying23 rfl (by rw [Z32_size]; kernel_rfl)) rfl ?_
        exact ⟨HBB.out, .inr ⟨HN.out, Z32, Z32_list, rfl⟩⟩
  · have HN : Hid (idL l = none) := by
      show _ = _; unfold idL
      rcases hr with h | h
      · rw [h]
      · subst h; rfl
    have HR1 := Lib.hid (Below.keepOld hb3 H2.out.1)
    have HB := Lib.hid (H2.out.2.2.2.trans (hb3.mono (by have := H2.out.2.2.1; omega)))
    clear hb3 hr
    go_wp2_with (refine wpList_store_row rfl 23 _ _ rfl w.heap.size Z32 rfl rfl 23 Z32 HR1.out (by rw [Z32_size]; kernel_rfl) rfl Z32_one ?_)
    have HS : Hid ((w3.setRow w.heap.size Z32).heap[w.heap.size]? = some (.cells Z32 23)) := setRow_heap w3 _ _ _ _ _ HR1.out
    have HBB : Hid (Below w.heap.size w (w3.setRow w.heap.size Z32)) := below_setRow HB.out (Nat.le_refl _) _
    refine bodyPost_ret (results_row_tmp rfl _ _ _ _ _ _ _ rfl HS.out Try.underlying23 rfl (by rw [Z32_size]; kernel_rfl)) rfl ?_
    exact ⟨HBB.out, .inr ⟨HN.out, Z32, Z32_list, rfl⟩⟩
end Go.Proofs.Ytiahnoncionmkaa.HexW
