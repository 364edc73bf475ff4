/- LAYER 12: the walks of numbers told and read, both ways. Conditions: texts of at most 2^40. -/
import Derived.Test.YtiahnoncionmkaaHexId2
namespace Go.Proofs.Ytiahnoncionmkaa.HexW
open Go.RowKit Bld Go.Mir Go.Mir.Hx Go.Mir.Parts

def Z20 : Array Value := (bytesV (List.replicate 20 0)).toArray
theorem zero20 (w : World) : (zeroValue 44).run Try.prog w = .ok (.agg Z20) w := by kernel_rfl
theorem sgn_digit (m : Nat) (h : m < 10) : sgn m = UInt8.ofNat (48 + m) := by unfold sgn; rw [if_pos h]
/-- how many digits a number has at most -/
theorem dec_len (n : Nat) (h : n < 18446744073709551616) : (decL n).length ≤ 20 := by
  by_cases h10 : n < 10
  · rw [decL_small n h10]; simp
  · have h1 := (dec_bounds n).2 (by omega)
    by_cases h2 : (decL n).length ≤ 20
    · exact h2
    · have h3 : 10 ^ 20 ≤ 10 ^ ((decL n).length - 1) := Nat.pow_le_pow_right (by omega) (by omega)
      have h4 : (10 : Nat) ^ 20 = 100000000000000000000 := by decide
      omega
/-- a buffer, filled from behind -/
structure Buf (M : Array Value) (k : Nat) (s : List UInt8) : Prop where
  size : M.size = 20
  len : s.length + k = 19
  tail : M.toList.drop (k + 1) = bytesV s
theorem Buf.put {M : Array Value} {k : Nat} {s : List UInt8} (h : Buf M (k + 1) s) (c : UInt8) : Buf (M.setIfInBounds (k + 1) (.int .u8 (c.toNat : Int))) k (c :: s) := by
  refine ⟨by rw [Array.size_setIfInBounds]; exact h.size, by have := h.len; simp; omega, ?_⟩
  rw [Array.toList_setIfInBounds]
  have hl : k + 1 < (M.toList.set (k + 1) (.int .u8 (c.toNat : Int))).length := by rw [List.length_set, Array.length_toList, h.size]; have := h.len; omega
  rw [List.drop_eq_getElem_cons hl, List.getElem_set_self, List.drop_set_of_lt (by omega), h.tail]
  rfl
theorem Buf.last {M : Array Value} {k : Nat} {s : List UInt8} (h : Buf M k s) (c : UInt8) : (M.setIfInBounds k (.int .u8 (c.toNat : Int))).toList.drop k = bytesV (c :: s) := by
  rw [Array.toList_setIfInBounds]
  have hl : k < (M.toList.set k (.int .u8 (c.toNat : Int))).length := by rw [List.length_set, Array.length_toList, h.size]; have := h.len; omega
  rw [List.drop_eq_getElem_cons hl, List.getElem_set_self, List.drop_set_of_lt (by omega), h.tail]
  rfl
theorem bs_drop {w : World} {b k m : Nat} {M : Array Value} {t : TypeId} {fr : Nat × Nat} {x : List UInt8} (h : w.heap[b]? = some (.cells M t fr)) (hM : M.toList.drop k = bytesV x) (hx : x.length = m) (hm : m ≤ 9223372036854775807) : Bs w (some ⟨b, k, none⟩) m m x :=
  ⟨by rw [bytesV_length, hx, Nat.mul_one], Nat.le_refl _, hm, fun h => (by cases h), fun a ha j u hu => by
    obtain rfl := Option.some.inj ha
    rw [add_none, cell_of_row _ _ _ _ _ _ h, ← Array.getElem?_toList, ← hu, ← hM, List.getElem?_drop]⟩

set_option maxRecDepth 100000 in
theorem num_any (n0 : Nat) (w : World) (hn : n0 < 18446744073709551616) :
    Calls Try.prog 15 #[.int .u64 (n0 : Int)] w fun e w' => e = .returned (.string (S (decL n0))) ∧ Below w.heap.size w w' := by
  have hz := zero20
  have hlen := dec_len n0 hn
  have HB0 : Hid (Buf Z20 19 []) := ⟨by decide, by simp, List.drop_eq_nil_of_le (by decide)⟩
  have HZR : Hid ((w.alloc (.cells Z20 44)).heap[w.heap.size]? = some (.cells Z20 44)) := heap_alloc_last _ _
  go_enter Try.func15, Try.ntmps15
  go_wp2_with fail
  generalize hD : decL n0 = D at *
  have HD := Lib.hid hD
  clear hD
  go_loopw [0, 4] (fun i j wr => ∃ (m k : Nat) (s : List UInt8) (M : Array Value), i = .int .u64 (m : Int) ∧ j = .int .i64 (k : Int) ∧ m ≤ n0 ∧ D = decL m ++ s ∧ Buf M k s ∧ wr.heap[w.heap.size]? = some (.cells M 44 (0, 0)) ∧ Below w.heap.size w wr) (fun i _ _ => (intOf i).toNat)
  case atStart => exact ⟨n0, 19, [], Z20, rfl, rfl, Nat.le_refl _, by rw [← HD.out]; simp, HB0.out, HZR.out, Below.allocs _ _⟩
  case round =>
    obtain ⟨m, k, s, M, rfl, rfl, hm, hds, hbuf, hrow, hbw⟩ := hrel
    have HDS := Lib.hid hds
    have HBF := Lib.hid hbuf
    have HR := Lib.hid hrow
    have HBW := Lib.hid hbw
    have hsl := hbuf.len
    have hdl : (decL m).length + s.length ≤ 20 := by rw [← List.length_append, ← hds]; exact hlen
    have hf : wr.frozen? ⟨w.heap.size, k, none⟩ = false := frozen_of_row _ _ _ _ _ hrow
    obtain ⟨u, hu⟩ : ∃ u, wr.cell? ⟨w.heap.size, k, none⟩ = some u := ⟨_, (cell_of_row _ _ _ _ _ _ hrow).trans (Array.getElem?_eq_getElem (by rw [hbuf.size]; omega))⟩
    clear hds hbuf hrow hbw
    by_cases h9 : 9 < m
    · have hd : decide ((9 : Int) < (m : Int)) = true := decide_eq_true (by omega)
      have HDB := Lib.hid (decL_big m (by omega))
      have hp := dec_pos (m / 10)
      rw [HDB.out, List.length_append, List.length_singleton] at hdl
      obtain ⟨k, rfl⟩ : ∃ k', k = k' + 1 := ⟨k - 1, by omega⟩
      go_wp2_with fail
      go_roundw
      case rel =>
        rw [signs_at _ (by omega)]
        refine ⟨m / 10, k, sgn (m % 10) :: s, _, by go_num, by go_num, by omega, ?_, HBF.out.put _, heap_setCell_same _ _ _ _ _ _ HR.out, HBW.out.setCell (Nat.le_refl _) _⟩
        rw [HDS.out, HDB.out, sgn_digit _ (by omega), List.append_assoc]; rfl
      case measure => simp [intOf]; omega
    · have hd : decide ((9 : Int) < (m : Int)) = false := decide_eq_false (by omega)
      have hsl2 : (Instr.sliceAt 44 (.pointer (some ⟨w.heap.size, 0, none⟩)) (some (.int .i64 (k : Int))) none none).run Try.prog (wr.setCell ⟨w.heap.size, k, none⟩ (.int .u8 ((sgn m).toNat : Int))) = .ok (.slice (some ⟨w.heap.size, k, none⟩) (20 - k) (20 - k)) (wr.setCell ⟨w.heap.size, k, none⟩ (.int .u8 ((sgn m).toNat : Int))) := by
        have := run_sliceAt_from (P := Try.prog) (wr.setCell ⟨w.heap.size, k, none⟩ (.int .u8 ((sgn m).toNat : Int))) 44 5 20 1 Try.underlying44 (by kernel_rfl) ⟨w.heap.size, 0, none⟩ .i64 (k : Int) k rfl (by omega)
        rw [Nat.mul_one, add_none, Nat.zero_add] at this
        exact this
      have hbs : Bs (wr.setCell ⟨w.heap.size, k, none⟩ (.int .u8 ((sgn m).toNat : Int))) (some ⟨w.heap.size, k, none⟩) (20 - k) (20 - k) (sgn m :: s) := bs_drop (heap_setCell_same _ _ _ _ _ _ HR.out) (HBF.out.last _) (by simp; omega) (by omega)
      have hcv := run_conv (P := Try.prog) 30 9 5 Try.underlying30 Try.underlying5 Try.underlying9 hbs
      have HBX := Lib.hid (HBW.out.setCell (p := ⟨w.heap.size, k, none⟩) (Nat.le_refl _) (.int .u8 ((sgn m).toNat : Int)))
      have HSG : (⟨#[48, 49, 50, 51, 52, 53, 54, 55, 56, 57, 97, 98, 99, 100, 101, 102]⟩ : ByteArray)[m]'(show m < 16 by omega) = sgn m := signs_at m (by omega) _
      have HDE := Lib.hid (decL_small m (by omega))
      have HSD := Lib.hid (sgn_digit m (by omega))
      clear hbs
      go_wp2_with fail
      go_ret
      exact ⟨str_ret (by rw [HD.out, HDS.out, HDE.out, HSD.out]; rfl), HBX.out⟩

theorem rNum_any (n : Nat) (hn : n < 18446744073709551616) : ∀ (w : World), Calls Try.prog 17 #[.int .u64 (n : Int)] w fun e w' => e = .returned (.string (S (decL n))) ∧ w = w' := by
  induction n using Nat.strongRecOn with
  | _ n ih =>
    intro w
    by_cases h9 : n < 10
    · have hd : decide ((n : Int) < 10) = true := decide_eq_true (by omega)
      have HDE := Lib.hid (decL_small n h9)
      have HSD := Lib.hid (sgn_digit n h9)
      clear ih
      go_enter Try.func17, Try.ntmps17
      go_wp2_with fail
      refine (half_any n _ (by omega)).mono ?_
      rintro e w' ⟨rfl, rfl⟩
      go_wp2_with fail
      go_ret
      exact ⟨str_ret (by rw [HDE.out, HSD.out]), rfl⟩
    · have hd : decide ((n : Int) < 10) = false := decide_eq_false (by omega)
      have HDB := Lib.hid (decL_big n (by omega))
      have HSD := Lib.hid (sgn_digit (n % 10) (by omega))
      have HIH := Lib.hid (ih (n / 10) (by omega) (by omega) w)
      have hl := dec_len (n / 10) (by omega)
      clear ih
      go_enter Try.func17, Try.ntmps17
      go_wp2_with fail
      rw [show (n : Int) / 10 = ((n / 10 : Nat) : Int) by omega]
      refine HIH.out.mono ?_
      rintro e w' ⟨rfl, rfl⟩
      go_wp2_with fail
      rw [show (n : Int) % 10 = ((n % 10 : Nat) : Int) by omega]
      refine (half_any (n % 10) _ (by omega)).mono ?_
      rintro e w' ⟨rfl, rfl⟩
      go_wp2_with fail
      go_ret
      exact ⟨str_ret (by rw [HDB.out, HSD.out]), rfl⟩
end Go.Proofs.Ytiahnoncionmkaa.HexW
