/- LAYER 12: the walk of HexNums. Conditions: none. -/
import Derived.Test.YtiahnoncionmkaaHexLaw
namespace Go.Proofs.Ytiahnoncionmkaa.HexW
open Go.RowKit Bld Go.Mir Go.Mir.Hx Go.Mir.Parts

theorem numOf_dec (n most : Nat) : numOf (decL n) most = if n ≤ most then (n, 0) else (0, 3) := by
  by_cases h : n ≤ most
  · rw [if_pos h, numOf_ok (dec_nice n) (by rw [val_dec]; exact h), val_dec]
  · rw [if_neg h, numOf_many (dec_nice n) (by rw [val_dec]; omega)]
theorem numOf_cases (l : List UInt8) (most : Nat) : (∃ v, numOf l most = (v, 0) ∧ decL v = l ∧ v ≤ most) ∨ ∃ e, numOf l most = (0, e) ∧ (e = 3 ∨ e = 4) := by
  by_cases h : Nice l
  · by_cases hm : most < val l
    · exact .inr ⟨3, numOf_many h hm, .inl rfl⟩
    · exact .inl ⟨val l, numOf_ok h (by omega), dec_val l h, by omega⟩
  · exact .inr ⟨4, numOf_bad h most, .inr rfl⟩

set_option maxRecDepth 100000 in
theorem hexNums_out (n most : Nat) (l : List UInt8) (w : World) (hl : l.length ≤ 9223372036854775807) (h : 1000 < l.length) :
    Calls Try.prog 5 #[.int .u64 (n : Int), .int .u64 (most : Int), .string (S l)] w fun e w' => e = .returned (.bool true) ∧ Below w.heap.size w w' := by
  have hd2 : decide ((1000 : Int) < (l.length : Int)) = true := decide_eq_true (by omega)
  clear h
  go_enter Try.func5, Try.ntmps5
  go_wp2_with fail
  refine (alive_any _).mono ?_
  rintro e w1 ⟨rfl, hb1⟩
  have HB1 := Lib.hid hb1
  clear hb1
  go_wp2_with fail
  go_ret
  exact ⟨rfl, HB1.out⟩

theorem top_there : ∃ t : Nat, (t : Int) = 18446744073709551615 ∧ ∀ n : Nat, n < 18446744073709551616 → n ≤ t := ⟨18446744073709551615, rfl, fun n h => by omega⟩
set_option maxRecDepth 100000 in
set_option maxHeartbeats 800000 in
theorem hexNums_in (n most : Nat) (l : List UInt8) (w : World) (hn : n < 18446744073709551616) (hm : most < 18446744073709551616) (hl : l.length ≤ 1000) :
    Calls Try.prog 5 #[.int .u64 (n : Int), .int .u64 (most : Int), .string (S l)] w fun e w' => e = .returned (.bool true) ∧ Below w.heap.size w w' := by
  have hd2 : decide ((1000 : Int) < (l.length : Int)) = false := decide_eq_false (by omega)
  have HDL := Lib.hid (dec_len n hn)
  obtain ⟨top, htop, htn⟩ := top_there
  have HTOP := Lib.hid htop
  have HTM : Hid (top < 18446744073709551616) := by show _ < _; omega
  have HD1 : Hid (numOf (decL n) top = (n, 0)) := by show _ = _; rw [numOf_dec, if_pos (htn n hn)]
  clear htop htn
  go_enter Try.func5, Try.ntmps5
  go_wp2_with fail
  refine (num_any n _ hn).mono ?_
  rintro e w1 ⟨rfl, hb1⟩
  have HB1 := Lib.hid hb1
  clear hb1
  go_wp2_with fail
  rw [← HTOP.out]
  refine (numOf_any (decL n) top _ (by have := HDL.out; omega) HTM.out).mono ?_
  rintro e w2 ⟨rfl, hb2⟩
  rw [HD1.out]
  have HB2 := Lib.hid (HB1.out.trans (hb2.mono HB1.out.size))
  clear hb2
  go_wp2_with fail
  refine (rNum_any n hn _).mono ?_
  rintro e w' ⟨rfl, rfl⟩
  go_wp2_with fail
  refine (numOf_any (decL n) most _ (by have := HDL.out; omega) hm).mono ?_
  rintro e w3 ⟨rfl, hb3⟩
  have HB3 := Lib.hid (HB2.out.trans (hb3.mono HB2.out.size))
  clear hb3
  rw [numOf_dec]
  by_cases hnm : n ≤ most
  · rw [if_pos hnm]
    have hb1 : decide ((n : Int) ≤ (most : Int)) = true := decide_eq_true (by omega)
    go_wp2_with fail
    refine (numOf_any l most _ (by omega) hm).mono ?_
    rintro e w4 ⟨rfl, hb4⟩
    have HB4 := Lib.hid (HB3.out.trans (hb4.mono HB3.out.size))
    clear hb4
    rcases numOf_cases l most with ⟨v, hv, hdv, hvm⟩ | ⟨x, hv, hx⟩
    · have HV := Lib.hid hv
      have HDV := Lib.hid hdv
      have hle : decide ((v : Int) ≤ (most : Int)) = true := decide_eq_true (by omega)
      rw [hv]
      clear hv hdv
      go_wp2_with fail
      refine (rNumOf_any l most _ (by omega) hm).mono ?_
      rintro e w5 ⟨rfl, hb5⟩
      rw [HV.out]
      have HB5 := Lib.hid (HB4.out.trans (hb5.mono HB4.out.size))
      clear hb5
      go_wp2_with fail
      refine (num_any v _ (by omega)).mono ?_
      rintro e w6 ⟨rfl, hb6⟩
      rw [HDV.out]
      have HB6 := Lib.hid (HB5.out.trans (hb6.mono HB5.out.size))
      clear hb6
      go_wp2_with fail
      refine (alive_any _).mono ?_
      rintro e w7 ⟨rfl, hb7⟩
      have HB7 := Lib.hid (HB6.out.trans (hb7.mono HB6.out.size))
      clear hb7
      go_wp2_with fail
      go_ret
      exact ⟨rfl, HB7.out⟩
    · have HV := Lib.hid hv
      rw [hv]
      clear hv
      have hx0 : (x == 0) = false := by rw [beq_eq_false_iff_ne]; omega
      go_wp2_with fail
      refine (rNumOf_any l most _ (by omega) hm).mono ?_
      rintro e w5 ⟨rfl, hb5⟩
      rw [HV.out]
      have HB5 := Lib.hid (HB4.out.trans (hb5.mono HB4.out.size))
      clear hb5
      go_wp2_with fail
      refine (alive_any _).mono ?_
      rintro e w7 ⟨rfl, hb7⟩
      have HB7 := Lib.hid (HB5.out.trans (hb7.mono HB5.out.size))
      clear hb7
      go_wp2_with fail
      go_ret
      exact ⟨rfl, HB7.out⟩
  · rw [if_neg hnm]
    have hb1 : decide ((n : Int) ≤ (most : Int)) = false := decide_eq_false (by omega)
    go_wp2_with fail
    refine (numOf_any l most _ (by omega) hm).mono ?_
    rintro e w4 ⟨rfl, hb4⟩
    have HB4 := Lib.hid (HB3.out.trans (hb4.mono HB3.out.size))
    clear hb4
    rcases numOf_cases l most with ⟨v, hv, hdv, hvm⟩ | ⟨x, hv, hx⟩
    · have HV := Lib.hid hv
      have HDV := Lib.hid hdv
      have hle : decide ((v : Int) ≤ (most : Int)) = true := decide_eq_true (by omega)
      rw [hv]
      clear hv hdv
      go_wp2_with fail
      refine (rNumOf_any l most _ (by omega) hm).mono ?_
      rintro e w5 ⟨rfl, hb5⟩
      rw [HV.out]
      have HB5 := Lib.hid (HB4.out.trans (hb5.mono HB4.out.size))
      clear hb5
      go_wp2_with fail
      refine (num_any v _ (by omega)).mono ?_
      rintro e w6 ⟨rfl, hb6⟩
      rw [HDV.out]
      have HB6 := Lib.hid (HB5.out.trans (hb6.mono HB5.out.size))
      clear hb6
      go_wp2_with fail
      refine (alive_any _).mono ?_
      rintro e w7 ⟨rfl, hb7⟩
      have HB7 := Lib.hid (HB6.out.trans (hb7.mono HB6.out.size))
      clear hb7
      go_wp2_with fail
      go_ret
      exact ⟨rfl, HB7.out⟩
    · have HV := Lib.hid hv
      rw [hv]
      clear hv
      have hx0 : (x == 0) = false := by rw [beq_eq_false_iff_ne]; omega
      go_wp2_with fail
      refine (rNumOf_any l most _ (by omega) hm).mono ?_
      rintro e w5 ⟨rfl, hb5⟩
      rw [HV.out]
      have HB5 := Lib.hid (HB4.out.trans (hb5.mono HB4.out.size))
      clear hb5
      go_wp2_with fail
      refine (alive_any _).mono ?_
      rintro e w7 ⟨rfl, hb7⟩
      have HB7 := Lib.hid (HB5.out.trans (hb7.mono HB5.out.size))
      clear hb7
      go_wp2_with fail
      go_ret
      exact ⟨rfl, HB7.out⟩
end Go.Proofs.Ytiahnoncionmkaa.HexW
