/- CRC: the walk of the statement CrcMoves. -/
import Derived.Test.YtipmjhlhjnbhoaaCrcMove
namespace Go.Proofs.Ytipmjhlhjnbhoaa.CrcW
open Go.RowKit Go.Mir

theorem mod62 (n : Nat) : ∃ k : Nat, (n : Int) % 4611686018427387904 = (k : Int) ∧ k < 4611686018427387904 := ⟨n % 4611686018427387904, by omega, by omega⟩

set_option maxRecDepth 100000 in
set_option maxHeartbeats 400000 in
theorem moves_any (a b : BitVec 32) (n m : Nat) (w : World) (hn : n < 18446744073709551616) (hm : m < 18446744073709551616) :
    Calls Try.prog 5 #[.int .u32 (a.toNat : Int), .int .u32 (b.toNat : Int), .int .u64 (n : Int), .int .u64 (m : Int)] w fun e w' => e = .returned (.bool true) ∧ Below w.heap.size w w' := by
  obtain ⟨n1, hn1, hnl⟩ := mod62 n
  obtain ⟨m1, hm1, hml⟩ := mod62 m
  have ha := lt32 a
  have hb := lt32 b
  have hab := xor32 a b
  have e1 : (((Crc.iter Crc.step (8 * m1) (Crc.iter Crc.step (8 * n1) a)).toNat : Int) == ((Crc.iter Crc.step (8 * (n1 + m1)) a).toNat : Int)) = true := by
    rw [← Crc.iter_add, show 8 * m1 + 8 * n1 = 8 * (n1 + m1) from by omega]; exact beq_self_eq_true _
  have e2 : (((Crc.iter Crc.step (8 * n1) (a ^^^ b)).toNat : Int) == bits .xor .u32 ((Crc.iter Crc.step (8 * n1) a).toNat : Int) ((Crc.iter Crc.step (8 * n1) b).toNat : Int)) = true := by
    rw [xor32, ← Crc.iter_xor]; exact beq_self_eq_true _
  have e3 : (((Crc.iter Crc.step (8 * 0) a).toNat : Int) == (a.toNat : Int)) = true := by simp [Crc.iter]
  have e4 : (((Crc.iter Crc.step (8 * n1) a).toNat : Int) == 0) = ((a.toNat : Int) == 0) := by
    have h : (Crc.iter Crc.step (8 * n1) a).toNat = 0 ↔ a.toNat = 0 := by
      have := Crc.iter_inj0 (8 * n1) a
      constructor
      · intro h; rw [this.1 (BitVec.eq_of_toNat_eq h)]; rfl
      · intro h; rw [this.2 (BitVec.eq_of_toNat_eq h)]; rfl
    rw [Bool.eq_iff_iff, beq_iff_eq, beq_iff_eq]; omega
  generalize hX : Crc.iter Crc.step (8 * n1) a = X at *
  generalize hY : Crc.iter Crc.step (8 * n1) b = Y at *
  generalize hZ : Crc.iter Crc.step (8 * n1) (a ^^^ b) = Z at *
  generalize hU : Crc.iter Crc.step (8 * (n1 + m1)) a = U at *
  generalize hV : Crc.iter Crc.step (8 * m1) X = V at *
  generalize hT : Crc.iter Crc.step (8 * 0) a = T at *
  generalize hC : a ^^^ b = C at *
  have HX := Lib.hid hX
  have HY := Lib.hid hY
  have HZ := Lib.hid hZ
  have HU := Lib.hid hU
  have HV := Lib.hid hV
  have HT := Lib.hid hT
  clear hX hY hZ hU hV hT hC
  have hx := lt32 X
  have hy := lt32 Y
  go_enter Try.func5, Try.ntmps5
  go_wp2_with fail
  refine (moved_any a n1 (by omega) _).mono ?_
  rintro e w1 ⟨rfl, hb1⟩
  rw [HX.out]
  have HB1 := Lib.hid hb1
  clear hb1
  go_wp2_with fail
  refine (moved_any X m1 (by omega) _).mono ?_
  rintro e w2 ⟨rfl, hb2⟩
  rw [HV.out]
  have HB2 : Hid (Below w.heap.size w w2) := HB1.out.trans (hb2.mono HB1.out.size)
  clear hb2
  go_wp2_with fail
  rw [show ((n1 : Int) + (m1 : Int)) = ((n1 + m1 : Nat) : Int) from by omega]
  refine (moved_any a (n1 + m1) (by omega) _).mono ?_
  rintro e w3 ⟨rfl, hb3⟩
  rw [HU.out]
  have HB3 : Hid (Below w.heap.size w w3) := HB2.out.trans (hb3.mono HB2.out.size)
  clear hb3
  go_wp2_with fail
  refine (moved_any C n1 (by omega) _).mono ?_
  rintro e w4 ⟨rfl, hb4⟩
  rw [HZ.out]
  have HB4 : Hid (Below w.heap.size w w4) := HB3.out.trans (hb4.mono HB3.out.size)
  clear hb4
  go_wp2_with fail
  refine (moved_any b n1 (by omega) _).mono ?_
  rintro e w5 ⟨rfl, hb5⟩
  rw [HY.out]
  have HB5 : Hid (Below w.heap.size w w5) := HB4.out.trans (hb5.mono HB4.out.size)
  clear hb5
  go_wp2_with fail
  refine (moved_any a 0 (by omega) _).mono ?_
  rintro e w6 ⟨rfl, hb6⟩
  rw [HT.out]
  have HB6 : Hid (Below w.heap.size w w6) := HB5.out.trans (hb6.mono HB5.out.size)
  clear hb6
  go_wp2_with fail
  refine (alive_any _).mono ?_
  rintro e w7 ⟨rfl, hb7⟩
  have HB7 : Hid (Below w.heap.size w w7) := HB6.out.trans (hb7.mono HB6.out.size)
  clear hb7
  go_wp2_with fail
  go_ret
  exact ⟨rfl, HB7.out⟩
end Go.Proofs.Ytipmjhlhjnbhoaa.CrcW
