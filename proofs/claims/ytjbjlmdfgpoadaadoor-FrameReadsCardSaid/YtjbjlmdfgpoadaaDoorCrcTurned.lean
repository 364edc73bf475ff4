/- CRC: the walk of the statement CrcTurned. -/
import Derived.Test.YtjbjlmdfgpoadaaDoorCrcWalk
import Derived.BigRegion
import Derived.Laws.ShiftsVar
namespace Go.Proofs.YtjbjlmdfgpoadaaDoor.CrcW
open Go.RowKit Go.Mir

theorem infoB : (Tryd.prog.info? 5).map (fun i => (i.zero, i.size, i.bytes)) = some (some (.int .u8 0), 1, 1) := by kernel_rfl

theorem bit_int (x : BitVec 32) (k : Nat) : (((x.toNat : Int) / 2 ^ k).tmod 2 == 1) = x.getLsbD k := by
  have e : ((x.toNat : Int) / 2 ^ k) = ((x.toNat / 2 ^ k : Nat) : Int) := by
    rw [Int.natCast_ediv, Int.natCast_pow]; rfl
  rw [e, Int.tmod_eq_emod_of_nonneg (Int.natCast_nonneg _)]
  rw [BitVec.getLsbD, Nat.testBit_eq_decide_div_mod_eq]
  by_cases h : x.toNat / 2 ^ k % 2 = 1
  · rw [h, beq_iff_eq.2 (show (((x.toNat / 2 ^ k : Nat) : Int) % 2) = 1 by omega)]; rfl
  · rw [decide_eq_false h, beq_eq_false_iff_ne]; omega

def flipped (y : UInt8) (r : Nat) : UInt8 := UInt8.ofNat (y.toNat ^^^ 2 ^ r)
theorem flipped_toNat (y : UInt8) (r : Nat) (hr : r < 8) : (flipped y r).toNat = y.toNat ^^^ 2 ^ r := by
  have h1 : (2 : Nat) ^ r < 2 ^ 8 := Nat.pow_lt_pow_right (by omega) hr
  have h2 : y.toNat ^^^ 2 ^ r < 2 ^ 8 := Nat.xor_lt_two_pow y.toNat_lt h1
  rw [flipped, UInt8.toNat_ofNat']
  exact Nat.mod_eq_of_lt h2
theorem flip_int (y : UInt8) (r : Nat) (hr : r < 8) : bits BinOp.xor IntKind.u8 (y.toNat : Int) (2 ^ r % 256) = ((flipped y r).toNat : Int) := by
  have h1 : (2 : Nat) ^ r < 2 ^ 8 := Nat.pow_lt_pow_right (by omega) hr
  have e : ((2 : Int) ^ r % 256) = ((2 ^ r : Nat) : Int) := by
    rw [Int.natCast_pow]
    have h3 : ((2 ^ r : Nat) : Int) = (2 : Int) ^ r := Int.natCast_pow 2 r
    rw [show ((2 : Nat) : Int) = 2 from rfl, ← h3]
    exact Int.emod_eq_of_lt (Int.natCast_nonneg _) (by omega)
  rw [e, u8_xor_nat _ _ y.toNat_lt (by omega), flipped_toNat y r hr]
theorem bits_set (m : List UInt8) (t : Nat) (ht : t / 8 < m.length) (j : Nat) : Crc.bitAt (m.set (t / 8) (flipped m[t / 8] (t % 8))) j = (Crc.bitAt m j ^^ decide (j = t)) := by
  unfold Crc.bitAt
  by_cases h : j / 8 = t / 8
  · have e1 : (m.set (t / 8) (flipped m[t / 8] (t % 8))).getD (j / 8) 0 = flipped m[t / 8] (t % 8) := by
      rw [h]; simp [ht]
    have e2 : m.getD (j / 8) 0 = m[t / 8] := by rw [h]; simp [ht]
    rw [e1, e2, flipped_toNat _ _ (by omega), Nat.testBit_xor, Nat.testBit_two_pow]
    congr 1
    have : (t % 8 = j % 8) ↔ (j = t) := by omega
    simp [this]
  · have e1 : (m.set (t / 8) (flipped m[t / 8] (t % 8))).getD (j / 8) 0 = m.getD (j / 8) 0 := by
      simp [List.getElem?_set, Ne.symm h]
    rw [e1, decide_eq_false (fun e => h (by rw [e]))]
    simp
theorem bytesV_set (m : List UInt8) (j : Nat) (y : UInt8) : bytesV (m.set j y) = (bytesV m).set j (.int .u8 (y.toNat : Int)) := by simp [bytesV, List.map_set]

end Go.Proofs.YtjbjlmdfgpoadaaDoor.CrcW
