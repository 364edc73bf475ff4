/- FRAMES: the reference: value. Conditions: at most four bytes. -/
import Derived.Test.YtjbjlmdfgpoadaaDoorFrm2
namespace Go.Proofs.YtjbjlmdfgpoadaaDoor.Frm
open Go.RowKit Go.Mir Go.Mir.Parts Wr Cod

set_option maxRecDepth 100000 in
theorem value_any (p : Option Addr) (n c : Nat) (l : List UInt8) (w : World) (hB : Bs w p n c l) (hn : n ≤ 4) :
    Calls Tryd.prog 29 #[.slice p n c] w fun e w' => e = .returned (.int .i64 (Rdr.beN l : Int)) ∧ w = w' := by
  have HB := Lib.hid hB
  have HN := Lib.hid hB.length
  have hle := hB.le
  have hmax := hB.max
  clear hB
  go_enter Tryd.func29, Tryd.ntmps29
  go_wp2_with fail
  go_loop [3, 4] (fun x j => ∃ k : Nat, k ≤ n ∧ j = .int .i64 k ∧ x = .int .i64 (Rdr.beN (l.take k) : Nat)) (fun _ j => n - (intOf j).toNat)
  case atStart => exact ⟨0, by omega, rfl, rfl⟩
  case round =>
    obtain ⟨k, hk, rfl, rfl⟩ := hrel
    by_cases hlt : k < n
    · have hd : decide ((k:Int) < n) = true := by simp; omega
      obtain ⟨b', o', rfl⟩ := HB.out.addr (by omega) (by omega)
      have hc' := Bs.byte HB.out (j := k) (by rw [HN.out]; omega)
      have hbe := Rdr.beN_snoc (l.take k) (l[k]'(by rw [HN.out]; omega))
      rw [← take_snoc l k (by rw [HN.out]; omega)] at hbe
      have hb1 := Rdr.beN_lt_pow (l.take (k + 1))
      have hb2 : 256 ^ (l.take (k + 1)).length ≤ 256 ^ 4 := Nat.pow_le_pow_right (by omega) (by rw [List.length_take, HN.out]; omega)
      have hb4 : (256 : Nat) ^ 4 = 4294967296 := by decide
      generalize l[k]'(by rw [HN.out]; omega) = y at *
      have hll : y.toNat < 256 := y.toNat_lt
      generalize hB0 : Rdr.beN (l.take k) = B at *
      generalize hB2 : Rdr.beN (l.take (k + 1)) = B2 at *
      have HB2 := Lib.hid hB2
      have q1 : IntKind.i64.wrap ((256 : Int) * (B : Int)) = ((256 * B : Nat) : Int) := by rw [IntWalk.i64_in _ (by omega)]; omega
      have q2 : IntKind.i64.wrap (((256 * B : Nat) : Int) + (y.toNat : Int)) = (B2 : Int) := by rw [IntWalk.i64_in _ (by omega)]; omega
      have q3 : IntKind.i64.wrap ((256 : Int) * (B : Int) + (y.toNat : Int)) = (B2 : Int) := by rw [IntWalk.i64_in _ (by omega)]; omega
      have HW := Lib.hid q1
      have HW2 := Lib.hid q2
      have HW3 := Lib.hid q3
      clear hB0 hB2 hbe hb1 hb2 hb4
      go_wp2_with fail
      go_round
      case rel =>
        exact ⟨k + 1, by omega, by go_num, by first | rw [HB2.out] | (rw [HW.out, HW2.out, HB2.out]) | (rw [HW3.out, HB2.out])⟩
      case measure => simp [intOf]; omega
    · obtain rfl : k = n := by omega
      have hd : decide ((k:Int) < (k : Int)) = false := by simp
      rw [List.take_of_length_le (by rw [HN.out]; omega)]
      go_wp2_with fail
      go_ret
      exact ⟨rfl, rfl⟩
end Go.Proofs.YtjbjlmdfgpoadaaDoor.Frm
