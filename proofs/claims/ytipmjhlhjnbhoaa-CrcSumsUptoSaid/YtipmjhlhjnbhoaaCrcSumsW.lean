/- CRC: the walk of the statement CrcSums. Conditions: the lengths add up to less than 2^47. -/
import Derived.Test.YtipmjhlhjnbhoaaCrcWalk
import Derived.Test.YtipmjhlhjnbhoaaRef02
namespace Go.Proofs.Ytipmjhlhjnbhoaa.CrcW
open Go.RowKit Go.Mir

set_option maxRecDepth 100000 in
set_option maxHeartbeats 400000 in
theorem sums_any (p : Option Addr) (n c : Nat) (ls : List (List UInt8)) (s : BitVec 32) (w : World) (h : Pts w p n c ls) (hb : n + R02.total ls ≤ 2000) :
    Calls Try.prog 4 #[.slice p n c, .int .u32 (s.toNat : Int)] w fun e w' => e = .returned (.bool true) ∧ Below w.heap.size w w' := by
  have hle := h.le
  have hmax := h.max
  have hn := h.len
  have hs := lt32 s
  have HP := Lib.hid h
  have hd0 : decide (n + R02.total ls ≤ 2000) = true := by simp [hb]
  clear h
  go_enter Try.func4, Try.ntmps4
  go_wp2_with fail
  refine (R02.few_any _ _ _ ls 2000 _ HP.out (by omega) (by omega)).mono ?_
  rintro e w' ⟨rfl, rfl⟩
  rw [hd0]
  clear hd0
  go_wp2_with fail
  refine (R02.join_any _ _ _ ls _ HP.out (by omega)).mono ?_
  rintro e w1 ⟨⟨v, rfl, how⟩, hb1⟩
  have HB1 : Hid (Below w.heap.size w w1) := below_call (Below.refl _ _) (by repeat (first | exact Below.refl _ _ | apply Below.drew | refine Below.alloc ?_ (by simp; try omega) _)) hb1
  clear hb1
  have HO := Lib.hid how
  obtain ⟨pa, ca, hv, hA⟩ := own_sl how
  have HA : Hid (Bs w1 pa (R02.total ls) ca ls.flatten) := hA
  subst hv
  clear how hA
  go_wp2_with fail
  go_loopw [6, 18] (fun x j wr => ∃ k : Nat, k ≤ n ∧ j = .int .i64 k ∧ x = .int .u32 (Crc.more s (ls.take k).flatten).toNat ∧ Below w.heap.size w wr ∧ Below w1.heap.size w1 wr) (fun _ j _ => n - (intOf j).toNat)
  case atStart => exact ⟨0, by omega, rfl, by simp [Crc.more_nil], HB1.out, Below.refl _ _⟩
  case round =>
    obtain ⟨k, hk, rfl, rfl, hbl, hbl1⟩ := hrel
    have HB := Lib.hid hbl
    have HW := Lib.hid hbl1
    clear hbl hbl1
    by_cases hlt : k < n
    · obtain ⟨b, o, rfl⟩ := HP.out.addr (by omega)
      obtain ⟨q, m, d, hc0, hB⟩ := (HP.out.below HB.out).cell _ rfl k (by omega)
      rw [add_none] at hc0
      have hfl : Hid (Crc.more (Crc.more s (ls.take k).flatten) ls[k] = Crc.more s (ls.take (k+1)).flatten) := by
        show _ = _
        rw [R02.take_snoc ls k (by omega), List.flatten_append, Crc.more_append]; simp
      have HS := Lib.hid hB
      clear hB
      go_wp2_with fail
      refine (more_any _ _ _ _ _ _ HS.out).mono ?_
      rintro e w2 ⟨rfl, hb2⟩
      have HB' : Hid (Below w.heap.size w w2) := HB.out.trans (hb2.mono HB.out.size)
      have HW' : Hid (Below w1.heap.size w1 w2) := HW.out.trans (hb2.mono HW.out.size)
      clear hb2
      rw [hfl.out]
      go_wp2
      go_roundw
      case rel => exact ⟨k + 1, by omega, by go_num, rfl, HB'.out, HW'.out⟩
      case measure => simp [intOf]; omega
    · have hk' : k = ls.length := by omega
      rw [hk', List.take_length]
      have HA' : Hid (Bs wr pa (R02.total ls) ca ls.flatten) := HA.out.below HW.out
      have hM := lt32 (Crc.more s ls.flatten)
      have e1 : (((Crc.more 0#32 ls.flatten).toNat : Int) == ((Crc.more 0#32 ls.flatten).toNat : Int)) = true := beq_self_eq_true _
      have e2 : (((Crc.more s ls.flatten).toNat : Int) == ((Crc.more s ls.flatten).toNat : Int)) = true := beq_self_eq_true _
      go_wp2_with fail
      refine (of_any _ _ _ ls _ (HP.out.below HB.out)).mono ?_
      rintro e w2 ⟨rfl, hb2⟩
      have HB2 : Hid (Below wr.heap.size wr w2) := below_call (Below.refl _ _) (by repeat (first | exact Below.refl _ _ | apply Below.drew | refine Below.alloc ?_ (by simp; try omega) _)) hb2
      clear hb2
      go_wp2_with fail
      refine (refOf_any _ _ _ ls.flatten _ (HA'.out.below HB2.out)).mono ?_
      rintro e w' ⟨rfl, rfl⟩
      go_wp2_with fail
      refine (more_any s _ _ _ ls.flatten _ (HA'.out.below HB2.out)).mono ?_
      rintro e w3 ⟨rfl, hb3⟩
      have HB3 : Hid (Below wr.heap.size wr w3) := below_call HB2.out (by repeat (first | exact Below.refl _ _ | apply Below.drew | refine Below.alloc ?_ (by simp; try omega) _)) hb3
      clear hb3
      go_wp2_with fail
      refine (refMore_any s _ _ _ ls.flatten _ (HA'.out.below HB3.out)).mono ?_
      rintro e w' ⟨rfl, rfl⟩
      go_wp2_with fail
      refine (more_any s _ _ _ ls.flatten _ (HA'.out.below HB3.out)).mono ?_
      rintro e w4 ⟨rfl, hb4⟩
      have HB4 : Hid (Below wr.heap.size wr w4) := below_call HB3.out (by repeat (first | exact Below.refl _ _ | apply Below.drew | refine Below.alloc ?_ (by simp; try omega) _)) hb4
      clear hb4
      go_wp2_with fail
      refine (alive_any _).mono ?_
      rintro e w5 ⟨rfl, hb5⟩
      have HB5 : Hid (Below wr.heap.size wr w5) := below_call HB4.out (by repeat (first | exact Below.refl _ _ | apply Below.drew | refine Below.alloc ?_ (by simp; try omega) _)) hb5
      clear hb5
      go_wp2_with fail
      go_ret
      exact ⟨rfl, HB.out.trans (Below.mono HB5.out HB.out.size)⟩

set_option maxRecDepth 100000 in
set_option maxHeartbeats 400000 in
theorem sums_out (p : Option Addr) (n c : Nat) (ls : List (List UInt8)) (s : BitVec 32) (w : World) (h : Pts w p n c ls) (hb : 2000 < n + R02.total ls) (hb2 : n + R02.total ls ≤ 4611686018427387904) :
    Calls Try.prog 4 #[.slice p n c, .int .u32 (s.toNat : Int)] w fun e w' => e = .returned (.bool true) ∧ Below w.heap.size w w' := by
  have hle := h.le
  have hmax := h.max
  have HP := Lib.hid h
  have hd0 : decide (n + R02.total ls ≤ 2000) = false := by simp; omega
  clear h
  go_enter Try.func4, Try.ntmps4
  go_wp2_with fail
  refine (R02.few_any _ _ _ ls 2000 _ HP.out (by omega) (by omega)).mono ?_
  rintro e w' ⟨rfl, rfl⟩
  rw [hd0]
  clear hd0
  go_wp2_with fail
  refine (alive_any _).mono ?_
  rintro e w6 ⟨rfl, hb6⟩
  have HB6 : Hid (Below w.heap.size w w6) := below_call (Below.refl _ _) (by repeat (first | exact Below.refl _ _ | apply Below.drew | refine Below.alloc ?_ (by simp; try omega) _)) hb6
  clear hb6
  go_wp2_with fail
  go_ret
  exact ⟨rfl, HB6.out⟩
end Go.Proofs.Ytipmjhlhjnbhoaa.CrcW
