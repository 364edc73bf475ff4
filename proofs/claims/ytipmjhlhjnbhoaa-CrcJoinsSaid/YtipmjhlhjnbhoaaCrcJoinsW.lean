/- CRC: the reference's Moved, and the walk of the statement CrcJoins. -/
import Derived.Test.YtipmjhlhjnbhoaaCrcMove
namespace Go.Proofs.Ytipmjhlhjnbhoaa.CrcW
open Go.RowKit Go.Mir

set_option maxRecDepth 100000 in
set_option maxHeartbeats 400000 in
theorem refMoved_any (s : BitVec 32) (n : Nat) (hn : n ≤ 1000000) (w : World) :
    Calls Try.prog 16 #[.int .u32 (s.toNat : Int), .int .i64 (n : Int)] w fun e w' => e = .returned (.int .u32 ((Crc.iter Crc.step (8 * n) s).toNat : Int)) ∧ w = w' := by
  have hs := lt32 s
  go_enter Try.func16, Try.ntmps16
  go_wp2
  go_loop [0, 5] (fun x j => ∃ k : Nat, k ≤ 8 * n ∧ j = .int .i64 k ∧ x = .int .u32 (Crc.iter Crc.step k s).toNat) (fun _ j => 8 * n - (intOf j).toNat)
  case atStart => exact ⟨0, by omega, rfl, rfl⟩
  case round =>
    obtain ⟨k, hk, rfl, rfl⟩ := hrel
    by_cases hlt : k < 8 * n
    · go_wp2_with (go_at_call 18; refine (move_any _ _).mono ?_; rintro e w' ⟨rfl, rfl⟩)
      go_round
      case rel => exact ⟨k + 1, by omega, by go_num, rfl⟩
      case measure => simp [intOf]; omega
    · obtain rfl : k = 8 * n := by omega
      go_wp2
      go_ret
      exact ⟨rfl, rfl⟩

set_option maxRecDepth 100000 in
set_option maxHeartbeats 400000 in
theorem joins_any (p q : Option Addr) (n c m d : Nat) (la lb : List UInt8) (x y : BitVec 32) (w : World) (ha : Bs w p n c la) (hb : Bs w q m d lb) (hn : n ≤ 1000) (hm : m ≤ 1000) :
    Calls Try.prog 6 #[.slice p n c, .slice q m d, .agg #[.int .u32 (x.toNat : Int), .int .u32 (y.toNat : Int)]] w fun e w' => e = .returned (.bool true) ∧ Below w.heap.size w w' := by
  have hle := ha.le
  have hmax := ha.max
  have hle' := hb.le
  have hmax' := hb.max
  have hlb := hb.length
  have hx := lt32 x
  have hy := lt32 y
  have HA := Lib.hid ha
  have HB := Lib.hid hb
  clear ha hb
  have hAB : Crc.more 0#32 [la, lb].flatten = Crc.more 0#32 (la ++ lb) := by simp
  have hA : Crc.more 0#32 [la].flatten = Crc.more 0#32 la := by simp
  have hB : Crc.more 0#32 [lb].flatten = Crc.more 0#32 lb := by simp
  have hJ : Crc.iter Crc.step (8 * m) (Crc.more 0#32 la) ^^^ Crc.more 0#32 lb = Crc.more 0#32 (la ++ lb) := by rw [Crc.more_append, Crc.more_join (Crc.more 0#32 la) lb, hlb]
  have hM : Crc.more (Crc.more 0#32 la) lb = Crc.more 0#32 (la ++ lb) := (Crc.more_append _ _ _).symm
  have hxy := Lib.hid (xor32 (Crc.iter Crc.step (8 * m) x) y)
  generalize hA' : Crc.more 0#32 la = A at *
  generalize hB' : Crc.more 0#32 lb = B at *
  generalize hC' : Crc.more 0#32 (la ++ lb) = C at *
  have hAB := Lib.hid hAB
  have hA := Lib.hid hA
  have hB := Lib.hid hB
  have hJ := Lib.hid hJ
  have hM := Lib.hid hM
  clear hA' hB' hC'
  have hne : ((C.toNat : Int) != (C.toNat : Int)) = false := bne_self_eq_false _
  rename_i u1 u2 u3 u4 u5
  clear u1 u2 u3 u4 u5
  go_enter Try.func6, Try.ntmps6
  go_wp2_with fail
  go_region
  go_wp2_with fail
  refine (of_any _ _ _ [la] _ (Pts.made1 (HA.out.below ((Below.allocs _ _).drew)) _ (by simp))).mono ?_
  rintro e w1 ⟨rfl, hb1⟩
  have HB1 : Hid (Below w.heap.size w w1) := below_call (Below.refl _ _) (by repeat (first | exact Below.refl _ _ | apply Below.drew | refine Below.alloc ?_ (by simp; try omega) _)) hb1
  clear hb1
  rw [hA.out]
  go_wp2_with fail
  refine (of_any _ _ _ [lb] _ (Pts.made1 (HB.out.below HB1.out) _ (by simp))).mono ?_
  rintro e w2 ⟨rfl, hb2⟩
  have HB2 : Hid (Below w.heap.size w w2) := below_call HB1.out (by repeat (first | exact Below.refl _ _ | apply Below.drew | refine Below.alloc ?_ (by simp; try omega) _)) hb2
  clear hb2
  rw [hB.out]
  go_wp2_with fail
  refine (join_any A B m (by omega) _).mono ?_
  rintro e w3 ⟨rfl, hb3⟩
  have HB3 : Hid (Below w.heap.size w w3) := below_call HB2.out (by repeat (first | exact Below.refl _ _ | apply Below.drew | refine Below.alloc ?_ (by simp; try omega) _)) hb3
  clear hb3
  rw [hJ.out]
  go_wp2_with fail
  refine (of_any _ _ _ [la, lb] _ (Pts.made2 (HA.out.below HB3.out) (HB.out.below HB3.out) _ (by simp))).mono ?_
  rintro e w4 ⟨rfl, hb4⟩
  have HB4 : Hid (Below w.heap.size w w4) := below_call HB3.out (by repeat (first | exact Below.refl _ _ | apply Below.drew | refine Below.alloc ?_ (by simp; try omega) _)) hb4
  clear hb4
  rw [hAB.out]
  go_wp2_with fail
  refine (of_any _ _ _ [la] _ (Pts.made1 (HA.out.below HB4.out) _ (by simp))).mono ?_
  rintro e w5 ⟨rfl, hb5⟩
  have HB5 : Hid (Below w.heap.size w w5) := below_call HB4.out (by repeat (first | exact Below.refl _ _ | apply Below.drew | refine Below.alloc ?_ (by simp; try omega) _)) hb5
  clear hb5
  rw [hA.out]
  go_wp2_with fail
  refine (more_any A _ _ _ lb _ (HB.out.below HB5.out)).mono ?_
  rintro e w6 ⟨rfl, hb6⟩
  have HB6 : Hid (Below w.heap.size w w6) := below_call HB5.out (by repeat (first | exact Below.refl _ _ | apply Below.drew | refine Below.alloc ?_ (by simp; try omega) _)) hb6
  clear hb6
  rw [hM.out]
  go_wp2_with fail
  refine (of_any _ _ _ [la, lb] _ (Pts.made2 (HA.out.below HB6.out) (HB.out.below HB6.out) _ (by simp))).mono ?_
  rintro e w7 ⟨rfl, hb7⟩
  have HB7 : Hid (Below w.heap.size w w7) := below_call HB6.out (by repeat (first | exact Below.refl _ _ | apply Below.drew | refine Below.alloc ?_ (by simp; try omega) _)) hb7
  clear hb7
  rw [hAB.out]
  go_wp2_with fail
  refine (moved_any x m (by omega) _).mono ?_
  rintro e w8 ⟨rfl, hb8⟩
  have HB8 : Hid (Below w.heap.size w w8) := below_call HB7.out (by repeat (first | exact Below.refl _ _ | apply Below.drew | refine Below.alloc ?_ (by simp; try omega) _)) hb8
  clear hb8
  go_wp2_with fail
  refine (refMoved_any x m (by omega) _).mono ?_
  rintro e w' ⟨rfl, rfl⟩
  go_wp2_with fail
  refine (join_any x y m (by omega) _).mono ?_
  rintro e w9 ⟨rfl, hb9⟩
  have HB9 : Hid (Below w.heap.size w w9) := below_call HB8.out (by repeat (first | exact Below.refl _ _ | apply Below.drew | refine Below.alloc ?_ (by simp; try omega) _)) hb9
  clear hb9
  go_wp2_with fail
  refine (refMoved_any x m (by omega) _).mono ?_
  rintro e w' ⟨rfl, rfl⟩
  have hz := lt32 (Crc.iter Crc.step (8 * m) x)
  have hxz := hxy.out
  have hxn : (Crc.iter Crc.step (8 * m) x).toNat ^^^ y.toNat = (Crc.iter Crc.step (8 * m) x ^^^ y).toNat := (BitVec.toNat_xor _ _).symm
  generalize Crc.iter Crc.step (8 * m) x ^^^ y = Z at *
  generalize Crc.iter Crc.step (8 * m) x = X at *
  go_wp2_with fail
  refine (alive_any _).mono ?_
  rintro e w10 ⟨rfl, hb10⟩
  have HB10 : Hid (Below w.heap.size w w10) := below_call HB9.out (by repeat (first | exact Below.refl _ _ | apply Below.drew | refine Below.alloc ?_ (by simp; try omega) _)) hb10
  clear hb10
  go_wp2_with fail
  go_ret
  exact ⟨rfl, HB10.out⟩

theorem joins_out (p q : Option Addr) (n c m d : Nat) (la lb : List UInt8) (x y : BitVec 32) (w : World) (ha : Bs w p n c la) (hb : Bs w q m d lb) (h : 1000 < n ∨ 1000 < m) :
    Calls Try.prog 6 #[.slice p n c, .slice q m d, .agg #[.int .u32 (x.toNat : Int), .int .u32 (y.toNat : Int)]] w fun e w' => e = .returned (.bool true) ∧ Below w.heap.size w w' := by
  have hle := ha.le
  have hmax := ha.max
  have hle' := hb.le
  have hmax' := hb.max
  by_cases h1 : 1000 < n
  · go_enter Try.func6, Try.ntmps6
    go_wp2_with fail
    refine (alive_any _).mono ?_
    rintro e w11 ⟨rfl, hb11⟩
    have HB11 : Hid (Below w.heap.size w w11) := below_call (Below.refl _ _) (by repeat (first | exact Below.refl _ _ | apply Below.drew | refine Below.alloc ?_ (by simp; try omega) _)) hb11
    clear hb11
    go_wp2_with fail
    go_ret
    exact ⟨rfl, HB11.out⟩
  · have h2 : 1000 < m := by omega
    go_enter Try.func6, Try.ntmps6
    go_wp2_with fail
    refine (alive_any _).mono ?_
    rintro e w12 ⟨rfl, hb12⟩
    have HB12 : Hid (Below w.heap.size w w12) := below_call (Below.refl _ _) (by repeat (first | exact Below.refl _ _ | apply Below.drew | refine Below.alloc ?_ (by simp; try omega) _)) hb12
    clear hb12
    go_wp2_with fail
    go_ret
    exact ⟨rfl, HB12.out⟩
end Go.Proofs.Ytipmjhlhjnbhoaa.CrcW
