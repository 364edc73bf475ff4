/- PARTS, JOINED: FRAMES: Encode. Conditions: at most 4000 bytes. FRAMES: the reference: value. Conditions: at most four bytes. THE WALKS OF THE REFERENCE's WRITER (a plain value). Conditions: sizes that fit. THE WALKS OF THE REFERENCE's WRITER, on: Number, Num, Ids. Conditions: sizes that fit. FRAMES: the reference: Bytes. Conditions: at most 70000 bytes. FRAMES: the reference: Encode. Conditions: at most 4000 bytes. A REGION THAT DRAWS ITS ORDER, WALKED IN ONE ORDER, WHERE A CALL MAY TELL MORE OF THE WORLD THAN WAS KNOWN AT THE START (the condition may grow behind each operation that runs in its turn). No program is named. Conditions: none. FRAMES: the reference: One. Conditions: at most 2^40 bytes. FRAMES: One. Conditions: the laid cell of errors.errorType; at most 2^40 bytes. A [][]byte THAT THE CALL OWNS, each element a slice of bytes that it does not overwrite. Conditions: none. FRAMES: all frames one behind the other, plain; the reference's Scan. Conditions: at most 4000 bytes. A RANGE OVER A FUNCTION WHOSE ROUNDS ARE HANDED MEMORY THAT THE ITERATOR HAS LAID: the iterator tells of each element what it knows of the world ('G'). No program is named. Conditions: none. FRAMES: All, and its function. Conditions: the laid cell of errors.errorType; at most 4000 bytes. FRAMES: Scan. Conditions: the laid cell of errors.errorType; at most 4000 bytes. FRAMES: the reference's Same: are lists of bytes the same? Conditions: none. CRC: the walk of the statement CrcTurned. FRAMES, plain: there and back, torn, turned, one behind the other. Conditions: none. PLAIN PART OF THE ROLL: what it does to a disk of one file, and what a crash leaves. Conditions: none. THE REFERENCE OF ROLLS: Clear, Append, Bodies. Conditions: sizes that fit. A DISK BESIDE OTHER MEMORY: what its calls leave, and what they leave alone. Conditions: none. PLAIN PART OF SLOTS: what a file tells, which file is current, what a snapshot put does to a disk. Conditions: none. SLOTS BESIDE OTHER MEMORY: their row, what their calls leave. Conditions: none. SLOTS: the function that reads a file; none, Get, Turn, File. Conditions: the laid cell of errors.errorType. -/
import Derived.Test.YtgmahahhkaofbaaGreatDoorSd1
import Derived.Test.YtgmahahhkaofbaaGreatDoorSd2
import Derived.Test.YtgmahahhkaofbaaGreatDoorSd3
import Derived.Test.YtgmahahhkaofbaaGreatDoorSd4
import Derived.Test.YtgmahahhkaofbaaGreatDoorSd5
import Derived.Test.YtgmahahhkaofbaaGreatDoorSd6
import Derived.Test.YtgmahahhkaofbaaGreatDoorSd7
import Derived.Deep.RegionHeld3
import Derived.Deep.RegionWith
import Derived.Test.YtgmahahhkaofbaaGreatDoorChecked
import Derived.RangeFuncNested
import Derived.RangeFuncBound
import Derived.RangeFuncCalls
import Derived.RangeFuncLeaves
import Derived.RangeFuncBox
import Derived.Shelf.Abstract
import Derived.Shelf.RegionOpen
import Derived.WalkKit
import Derived.OwnWalkIn
import Derived.TacticsInMore
import Derived.LoopNIn
import Derived.LoopIn
import Derived.Maps.AppendAt
import Derived.BigRegion
import Derived.Laws.ShiftsVar
namespace Go.Proofs.YtgmahahhkaofbaaGreatDoor.Frm
open Go.RowKit Go.Mir Go.Mir.Parts Wr Cod

theorem ws_below {w x y : World} {wb R : Nat} {E : List UInt8} (h : WS w wb R E x) (hb : Below x.heap.size x y) : WS w wb R E y := by
  obtain ⟨v, l, bad, ha, hv, h3, h4⟩ := h.all
  exact ⟨v, l, bad, ha.touch (Turns.of_below (S := fun _ => False) hb) (fun _ _ h => h), hv, h3, h4.trans (hb.mono h4.size)⟩
/-- a body's frame -/
def frame (l : List UInt8) : List UInt8 := be l.length 4 ++ be (Crc.more 0#32 ([be l.length 4, l].flatten)).toNat 4 ++ l
def enc (l : List UInt8) : List UInt8 × Int := if l.length = 0 then ([], 1) else (frame l, 0)
set_option maxRecDepth 100000 in
set_option maxHeartbeats 1600000 in
theorem encode_any (p : Option Addr) (n c : Nat) (l : List UInt8) (w : World) (hB : Bs w p n c l) (hn : n ≤ 4000) :
    Calls Tryz.prog 72 #[.slice p n c] w fun e w' => ∃ p' c', e = .returned (.tuple #[.slice p' (enc l).1.length c', .int .i64 (enc l).2]) ∧ w'.ownsRow w.heap.size 5 1 (.slice p' (enc l).1.length c') (enc l).1.length (bytesV (enc l).1) ∧ Below w.heap.size w w' := by
  have HB := Lib.hid hB
  have HN := Lib.hid hB.length
  clear hB
  have hw1 : IntKind.u64.wrap (n : Int) = (n : Int) := by rw [IntKind.wrap_u64]; omega
  by_cases h0 : n = 0
  · have HF : Hid (decide (1 ≤ n ∧ n ≤ 65536) = false) := decide_eq_false (by omega)
    have HE : Hid (enc l = ([], 1)) := by show _ = _; unfold enc; rw [if_pos (by rw [HN.out]; exact h0)]
    clear h0
    go_enter Tryz.func72, Tryz.ntmps72
    go_wp2_with fail
    refine (fits_any n (by omega) w).mono ?_
    rintro e w1 ⟨rfl, rfl⟩
    rw [HF.out]
    go_wp2_with fail
    go_ret2
    exact ⟨none, 0, by rw [HE.out]; rfl, by rw [HE.out]; exact ⟨rfl, .inl ⟨rfl, rfl⟩⟩, Below.refl _ _⟩
  · have HF : Hid (decide (1 ≤ n ∧ n ≤ 65536) = true) := decide_eq_true (by omega)
    have HE : Hid (enc l = (frame l, 0)) := by show _ = _; unfold enc; rw [if_neg (by rw [HN.out]; exact h0)]
    clear h0
    go_enter Tryz.func72, Tryz.ntmps72
    go_wp2_with fail
    refine (fits_any n (by omega) w).mono ?_
    rintro e w1 ⟨rfl, rfl⟩
    rw [HF.out]
    go_wp2_with fail
    refine (size_any p n c (by omega) w).mono ?_
    rintro e w1 ⟨rfl, rfl⟩
    go_wp2_with fail
    refine (ws_new w w (Below.refl _ _) (8 + n) (by omega)).mono ?_
    rintro e w2 ⟨rfl, hs2, -⟩
    have HS2 := Lib.hid hs2
    clear hs2
    go_wp2_with fail
    refine (ws_num HS2.out (by omega) n 4 (by omega) (by omega) (by omega) (by omega)).mono ?_
    rintro e w3 ⟨rfl, hs3⟩
    have HS3 := Lib.hid hs3
    clear hs3 HS2
    go_wp2_with fail
    refine (ws_done HS3.out (by omega) (by rw [List.nil_append, be_length]; omega)).mono ?_
    rintro e w4 ⟨⟨p4, c4, rfl, ho4⟩, hs4, hb4⟩
    have HS4 := Lib.hid hs4
    have HO4 := Lib.hid ho4
    clear hs4 ho4 HS3
    go_wp2_with fail
    have hb14 : Bs w4 p4 (be n 4).length c4 (be n 4) := by
      obtain ⟨p9, c9, e9, h9⟩ := own_sl HO4.out
      cases e9
      exact h9
    have h4w : Below w.heap.size w w4 := HS4.out.low
    have hal : Below w4.heap.size w4 (w4.alloc (.cells #[.slice p4 (be n 4).length c4, .slice p n c] 22)) := Below.allocs _ _
    refine (CrcW.of_any _ _ _ [be n 4, l] _ (Pts.made2 hb14 (HB.out.below h4w) _ rfl)).mono ?_
    rintro e w5 ⟨rfl, hb5⟩
    have HS5 := Lib.hid (ws_below HS4.out (hal.trans (hb5.mono hal.size)))
    have HO5 := Lib.hid HO4.out
    have hcl := (Crc.more 0#32 ([be n 4, l].flatten)).isLt
    obtain ⟨C, hC⟩ : ∃ C, (Crc.more 0#32 ([be n 4, l].flatten)).toNat = C := ⟨_, rfl⟩
    rw [hC] at hcl ⊢
    have hcw : IntKind.u64.wrap (C : Int) = (C : Int) := by rw [IntKind.wrap_u64]; omega
    have HC := Lib.hid hC
    clear hb14 h4w hal hb5 HS4 hC HO4
    go_wp2_with fail
    refine (ws_num HS5.out (by omega) C 4 (by omega) (by omega) (by omega) (by omega)).mono ?_
    rintro e w6 ⟨rfl, hs6⟩
    have HS6 := Lib.hid hs6
    clear hs6 HS5
    go_wp2_with fail
    refine (ws_bytes HS6.out (by omega) p n c l HB.out (by rw [HN.out]; omega)).mono ?_
    rintro e w7 ⟨rfl, hs7⟩
    have HS7 := Lib.hid hs7
    clear hs7 HS6
    go_wp2_with fail
    refine (ws_done HS7.out (by omega) (by simp only [List.nil_append, List.length_append, be_length]; rw [HN.out]; omega)).mono ?_
    rintro e w8 ⟨⟨p8, c8, rfl, ho8⟩, hs8, hb8⟩
    have hfr : ([] ++ be n 4 ++ be C 4 ++ l) = frame l := by unfold frame; rw [HN.out, HC.out, List.nil_append]
    rw [hfr] at ho8
    have HO8 := Lib.hid (own_base ho8 (base' := w.heap.size) (fun k hk => by have := (ho8.lt k hk).1; have := HS7.out.low.size; omega))
    have HFR := Lib.hid hfr
    have HB8 := Lib.hid hs8.low
    rw [hfr]
    clear hs8 hb8 ho8 hfr
    go_wp2_with fail
    go_ret2
    exact ⟨p8, c8, by rw [HE.out]; rfl, by rw [HE.out]; exact HO8.out, HB8.out⟩
end Go.Proofs.YtgmahahhkaofbaaGreatDoor.Frm

namespace Go.Proofs.YtgmahahhkaofbaaGreatDoor.Frm
open Go.RowKit Go.Mir Go.Mir.Parts Wr Cod

set_option maxRecDepth 100000 in
theorem value_any (p : Option Addr) (n c : Nat) (l : List UInt8) (w : World) (hB : Bs w p n c l) (hn : n ≤ 4) :
    Calls Tryz.prog 82 #[.slice p n c] w fun e w' => e = .returned (.int .i64 (Rdr.beN l : Int)) ∧ w = w' := by
  have HB := Lib.hid hB
  have HN := Lib.hid hB.length
  have hle := hB.le
  have hmax := hB.max
  clear hB
  go_enter Tryz.func82, Tryz.ntmps82
  go_wp2_with fail
  go_loop [3, 4] (fun x j => ∃ k : Nat, k ≤ n ∧ j = .int .i64 k ∧ x = .int .i64 (Rdr.beN (l.take k) : Nat)) (fun _ j => n - (intOf j).toNat)
  case atStart => exact ⟨0, by omega, rfl, rfl⟩
  case round =>
    obtain ⟨k, hk, rfl, rfl⟩ := hrel
    by_cases hlt : k < n
    · have hd : decide ((k:Int) < n) = true := by simp; omega
      obtain ⟨b', o', rfl⟩ := HB.out.addr (by omega) (by omega)
      have hc' := Bs.byte HB.out (j := k) (by rw [HN.out]; omega)
      have hbe := Rdr.beN_snoc (l.take k) (l[k]'(by rw [HN.out]; omega))
      rw [← take_snoc l k (by rw [HN.out]; omega)] at hbe
      have hb1 := Rdr.beN_lt_pow (l.take (k + 1))
      have hb2 : 256 ^ (l.take (k + 1)).length ≤ 256 ^ 4 := Nat.pow_le_pow_right (by omega) (by rw [List.length_take, HN.out]; omega)
      have hb4 : (256 : Nat) ^ 4 = 4294967296 := by decide
      generalize l[k]'(by rw [HN.out]; omega) = y at *
      have hll : y.toNat < 256 := y.toNat_lt
      generalize hB0 : Rdr.beN (l.take k) = B at *
      generalize hB2 : Rdr.beN (l.take (k + 1)) = B2 at *
      have HB2 := Lib.hid hB2
      have q1 : IntKind.i64.wrap ((256 : Int) * (B : Int)) = ((256 * B : Nat) : Int) := by rw [IntWalk.i64_in _ (by omega)]; omega
      have q2 : IntKind.i64.wrap (((256 * B : Nat) : Int) + (y.toNat : Int)) = (B2 : Int) := by rw [IntWalk.i64_in _ (by omega)]; omega
      have q3 : IntKind.i64.wrap ((256 : Int) * (B : Int) + (y.toNat : Int)) = (B2 : Int) := by rw [IntWalk.i64_in _ (by omega)]; omega
      have HW := Lib.hid q1
      have HW2 := Lib.hid q2
      have HW3 := Lib.hid q3
      clear hB0 hB2 hbe hb1 hb2 hb4
      go_wp2_with fail
      go_round
      case rel =>
        exact ⟨k + 1, by omega, by go_num, by first | rw [HB2.out] | (rw [HW.out, HW2.out, HB2.out]) | (rw [HW3.out, HB2.out])⟩
      case measure => simp [intOf]; omega
    · obtain rfl : k = n := by omega
      have hd : decide ((k:Int) < (k : Int)) = false := by simp
      rw [List.take_of_length_le (by rw [HN.out]; omega)]
      go_wp2_with fail
      go_ret
      exact ⟨rfl, rfl⟩
end Go.Proofs.YtgmahahhkaofbaaGreatDoor.Frm

namespace Go.Proofs.YtgmahahhkaofbaaGreatDoor.RW
open Go.RowKit Go.Mir Go.Mir.Parts Wr

end Go.Proofs.YtgmahahhkaofbaaGreatDoor.RW

namespace Go.Proofs.YtgmahahhkaofbaaGreatDoor.RW
open Go.RowKit Go.Mir Go.Mir.Parts Wr

theorem be_take (n m k : Nat) (hk : k < m) : (be n m).take (k + 1) = (be n m).take k ++ [nb n (8 - m + k)] := by
  rw [List.take_succ_eq_append_getElem (by rw [be_length]; exact hk)]; simp [be]

set_option maxRecDepth 100000 in
set_option maxHeartbeats 400000 in
theorem number_any (n m : Nat) (_hn : n < 18446744073709551616) (hm : m ≤ 8) (w : World) :
    Calls Tryz.prog 65 #[.int .u64 (n : Int), .int .i64 (m : Int)] w fun e w' => (∃ v, e = .returned v ∧ w'.ownsRow w.heap.size 5 1 v m (bytesV (be n m))) ∧ Below w.heap.size w w' := by
  go_enter Tryz.func65, Tryz.ntmps65
  go_wp2
  go_loopw [5, 6] (fun x j wr => ∃ k : Nat, k ≤ m ∧ j = .int .i64 ((m : Int) - 1 - (k : Int)) ∧ wr.ownsRow w.heap.size 5 1 x k (bytesV ((be n m).take k)) ∧ Below w.heap.size w wr) (fun _ j _ => (intOf j + 1).toNat)
  case atStart => exact ⟨0, by omega, by go_num, World.ownsRow_nil _ _ _ _, Below.refl _ _⟩
  case round =>
    obtain ⟨k, hk, rfl, how, hbl⟩ := hrel
    have HO := Lib.hid how
    have HB := Lib.hid hbl
    clear how hbl
    by_cases hlt : k < m
    · have hd : decide ((0 : Int) ≤ (m : Int) - 1 - (k : Int)) = true := by simp; omega
      obtain ⟨i, hi⟩ : ∃ i : Nat, (m : Int) - 1 - (k : Int) = (i : Int) := ⟨m - 1 - k, by omega⟩
      rw [hi]
      rw [hi] at hd
      have hi2 : 7 - i = 8 - m + k := by omega
      have hv := nb_int n i (by omega)
      rw [hi2] at hv
      have hil : i < 8 := by omega
      have HI := Lib.hid hi
      clear hi hi2
      have hbd : Hid (k + 1 ≤ 9223372036854775807 ∧ (k + 1) * 1 ≤ 140737488355328) := by show _ ∧ _; omega
      have hnew : Hid (Bs (wr.alloc (.cells #[.int .u8 ((nb n (8 - m + k)).toNat : Int)] 5)) (some ⟨wr.heap.size, 0, none⟩) 1 1 [nb n (8 - m + k)]) := Bs.made wr [nb n (8 - m + k)] _ _ _ 1 rfl rfl (by omega)
      have htk : Hid (bytesV ((be n m).take (k + 1)) = bytesV ((be n m).take k) ++ bytesV [nb n (8 - m + k)]) := by
        show _ = _
        rw [be_take n m k hlt, bytesV_append]
      go_wp2_with (at_builtin; refine wpList_append_nx rfl _ _ 22 rfl (base := w.heap.size) Tryz.underlying22 infoB rfl (by omega) rfl (HO.out.alloc _) rfl hnew.out (bytesV_one _) hbd.out (by have := HB.out.size; simp; omega) ?_)
      intro p' c' w1 hown hg hnx hne
      have HO' : Hid (w1.ownsRow w.heap.size 5 1 (.slice p' (k + 1) c') (k + 1) (bytesV ((be n m).take (k + 1)))) := by
        show World.ownsRow _ _ _ _ _ _ _
        rw [htk.out]; exact hown
      have HB' : Hid (Below w.heap.size w w1) := (HB.out.alloc HB.out.size _).trans ((Below.refl _ _).grown hg (by have := HB.out.size; simp; omega) (fun i hi => (HO.out.lt i hi).1))
      clear hown hg hnx hne
      go_wp2
      go_roundw
      case rel => exact ⟨k + 1, by omega, by have := HI.out; congr 1; omega, HO'.out, HB'.out⟩
      case measure => simp [intOf]
    · obtain rfl : k = m := by omega
      have hd : decide ((0 : Int) ≤ (k : Int) - 1 - (k : Int)) = false := by simp; omega
      have HO2 : Hid (wr.ownsRow w.heap.size 5 1 u5 k (bytesV (be n k))) := by
        have := HO.out; rw [List.take_of_length_le (by rw [be_length]; omega)] at this; exact this
      go_wp2
      go_ret
      exact ⟨⟨_, rfl, HO2.out⟩, HB.out⟩

end Go.Proofs.YtgmahahhkaofbaaGreatDoor.RW

namespace Go.Proofs.YtgmahahhkaofbaaGreatDoor.Frm
open Go.RowKit Go.Mir Go.Mir.Parts Wr Cod

theorem info8b : (Tryz.prog.info? 5).map (fun i => (i.zero, i.size, i.bytes)) = some (some (.int .u8 0), 1, 1) := by kernel_rfl
theorem number4 (w : World) (n : Nat) (hn : n < 18446744073709551616) :
    Calls Tryz.prog 65 #[.int .u64 (n : Int), .int .i64 4] w fun e w' => ∃ p c, e = .returned (.slice p 4 c) ∧ w'.ownsRow w.heap.size 5 1 (.slice p 4 c) 4 (bytesV (be n 4)) ∧ Below w.heap.size w w' := by
  refine (Rdr.number_any w n 4 hn (by omega)).mono ?_
  rintro e w' ⟨p, c, he, ho, hb⟩
  rw [← be_numB _ _ (by omega), be_length] at he ho
  exact ⟨p, c, he, ho, hb⟩
set_option maxRecDepth 100000 in
set_option maxHeartbeats 1600000 in
theorem rbytes_any (p : Option Addr) (n c : Nat) (l : List UInt8) (w : World) (hB : Bs w p n c l) (hn : n ≤ 70000) :
    Calls Tryz.prog 64 #[.slice p n c] w fun e w' => ∃ p' c', e = .returned (.slice p' (frame l).length c') ∧ w'.ownsRow w.heap.size 5 1 (.slice p' (frame l).length c') (frame l).length (bytesV (frame l)) ∧ Below w.heap.size w w' := by
  have HB := Lib.hid hB
  have HN := Lib.hid hB.length
  have hle := hB.le
  have hmax := hB.max
  clear hB
  have hw1 : IntKind.u64.wrap (n : Int) = (n : Int) := by rw [IntKind.wrap_u64]; omega
  go_enter Tryz.func64, Tryz.ntmps64
  go_wp2_with fail
  refine (number4 w n (by omega)).mono ?_
  rintro e w1 ⟨p1, c1, rfl, ho1, hb1⟩
  have HO1 := Lib.hid ho1
  have HB1 := Lib.hid hb1
  have hs1 : Bs w1 p1 4 c1 (be n 4) := by
    obtain ⟨p9, c9, e9, h9⟩ := own_sl ho1
    cases e9
    exact h9
  have HS1 := Lib.hid hs1
  clear ho1 hb1 hs1
  go_upto_region 2 with fail
  have HO : Hid ((w1.alloc (.cells #[] 5)).ownsRow w1.heap.size 5 1 (.slice (some ⟨w1.heap.size, 0, none⟩) 0 0) 0 []) := ⟨rfl, .inr ⟨w1.heap.size, 0, _, rfl, Nat.le_refl _, heap_alloc_last _ _, Nat.le_refl _, by simp [maxLen], rfl, rfl⟩⟩
  have HBX : Hid (Below w1.heap.size w1 (w1.alloc (.cells #[] 5))) := Below.allocs _ _
  have HSX := Lib.hid (HS1.out.below HBX.out)
  have hlx := HSX.out.le
  have hmx := HSX.out.max
  go_wp2_with (at_builtin; refine wpList_append_nx rfl _ _ 22 rfl (base := w1.heap.size) Tryz.underlying22 info8b rfl (by omega) rfl HO.out rfl HSX.out (bytesV_one _) ⟨by omega, by omega⟩ HBX.out.size ?_)
  intro p5 c5 x5 ho5 hg5 _ _
  have hb5 := HBX.out.grown hg5 HBX.out.size (fun k hk => (HO.out.lt k hk).1)
  clear HO HSX HBX hg5 hlx hmx
  have HO := Lib.hid ho5
  have HBX := Lib.hid hb5
  have HSX := Lib.hid (HB.out.below (HB1.out.trans (hb5.mono HB1.out.size)))
  clear ho5 hb5
  have hlx := HSX.out.le
  have hmx := HSX.out.max
  go_wp2_with (at_builtin; refine wpList_append_nx rfl _ _ 22 rfl (base := w1.heap.size) Tryz.underlying22 info8b rfl (by omega) rfl HO.out rfl HSX.out (bytesV_one _) ⟨by omega, by omega⟩ HBX.out.size ?_)
  intro p6 c6 x6 ho6 hg6 _ _
  have hb6 := HBX.out.grown hg6 HBX.out.size (fun k hk => (HO.out.lt k hk).1)
  rw [← bytesV_append] at ho6
  have hs6 : Bs x6 p6 (4 + n) c6 (be n 4 ++ l) := by
    obtain ⟨p9, c9, e9, h9⟩ := own_sl ho6
    cases e9
    exact h9
  have HS6 := Lib.hid hs6
  have HB6 := Lib.hid (HB1.out.trans (hb6.mono HB1.out.size))
  have HO6 := Lib.hid (own_touch HO1.out (Turns.of_below (S := fun _ => False) hb6) (fun _ _ h => h))
  clear HO HBX HSX hg6 hlx hmx ho6 hb6 hs6 HO1 HS1 HB1
  have hcl := (Crc.more 0#32 (be n 4 ++ l)).isLt
  have hrof := CrcW.refOf_any p6 (4 + n) c6 (be n 4 ++ l) x6 HS6.out
  obtain ⟨C, hC⟩ : ∃ C, (Crc.more 0#32 (be n 4 ++ l)).toNat = C := ⟨_, rfl⟩
  rw [hC] at hcl hrof
  have HR := Lib.hid hrof
  have HC := Lib.hid hC
  clear hrof hC
  have hcw : IntKind.u64.wrap (C : Int) = (C : Int) := by rw [IntKind.wrap_u64]; omega
  go_wp2_with fail
  refine HR.out.mono ?_
  rintro e x7 ⟨rfl, rfl⟩
  go_wp2_with fail
  refine (number4 x6 C (by omega)).mono ?_
  rintro e x8 ⟨p8, c8, rfl, ho8, hb8⟩
  have HBX := Lib.hid (HB6.out.trans (hb8.mono HB6.out.size))
  have HO := Lib.hid (own_touch HO6.out (Turns.of_below (S := fun _ => False) hb8) (fun _ _ h => h))
  have hs8 : Bs x8 p8 4 c8 (be C 4) := by
    obtain ⟨p9, c9, e9, h9⟩ := own_sl ho8
    cases e9
    exact h9
  have HSX := Lib.hid hs8
  clear hb8 ho8 hs8 HO6 HB6 HR HS6
  have hlx := HSX.out.le
  have hmx := HSX.out.max
  go_wp2_with (at_builtin; refine wpList_append_nx rfl _ _ 22 rfl (base := w.heap.size) Tryz.underlying22 info8b rfl (by omega) rfl HO.out rfl HSX.out (bytesV_one _) ⟨by omega, by omega⟩ HBX.out.size ?_)
  intro p10 c10 x10 ho10 hg10 _ _
  have hb10 := HBX.out.grown hg10 HBX.out.size (fun k hk => (HO.out.lt k hk).1)
  rw [← bytesV_append] at ho10
  clear HO HSX HBX hg10 hlx hmx
  have HO := Lib.hid ho10
  have HBX := Lib.hid hb10
  have HSX := Lib.hid (HB.out.below hb10)
  clear ho10 hb10
  have hlx := HSX.out.le
  have hmx := HSX.out.max
  go_wp2_with (at_builtin; refine wpList_append_nx rfl _ _ 22 rfl (base := w.heap.size) Tryz.underlying22 info8b rfl (by omega) rfl HO.out rfl HSX.out (bytesV_one _) ⟨by omega, by omega⟩ HBX.out.size ?_)
  intro p11 c11 x11 ho11 hg11 _ _
  have hb11 := HBX.out.grown hg11 HBX.out.size (fun k hk => (HO.out.lt k hk).1)
  rw [← bytesV_append] at ho11
  have hfr : be n 4 ++ be C 4 ++ l = frame l := by
    unfold frame
    rw [HN.out, ← HC.out]
    simp
  rw [hfr] at ho11
  have hfl : (frame l).length = 8 + n := by rw [← hfr]; simp only [List.length_append, be_length, HN.out]
  have HO11 := Lib.hid ho11
  have HB11 := Lib.hid hb11
  have HFL := Lib.hid hfl
  clear HO HSX HBX hg11 hlx hmx ho11 hb11 hfr hfl
  go_wp2_with fail
  go_ret
  rw [HFL.out]
  exact ⟨p11, c11, rfl, HO11.out, HB11.out⟩
end Go.Proofs.YtgmahahhkaofbaaGreatDoor.Frm

namespace Go.Proofs.YtgmahahhkaofbaaGreatDoor.Frm
open Go.RowKit Go.Mir Go.Mir.Parts Wr Cod

end Go.Proofs.YtgmahahhkaofbaaGreatDoor.Frm

namespace Go.Mir
open Go.RowKit

theorem wpAnyH_mono {P : Program} {md : Region.Mode} {ops : Array Oper} {Q : Exit → Act → World → Prop} {S S' : World → Prop} (hs : ∀ x, S' x → S x) :
    ∀ (n : Nat) (listed : Array Bool) (a : Act) (w : World), wpAnyH P md ops Q S' n listed a w → wpAnyH P md ops Q S n listed a w
  | 0, _, _, _, h => h
  | n + 1, _, _, _, h => ⟨h.1, fun i hi => wpOp_mono (fun a' w' h' => ⟨hs _ h'.1, wpAnyH_mono hs n _ a' w' h'.2⟩) (h.2 i hi)⟩
def wpEagerX (P : Program) (ops : Array Oper) (Q : Exit → Act → World → Prop) : List (Oper × Bool) → (World → Prop) → Act → World → Prop
  | [], _, a, w => Q .normal a w
  | (o, true) :: r, S, a, w => ∃ v, YieldsIf P ops S o v a ∧ wpEagerX P ops Q r S (a.put o.dst v) w
  | (o, false) :: r, S, a, w => if Region.wanted o (yielded ops a.tmps) then o.wp P a w (fun a' w' => ∃ S' : World → Prop, (∀ x, S' x → S x) ∧ S' w' ∧ wpEagerX P ops Q r S' a' w') Q else wpEagerX P ops Q r S (a.put o.dst undef) w
theorem wpAnyH_eagerX {P : Program} {l : List Oper} {ops : Array Oper} (hl : l.toArray = ops) {Q : Exit → Act → World → Prop} (hs : Region.noSelect ops = true) (hQ : ∀ c a d v w, Q (.panic c) (a.put d v) w → Q (.panic c) a w) :
    ∀ (π : List (Nat × Bool)) (listed : Array Bool) (S : World → Prop) (a : Act) (w : World), planB ops π listed = true → S w → wpEagerX P ops Q (planOps l π) S a w → wpAnyH P .any ops Q S π.length listed a w
  | [], listed, S, a, w, hp, _, h => by
    refine wpAnyH_done ?_ h _
    simpa [planB, List.isEmpty_iff] using hp
  | (i, true) :: r, listed, S, a, w, hp, hS, h => by
    simp only [planB, Bool.and_eq_true] at hp
    obtain ⟨⟨⟨h1, h2⟩, h3⟩, h4⟩ := hp
    obtain ⟨o, ho⟩ := Option.isSome_iff_exists.1 h1
    have hn : nthO l i = some o := by rw [← nthO_eq, hl]; exact ho
    simp only [planOps, hn, wpEagerX] at h
    obtain ⟨v, hy, h⟩ := h
    exact wpAnyH_take ho hs h2 h3 (fun c a w => hQ c a _ _ w) hy hS (wpAnyH_eagerX hl hs hQ r _ S _ _ h4 hS h)
  | (i, false) :: r, listed, S, a, w, hp, hS, h => by
    simp only [planB, Bool.and_eq_true, beq_iff_eq] at hp
    obtain ⟨⟨h1, h2⟩, h4⟩ := hp
    obtain ⟨o, ho⟩ := Option.isSome_iff_exists.1 h1
    have hn : nthO l i = some o := by rw [← nthO_eq, hl]; exact ho
    simp only [planOps, hn, wpEagerX] at h
    refine wpAnyH_all h2 (by simp) fun j hj => ?_
    rw [List.mem_singleton] at hj
    subst hj
    unfold wpOp
    simp only [ho]
    split at h
    · rename_i hw
      rw [if_pos hw]
      exact .inl (Oper.wp_mono (fun a' w' ⟨S', h5, h6, h7⟩ => ⟨h5 _ h6, wpAnyH_mono h5 _ _ _ _ (wpAnyH_eagerX hl hs hQ r _ S' _ _ h4 h6 h7)⟩) h)
    · rename_i hw
      rw [if_neg hw]
      exact ⟨hS, wpAnyH_eagerX hl hs hQ r _ S _ _ h4 hS h⟩
/-- the beginning -/
theorem wp_region_eager_x {P : Program} {id : Nat} {Q : Exit → Act → World → Prop} {a : Act} {w : World} {l : List Oper} (S : World → Prop) (π : List (Nat × Bool)) (hm : P.follows .mixedOrders = true)
    (hp : (planB l.toArray π (Array.replicate l.length false) && Region.noSelect l.toArray && π.length == l.length) = true) (hS : S w.drew)
    (h : wpEagerX P l.toArray (NoPanic Q) (planOps l π) S a w.drew) : (Code.region id l.toArray true).wp P Q a w := by
  refine wp_region_noPanic ?_
  simp only [Bool.and_eq_true, beq_iff_eq] at hp
  obtain ⟨⟨h1, h2⟩, h3⟩ := hp
  have := wpAnyH_eagerX (P := P) (Q := NoPanic Q) (l := l) rfl h2 (fun _ _ _ _ _ h => h) π (Array.replicate l.length false) S a w.drew h1 hS h
  refine wp_region_held hm (S := S) ?_
  rw [h3] at this
  have hz : l.toArray.size = l.length := List.size_toArray ..
  rw [hz]
  exact this
section
variable {P : Program} {ops : Array Oper} {S : World → Prop} {Q : Exit → Act → World → Prop}
theorem eagerXOpen {l : List Oper} {i : Nat} {b : Bool} {r : List (Nat × Bool)} {a : Act} {w : World} {o : Oper} (ho : nthO l i = some o)
    (h : wpEagerX P ops Q ((o, b) :: planOps l r) S a w) : wpEagerX P ops Q (planOps l ((i, b) :: r)) S a w := by
  unfold planOps; rw [ho]; exact h
theorem eagerXEnd {l : List Oper} {a : Act} {w : World} (h : Q .normal a w) : wpEagerX P ops (NoPanic Q) (planOps l []) S a w := h
theorem wpEagerX_take {o : Oper} {r : List (Oper × Bool)} {a : Act} {w : World} {v : Value} (hw : Region.wanted o (yielded ops a.tmps) = true)
    (hy : ∀ w', S w' → (execOp a.eval o).run P w' = .ok (.value v) w') (h : wpEagerX P ops Q r S (a.put o.dst v) w) : wpEagerX P ops Q ((o, true) :: r) S a w := ⟨v, .inl ⟨hw, hy⟩, h⟩
theorem wpEagerX_skip {o : Oper} {r : List (Oper × Bool)} {a : Act} {w : World} (hw : Region.wanted o (yielded ops a.tmps) = false)
    (h : wpEagerX P ops Q r S (a.put o.dst undef) w) : wpEagerX P ops Q ((o, true) :: r) S a w := ⟨undef, .inr ⟨hw, rfl⟩, h⟩
theorem wpEagerX_load {op : Oper} {r : List (Oper × Bool)} {a : Act} {w : World} (hw : Region.wanted op (yielded ops a.tmps) = true) (ty : TypeId) (x : Operand) (ho : op.op = .load ty x)
    (b o : Nat) (hx : a.eval x = .pointer (some ⟨b, o, none⟩)) (M : Array Value) (d : TypeDesc) (hc : ∀ w', S w' → w'.rangeAt b o M.toList)
    (hu : P.underlying ty = some d) (hd : d.isRow = true) (hi : (P.info? ty).map (·.size) = some M.size)
    (h : wpEagerX P ops Q r S (a.put op.dst (.agg M)) w) : wpEagerX P ops Q ((op, true) :: r) S a w := by
  refine wpEagerX_take hw (fun w' hb => ?_) h
  unfold execOp
  simp only [ho, hx, Instr.loadAt, Instr.sureAddr, Sem.run_bind, Sem.run_pure, Result.andThen_ok, run_loadVar_mid w' b o ty M.toList d (hc w' hb) hu hd (by simpa using hi)]
/-- at an operation that runs in its turn: the way back is shut till a condition is shown, at least as strong as the one before -/
theorem wpEagerX_op {o : Oper} {r : List (Oper × Bool)} {a : Act} {w : World} (hw : Region.wanted o (yielded ops a.tmps) = true)
    (h : ∀ K : Act → World → Prop, Shut (∀ (S' : World → Prop) a w, (∀ x, S' x → S x) → S' w → wpEagerX P ops Q r S' a w → K a w) → Oper.wp P o a w K Q) : wpEagerX P ops Q ((o, false) :: r) S a w := by
  unfold wpEagerX; rw [if_pos hw]; exact h _ fun S' _ _ h0 h1 h2 => ⟨S', h0, h1, h2⟩
theorem eagerXLoadAt {r : List (Oper × Bool)} {a : Act} {w : World} (n : Nat) {d : Option Nat} {ty : TypeId} {t : TypeId} {p : String} {af : Array Edge} {g : Option (Nat × Bool)} {b : Bool}
    (h : wpEagerX P ops Q ((⟨d, .load ty (.tmp n), t, p, af, g⟩, b) :: r) S a w) : wpEagerX P ops Q ((⟨d, .load ty (.tmp n), t, p, af, g⟩, b) :: r) S a w := h
end
end Go.Mir

namespace Go.Proofs.YtgmahahhkaofbaaGreatDoor.Frm
open Go.RowKit Go.Mir Go.Mir.Parts Wr Cod Cut

theorem results_tmp3 {P : Program} {fn : Func} {p q r : Tmp} (h : fn.results = #[.tmp p, .tmp q, .tmp r]) (tmps : Array Value) (w : World) :
    (results fn tmps).run P w = .ok (.tuple #[tmps.getD p undef, tmps.getD q undef, tmps.getD r undef]) w := by
  simp [results, h]
/-- the first frame -/
def one (l : List UInt8) : List UInt8 × Nat × Int :=
  if l.length < 4 then ([], 0, 2)
  else if Rdr.beN (l.take 4) < 1 ∨ 65536 < Rdr.beN (l.take 4) then ([], 0, 4)
  else if l.length < 8 + Rdr.beN (l.take 4) then ([], 0, 2)
  else if frame ((l.drop 8).take (Rdr.beN (l.take 4))) = l.take (8 + Rdr.beN (l.take 4)) then ((l.drop 8).take (Rdr.beN (l.take 4)), 8 + Rdr.beN (l.take 4), 0)
  else ([], 0, 9)
def OneP (l : List UInt8) (w : World) (e : Ending) (w' : World) : Prop := ∃ p' c', e = .returned (.tuple #[.slice p' (one l).1.length c', .int .i64 ((one l).2.1 : Int), .int .i64 (one l).2.2]) ∧ w'.ownsRow w.heap.size 5 1 (.slice p' (one l).1.length c') (one l).1.length (bytesV (one l).1) ∧ Below w.heap.size w w'
set_option maxRecDepth 100000 in
theorem rone_any (p : Option Addr) (n c : Nat) (l : List UInt8) (w : World) (hB : Bs w p n c l) (hn : n ≤ 1099511627776) :
    Calls Tryz.prog 60 #[.slice p n c] w (OneP l w) := by
  have HB := Lib.hid hB
  have HN := Lib.hid hB.length
  have hle := hB.le
  have hmax := hB.max
  clear hB
  have HF : Hid (∀ k, one l = ([], 0, k) → OneP l w (.returned (.tuple #[.slice none 0 0, .int .i64 0, .int .i64 k])) w) := fun k hk => by
    unfold OneP
    rw [hk]
    exact ⟨none, 0, rfl, ⟨rfl, .inl ⟨rfl, rfl⟩⟩, Below.refl _ _⟩
  by_cases h4 : n < 4
  · have d1 : decide ((n : Int) < 4) = true := decide_eq_true (by omega)
    have HG := Lib.hid (HF.out 2 (by unfold one; rw [if_pos (by rw [HN.out]; exact h4)]))
    clear h4
    go_enter Tryz.func60, Tryz.ntmps60
    go_wp2_with fail
    refine bodyPost_ret (results_tmp3 rfl _ _) rfl ?_
    exact HG.out
  have d1 : decide ((n : Int) < 4) = false := decide_eq_false (by omega)
  have hrun := cut0 HB.out 4 4 rfl (by omega)
  have hV := Rdr.beN_lt_pow (l.take 4)
  rw [List.length_take, HN.out, Nat.min_eq_left (by omega)] at hV
  have hone : one l = if Rdr.beN (l.take 4) < 1 ∨ 65536 < Rdr.beN (l.take 4) then ([], 0, 4)
    else if l.length < 8 + Rdr.beN (l.take 4) then ([], 0, 2)
    else if frame ((l.drop 8).take (Rdr.beN (l.take 4))) = l.take (8 + Rdr.beN (l.take 4)) then ((l.drop 8).take (Rdr.beN (l.take 4)), 8 + Rdr.beN (l.take 4), 0)
    else ([], 0, 9) := by unfold one; rw [if_neg (by rw [HN.out]; omega)]
  have hval := value_any p 4 c (l.take 4) w (bs_take HB.out (by omega)) (by omega)
  rw [HN.out] at hone
  generalize Rdr.beN (l.take 4) = V at *
  have HVAL := Lib.hid hval
  have HONE := Lib.hid hone
  clear hval hone h4
  go_enter Tryz.func60, Tryz.ntmps60
  go_wp2_with fail
  refine HVAL.out.mono ?_
  rintro e w' ⟨rfl, rfl⟩
  clear HVAL hrun
  by_cases h1 : V < 1
  · have e1 : decide ((V : Int) < 1) = true := decide_eq_true (by omega)
    have HG := Lib.hid (HF.out 4 (by rw [HONE.out, if_pos (.inl h1)]))
    clear h1
    go_wp2_with fail
    refine bodyPost_ret (results_tmp3 rfl _ _) rfl ?_
    exact HG.out
  have e1 : decide ((V : Int) < 1) = false := decide_eq_false (by omega)
  by_cases h2 : 65536 < V
  · have e2 : decide ((65536 : Int) < (V : Int)) = true := decide_eq_true (by omega)
    have HG := Lib.hid (HF.out 4 (by rw [HONE.out, if_pos (.inr h2)]))
    clear h2
    go_wp2_with fail
    refine bodyPost_ret (results_tmp3 rfl _ _) rfl ?_
    exact HG.out
  have e2 : decide ((65536 : Int) < (V : Int)) = false := decide_eq_false (by omega)
  have q1 : IntKind.i64.wrap (8 + (V : Int)) = ((8 + V : Nat) : Int) := by rw [IntWalk.i64_in _ (by omega)]; omega
  by_cases h3 : n < 8 + V
  · have e3 : decide ((n : Int) < ((8 + V : Nat) : Int)) = true := decide_eq_true (by omega)
    have e4 : decide ((n : Int) < 8 + (V : Int)) = true := decide_eq_true (by omega)
    have HG := Lib.hid (HF.out 2 (by rw [HONE.out, if_neg (by omega), if_pos h3]))
    clear h3
    go_wp2_with fail
    refine bodyPost_ret (results_tmp3 rfl _ _) rfl ?_
    exact HG.out
  have e3 : decide ((n : Int) < ((8 + V : Nat) : Int)) = false := decide_eq_false (by omega)
  have e4 : decide ((n : Int) < 8 + (V : Int)) = false := decide_eq_false (by omega)
  have hone := HONE.out
  rw [if_neg (by omega), if_neg h3] at hone
  have HON := Lib.hid hone
  clear hone HONE
  have hcut := cut3 HB.out 8 V 8 (8 + (V : Int)) rfl (by omega) (by omega)
  have HCB := Lib.hid (fun w' (hb : Below w.heap.size w w') => bs_cut (HB.out.below hb) 8 V (by omega))
  have HLB : Hid (((l.drop 8).take V).length = V) := by show _ = _; rw [List.length_take, List.length_drop, HN.out]; omega
  go_upto_region 8 with fail
  have HO : Hid ((w.alloc (.cells #[] 5)).ownsRow w.heap.size 5 1 (.slice (some ⟨w.heap.size, 0, none⟩) 0 0) 0 []) := ⟨rfl, .inr ⟨w.heap.size, 0, _, rfl, Nat.le_refl _, heap_alloc_last _ _, Nat.le_refl _, by simp [maxLen], rfl, rfl⟩⟩
  have HBX : Hid (Below w.heap.size w (w.alloc (.cells #[] 5))) := Below.allocs _ _
  have HSX := Lib.hid (HCB.out _ HBX.out)
  have hlx := HSX.out.le
  have hmx := HSX.out.max
  go_upto_region 9 with (at_builtin; refine wpList_append_nx rfl _ _ 22 rfl (base := w.heap.size) Tryz.underlying22 info8b rfl (by omega) rfl HO.out rfl HSX.out (bytesV_one _) ⟨by omega, by omega⟩ HBX.out.size ?_)
  intro p5 c5 x5 ho5 hg5 _ _
  have hb5 := HBX.out.grown hg5 HBX.out.size (fun k hk => (HO.out.lt k hk).1)
  try rw [Nat.zero_add] at ho5
  try rw [List.nil_append] at ho5
  clear HO HSX HBX hg5 hlx hmx hcut
  have hs5 : Bs x5 p5 V c5 ((l.drop 8).take V) := by
    obtain ⟨p9, c9, e9, h9⟩ := own_sl ho5
    cases e9
    exact h9
  have HO5 := Lib.hid ho5
  have HB5 := Lib.hid hb5
  have HS5 := Lib.hid hs5
  have HSL := Lib.hid (HB.out.below hb5)
  clear ho5 hb5 hs5
  have hcut := cut0 HSL.out (8 + V) (8 + (V : Int)) (by omega) (by omega)
  generalize hbody : (l.drop 8).take V = body at *
  go_upto_region 9 with fail
  have HC1 : Hid (∀ w', Below x5.heap.size x5 w' → (convert 22 9 (.slice p (8 + V) c)).run Tryz.prog w' = .ok (.string (S (l.take (8 + V)))) w') := fun w' hb => bconv (bs_take (HSL.out.below hb) (by omega))
  have hcut2 := cut0 HSL.out (8 + V) ((8 + V : Nat) : Int) rfl (by omega)
  clear HSL
  refine wp_region_eager_x (Below x5.heap.size x5) [(0, true), (3, true), (4, true), (5, true), (6, true), (7, true), (1, false), (2, true), (8, true)] (by kernel_rfl) (by kernel_rfl) ?_ (eagerXOpen rfl ?_)
  · exact below_drew1 _ _
  have hy0 : Below x5.heap.size x5 x5.drew := below_drew1 _ _
  repeat (first
    | (apply wpEagerX_take; (· rfl); (· (intro w' hb'; have hk' := (fun w' hb => HC1.out w' hb) w' hb'; go_split_ands; go_simp; try with_reducible rfl)); (try simp only [Act.put, List.setIfInBounds_toArray, List.set_cons_zero, List.set_cons_succ]); (try refine eagerXOpen rfl ?_))
    | (first | (apply wpEagerX_take; (· rfl); (· (intro w' hb'; go_simp; try with_reducible rfl)); (try simp only [Act.put, List.setIfInBounds_toArray, List.set_cons_zero, List.set_cons_succ]); (try refine eagerXOpen rfl ?_)) | (refine wpEagerX_skip (by rfl) ?_; (try simp only [Act.put, List.setIfInBounds_toArray, List.set_cons_zero, List.set_cons_succ]); (try refine eagerXOpen rfl ?_)) | (refine wpEager_off (by rfl) ?_; (try simp only [Act.put, List.setIfInBounds_toArray, List.set_cons_zero, List.set_cons_succ]); (try refine eagerXOpen rfl ?_))))
  (refine wpEagerX_op (by rfl) (fun K hK => ?_); go_simp; (refine (rbytes_any p5 V c5 body x5.drew (HS5.out.below hy0) (by omega)).mono ?_; rintro e y ⟨q2, d2, rfl, ho, hb⟩; have HO := Lib.hid (own_bs ho); have HY := Lib.hid (hy0.trans hb); have hsub : ∀ x, Below y.heap.size y x → Below x5.heap.size x5 x := fun x hx => HY.out.trans (hx.mono HY.out.size); have hy1 : Below y.heap.size y y := Below.refl _ _; clear hb ho); refine Shut.out hK _ _ _ hsub (by assumption) ?_; clear hK K hsub; (try simp only [Act.put, List.setIfInBounds_toArray, List.set_cons_zero, List.set_cons_succ]); (try refine eagerXOpen rfl ?_))
  have HC2 : Hid (∀ w', Below y.heap.size y w' → (convert 22 9 (.slice q2 (frame body).length d2)).run Tryz.prog w' = .ok (.string (S (frame body))) w') := fun w' hb => bconv (HO.out.below hb)
  repeat (first
    | (apply wpEagerX_take; (· rfl); (· (intro w' hb'; have hk' := (fun w' hb => HC2.out w' hb) w' hb'; go_split_ands; go_simp; try with_reducible rfl)); (try simp only [Act.put, List.setIfInBounds_toArray, List.set_cons_zero, List.set_cons_succ]); (try refine eagerXOpen rfl ?_))
    | (first | (apply wpEagerX_take; (· rfl); (· (intro w' hb'; go_simp; try with_reducible rfl)); (try simp only [Act.put, List.setIfInBounds_toArray, List.set_cons_zero, List.set_cons_succ]); (try refine eagerXOpen rfl ?_)) | (refine wpEagerX_skip (by rfl) ?_; (try simp only [Act.put, List.setIfInBounds_toArray, List.set_cons_zero, List.set_cons_succ]); (try refine eagerXOpen rfl ?_)) | (refine wpEager_off (by rfl) ?_; (try simp only [Act.put, List.setIfInBounds_toArray, List.set_cons_zero, List.set_cons_succ]); (try refine eagerXOpen rfl ?_))))
  refine eagerXEnd ?_
  clear HC2 HC1 hcut hcut2 hy0 hy1
  have HOF := Lib.hid (own_touch HO5.out (Turns.of_below (S := fun _ => False) HY.out) (fun _ _ h => h))
  have HBF := Lib.hid (HB5.out.trans (HY.out.mono HB5.out.size))
  by_cases hq : frame body = l.take (8 + V)
  · have hqb : (frame body == List.take (8 + V) l) = true := beq_iff_eq.2 hq
    have HR : Hid (one l = (body, 8 + V, 0)) := by show _ = _; rw [HON.out, if_pos hq]
    clear hq
    rw [hqb]
    simp only [Bool.not_true]
    go_wp2_with fail
    refine bodyPost_ret (results_tmp3 rfl _ _) rfl ?_
    unfold OneP
    rw [HR.out]
    dsimp only
    rw [HLB.out]
    exact ⟨p5, c5, by rw [show ((8 + V : Nat) : Int) = 8 + (V : Int) by omega]; rfl, HOF.out, HBF.out⟩
  · have hqb : (frame body == List.take (8 + V) l) = false := beq_eq_false_iff_ne.2 hq
    have HG : Hid (OneP l w (.returned (.tuple #[.slice none 0 0, .int .i64 0, .int .i64 9])) y) := by
      show OneP _ _ _ _
      unfold OneP
      rw [HON.out, if_neg hq]
      exact ⟨none, 0, rfl, ⟨rfl, .inl ⟨rfl, rfl⟩⟩, HBF.out⟩
    clear hq
    rw [hqb]
    simp only [Bool.not_false]
    go_wp2_with fail
    refine bodyPost_ret (results_tmp3 rfl _ _) rfl ?_
    exact HG.out
end Go.Proofs.YtgmahahhkaofbaaGreatDoor.Frm

namespace Go.Proofs.YtgmahahhkaofbaaGreatDoor.Frm
open Go.RowKit Go.Mir Go.Mir.Parts Wr Cod Cut Rdr

theorem num_short {l : List UInt8} (h : l.length < 4) : (RD.new l).numV 4 = 0 ∧ (RD.new l).numS 4 = ⟨l, 0, some 2⟩ := by
  unfold RD.numV RD.numS RD.new
  rw [show fitsW 4 = true by decide]
  unfold RD.takeB RD.takeS
  dsimp only
  constructor
  · rw [if_neg (by omega)]; rfl
  · rw [if_neg (by simp), if_neg (by simp), if_pos (by omega)]
theorem num_full {l : List UInt8} (h : 4 ≤ l.length) : (RD.new l).numV 4 = beN (l.take 4) ∧ (RD.new l).numS 4 = ⟨l, 4, none⟩ := by
  have hk := take_in (l := l) (pos := 0) (m := 4) (by omega)
  unfold RD.numV RD.numS RD.new
  rw [show fitsW 4 = true by decide]
  exact ⟨by rw [show ((4 : Nat) : Int) = (4 : Int) from rfl] at hk; rw [hk.1]; rfl, by rw [show ((4 : Nat) : Int) = (4 : Int) from rfl] at hk; rw [hk.2]⟩
/-- what the second reader reads -/
def sec (l : List UInt8) (V : Nat) : RD := RD.new ((l.drop 4).take (min l.length (8 + V) - 4))
theorem sec_short {l : List UInt8} {V : Nat} (h4 : 4 ≤ l.length) (h : l.length < 8 + V) : (((sec l V).numS 4).takeS V true).err = 2 := by
  unfold sec
  rw [Nat.min_eq_left (by omega)]
  have hl : ((l.drop 4).take (l.length - 4)).length = l.length - 4 := by rw [List.length_take, List.length_drop]; omega
  by_cases h8 : l.length - 4 < 4
  · rw [(num_short (by rw [hl]; exact h8)).2]; rfl
  · rw [(num_full (by rw [hl]; omega)).2]
    unfold RD.takeS
    dsimp only
    rw [if_neg (by simp), if_neg (by simp), if_pos (by rw [hl]; omega)]
    rfl
theorem sec_full {l : List UInt8} {V : Nat} (h : 8 + V ≤ l.length) : (sec l V).numV 4 = beN ((l.drop 4).take 4) ∧ ((sec l V).numS 4).takeB V true = (l.drop 8).take V ∧ (((sec l V).numS 4).takeS V true).err = 0 := by
  unfold sec
  rw [Nat.min_eq_right (by omega)]
  have hl : ((l.drop 4).take (8 + V - 4)).length = 4 + V := by rw [List.length_take, List.length_drop]; omega
  obtain ⟨a, b⟩ := num_full (l := (l.drop 4).take (8 + V - 4)) (by rw [hl]; omega)
  have hk := take_in (l := (l.drop 4).take (8 + V - 4)) (pos := 4) (m := V) (by rw [hl]; omega)
  rw [a, b, hk.1, hk.2]
  refine ⟨by rw [List.take_take, Nat.min_eq_left (by omega)], ?_, rfl⟩
  rw [List.drop_take, List.drop_drop, List.take_take, Nat.min_eq_left (by omega)]
theorem crc_frame {l : List UInt8} {V : Nat} (h : 8 + V ≤ l.length) (hV : beN (l.take 4) = V) : (Crc.more 0#32 ([l.take 4, (l.drop 8).take V].flatten)).toNat = beN ((l.drop 4).take 4) ↔ frame ((l.drop 8).take V) = l.take (8 + V) := by
  have hlb : ((l.drop 8).take V).length = V := by rw [List.length_take, List.length_drop]; omega
  have h4 : (l.take 4).length = 4 := by rw [List.length_take]; omega
  have h44 : ((l.drop 4).take 4).length = 4 := by rw [List.length_take, List.length_drop]; omega
  have hbe : be V 4 = l.take 4 := by rw [← hV]; exact be_beN _ 4 h4 (by omega)
  have hsp : l.take (8 + V) = l.take 4 ++ (l.drop 4).take 4 ++ (l.drop 8).take V := by
    rw [show 8 + V = 4 + (4 + V) by omega, List.take_add, List.take_add, List.drop_drop, List.append_assoc]
  unfold frame
  rw [hlb, hbe, hsp]
  have hC := (Crc.more 0#32 ([l.take 4, (l.drop 8).take V].flatten)).isLt
  generalize (Crc.more 0#32 ([l.take 4, (l.drop 8).take V].flatten)).toNat = C at *
  constructor
  · intro hc
    rw [hc, be_beN _ 4 h44 (by omega)]
  · intro he
    have h1 := List.append_inj_left he (by simp [h4, h44, be_length])
    have h2 := List.append_inj_right h1 rfl
    rw [← h2, beN_be _ _ (by omega) (by omega)]
set_option maxRecDepth 100000 in
set_option maxHeartbeats 1600000 in
theorem one_any (p : Option Addr) (n c : Nat) (l : List UInt8) (w : World) (hE : EType w) (hB : Bs w p n c l) (hn : n ≤ 1099511627776) :
    Calls Tryz.prog 54 #[.slice p n c] w (OneP l w) := by
  have HB := Lib.hid hB
  have HN := Lib.hid hB.length
  have HE := Lib.hid hE
  have hle := hB.le
  have hmax := hB.max
  clear hB
  obtain ⟨m, hm⟩ : ∃ m, m = min n 4 := ⟨_, rfl⟩
  obtain ⟨V, hV⟩ : ∃ V, (RD.new (l.take m)).numV 4 = V := ⟨_, rfl⟩
  obtain ⟨s1, hs1⟩ : ∃ s1, (RD.new (l.take m)).numS 4 = s1 := ⟨_, rfl⟩
  have hV64 : V < 18446744073709551616 := by rw [← hV]; exact numV_lt _ _
  have HNO : Hid (¬ (1 ≤ V ∧ V ≤ 65536) → one l = ([], 0, (s1.fail 4).err) ∧ (s1.fail 4).err ≠ 0) := fun hno => by
    by_cases h4 : l.length < 4
    · have hml : l.take m = l := List.take_of_length_le (by rw [hm, HN.out]; have := HN.out; omega)
      rw [hml, (num_short h4).2] at hs1
      subst hs1
      exact ⟨by unfold one; rw [if_pos h4]; rfl, by simp [RD.fail, RD.err]⟩
    · have hml : m = 4 := by have := HN.out; omega
      have hl4 : 4 ≤ (l.take m).length := by rw [List.length_take]; omega
      rw [(num_full hl4).2] at hs1
      rw [(num_full hl4).1, hml, List.take_take] at hV
      subst hs1
      exact ⟨by unfold one; rw [if_neg h4, if_pos (by rw [show beN (l.take 4) = V from hV]; omega)]; rfl, by simp [RD.fail, RD.err]⟩
  have HYES : Hid (1 ≤ V ∧ V ≤ 65536 → 4 ≤ n ∧ V = beN (l.take 4) ∧ s1.err = 0) := fun hyes => by
    by_cases h4 : l.length < 4
    · have hml : l.take m = l := List.take_of_length_le (by rw [hm, HN.out]; have := HN.out; omega)
      rw [hml, (num_short h4).1] at hV
      omega
    · have hml : m = 4 := by have := HN.out; omega
      have hl4 : 4 ≤ (l.take m).length := by rw [List.length_take]; omega
      rw [(num_full hl4).2] at hs1
      rw [(num_full hl4).1, hml, List.take_take] at hV
      subst hs1
      exact ⟨by have := HN.out; omega, hV.symm, rfl⟩
  have HV := Lib.hid hV
  have HS1 := Lib.hid hs1
  clear hV hs1
  have hmi : (if (4 : Int) < (n : Int) then (4 : Int) else (n : Int)) = (m : Int) := by split <;> omega
  have hmi2 : (if 4 < n then (4 : Int) else (n : Int)) = (m : Int) := by split <;> omega
  have hcut := cut0 HB.out m (m : Int) rfl (by omega)
  have HG := Lib.hid hE.lt
  have HM := Lib.hid hm
  have HBM := Lib.hid (bs_take HB.out (k := m) (by omega))
  have hm4 : m ≤ 4 := by omega
  clear hE hm
  go_enter Tryz.func54, Tryz.ntmps54
  go_wp2_with fail
  refine (Rdr.new_any w p m c (l.take m) HBM.out (by omega)).mono ?_
  rintro e w1 ⟨rb, rfl, hr1, hb1⟩
  have HR1 := Lib.hid hr1
  have HB1 := Lib.hid hb1
  clear hr1 hb1 hcut hmi hmi2
  go_wp2_with fail
  refine (num_any _ HR1.out 4 (by omega)).mono ?_
  rintro e w2 ⟨rfl, hl2⟩
  have HB2 := Lib.hid (HB1.out.trans (hl2.turn.below HB1.out.size (fun i hi => by obtain ⟨v, bv, h⟩ := HR1.out; have := h.low; omega)))
  have HR2 := Lib.hid hl2.there
  clear hl2 HR1 HB1
  rw [HV.out]
  rw [HS1.out] at HR2
  have HE2 := Lib.hid (HE.out.below HB2.out HG.out)
  by_cases hfit : 1 ≤ V ∧ V ≤ 65536
  rotate_left
  · have HFT : Hid (decide (1 ≤ V ∧ V ≤ 65536) = false) := decide_eq_false hfit
    obtain ⟨ho, hz⟩ := HNO.out hfit
    have HO := Lib.hid ho
    have hz1 : ((s1.fail 4).err != 0) = true := by rw [bne_iff_ne]; exact hz
    clear hfit ho hz
    go_wp2_with fail
    refine (fits_any V hV64 w2).mono ?_
    rintro e w3 ⟨rfl, rfl⟩
    rw [HFT.out]
    go_wp2_with fail
    refine (fail_any _ HR2.out 4 (by omega)).mono ?_
    rintro e w3 ⟨rfl, hl3⟩
    have HB3 := Lib.hid (HB2.out.trans (hl3.turn.below HB2.out.size (fun i hi => by obtain ⟨v, bv, h⟩ := HR2.out; have := h.low; omega)))
    have HR3 := Lib.hid hl3.there
    have HE3 := Lib.hid (HE.out.below HB3.out HG.out)
    clear hl3
    go_wp2_with fail
    refine (err_any _ HR3.out HE3.out).mono ?_
    rintro e w4 ⟨rfl, hb4⟩
    have HB4 := Lib.hid (HB3.out.trans (hb4.mono HB3.out.size))
    clear hb4
    generalize (s1.fail 4).err = E at *
    go_wp2_with fail
    refine bodyPost_ret (results_tmp3 rfl _ _) rfl ?_
    unfold OneP
    rw [HO.out]
    exact ⟨none, 0, rfl, ⟨rfl, .inl ⟨rfl, rfl⟩⟩, HB4.out⟩
  have HFT : Hid (decide (1 ≤ V ∧ V ≤ 65536) = true) := decide_eq_true hfit
  obtain ⟨h4, hVe, hs0⟩ := HYES.out hfit
  have HVE := Lib.hid hVe
  have HS0 := Lib.hid hs0
  obtain ⟨hf1, hf2⟩ := hfit
  clear hVe hs0 HNO HYES
  go_wp2_with fail
  refine (fits_any V hV64 w2).mono ?_
  rintro e w3 ⟨rfl, rfl⟩
  rw [HFT.out]
  go_wp2_with fail
  refine (err_any _ HR2.out HE2.out).mono ?_
  rintro e w3 ⟨rfl, hb3⟩
  have HB3 := Lib.hid (HB2.out.trans (hb3.mono HB2.out.size))
  clear hb3 HR2 HB2 HE2 HS1 HV HFT
  rw [HS0.out]
  clear HS0
  obtain ⟨M, hM⟩ : ∃ M, M = min n (8 + V) := ⟨_, rfl⟩
  have hw8 : IntKind.i64.wrap (V : Int) = (V : Int) := by rw [IntWalk.i64_in _ (by omega)]
  have hw9 : IntKind.i64.wrap (8 + (V : Int)) = 8 + (V : Int) := by rw [IntWalk.i64_in _ (by omega)]
  have hmi : (if (8 : Int) + (V : Int) < (n : Int) then (8 : Int) + (V : Int) else (n : Int)) = (M : Int) := by split <;> omega
  have hmi2 : (if 8 + V < n then (8 : Int) + (V : Int) else (n : Int)) = (M : Int) := by split <;> omega
  have hM4 : 4 ≤ M ∧ M ≤ n := by omega
  have HSL := Lib.hid (HB.out.below HB3.out)
  have hcut := cut3 HSL.out 4 (M - 4) 4 (M : Int) rfl (by omega) (by omega)
  have HSM := Lib.hid (bs_cut HSL.out 4 (M - 4) (by omega))
  have HMM := Lib.hid hM
  clear hM
  have hsec : RD.new ((l.drop 4).take (M - 4)) = sec l V := by unfold sec; rw [HMM.out, HN.out]
  go_wp2_with fail
  refine (Rdr.new_any w3 _ _ _ _ HSM.out (by omega)).mono ?_
  rintro e w4 ⟨r4, rfl, hr4, hb4⟩
  rw [hsec] at hr4
  have HR4 := Lib.hid hr4
  have HB4 := Lib.hid (HB3.out.trans (hb4.mono HB3.out.size))
  have HX4 := Lib.hid hb4
  clear hr4 hb4 hcut hmi hmi2 hsec
  go_wp2_with fail
  refine (num_any _ HR4.out 4 (by omega)).mono ?_
  rintro e w5 ⟨rfl, hl5⟩
  have HL5 := Lib.hid hl5
  clear hl5
  go_wp2_with fail
  refine (bytes_any _ HL5.out.there (V : Int) (by omega)).mono ?_
  rintro e w6 ⟨p6, c6, rfl, ho6, hl6⟩
  have hl46 := HL5.out.trans hl6
  have HB6 := Lib.hid (HB4.out.trans (hl46.turn.below HB4.out.size (fun i hi => by obtain ⟨v, bv, h⟩ := HR4.out; have := h.low; have := HB3.out.size; omega)))
  have HR6 := Lib.hid hl46.there
  have ho6' := own_base (base' := w.heap.size) ho6 (fun k hk => by have h1 := (ho6.lt k hk).1; have h2 := HB4.out.size; have h3 := HL5.out.turn.size; omega)
  have HO6 := Lib.hid ho6'
  have HE6 := Lib.hid (HE.out.below HB6.out HG.out)
  clear ho6 hl6 hl46 HL5 HR4 ho6'
  go_wp2_with fail
  refine (err_any _ HR6.out HE6.out).mono ?_
  rintro e w7 ⟨rfl, hb7⟩
  have HB7 := Lib.hid (HB6.out.trans (hb7.mono HB6.out.size))
  have ho7 := own_touch HO6.out (Turns.of_below (S := fun _ => False) hb7) (fun _ _ h => h)
  have HO7 := Lib.hid ho7
  clear hb7 HR6 HO6 HE6 ho7
  by_cases hful : 8 + V ≤ n
  rotate_left
  · have hss := sec_short (l := l) (V := V) (by rw [HN.out]; exact h4) (by rw [HN.out]; omega)
    rw [hss]
    have HO : Hid (one l = ([], 0, 2)) := by
      show _ = _
      unfold one
      rw [if_neg (by rw [HN.out]; omega), if_neg (by rw [← HVE.out]; omega), if_pos (by rw [← HVE.out, HN.out]; omega)]
    clear hss hful
    generalize (sec l V).numV 4 = SUM at *
    generalize ((sec l V).numS 4).takeB (V : Int) true = BODY at *
    go_wp2_with fail
    refine bodyPost_ret (results_tmp3 rfl _ _) rfl ?_
    unfold OneP
    rw [HO.out]
    exact ⟨none, 0, rfl, ⟨rfl, .inl ⟨rfl, rfl⟩⟩, HB7.out⟩
  obtain ⟨f1, f2, f3⟩ := sec_full (l := l) (V := V) (by rw [HN.out]; exact hful)
  have HCF := Lib.hid (crc_frame (l := l) (V := V) (by rw [HN.out]; exact hful) HVE.out.symm)
  have HON : Hid (one l = if frame ((l.drop 8).take V) = l.take (8 + V) then ((l.drop 8).take V, 8 + V, 0) else ([], 0, 9)) := by
    show _ = _
    unfold one
    rw [if_neg (by rw [HN.out]; omega), if_neg (by rw [← HVE.out]; omega), if_neg (by rw [← HVE.out, HN.out]; omega), ← HVE.out]
  rw [f1, f2, f3]
  rw [f2] at HO7
  have HLB : Hid (((l.drop 8).take V).length = V) := by show _ = _; rw [List.length_take, List.length_drop, HN.out]; omega
  have hb4 := beN_lt_pow ((l.drop 4).take 4)
  rw [List.length_take, List.length_drop, HN.out, Nat.min_eq_left (by omega)] at hb4
  have HSL7 := Lib.hid (HB.out.below HB7.out)
  clear f1 f2 f3 HVE
  generalize hbody : (l.drop 8).take V = body at *
  generalize beN ((l.drop 4).take 4) = SUM at *
  have hw32 : IntKind.u32.wrap (SUM : Int) = (SUM : Int) := by rw [IntKind.wrap_u32]; omega
  have hcut := cut0 HSL7.out 4 4 rfl (by omega)
  rw [HLB.out] at HO7 ⊢
  have HP := Lib.hid (Pts.made2 (bs_take HSL7.out (k := 4) (by omega)) (own_bs HO7.out) 22 rfl)
  go_wp2_with fail
  refine (CrcW.of_any _ _ _ [l.take 4, body] _ HP.out).mono ?_
  rintro e w8 ⟨rfl, hb8⟩
  have hal : Below w7.heap.size w7 (w7.alloc (.cells #[.slice p 4 c, .slice p6 V c6] 22)) := Below.allocs _ _
  have hb78 := hal.trans (hb8.mono hal.size)
  have HB8 := Lib.hid (HB7.out.trans (hb78.mono HB7.out.size))
  have ho8 := own_touch HO7.out (Turns.of_below (S := fun _ => False) hb78) (fun _ _ h => h)
  have HO8 := Lib.hid ho8
  clear hb8 hal hb78 ho8 HO7 HP hcut HSL7
  obtain ⟨C, hC⟩ : ∃ C, (Crc.more 0#32 ([l.take 4, body].flatten)).toNat = C := ⟨_, rfl⟩
  rw [hC] at HCF ⊢
  clear hC
  by_cases hq : C = SUM
  · have hqb : ((C : Int) != (SUM : Int)) = false := by rw [bne_eq_false_iff_eq]; omega
    have HR : Hid (one l = (body, 8 + V, 0)) := by show _ = _; rw [HON.out, if_pos (HCF.out.1 hq)]
    clear hq HCF HON hbody
    go_wp2_with fail
    refine (size_any p6 V c6 (by omega) _).mono ?_
    rintro e w9 ⟨rfl, rfl⟩
    go_wp2_with fail
    refine bodyPost_ret (results_tmp3 rfl _ _) rfl ?_
    unfold OneP
    rw [HR.out]
    dsimp only
    rw [HLB.out]
    exact ⟨p6, c6, rfl, HO8.out, HB8.out⟩
  · have hqb : ((C : Int) != (SUM : Int)) = true := by rw [bne_iff_ne]; omega
    have HR : Hid (one l = ([], 0, 9)) := by show _ = _; rw [HON.out, if_neg (fun h => hq (HCF.out.2 h))]
    clear hq HCF HON hbody
    go_wp2_with fail
    refine bodyPost_ret (results_tmp3 rfl _ _) rfl ?_
    unfold OneP
    rw [HR.out]
    exact ⟨none, 0, rfl, ⟨rfl, .inl ⟨rfl, rfl⟩⟩, HB8.out⟩
end Go.Proofs.YtgmahahhkaofbaaGreatDoor.Frm

namespace Go.Proofs.YtgmahahhkaofbaaGreatDoor.Cut
open Go.RowKit Go.Mir Go.Mir.Parts

structure Ls (w : World) (base : Nat) (v : Value) (ls : List (List UInt8)) : Prop where
  all : ∃ hs : List Value, w.ownsRow base 22 1 v ls.length hs ∧ ∀ j (h : j < ls.length), ∃ q k, hs[j]? = some (.slice q ls[j].length k) ∧ Bs w q ls[j].length k ls[j] ∧ (∀ a, q = some a → 0 < ls[j].length → ¬ v.ownBlock = some a.block)
theorem Ls.nil (w : World) (base : Nat) : Ls w base (.slice none 0 0) [] := ⟨[], World.ownsRow_nil _ _ _ _, fun j h => by simp at h⟩
theorem Ls.below {w w' : World} {base : Nat} {v : Value} {ls : List (List UInt8)} (h : Ls w base v ls) (hb : Below w.heap.size w w') : Ls w' base v ls := by
  obtain ⟨hs, h1, h2⟩ := h.all
  exact ⟨hs, own_touch h1 (Turns.of_below (S := fun _ => False) hb) (fun _ _ h => h), fun j hj => by
    obtain ⟨q, k, a, b, c⟩ := h2 j hj
    exact ⟨q, k, a, b.below hb, c⟩⟩
theorem Ls.low {w : World} {base base' : Nat} {v : Value} {ls : List (List UInt8)} (h : Ls w base v ls) (hb : base' ≤ base) : Ls w base' v ls := by
  obtain ⟨hs, h1, h2⟩ := h.all
  exact ⟨hs, own_base h1 (fun k hk => by have := (h1.lt k hk).1; omega), h2⟩
theorem Ls.sl {w : World} {base : Nat} {v : Value} {ls : List (List UInt8)} (h : Ls w base v ls) : ∃ p c, v = .slice p ls.length c ∧ Pts w p ls.length c ls := by
  obtain ⟨hs, h1, h2⟩ := h.all
  obtain ⟨p, c, rfl, hS⟩ := own_sl h1
  refine ⟨p, c, rfl, rfl, hS.le, hS.max, hS.nil0, fun a ha j hj => ?_⟩
  obtain ⟨q, k, e1, e2, _⟩ := h2 j hj
  exact ⟨q, _, k, hS.cell a ha j _ e1, e2⟩
/-- a block of bytes is none of slices -/
theorem no_own {w : World} {base : Nat} {v : Value} {n : Nat} {hs : List Value} (h1 : w.ownsRow base 22 1 v n hs) {b2 m c : Nat} {q : Option Addr} {ys : List Value} (h2 : w.ownsRow b2 5 1 (.slice q m c) m ys) : ∀ a, q = some a → ¬ v.ownBlock = some a.block := fun a ha hv => by
  subst ha
  rcases h1.2 with ⟨rfl, _⟩ | ⟨g, cap, cur, rfl, _, hg, _⟩
  · cases hv
  · rcases h2.2 with ⟨hx, _⟩ | ⟨g2, cap2, cur2, hx, _, hg2, _⟩
    · cases hx
    · cases hx
      simp only [Value.ownBlock, Option.some.injEq] at hv
      rw [← hv, hg] at hg2
      injection hg2 with e1
      injection e1 with _ e2
      revert e2
      decide
/-- the same, where each element is the call's own, too -/
structure LsO (w : World) (base : Nat) (v : Value) (ls : List (List UInt8)) : Prop where
  all : ∃ hs : List Value, w.ownsRow base 22 1 v ls.length hs ∧ ∀ j (h : j < ls.length), ∃ q k, hs[j]? = some (.slice q ls[j].length k) ∧ w.ownsRow base 5 1 (.slice q ls[j].length k) ls[j].length (bytesV ls[j])
theorem LsO.nil (w : World) (base : Nat) : LsO w base (.slice none 0 0) [] := ⟨[], World.ownsRow_nil _ _ _ _, fun j h => by simp at h⟩
theorem LsO.ls {w : World} {base : Nat} {v : Value} {ls : List (List UInt8)} (h : LsO w base v ls) : Ls w base v ls := by
  obtain ⟨hs, h1, h2⟩ := h.all
  exact ⟨hs, h1, fun j hj => by
    obtain ⟨q, k, a, b⟩ := h2 j hj
    exact ⟨q, k, a, own_bs b, fun ad ha _ => no_own h1 b ad ha⟩⟩
theorem LsO.below {w w' : World} {base : Nat} {v : Value} {ls : List (List UInt8)} (h : LsO w base v ls) (hb : Below w.heap.size w w') : LsO w' base v ls := by
  obtain ⟨hs, h1, h2⟩ := h.all
  exact ⟨hs, own_touch h1 (Turns.of_below (S := fun _ => False) hb) (fun _ _ h => h), fun j hj => by
    obtain ⟨q, k, a, b⟩ := h2 j hj
    exact ⟨q, k, a, own_touch b (Turns.of_below (S := fun _ => False) hb) (fun _ _ h => h)⟩⟩
theorem LsO.set {w : World} {base : Nat} {v : Value} {ls : List (List UInt8)} {B : Nat} {t : TypeId} {u : Value} (h : LsO w base v ls) (hb : w.heap[B]? = some (.cells #[u] t (0, 0))) (h1 : t ≠ 22) (h2 : t ≠ 5) (u' : Value) : LsO (w.setCell ⟨B, 0, none⟩ u') base v ls := by
  have ht : Turns (fun i => i = B) w (w.setCell ⟨B, 0, none⟩ u') := (Turns.refl (fun i => i = B) w).setCell (p := ⟨B, 0, none⟩) (fun _ => rfl) u'
  have ne : ∀ {n size e : Nat} {x : Value} {vs : List Value}, w.ownsRow base e size x n vs → t ≠ e → ∀ i, x.ownBlock = some i → ¬ i = B := fun {n size e x vs} ho hte i hi he => by
    subst he
    rcases ho.2 with ⟨rfl, _⟩ | ⟨g, cap, cur, rfl, _, hg, _⟩
    · cases hi
    · simp only [Value.ownBlock, Option.some.injEq] at hi
      rw [hi, hb] at hg
      injection hg with e1
      injection e1 with _ e2
      exact hte e2
  obtain ⟨hs, a, b⟩ := h.all
  exact ⟨hs, own_touch a ht (ne a h1), fun j hj => by
    obtain ⟨q, k, c, d⟩ := b j hj
    exact ⟨q, k, c, own_touch d ht (ne d h2)⟩⟩
/-- the same, where the elements lay ahead (in w0) -/
structure LsA (w0 w : World) (base : Nat) (v : Value) (ls : List (List UInt8)) : Prop where
  all : ∃ hs : List Value, w.ownsRow base 22 1 v ls.length hs ∧ ∀ j (h : j < ls.length), ∃ q k, hs[j]? = some (.slice q ls[j].length k) ∧ Bs w0 q ls[j].length k ls[j]
theorem LsA.nil (w0 w : World) (base : Nat) : LsA w0 w base (.slice none 0 0) [] := ⟨[], World.ownsRow_nil _ _ _ _, fun j h => by simp at h⟩
theorem LsA.touch {S : Nat → Prop} {w0 w w' : World} {base : Nat} {v : Value} {ls : List (List UInt8)} (h : LsA w0 w base v ls) (ht : Turns S w w') (hv : ∀ k, v.ownBlock = some k → ¬ S k) : LsA w0 w' base v ls := by
  obtain ⟨hs, h1, h2⟩ := h.all
  exact ⟨hs, own_touch h1 ht hv, h2⟩
theorem LsA.below {w0 w w' : World} {base : Nat} {v : Value} {ls : List (List UInt8)} (h : LsA w0 w base v ls) (hb : Below w.heap.size w w') : LsA w0 w' base v ls := h.touch (Turns.of_below (S := fun _ => False) hb) (fun _ _ h => h)
theorem LsA.sl {w0 w : World} {base : Nat} {v : Value} {ls : List (List UInt8)} (h : LsA w0 w base v ls) (hb : Below w0.heap.size w0 w) : ∃ p c, v = .slice p ls.length c ∧ Pts w p ls.length c ls := by
  obtain ⟨hs, h1, h2⟩ := h.all
  obtain ⟨p, c, rfl, hS⟩ := own_sl h1
  refine ⟨p, c, rfl, rfl, hS.le, hS.max, hS.nil0, fun a ha j hj => ?_⟩
  obtain ⟨q, k, e1, e2⟩ := h2 j hj
  exact ⟨q, _, k, hS.cell a ha j _ e1, e2.below hb⟩
end Go.Proofs.YtgmahahhkaofbaaGreatDoor.Cut

namespace Go.Proofs.YtgmahahhkaofbaaGreatDoor.Frm
open Go.RowKit Go.Mir Go.Mir.Parts Wr Cod Cut

theorem one_ok {l : List UInt8} (h : (one l).2.2 = 0) : 9 ≤ (one l).2.1 ∧ (one l).2.1 ≤ l.length ∧ (one l).2.1 = 8 + (one l).1.length ∧ frame (one l).1 = l.take (one l).2.1 ∧ 1 ≤ (one l).1.length ∧ (one l).1.length ≤ 65536 := by
  unfold one at h ⊢
  split at h
  · simp at h
  rename_i h1
  rw [if_neg h1]
  split at h
  · simp at h
  rename_i h2
  rw [if_neg h2]
  split at h
  · simp at h
  rename_i h3
  rw [if_neg h3]
  split at h
  · rename_i h4
    rw [if_pos h4]
    have hl : ((l.drop 8).take (Rdr.beN (l.take 4))).length = Rdr.beN (l.take 4) := by rw [List.length_take, List.length_drop]; omega
    refine ⟨by dsimp only; omega, by dsimp only; omega, by dsimp only; rw [hl], h4, by dsimp only; omega, by dsimp only; omega⟩
  · simp at h
def scan (l : List UInt8) : List (List UInt8) × Nat :=
  if _h : (one l).2.2 = 0 then ((one l).1 :: (scan (l.drop (one l).2.1)).1, (one l).2.1 + (scan (l.drop (one l).2.1)).2) else ([], 0)
termination_by l.length
decreasing_by all_goals (have := one_ok _h; rw [List.length_drop]; omega)
theorem scan_ok {l : List UInt8} (h : (one l).2.2 = 0) : scan l = ((one l).1 :: (scan (l.drop (one l).2.1)).1, (one l).2.1 + (scan (l.drop (one l).2.1)).2) := by rw [scan, dif_pos h]
theorem scan_no {l : List UInt8} (h : ¬ (one l).2.2 = 0) : scan l = ([], 0) := by rw [scan, dif_neg h]
/-- as far as one has come -/
def sumF (pre : List (List UInt8)) : Nat := (pre.map fun x => 8 + x.length).sum
theorem sumF_snoc (pre : List (List UInt8)) (x : List UInt8) : sumF (pre ++ [x]) = sumF pre + (8 + x.length) := by simp [sumF]
def At (l : List UInt8) (pre : List (List UInt8)) (at_ : Nat) : Prop := at_ ≤ l.length ∧ (9 * pre.length ≤ at_ ∧ at_ = sumF pre) ∧ scan l = (pre ++ (scan (l.drop at_)).1, at_ + (scan (l.drop at_)).2)
theorem At.zero (l : List UInt8) : At l [] 0 := ⟨by omega, ⟨by simp, rfl⟩, by simp⟩
theorem At.next {l : List UInt8} {pre : List (List UInt8)} {k : Nat} (h : At l pre k) (ho : (one (l.drop k)).2.2 = 0) : At l (pre ++ [(one (l.drop k)).1]) (k + (one (l.drop k)).2.1) := by
  obtain ⟨h1, ⟨h2, h2'⟩, h3⟩ := h
  obtain ⟨o1, o2, o3, _⟩ := one_ok ho
  rw [List.length_drop] at o2
  refine ⟨by omega, ⟨by rw [List.length_append, List.length_singleton]; omega, by rw [sumF_snoc, ← h2', o3]⟩, ?_⟩
  rw [h3, scan_ok ho, List.drop_drop]
  simp only [List.append_assoc, List.singleton_append, Prod.mk.injEq, true_and]
  omega
theorem At.end {l : List UInt8} {pre : List (List UInt8)} {k : Nat} (h : At l pre k) (ho : ¬ (one (l.drop k)).2.2 = 0) : scan l = (pre, k) := by
  rw [h.2.2, scan_no ho]; simp
end Go.Proofs.YtgmahahhkaofbaaGreatDoor.Frm

namespace Go.Mir
open Go.RowKit

/-- what the loop has laid -/
structure LoopAt (b : Nat) (r : Loop) (W : World) : Prop where
  loop : W.heap[b + 1]? = some (.loop r)
  calls : W.heap[b]? = some (.deferred (some []))
theorem LoopAt.lt {b : Nat} {r : Loop} {W : World} (h : LoopAt b r W) : b + 1 < W.heap.size := (Array.getElem?_eq_some_iff.1 h.loop).1
theorem LoopAt.keep {b : Nat} {r : Loop} {W W' : World} (h : LoopAt b r W) (hk : KeepsFrom b W W') : LoopAt b r W' := ⟨hk.same _ _ (by omega) h.loop rfl, hk.same _ _ (Nat.le_refl _) h.calls rfl⟩
theorem LoopAt.set {b : Nat} {r : Loop} {W : World} (h : LoopAt b r W) (r' : Loop) : LoopAt b r' (W.putObj (b + 1) (.loop r')) := ⟨World.putObj_heap_same h.lt, (World.putObj_heap_other (by omega)).trans h.calls⟩
theorem LoopAt.below {b : Nat} {r : Loop} {W W' : World} (h : LoopAt b r W) (hb : Below W.heap.size W W') : LoopAt b r W' := ⟨Below.keepOld hb h.loop, Below.keepOld hb h.calls⟩
variable {P : Program}
end Go.Mir

namespace Go.Proofs.YtgmahahhkaofbaaGreatDoor.Frm
open Go.RowKit Go.Mir Go.Mir.Parts Go.Shelf Wr Cod Cut Rdr
attribute [local go_sem] Oper.semAt_some

structure FX where
  at_ : Nat
  p : Option Addr
  c : Nat
  body : List UInt8
def FX.enc (x : FX) : Array Value := #[.int .i64 (x.at_ : Int), .slice x.p x.body.length x.c]
end Go.Proofs.YtgmahahhkaofbaaGreatDoor.Frm

namespace Go.Proofs.YtgmahahhkaofbaaGreatDoor.Frm
open Go.RowKit Go.Mir Go.Mir.Parts Go.Shelf Wr Cod Cut Rdr
attribute [local go_sem] Oper.semAt_some

theorem LsO.low {w : World} {base base' : Nat} {v : Value} {ls : List (List UInt8)} (h : LsO w base v ls) (hb : base' ≤ base) : LsO w base' v ls := by
  obtain ⟨hs, h1, h2⟩ := h.all
  exact ⟨hs, own_base h1 (fun k hk => by have := (h1.lt k hk).1; omega), fun j hj => by
    obtain ⟨q, k, a, b⟩ := h2 j hj
    exact ⟨q, k, a, own_base b (fun i hi => by have := (b.lt i hi).1; omega)⟩⟩
end Go.Proofs.YtgmahahhkaofbaaGreatDoor.Frm

namespace Go.Proofs.YtgmahahhkaofbaaGreatDoor.Frm
open Go.RowKit Go.Mir Go.Mir.Parts Wr Cod Cut Rdr

end Go.Proofs.YtgmahahhkaofbaaGreatDoor.Frm

namespace Go.Proofs.YtgmahahhkaofbaaGreatDoor.CrcW
open Go.RowKit Go.Mir

end Go.Proofs.YtgmahahhkaofbaaGreatDoor.CrcW

namespace Go.Proofs.YtgmahahhkaofbaaGreatDoor.Frm
open Go.RowKit Go.Mir Go.Mir.Parts Wr Cod Cut Rdr

theorem frame_length (l : List UInt8) : (frame l).length = 8 + l.length := by unfold frame; simp only [List.length_append, be_length]
theorem frame_four (l : List UInt8) (r : List UInt8) : (frame l ++ r).take 4 = be l.length 4 := by
  unfold frame
  rw [List.append_assoc, List.append_assoc, List.take_append_of_le_length (by rw [be_length]; omega), List.take_of_length_le (by rw [be_length]; omega)]
theorem frame_body (l r : List UInt8) : ((frame l ++ r).drop 8).take l.length = l := by
  unfold frame
  rw [List.append_assoc, List.drop_append_of_le_length (by simp [be_length]), List.drop_of_length_le (by simp [be_length]), List.nil_append, List.take_append_of_le_length (by omega), List.take_of_length_le (by omega)]
theorem frame_take (l r : List UInt8) : (frame l ++ r).take (8 + l.length) = frame l := by
  rw [← frame_length, List.take_append_of_le_length (Nat.le_refl _), List.take_of_length_le (Nat.le_refl _)]
/-- there and back, whatever is behind -/
theorem one_frame (l r : List UInt8) (h1 : 1 ≤ l.length) (h2 : l.length ≤ 65536) : one (frame l ++ r) = (l, 8 + l.length, 0) := by
  have hv : beN ((frame l ++ r).take 4) = l.length := by rw [frame_four, beN_be _ _ (by omega) (by omega)]
  have hl : (frame l ++ r).length = 8 + l.length + r.length := by rw [List.length_append, frame_length]
  unfold one
  rw [hv, if_neg (by omega), if_neg (by omega), if_neg (by omega), frame_body, frame_take, if_pos rfl]
theorem one_frame0 (l : List UInt8) (h1 : 1 ≤ l.length) (h2 : l.length ≤ 65536) : one (frame l) = (l, 8 + l.length, 0) := by
  have := one_frame l [] h1 h2
  rwa [List.append_nil] at this
/-- torn -/
theorem one_torn (l : List UInt8) (h1 : 1 ≤ l.length) (h2 : l.length ≤ 65536) (k : Nat) (hk : k < 8 + l.length) : one ((frame l).take k) = ([], 0, 2) := by
  have hl : ((frame l).take k).length = k := by rw [List.length_take, frame_length]; omega
  unfold one
  by_cases h4 : k < 4
  · rw [if_pos (by omega)]
  · have hv : beN (((frame l).take k).take 4) = l.length := by
      rw [List.take_take, Nat.min_eq_left (by omega)]
      have := frame_four l []
      rw [List.append_nil] at this
      rw [this, beN_be _ _ (by omega) (by omega)]
    rw [hv, if_neg (by omega), if_neg (by omega), if_pos (by omega)]
/-- one behind the other, and something that is none -/
theorem scan_frames (t : List UInt8) (ht : ¬ (one t).2.2 = 0) : ∀ (ls : List (List UInt8)), (∀ x ∈ ls, 1 ≤ x.length ∧ x.length ≤ 65536) → scan (ls.flatMap frame ++ t) = (ls, (ls.flatMap frame).length)
  | [], _ => by rw [List.flatMap_nil, List.nil_append, scan_no ht]; rfl
  | x :: r, h => by
    have hx := h x (by simp)
    have ih := scan_frames t ht r (fun y hy => h y (by simp [hy]))
    have ho := one_frame x (r.flatMap frame ++ t) hx.1 hx.2
    rw [← List.append_assoc] at ho
    rw [List.flatMap_cons, scan_ok (by rw [ho]), ho]
    dsimp only
    have hd : ((frame x ++ r.flatMap frame ++ t)).drop (8 + x.length) = r.flatMap frame ++ t := by
      rw [List.append_assoc, ← frame_length, List.drop_append_of_le_length (Nat.le_refl _), List.drop_of_length_le (Nat.le_refl _), List.nil_append]
    rw [hd, ih, List.length_append, frame_length]
end Go.Proofs.YtgmahahhkaofbaaGreatDoor.Frm

namespace Go.Proofs.YtgmahahhkaofbaaGreatDoor.Rol
open Go.RowKit Go.Mir Dk
open Frm (frame scan one frame_length scan_frames scan_ok scan_no one_torn one_frame one_frame0)

/-! ### what is scanned -/
/-! ### what is done -/
def fD (d : DD) (i : Nat) : FD := (d.fs[i]?).getD FD.none
theorem fD_eq {d : DD} {i : Nat} (h : i < d.fs.length) : d.fs[i] = fD d i := by
  unfold fD; rw [List.getElem?_eq_getElem h]; rfl
/-! ### a disk of one file -/
def fS (x : List UInt8) : FD := ⟨x, x, [], x.length⟩
theorem settle_put (x y : List UInt8) (n : Nat) : (⟨x, x ++ y, [.put y], n⟩ : FD).settle (unitsAll [.put y]) = fS (x ++ y) := by
  have h : someU x [.put y] (unitsAll [.put y]) = x ++ y := by
    rw [someU_all _ _ _ (Nat.le_refl _)]
    show (St.put y).act x (St.put y).units = _
    rw [act_full]
  show (⟨someU x _ _, someU x _ _, [], (someU x _ _).length⟩ : FD) = _
  rw [h]; rfl
theorem take_put (x y : List UInt8) : (fS x).take (.put y) = ⟨x, x ++ y, [.put y], x.length + y.length⟩ := by
  show (⟨x, (St.put y).act x (St.put y).units, [.put y], max x.length (x.length + y.length)⟩ : FD) = _
  rw [act_full, Nat.max_eq_right (by omega)]
end Go.Proofs.YtgmahahhkaofbaaGreatDoor.Rol

namespace Go.Proofs.YtgmahahhkaofbaaGreatDoor.Rk
open Go.RowKit Go.Mir Go.Mir.Parts Dk Rol
open Frm (frame scan)
open Cut (Ls LsO)

theorem RDB.put {x : World} {ts : List RF} {d : DD} {g : Nat} {M A : Array Value} (h : RDB x ts d) (hz : x.heap[g]? = some (.cells M 37 (0, 0))) : RDB (x.setRow g A) ts d := h.step (KR.of_turn (turns_setRow _ _ _) hz)
theorem RDB.fd {x : World} {ts : List RF} {d : DD} (h : RDB x ts d) {i : Nat} (hi : i < 3) : d.fs[i]? = some (fD d i) := by
  have hl : i < d.fs.length := by rw [h.m3]; exact hi
  rw [List.getElem?_eq_getElem hl, fD_eq hl]
theorem rput_in (ts : List RF) (d : DD) (i : Nat) (hi : i < 3) (p : Option Addr) (B : List UInt8) (c : Nat) (w : World) (h : RDB w ts d) (hur : usedL d.fs ≤ d.room) (hb : Bs w p B.length c B) (hu : B.length ≤ 60000) (hfew : (fD d i).steps.length + 1 ≤ 2199023255552) :
    Calls Tryz.prog 8 #[.agg (rdA ts d), .int .i64 (i : Int), .slice p B.length c] w (ROut (doD d i (fD d i) (.put B)) (doE d i (fD d i) (.put B)) w) :=
  rappend_of ts d _ _ i p B c w h.n3 h.m3 hb (by omega) (fun w1 q k hb1 hq => rdo_put ts d i hi (fD d i) (h.fd hi) B q k w1 (h.below hb1) hur hq hu hfew)
theorem rcut_in (ts : List RF) (d : DD) (i : Nat) (hi : i < 3) (m : Nat) (hm : m ≤ (fD d i).now.length) (w : World) (h : RDB w ts d) (hur : usedL d.fs ≤ d.room) (hfew : (fD d i).steps.length + 1 ≤ 2199023255552) :
    Calls Tryz.prog 63 #[.agg (rdA ts d), .int .i64 (i : Int), .int .i64 (m : Int)] w (ROut (doD d i (fD d i) (.cut m)) (doE d i (fD d i) (.cut m)) w) :=
  rcut_of ts d _ _ i m w h.n3 h.m3 (fun w1 hb1 => rdo_cut ts d i hi (fD d i) (h.fd hi) m hm w1 (h.below hb1) hur hfew)
end Go.Proofs.YtgmahahhkaofbaaGreatDoor.Rk

namespace Go.Proofs.YtgmahahhkaofbaaGreatDoor.Rol
open Go.RowKit Go.Mir Go.Mir.Parts Dk
open Cut (LsO LsA)

/-- blocks that may be a disk's -/
def DTy (base : Nat) (w : World) (k : Nat) : Prop := base ≤ k ∧ ∃ M t fr, w.heap[k]? = some (.cells M t fr) ∧ (t = 59 ∨ t = 97)
theorem dat_dty {w : World} {base db : Nat} {vs : List FV} {d : DD} (h : DAt w base db vs d) : ∀ k, DOwn db vs k → DTy base w k := by
  intro k hs
  refine ⟨(h.ownLt k hs).1, ?_⟩
  rcases hs with rfl | ⟨v, hv, hs⟩
  · exact ⟨_, _, _, h.row, .inl rfl⟩
  · obtain ⟨i, hi⟩ := List.mem_iff_getElem?.1 hv
    have hlt : i < d.fs.length := by rw [h.m3, ← h.n3]; exact (List.getElem?_eq_some_iff.1 hi).1
    obtain ⟨vals, ho, _⟩ := (h.each i v _ hi (List.getElem?_eq_getElem hlt)).steps
    rcases ho.2 with ⟨e, _⟩ | ⟨g, cap, cur, e, _, hg, _⟩
    · rw [e] at hs; simp [Value.ownBlock] at hs
    · rw [e] at hs
      simp [Value.ownBlock] at hs
      subst hs
      exact ⟨_, _, _, hg, .inr rfl⟩
/-- a disk of which no more is known than what it holds -/
def DX (base db : Nat) (d : DD) (w : World) : Prop := base ≤ w.heap.size ∧ ∃ vs, DAt w base db vs d
/-- what a call of a disk's has turned -/
def KT (base : Nat) (w w' : World) : Prop := Turns (DTy base w) w w'
theorem KT.refl (base : Nat) (w : World) : KT base w w := Turns.refl _ _
theorem KT.trans {base : Nat} {a b c : World} (h : KT base a b) (k : KT base b c) : KT base a c :=
  ⟨k.os.trans h.os, k.tape.trans h.tape, k.output.trans h.output, Nat.le_trans h.size k.size, fun i hi hS => by
    have e1 := h.block i hi hS
    have hS2 : ¬ DTy base b i := fun h' => hS (by
      obtain ⟨h1, M, t, fr, h2, h3⟩ := h'
      exact ⟨h1, M, t, fr, by rw [← e1]; exact h2, h3⟩)
    rw [k.block i (Nat.lt_of_lt_of_le hi h.size) hS2]; exact e1⟩
theorem KT.of_below {base : Nat} {a b : World} (h : Below a.heap.size a b) : KT base a b := Turns.of_below h
theorem KT.next {base : Nat} {a b c : World} (h : KT base a b) (k : Below b.heap.size b c) : KT base a c := h.trans (.of_below k)
theorem KT.below {base : Nat} {a b : World} (h : KT base a b) (hb : base ≤ a.heap.size) : Below base a b := Turns.below h hb (fun _ hi => hi.1)
theorem KT.row {base : Nat} {a b : World} (h : KT base a b) {k : Nat} {M : Array Value} {t : TypeId} {fr : Nat × Nat} (hr : a.heap[k]? = some (.cells M t fr)) (h1 : t ≠ 59) (h2 : t ≠ 97) : b.heap[k]? = some (.cells M t fr) :=
  Turns.keep h hr (fun ⟨_, M', t', fr', e, ht⟩ => by
    rw [hr] at e
    injection e with e1
    injection e1 with _ e2
    subst e2
    exact ht.elim h1 h2)
theorem KT.not {base : Nat} {a : World} {b e size n : Nat} {v : Value} {xs : List Value} (ho : a.ownsRow b e size v n xs) (h1 : e ≠ 59) (h2 : e ≠ 97) (k : Nat) (hk : v.ownBlock = some k) : ¬ DTy base a k := fun ⟨_, M', t', fr', e', ht⟩ => by
  rcases ho.2 with ⟨rfl, _⟩ | ⟨g, cap, cur, rfl, _, hg, _⟩
  · simp [Value.ownBlock] at hk
  · simp [Value.ownBlock] at hk
    subst hk
    rw [hg] at e'
    injection e' with e1
    injection e1 with _ e2
    subst e2
    exact ht.elim h1 h2
theorem KT.own {base : Nat} {a b : World} (h : KT base a b) {c e size n : Nat} {v : Value} {xs : List Value} (ho : a.ownsRow c e size v n xs) (h1 : e ≠ 59) (h2 : e ≠ 97) : b.ownsRow c e size v n xs :=
  own_touch ho h (fun k hk => KT.not ho h1 h2 k hk)
theorem KT.etype {base : Nat} {a b : World} (h : KT base a b) (hE : Rdr.EType a) (hb : 0 < base) : Rdr.EType b := by
  have hlt := hE.lt
  have h1 : a.heap[0]? = some (a.heap[0]'hlt) := Array.getElem?_eq_getElem hlt
  have h2 := Turns.keep h h1 (fun hs => by have := hs.1; omega)
  unfold Rdr.EType at hE ⊢
  rw [World.cell?] at hE ⊢
  rw [h1] at hE
  rw [h2]
  exact hE
theorem DX.below {base db : Nat} {d : DD} {w w' : World} (h : DX base db d w) (hb : Below w.heap.size w w') : DX base db d w' := by
  obtain ⟨h0, vs, h1⟩ := h
  exact ⟨Nat.le_trans h0 hb.size, vs, h1.below hb⟩
theorem DX.left {base db : Nat} {vs : List FV} {d d' : DD} {w w' : World} (h : DAt w base db vs d) (h0 : base ≤ w.heap.size) (hl : LeftD base db vs d' w w') : DX base db d' w' ∧ KT base w w' := by
  obtain ⟨vs', h1, h2, _⟩ := hl
  exact ⟨⟨Nat.le_trans h0 h2.size, vs', h1⟩, h2.imp (fun k _ hk => dat_dty h k hk)⟩
/-- what a call leaves, with its answer -/
def StP (base db : Nat) (x : Int) (d' : DD) (w : World) (e : Ending) (w' : World) : Prop := e = .returned (.int .i64 x) ∧ DX base db d' w' ∧ KT base w w'
theorem fD_lt {w : World} {base db : Nat} {vs : List FV} {d : DD} (h : DAt w base db vs d) {i : Nat} (hi : i < 3) : i < d.fs.length := by rw [h.m3]; exact hi
theorem xappend {base db : Nat} {d : DD} (w : World) (h : DX base db d w) (i : Nat) (hi : i < 3) (p : Option Addr) (n c : Nat) (b : List UInt8) (hb : Bs w p n c b) (hn : n ≤ 140737488355328) (hfew : (fD d i).steps.length + 1 ≤ 4398046511104) :
    Calls Tryz.prog 7 #[.pointer (some ⟨db, 0, none⟩), .int .i64 (i : Int), .slice p n c] w (StP base db (doE d i (fD d i) (.put b)) (doD d i (fD d i) (.put b)) w) := by
  obtain ⟨h0, vs, h1⟩ := h
  refine (append_in w h1 h0 i (fD_lt h1 hi) (fD d i) (fD_eq (fD_lt h1 hi)) p n c b hb hn hfew).mono ?_
  rintro e w' ⟨he, hl⟩
  exact ⟨he, DX.left h1 h0 hl⟩
theorem xcut {base db : Nat} {d : DD} (w : World) (h : DX base db d w) (i : Nat) (hi : i < 3) (m : Nat) (hm : m ≤ (fD d i).now.length) (hfew : (fD d i).steps.length + 1 ≤ 4398046511104) :
    Calls Tryz.prog 38 #[.pointer (some ⟨db, 0, none⟩), .int .i64 (i : Int), .int .i64 (m : Int)] w (StP base db (doE d i (fD d i) (.cut m)) (doD d i (fD d i) (.cut m)) w) := by
  obtain ⟨h0, vs, h1⟩ := h
  refine (cut_in w h1 h0 i (fD_lt h1 hi) (fD d i) (fD_eq (fD_lt h1 hi)) m hm hfew).mono ?_
  rintro e w' ⟨he, hl⟩
  exact ⟨he, DX.left h1 h0 hl⟩
theorem xsync {base db : Nat} {d : DD} (w : World) (h : DX base db d w) (i : Nat) (hi : i < 3) :
    Calls Tryz.prog 33 #[.pointer (some ⟨db, 0, none⟩), .int .i64 (i : Int)] w (StP base db (syncE d) (syncD d i (fD d i)) w) := by
  obtain ⟨h0, vs, h1⟩ := h
  refine (sync_in w h1 h0 i (fD_lt h1 hi) (fD d i) (fD_eq (fD_lt h1 hi))).mono ?_
  rintro e w' ⟨he, hl⟩
  exact ⟨he, DX.left h1 h0 hl⟩
theorem xread {base db : Nat} {d : DD} (w : World) (h : DX base db d w) (i : Nat) (hi : i < 3) :
    Calls Tryz.prog 24 #[.pointer (some ⟨db, 0, none⟩), .int .i64 (i : Int)] w fun e w' => ∃ p c, e = .returned (.slice p (fD d i).now.length c) ∧ Bs w' p (fD d i).now.length c (fD d i).now ∧ Below w.heap.size w w' := by
  obtain ⟨h0, vs, h1⟩ := h
  have := read_in w h1 i (fD_lt h1 hi)
  rw [fD_eq (fD_lt h1 hi)] at this
  refine this.mono ?_
  rintro e w' ⟨p, c, he, hr, hb⟩
  obtain ⟨p', c', e1, hs⟩ := hr.bs
  cases e1
  exact ⟨p, c, he, hs, hb⟩
theorem xunits {base db : Nat} {d : DD} (w : World) (h : DX base db d w) (i : Nat) (hi : i < 3) :
    Calls Tryz.prog 42 #[.pointer (some ⟨db, 0, none⟩), .int .i64 (i : Int)] w fun e w' => e = .returned (.int .i64 (unitsAll (fD d i).steps : Int)) ∧ Below w.heap.size w w' := by
  obtain ⟨h0, vs, h1⟩ := h
  have := units_in w h1 i (fD_lt h1 hi)
  rw [fD_eq (fD_lt h1 hi)] at this
  exact this
theorem xsize {base db : Nat} {d : DD} (w : World) (h : DX base db d w) (i : Nat) (hi : i < 3) :
    Calls Tryz.prog 41 #[.pointer (some ⟨db, 0, none⟩), .int .i64 (i : Int)] w fun e w' => e = .returned (.int .i64 ((fD d i).now.length : Int)) ∧ Below w.heap.size w w' := by
  obtain ⟨h0, vs, h1⟩ := h
  have := size_in w h1 i (fD_lt h1 hi)
  rw [fD_eq (fD_lt h1 hi)] at this
  exact this
theorem DX.room {base db : Nat} {d : DD} {w : World} (h : DX base db d w) : 1 ≤ d.room ∧ d.room ≤ 65536 ∧ usedL d.fs ≤ d.room := by
  obtain ⟨_, vs, h1⟩ := h
  exact ⟨h1.room1.1, h1.room1.2, h1.used⟩
theorem DX.len3 {base db : Nat} {d : DD} {w : World} (h : DX base db d w) : d.fs.length = 3 := by
  obtain ⟨_, vs, h1⟩ := h
  exact h1.m3
theorem DX.ok {base db : Nat} {d : DD} {w : World} (h : DX base db d w) {i : Nat} (hi : i < 3) : (fD d i).Ok := by
  obtain ⟨_, vs, h1⟩ := h
  have hl := fD_lt h1 hi
  have := (h1.each i _ _ (List.getElem?_eq_getElem (by rw [h1.n3]; exact hi)) (List.getElem?_eq_getElem hl)).ok
  rwa [fD_eq hl] at this
theorem DX.le {base db : Nat} {d : DD} {w : World} (h : DX base db d w) {i : Nat} (hi : i < 3) : (fD d i).now.length ≤ 65536 := by
  have h1 := (h.ok hi).le
  have h2 := h.room
  have hl : i < d.fs.length := by rw [h.len3]; exact hi
  have h3 := usedL_mem hl
  rw [fD_eq hl] at h3
  omega
end Go.Proofs.YtgmahahhkaofbaaGreatDoor.Rol

namespace Go.Proofs.YtgmahahhkaofbaaGreatDoor.Slt
open Go.RowKit Go.Mir Dk Rol Wr
open Frm (frame one frame_length one_frame0 one_torn)

/-- what a file tells: its turn, and the snapshot -/
def loadP (l : List UInt8) : Nat × List UInt8 := if (one l).2.2 = 0 ∧ 8 ≤ (one l).1.length then (Rdr.beN ((one l).1.take 8), (one l).1.drop 8) else (0, [])
theorem load_of {l x : List UInt8} {n : Nat} (h : one l = (x, n, 0)) (h8 : 8 ≤ x.length) : loadP l = (Rdr.beN (x.take 8), x.drop 8) := by
  unfold loadP
  rw [h]
  exact if_pos ⟨rfl, h8⟩
theorem load_no {l : List UInt8} (h : ¬ (one l).2.2 = 0) : loadP l = (0, []) := by
  unfold loadP
  exact if_neg (fun hh => h hh.1)
theorem load_frame (t : Nat) (x : List UInt8) (ht : t < 18446744073709551616) (hx : x.length ≤ 65528) : loadP (frame (be t 8 ++ x)) = (t, x) := by
  have hl : (be t 8 ++ x).length = 8 + x.length := by rw [List.length_append, be_length]
  rw [load_of (one_frame0 _ (by omega) (by omega)) (by omega), List.take_left' (be_length t 8), List.drop_left' (be_length t 8), Cod.beN_be t 8 (by omega) (by omega)]
theorem load_torn (t : Nat) (x : List UInt8) (hx : x.length ≤ 65528) (k : Nat) (hk : k < 16 + x.length) : loadP ((frame (be t 8 ++ x)).take k) = (0, []) := by
  have hl : (be t 8 ++ x).length = 8 + x.length := by rw [List.length_append, be_length]
  refine load_no ?_
  rw [one_torn _ (by omega) (by omega) k (by omega)]
  decide
theorem load_lt (l : List UInt8) : (loadP l).1 < 18446744073709551616 := by
  unfold loadP
  split
  · rename_i h
    have h1 := Rdr.beN_lt_pow ((one l).1.take 8)
    rw [List.length_take, Nat.min_eq_left h.2] at h1
    show Rdr.beN _ < _
    omega
  · show 0 < _; omega
/-- slots: the current file, its turn and snapshot -/
structure SS where
  now : Int
  turn : Nat
  body : List UInt8
def bet (s : SS) (f : Nat) (l : List UInt8) : SS := if s.turn < (loadP l).1 then ⟨(f : Int), (loadP l).1, (loadP l).2⟩ else s
def opnS (d : DD) (a b : Nat) : SS := bet (bet ⟨-1, 0, []⟩ a (fD d a).now) b (fD d b).now
/-- calls of a disk's, to one file -/
inductive LA where
  | cut
  | sync
  | put (b : List UInt8)
def stpD (d : DD) (i : Nat) : LA → DD
  | .cut => doD d i (fD d i) (.cut 0)
  | .sync => syncD d i (fD d i)
  | .put b => doD d i (fD d i) (.put b)
def stpE (d : DD) (i : Nat) : LA → Int
  | .cut => doE d i (fD d i) (.cut 0)
  | .sync => syncE d
  | .put b => doE d i (fD d i) (.put b)
def layD (i : Nat) : List LA → DD → DD
  | [], d => d
  | a :: r, d => if stpE d i a = 0 then layD i r (stpD d i a) else stpD d i a
def layE (i : Nat) : List LA → DD → Int
  | [], _ => 0
  | a :: r, d => if stpE d i a = 0 then layE i r (stpD d i a) else stpE d i a
theorem lay_ok {i : Nat} {a : LA} {r : List LA} {d : DD} (h : stpE d i a = 0) : layD i (a :: r) d = layD i r (stpD d i a) ∧ layE i (a :: r) d = layE i r (stpD d i a) := ⟨if_pos h, if_pos h⟩
theorem lay_no {i : Nat} {a : LA} {r : List LA} {d : DD} (h : ¬ stpE d i a = 0) : layD i (a :: r) d = stpD d i a ∧ layE i (a :: r) d = stpE d i a := ⟨if_neg h, if_neg h⟩
/-- the file that is not current -/
def nxt (s : SS) (a b : Nat) : Nat := if s.now = (a : Int) then b else a
def full (d : DD) (i : Nat) : Bool := decide (0 < (fD d i).now.length) || decide (0 < unitsAll (fD d i).steps)
def acts (d : DD) (i : Nat) (y : List UInt8) : List LA := if full d i = true then [.cut, .sync, .put y, .sync] else [.put y, .sync]
def wrapB (s : SS) (x : List UInt8) : List UInt8 := frame (be (s.turn + 1) 8 ++ x)
def fits (s : SS) (x : List UInt8) : Bool := decide (x.length ≤ 65528) && decide (s.turn + 1 < 18446744073709551616)
def putSD (d : DD) (s : SS) (a b : Nat) (x : List UInt8) : DD := if fits s x = true then layD (nxt s a b) (acts d (nxt s a b) (wrapB s x)) d else d
def putSE (d : DD) (s : SS) (a b : Nat) (x : List UInt8) : Int := if fits s x = true then layE (nxt s a b) (acts d (nxt s a b) (wrapB s x)) d else 1
def putSS (d : DD) (s : SS) (a b : Nat) (x : List UInt8) : SS := if fits s x = true ∧ layE (nxt s a b) (acts d (nxt s a b) (wrapB s x)) d = 0 then ⟨(nxt s a b : Int), s.turn + 1, x⟩ else s

/-! ### a disk that is up, and without a fuse -/
theorem fD_set {d : DD} {i : Nat} (h : i < d.fs.length) (f : FD) : fD (setF d i f) i = f := by
  unfold fD setF
  simp [h]
theorem fD_other {d : DD} {i k : Nat} (h : i ≠ k) (f : FD) : fD (setF d i f) k = fD d k := by
  unfold fD setF
  simp [List.getElem?_set_ne h]
theorem setF_setF (d : DD) (i : Nat) (f g : FD) : setF (setF d i f) i g = setF d i g := by unfold setF; simp only [List.set_set]
theorem used_setF {d : DD} {i : Nat} (h : i < d.fs.length) (f : FD) : usedL (setF d i f).fs + (fD d i).need = usedL d.fs + f.need := by rw [← fD_eq h]; exact usedL_set h f
theorem settle_all {f : FD} (h : f.Ok) : f.settle (unitsAll f.steps) = fS f.now := by
  show (⟨someU f.kept f.steps (unitsAll f.steps), someU f.kept f.steps (unitsAll f.steps), [], (someU f.kept f.steps (unitsAll f.steps)).length⟩ : FD) = _
  rw [someU_all _ _ _ (Nat.le_refl _), ← h.now]
  rfl
theorem burn0 {d : DD} (h : d.fuse = 0) : d.burn = d := by unfold DD.burn; rw [if_neg (by omega)]
theorem up_do {d : DD} {i : Nat} {f : FD} {s : St} (h1 : d.down = false) (h2 : d.fuse = 0) (h : usedL d.fs - f.need + max f.need (s.size f.now.length) ≤ d.room) : doE d i f s = 0 ∧ doD d i f s = setF d i (f.take s) := by
  have hb : (setF d i (f.take s)).burn = setF d i (f.take s) := burn0 h2
  unfold doE doD
  have hb2 : ¬ (setF d i (f.take s)).down = true := by show ¬ d.down = true; rw [h1]; decide
  have hb1 : ¬ d.down = true := by rw [h1]; decide
  have hb3 : ¬ d.room < usedL d.fs - f.need + max f.need (s.size f.now.length) := by omega
  rw [if_neg hb1, if_neg hb3, hb, if_neg hb2, if_neg hb1, if_neg hb3]
  exact ⟨rfl, rfl⟩
theorem up_sync {d : DD} {i : Nat} {f : FD} (h1 : d.down = false) (h2 : d.fuse = 0) : syncE d = 0 ∧ syncD d i f = setF d i (f.settle (unitsAll f.steps)) := by
  unfold syncE syncD
  rw [burn0 h2, if_neg (by rw [h1]; decide), if_neg (by rw [h1]; decide), if_neg (by rw [h1]; decide), if_neg (by rw [h1]; decide)]
  exact ⟨rfl, rfl⟩
theorem lay_up {d : DD} {i : Nat} {y : List UInt8} (hi : i < d.fs.length) (h1 : d.down = false) (h2 : d.fuse = 0) (hok : (fD d i).Ok) (hy : y.length ≤ 65536) (hr : usedL d.fs + y.length ≤ d.room) :
    layE i (acts d i y) d = 0 ∧ layD i (acts d i y) d = setF d i (fS y) := by
  have hle := hok.le
  have hm := usedL_mem hi
  rw [fD_eq hi] at hm
  have hE0 : ∀ (d' : DD) (x : List UInt8), d'.down = false → d'.fuse = 0 → i < d'.fs.length → fD d' i = fS [] → usedL d'.fs + y.length ≤ d'.room → layE i [.put y, .sync] d' = 0 ∧ layD i [.put y, .sync] d' = setF d' i (fS y) := by
    intro d' _ a1 a2 a3 a4 a5
    obtain ⟨e1, e2⟩ := up_do (i := i) (f := fD d' i) (s := .put y) a1 a2 (by rw [a4]; show usedL d'.fs - 0 + max 0 (0 + y.length) ≤ _; omega)
    have e1' : stpE d' i (.put y) = 0 := e1
    have e2' : stpD d' i (.put y) = setF d' i ((fD d' i).take (.put y)) := e2
    obtain ⟨c1, c2⟩ := lay_ok (r := [.sync]) e1'
    rw [c1, c2, e2', a4, take_put]
    have hf : fD (setF d' i ⟨[], [] ++ y, [.put y], ([] : List UInt8).length + y.length⟩) i = ⟨[], [] ++ y, [.put y], ([] : List UInt8).length + y.length⟩ := fD_set a3 _
    obtain ⟨g1, g2⟩ := up_sync (d := setF d' i ⟨[], [] ++ y, [.put y], ([] : List UInt8).length + y.length⟩) (i := i) (f := ⟨[], [] ++ y, [.put y], ([] : List UInt8).length + y.length⟩) a1 a2
    rw [settle_put, setF_setF] at g2
    have g1' : stpE (setF d' i ⟨[], [] ++ y, [.put y], ([] : List UInt8).length + y.length⟩) i .sync = 0 := g1
    have g2' : stpD (setF d' i ⟨[], [] ++ y, [.put y], ([] : List UInt8).length + y.length⟩) i .sync = setF d' i (fS y) := by
      show syncD _ i (fD _ i) = _
      rw [hf]; exact g2
    obtain ⟨k1, k2⟩ := lay_ok (r := []) g1'
    rw [k1, k2, g2']
    exact ⟨rfl, rfl⟩
  unfold acts
  by_cases hf : full d i = true
  · rw [if_pos hf]
    obtain ⟨e1, e2⟩ := up_do (i := i) (f := fD d i) (s := .cut 0) h1 h2 (by show usedL d.fs - (fD d i).need + max (fD d i).need 0 ≤ _; omega)
    have e1' : stpE d i .cut = 0 := e1
    have e2' : stpD d i .cut = setF d i ((fD d i).take (.cut 0)) := e2
    obtain ⟨c1, c2⟩ := lay_ok (r := [.sync, .put y, .sync]) e1'
    rw [c1, c2, e2']
    have hok1 : ((fD d i).take (.cut 0)).Ok := FD.take_ok hok (Nat.zero_le _) (by show 1 ≤ 65536; omega)
    have hn1 : ((fD d i).take (.cut 0)).now = [] := by show (St.cut 0).act (fD d i).now (St.cut 0).units = _; rw [act_full]; exact List.take_zero
    have hs := settle_all hok1
    rw [hn1] at hs
    obtain ⟨g1, g2⟩ := up_sync (d := setF d i ((fD d i).take (.cut 0))) (i := i) (f := (fD d i).take (.cut 0)) h1 h2
    rw [hs, setF_setF] at g2
    have g1' : stpE (setF d i ((fD d i).take (.cut 0))) i .sync = 0 := g1
    have g2' : stpD (setF d i ((fD d i).take (.cut 0))) i .sync = setF d i (fS []) := by
      show syncD _ i (fD _ i) = _
      rw [fD_set hi]; exact g2
    obtain ⟨k1, k2⟩ := lay_ok (r := [.put y, .sync]) g1'
    rw [k1, k2, g2']
    have hu := used_setF hi (fS [])
    have hz : (fS []).need = 0 := rfl
    have hl : (setF d i (fS [])).fs.length = d.fs.length := List.length_set
    have := hE0 (setF d i (fS [])) [] h1 h2 (by rw [hl]; exact hi) (fD_set hi _) (by show _ ≤ d.room; omega)
    rw [setF_setF] at this
    exact this
  · rw [if_neg hf]
    have hf2 : ¬ (0 < (fD d i).now.length ∨ 0 < unitsAll (fD d i).steps) := by
      intro h; apply hf; unfold full
      rcases h with h | h
      · rw [decide_eq_true h]; rfl
      · rw [decide_eq_true h, Bool.or_true]
    have hn0 : (fD d i).now = [] := List.length_eq_zero_iff.1 (by omega)
    obtain ⟨e1, e2⟩ := up_do (i := i) (f := fD d i) (s := .put y) h1 h2 (by rw [hn0]; show usedL d.fs - (fD d i).need + max (fD d i).need (0 + y.length) ≤ _; omega)
    have e1' : stpE d i (.put y) = 0 := e1
    have e2' : stpD d i (.put y) = setF d i ((fD d i).take (.put y)) := e2
    obtain ⟨c1, c2⟩ := lay_ok (r := [.sync]) e1'
    rw [c1, c2, e2']
    have hok1 : ((fD d i).take (.put y)).Ok := FD.take_ok hok trivial hy
    have hn1 : ((fD d i).take (.put y)).now = y := by show (St.put y).act (fD d i).now (St.put y).units = _; rw [act_full, hn0]; rfl
    have hs := settle_all hok1
    rw [hn1] at hs
    obtain ⟨g1, g2⟩ := up_sync (d := setF d i ((fD d i).take (.put y))) (i := i) (f := (fD d i).take (.put y)) h1 h2
    rw [hs, setF_setF] at g2
    have g1' : stpE (setF d i ((fD d i).take (.put y))) i .sync = 0 := g1
    have g2' : stpD (setF d i ((fD d i).take (.put y))) i .sync = setF d i (fS y) := by
      show syncD _ i (fD _ i) = _
      rw [fD_set hi]; exact g2
    obtain ⟨k1, k2⟩ := lay_ok (r := []) g1'
    rw [k1, k2, g2']
    exact ⟨rfl, rfl⟩
/-- a snapshot put on a disk that is up, where it fits -/
theorem put_up {d : DD} {s : SS} {a b : Nat} {x : List UInt8} (h3 : d.fs.length = 3) (ha : a < 3) (hb : b < 3) (h1 : d.down = false) (h2 : d.fuse = 0) (hok : ∀ i, i < 3 → (fD d i).Ok) (hx : x.length ≤ 60000) (ht : s.turn + 1 < 18446744073709551616) (hr : usedL d.fs + (16 + x.length) ≤ d.room) :
    putSE d s a b x = 0 ∧ putSD d s a b x = setF d (nxt s a b) (fS (wrapB s x)) ∧ putSS d s a b x = ⟨(nxt s a b : Int), s.turn + 1, x⟩ := by
  have hn : nxt s a b < 3 := by unfold nxt; split <;> omega
  have hw : (wrapB s x).length = 16 + x.length := by unfold wrapB; rw [frame_length, List.length_append, be_length]; omega
  have hf : fits s x = true := by unfold fits; rw [decide_eq_true (by omega), decide_eq_true ht]; rfl
  obtain ⟨e1, e2⟩ := lay_up (d := d) (i := nxt s a b) (y := wrapB s x) (by omega) h1 h2 (hok _ hn) (by omega) (by omega)
  unfold putSE putSD putSS
  rw [if_pos hf, if_pos hf, if_pos ⟨hf, e1⟩]
  exact ⟨e1, e2, rfl⟩
end Go.Proofs.YtgmahahhkaofbaaGreatDoor.Slt

namespace Go.Proofs.YtgmahahhkaofbaaGreatDoor.Slt
open Go.RowKit Go.Mir Go.Mir.Parts Dk Rol

/-- the row of slots -/
def slA (db a b : Nat) (s : SS) (pb : Option Addr) (cb bx : Nat) : Array Value := #[.pointer (some ⟨db, 0, none⟩), .int .i64 (a : Int), .int .i64 (b : Int), .int .i64 s.now, .int .u64 (s.turn : Int), .slice pb s.body.length cb, .func (.func 53) #[] #[.pointer (some ⟨bx, 0, none⟩)]]
/-- blocks that slots' calls may turn -/
def STy (base : Nat) (w : World) (k : Nat) : Prop := base ≤ k ∧ ∃ M t fr, w.heap[k]? = some (.cells M t fr) ∧ (t = 59 ∨ t = 97 ∨ t = 76)
def KS (base : Nat) (w w' : World) : Prop := Turns (STy base w) w w'
theorem KS.refl (base : Nat) (w : World) : KS base w w := Turns.refl _ _
theorem KS.of_kt {base : Nat} {a b : World} (h : KT base a b) : KS base a b := h.imp (fun _k _ ⟨h1, M, t, fr, hm, ht⟩ => ⟨h1, M, t, fr, hm, ht.imp id .inl⟩)
theorem KS.trans {base : Nat} {a b c : World} (h : KS base a b) (k : KS base b c) : KS base a c :=
  ⟨k.os.trans h.os, k.tape.trans h.tape, k.output.trans h.output, Nat.le_trans h.size k.size, fun i hi hS => by
    have e1 := h.block i hi hS
    have hS2 : ¬ STy base b i := fun h' => hS (by
      obtain ⟨h1, M, t, fr, h2, h3⟩ := h'
      exact ⟨h1, M, t, fr, by rw [← e1]; exact h2, h3⟩)
    rw [k.block i (Nat.lt_of_lt_of_le hi h.size) hS2]; exact e1⟩
theorem KS.of_below {base : Nat} {a b : World} (h : Below a.heap.size a b) : KS base a b := Turns.of_below h
theorem KS.next {base : Nat} {a b c : World} (h : KS base a b) (k : Below b.heap.size b c) : KS base a c := h.trans (.of_below k)
theorem KS.below {base : Nat} {a b : World} (h : KS base a b) (hb : base ≤ a.heap.size) : Below base a b := Turns.below h hb (fun _ hi => hi.1)
theorem KS.row {base : Nat} {a b : World} (h : KS base a b) {k : Nat} {M : Array Value} {t : TypeId} {fr : Nat × Nat} (hr : a.heap[k]? = some (.cells M t fr)) (h1 : t ≠ 59) (h2 : t ≠ 97) (h3 : t ≠ 76) : b.heap[k]? = some (.cells M t fr) :=
  Turns.keep h hr (fun ⟨_, M', t', fr', e, ht⟩ => by
    rw [hr] at e
    injection e with e1
    injection e1 with _ e2
    subst e2
    rcases ht with ht | ht | ht
    · exact h1 ht
    · exact h2 ht
    · exact h3 ht)
theorem KS.etype {base : Nat} {a b : World} (h : KS base a b) (hE : Rdr.EType a) (hb : 0 < base) : Rdr.EType b := by
  have hlt := hE.lt
  have h1 : a.heap[0]? = some (a.heap[0]'hlt) := Array.getElem?_eq_getElem hlt
  have h2 := Turns.keep h h1 (fun hs => by have := hs.1; omega)
  unfold Rdr.EType at hE ⊢
  rw [World.cell?] at hE ⊢
  rw [h1] at hE
  rw [h2]
  exact hE
theorem kt_no8 {base : Nat} {w : World} : ∀ k M fr, w.heap[k]? = some (.cells M 5 fr) → ¬ DTy base w k := fun k M fr hm ⟨_, M', t', fr', e, ht⟩ => by
  rw [hm] at e
  injection e with e1
  injection e1 with _ e2
  subst e2
  exact ht.elim (by decide) (by decide)
theorem ks_no8 {base : Nat} {w : World} : ∀ k M fr, w.heap[k]? = some (.cells M 5 fr) → ¬ STy base w k := fun k M fr hm ⟨_, M', t', fr', e, ht⟩ => by
  rw [hm] at e
  injection e with e1
  injection e1 with _ e2
  subst e2
  rcases ht with ht | ht | ht
  · exact absurd ht (by decide)
  · exact absurd ht (by decide)
  · exact absurd ht (by decide)
/-- bytes that were handed in stay, whatever slots do -/
theorem KS.bs {base : Nat} {a b : World} (h : KS base a b) {p : Option Addr} {n c : Nat} {l : List UInt8} (hb : Rd a base (.slice p n c) l) : Rd b base (.slice p n c) l := hb.touch h ks_no8
/-- slots, with their disk -/
structure SX (base sb db a b : Nat) (d : DD) (s : SS) (w : World) : Prop where
  dx : DX base db d w
  low : base ≤ sb
  row : ∃ pb cb bx, w.heap[sb]? = some (.cells (slA db a b s pb cb bx) 76 (0, 0)) ∧ Rd w base (.slice pb s.body.length cb) s.body ∧ w.heap[bx]? = some (.cells #[.pointer (some ⟨db, 0, none⟩)] 26 (0, 0))
  turn : s.turn < 18446744073709551616
  now : -1 ≤ s.now ∧ s.now ≤ 2
theorem SX.kt {base sb db a b : Nat} {d d' : DD} {s : SS} {w w' : World} (h : SX base sb db a b d s w) (hk : KT base w w') (hd : DX base db d' w') : SX base sb db a b d' s w' := by
  obtain ⟨pb, cb, bx, h1, h2, h3⟩ := h.row
  exact ⟨hd, h.low, ⟨pb, cb, bx, hk.row h1 (by decide) (by decide), h2.touch hk kt_no8, hk.row h3 (by decide) (by decide)⟩, h.turn, h.now⟩
theorem SX.below {base sb db a b : Nat} {d : DD} {s : SS} {w w' : World} (h : SX base sb db a b d s w) (hb : Below w.heap.size w w') : SX base sb db a b d s w' := h.kt (KT.of_below hb) (h.dx.below hb)
theorem slA_cells {w : World} {sb db a b : Nat} {s : SS} {pb : Option Addr} {cb bx : Nat} {t : TypeId} {fr : Nat × Nat} (h : w.heap[sb]? = some (.cells (slA db a b s pb cb bx) t fr)) :
    w.cell? ⟨sb, 0, none⟩ = some (.pointer (some ⟨db, 0, none⟩)) ∧ w.cell? ⟨sb, 1, none⟩ = some (.int .i64 (a : Int)) ∧ w.cell? ⟨sb, 2, none⟩ = some (.int .i64 (b : Int)) ∧ w.cell? ⟨sb, 3, none⟩ = some (.int .i64 s.now) ∧ w.cell? ⟨sb, 4, none⟩ = some (.int .u64 (s.turn : Int)) ∧ w.cell? ⟨sb, 5, none⟩ = some (.slice pb s.body.length cb) ∧ w.cell? ⟨sb, 6, none⟩ = some (.func (.func 53) #[] #[.pointer (some ⟨bx, 0, none⟩)]) := by
  refine ⟨?_, ?_, ?_, ?_, ?_, ?_, ?_⟩ <;> (rw [cell_of_row _ _ _ _ _ _ h]; rfl)
/-- the program's disk stays where other blocks are turned -/
theorem dx_turn {base db : Nat} {d : DD} {S : Nat → Prop} {w w' : World} (h : DX base db d w) (ht : Turns S w w') (hS : ∀ k M t fr, S k → w.heap[k]? = some (.cells M t fr) → t ≠ 59 ∧ t ≠ 97 ∧ t ≠ 5) : DX base db d w' := by
  obtain ⟨h0, vs, h1⟩ := h
  have hno : ∀ k, DOwn db vs k → ¬ S k := fun k hk hs => by
    obtain ⟨_, M, t, fr, e1, e2⟩ := dat_dty h1 k hk
    have := hS k M t fr hs e1
    rcases e2 with e2 | e2
    · exact this.1 e2
    · exact this.2.1 e2
  refine ⟨Nat.le_trans h0 ht.size, vs, ht.keep h1.row (hno db (.inl rfl)), h1.low, h1.n3, h1.m3, fun i v f hv hf => ?_, h1.apart, h1.room1, h1.fuse1, h1.used, h1.few⟩
  exact (h1.each i v f hv hf).touch ht (fun k M fr hk hs => (hS k M _ fr hs hk).2.2 rfl) (fun k hk => hno k (.inr ⟨v, List.mem_of_getElem? hv, hk⟩))
/-- the current file, turn and snapshot stored anew -/
theorem SX.set3 {base sb db a b : Nat} {d : DD} {s : SS} {w : World} (h : SX base sb db a b d s w) (n : Int) (hn : -1 ≤ n ∧ n ≤ 2) (t : Nat) (ht : t < 18446744073709551616) (p : Option Addr) (c : Nat) (l : List UInt8) (hl : Rd w base (.slice p l.length c) l) :
    SX base sb db a b d ⟨n, t, l⟩ (((w.setCell ⟨sb, 3, none⟩ (.int .i64 n)).setCell ⟨sb, 4, none⟩ (.int .u64 (t : Int))).setCell ⟨sb, 5, none⟩ (.slice p l.length c)) ∧
      KS base w (((w.setCell ⟨sb, 3, none⟩ (.int .i64 n)).setCell ⟨sb, 4, none⟩ (.int .u64 (t : Int))).setCell ⟨sb, 5, none⟩ (.slice p l.length c)) ∧ Turns (fun k => k = sb) w (((w.setCell ⟨sb, 3, none⟩ (.int .i64 n)).setCell ⟨sb, 4, none⟩ (.int .u64 (t : Int))).setCell ⟨sb, 5, none⟩ (.slice p l.length c)) := by
  obtain ⟨pb, cb, bx, h1, h2, h3⟩ := h.row
  have e1 := Dk.cell_put (off := 3) (.int .i64 n) h1
  have e2 := Dk.cell_put (off := 4) (.int .u64 (t : Int)) e1
  have e3 := Dk.cell_put (off := 5) (.slice p l.length c) e2
  have t1 : Turns (fun k => k = sb) w (w.setCell ⟨sb, 3, none⟩ (.int .i64 n)) := Turns.setCell (S := fun k => k = sb) (p := ⟨sb, 3, none⟩) (Turns.refl _ w) (fun _ => rfl) (.int .i64 n)
  have t2 : Turns (fun k => k = sb) w ((w.setCell ⟨sb, 3, none⟩ (.int .i64 n)).setCell ⟨sb, 4, none⟩ (.int .u64 (t : Int))) := Turns.setCell (S := fun k => k = sb) (p := ⟨sb, 4, none⟩) t1 (fun _ => rfl) (.int .u64 (t : Int))
  have hT : Turns (fun k => k = sb) w (((w.setCell ⟨sb, 3, none⟩ (.int .i64 n)).setCell ⟨sb, 4, none⟩ (.int .u64 (t : Int))).setCell ⟨sb, 5, none⟩ (.slice p l.length c)) := Turns.setCell (S := fun k => k = sb) (p := ⟨sb, 5, none⟩) t2 (fun _ => rfl) (.slice p l.length c)
  have hbx : bx ≠ sb := fun e => by
    rw [e, h1] at h3
    injection h3 with q1
    injection q1 with _ q2
    exact absurd q2 (by decide)
  refine ⟨⟨dx_turn h.dx hT (fun k M t' fr hk hm => ?_), h.low, ⟨p, c, bx, e3, hl.touch hT (fun k M fr hm hk => ?_), hT.keep h3 hbx⟩, ht, hn⟩, hT.imp (fun k _ hk => ?_), hT⟩
  · have hk : k = sb := hk
    subst hk
    rw [h1] at hm
    injection hm with q1
    injection q1 with _ q2
    subst q2
    exact ⟨by decide, by decide, by decide⟩
  · have hk : k = sb := hk
    subst hk
    rw [h1] at hm
    injection hm with q1
    injection q1 with _ q2
    exact absurd q2 (by decide)
  · have hk : k = sb := hk
    subst hk
    exact ⟨h.low, _, _, _, h1, .inr (.inr rfl)⟩
end Go.Proofs.YtgmahahhkaofbaaGreatDoor.Slt

namespace Go.Proofs.YtgmahahhkaofbaaGreatDoor.Slt
open Go.RowKit Go.Mir Go.Mir.Parts Dk Rol
open Frm (one)

theorem one_len (l : List UInt8) : (one l).1.length ≤ 65536 := by
  by_cases h : (one l).2.2 = 0
  · exact (Frm.one_ok h).2.2.2.2.2
  · have e : (one l).1 = [] := by
      unfold Frm.one at h ⊢
      split
      · rfl
      · rename_i h1
        rw [if_neg h1] at h
        split
        · rfl
        · rename_i h2
          rw [if_neg h2] at h
          split
          · rfl
          · rename_i h3
            rw [if_neg h3] at h
            split
            · rename_i h4
              rw [if_pos h4] at h
              exact absurd rfl h
            · rfl
    rw [e]; exact Nat.zero_le _
theorem num8_in {X : List UInt8} (h : 8 ≤ X.length) : (Rdr.RD.new X).numV 8 = Rdr.beN (X.take 8) ∧ (Rdr.RD.new X).numS 8 = ⟨X, 8, none⟩ := by
  have hf : Rdr.fitsW 8 = true := by decide
  unfold Rdr.RD.numV Rdr.RD.numS Rdr.RD.takeB Rdr.RD.takeS Rdr.RD.new
  rw [hf]
  dsimp only
  rw [if_pos ⟨rfl, rfl, by omega, by omega⟩, if_neg (by simp), if_neg (by simp), if_neg (by omega), List.drop_zero]
  exact ⟨rfl, rfl⟩
theorem num8_out {X : List UInt8} (h : ¬ 8 ≤ X.length) : ((Rdr.RD.new X).numS 8).err = 2 := by
  have hf : Rdr.fitsW 8 = true := by decide
  unfold Rdr.RD.numS Rdr.RD.takeS Rdr.RD.new
  rw [hf]
  dsimp only
  rw [if_neg (by simp), if_neg (by simp), if_pos (by omega)]
  rfl
theorem rest8 {X : List UInt8} (h : 8 ≤ X.length) : (⟨X, 8, none⟩ : Rdr.RD).takeB ((X.length - 8 : Nat) : Int) true = X.drop 8 := by
  unfold Rdr.RD.takeB
  dsimp only
  rw [if_pos ⟨rfl, rfl, by omega, by omega⟩]
  exact List.take_of_length_le (by rw [List.length_drop]; omega)
theorem own_ge {w : World} {base e size n : Nat} {v : Value} {xs : List Value} (h : w.ownsRow base e size v n xs) : ∀ k, v.ownBlock = some k → base ≤ k := fun k hk => by
  rcases h.2 with ⟨h1, _⟩ | ⟨g, cap, cur, h1, h2, _⟩
  · rw [h1] at hk; simp [Value.ownBlock] at hk
  · rw [h1] at hk; simp [Value.ownBlock] at hk; omega
def LoadP (l : List UInt8) (w : World) (e : Ending) (w' : World) : Prop := ∃ p c, e = .returned (.tuple #[.int .u64 ((loadP l).1 : Int), .slice p (loadP l).2.length c]) ∧ w'.ownsRow w.heap.size 5 1 (.slice p (loadP l).2.length c) (loadP l).2.length (bytesV (loadP l).2) ∧ Below w.heap.size w w'
set_option maxRecDepth 100000 in
theorem load_fn (db : Nat) (w : World) :
    Calls Tryz.prog 22 #[.pointer (some ⟨db, 0, none⟩)] w fun e w' => e = .returned (.func (.func 53) #[] #[.pointer (some ⟨w.heap.size, 0, none⟩)]) ∧ w' = w.alloc (.cells #[.pointer (some ⟨db, 0, none⟩)] 26) := by
  go_enter Tryz.func22, Tryz.ntmps22
  go_wp2_with fail
  go_ret
  exact ⟨rfl, rfl⟩
set_option maxRecDepth 100000 in
set_option maxHeartbeats 1600000 in
theorem load_any {base db i bx : Nat} {d : DD} (hi : i < 3) (w : World) (hE : Rdr.EType w) (hX : DX base db d w) (hbx : w.heap[bx]? = some (.cells #[.pointer (some ⟨db, 0, none⟩)] 26 (0, 0))) :
    Calls Tryz.prog 53 #[.int .i64 (i : Int), .pointer (some ⟨bx, 0, none⟩)] w (LoadP (fD d i).now w) := by
  have hcb : w.cell? ⟨bx, 0, none⟩ = some (.pointer (some ⟨db, 0, none⟩)) := by rw [cell_of_row _ _ _ _ _ _ hbx]; rfl
  have HLE := Lib.hid (hX.le hi)
  have HRD := Lib.hid (xread w hX i hi)
  have HE := Lib.hid hE
  clear hE hX hbx hi
  generalize (fD d i).now = L at *
  have HX65 := Lib.hid (one_len L)
  obtain ⟨X, hX⟩ : ∃ X, (one L).1 = X := ⟨_, rfl⟩
  obtain ⟨E, hE⟩ : ∃ E, (one L).2.2 = E := ⟨_, rfl⟩
  have HLP : Hid (loadP L = if E = 0 ∧ 8 ≤ X.length then (Rdr.beN (X.take 8), X.drop 8) else (0, [])) := by show _ = _; unfold loadP; rw [hX, hE]
  have HOX := Lib.hid hX
  have HOE := Lib.hid hE
  clear hX hE
  rw [HOX.out] at HX65
  go_enter Tryz.func53, Tryz.ntmps53
  go_wp2_with fail
  refine HRD.out.mono ?_
  rintro e w1 ⟨p1, c1, rfl, hB, hb1⟩
  have hon := Frm.one_any p1 L.length c1 L w1 (HE.out.below hb1 HE.out.lt) hB (by have := HLE.out; omega)
  unfold Frm.OneP at hon
  rw [HOX.out, HOE.out] at hon
  have HON := Lib.hid hon
  have HB1 := Lib.hid hb1
  clear hB hb1 hon HRD
  go_wp2_with fail
  refine HON.out.mono ?_
  rintro e w2 ⟨p2, c2, rfl, ho2, hb2⟩
  have HB2 := Lib.hid (HB1.out.trans (hb2.mono HB1.out.size))
  have HNW := Lib.hid (Rdr.new_any w2 p2 X.length c2 X (Cut.own_bs ho2) (by have := HX65.out; omega))
  clear ho2 hb2 HON HB1
  generalize (one L).2.1 = N at *
  go_wp2_with fail
  refine HNW.out.mono ?_
  rintro e w3 ⟨rb, rfl, hr3, hb3⟩
  have HB3 := Lib.hid (HB2.out.trans (hb3.mono HB2.out.size))
  have HSZ2 : Hid (w.heap.size ≤ w2.heap.size) := HB2.out.size
  have HR3 := Lib.hid hr3
  have HNM := Lib.hid (Rdr.num_any w3 hr3 8 (by omega))
  clear hr3 hb3 HNW HB2
  go_wp2_with fail
  refine HNM.out.mono ?_
  rintro e w4 ⟨rfl, hl4⟩
  have hb4 := HB3.out.trans (hl4.belowB HR3.out HSZ2.out)
  have HB4 := Lib.hid hb4
  have HR4 := Lib.hid hl4.there
  clear hl4 hb4 HNM HR3 HB3
  by_cases hE0 : E = 0
  · have he1 : (E != 0) = false := by rw [hE0]; rfl
    have HER := Lib.hid (Rdr.err_any w4 HR4.out (HE.out.below HB4.out HE.out.lt))
    by_cases h8 : 8 ≤ X.length
    · obtain ⟨q1, q2⟩ := num8_in h8
      rw [q2] at HER HR4
      rw [q1]
      have hlp := HLP.out
      rw [if_pos ⟨hE0, h8⟩] at hlp
      have HL2 := Lib.hid hlp
      have HRS := Lib.hid (rest8 h8)
      clear hE0 q1 q2 HLP hlp h8
      generalize Rdr.beN (X.take 8) = TN at *
      generalize X.drop 8 = RB at *
      go_wp2_with fail
      refine HER.out.mono ?_
      rintro e w5 ⟨rfl, hb5⟩
      have HR5 := Lib.hid (HR4.out.below hb5)
      have HB5 := Lib.hid (HB4.out.trans (hb5.mono HB4.out.size))
      have HLF := Lib.hid (Rdr.left_any w5 HR5.out)
      have hz : ((⟨X, 8, none⟩ : Rdr.RD).err != 0) = false := rfl
      clear hb5 HER HR4 HB4
      go_wp2_with fail
      refine HLF.out.mono ?_
      rintro e w6 ⟨rfl, hb6⟩
      have hby := Rdr.bytes_any w6 (HR5.out.below hb6) ((X.length - 8 : Nat) : Int) (by have := HX65.out; omega)
      unfold Rdr.BytesP at hby
      rw [HRS.out] at hby
      have HBY := Lib.hid hby
      have HR6 := Lib.hid (HR5.out.below hb6)
      have HB6 := Lib.hid (HB5.out.trans (hb6.mono HB5.out.size))
      clear hb6 hby HLF HR5 HB5
      go_wp2_with fail
      refine HBY.out.mono ?_
      rintro e w7 ⟨p7, c7, rfl, ho7, hl7⟩
      have HB7 := Lib.hid (HB6.out.trans (hl7.belowB HR6.out HSZ2.out))
      have HO7 := Lib.hid ho7
      clear ho7 hl7
      go_wp2_with fail
      go_ret2
      refine ⟨p7, c7, by rw [HL2.out]; rfl, ?_, HB7.out⟩
      rw [HL2.out]
      exact own_base HO7.out (fun k hk => Nat.le_trans HB6.out.size (own_ge HO7.out k hk))
    · have q2 := num8_out h8
      have hlp := HLP.out
      rw [if_neg (fun h => h8 h.2)] at hlp
      have HNO : Hid (∀ w', Below w.heap.size w w' → LoadP L w (.returned (.tuple #[.int .u64 0, .slice none 0 0])) w') := fun w' hb => ⟨none, 0, by rw [hlp]; rfl, by rw [hlp]; exact World.ownsRow_nil _ _ _ _, hb⟩
      rw [q2] at HER
      clear hE0 q2 hlp HLP h8
      generalize (Rdr.RD.new X).numV 8 = TN at *
      go_wp2_with fail
      refine HER.out.mono ?_
      rintro e w5 ⟨rfl, hb5⟩
      have HBX := Lib.hid (HB4.out.trans (hb5.mono HB4.out.size))
      skip
      go_wp2_with fail
      go_ret2
      exact HNO.out _ HBX.out
  · have he1 : (E != 0) = true := bne_iff_ne.2 hE0
    have hlp := HLP.out
    rw [if_neg (fun h => hE0 h.1)] at hlp
    have HNO : Hid (∀ w', Below w.heap.size w w' → LoadP L w (.returned (.tuple #[.int .u64 0, .slice none 0 0])) w') := fun w' hb => ⟨none, 0, by rw [hlp]; rfl, by rw [hlp]; exact World.ownsRow_nil _ _ _ _, hb⟩
    have HBX := Lib.hid HB4.out
    clear hE0 hlp HLP
    generalize (Rdr.RD.new X).numV 8 = TN at *
    skip
    go_wp2_with fail
    go_ret2
    exact HNO.out _ HBX.out
theorem xroomS {base db : Nat} {d : DD} (w : World) (h : DX base db d w) : Calls Tryz.prog 19 #[.pointer (some ⟨db, 0, none⟩)] w fun e w' => e = .returned (.int .i64 (d.room : Int)) ∧ w = w' := by
  obtain ⟨h0, vs, h1⟩ := h
  exact room_any w h1
theorem xdownS {base db : Nat} {d : DD} (w : World) (h : DX base db d w) : Calls Tryz.prog 21 #[.pointer (some ⟨db, 0, none⟩)] w fun e w' => e = .returned (.bool d.down) ∧ w = w' := by
  obtain ⟨h0, vs, h1⟩ := h
  exact down_any w h1
/-! ### what is asked of slots -/
theorem SX.cells {base sb db a b : Nat} {d : DD} {s : SS} {w : World} (h : SX base sb db a b d s w) : ∃ pb cb bx, Rd w base (.slice pb s.body.length cb) s.body ∧ w.heap[bx]? = some (.cells #[.pointer (some ⟨db, 0, none⟩)] 26 (0, 0)) ∧ w.heap[sb]? = some (.cells (slA db a b s pb cb bx) 76 (0, 0)) := by
  obtain ⟨pb, cb, bx, h1, h2, h3⟩ := h.row
  exact ⟨pb, cb, bx, h2, h3, h1⟩
set_option maxRecDepth 100000 in
theorem none_any {base sb db a b : Nat} {d : DD} {s : SS} (w : World) (h : SX base sb db a b d s w) :
    Calls Tryz.prog 35 #[.pointer (some ⟨sb, 0, none⟩)] w fun e w' => e = .returned (.bool false) ∧ w = w' := by
  obtain ⟨pb, cb, bx, _, _, h1⟩ := h.cells
  obtain ⟨c0, _⟩ := slA_cells h1
  clear h h1
  go_enter Tryz.func35, Tryz.ntmps35
  go_wp2_with fail
  go_ret
  exact ⟨rfl, rfl⟩
set_option maxRecDepth 100000 in
theorem turn_any {base sb db a b : Nat} {d : DD} {s : SS} (w : World) (h : SX base sb db a b d s w) :
    Calls Tryz.prog 16 #[.pointer (some ⟨sb, 0, none⟩)] w fun e w' => e = .returned (.int .u64 (s.turn : Int)) ∧ w = w' := by
  have HN := Lib.hid (none_any w h)
  obtain ⟨pb, cb, bx, _, _, h1⟩ := h.cells
  obtain ⟨_, _, _, _, c4, _⟩ := slA_cells h1
  clear h h1
  go_enter Tryz.func16, Tryz.ntmps16
  go_wp2_with fail
  refine HN.out.mono ?_
  rintro e w' ⟨rfl, rfl⟩
  go_wp2_with fail
  go_ret
  exact ⟨rfl, rfl⟩
set_option maxRecDepth 100000 in
theorem file_any {base sb db a b : Nat} {d : DD} {s : SS} (w : World) (h : SX base sb db a b d s w) :
    Calls Tryz.prog 13 #[.pointer (some ⟨sb, 0, none⟩)] w fun e w' => e = .returned (.int .i64 s.now) ∧ w = w' := by
  have HN := Lib.hid (none_any w h)
  obtain ⟨pb, cb, bx, _, _, h1⟩ := h.cells
  obtain ⟨_, _, _, c3, _⟩ := slA_cells h1
  clear h h1
  go_enter Tryz.func13, Tryz.ntmps13
  go_wp2_with fail
  refine HN.out.mono ?_
  rintro e w' ⟨rfl, rfl⟩
  go_wp2_with fail
  go_ret
  exact ⟨rfl, rfl⟩
def GetP (s : SS) (w : World) (e : Ending) (w' : World) : Prop := ∃ p c, e = .returned (.tuple #[.slice p s.body.length c, .bool (decide (0 < s.turn))]) ∧ w'.ownsRow w.heap.size 5 1 (.slice p s.body.length c) s.body.length (bytesV s.body) ∧ Below w.heap.size w w'
set_option maxRecDepth 100000 in
set_option maxHeartbeats 1600000 in
theorem get_any {base sb db a b : Nat} {d : DD} {s : SS} (w : World) (h : SX base sb db a b d s w) (h0 : s.turn = 0 → s.body = []) (hl : s.body.length ≤ 140737488355328) :
    Calls Tryz.prog 15 #[.pointer (some ⟨sb, 0, none⟩)] w (GetP s w) := by
  have HN := Lib.hid (none_any w h)
  obtain ⟨pb, cb, bx, hrd, _, h1⟩ := h.cells
  obtain ⟨_, _, _, _, c4, c5, _⟩ := slA_cells h1
  obtain ⟨p', c', e1, hbs⟩ := hrd.bs
  cases e1
  by_cases ht : s.turn = 0
  · have hb0 := h0 ht
    have HG : Hid (GetP s w (.returned (.tuple #[.slice none 0 0, .bool false])) w) := ⟨none, 0, by rw [hb0, ht]; rfl, by rw [hb0]; exact World.ownsRow_nil _ _ _ _, Below.refl _ _⟩
    have hq : ((s.turn : Int) == 0) = true := by rw [ht]; rfl
    clear h h1 hb0 hbs hrd c5 h0 ht
    generalize s.turn = TT at *
    go_enter Tryz.func15, Tryz.ntmps15
    go_wp2_with fail
    refine HN.out.mono ?_
    rintro e w' ⟨rfl, rfl⟩
    go_wp2_with fail
    go_ret2
    exact HG.out
  · have hq : ((s.turn : Int) == 0) = false := beq_eq_false_iff_ne.2 (by omega)
    have hd : decide (0 < s.turn) = true := decide_eq_true (by omega)
    have HG : Hid (∀ p c w', w'.ownsRow w.heap.size 5 1 (.slice p s.body.length c) s.body.length (bytesV s.body) → Below w.heap.size w w' → GetP s w (.returned (.tuple #[.slice p s.body.length c, .bool true])) w') := fun p c w' ho hb => ⟨p, c, by rw [hd], ho, hb⟩
    clear h h1 hrd h0 ht hd
    generalize s.turn = TT at *
    generalize s.body = B at *
    generalize hm : B.length = m at *
    clear hm
    have hle := hbs.le
    have hmax := hbs.max
    have HBS := Lib.hid hbs
    clear hbs
    go_enter Tryz.func15, Tryz.ntmps15
    go_wp2_with fail
    refine HN.out.mono ?_
    rintro e w' ⟨rfl, rfl⟩
    go_wp2_with (refine wpList_append_nx rfl _ _ 22 rfl (base := w.heap.size) Tryz.underlying22 info8 rfl (by omega) rfl (World.ownsRow_nil _ _ _ _) rfl HBS.out (bytesV_one _) ⟨by omega, by omega⟩ (Nat.le_refl _) ?_)
    intro p9 c9 w9 ho9 hg9 _ _
    have HX := Lib.hid (HG.out p9 c9 w9 (by simpa using ho9) ((Below.refl _ _).grown hg9 (Nat.le_refl _) (fun k hk => by simp [Value.ownBlock] at hk)))
    clear ho9 hg9
    go_wp2_with fail
    go_ret2
    exact HX.out
end Go.Proofs.YtgmahahhkaofbaaGreatDoor.Slt
