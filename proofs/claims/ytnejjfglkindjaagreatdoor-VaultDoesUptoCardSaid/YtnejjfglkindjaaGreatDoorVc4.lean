/- PARTS, JOINED: THE WALKS OF THE WRITER, on: Ids, Num. Conditions: as in the first part. LAYER 9: the document's example; numbers. Conditions: the laid cell of errors.errorType. CODECS: what is written by a writer, what a reader reads of it: plain parts, and both as they go on. Conditions: sizes that fit. THE PLAIN LAWS OF CRC-32C: a sum is linear in bits; a move by zero bytes is a linear map without a kernel; sums of two parts join; a burst of up to 32 bits is seen. No program is named. Conditions: none. THE WALKS OF CRC: what each function of the package crc, and of its reference, computes. Conditions: slices read as lists of bytes. FRAMES: fits, Size. Conditions: a length that an int holds. FRAMES: Encode. Conditions: at most 4000 bytes. FRAMES: the reference: value. Conditions: at most four bytes. THE WALKS OF THE REFERENCE's WRITER (a plain value). Conditions: sizes that fit. THE WALKS OF THE REFERENCE's WRITER, on: Number, Num, Ids. Conditions: sizes that fit. FRAMES: the reference: Bytes. Conditions: at most 70000 bytes. FRAMES: the reference: Encode. Conditions: at most 4000 bytes. SLICES OF BYTES, CUT: b[k:k+m], b[:m], b[k:]. Conditions: none. A REGION THAT DRAWS ITS ORDER, WALKED IN ONE ORDER, WHERE A CALL MAY TELL MORE OF THE WORLD THAN WAS KNOWN AT THE START (the condition may grow behind each operation that runs in its turn). No program is named. Conditions: none. FRAMES: the reference: One. Conditions: at most 2^40 bytes. FRAMES: One. Conditions: the laid cell of errors.errorType; at most 2^40 bytes. A [][]byte THAT THE CALL OWNS, each element a slice of bytes that it does not overwrite. Conditions: none. FRAMES: all frames one behind the other, plain; the reference's Scan. Conditions: at most 4000 bytes. -/
import Derived.Test.YtnejjfglkindjaaGreatDoorVc1
import Derived.Test.YtnejjfglkindjaaGreatDoorVc2
import Derived.Test.YtnejjfglkindjaaGreatDoorVc3
import Derived.Test.YtnejjfglkindjaaGreatDoorProg
import Derived.Deep.RegionHeld3
import Derived.Deep.RegionWith
import Derived.Test.YtnejjfglkindjaaGreatDoorChecked
namespace Go.Proofs.YtnejjfglkindjaaGreatDoor.Wr
open Go.RowKit Go.Mir Go.Mir.Parts
theorem infoS : (Tryz.prog.info? 22).map (fun i => (i.zero, i.size, i.bytes)) = some (some (.slice none 0 0), 1, 24) := by kernel_rfl
def nb (n j : Nat) : UInt8 := UInt8.ofNat (n / 2 ^ (8 * (7 - j)))
def numArr (n k : Nat) : Array Value := ((List.range 8).map fun j => Value.int .u8 (if 8 ≤ j + k then ((nb n j).toNat : Int) else 0)).toArray
theorem numArr_size (n k : Nat) : (numArr n k).size = 8 := by simp [numArr]
theorem numArr_get (n k j : Nat) (hj : j < 8) : (numArr n k)[j]? = some (Value.int .u8 (if 8 ≤ j + k then ((nb n j).toNat : Int) else 0)) := by simp [numArr, hj]
theorem nb_int (n k : Nat) (hk : k < 8) : ((n : Int) / 2 ^ (8 * k)) % 256 = ((nb n (7 - k)).toNat : Int) := by
 have e : ((n : Int) / 2 ^ (8 * k)) = ((n / 2 ^ (8 * k) : Nat) : Int) := by rw [Int.natCast_ediv, Int.natCast_pow]; rfl
 rw [e, nb, UInt8.toNat_ofNat', show 7 - (7 - k) = k from by omega]
 omega
theorem numArr_set (n k : Nat) (hk : k < 8) : (numArr n k).setIfInBounds (7 - k) (.int .u8 ((nb n (7 - k)).toNat : Int)) = numArr n (k + 1) := by
 apply Array.ext_getElem?
 intro j
 by_cases hj : j < 8
 ·rw [Array.getElem?_setIfInBounds, numArr_get _ _ _ hj, numArr_get _ _ _ hj, numArr_size]
  by_cases e : 7 - k = j
  ·subst e; simp [show 7 - k < 8 by omega, show 8 ≤ 7 - k + (k + 1) by omega]
  ·rw [if_neg e]
   have : (8 ≤ j + k) ↔ (8 ≤ j + (k + 1)) := by omega
   simp [this]
 ·rw [Array.getElem?_eq_none, Array.getElem?_eq_none] <;> simp [numArr_size] <;> omega
def Z8 : Array Value := Array.replicate 8 (.int .u8 0)
theorem numArr_0 (n : Nat) : numArr n 0 = Z8 := by
 apply Array.ext_getElem?
 intro j
 by_cases hj : j < 8
 ·rw [numArr_get _ _ _ hj, if_neg (by omega)]; simp [Z8, hj]
 ·rw [Array.getElem?_eq_none, Array.getElem?_eq_none] <;> simp [numArr_size, Z8] <;> omega
def be (n width : Nat) : List UInt8 := (List.range width).map fun i => nb n (8 - width + i)
theorem be_length (n width : Nat) : (be n width).length = width := by simp [be]
def numS (room : Nat) (l : List UInt8) (bad : Int) (n : Nat) (width : Int) : List UInt8 × Int :=
 if 1 ≤ width ∧ width ≤ 8 ∧ (width = 8 ∨ n < 2 ^ (8 * width.toNat)) then putS room l bad true [be n width.toNat] else putS room l bad false [[]]
theorem putS_false (room : Nat) (l : List UInt8) (bad : Int) (ps qs : List (List UInt8)) : putS room l bad false ps = putS room l bad false qs := by simp [putS]
theorem num_bs {w' : World} {b n k : Nat} {t : TypeId} (hrow : w'.heap[b]? = some (.cells (numArr n 8) t (0, 0))) (hk : k ≤ 8) : Bs w' (some ⟨b, 8 - k, none⟩) k k (be n k) :=
 ⟨by rw [bytesV_length, be_length, Nat.mul_one], Nat.le_refl _, by omega, fun h => (by cases h), fun a ha j u hu => by
  obtain rfl := Option.some.inj ha
  have hj : j < k := by
   have := (List.getElem?_eq_some_iff.1 hu).1
   rwa [bytesV_length, be_length] at this
  rw [add_none, cell_of_row _ _ _ _ _ _ hrow, numArr_get _ _ _ (by omega), if_pos (by omega), ← hu]
  rw [bytesV_get _ _ (by rw [be_length]; exact hj)]
  simp [be]⟩
set_option maxRecDepth 100000 in
set_option maxHeartbeats 400000 in
theorem num_any (n : Nat) (width : Int) (wb : Nat) (v : Value) (room : Nat) (l : List UInt8) (bad : Int) (w : World) (h : WAt w wb v room l bad) (_hn : n < 18446744073709551616) (hw1 : -9223372036854775808 ≤ width) (hw2 : width ≤ 9223372036854775807) (hl : l.length ≤ 70368744177664) :
  Calls Tryz.prog 81 #[.pointer (some ⟨wb, 0, none⟩), .int .u64 (n : Int), .int .i64 width] w fun e w' => e = .returned (.tuple #[]) ∧ Left wb v room (numS room l bad n width) w w' := by
 have hz : ∀ w, (zeroValue 206).run Tryz.prog w = .ok (.agg Z8) w := fun w => by kernel_rfl
 have HW := Lib.hid h
 have hlt0 := Lib.hid h.lt
 clear h
 go_enter Tryz.func81, Tryz.ntmps81
 go_wp2
 go_loopw [10] (fun j wr => ∃ k : Nat, k ≤ 8 ∧ j = .int .i64 k ∧ wr.heap.size = w.heap.size + 1 ∧ wr.heap[w.heap.size]? = some (.cells (numArr n k) 206 (0, 0)) ∧ Below w.heap.size w wr) (fun j _ => 8 - (intOf j).toNat)
 case atStart => exact ⟨0, by omega, rfl, by simp, by rw [numArr_0]; exact heap_alloc_last _ _, Below.allocs _ _⟩
 case round =>
  obtain ⟨k, hk, rfl, hsz, hb0, hbl⟩ := hrel
  by_cases hlt : k < 8
  ·have hd : decide ((k:Int) < 8) = true := by simp; omega
   have hc : wr.cell? ⟨w.heap.size, 7 - k, none⟩ = some (.int .u8 0) := by
    rw [cell_of_row _ _ _ _ _ _ hb0, numArr_get _ _ _ (by omega), if_neg (by omega)]
   have hf := frozen_of_row _ _ (7 - k) _ _ hb0
   have hv := nb_int n k hlt
   go_wp2
   go_roundw
   case rel =>
    exact ⟨k + 1, by omega, by go_num, by simp [World.setCell, hsz], by rw [heap_setCell_same _ _ _ _ _ _ hb0, numArr_set n k hlt], hbl.setCell (by simp) _⟩
   case measure => simp [intOf]; omega
  ·have hd : decide ((k:Int) < 8) = false := by simp; omega
   have hk8 : k = 8 := by omega
   have hrow : wr.heap[w.heap.size]? = some (.cells (numArr n 8) 206 (0, 0)) := by rw [← hk8]; exact hb0
   have HR := Lib.hid hrow
   have HB := Lib.hid hbl
   have HW' : Hid (WAt wr wb v room l bad) := HW.out.touch (Turns.of_below (S := fun _ => False) hbl) (fun _ _ h => h)
   have HP : Hid (∀ m : Nat, m ≤ 8 → ∀ b' t, b' = wr.heap.size → ∀ w', Turns (foot wb v) (wr.alloc (.cells #[.slice (some ⟨w.heap.size, 8 - m, none⟩) m m] t)) w' → Pts w' (some ⟨b', 0, none⟩) 1 1 [be n m]) := by
    intro m hm b' t hb'
    refine stable1 (S := foot wb v) (fun w' ht => ?_) (fun i hi => by have := hlt0.out i hi; omega) t hb'
    exact num_bs (ht.keep hrow (fun hf => by have := hlt0.out _ hf; omega)) hm
   clear hb0 hbl hrow
   have hfin : Hid (∀ r o w1, Left wb v room r (wr.alloc o) w1 → Left wb v room r w w1) := by
    intro r o w1 h1
    obtain ⟨v', h1, h2, h3⟩ := h1.alloc
    exact ⟨v', h1, (Turns.of_below HB.out).trans h2 (fun _ _ h => h), fun i hi hlt => h3 i hi (by omega)⟩
   by_cases hw : 1 ≤ width ∧ width ≤ 8
   ·obtain ⟨m, rfl⟩ : ∃ m : Nat, width = (m : Int) := ⟨width.toNat, by omega⟩
    have hsl : ∀ wx, (Instr.sliceAt 206 (.pointer (some ⟨w.heap.size, 0, none⟩)) (some (.int .i64 (8 - (m : Int)))) none none).run Tryz.prog wx = .ok (.slice (some ⟨w.heap.size, 8 - m, none⟩) m m) wx := fun wx => by
     have h1 := run_sliceAt_from (P := Tryz.prog) wx 206 5 8 1 Tryz.underlying206 (by kernel_rfl) ⟨w.heap.size, 0, none⟩ .i64 (8 - (m : Int)) (8 - m) (by omega) (by omega)
     rw [h1, add_none, show 0 + (8 - m) * 1 = 8 - m by omega, show 8 - (8 - m) = m by omega]
    have htot : total [be n m] ≤ 70368744177664 := by simp [total, be_length]; omega
    have HTO := Lib.hid htot
    clear htot
    have hm1 : (1 : Int) ≤ (m : Int) := by omega
    have hm8 : (m : Int) ≤ 8 := by omega
    by_cases hm : m = 8
    ·have he : ((m : Int) == 8) = true := by rw [beq_iff_eq]; omega
     have hnum : Hid (numS room l bad n (m : Int) = putS room l bad true [be n m]) := by
      show _ = _
      rw [numS, if_pos ⟨hw.1, hw.2, .inl (by rw [hm]; rfl)⟩, Int.toNat_natCast]
     clear hm
     go_wp2_with (go_at_call 118; refine (put_any _ _ _ [be n m] wb v room l bad true _ (HW'.out.alloc _) (HP.out m (by omega) _ _ (by omega)) HTO.out hl).mono ?_; rintro e w1 ⟨rfl, hl1⟩)
     go_end0
     exact ⟨rfl, by rw [hnum.out]; exact hfin.out _ _ _ hl1⟩
    ·have he : ((m : Int) == 8) = false := by rw [beq_eq_false_iff_ne]; omega
     have hpw : ((n : Int) / 2 ^ (8 * m)) = ((n / 2 ^ (8 * m) : Nat) : Int) := by rw [Int.natCast_ediv, Int.natCast_pow]; rfl
     by_cases hnm : n < 2 ^ (8 * m)
     ·have hs0 : ((n : Int) / 2 ^ (8 * m) == 0) = true := by rw [hpw, Nat.div_eq_of_lt hnm]; rfl
      have hnum : Hid (numS room l bad n (m : Int) = putS room l bad true [be n m]) := by
       show _ = _
       rw [numS, if_pos ⟨hw.1, hw.2, .inr (by rw [Int.toNat_natCast]; exact hnm)⟩, Int.toNat_natCast]
      clear hm hpw hnm
      go_wp2_with (go_at_call 118; refine (put_any _ _ _ [be n m] wb v room l bad true _ (HW'.out.alloc _) (HP.out m (by omega) _ _ (by omega)) HTO.out hl).mono ?_; rintro e w1 ⟨rfl, hl1⟩)
      go_end0
      exact ⟨rfl, by rw [hnum.out]; exact hfin.out _ _ _ hl1⟩
     ·have hs0 : ((n : Int) / 2 ^ (8 * m) == 0) = false := by
       rw [hpw, beq_eq_false_iff_ne]
       have : 0 < n / 2 ^ (8 * m) := Nat.div_pos (by omega) (Nat.two_pow_pos _)
       omega
      have hnum : Hid (numS room l bad n (m : Int) = putS room l bad false [be n m]) := by
       show _ = _
       rw [numS, if_neg (fun h => by rcases h.2.2 with h | h; omega; rw [Int.toNat_natCast] at h; exact hnm h)]
       exact putS_false _ _ _ _ _
      clear hm hpw hnm
      go_wp2_with (go_at_call 118; refine (put_any _ _ _ [be n m] wb v room l bad false _ (HW'.out.alloc _) (HP.out m (by omega) _ _ (by omega)) HTO.out hl).mono ?_; rintro e w1 ⟨rfl, hl1⟩)
      go_end0
      exact ⟨rfl, by rw [hnum.out]; exact hfin.out _ _ _ hl1⟩
   ·have hsl : ∀ wx, (Instr.sliceAt 206 (.pointer (some ⟨w.heap.size, 0, none⟩)) (some (.int .i64 0)) none none).run Tryz.prog wx = .ok (.slice (some ⟨w.heap.size, 0, none⟩) 8 8) wx := fun wx => by
     have h1 := run_sliceAt_from (P := Tryz.prog) wx 206 5 8 1 Tryz.underlying206 (by kernel_rfl) ⟨w.heap.size, 0, none⟩ .i64 0 0 rfl (by omega)
     rw [h1, add_none]
    have hnum : Hid (numS room l bad n width = putS room l bad false [be n 8]) := by
     show _ = _
     rw [numS, if_neg (fun h => hw ⟨h.1, h.2.1⟩)]
     exact putS_false _ _ _ _ _
    have HP0 : Hid (∀ b' t, b' = wr.heap.size → ∀ w', Turns (foot wb v) (wr.alloc (.cells #[.slice (some ⟨w.heap.size, 0, none⟩) 8 8] t)) w' → Pts w' (some ⟨b', 0, none⟩) 1 1 [be n 8]) := HP.out 8 (by omega)
    have HTO : Hid (total [be n 8] ≤ 70368744177664) := by show _ ≤ _; simp [total, be_length]
    by_cases hw0 : width < 1
    ·go_wp2_with (go_at_call 118; refine (put_any _ _ _ [be n 8] wb v room l bad false _ (HW'.out.alloc _) (HP0.out _ _ (by omega)) HTO.out hl).mono ?_; rintro e w1 ⟨rfl, hl1⟩)
     go_end0
     exact ⟨rfl, by rw [hnum.out]; exact hfin.out _ _ _ hl1⟩
    ·have hw9 : 8 < width := by omega
     have hd9 : decide (width ≤ 8) = false := by simp; omega
     go_wp2_with (go_at_call 118; refine (put_any _ _ _ [be n 8] wb v room l bad false _ (HW'.out.alloc _) (HP0.out _ _ (by omega)) HTO.out hl).mono ?_; rintro e w1 ⟨rfl, hl1⟩)
     go_end0
     exact ⟨rfl, by rw [hnum.out]; exact hfin.out _ _ _ hl1⟩
end Go.Proofs.YtnejjfglkindjaaGreatDoor.Wr
namespace Go.Proofs.YtnejjfglkindjaaGreatDoor.Rdr
open Go.RowKit Go.Mir Go.Mir.Parts
theorem EType.left {w w' : World} {base rb : Nat} {s s' : RD} (h : EType w) (hr : RAt w base rb s) (hl : LeftR base rb s' w w') (hb : 0 < base) : EType w' :=
 h.below (hl.belowB hr (Nat.le_refl _)) hb
def numB (n : Nat) : Nat → List UInt8
 | 0 => []
 | k + 1 => UInt8.ofNat (n / 256 ^ k) :: numB n k
theorem numB_len (n k : Nat) : (numB n k).length = k := by induction k with
 | zero => rfl
 | succ k ih => simp [numB, ih]
theorem beN_fold (l : List UInt8) : ∀ a, l.foldl (fun a b => 256 * a + b.toNat) a = a * 256 ^ l.length + beN l := by
 induction l with
 | nil => intro a; simp [beN]
 | cons b l ih =>
  intro a
  show List.foldl _ (256 * a + b.toNat) l = _
  have h2 : beN (b :: l) = List.foldl (fun a b => 256 * a + b.toNat) (256 * 0 + b.toNat) l := rfl
  rw [h2, ih, ih, List.length_cons, Nat.pow_succ, Nat.add_mul, Nat.mul_zero, Nat.zero_add, Nat.mul_comm 256 a, Nat.mul_assoc, Nat.mul_comm 256 (256 ^ l.length), Nat.add_assoc]
theorem beN_numB (n k : Nat) : beN (numB n k) = n % 256 ^ k := by
 induction k with
 | zero => simp [numB, beN, Nat.mod_one]
 | succ k ih =>
  show List.foldl _ (256 * 0 + (UInt8.ofNat (n / 256 ^ k)).toNat) (numB n k) = _
  rw [beN_fold, numB_len, ih, Nat.mul_zero, Nat.zero_add, UInt8.toNat_ofNat']
  rw [show (2 : Nat) ^ 8 = 256 from rfl, Nat.pow_succ, Nat.mod_mul, Nat.mul_comm (n / 256 ^ k % 256), Nat.add_comm]
theorem numB_drop (n : Nat) : ∀ k j, j ≤ k → (numB n k).drop j = numB n (k - j) := by
 intro k
 induction k with
 | zero => intro j hj; simp [numB]
 | succ k ih =>
  intro j hj
  cases j with
  | zero => rfl
  | succ j => rw [show k + 1 - (j + 1) = k - j by omega, ← ih j (by omega)]; rfl
theorem numB_at (n k j : Nat) (h : j < k) : (numB n k)[j]? = some (UInt8.ofNat (n / 256 ^ (k - 1 - j))) := by
 have h1 := numB_drop n k j (by omega)
 have h2 : ((numB n k).drop j)[0]? = (numB n k)[j]? := by rw [List.getElem?_drop, Nat.add_zero]
 rw [← h2, h1, show k - j = (k - 1 - j) + 1 by omega]
 rfl
def NumBP (l : List UInt8) (w : World) (e : Ending) (w' : World) : Prop := ∃ p c, e = .returned (.slice p l.length c) ∧ w'.ownsRow w.heap.size 5 1 (.slice p l.length c) l.length (bytesV l) ∧ Below w.heap.size w w'
set_option maxRecDepth 100000 in
theorem number_any (w : World) (n k : Nat) (_hn : n < 18446744073709551616) (hk : k ≤ 8) :
  Calls Tryz.prog 22 #[.int .u64 (n : Int), .int .i64 (k : Int)] w (NumBP (numB n k) w) := by
 have HLN := Lib.hid (numB_len n k)
 have hw1 : IntKind.i64.wrap ((k : Int) - 1) = (k : Int) - 1 := IntWalk.i64_in _ (by omega)
 go_enter Tryz.func22, Tryz.ntmps22
 go_wp2_with fail
 go_loopw [5, 6] (fun v i wr => ∃ (j : Nat) (p : Option Addr) (c : Nat), j ≤ k ∧ v = .slice p j c ∧ i = .int .i64 ((k : Int) - 1 - (j : Int)) ∧ wr.ownsRow w.heap.size 5 1 (.slice p j c) j (bytesV ((numB n k).take j)) ∧ Below w.heap.size w wr) (fun v _ _ => match v with | .slice _ j _ => k - j | _ => 0)
 case atStart => exact ⟨0, none, 0, by omega, rfl, by simp, ⟨rfl, .inl ⟨rfl, rfl⟩⟩, Below.refl _ _⟩
 case round =>
  obtain ⟨j, p, c, hj, rfl, rfl, hown, hbw⟩ := hrel
  have HOW := Lib.hid hown
  have HBW := Lib.hid hbw
  clear hown hbw
  by_cases hlt : j < k
  ·have hd : decide ((0 : Int) ≤ (k : Int) - 1 - (j : Int)) = true := decide_eq_true (by omega)
   obtain ⟨i, hi⟩ : ∃ i : Nat, (i : Int) = (k : Int) - 1 - (j : Int) := ⟨k - 1 - j, by omega⟩
   rw [← hi] at hd ⊢
   have hi7 : i ≤ 7 := by omega
   have HTK := Lib.hid (numB_at n k j hlt)
   have HYV : Hid (((n : Int) / 2 ^ (8 * (k - 1 - j)) % 256) = ((UInt8.ofNat (n / 256 ^ (k - 1 - j))).toNat : Int)) := by
    show _ = _
    rw [UInt8.toNat_ofNat', show (2 : Nat) ^ 8 = 256 from rfl, show (256 : Nat) = 2 ^ 8 from rfl, ← Nat.pow_mul]
    simp
   have HTS : Hid ((numB n k).take (j + 1) = (numB n k).take j ++ [UInt8.ofNat (n / 256 ^ (k - 1 - j))]) := by
    have := take_snoc (numB n k) j (by rw [HLN.out]; exact hlt)
    rw [List.getElem?_eq_getElem (by rw [HLN.out]; exact hlt)] at HTK
    show _ = _
    rw [this, Option.some.inj HTK.out]
   generalize UInt8.ofNat (n / 256 ^ (k - 1 - j)) = y at *
   have HSL : Hid (Bs (wr.alloc (.cells #[.int .u8 ((n : Int) / 2 ^ (8 * (k - 1 - j)) % 256)] 5)) (some ⟨wr.heap.size, 0, none⟩) 1 1 [y]) := Bs.made wr [y] _ _ (0, 0) 1 (by rw [HYV.out]; rfl) rfl (by omega)
   have HO5 : Hid ((wr.alloc (.cells #[.int .u8 ((n : Int) / 2 ^ (8 * (k - 1 - j)) % 256)] 5)).ownsRow w.heap.size 5 1 (.slice p j c) j (bytesV ((numB n k).take j))) := HOW.out.alloc _
   have HSZ : Hid (w.heap.size ≤ (wr.alloc (.cells #[.int .u8 ((n : Int) / 2 ^ (8 * (k - 1 - j)) % 256)] 5)).heap.size) := by have := HBW.out.size; show _ ≤ _; simp; omega
   go_wp2_with (at_builtin; refine wpList_append_nx rfl _ _ 22 rfl (base := w.heap.size) Tryz.underlying22 info8 rfl (by omega) rfl HO5.out rfl HSL.out (bytesV_one _) (by omega) HSZ.out ?_)
   intro p' c' w5 hown hg hnx hne
   have HO6 := Lib.hid hown
   have hb5 : Below w.heap.size w w5 := (HBW.out.alloc HBW.out.size _).grown hg HSZ.out (fun i hi => (HO5.out.lt i hi).1)
   have HB5 := Lib.hid hb5
   have hwi : IntKind.i64.wrap ((i : Int) - 1) = (i : Int) - 1 := IntWalk.i64_in _ (by omega)
   clear hown hg hnx hne hb5
   go_wp2_with fail
   go_roundw
   case rel => exact ⟨j + 1, p', c', by omega, rfl, by congr 1; omega, by have := HO6.out; rw [HTS.out, bytesV_append]; exact this, HB5.out⟩
   case measure => simp; omega
  ·obtain rfl : j = k := by omega
   have hd : decide ((0 : Int) ≤ (j : Int) - 1 - (j : Int)) = false := decide_eq_false (by omega)
   have hfull : (numB n j).take j = numB n j := List.take_of_length_le (by rw [HLN.out]; omega)
   rw [hfull] at HOW
   have HF : Hid (NumBP (numB n j) w (.returned (.slice p j c)) wr) := ⟨p, c, by rw [HLN.out], by rw [HLN.out]; exact HOW.out, HBW.out⟩
   go_wp2_with fail
   go_ret
   exact HF.out
end Go.Proofs.YtnejjfglkindjaaGreatDoor.Rdr
namespace Go.Proofs.YtnejjfglkindjaaGreatDoor.Cod
open Go.RowKit Go.Mir Go.Mir.Parts Wr
theorem take_in {l : List UInt8} {pos m : Nat} (h : pos + m ≤ l.length) : Rdr.RD.takeB ⟨l, pos, none⟩ (m : Int) true = (l.drop pos).take m ∧ Rdr.RD.takeS ⟨l, pos, none⟩ (m : Int) true = ⟨l, pos + m, none⟩ := by
 constructor
 ·unfold Rdr.RD.takeB
  rw [if_pos ⟨rfl, rfl, by omega, by dsimp only; omega⟩]
  rfl
 ·unfold Rdr.RD.takeS
  rw [if_neg (by simp), if_neg (by rintro (h | h); (· cases h); (· omega)), if_neg (by dsimp only; omega)]
  rfl
def Inv2 (R : Nat) (E l : List UInt8) (bad : Int) : Prop := l.length ≤ R ∧ ((bad = 0 ∧ l = E) ∨ (bad = 3 ∧ R < E.length))
theorem Inv2.nil (R : Nat) : Inv2 R [] [] 0 := ⟨by simp, .inl ⟨rfl, rfl⟩⟩
theorem Inv2.put {R : Nat} {E l : List UInt8} {bad : Int} (h : Inv2 R E l bad) (ps : List (List UInt8)) : Inv2 R (E ++ ps.flatten) (putS R l bad true ps).1 (putS R l bad true ps).2 := by
 obtain ⟨h1, h2⟩ := h
 unfold putS
 rw [← total_flatten]
 rcases h2 with ⟨rfl, rfl⟩ | ⟨rfl, h2⟩
 ·rw [if_pos rfl, if_pos rfl]
  by_cases ht : ps.flatten.length ≤ R - l.length
  ·rw [if_pos ht]
   exact ⟨by rw [List.length_append]; omega, .inl ⟨rfl, rfl⟩⟩
  ·rw [if_neg ht]
   exact ⟨h1, .inr ⟨rfl, by rw [List.length_append]; omega⟩⟩
 ·rw [if_neg (by decide)]
  exact ⟨h1, .inr ⟨rfl, by rw [List.length_append]; omega⟩⟩
theorem Inv2.one {R : Nat} {E l : List UInt8} {bad : Int} (h : Inv2 R E l bad) (b : List UInt8) : Inv2 R (E ++ b) (putS R l bad true [b]).1 (putS R l bad true [b]).2 := by
 have := h.put [b]
 simpa using this
theorem Inv2.num {R : Nat} {E l : List UInt8} {bad : Int} (h : Inv2 R E l bad) (n k : Nat) (h1 : 1 ≤ k) (h8 : k ≤ 8) (hn : n < 2 ^ (8 * k)) : Inv2 R (E ++ be n k) (numS R l bad n (k : Int)).1 (numS R l bad n (k : Int)).2 := by
 unfold numS
 rw [if_pos ⟨by omega, by omega, .inr (by simpa using hn)⟩]
 exact h.one _
theorem be_numB (n k : Nat) (hk : k ≤ 8) : be n k = Rdr.numB n k := by
 apply List.ext_getElem?
 intro j
 by_cases hj : j < k
 ·rw [Rdr.numB_at n k j hj]
  unfold be nb
  rw [List.getElem?_map, List.getElem?_range hj]
  simp only [Option.map_some]
  rw [show 7 - (8 - k + j) = k - 1 - j by omega, Nat.pow_mul]
 ·rw [List.getElem?_eq_none (by rw [be_length]; omega), List.getElem?_eq_none (by rw [Rdr.numB_len]; omega)]
theorem numB_beN : ∀ (l : List UInt8), Rdr.numB (Rdr.beN l) l.length = l
 | [] => rfl
 | b :: l => by
  have h1 : Rdr.beN (b :: l) = b.toNat * 256 ^ l.length + Rdr.beN l := by
   show List.foldl _ (256 * 0 + b.toNat) l = _
   rw [Rdr.beN_fold]; simp
  have h2 := Rdr.beN_lt_pow l
  have h3 : Rdr.beN (b :: l) / 256 ^ l.length = b.toNat := by
   rw [h1, Nat.add_comm, Nat.mul_comm, Nat.add_mul_div_left _ _ (Nat.pow_pos (by omega)), Nat.div_eq_of_lt h2, Nat.zero_add]
  have h4 : ∀ (k n m : Nat), m < 256 ^ k → Rdr.numB (n * 256 ^ k + m) k = Rdr.numB m k := fun k n m hm => by
   apply List.ext_getElem?
   intro j
   by_cases hj : j < k
   ·rw [Rdr.numB_at _ _ _ hj, Rdr.numB_at _ _ _ hj]
    congr 1
    have e : 256 ^ k = 256 ^ (k - 1 - j) * 256 ^ (j + 1) := by rw [← Nat.pow_add]; congr 1; omega
    have e2 : (n * 256 ^ k + m) / 256 ^ (k - 1 - j) = n * 256 ^ (j + 1) + m / 256 ^ (k - 1 - j) := by
     rw [e, show n * (256 ^ (k - 1 - j) * 256 ^ (j + 1)) = 256 ^ (k - 1 - j) * (n * 256 ^ (j + 1)) by rw [Nat.mul_left_comm], Nat.add_comm, Nat.add_mul_div_left _ _ (Nat.pow_pos (by omega)), Nat.add_comm]
    rw [e2]
    apply UInt8.toNat_inj.1
    rw [UInt8.toNat_ofNat', UInt8.toNat_ofNat', Nat.pow_succ, ← Nat.mul_assoc]
    omega
   ·rw [List.getElem?_eq_none (by rw [Rdr.numB_len]; omega), List.getElem?_eq_none (by rw [Rdr.numB_len]; omega)]
  show UInt8.ofNat (Rdr.beN (b :: l) / 256 ^ l.length) :: Rdr.numB (Rdr.beN (b :: l)) l.length = b :: l
  rw [h3, h1, h4 _ _ _ h2, numB_beN l]
  simp
theorem be_beN (l : List UInt8) (k : Nat) (hl : l.length = k) (hk : k ≤ 8) : be (Rdr.beN l) k = l := by
 rw [be_numB _ _ hk]
 subst hl
 exact numB_beN l
theorem beN_be (n k : Nat) (hk : k ≤ 8) (hn : n < 256 ^ k) : Rdr.beN (be n k) = n := by
 rw [be_numB _ _ hk, Rdr.beN_numB, Nat.mod_eq_of_lt hn]
structure WS (w : World) (wb : Nat) (R : Nat) (E : List UInt8) (x : World) : Prop where
 all : ∃ v l bad, WAt x wb v R l bad ∧ Inv2 R E l bad ∧ (∀ i, foot wb v i → w.heap.size ≤ i) ∧ Below w.heap.size w x
theorem WS.low {w x : World} {wb R : Nat} {E : List UInt8} (h : WS w wb R E x) : Below w.heap.size w x := by
 obtain ⟨_, _, _, _, _, _, h4⟩ := h.all
 exact h4
theorem WS.step {w x y : World} {wb R : Nat} {v : Value} {r : List UInt8 × Int} {E' : List UInt8} (h3 : ∀ i, foot wb v i → w.heap.size ≤ i) (h4 : Below w.heap.size w x) (hl : Wr.Left wb v R r x y) (hi : Inv2 R E' r.1 r.2) : WS w wb R E' y := by
 obtain ⟨v', h1, h2, h5⟩ := hl
 refine ⟨v', _, _, h1, hi, fun i hi' => ?_, h4.trans (h2.below h4.size h3)⟩
 rcases hi' with rfl | hi'
 ·exact h3 _ (.inl rfl)
 ·rcases Nat.lt_or_ge i x.heap.size with h6 | h6
  ·exact h3 _ (.inr (h5 i hi' h6))
  ·have := h4.size; omega
theorem WS.turn {w x y : World} {wb : Nat} {v : Value} (h3 : ∀ i, foot wb v i → w.heap.size ≤ i) (h4 : Below w.heap.size w x) (ht : Turns (foot wb v) x y) : Below w.heap.size w y := h4.trans (ht.below h4.size h3)
theorem ws_new (w x : World) (hx : Below w.heap.size w x) (R : Nat) (hR : R ≤ 1000000) :
  Calls Tryz.prog 80 #[.int .i64 (R : Int)] x fun e y => e = .returned (.pointer (some ⟨x.heap.size, 0, none⟩)) ∧ WS w x.heap.size R [] y ∧ Below x.heap.size x y := by
 refine (Wr.new_any (R : Int) x (by omega)).mono ?_
 rintro e y ⟨rfl, hw, hb⟩
 rw [Int.toNat_natCast] at hw
 refine ⟨rfl, ⟨_, _, _, hw, Inv2.nil R, fun i hi => ?_, hx.trans (hb.mono hx.size)⟩, hb⟩
 rcases hi with rfl | hi
 ·exact hx.size
 ·simp [Value.ownBlock] at hi
theorem ws_num {w x : World} {wb R : Nat} {E : List UInt8} (h : WS w wb R E x) (hR : R ≤ 1000000) (n k : Nat) (h1 : 1 ≤ k) (h8 : k ≤ 8) (hn : n < 2 ^ (8 * k)) (hn2 : n < 18446744073709551616) :
  Calls Tryz.prog 81 #[.pointer (some ⟨wb, 0, none⟩), .int .u64 (n : Int), .int .i64 (k : Int)] x fun e y => e = .returned (.tuple #[]) ∧ WS w wb R (E ++ be n k) y := by
 obtain ⟨v, l, bad, ha, hv, h3, h4⟩ := h.all
 refine (Wr.num_any n k wb v R l bad x ha hn2 (by omega) (by omega) (by have := hv.1; omega)).mono ?_
 rintro e y ⟨rfl, hl⟩
 exact ⟨rfl, WS.step h3 h4 hl (hv.num n k h1 h8 hn)⟩
theorem ws_bytes {w x : World} {wb R : Nat} {E : List UInt8} (h : WS w wb R E x) (hR : R ≤ 1000000) (p : Option Addr) (n c : Nat) (b : List UInt8) (hB : Bs w p n c b) (hb : b.length ≤ 70368744177664) :
  Calls Tryz.prog 82 #[.pointer (some ⟨wb, 0, none⟩), .slice p n c] x fun e y => e = .returned (.tuple #[]) ∧ WS w wb R (E ++ b) y := by
 obtain ⟨v, l, bad, ha, hv, h3, h4⟩ := h.all
 refine (Wr.bytes_any p n c b wb v R l bad x ha (fun w' ht => hB.below (WS.turn h3 h4 ht)) hb (by have := hv.1; omega)).mono ?_
 rintro e y ⟨rfl, hl⟩
 exact ⟨rfl, WS.step h3 h4 hl (hv.one b)⟩
theorem ws_done {w x : World} {wb R : Nat} {E : List UInt8} (h : WS w wb R E x) (hR : R ≤ 1000000) (hE : E.length ≤ R) :
  Calls Tryz.prog 83 #[.pointer (some ⟨wb, 0, none⟩)] x fun e y => (∃ p c, e = .returned (.tuple #[.slice p E.length c, .int .i64 0]) ∧ y.ownsRow x.heap.size 5 1 (.slice p E.length c) E.length (bytesV E)) ∧ WS w wb R E y ∧ Below x.heap.size x y := by
 obtain ⟨v, l, bad, ha, hv, h3, h4⟩ := h.all
 refine (Wr.done_any wb v R l bad x ha (by have := hv.1; omega)).mono ?_
 rintro e y ⟨⟨p, n, c, rfl, ho⟩, hb⟩
 rcases hv.2 with ⟨rfl, rfl⟩ | ⟨_, h'⟩
 ·rw [if_pos rfl] at ho
  obtain ⟨p', c', he, hs⟩ := own_sl ho
  cases he
  have hn := Bs.length (show Bs y p n c l from hs)
  subst hn
  exact ⟨⟨p, c, rfl, ho⟩, ⟨v, l, 0, ha.touch (Turns.of_below (S := fun _ => False) hb) (fun _ _ h => h), hv, h3, h4.trans (hb.mono h4.size)⟩, hb⟩
 ·omega
end Go.Proofs.YtnejjfglkindjaaGreatDoor.Cod
namespace Go.Mir.Crc
def iter {α : Type} (f : α → α) : Nat → α → α
 | 0, x => x
 | n + 1, x => f (iter f n x)
def poly : BitVec 32 := 2197175160#32
def step (x : BitVec 32) : BitVec 32 := (x >>> 1) ^^^ (if x.getLsbD 0 then poly else 0#32)
theorem xlc (a b c : BitVec 32) : a ^^^ (b ^^^ c) = b ^^^ (a ^^^ c) := by
 rw [← BitVec.xor_assoc, BitVec.xor_comm a b, BitVec.xor_assoc]
theorem step_xor (x y : BitVec 32) : step (x ^^^ y) = step x ^^^ step y := by
 unfold step
 rw [BitVec.ushiftRight_xor_distrib, BitVec.getLsbD_xor]
 generalize x.getLsbD 0 = a
 generalize y.getLsbD 0 = b
 cases a <;> cases b <;> simp [BitVec.xor_assoc]
 ·rw [BitVec.xor_comm]
 ·rw [xlc poly]; simp
theorem iter_xor (n : Nat) (x y : BitVec 32) : iter step n (x ^^^ y) = iter step n x ^^^ iter step n y := by
 induction n with
 | zero => rfl
 | succ n ih => simp only [iter, ih, step_xor]
def byteW (b : UInt8) : BitVec 32 := BitVec.ofNat 32 b.toNat
def run (s : BitVec 32) (l : List UInt8) : BitVec 32 := l.foldl (fun s b => iter step 8 (s ^^^ byteW b)) s
theorem run_append (s : BitVec 32) (a b : List UInt8) : run s (a ++ b) = run (run s a) b := by simp [run]
theorem run_snoc (s : BitVec 32) (a : List UInt8) (b : UInt8) : run s (a ++ [b]) = iter step 8 (run s a ^^^ byteW b) := by simp [run]
def ones : BitVec 32 := 4294967295#32
def more (s : BitVec 32) (l : List UInt8) : BitVec 32 := run (s ^^^ ones) l ^^^ ones
def tab (i : Nat) : BitVec 32 := iter step 8 (BitVec.ofNat 32 i)
theorem step_even (x : BitVec 32) (h : x.getLsbD 0 = false) : step x = x >>> 1 := by rw [step, h]; simp
theorem iter_low (k : Nat) (x : BitVec 32) (h : ∀ i, i < k → x.getLsbD i = false) : iter step k x = x >>> k := by
 induction k with
 | zero => simp [iter]
 | succ k ih =>
  rw [iter, ih (fun i hi => h i (by omega)), step_even _ (by simp [h k (by omega)])]
  rw [← BitVec.shiftRight_add]
theorem split8 (s : BitVec 32) : s = ((s >>> 8) <<< 8) ^^^ (s &&& 255#32) := by
 apply BitVec.eq_of_getLsbD_eq
 intro i hi
 have h255 : (255#32).getLsbD i = decide (i < 8) := by
  have : ∀ i, i < 32 → (255#32).getLsbD i = decide (i < 8) := by decide
  exact this i hi
 simp only [BitVec.getLsbD_xor, BitVec.getLsbD_shiftLeft, BitVec.getLsbD_ushiftRight, BitVec.getLsbD_and, h255, hi, decide_true, Bool.true_and]
 by_cases h8 : i < 8
 ·simp [h8]
 ·simp [h8, show 8 + (i - 8) = i from by omega]
theorem byteW_toNat (b : UInt8) : (byteW b).toNat = b.toNat := by
 have := b.toNat_lt
 simp [byteW]
theorem tab_step (s : BitVec 32) (b : UInt8) : (s >>> 8) ^^^ tab ((s.toNat % 256) ^^^ b.toNat) = iter step 8 (s ^^^ byteW b) := by
 have e : BitVec.ofNat 32 ((s.toNat % 256) ^^^ b.toNat) = (s &&& 255#32) ^^^ byteW b := by
  apply BitVec.eq_of_toNat_eq
  have hx : (s.toNat % 256) ^^^ b.toNat < 2 ^ 8 := Nat.xor_lt_two_pow (by omega) b.toNat_lt
  rw [BitVec.toNat_xor, byteW_toNat, BitVec.toNat_and, BitVec.toNat_ofNat]
  rw [show (255#32).toNat = 2 ^ 8 - 1 from rfl, Nat.and_two_pow_sub_one_eq_mod]
  exact Nat.mod_eq_of_lt (by omega)
 unfold tab
 rw [e]
 conv => rhs; rw [split8 s, BitVec.xor_assoc, iter_xor]
 rw [iter_low 8 ((s >>> 8) <<< 8) (by intro i hi; simp [hi])]
 congr 1
 apply BitVec.eq_of_getLsbD_eq
 intro i hi
 simp only [BitVec.getLsbD_ushiftRight, BitVec.getLsbD_shiftLeft]
 by_cases h : 8 + i < 32
 ·simp [h]
 ·rw [BitVec.getLsbD_of_ge s (8 + i) (by omega)]; simp [h]
def Lin (f : BitVec 32 → BitVec 32) : Prop := ∀ x y, f (x ^^^ y) = f x ^^^ f y
theorem Lin.zero {f : BitVec 32 → BitVec 32} (h : Lin f) : f 0#32 = 0#32 := by
 have := h 0#32 0#32
 simp only [BitVec.xor_self] at this
 exact this
end Go.Mir.Crc
namespace Go.Proofs.YtnejjfglkindjaaGreatDoor.CrcW
open Go.RowKit Go.Mir
theorem lt32 (x : BitVec 32) : x.toNat < 4294967296 := x.isLt
theorem xor32 (x y : BitVec 32) : bits .xor .u32 (x.toNat : Int) (y.toNat : Int) = ((x ^^^ y).toNat : Int) := by
 rw [u32_xor_nat _ _ x.isLt y.isLt, BitVec.toNat_xor]
theorem shr32 (x : BitVec 32) (k : Nat) : ((x.toNat : Int) / ((2 ^ k : Nat) : Int)) = ((x >>> k).toNat : Int) := by
 rw [BitVec.toNat_ushiftRight, Nat.shiftRight_eq_div_pow]; rfl
theorem odd32 (x : BitVec 32) : x.getLsbD 0 = decide (x.toNat % 2 = 1) := by
 simp only [BitVec.getLsbD, Nat.testBit_zero]
theorem step_int (x : BitVec 32) : bits BinOp.xor IntKind.u32 ((x.toNat : Int) / 2) (2197175160 * bits BinOp.and IntKind.u32 (x.toNat : Int) 1 % 4294967296) = ((Crc.step x).toNat : Int) := by
 have h1 : bits BinOp.and IntKind.u32 (x.toNat : Int) 1 = ((x.toNat % 2 : Nat) : Int) := by
  have := u32_and_nat x.toNat 1 x.isLt (by omega)
  rw [show ((1 : Nat) : Int) = 1 from rfl] at this
  rw [this, Nat.and_one_is_mod]
 rw [h1]
 have h2 := shr32 x 1
 rw [show ((2 ^ 1 : Nat) : Int) = 2 from rfl] at h2
 rw [h2]
 unfold Crc.step
 rw [odd32]
 by_cases h : x.toNat % 2 = 1
 ·rw [h]
  simp only [decide_true, if_true]
  rw [← xor32]; rfl
 ·have h0 : x.toNat % 2 = 0 := by omega
  rw [h0]
  simp only [show (0 = 1) = False from by simp, decide_false, Bool.false_eq_true, if_false]
  rw [← xor32]; rfl
theorem step_any (x : BitVec 32) (w : World) :
  Calls Tryz.prog 133 #[.int .u32 (x.toNat : Int)] w fun e w' => e = .returned (.int .u32 ((Crc.step x).toNat : Int)) ∧ w = w' := by
 have hx := lt32 x
 have hs := Lib.hid (step_int x)
 go_enter Tryz.func133, Tryz.ntmps133
 go_wp2
 go_ret
 exact ⟨congrArg (fun n => Ending.returned (.int .u32 n)) hs.out, rfl⟩
theorem move_any (x : BitVec 32) (w : World) :
  Calls Tryz.prog 121 #[.int .u32 (x.toNat : Int)] w fun e w' => e = .returned (.int .u32 ((Crc.step x).toNat : Int)) ∧ w = w' := by
 have hx := lt32 x
 have h2 := shr32 x 1
 rw [show ((2 ^ 1 : Nat) : Int) = 2 from rfl] at h2
 have hs : Hid (Crc.step x = x >>> 1 ^^^ if x.toNat % 2 = 1 then Crc.poly else 0#32) := by
  show Crc.step x = _
  unfold Crc.step; rw [odd32]; simp
 have H2 := Lib.hid h2
 have hx2 := Lib.hid (xor32 (x >>> 1) Crc.poly)
 clear h2
 by_cases h : x.toNat % 2 = 1
 ·have hb : ((x.toNat : Int) % 2 == 1) = true := by rw [beq_iff_eq]; omega
  go_enter Tryz.func121, Tryz.ntmps121
  go_wp2
  go_ret
  refine ⟨congrArg (fun n => Ending.returned (.int .u32 n)) ?_, rfl⟩
  rw [hs.out, if_pos h, ← hx2.out, H2.out.symm]; rfl
 ·have hb : ((x.toNat : Int) % 2 == 1) = false := by rw [beq_eq_false_iff_ne]; omega
  go_enter Tryz.func121, Tryz.ntmps121
  go_wp2
  go_ret
  refine ⟨congrArg (fun n => Ending.returned (.int .u32 n)) ?_, rfl⟩
  rw [hs.out, if_neg h, BitVec.xor_zero, H2.out.symm]
def tabArr (k : Nat) : Array Value := ((List.range 256).map fun j => Value.int .u32 (if j < k then ((Crc.tab j).toNat : Int) else 0)).toArray
theorem tabArr_size (k : Nat) : (tabArr k).size = 256 := by simp [tabArr]
theorem tabArr_get (k j : Nat) (hj : j < 256) : (tabArr k)[j]? = some (Value.int .u32 (if j < k then ((Crc.tab j).toNat : Int) else 0)) := by
 simp [tabArr, hj]
theorem tabArr_set (k : Nat) (hk : k < 256) : (tabArr k).setIfInBounds k (.int .u32 ((Crc.tab k).toNat : Int)) = tabArr (k+1) := by
 apply Array.ext_getElem?
 intro j
 by_cases hj : j < 256
 ·rw [Array.getElem?_setIfInBounds, tabArr_get _ _ hj, tabArr_get _ _ hj, tabArr_size]
  split
  ·subst_vars; simp []
  ·have : (j < k) ↔ (j < k + 1) := by omega
   simp [this]
 ·rw [Array.getElem?_eq_none, Array.getElem?_eq_none] <;> (simp [tabArr_size]; try omega)
def Z256 : Array Value := Array.replicate 256 (.int .u32 0)
theorem tabArr_0 : tabArr 0 = Z256 := by
 apply Array.ext_getElem?
 intro j
 by_cases hj : j < 256
 ·rw [tabArr_get _ _ hj]; simp [Z256, hj]
 ·rw [Array.getElem?_eq_none, Array.getElem?_eq_none] <;> simp [tabArr_size, Z256] <;> omega
theorem zeroT (w : World) : (zeroValue 225).run Tryz.prog w = .ok (.agg Z256) w := by kernel_rfl
theorem sizeT : (Tryz.prog.info? 225).map (·.size) = some 256 := by kernel_rfl
structure IsTab (T : Array Value) : Prop where
 size : T.size = 256
 get : ∀ j, j < 256 → T[j]? = some (.int .u32 ((Crc.tab j).toNat : Int))
 one : T.all (·.oneCell') = true
theorem isTab : IsTab (tabArr 256) := ⟨tabArr_size _, fun j hj => by rw [tabArr_get _ _ hj, if_pos hj], by simp [tabArr, Value.oneCell']⟩
set_option maxRecDepth 100000 in
set_option maxHeartbeats 400000 in
theorem table_any (w : World) :
  Calls Tryz.prog 132 #[] w fun e w' => (∃ T, IsTab T ∧ e = .returned (.agg T)) ∧ Below w.heap.size w w' := by
 have hz := zeroT
 go_enter Tryz.func132, Tryz.ntmps132
 go_wp2
 go_loopw [4] (fun i wr => ∃ k : Nat, k ≤ 256 ∧ i = .int .i64 k ∧ wr.heap.size = w.heap.size + 2 ∧ wr.heap[w.heap.size]? = some (.cells Z256 225 (0,0)) ∧ wr.heap[w.heap.size+1]? = some (.cells (tabArr k) 225 (0,0)) ∧ Below w.heap.size w wr) (fun i _ => 256 - (intOf i).toNat)
 case atStart =>
  refine ⟨0, by omega, rfl, by simp, ?_, ?_, ((Below.refl _ _).alloc (Nat.le_refl _) _).alloc (by simp) _⟩
  ·exact heap_alloc2_old _ _ _
  ·rw [tabArr_0]; exact heap_alloc2_new _ _ _
 case round =>
  obtain ⟨k, hk, rfl, hsz, hb0, hb1, hbl⟩ := hrel
  by_cases hlt : k < 256
  ·have hd : decide ((k:Int) < 256) = true := by simp; omega
   have hkk : (BitVec.ofNat 32 k).toNat = k := by rw [BitVec.toNat_ofNat]; omega
   go_wp2
   go_loop [3, 9] (fun x j => ∃ m : Nat, m ≤ 8 ∧ j = .int .i64 m ∧ x = .int .u32 (Crc.iter Crc.step m (BitVec.ofNat 32 k)).toNat) (fun _ j => 8 - (intOf j).toNat)
   case atStart => exact ⟨0, by omega, rfl, by rw [Crc.iter, hkk]⟩
   case round =>
    obtain ⟨m, hm, rfl, rfl⟩ := hrel
    clear hkk
    by_cases hlt' : m < 8
    ·go_wp2_with (go_at_call 133; refine (step_any _ _).mono ?_; rintro e w' ⟨rfl, rfl⟩)
     go_round
     case rel => exact ⟨m + 1, by omega, by go_num, rfl⟩
     case measure => simp [intOf]; omega
    ·have hc : wr.cell? ⟨w.heap.size + 1, k, none⟩ = some (.int .u32 0) := by
      rw [cell_of_row _ _ _ _ _ _ hb1, tabArr_get _ _ hlt]; simp
     have hf := frozen_of_row _ _ k _ _ hb1
     have hm8 : m = 8 := by omega
     subst hm8
     go_wp2
     go_roundw
     case rel =>
      refine ⟨k + 1, by omega, by go_num, by simp [World.setCell, hsz], ?_, ?_, hbl.setCell (by simp) _⟩
      ·rw [heap_setCell_other _ _ _ _ (by simp)]; exact hb0
      ·rw [heap_setCell_same _ _ _ _ _ _ hb1]; exact congrArg (fun c => some (Obj.cells c 225)) (tabArr_set k hlt)
     case measure => simp [intOf]; omega
  ·have hk : k = 256 := by omega
   subst hk
   obtain ⟨T, hT, hT2⟩ : ∃ T, T = tabArr 256 ∧ IsTab T := ⟨_, rfl, isTab⟩
   rw [← hT] at hb1
   have hTs : (Tryz.prog.info? 225).map (·.size) = some T.size := by rw [sizeT, hT2.size]
   have hTz : Z256.size = T.size := by rw [hT2.size]; simp [Z256]
   have hT1 := hT2.one
   have HT : Hid (IsTab T) := hT2
   clear hT hz hT2
   go_wp2_with (first | (refine wpList_load_row rfl 225 _ rfl _ rfl _ _ _ _ hb1 Tryz.underlying225 rfl hTs ?_) | (refine wpList_store_row rfl 225 _ _ rfl _ _ rfl rfl _ _ hb0 hTs hTz hT1 ?_))
   refine bodyPost_ret (results_cell_row rfl _ _ _ _ _ _ _ rfl (setRow_heap _ _ _ _ _ _ hb0) Tryz.underlying225 rfl hTs) rfl ⟨⟨T, HT.out, rfl⟩, ?_⟩
   exact hbl.trans ⟨rfl, rfl, rfl, by simp, fun k hk => setRow_other _ _ _ _ (by omega)⟩
theorem idx_int (s : BitVec 32) (b : UInt8) : bits BinOp.xor IntKind.u8 ((s.toNat : Int) % 256) (b.toNat : Int) = (((s.toNat % 256) ^^^ b.toNat : Nat) : Int) := by
 have hb := b.toNat_lt
 have := u8_xor_nat (s.toNat % 256) b.toNat (by omega) (by omega)
 rw [← this]; congr 1
theorem idx_lt (s : BitVec 32) (b : UInt8) : (s.toNat % 256) ^^^ b.toNat < 256 := Nat.xor_lt_two_pow (n := 8) (by omega) b.toNat_lt
theorem upd_int (s : BitVec 32) (b : UInt8) : bits BinOp.xor IntKind.u32 ((s.toNat : Int) / 256) ((Crc.tab ((s.toNat % 256) ^^^ b.toNat)).toNat : Int) = ((Crc.iter Crc.step 8 (s ^^^ Crc.byteW b)).toNat : Int) := by
 have h2 := shr32 s 8
 rw [show ((2 ^ 8 : Nat) : Int) = 256 from rfl] at h2
 rw [h2, xor32, Crc.tab_step]
theorem take_snoc {α : Type} (l : List α) (k : Nat) (h : k < l.length) : l.take (k + 1) = l.take k ++ [l[k]] := by
 rw [List.take_succ_eq_append_getElem h]
set_option maxRecDepth 100000 in
set_option maxHeartbeats 400000 in
theorem run_any (s : BitVec 32) (p : Option Addr) (n c : Nat) (ls : List (List UInt8)) (w : World) (h : Pts w p n c ls) :
  Calls Tryz.prog 127 #[.int .u32 (s.toNat : Int), .slice p n c] w fun e w' => e = .returned (.int .u32 ((Crc.more s ls.flatten).toNat : Int)) ∧ Below w.heap.size w w' := by
 have hz := zeroT
 have hs := lt32 s
 obtain ⟨s1, hs1⟩ : ∃ s1, s1 = s ^^^ Crc.ones := ⟨_, rfl⟩
 have hx : bits .xor .u32 (s.toNat : Int) 4294967295 = (s1.toNat : Int) := by rw [hs1]; exact xor32 s Crc.ones
 have HS1 := Lib.hid hs1
 clear hs1
 have hle := h.le
 have hmax := h.max
 have hn := h.len
 go_enter Tryz.func127, Tryz.ntmps127
 go_wp2_with (first | (go_at_call 132; refine (table_any _).mono ?_; rintro e w1 ⟨⟨T, hT, rfl⟩, hb1⟩; have hTs : (Tryz.prog.info? 225).map (·.size) = some T.size := (by rw [sizeT, hT.size]); have hTz : Z256.size = T.size := (by rw [hT.size]; simp [Z256]); have hT1 := hT.one; have HT := Lib.hid hT; have HB1 := Lib.hid hb1; clear hT hb1) | (refine wpList_store_row rfl 225 _ _ rfl _ _ rfl rfl _ _ (heap_alloc_last _ _) hTs hTz hT1 ?_; simp only [World.setRow_alloc_new]))
 clear hTs hTz hT1 hz hx
 have h1 := h.below HB1.out
 have hT3 : ∀ i, i < 256 → (w1.alloc (.cells T 225)).cell? ⟨w1.heap.size, i, none⟩ = some (.int .u32 ((Crc.tab i).toNat : Int)) := fun i hi => by
  rw [cell_of_row _ _ _ _ _ _ (heap_alloc_last _ _)]; exact HT.out.get i hi
 have h2 : Pts (w1.alloc (.cells T 225)) p n c ls := h1.below ((Below.refl _ _).alloc (Nat.le_refl _) _)
 have HT3 := Lib.hid hT3
 have HB2 : Hid (Below w.heap.size w (w1.alloc (.cells T 225))) := HB1.out.alloc HB1.out.size _
 clear hT3 h1
 generalize w1.alloc (.cells T 225) = w2 at *
 go_loop [0, 15] (fun x j => ∃ k : Nat, k ≤ n ∧ j = .int .i64 k ∧ x = .int .u32 (Crc.run s1 (ls.take k).flatten).toNat) (fun _ j => n - (intOf j).toNat)
 case atStart => exact ⟨0, by omega, rfl, rfl⟩
 case round =>
  obtain ⟨k, hk, rfl, rfl⟩ := hrel
  by_cases hlt : k < n
  ·have hd : decide ((k:Int) < n) = true := by simp; omega
   obtain ⟨b, o, rfl⟩ := h2.addr (by omega)
   obtain ⟨q, m, d, hc, hB⟩ := h2.cell _ rfl k (by omega)
   rw [add_none] at hc
   have hmle := hB.le
   have hmmax := hB.max
   have hml := hB.length
   have htk := Lib.hid (take_snoc ls k (by omega))
   generalize hl : ls[k] = l at *
   go_wp2
   go_loop [0, 21] (fun x j => ∃ i : Nat, i ≤ m ∧ j = .int .i64 i ∧ x = .int .u32 (Crc.run (Crc.run s1 (ls.take k).flatten) (l.take i)).toNat) (fun _ j => m - (intOf j).toNat)
   case atStart => exact ⟨0, by omega, rfl, rfl⟩
   case round =>
    obtain ⟨i, hi, rfl, rfl⟩ := hrel
    by_cases hlt' : i < m
    ·obtain ⟨b', o', rfl⟩ := hB.addr (by omega) (by omega)
     have hc' := hB.byte (j := i) (by omega)
     have hti := Lib.hid (take_snoc l i (by omega))
     have hll : l[i].toNat < 256 := l[i].toNat_lt
     generalize hly : l[i] = y at *
     clear hly
     have hid := idx_int (Crc.run (Crc.run s1 (ls.take k).flatten) (l.take i)) y
     have hil := idx_lt (Crc.run (Crc.run s1 (ls.take k).flatten) (l.take i)) y
     have hup := upd_int (Crc.run (Crc.run s1 (ls.take k).flatten) (l.take i)) y
     have hsn := Crc.run_snoc (Crc.run s1 (ls.take k).flatten) (l.take i) y
     rw [← hti.out] at hsn
     rw [← hsn] at hup
     have hct := HT3.out _ hil
     clear hsn
     generalize Crc.run (Crc.run s1 (ls.take k).flatten) (l.take i) = S at *
     generalize hS' : Crc.run (Crc.run s1 (ls.take k).flatten) (l.take (i+1)) = S' at *
     have HS' := Lib.hid hS'
     clear hS'
     have hS := lt32 S
     generalize (S.toNat % 256) ^^^ y.toNat = id at *
     go_wp2
     go_round
     case rel => exact ⟨i + 1, by omega, by go_num, by rw [HS'.out]⟩
     case measure => simp [intOf]; omega
    ·have him : i = l.length := by omega
     rw [him, List.take_length]
     go_wp2
     go_round
     case rel => exact ⟨k + 1, by omega, by go_num, by rw [htk.out, List.flatten_append, Crc.run_append, List.flatten_singleton]⟩
     case measure => simp [intOf]; omega
  ·have hk' : k = ls.length := by omega
   rw [hk', List.take_length]
   have hfin : Crc.more s ls.flatten = Crc.run s1 ls.flatten ^^^ Crc.ones := by rw [HS1.out]; rfl
   have hx := xor32 (Crc.run s1 ls.flatten) Crc.ones
   rw [← hfin] at hx
   have hx' : bits .xor .u32 ((Crc.run s1 ls.flatten).toNat : Int) 4294967295 = ((Crc.more s ls.flatten).toNat : Int) := hx
   have hS := lt32 (Crc.run s1 ls.flatten)
   clear hx hfin
   generalize Crc.run s1 ls.flatten = S at *
   generalize hR : Crc.more s ls.flatten = R at *
   have HR := Lib.hid hR
   clear hR
   go_wp2
   go_ret
   exact ⟨congrArg (fun n : BitVec 32 => Ending.returned (.int .u32 (n.toNat : Int))) HR.out.symm, HB2.out⟩
theorem of_any (p : Option Addr) (n c : Nat) (ls : List (List UInt8)) (w : World) (h : Pts w p n c ls) :
  Calls Tryz.prog 117 #[.slice p n c] w fun e w' => e = .returned (.int .u32 ((Crc.more 0#32 ls.flatten).toNat : Int)) ∧ Below w.heap.size w w' := by
 have hle := h.le
 have hmax := h.max
 have hr := run_any 0#32 p n c ls w h
 have HR := Lib.hid hr
 clear hr
 go_enter Tryz.func117, Tryz.ntmps117
 go_wp2_with (go_at_call 127; refine (HR.out).mono ?_; rintro e w1 ⟨rfl, hb1⟩)
 go_ret
 exact ⟨rfl, hb1⟩
set_option maxRecDepth 100000 in
set_option maxHeartbeats 400000 in
theorem refMore_any (s : BitVec 32) (p : Option Addr) (n c : Nat) (l : List UInt8) (w : World) (h : Bs w p n c l) :
  Calls Tryz.prog 100 #[.int .u32 (s.toNat : Int), .slice p n c] w fun e w' => e = .returned (.int .u32 ((Crc.more s l).toNat : Int)) ∧ w = w' := by
 have hs := lt32 s
 obtain ⟨s1, hs1⟩ : ∃ s1, s1 = s ^^^ Crc.ones := ⟨_, rfl⟩
 have hx : bits .xor .u32 (s.toNat : Int) 4294967295 = (s1.toNat : Int) := by rw [hs1]; exact xor32 s Crc.ones
 have HS1 := Lib.hid hs1
 clear hs1
 have hle := h.le
 have hmax := h.max
 have hn := h.length
 go_enter Tryz.func100, Tryz.ntmps100
 go_wp2
 clear hx
 go_loop [0, 5] (fun x j => ∃ k : Nat, k ≤ n ∧ j = .int .i64 k ∧ x = .int .u32 (Crc.run s1 (l.take k)).toNat) (fun _ j => n - (intOf j).toNat)
 case atStart => exact ⟨0, by omega, rfl, rfl⟩
 case round =>
  obtain ⟨k, hk, rfl, rfl⟩ := hrel
  by_cases hlt : k < n
  ·have hd : decide ((k:Int) < n) = true := by simp; omega
   obtain ⟨b', o', rfl⟩ := h.addr (by omega) (by omega)
   have hc' := h.byte (j := k) (by omega)
   have hti := Lib.hid (take_snoc l k (by omega))
   have hll : l[k].toNat < 256 := l[k].toNat_lt
   generalize hly : l[k] = y at *
   clear hly
   have hsn := Lib.hid (Crc.run_snoc s1 (l.take k) y)
   have hup := xor32 (Crc.run s1 (l.take k)) (Crc.byteW y)
   rw [Crc.byteW_toNat] at hup
   have hS := lt32 (Crc.run s1 (l.take k))
   generalize hS0 : Crc.run s1 (l.take k) = S at *
   have HS0 := Lib.hid hS0
   clear hS0
   generalize hS1 : S ^^^ Crc.byteW y = S1 at *
   have HS1' := Lib.hid hS1
   clear hS1
   go_wp2
   go_loop [0, 6] (fun x j => ∃ i : Nat, i ≤ 8 ∧ j = .int .i64 i ∧ x = .int .u32 (Crc.iter Crc.step i S1).toNat) (fun _ j => 8 - (intOf j).toNat)
   case atStart => exact ⟨0, by omega, rfl, rfl⟩
   case round =>
    obtain ⟨i, hi, rfl, rfl⟩ := hrel
    by_cases hlt' : i < 8
    ·go_wp2_with (go_at_call 121; refine (move_any _ _).mono ?_; rintro e w' ⟨rfl, rfl⟩)
     go_round
     case rel => exact ⟨i + 1, by omega, by go_num, rfl⟩
     case measure => simp [intOf]; omega
    ·obtain rfl : i = 8 := by omega
     go_wp2
     go_round
     case rel => exact ⟨k + 1, by omega, by go_num, by rw [hti.out, hsn.out]⟩
     case measure => simp [intOf]; omega
  ·have hk' : k = l.length := by omega
   rw [hk', List.take_length]
   have hfin : Crc.more s l = Crc.run s1 l ^^^ Crc.ones := by rw [HS1.out]; rfl
   have hx := xor32 (Crc.run s1 l) Crc.ones
   rw [← hfin] at hx
   have hx' : bits .xor .u32 ((Crc.run s1 l).toNat : Int) 4294967295 = ((Crc.more s l).toNat : Int) := hx
   have hS := lt32 (Crc.run s1 l)
   clear hx hfin
   generalize Crc.run s1 l = S at *
   generalize hR : Crc.more s l = R at *
   have HR := Lib.hid hR
   clear hR
   go_wp2
   go_ret
   exact ⟨congrArg (fun n : BitVec 32 => Ending.returned (.int .u32 (n.toNat : Int))) HR.out.symm, rfl⟩
theorem refOf_any (p : Option Addr) (n c : Nat) (l : List UInt8) (w : World) (h : Bs w p n c l) :
  Calls Tryz.prog 49 #[.slice p n c] w fun e w' => e = .returned (.int .u32 ((Crc.more 0#32 l).toNat : Int)) ∧ w = w' := by
 have hle := h.le
 have hmax := h.max
 have hr := Lib.hid (refMore_any 0#32 p n c l w h)
 go_enter Tryz.func49, Tryz.ntmps49
 go_wp2_with (go_at_call 100; refine (hr.out).mono ?_; rintro e w1 ⟨rfl, rfl⟩)
 go_ret
 exact ⟨rfl, rfl⟩
end Go.Proofs.YtnejjfglkindjaaGreatDoor.CrcW
namespace Go.Proofs.YtnejjfglkindjaaGreatDoor.Frm
open Go.RowKit Go.Mir Go.Mir.Parts Wr Cod
theorem fits_any (n : Nat) (hn : n < 18446744073709551616) (w : World) :
  Calls Tryz.prog 115 #[.int .u64 (n : Int)] w fun e w' => e = .returned (.bool (decide (1 ≤ n ∧ n ≤ 65536))) ∧ w = w' := by
 by_cases h1 : 1 ≤ n
 ·have d1 : decide ((1 : Int) ≤ (n : Int)) = true := decide_eq_true (by omega)
  by_cases h2 : n ≤ 65536
  ·have d2 : decide ((n : Int) ≤ 65536) = true := decide_eq_true (by omega)
   have d3 : decide (n ≤ 65536) = true := decide_eq_true h2
   have HR : Hid (decide (1 ≤ n ∧ n ≤ 65536) = true) := decide_eq_true ⟨h1, h2⟩
   rw [HR.out]
   clear h1 h2
   go_enter Tryz.func115, Tryz.ntmps115
   go_wp2_with fail
   go_ret
   exact ⟨rfl, rfl⟩
  ·have d2 : decide ((n : Int) ≤ 65536) = false := decide_eq_false (by omega)
   have d3 : decide (n ≤ 65536) = false := decide_eq_false h2
   have HR : Hid (decide (1 ≤ n ∧ n ≤ 65536) = false) := decide_eq_false (by omega)
   rw [HR.out]
   clear h1 h2
   go_enter Tryz.func115, Tryz.ntmps115
   go_wp2_with fail
   go_ret
   exact ⟨rfl, rfl⟩
 ·have d1 : decide ((1 : Int) ≤ (n : Int)) = false := decide_eq_false (by omega)
  have HR : Hid (decide (1 ≤ n ∧ n ≤ 65536) = false) := decide_eq_false (by omega)
  rw [HR.out]
  clear h1
  go_enter Tryz.func115, Tryz.ntmps115
  go_wp2_with fail
  go_ret
  exact ⟨rfl, rfl⟩
theorem size_any (p : Option Addr) (n c : Nat) (hn : n ≤ 1099511627776) (w : World) :
  Calls Tryz.prog 116 #[.slice p n c] w fun e w' => e = .returned (.int .i64 ((8 + n : Nat) : Int)) ∧ w = w' := by
 have hw : IntKind.i64.wrap (8 + (n : Int)) = ((8 + n : Nat) : Int) := by rw [IntWalk.i64_in _ (by omega)]; omega
 go_enter Tryz.func116, Tryz.ntmps116
 go_wp2_with fail
 go_ret
 exact ⟨by first | rfl | (rw [hw]), rfl⟩
end Go.Proofs.YtnejjfglkindjaaGreatDoor.Frm
namespace Go.Proofs.YtnejjfglkindjaaGreatDoor.Frm
open Go.RowKit Go.Mir Go.Mir.Parts Wr Cod
theorem ws_below {w x y : World} {wb R : Nat} {E : List UInt8} (h : WS w wb R E x) (hb : Below x.heap.size x y) : WS w wb R E y := by
 obtain ⟨v, l, bad, ha, hv, h3, h4⟩ := h.all
 exact ⟨v, l, bad, ha.touch (Turns.of_below (S := fun _ => False) hb) (fun _ _ h => h), hv, h3, h4.trans (hb.mono h4.size)⟩
def frame (l : List UInt8) : List UInt8 := be l.length 4 ++ be (Crc.more 0#32 ([be l.length 4, l].flatten)).toNat 4 ++ l
def enc (l : List UInt8) : List UInt8 × Int := if l.length = 0 then ([], 1) else (frame l, 0)
set_option maxRecDepth 100000 in
set_option maxHeartbeats 1600000 in
theorem encode_any (p : Option Addr) (n c : Nat) (l : List UInt8) (w : World) (hB : Bs w p n c l) (hn : n ≤ 4000) :
  Calls Tryz.prog 78 #[.slice p n c] w fun e w' => ∃ p' c', e = .returned (.tuple #[.slice p' (enc l).1.length c', .int .i64 (enc l).2]) ∧ w'.ownsRow w.heap.size 5 1 (.slice p' (enc l).1.length c') (enc l).1.length (bytesV (enc l).1) ∧ Below w.heap.size w w' := by
 have HB := Lib.hid hB
 have HN := Lib.hid hB.length
 clear hB
 have hw1 : IntKind.u64.wrap (n : Int) = (n : Int) := by rw [IntKind.wrap_u64]; omega
 by_cases h0 : n = 0
 ·have HF : Hid (decide (1 ≤ n ∧ n ≤ 65536) = false) := decide_eq_false (by omega)
  have HE : Hid (enc l = ([], 1)) := by show _ = _; unfold enc; rw [if_pos (by rw [HN.out]; exact h0)]
  clear h0
  go_enter Tryz.func78, Tryz.ntmps78
  go_wp2_with fail
  refine (fits_any n (by omega) w).mono ?_
  rintro e w1 ⟨rfl, rfl⟩
  rw [HF.out]
  go_wp2_with fail
  go_ret2
  exact ⟨none, 0, by rw [HE.out]; rfl, by rw [HE.out]; exact ⟨rfl, .inl ⟨rfl, rfl⟩⟩, Below.refl _ _⟩
 ·have HF : Hid (decide (1 ≤ n ∧ n ≤ 65536) = true) := decide_eq_true (by omega)
  have HE : Hid (enc l = (frame l, 0)) := by show _ = _; unfold enc; rw [if_neg (by rw [HN.out]; exact h0)]
  clear h0
  go_enter Tryz.func78, Tryz.ntmps78
  go_wp2_with fail
  refine (fits_any n (by omega) w).mono ?_
  rintro e w1 ⟨rfl, rfl⟩
  rw [HF.out]
  go_wp2_with fail
  refine (size_any p n c (by omega) w).mono ?_
  rintro e w1 ⟨rfl, rfl⟩
  go_wp2_with fail
  refine (ws_new w w (Below.refl _ _) (8 + n) (by omega)).mono ?_
  rintro e w2 ⟨rfl, hs2, -⟩
  have HS2 := Lib.hid hs2
  clear hs2
  go_wp2_with fail
  refine (ws_num HS2.out (by omega) n 4 (by omega) (by omega) (by omega) (by omega)).mono ?_
  rintro e w3 ⟨rfl, hs3⟩
  have HS3 := Lib.hid hs3
  clear hs3 HS2
  go_wp2_with fail
  refine (ws_done HS3.out (by omega) (by rw [List.nil_append, be_length]; omega)).mono ?_
  rintro e w4 ⟨⟨p4, c4, rfl, ho4⟩, hs4, hb4⟩
  have HS4 := Lib.hid hs4
  have HO4 := Lib.hid ho4
  clear hs4 ho4 HS3
  go_wp2_with fail
  have hb14 : Bs w4 p4 (be n 4).length c4 (be n 4) := by
   obtain ⟨p9, c9, e9, h9⟩ := own_sl HO4.out
   cases e9
   exact h9
  have h4w : Below w.heap.size w w4 := HS4.out.low
  have hal : Below w4.heap.size w4 (w4.alloc (.cells #[.slice p4 (be n 4).length c4, .slice p n c] 22)) := Below.allocs _ _
  refine (CrcW.of_any _ _ _ [be n 4, l] _ (Pts.made2 hb14 (HB.out.below h4w) _ rfl)).mono ?_
  rintro e w5 ⟨rfl, hb5⟩
  have HS5 := Lib.hid (ws_below HS4.out (hal.trans (hb5.mono hal.size)))
  have HO5 := Lib.hid HO4.out
  have hcl := (Crc.more 0#32 ([be n 4, l].flatten)).isLt
  obtain ⟨C, hC⟩ : ∃ C, (Crc.more 0#32 ([be n 4, l].flatten)).toNat = C := ⟨_, rfl⟩
  rw [hC] at hcl ⊢
  have hcw : IntKind.u64.wrap (C : Int) = (C : Int) := by rw [IntKind.wrap_u64]; omega
  have HC := Lib.hid hC
  clear hb14 h4w hal hb5 HS4 hC HO4
  go_wp2_with fail
  refine (ws_num HS5.out (by omega) C 4 (by omega) (by omega) (by omega) (by omega)).mono ?_
  rintro e w6 ⟨rfl, hs6⟩
  have HS6 := Lib.hid hs6
  clear hs6 HS5
  go_wp2_with fail
  refine (ws_bytes HS6.out (by omega) p n c l HB.out (by rw [HN.out]; omega)).mono ?_
  rintro e w7 ⟨rfl, hs7⟩
  have HS7 := Lib.hid hs7
  clear hs7 HS6
  go_wp2_with fail
  refine (ws_done HS7.out (by omega) (by simp only [List.nil_append, List.length_append, be_length]; rw [HN.out]; omega)).mono ?_
  rintro e w8 ⟨⟨p8, c8, rfl, ho8⟩, hs8, hb8⟩
  have hfr : ([] ++ be n 4 ++ be C 4 ++ l) = frame l := by unfold frame; rw [HN.out, HC.out, List.nil_append]
  rw [hfr] at ho8
  have HO8 := Lib.hid (own_base ho8 (base' := w.heap.size) (fun k hk => by have := (ho8.lt k hk).1; have := HS7.out.low.size; omega))
  have HFR := Lib.hid hfr
  have HB8 := Lib.hid hs8.low
  rw [hfr]
  clear hs8 hb8 ho8 hfr
  go_wp2_with fail
  go_ret2
  exact ⟨p8, c8, by rw [HE.out]; rfl, by rw [HE.out]; exact HO8.out, HB8.out⟩
end Go.Proofs.YtnejjfglkindjaaGreatDoor.Frm
namespace Go.Proofs.YtnejjfglkindjaaGreatDoor.Frm
open Go.RowKit Go.Mir Go.Mir.Parts Wr Cod
set_option maxRecDepth 100000 in
theorem value_any (p : Option Addr) (n c : Nat) (l : List UInt8) (w : World) (hB : Bs w p n c l) (hn : n ≤ 4) :
  Calls Tryz.prog 130 #[.slice p n c] w fun e w' => e = .returned (.int .i64 (Rdr.beN l : Int)) ∧ w = w' := by
 have HB := Lib.hid hB
 have HN := Lib.hid hB.length
 have hle := hB.le
 have hmax := hB.max
 clear hB
 go_enter Tryz.func130, Tryz.ntmps130
 go_wp2_with fail
 go_loop [3, 4] (fun x j => ∃ k : Nat, k ≤ n ∧ j = .int .i64 k ∧ x = .int .i64 (Rdr.beN (l.take k) : Nat)) (fun _ j => n - (intOf j).toNat)
 case atStart => exact ⟨0, by omega, rfl, rfl⟩
 case round =>
  obtain ⟨k, hk, rfl, rfl⟩ := hrel
  by_cases hlt : k < n
  ·have hd : decide ((k:Int) < n) = true := by simp; omega
   obtain ⟨b', o', rfl⟩ := HB.out.addr (by omega) (by omega)
   have hc' := Bs.byte HB.out (j := k) (by rw [HN.out]; omega)
   have hbe := Rdr.beN_snoc (l.take k) (l[k]'(by rw [HN.out]; omega))
   rw [← take_snoc l k (by rw [HN.out]; omega)] at hbe
   have hb1 := Rdr.beN_lt_pow (l.take (k + 1))
   have hb2 : 256 ^ (l.take (k + 1)).length ≤ 256 ^ 4 := Nat.pow_le_pow_right (by omega) (by rw [List.length_take, HN.out]; omega)
   have hb4 : (256 : Nat) ^ 4 = 4294967296 := by decide
   generalize l[k]'(by rw [HN.out]; omega) = y at *
   have hll : y.toNat < 256 := y.toNat_lt
   generalize hB0 : Rdr.beN (l.take k) = B at *
   generalize hB2 : Rdr.beN (l.take (k + 1)) = B2 at *
   have HB2 := Lib.hid hB2
   have q1 : IntKind.i64.wrap ((256 : Int) * (B : Int)) = ((256 * B : Nat) : Int) := by rw [IntWalk.i64_in _ (by omega)]; omega
   have q2 : IntKind.i64.wrap (((256 * B : Nat) : Int) + (y.toNat : Int)) = (B2 : Int) := by rw [IntWalk.i64_in _ (by omega)]; omega
   have q3 : IntKind.i64.wrap ((256 : Int) * (B : Int) + (y.toNat : Int)) = (B2 : Int) := by rw [IntWalk.i64_in _ (by omega)]; omega
   have HW := Lib.hid q1
   have HW2 := Lib.hid q2
   have HW3 := Lib.hid q3
   clear hB0 hB2 hbe hb1 hb2 hb4
   go_wp2_with fail
   go_round
   case rel =>
    exact ⟨k + 1, by omega, by go_num, by first | rw [HB2.out] | (rw [HW.out, HW2.out, HB2.out]) | (rw [HW3.out, HB2.out])⟩
   case measure => simp [intOf]; omega
  ·obtain rfl : k = n := by omega
   have hd : decide ((k:Int) < (k : Int)) = false := by simp
   rw [List.take_of_length_le (by rw [HN.out]; omega)]
   go_wp2_with fail
   go_ret
   exact ⟨rfl, rfl⟩
end Go.Proofs.YtnejjfglkindjaaGreatDoor.Frm
namespace Go.Proofs.YtnejjfglkindjaaGreatDoor.RW
open Go.RowKit Go.Mir Go.Mir.Parts Wr
abbrev rv (room : Int) (p : Option Addr) (n c : Nat) (bad : Int) : Value := .agg #[.int .i64 room, .slice p n c, .int .i64 bad]
end Go.Proofs.YtnejjfglkindjaaGreatDoor.RW
namespace Go.Proofs.YtnejjfglkindjaaGreatDoor.RW
open Go.RowKit Go.Mir Go.Mir.Parts Wr
theorem be_take (n m k : Nat) (hk : k < m) : (be n m).take (k + 1) = (be n m).take k ++ [nb n (8 - m + k)] := by
 rw [List.take_succ_eq_append_getElem (by rw [be_length]; exact hk)]; simp [be]
set_option maxRecDepth 100000 in
set_option maxHeartbeats 400000 in
theorem number_any (n m : Nat) (_hn : n < 18446744073709551616) (hm : m ≤ 8) (w : World) :
  Calls Tryz.prog 22 #[.int .u64 (n : Int), .int .i64 (m : Int)] w fun e w' => (∃ v, e = .returned v ∧ w'.ownsRow w.heap.size 5 1 v m (bytesV (be n m))) ∧ Below w.heap.size w w' := by
 go_enter Tryz.func22, Tryz.ntmps22
 go_wp2
 go_loopw [5, 6] (fun x j wr => ∃ k : Nat, k ≤ m ∧ j = .int .i64 ((m : Int) - 1 - (k : Int)) ∧ wr.ownsRow w.heap.size 5 1 x k (bytesV ((be n m).take k)) ∧ Below w.heap.size w wr) (fun _ j _ => (intOf j + 1).toNat)
 case atStart => exact ⟨0, by omega, by go_num, World.ownsRow_nil _ _ _ _, Below.refl _ _⟩
 case round =>
  obtain ⟨k, hk, rfl, how, hbl⟩ := hrel
  have HO := Lib.hid how
  have HB := Lib.hid hbl
  clear how hbl
  by_cases hlt : k < m
  ·have hd : decide ((0 : Int) ≤ (m : Int) - 1 - (k : Int)) = true := by simp; omega
   obtain ⟨i, hi⟩ : ∃ i : Nat, (m : Int) - 1 - (k : Int) = (i : Int) := ⟨m - 1 - k, by omega⟩
   rw [hi]
   rw [hi] at hd
   have hi2 : 7 - i = 8 - m + k := by omega
   have hv := nb_int n i (by omega)
   rw [hi2] at hv
   have hil : i < 8 := by omega
   have HI := Lib.hid hi
   clear hi hi2
   have hbd : Hid (k + 1 ≤ 9223372036854775807 ∧ (k + 1) * 1 ≤ 140737488355328) := by show _ ∧ _; omega
   have hnew : Hid (Bs (wr.alloc (.cells #[.int .u8 ((nb n (8 - m + k)).toNat : Int)] 5)) (some ⟨wr.heap.size, 0, none⟩) 1 1 [nb n (8 - m + k)]) := Bs.made wr [nb n (8 - m + k)] _ _ _ 1 rfl rfl (by omega)
   have htk : Hid (bytesV ((be n m).take (k + 1)) = bytesV ((be n m).take k) ++ bytesV [nb n (8 - m + k)]) := by
    show _ = _
    rw [be_take n m k hlt, bytesV_append]
   go_wp2_with (at_builtin; refine wpList_append_nx rfl _ _ 22 rfl (base := w.heap.size) Tryz.underlying22 infoB rfl (by omega) rfl (HO.out.alloc _) rfl hnew.out (bytesV_one _) hbd.out (by have := HB.out.size; simp; omega) ?_)
   intro p' c' w1 hown hg hnx hne
   have HO' : Hid (w1.ownsRow w.heap.size 5 1 (.slice p' (k + 1) c') (k + 1) (bytesV ((be n m).take (k + 1)))) := by
    show World.ownsRow _ _ _ _ _ _ _
    rw [htk.out]; exact hown
   have HB' : Hid (Below w.heap.size w w1) := (HB.out.alloc HB.out.size _).trans ((Below.refl _ _).grown hg (by have := HB.out.size; simp; omega) (fun i hi => (HO.out.lt i hi).1))
   clear hown hg hnx hne
   go_wp2
   go_roundw
   case rel => exact ⟨k + 1, by omega, by have := HI.out; congr 1; omega, HO'.out, HB'.out⟩
   case measure => simp [intOf]
  ·obtain rfl : k = m := by omega
   have hd : decide ((0 : Int) ≤ (k : Int) - 1 - (k : Int)) = false := by simp; omega
   have HO2 : Hid (wr.ownsRow w.heap.size 5 1 u5 k (bytesV (be n k))) := by
    have := HO.out; rw [List.take_of_length_le (by rw [be_length]; omega)] at this; exact this
   go_wp2
   go_ret
   exact ⟨⟨_, rfl, HO2.out⟩, HB.out⟩
end Go.Proofs.YtnejjfglkindjaaGreatDoor.RW
namespace Go.Proofs.YtnejjfglkindjaaGreatDoor.Frm
open Go.RowKit Go.Mir Go.Mir.Parts Wr Cod
theorem info8b : (Tryz.prog.info? 5).map (fun i => (i.zero, i.size, i.bytes)) = some (some (.int .u8 0), 1, 1) := by kernel_rfl
theorem number4 (w : World) (n : Nat) (hn : n < 18446744073709551616) :
  Calls Tryz.prog 22 #[.int .u64 (n : Int), .int .i64 4] w fun e w' => ∃ p c, e = .returned (.slice p 4 c) ∧ w'.ownsRow w.heap.size 5 1 (.slice p 4 c) 4 (bytesV (be n 4)) ∧ Below w.heap.size w w' := by
 refine (Rdr.number_any w n 4 hn (by omega)).mono ?_
 rintro e w' ⟨p, c, he, ho, hb⟩
 rw [← be_numB _ _ (by omega), be_length] at he ho
 exact ⟨p, c, he, ho, hb⟩
set_option maxRecDepth 100000 in
set_option maxHeartbeats 1600000 in
theorem rbytes_any (p : Option Addr) (n c : Nat) (l : List UInt8) (w : World) (hB : Bs w p n c l) (hn : n ≤ 70000) :
  Calls Tryz.prog 26 #[.slice p n c] w fun e w' => ∃ p' c', e = .returned (.slice p' (frame l).length c') ∧ w'.ownsRow w.heap.size 5 1 (.slice p' (frame l).length c') (frame l).length (bytesV (frame l)) ∧ Below w.heap.size w w' := by
 have HB := Lib.hid hB
 have HN := Lib.hid hB.length
 have hle := hB.le
 have hmax := hB.max
 clear hB
 have hw1 : IntKind.u64.wrap (n : Int) = (n : Int) := by rw [IntKind.wrap_u64]; omega
 go_enter Tryz.func26, Tryz.ntmps26
 go_wp2_with fail
 refine (number4 w n (by omega)).mono ?_
 rintro e w1 ⟨p1, c1, rfl, ho1, hb1⟩
 have HO1 := Lib.hid ho1
 have HB1 := Lib.hid hb1
 have hs1 : Bs w1 p1 4 c1 (be n 4) := by
  obtain ⟨p9, c9, e9, h9⟩ := own_sl ho1
  cases e9
  exact h9
 have HS1 := Lib.hid hs1
 clear ho1 hb1 hs1
 go_upto_region 2 with fail
 have HO : Hid ((w1.alloc (.cells #[] 5)).ownsRow w1.heap.size 5 1 (.slice (some ⟨w1.heap.size, 0, none⟩) 0 0) 0 []) := ⟨rfl, .inr ⟨w1.heap.size, 0, _, rfl, Nat.le_refl _, heap_alloc_last _ _, Nat.le_refl _, by simp [maxLen], rfl, rfl⟩⟩
 have HBX : Hid (Below w1.heap.size w1 (w1.alloc (.cells #[] 5))) := Below.allocs _ _
 have HSX := Lib.hid (HS1.out.below HBX.out)
 have hlx := HSX.out.le
 have hmx := HSX.out.max
 go_wp2_with (at_builtin; refine wpList_append_nx rfl _ _ 22 rfl (base := w1.heap.size) Tryz.underlying22 info8b rfl (by omega) rfl HO.out rfl HSX.out (bytesV_one _) ⟨by omega, by omega⟩ HBX.out.size ?_)
 intro p5 c5 x5 ho5 hg5 _ _
 have hb5 := HBX.out.grown hg5 HBX.out.size (fun k hk => (HO.out.lt k hk).1)
 clear HO HSX HBX hg5 hlx hmx
 have HO := Lib.hid ho5
 have HBX := Lib.hid hb5
 have HSX := Lib.hid (HB.out.below (HB1.out.trans (hb5.mono HB1.out.size)))
 clear ho5 hb5
 have hlx := HSX.out.le
 have hmx := HSX.out.max
 go_wp2_with (at_builtin; refine wpList_append_nx rfl _ _ 22 rfl (base := w1.heap.size) Tryz.underlying22 info8b rfl (by omega) rfl HO.out rfl HSX.out (bytesV_one _) ⟨by omega, by omega⟩ HBX.out.size ?_)
 intro p6 c6 x6 ho6 hg6 _ _
 have hb6 := HBX.out.grown hg6 HBX.out.size (fun k hk => (HO.out.lt k hk).1)
 rw [← bytesV_append] at ho6
 have hs6 : Bs x6 p6 (4 + n) c6 (be n 4 ++ l) := by
  obtain ⟨p9, c9, e9, h9⟩ := own_sl ho6
  cases e9
  exact h9
 have HS6 := Lib.hid hs6
 have HB6 := Lib.hid (HB1.out.trans (hb6.mono HB1.out.size))
 have HO6 := Lib.hid (own_touch HO1.out (Turns.of_below (S := fun _ => False) hb6) (fun _ _ h => h))
 clear HO HBX HSX hg6 hlx hmx ho6 hb6 hs6 HO1 HS1 HB1
 have hcl := (Crc.more 0#32 (be n 4 ++ l)).isLt
 have hrof := CrcW.refOf_any p6 (4 + n) c6 (be n 4 ++ l) x6 HS6.out
 obtain ⟨C, hC⟩ : ∃ C, (Crc.more 0#32 (be n 4 ++ l)).toNat = C := ⟨_, rfl⟩
 rw [hC] at hcl hrof
 have HR := Lib.hid hrof
 have HC := Lib.hid hC
 clear hrof hC
 have hcw : IntKind.u64.wrap (C : Int) = (C : Int) := by rw [IntKind.wrap_u64]; omega
 go_wp2_with fail
 refine HR.out.mono ?_
 rintro e x7 ⟨rfl, rfl⟩
 go_wp2_with fail
 refine (number4 x6 C (by omega)).mono ?_
 rintro e x8 ⟨p8, c8, rfl, ho8, hb8⟩
 have HBX := Lib.hid (HB6.out.trans (hb8.mono HB6.out.size))
 have HO := Lib.hid (own_touch HO6.out (Turns.of_below (S := fun _ => False) hb8) (fun _ _ h => h))
 have hs8 : Bs x8 p8 4 c8 (be C 4) := by
  obtain ⟨p9, c9, e9, h9⟩ := own_sl ho8
  cases e9
  exact h9
 have HSX := Lib.hid hs8
 clear hb8 ho8 hs8 HO6 HB6 HR HS6
 have hlx := HSX.out.le
 have hmx := HSX.out.max
 go_wp2_with (at_builtin; refine wpList_append_nx rfl _ _ 22 rfl (base := w.heap.size) Tryz.underlying22 info8b rfl (by omega) rfl HO.out rfl HSX.out (bytesV_one _) ⟨by omega, by omega⟩ HBX.out.size ?_)
 intro p10 c10 x10 ho10 hg10 _ _
 have hb10 := HBX.out.grown hg10 HBX.out.size (fun k hk => (HO.out.lt k hk).1)
 rw [← bytesV_append] at ho10
 clear HO HSX HBX hg10 hlx hmx
 have HO := Lib.hid ho10
 have HBX := Lib.hid hb10
 have HSX := Lib.hid (HB.out.below hb10)
 clear ho10 hb10
 have hlx := HSX.out.le
 have hmx := HSX.out.max
 go_wp2_with (at_builtin; refine wpList_append_nx rfl _ _ 22 rfl (base := w.heap.size) Tryz.underlying22 info8b rfl (by omega) rfl HO.out rfl HSX.out (bytesV_one _) ⟨by omega, by omega⟩ HBX.out.size ?_)
 intro p11 c11 x11 ho11 hg11 _ _
 have hb11 := HBX.out.grown hg11 HBX.out.size (fun k hk => (HO.out.lt k hk).1)
 rw [← bytesV_append] at ho11
 have hfr : be n 4 ++ be C 4 ++ l = frame l := by
  unfold frame
  rw [HN.out, ← HC.out]
  simp
 rw [hfr] at ho11
 have hfl : (frame l).length = 8 + n := by rw [← hfr]; simp only [List.length_append, be_length, HN.out]
 have HO11 := Lib.hid ho11
 have HB11 := Lib.hid hb11
 have HFL := Lib.hid hfl
 clear HO HSX HBX hg11 hlx hmx ho11 hb11 hfr hfl
 go_wp2_with fail
 go_ret
 rw [HFL.out]
 exact ⟨p11, c11, rfl, HO11.out, HB11.out⟩
end Go.Proofs.YtnejjfglkindjaaGreatDoor.Frm
namespace Go.Proofs.YtnejjfglkindjaaGreatDoor.Frm
open Go.RowKit Go.Mir Go.Mir.Parts Wr Cod
set_option maxRecDepth 100000 in
theorem rencode_any (p : Option Addr) (n c : Nat) (l : List UInt8) (w : World) (hB : Bs w p n c l) (hn : n ≤ 4000) :
  Calls Tryz.prog 23 #[.slice p n c] w fun e w' => ∃ p' c', e = .returned (.tuple #[.slice p' (enc l).1.length c', .int .i64 (enc l).2]) ∧ w'.ownsRow w.heap.size 5 1 (.slice p' (enc l).1.length c') (enc l).1.length (bytesV (enc l).1) ∧ Below w.heap.size w w' := by
 have HC := Lib.hid (rbytes_any p n c l w hB (by omega))
 have HN := Lib.hid hB.length
 clear hB
 by_cases h0 : n = 0
 ·have d1 : decide ((n : Int) < 1) = true := decide_eq_true (by omega)
  have HE : Hid (enc l = ([], 1)) := by show _ = _; unfold enc; rw [if_pos (by rw [HN.out]; exact h0)]
  clear h0
  go_enter Tryz.func23, Tryz.ntmps23
  go_wp2_with fail
  go_ret2
  exact ⟨none, 0, by rw [HE.out]; rfl, by rw [HE.out]; exact ⟨rfl, .inl ⟨rfl, rfl⟩⟩, Below.refl _ _⟩
 ·have d1 : decide ((n : Int) < 1) = false := decide_eq_false (by omega)
  have d2 : decide ((65536 : Int) < (n : Int)) = false := decide_eq_false (by omega)
  have HE : Hid (enc l = (frame l, 0)) := by show _ = _; unfold enc; rw [if_neg (by rw [HN.out]; exact h0)]
  clear h0
  go_enter Tryz.func23, Tryz.ntmps23
  go_wp2_with fail
  refine HC.out.mono ?_
  rintro e w1 ⟨p1, c1, rfl, ho1, hb1⟩
  have HO1 := Lib.hid ho1
  have HB1 := Lib.hid hb1
  clear ho1 hb1
  go_wp2_with fail
  go_ret2
  exact ⟨p1, c1, by rw [HE.out]; rfl, by rw [HE.out]; exact HO1.out, HB1.out⟩
end Go.Proofs.YtnejjfglkindjaaGreatDoor.Frm
namespace Go.Proofs.YtnejjfglkindjaaGreatDoor.Cut
open Go.RowKit Go.Mir Go.Mir.Parts
def cutQ (p : Option Addr) (c k : Nat) : Option Addr := if c = k then p else p.map (·.add k)
theorem bs_cut {w : World} {p : Option Addr} {L c : Nat} {l : List UInt8} (h : Bs w p L c l) (k m : Nat) (hk : k + m ≤ L) : Bs w (cutQ p c k) m (c - k) ((l.drop k).take m) := by
 have hle := h.le
 have hmax := h.max
 have hl := h.length
 unfold cutQ
 by_cases hc : c = k
 ·have hm : m = 0 := by omega
  subst hm
  rw [if_pos hc, hc, Nat.sub_self, List.take_zero]
  exact ⟨by simp [bytesV], Nat.le_refl _, by omega, fun _ => rfl, fun a ha j u hu => by simp [bytesV] at hu⟩
 ·rw [if_neg hc]
  refine ⟨by rw [bytesV_length, List.length_take, List.length_drop, Nat.mul_one]; omega, by omega, by omega, fun hq => ?_, fun a ha j u hu => ?_⟩
  ·cases p with
   | none => have := h.nil0 rfl; omega
   | some a => cases hq
  ·cases p with
   | none => cases ha
   | some a0 =>
    have hj : j < m := by
     have := (List.getElem?_eq_some_iff.1 hu).1
     rw [bytesV_length, List.length_take] at this
     omega
    obtain ⟨b, o, hbo⟩ := h.addr (by omega) (by omega)
    obtain rfl := Option.some.inj hbo
    obtain rfl := Option.some.inj ha
    have h1 : (bytesV l)[k + j]? = some u := by
     rw [bytesV, List.getElem?_map] at hu ⊢
     rw [List.getElem?_take, if_pos hj, List.getElem?_drop] at hu
     exact hu
    have h2 := h.cell _ rfl (k + j) u h1
    rw [add_none] at h2
    show w.cell? (((⟨b, o, none⟩ : Addr).add k).add j) = some u
    rw [add_none, add_none, Nat.add_assoc]
    exact h2
theorem bs_drop {w : World} {p : Option Addr} {L c : Nat} {l : List UInt8} (h : Bs w p L c l) (k : Nat) (hk : k ≤ L) : Bs w (cutQ p c k) (L - k) (c - k) (l.drop k) := by
 have := bs_cut h k (L - k) (by omega)
 rwa [List.take_of_length_le (by rw [List.length_drop, h.length]; omega)] at this
theorem bs_take {w : World} {p : Option Addr} {n c k : Nat} {l : List UInt8} (h : Bs w p n c l) (hk : k ≤ n) : Bs w p k c (l.take k) :=
 ⟨by rw [bytesV_length, List.length_take, h.length, Nat.mul_one]; exact Nat.min_eq_left hk, Nat.le_trans hk h.le, h.max, h.nil0, fun a ha j u hu => by
  rw [show bytesV (l.take k) = (bytesV l).take k by simp [bytesV, List.map_take], List.getElem?_take] at hu
  split at hu
  ·exact h.cell a ha j u hu
  ·cases hu⟩
theorem cut3 {w : World} {p : Option Addr} {L c : Nat} {l : List UInt8} (h : Bs w p L c l) (k m : Nat) (lo hi : Int) (hlo : lo = (k : Int)) (hhi : hi = ((k + m : Nat) : Int)) (hk : k + m ≤ L) :
  ∀ w0, (Instr.sliceAt 22 (.slice p L c) (some (.int .i64 lo)) (some (.int .i64 hi)) none).run Tryz.prog w0 = .ok (.slice (cutQ p c k) m (c - k)) w0 := by
 subst hlo hhi
 have hle := h.le
 have hmax := h.max
 have hsz : (Tryz.prog.info? 5).map (·.size) = some 1 := by kernel_rfl
 obtain ⟨i, hi, hi1⟩ := Option.map_eq_some_iff.1 hsz
 have e1 : ((k : Int) + (m : Int)).toNat = k + m := by omega
 intro w0
 have hb1 : (0 : Int) ≤ (k : Int) + (m : Int) ∧ (k : Int) + (m : Int) ≤ (c : Int) := by omega
 have hb3 : (0 : Int) ≤ (k : Int) ∧ (k : Int) ≤ ((k + m : Nat) : Int) := by omega
 simp [Instr.sliceAt, Instr.slice, cutQ, run_underlying Tryz.underlying22, Instr.sliceBounds, Instr.sliceBound, asIntOf, sizeOf, typeInfo, hi, hi1, e1, hb1, hb3]
 try omega
theorem cut0 {w : World} {p : Option Addr} {L c : Nat} {l : List UInt8} (h : Bs w p L c l) (m : Nat) (hi : Int) (hhi : hi = (m : Int)) (hk : m ≤ L) :
  ∀ w0, (Instr.sliceAt 22 (.slice p L c) none (some (.int .i64 hi)) none).run Tryz.prog w0 = .ok (.slice p m c) w0 := by
 subst hhi
 have hle := h.le
 have hmax := h.max
 have hsz : (Tryz.prog.info? 5).map (·.size) = some 1 := by kernel_rfl
 obtain ⟨i, hi, hi1⟩ := Option.map_eq_some_iff.1 hsz
 intro w0
 have hb1 : (0 : Int) ≤ (m : Int) ∧ (m : Int) ≤ (c : Int) := by omega
 have hp : p.map (fun a => a.add 0) = p := by cases p <;> rfl
 simp [Instr.sliceAt, Instr.slice, run_underlying Tryz.underlying22, Instr.sliceBounds, Instr.sliceBound, asIntOf, sizeOf, typeInfo, hi, hb1, hp]
 try omega
theorem cutR {w : World} {p : Option Addr} {L c : Nat} {l : List UInt8} (h : Bs w p L c l) (k : Nat) (lo : Int) (hlo : lo = (k : Int)) (hk : k ≤ L) :
  ∀ w0, (Instr.sliceAt 22 (.slice p L c) (some (.int .i64 lo)) none none).run Tryz.prog w0 = .ok (.slice (cutQ p c k) (L - k) (c - k)) w0 := by
 subst hlo
 have hle := h.le
 have hmax := h.max
 have hsz : (Tryz.prog.info? 5).map (·.size) = some 1 := by kernel_rfl
 obtain ⟨i, hi, hi1⟩ := Option.map_eq_some_iff.1 hsz
 intro w0
 have hb1 : (0 : Int) ≤ (L : Int) ∧ (L : Int) ≤ (c : Int) := by omega
 have hb3 : (0 : Int) ≤ (k : Int) ∧ (k : Int) ≤ (L : Int) := by omega
 simp [Instr.sliceAt, Instr.slice, cutQ, run_underlying Tryz.underlying22, Instr.sliceBounds, Instr.sliceBound, asIntOf, sizeOf, typeInfo, hi, hi1, hb3]
 try omega
theorem bconv {w : World} {p : Option Addr} {n c : Nat} {l : List UInt8} (h : Bs w p n c l) : (convert 22 9 (.slice p n c)).run Tryz.prog w = .ok (.string (S l)) w :=
 run_conv (P := Tryz.prog) 22 9 5 Tryz.underlying22 Tryz.underlying5 Tryz.underlying9 h
theorem own_bs {w : World} {base n : Nat} {p : Option Addr} {c : Nat} {l : List UInt8} (h : w.ownsRow base 5 1 (.slice p n c) n (bytesV l)) : Bs w p n c l := by
 obtain ⟨p9, c9, e9, h9⟩ := own_sl h
 cases e9
 exact h9
theorem bs_zero {w w' : World} {p : Option Addr} {n c : Nat} {l : List UInt8} (h : Bs w p n c l) (hn : n = 0) : Bs w' p n c l := by
 subst hn
 have hl : l = [] := List.length_eq_zero_iff.1 h.length
 subst hl
 exact ⟨h.len, h.le, h.max, h.nil0, fun a ha j u hu => by simp [bytesV] at hu⟩
theorem bs_touch {S : Nat → Prop} {w w' : World} {p : Option Addr} {n c : Nat} {l : List UInt8} (h : Bs w p n c l) (ht : Turns S w w') (ho : 0 < n → ∀ a, p = some a → ¬ S a.block) : Bs w' p n c l := by
 by_cases h0 : 0 < n
 ·exact h.touch ht (fun a ha _ => ho h0 a ha)
 ·exact bs_zero h (by omega)
end Go.Proofs.YtnejjfglkindjaaGreatDoor.Cut
namespace Go.Mir
open Go.RowKit
theorem wpAnyH_mono {P : Program} {md : Region.Mode} {ops : Array Oper} {Q : Exit → Act → World → Prop} {S S' : World → Prop} (hs : ∀ x, S' x → S x) :
  ∀ (n : Nat) (listed : Array Bool) (a : Act) (w : World), wpAnyH P md ops Q S' n listed a w → wpAnyH P md ops Q S n listed a w
 | 0, _, _, _, h => h
 | n + 1, _, _, _, h => ⟨h.1, fun i hi => wpOp_mono (fun a' w' h' => ⟨hs _ h'.1, wpAnyH_mono hs n _ a' w' h'.2⟩) (h.2 i hi)⟩
def wpEagerX (P : Program) (ops : Array Oper) (Q : Exit → Act → World → Prop) : List (Oper × Bool) → (World → Prop) → Act → World → Prop
 | [], _, a, w => Q .normal a w
 | (o, true) :: r, S, a, w => ∃ v, YieldsIf P ops S o v a ∧ wpEagerX P ops Q r S (a.put o.dst v) w
 | (o, false) :: r, S, a, w => if Region.wanted o (yielded ops a.tmps) then o.wp P a w (fun a' w' => ∃ S' : World → Prop, (∀ x, S' x → S x) ∧ S' w' ∧ wpEagerX P ops Q r S' a' w') Q else wpEagerX P ops Q r S (a.put o.dst undef) w
theorem wpAnyH_eagerX {P : Program} {l : List Oper} {ops : Array Oper} (hl : l.toArray = ops) {Q : Exit → Act → World → Prop} (hs : Region.noSelect ops = true) (hQ : ∀ c a d v w, Q (.panic c) (a.put d v) w → Q (.panic c) a w) :
  ∀ (π : List (Nat × Bool)) (listed : Array Bool) (S : World → Prop) (a : Act) (w : World), planB ops π listed = true → S w → wpEagerX P ops Q (planOps l π) S a w → wpAnyH P .any ops Q S π.length listed a w
 | [], listed, S, a, w, hp, _, h => by
  refine wpAnyH_done ?_ h _
  simpa [planB, List.isEmpty_iff] using hp
 | (i, true) :: r, listed, S, a, w, hp, hS, h => by
  simp only [planB, Bool.and_eq_true] at hp
  obtain ⟨⟨⟨h1, h2⟩, h3⟩, h4⟩ := hp
  obtain ⟨o, ho⟩ := Option.isSome_iff_exists.1 h1
  have hn : nthO l i = some o := by rw [← nthO_eq, hl]; exact ho
  simp only [planOps, hn, wpEagerX] at h
  obtain ⟨v, hy, h⟩ := h
  exact wpAnyH_take ho hs h2 h3 (fun c a w => hQ c a _ _ w) hy hS (wpAnyH_eagerX hl hs hQ r _ S _ _ h4 hS h)
 | (i, false) :: r, listed, S, a, w, hp, hS, h => by
  simp only [planB, Bool.and_eq_true, beq_iff_eq] at hp
  obtain ⟨⟨h1, h2⟩, h4⟩ := hp
  obtain ⟨o, ho⟩ := Option.isSome_iff_exists.1 h1
  have hn : nthO l i = some o := by rw [← nthO_eq, hl]; exact ho
  simp only [planOps, hn, wpEagerX] at h
  refine wpAnyH_all h2 (by simp) fun j hj => ?_
  rw [List.mem_singleton] at hj
  subst hj
  unfold wpOp
  simp only [ho]
  split at h
  ·rename_i hw
   rw [if_pos hw]
   exact .inl (Oper.wp_mono (fun a' w' ⟨S', h5, h6, h7⟩ => ⟨h5 _ h6, wpAnyH_mono h5 _ _ _ _ (wpAnyH_eagerX hl hs hQ r _ S' _ _ h4 h6 h7)⟩) h)
  ·rename_i hw
   rw [if_neg hw]
   exact ⟨hS, wpAnyH_eagerX hl hs hQ r _ S _ _ h4 hS h⟩
theorem wp_region_eager_x {P : Program} {id : Nat} {Q : Exit → Act → World → Prop} {a : Act} {w : World} {l : List Oper} (S : World → Prop) (π : List (Nat × Bool)) (hm : P.follows .mixedOrders = true)
  (hp : (planB l.toArray π (Array.replicate l.length false) && Region.noSelect l.toArray && π.length == l.length) = true) (hS : S w.drew)
  (h : wpEagerX P l.toArray (NoPanic Q) (planOps l π) S a w.drew) : (Code.region id l.toArray true).wp P Q a w := by
 refine wp_region_noPanic ?_
 simp only [Bool.and_eq_true, beq_iff_eq] at hp
 obtain ⟨⟨h1, h2⟩, h3⟩ := hp
 have := wpAnyH_eagerX (P := P) (Q := NoPanic Q) (l := l) rfl h2 (fun _ _ _ _ _ h => h) π (Array.replicate l.length false) S a w.drew h1 hS h
 refine wp_region_held hm (S := S) ?_
 rw [h3] at this
 have hz : l.toArray.size = l.length := List.size_toArray ..
 rw [hz]
 exact this
section
variable {P : Program} {ops : Array Oper} {S : World → Prop} {Q : Exit → Act → World → Prop}
theorem eagerXOpen {l : List Oper} {i : Nat} {b : Bool} {r : List (Nat × Bool)} {a : Act} {w : World} {o : Oper} (ho : nthO l i = some o)
  (h : wpEagerX P ops Q ((o, b) :: planOps l r) S a w) : wpEagerX P ops Q (planOps l ((i, b) :: r)) S a w := by
 unfold planOps; rw [ho]; exact h
theorem eagerXEnd {l : List Oper} {a : Act} {w : World} (h : Q .normal a w) : wpEagerX P ops (NoPanic Q) (planOps l []) S a w := h
theorem wpEagerX_take {o : Oper} {r : List (Oper × Bool)} {a : Act} {w : World} {v : Value} (hw : Region.wanted o (yielded ops a.tmps) = true)
  (hy : ∀ w', S w' → (execOp a.eval o).run P w' = .ok (.value v) w') (h : wpEagerX P ops Q r S (a.put o.dst v) w) : wpEagerX P ops Q ((o, true) :: r) S a w := ⟨v, .inl ⟨hw, hy⟩, h⟩
theorem wpEagerX_skip {o : Oper} {r : List (Oper × Bool)} {a : Act} {w : World} (hw : Region.wanted o (yielded ops a.tmps) = false)
  (h : wpEagerX P ops Q r S (a.put o.dst undef) w) : wpEagerX P ops Q ((o, true) :: r) S a w := ⟨undef, .inr ⟨hw, rfl⟩, h⟩
theorem wpEagerX_load {op : Oper} {r : List (Oper × Bool)} {a : Act} {w : World} (hw : Region.wanted op (yielded ops a.tmps) = true) (ty : TypeId) (x : Operand) (ho : op.op = .load ty x)
  (b o : Nat) (hx : a.eval x = .pointer (some ⟨b, o, none⟩)) (M : Array Value) (d : TypeDesc) (hc : ∀ w', S w' → w'.rangeAt b o M.toList)
  (hu : P.underlying ty = some d) (hd : d.isRow = true) (hi : (P.info? ty).map (·.size) = some M.size)
  (h : wpEagerX P ops Q r S (a.put op.dst (.agg M)) w) : wpEagerX P ops Q ((op, true) :: r) S a w := by
 refine wpEagerX_take hw (fun w' hb => ?_) h
 unfold execOp
 simp only [ho, hx, Instr.loadAt, Instr.sureAddr, Sem.run_bind, Sem.run_pure, Result.andThen_ok, run_loadVar_mid w' b o ty M.toList d (hc w' hb) hu hd (by simpa using hi)]
theorem wpEagerX_op {o : Oper} {r : List (Oper × Bool)} {a : Act} {w : World} (hw : Region.wanted o (yielded ops a.tmps) = true)
  (h : ∀ K : Act → World → Prop, Shut (∀ (S' : World → Prop) a w, (∀ x, S' x → S x) → S' w → wpEagerX P ops Q r S' a w → K a w) → Oper.wp P o a w K Q) : wpEagerX P ops Q ((o, false) :: r) S a w := by
 unfold wpEagerX; rw [if_pos hw]; exact h _ fun S' _ _ h0 h1 h2 => ⟨S', h0, h1, h2⟩
theorem eagerXLoadAt {r : List (Oper × Bool)} {a : Act} {w : World} (n : Nat) {d : Option Nat} {ty : TypeId} {t : TypeId} {p : String} {af : Array Edge} {g : Option (Nat × Bool)} {b : Bool}
  (h : wpEagerX P ops Q ((⟨d, .load ty (.tmp n), t, p, af, g⟩, b) :: r) S a w) : wpEagerX P ops Q ((⟨d, .load ty (.tmp n), t, p, af, g⟩, b) :: r) S a w := h
end
end Go.Mir
namespace Go.Proofs.YtnejjfglkindjaaGreatDoor.Frm
open Go.RowKit Go.Mir Go.Mir.Parts Wr Cod Cut
theorem results_tmp3 {P : Program} {fn : Func} {p q r : Tmp} (h : fn.results = #[.tmp p, .tmp q, .tmp r]) (tmps : Array Value) (w : World) :
  (results fn tmps).run P w = .ok (.tuple #[tmps.getD p undef, tmps.getD q undef, tmps.getD r undef]) w := by
 simp [results, h]
def one (l : List UInt8) : List UInt8 × Nat × Int :=
 if l.length < 4 then ([], 0, 2)
 else if Rdr.beN (l.take 4) < 1 ∨ 65536 < Rdr.beN (l.take 4) then ([], 0, 4)
 else if l.length < 8 + Rdr.beN (l.take 4) then ([], 0, 2)
 else if frame ((l.drop 8).take (Rdr.beN (l.take 4))) = l.take (8 + Rdr.beN (l.take 4)) then ((l.drop 8).take (Rdr.beN (l.take 4)), 8 + Rdr.beN (l.take 4), 0)
 else ([], 0, 9)
def OneP (l : List UInt8) (w : World) (e : Ending) (w' : World) : Prop := ∃ p' c', e = .returned (.tuple #[.slice p' (one l).1.length c', .int .i64 ((one l).2.1 : Int), .int .i64 (one l).2.2]) ∧ w'.ownsRow w.heap.size 5 1 (.slice p' (one l).1.length c') (one l).1.length (bytesV (one l).1) ∧ Below w.heap.size w w'
set_option maxRecDepth 100000 in
theorem rone_any (p : Option Addr) (n c : Nat) (l : List UInt8) (w : World) (hB : Bs w p n c l) (hn : n ≤ 1099511627776) :
  Calls Tryz.prog 122 #[.slice p n c] w (OneP l w) := by
 have HB := Lib.hid hB
 have HN := Lib.hid hB.length
 have hle := hB.le
 have hmax := hB.max
 clear hB
 have HF : Hid (∀ k, one l = ([], 0, k) → OneP l w (.returned (.tuple #[.slice none 0 0, .int .i64 0, .int .i64 k])) w) := fun k hk => by
  unfold OneP
  rw [hk]
  exact ⟨none, 0, rfl, ⟨rfl, .inl ⟨rfl, rfl⟩⟩, Below.refl _ _⟩
 by_cases h4 : n < 4
 ·have d1 : decide ((n : Int) < 4) = true := decide_eq_true (by omega)
  have HG := Lib.hid (HF.out 2 (by unfold one; rw [if_pos (by rw [HN.out]; exact h4)]))
  clear h4
  go_enter Tryz.func122, Tryz.ntmps122
  go_wp2_with fail
  refine bodyPost_ret (results_tmp3 rfl _ _) rfl ?_
  exact HG.out
 have d1 : decide ((n : Int) < 4) = false := decide_eq_false (by omega)
 have hrun := cut0 HB.out 4 4 rfl (by omega)
 have hV := Rdr.beN_lt_pow (l.take 4)
 rw [List.length_take, HN.out, Nat.min_eq_left (by omega)] at hV
 have hone : one l = if Rdr.beN (l.take 4) < 1 ∨ 65536 < Rdr.beN (l.take 4) then ([], 0, 4)
  else if l.length < 8 + Rdr.beN (l.take 4) then ([], 0, 2)
  else if frame ((l.drop 8).take (Rdr.beN (l.take 4))) = l.take (8 + Rdr.beN (l.take 4)) then ((l.drop 8).take (Rdr.beN (l.take 4)), 8 + Rdr.beN (l.take 4), 0)
  else ([], 0, 9) := by unfold one; rw [if_neg (by rw [HN.out]; omega)]
 have hval := value_any p 4 c (l.take 4) w (bs_take HB.out (by omega)) (by omega)
 rw [HN.out] at hone
 generalize Rdr.beN (l.take 4) = V at *
 have HVAL := Lib.hid hval
 have HONE := Lib.hid hone
 clear hval hone h4
 go_enter Tryz.func122, Tryz.ntmps122
 go_wp2_with fail
 refine HVAL.out.mono ?_
 rintro e w' ⟨rfl, rfl⟩
 clear HVAL hrun
 by_cases h1 : V < 1
 ·have e1 : decide ((V : Int) < 1) = true := decide_eq_true (by omega)
  have HG := Lib.hid (HF.out 4 (by rw [HONE.out, if_pos (.inl h1)]))
  clear h1
  go_wp2_with fail
  refine bodyPost_ret (results_tmp3 rfl _ _) rfl ?_
  exact HG.out
 have e1 : decide ((V : Int) < 1) = false := decide_eq_false (by omega)
 by_cases h2 : 65536 < V
 ·have e2 : decide ((65536 : Int) < (V : Int)) = true := decide_eq_true (by omega)
  have HG := Lib.hid (HF.out 4 (by rw [HONE.out, if_pos (.inr h2)]))
  clear h2
  go_wp2_with fail
  refine bodyPost_ret (results_tmp3 rfl _ _) rfl ?_
  exact HG.out
 have e2 : decide ((65536 : Int) < (V : Int)) = false := decide_eq_false (by omega)
 have q1 : IntKind.i64.wrap (8 + (V : Int)) = ((8 + V : Nat) : Int) := by rw [IntWalk.i64_in _ (by omega)]; omega
 by_cases h3 : n < 8 + V
 ·have e3 : decide ((n : Int) < ((8 + V : Nat) : Int)) = true := decide_eq_true (by omega)
  have e4 : decide ((n : Int) < 8 + (V : Int)) = true := decide_eq_true (by omega)
  have HG := Lib.hid (HF.out 2 (by rw [HONE.out, if_neg (by omega), if_pos h3]))
  clear h3
  go_wp2_with fail
  refine bodyPost_ret (results_tmp3 rfl _ _) rfl ?_
  exact HG.out
 have e3 : decide ((n : Int) < ((8 + V : Nat) : Int)) = false := decide_eq_false (by omega)
 have e4 : decide ((n : Int) < 8 + (V : Int)) = false := decide_eq_false (by omega)
 have hone := HONE.out
 rw [if_neg (by omega), if_neg h3] at hone
 have HON := Lib.hid hone
 clear hone HONE
 have hcut := cut3 HB.out 8 V 8 (8 + (V : Int)) rfl (by omega) (by omega)
 have HCB := Lib.hid (fun w' (hb : Below w.heap.size w w') => bs_cut (HB.out.below hb) 8 V (by omega))
 have HLB : Hid (((l.drop 8).take V).length = V) := by show _ = _; rw [List.length_take, List.length_drop, HN.out]; omega
 go_upto_region 8 with fail
 have HO : Hid ((w.alloc (.cells #[] 5)).ownsRow w.heap.size 5 1 (.slice (some ⟨w.heap.size, 0, none⟩) 0 0) 0 []) := ⟨rfl, .inr ⟨w.heap.size, 0, _, rfl, Nat.le_refl _, heap_alloc_last _ _, Nat.le_refl _, by simp [maxLen], rfl, rfl⟩⟩
 have HBX : Hid (Below w.heap.size w (w.alloc (.cells #[] 5))) := Below.allocs _ _
 have HSX := Lib.hid (HCB.out _ HBX.out)
 have hlx := HSX.out.le
 have hmx := HSX.out.max
 go_upto_region 9 with (at_builtin; refine wpList_append_nx rfl _ _ 22 rfl (base := w.heap.size) Tryz.underlying22 info8b rfl (by omega) rfl HO.out rfl HSX.out (bytesV_one _) ⟨by omega, by omega⟩ HBX.out.size ?_)
 intro p5 c5 x5 ho5 hg5 _ _
 have hb5 := HBX.out.grown hg5 HBX.out.size (fun k hk => (HO.out.lt k hk).1)
 try rw [Nat.zero_add] at ho5
 try rw [List.nil_append] at ho5
 clear HO HSX HBX hg5 hlx hmx hcut
 have hs5 : Bs x5 p5 V c5 ((l.drop 8).take V) := by
  obtain ⟨p9, c9, e9, h9⟩ := own_sl ho5
  cases e9
  exact h9
 have HO5 := Lib.hid ho5
 have HB5 := Lib.hid hb5
 have HS5 := Lib.hid hs5
 have HSL := Lib.hid (HB.out.below hb5)
 clear ho5 hb5 hs5
 have hcut := cut0 HSL.out (8 + V) (8 + (V : Int)) (by omega) (by omega)
 generalize hbody : (l.drop 8).take V = body at *
 go_upto_region 9 with fail
 have HC1 : Hid (∀ w', Below x5.heap.size x5 w' → (convert 22 9 (.slice p (8 + V) c)).run Tryz.prog w' = .ok (.string (S (l.take (8 + V)))) w') := fun w' hb => bconv (bs_take (HSL.out.below hb) (by omega))
 have hcut2 := cut0 HSL.out (8 + V) ((8 + V : Nat) : Int) rfl (by omega)
 clear HSL
 refine wp_region_eager_x (Below x5.heap.size x5) [(0, true), (3, true), (4, true), (5, true), (6, true), (7, true), (1, false), (2, true), (8, true)] (by kernel_rfl) (by kernel_rfl) ?_ (eagerXOpen rfl ?_)
 ·exact below_drew1 _ _
 have hy0 : Below x5.heap.size x5 x5.drew := below_drew1 _ _
 repeat (first
  | (apply wpEagerX_take; (· rfl); (· (intro w' hb'; have hk' := (fun w' hb => HC1.out w' hb) w' hb'; go_split_ands; go_simp; try with_reducible rfl)); (try simp only [Act.put, zA, zB, zC]); (try refine eagerXOpen rfl ?_))
  | ((first | (apply wpEagerX_take; (· rfl); (· (intro w' hb'; go_simp; try with_reducible rfl))) | refine wpEagerX_skip (by rfl) ?_ | refine wpEager_off (by rfl) ?_); (try simp only [Act.put, zA, zB, zC]); (try refine eagerXOpen rfl ?_)))
 (refine wpEagerX_op (by rfl) (fun K hK => ?_); go_simp; (refine (rbytes_any p5 V c5 body x5.drew (HS5.out.below hy0) (by omega)).mono ?_; rintro e y ⟨q2, d2, rfl, ho, hb⟩; have HO := Lib.hid (own_bs ho); have HY := Lib.hid (hy0.trans hb); have hsub : ∀ x, Below y.heap.size y x → Below x5.heap.size x5 x := fun x hx => HY.out.trans (hx.mono HY.out.size); have hy1 : Below y.heap.size y y := Below.refl _ _; clear hb ho); refine Shut.out hK _ _ _ hsub (by assumption) ?_; clear hK K hsub; (try simp only [Act.put, zA, zB, zC]); (try refine eagerXOpen rfl ?_))
 have HC2 : Hid (∀ w', Below y.heap.size y w' → (convert 22 9 (.slice q2 (frame body).length d2)).run Tryz.prog w' = .ok (.string (S (frame body))) w') := fun w' hb => bconv (HO.out.below hb)
 repeat (first
  | (apply wpEagerX_take; (· rfl); (· (intro w' hb'; have hk' := (fun w' hb => HC2.out w' hb) w' hb'; go_split_ands; go_simp; try with_reducible rfl)); (try simp only [Act.put, zA, zB, zC]); (try refine eagerXOpen rfl ?_))
  | ((first | (apply wpEagerX_take; (· rfl); (· (intro w' hb'; go_simp; try with_reducible rfl))) | refine wpEagerX_skip (by rfl) ?_ | refine wpEager_off (by rfl) ?_); (try simp only [Act.put, zA, zB, zC]); (try refine eagerXOpen rfl ?_)))
 refine eagerXEnd ?_
 clear HC2 HC1 hcut hcut2 hy0 hy1
 have HOF := Lib.hid (own_touch HO5.out (Turns.of_below (S := fun _ => False) HY.out) (fun _ _ h => h))
 have HBF := Lib.hid (HB5.out.trans (HY.out.mono HB5.out.size))
 by_cases hq : frame body = l.take (8 + V)
 ·have hqb : (frame body == List.take (8 + V) l) = true := beq_iff_eq.2 hq
  have HR : Hid (one l = (body, 8 + V, 0)) := by show _ = _; rw [HON.out, if_pos hq]
  clear hq
  rw [hqb]
  simp only [Bool.not_true]
  go_wp2_with fail
  refine bodyPost_ret (results_tmp3 rfl _ _) rfl ?_
  unfold OneP
  rw [HR.out]
  dsimp only
  rw [HLB.out]
  exact ⟨p5, c5, by rw [show ((8 + V : Nat) : Int) = 8 + (V : Int) by omega]; rfl, HOF.out, HBF.out⟩
 ·have hqb : (frame body == List.take (8 + V) l) = false := beq_eq_false_iff_ne.2 hq
  have HG : Hid (OneP l w (.returned (.tuple #[.slice none 0 0, .int .i64 0, .int .i64 9])) y) := by
   show OneP _ _ _ _
   unfold OneP
   rw [HON.out, if_neg hq]
   exact ⟨none, 0, rfl, ⟨rfl, .inl ⟨rfl, rfl⟩⟩, HBF.out⟩
  clear hq
  rw [hqb]
  simp only [Bool.not_false]
  go_wp2_with fail
  refine bodyPost_ret (results_tmp3 rfl _ _) rfl ?_
  exact HG.out
end Go.Proofs.YtnejjfglkindjaaGreatDoor.Frm
namespace Go.Proofs.YtnejjfglkindjaaGreatDoor.Frm
open Go.RowKit Go.Mir Go.Mir.Parts Wr Cod Cut Rdr
theorem num_short {l : List UInt8} (h : l.length < 4) : (RD.new l).numV 4 = 0 ∧ (RD.new l).numS 4 = ⟨l, 0, some 2⟩ := by
 unfold RD.numV RD.numS RD.new
 rw [show fitsW 4 = true by decide]
 unfold RD.takeB RD.takeS
 dsimp only
 constructor
 ·rw [if_neg (by omega)]; rfl
 ·rw [if_neg (by simp), if_neg (by simp), if_pos (by omega)]
theorem num_full {l : List UInt8} (h : 4 ≤ l.length) : (RD.new l).numV 4 = beN (l.take 4) ∧ (RD.new l).numS 4 = ⟨l, 4, none⟩ := by
 have hk := take_in (l := l) (pos := 0) (m := 4) (by omega)
 unfold RD.numV RD.numS RD.new
 rw [show fitsW 4 = true by decide]
 exact ⟨by rw [show ((4 : Nat) : Int) = (4 : Int) from rfl] at hk; rw [hk.1]; rfl, by rw [show ((4 : Nat) : Int) = (4 : Int) from rfl] at hk; rw [hk.2]⟩
def sec (l : List UInt8) (V : Nat) : RD := RD.new ((l.drop 4).take (min l.length (8 + V) - 4))
theorem sec_short {l : List UInt8} {V : Nat} (h4 : 4 ≤ l.length) (h : l.length < 8 + V) : (((sec l V).numS 4).takeS V true).err = 2 := by
 unfold sec
 rw [Nat.min_eq_left (by omega)]
 have hl : ((l.drop 4).take (l.length - 4)).length = l.length - 4 := by rw [List.length_take, List.length_drop]; omega
 by_cases h8 : l.length - 4 < 4
 ·rw [(num_short (by rw [hl]; exact h8)).2]; rfl
 ·rw [(num_full (by rw [hl]; omega)).2]
  unfold RD.takeS
  dsimp only
  rw [if_neg (by simp), if_neg (by simp), if_pos (by rw [hl]; omega)]
  rfl
theorem sec_full {l : List UInt8} {V : Nat} (h : 8 + V ≤ l.length) : (sec l V).numV 4 = beN ((l.drop 4).take 4) ∧ ((sec l V).numS 4).takeB V true = (l.drop 8).take V ∧ (((sec l V).numS 4).takeS V true).err = 0 := by
 unfold sec
 rw [Nat.min_eq_right (by omega)]
 have hl : ((l.drop 4).take (8 + V - 4)).length = 4 + V := by rw [List.length_take, List.length_drop]; omega
 obtain ⟨a, b⟩ := num_full (l := (l.drop 4).take (8 + V - 4)) (by rw [hl]; omega)
 have hk := take_in (l := (l.drop 4).take (8 + V - 4)) (pos := 4) (m := V) (by rw [hl]; omega)
 rw [a, b, hk.1, hk.2]
 refine ⟨by rw [List.take_take, Nat.min_eq_left (by omega)], ?_, rfl⟩
 rw [List.drop_take, List.drop_drop, List.take_take, Nat.min_eq_left (by omega)]
theorem crc_frame {l : List UInt8} {V : Nat} (h : 8 + V ≤ l.length) (hV : beN (l.take 4) = V) : (Crc.more 0#32 ([l.take 4, (l.drop 8).take V].flatten)).toNat = beN ((l.drop 4).take 4) ↔ frame ((l.drop 8).take V) = l.take (8 + V) := by
 have hlb : ((l.drop 8).take V).length = V := by rw [List.length_take, List.length_drop]; omega
 have h4 : (l.take 4).length = 4 := by rw [List.length_take]; omega
 have h44 : ((l.drop 4).take 4).length = 4 := by rw [List.length_take, List.length_drop]; omega
 have hbe : be V 4 = l.take 4 := by rw [← hV]; exact be_beN _ 4 h4 (by omega)
 have hsp : l.take (8 + V) = l.take 4 ++ (l.drop 4).take 4 ++ (l.drop 8).take V := by
  rw [show 8 + V = 4 + (4 + V) by omega, List.take_add, List.take_add, List.drop_drop, List.append_assoc]
 unfold frame
 rw [hlb, hbe, hsp]
 have hC := (Crc.more 0#32 ([l.take 4, (l.drop 8).take V].flatten)).isLt
 generalize (Crc.more 0#32 ([l.take 4, (l.drop 8).take V].flatten)).toNat = C at *
 constructor
 ·intro hc
  rw [hc, be_beN _ 4 h44 (by omega)]
 ·intro he
  have h1 := List.append_inj_left he (by simp [h4, h44, be_length])
  have h2 := List.append_inj_right h1 rfl
  rw [← h2, beN_be _ _ (by omega) (by omega)]
set_option maxRecDepth 100000 in
set_option maxHeartbeats 1600000 in
theorem one_any (p : Option Addr) (n c : Nat) (l : List UInt8) (w : World) (hE : EType w) (hB : Bs w p n c l) (hn : n ≤ 1099511627776) :
  Calls Tryz.prog 106 #[.slice p n c] w (OneP l w) := by
 have HB := Lib.hid hB
 have HN := Lib.hid hB.length
 have HE := Lib.hid hE
 have hle := hB.le
 have hmax := hB.max
 clear hB
 obtain ⟨m, hm⟩ : ∃ m, m = min n 4 := ⟨_, rfl⟩
 obtain ⟨V, hV⟩ : ∃ V, (RD.new (l.take m)).numV 4 = V := ⟨_, rfl⟩
 obtain ⟨s1, hs1⟩ : ∃ s1, (RD.new (l.take m)).numS 4 = s1 := ⟨_, rfl⟩
 have hV64 : V < 18446744073709551616 := by rw [← hV]; exact numV_lt _ _
 have HNO : Hid (¬ (1 ≤ V ∧ V ≤ 65536) → one l = ([], 0, (s1.fail 4).err) ∧ (s1.fail 4).err ≠ 0) := fun hno => by
  by_cases h4 : l.length < 4
  ·have hml : l.take m = l := List.take_of_length_le (by rw [hm, HN.out]; have := HN.out; omega)
   rw [hml, (num_short h4).2] at hs1
   subst hs1
   exact ⟨by unfold one; rw [if_pos h4]; rfl, by simp [RD.fail, RD.err]⟩
  ·have hml : m = 4 := by have := HN.out; omega
   have hl4 : 4 ≤ (l.take m).length := by rw [List.length_take]; omega
   rw [(num_full hl4).2] at hs1
   rw [(num_full hl4).1, hml, List.take_take] at hV
   subst hs1
   exact ⟨by unfold one; rw [if_neg h4, if_pos (by rw [show beN (l.take 4) = V from hV]; omega)]; rfl, by simp [RD.fail, RD.err]⟩
 have HYES : Hid (1 ≤ V ∧ V ≤ 65536 → 4 ≤ n ∧ V = beN (l.take 4) ∧ s1.err = 0) := fun hyes => by
  by_cases h4 : l.length < 4
  ·have hml : l.take m = l := List.take_of_length_le (by rw [hm, HN.out]; have := HN.out; omega)
   rw [hml, (num_short h4).1] at hV
   omega
  ·have hml : m = 4 := by have := HN.out; omega
   have hl4 : 4 ≤ (l.take m).length := by rw [List.length_take]; omega
   rw [(num_full hl4).2] at hs1
   rw [(num_full hl4).1, hml, List.take_take] at hV
   subst hs1
   exact ⟨by have := HN.out; omega, hV.symm, rfl⟩
 have HV := Lib.hid hV
 have HS1 := Lib.hid hs1
 clear hV hs1
 have hmi : (if (4 : Int) < (n : Int) then (4 : Int) else (n : Int)) = (m : Int) := by split <;> omega
 have hmi2 : (if 4 < n then (4 : Int) else (n : Int)) = (m : Int) := by split <;> omega
 have hcut := cut0 HB.out m (m : Int) rfl (by omega)
 have HG := Lib.hid hE.lt
 have HM := Lib.hid hm
 have HBM := Lib.hid (bs_take HB.out (k := m) (by omega))
 have hm4 : m ≤ 4 := by omega
 clear hE hm
 go_enter Tryz.func106, Tryz.ntmps106
 go_wp2_with fail
 refine (Rdr.new_any w p m c (l.take m) HBM.out (by omega)).mono ?_
 rintro e w1 ⟨rb, rfl, hr1, hb1⟩
 have HR1 := Lib.hid hr1
 have HB1 := Lib.hid hb1
 clear hr1 hb1 hcut hmi hmi2
 go_wp2_with fail
 refine (num_any _ HR1.out 4 (by omega)).mono ?_
 rintro e w2 ⟨rfl, hl2⟩
 have HB2 := Lib.hid (HB1.out.trans (hl2.turn.below HB1.out.size (fun i hi => by obtain ⟨v, bv, h⟩ := HR1.out; have := h.low; omega)))
 have HR2 := Lib.hid hl2.there
 clear hl2 HR1 HB1
 rw [HV.out]
 rw [HS1.out] at HR2
 have HE2 := Lib.hid (HE.out.below HB2.out HG.out)
 by_cases hfit : 1 ≤ V ∧ V ≤ 65536
 rotate_left
 ·have HFT : Hid (decide (1 ≤ V ∧ V ≤ 65536) = false) := decide_eq_false hfit
  obtain ⟨ho, hz⟩ := HNO.out hfit
  have HO := Lib.hid ho
  have hz1 : ((s1.fail 4).err != 0) = true := by rw [bne_iff_ne]; exact hz
  clear hfit ho hz
  go_wp2_with fail
  refine (fits_any V hV64 w2).mono ?_
  rintro e w3 ⟨rfl, rfl⟩
  rw [HFT.out]
  go_wp2_with fail
  refine (fail_any _ HR2.out 4 (by omega)).mono ?_
  rintro e w3 ⟨rfl, hl3⟩
  have HB3 := Lib.hid (HB2.out.trans (hl3.turn.below HB2.out.size (fun i hi => by obtain ⟨v, bv, h⟩ := HR2.out; have := h.low; omega)))
  have HR3 := Lib.hid hl3.there
  have HE3 := Lib.hid (HE.out.below HB3.out HG.out)
  clear hl3
  go_wp2_with fail
  refine (err_any _ HR3.out HE3.out).mono ?_
  rintro e w4 ⟨rfl, hb4⟩
  have HB4 := Lib.hid (HB3.out.trans (hb4.mono HB3.out.size))
  clear hb4
  generalize (s1.fail 4).err = E at *
  go_wp2_with fail
  refine bodyPost_ret (results_tmp3 rfl _ _) rfl ?_
  unfold OneP
  rw [HO.out]
  exact ⟨none, 0, rfl, ⟨rfl, .inl ⟨rfl, rfl⟩⟩, HB4.out⟩
 have HFT : Hid (decide (1 ≤ V ∧ V ≤ 65536) = true) := decide_eq_true hfit
 obtain ⟨h4, hVe, hs0⟩ := HYES.out hfit
 have HVE := Lib.hid hVe
 have HS0 := Lib.hid hs0
 obtain ⟨hf1, hf2⟩ := hfit
 clear hVe hs0 HNO HYES
 go_wp2_with fail
 refine (fits_any V hV64 w2).mono ?_
 rintro e w3 ⟨rfl, rfl⟩
 rw [HFT.out]
 go_wp2_with fail
 refine (err_any _ HR2.out HE2.out).mono ?_
 rintro e w3 ⟨rfl, hb3⟩
 have HB3 := Lib.hid (HB2.out.trans (hb3.mono HB2.out.size))
 clear hb3 HR2 HB2 HE2 HS1 HV HFT
 rw [HS0.out]
 clear HS0
 obtain ⟨M, hM⟩ : ∃ M, M = min n (8 + V) := ⟨_, rfl⟩
 have hw8 : IntKind.i64.wrap (V : Int) = (V : Int) := by rw [IntWalk.i64_in _ (by omega)]
 have hw9 : IntKind.i64.wrap (8 + (V : Int)) = 8 + (V : Int) := by rw [IntWalk.i64_in _ (by omega)]
 have hmi : (if (8 : Int) + (V : Int) < (n : Int) then (8 : Int) + (V : Int) else (n : Int)) = (M : Int) := by split <;> omega
 have hmi2 : (if 8 + V < n then (8 : Int) + (V : Int) else (n : Int)) = (M : Int) := by split <;> omega
 have hM4 : 4 ≤ M ∧ M ≤ n := by omega
 have HSL := Lib.hid (HB.out.below HB3.out)
 have hcut := cut3 HSL.out 4 (M - 4) 4 (M : Int) rfl (by omega) (by omega)
 have HSM := Lib.hid (bs_cut HSL.out 4 (M - 4) (by omega))
 have HMM := Lib.hid hM
 clear hM
 have hsec : RD.new ((l.drop 4).take (M - 4)) = sec l V := by unfold sec; rw [HMM.out, HN.out]
 go_wp2_with fail
 refine (Rdr.new_any w3 _ _ _ _ HSM.out (by omega)).mono ?_
 rintro e w4 ⟨r4, rfl, hr4, hb4⟩
 rw [hsec] at hr4
 have HR4 := Lib.hid hr4
 have HB4 := Lib.hid (HB3.out.trans (hb4.mono HB3.out.size))
 have HX4 := Lib.hid hb4
 clear hr4 hb4 hcut hmi hmi2 hsec
 go_wp2_with fail
 refine (num_any _ HR4.out 4 (by omega)).mono ?_
 rintro e w5 ⟨rfl, hl5⟩
 have HL5 := Lib.hid hl5
 clear hl5
 go_wp2_with fail
 refine (bytes_any _ HL5.out.there (V : Int) (by omega)).mono ?_
 rintro e w6 ⟨p6, c6, rfl, ho6, hl6⟩
 have hl46 := HL5.out.trans hl6
 have HB6 := Lib.hid (HB4.out.trans (hl46.turn.below HB4.out.size (fun i hi => by obtain ⟨v, bv, h⟩ := HR4.out; have := h.low; have := HB3.out.size; omega)))
 have HR6 := Lib.hid hl46.there
 have ho6' := own_base (base' := w.heap.size) ho6 (fun k hk => by have h1 := (ho6.lt k hk).1; have h2 := HB4.out.size; have h3 := HL5.out.turn.size; omega)
 have HO6 := Lib.hid ho6'
 have HE6 := Lib.hid (HE.out.below HB6.out HG.out)
 clear ho6 hl6 hl46 HL5 HR4 ho6'
 go_wp2_with fail
 refine (err_any _ HR6.out HE6.out).mono ?_
 rintro e w7 ⟨rfl, hb7⟩
 have HB7 := Lib.hid (HB6.out.trans (hb7.mono HB6.out.size))
 have ho7 := own_touch HO6.out (Turns.of_below (S := fun _ => False) hb7) (fun _ _ h => h)
 have HO7 := Lib.hid ho7
 clear hb7 HR6 HO6 HE6 ho7
 by_cases hful : 8 + V ≤ n
 rotate_left
 ·have hss := sec_short (l := l) (V := V) (by rw [HN.out]; exact h4) (by rw [HN.out]; omega)
  rw [hss]
  have HO : Hid (one l = ([], 0, 2)) := by
   show _ = _
   unfold one
   rw [if_neg (by rw [HN.out]; omega), if_neg (by rw [← HVE.out]; omega), if_pos (by rw [← HVE.out, HN.out]; omega)]
  clear hss hful
  generalize (sec l V).numV 4 = SUM at *
  generalize ((sec l V).numS 4).takeB (V : Int) true = BODY at *
  go_wp2_with fail
  refine bodyPost_ret (results_tmp3 rfl _ _) rfl ?_
  unfold OneP
  rw [HO.out]
  exact ⟨none, 0, rfl, ⟨rfl, .inl ⟨rfl, rfl⟩⟩, HB7.out⟩
 obtain ⟨f1, f2, f3⟩ := sec_full (l := l) (V := V) (by rw [HN.out]; exact hful)
 have HCF := Lib.hid (crc_frame (l := l) (V := V) (by rw [HN.out]; exact hful) HVE.out.symm)
 have HON : Hid (one l = if frame ((l.drop 8).take V) = l.take (8 + V) then ((l.drop 8).take V, 8 + V, 0) else ([], 0, 9)) := by
  show _ = _
  unfold one
  rw [if_neg (by rw [HN.out]; omega), if_neg (by rw [← HVE.out]; omega), if_neg (by rw [← HVE.out, HN.out]; omega), ← HVE.out]
 rw [f1, f2, f3]
 rw [f2] at HO7
 have HLB : Hid (((l.drop 8).take V).length = V) := by show _ = _; rw [List.length_take, List.length_drop, HN.out]; omega
 have hb4 := beN_lt_pow ((l.drop 4).take 4)
 rw [List.length_take, List.length_drop, HN.out, Nat.min_eq_left (by omega)] at hb4
 have HSL7 := Lib.hid (HB.out.below HB7.out)
 clear f1 f2 f3 HVE
 generalize hbody : (l.drop 8).take V = body at *
 generalize beN ((l.drop 4).take 4) = SUM at *
 have hw32 : IntKind.u32.wrap (SUM : Int) = (SUM : Int) := by rw [IntKind.wrap_u32]; omega
 have hcut := cut0 HSL7.out 4 4 rfl (by omega)
 rw [HLB.out] at HO7 ⊢
 have HP := Lib.hid (Pts.made2 (bs_take HSL7.out (k := 4) (by omega)) (own_bs HO7.out) 22 rfl)
 go_wp2_with fail
 refine (CrcW.of_any _ _ _ [l.take 4, body] _ HP.out).mono ?_
 rintro e w8 ⟨rfl, hb8⟩
 have hal : Below w7.heap.size w7 (w7.alloc (.cells #[.slice p 4 c, .slice p6 V c6] 22)) := Below.allocs _ _
 have hb78 := hal.trans (hb8.mono hal.size)
 have HB8 := Lib.hid (HB7.out.trans (hb78.mono HB7.out.size))
 have ho8 := own_touch HO7.out (Turns.of_below (S := fun _ => False) hb78) (fun _ _ h => h)
 have HO8 := Lib.hid ho8
 clear hb8 hal hb78 ho8 HO7 HP hcut HSL7
 obtain ⟨C, hC⟩ : ∃ C, (Crc.more 0#32 ([l.take 4, body].flatten)).toNat = C := ⟨_, rfl⟩
 rw [hC] at HCF ⊢
 clear hC
 by_cases hq : C = SUM
 ·have hqb : ((C : Int) != (SUM : Int)) = false := by rw [bne_eq_false_iff_eq]; omega
  have HR : Hid (one l = (body, 8 + V, 0)) := by show _ = _; rw [HON.out, if_pos (HCF.out.1 hq)]
  clear hq HCF HON hbody
  go_wp2_with fail
  refine (size_any p6 V c6 (by omega) _).mono ?_
  rintro e w9 ⟨rfl, rfl⟩
  go_wp2_with fail
  refine bodyPost_ret (results_tmp3 rfl _ _) rfl ?_
  unfold OneP
  rw [HR.out]
  dsimp only
  rw [HLB.out]
  exact ⟨p6, c6, rfl, HO8.out, HB8.out⟩
 ·have hqb : ((C : Int) != (SUM : Int)) = true := by rw [bne_iff_ne]; omega
  have HR : Hid (one l = ([], 0, 9)) := by show _ = _; rw [HON.out, if_neg (fun h => hq (HCF.out.2 h))]
  clear hq HCF HON hbody
  go_wp2_with fail
  refine bodyPost_ret (results_tmp3 rfl _ _) rfl ?_
  unfold OneP
  rw [HR.out]
  exact ⟨none, 0, rfl, ⟨rfl, .inl ⟨rfl, rfl⟩⟩, HB8.out⟩
end Go.Proofs.YtnejjfglkindjaaGreatDoor.Frm
namespace Go.Proofs.YtnejjfglkindjaaGreatDoor.Cut
open Go.RowKit Go.Mir Go.Mir.Parts
structure Ls (w : World) (base : Nat) (v : Value) (ls : List (List UInt8)) : Prop where
 all : ∃ hs : List Value, w.ownsRow base 22 1 v ls.length hs ∧ ∀ j (h : j < ls.length), ∃ q k, hs[j]? = some (.slice q ls[j].length k) ∧ Bs w q ls[j].length k ls[j] ∧ (∀ a, q = some a → 0 < ls[j].length → ¬ v.ownBlock = some a.block)
theorem Ls.nil (w : World) (base : Nat) : Ls w base (.slice none 0 0) [] := ⟨[], World.ownsRow_nil _ _ _ _, fun j h => by simp at h⟩
theorem Ls.below {w w' : World} {base : Nat} {v : Value} {ls : List (List UInt8)} (h : Ls w base v ls) (hb : Below w.heap.size w w') : Ls w' base v ls := by
 obtain ⟨hs, h1, h2⟩ := h.all
 exact ⟨hs, own_touch h1 (Turns.of_below (S := fun _ => False) hb) (fun _ _ h => h), fun j hj => by
  obtain ⟨q, k, a, b, c⟩ := h2 j hj
  exact ⟨q, k, a, b.below hb, c⟩⟩
theorem Ls.low {w : World} {base base' : Nat} {v : Value} {ls : List (List UInt8)} (h : Ls w base v ls) (hb : base' ≤ base) : Ls w base' v ls := by
 obtain ⟨hs, h1, h2⟩ := h.all
 exact ⟨hs, own_base h1 (fun k hk => by have := (h1.lt k hk).1; omega), h2⟩
theorem Ls.sl {w : World} {base : Nat} {v : Value} {ls : List (List UInt8)} (h : Ls w base v ls) : ∃ p c, v = .slice p ls.length c ∧ Pts w p ls.length c ls := by
 obtain ⟨hs, h1, h2⟩ := h.all
 obtain ⟨p, c, rfl, hS⟩ := own_sl h1
 refine ⟨p, c, rfl, rfl, hS.le, hS.max, hS.nil0, fun a ha j hj => ?_⟩
 obtain ⟨q, k, e1, e2, _⟩ := h2 j hj
 exact ⟨q, _, k, hS.cell a ha j _ e1, e2⟩
theorem no_own {w : World} {base : Nat} {v : Value} {n : Nat} {hs : List Value} (h1 : w.ownsRow base 22 1 v n hs) {b2 m c : Nat} {q : Option Addr} {ys : List Value} (h2 : w.ownsRow b2 5 1 (.slice q m c) m ys) : ∀ a, q = some a → ¬ v.ownBlock = some a.block := fun a ha hv => by
 subst ha
 rcases h1.2 with ⟨rfl, _⟩ | ⟨g, cap, cur, rfl, _, hg, _⟩
 ·cases hv
 ·rcases h2.2 with ⟨hx, _⟩ | ⟨g2, cap2, cur2, hx, _, hg2, _⟩
  ·cases hx
  ·cases hx
   simp only [Value.ownBlock, Option.some.injEq] at hv
   rw [← hv, hg] at hg2
   injection hg2 with e1
   injection e1 with _ e2
   revert e2
   decide
theorem Ls.push {w w0 w1 : World} {base : Nat} {v : Value} {ls : List (List UInt8)} {hs : List Value} {p' : Option Addr} {c' : Nat} {q : Option Addr} {k : Nat} {x : List UInt8}
  (h1 : w.ownsRow base 22 1 v ls.length hs) (h2 : ∀ j (h : j < ls.length), ∃ q k, hs[j]? = some (.slice q ls[j].length k) ∧ Bs w q ls[j].length k ls[j] ∧ (∀ a, q = some a → 0 < ls[j].length → ¬ v.ownBlock = some a.block))
  (hb : Below w.heap.size w w0) (hx : Bs w q x.length k x) (hq : ∀ a, q = some a → 0 < x.length → ¬ v.ownBlock = some a.block)
  (ho : w1.ownsRow base 22 1 (.slice p' (ls.length + 1) c') (ls.length + 1) (hs ++ [.slice q x.length k])) (hg : w0.grownBy w1 v.ownBlock)
  (hn : ∀ i, (Value.slice p' (ls.length + 1) c').ownBlock = some i → v.ownBlock = some i ∨ i = w0.heap.size) : Ls w1 base (.slice p' (ls.length + 1) c') (ls ++ [x]) := by
 have hl : hs.length = ls.length := by have := h1.1; simpa using this
 have ht : Turns (fun i => v.ownBlock = some i) w0 w1 := Turns.grown hg (fun k hk => hk)
 have key : ∀ (q : Option Addr) (k : Nat) (y : List UInt8), Bs w q y.length k y → (∀ a, q = some a → 0 < y.length → ¬ v.ownBlock = some a.block) → Bs w1 q y.length k y ∧ (∀ a, q = some a → 0 < y.length → ¬ (Value.slice p' (ls.length + 1) c').ownBlock = some a.block) := fun q k y hB hne => by
  by_cases hy : 0 < y.length
  ·obtain ⟨b, o, rfl⟩ := hB.addr hy (by omega)
   have hlt : b < w.heap.size := block_lt_of_cell (Bs.byte hB (j := 0) hy)
   refine ⟨(hB.below hb).touch ht (fun a ha _ => hne a ha hy), fun a ha hy he => ?_⟩
   rcases hn _ he with h | h
   ·exact hne a ha hy h
   ·obtain rfl := Option.some.inj ha
    have := hb.size
    simp only at h
    omega
  ·have hy0 : y = [] := List.length_eq_zero_iff.1 (by omega)
   subst hy0
   exact ⟨⟨rfl, hB.le, hB.max, hB.nil0, fun a ha j u hu => by simp [bytesV] at hu⟩, fun a ha h => by simp at h⟩
 refine ⟨_, by rw [List.length_append]; exact ho, fun j hj => ?_⟩
 rw [List.length_append, List.length_singleton] at hj
 by_cases hj2 : j < ls.length
 ·obtain ⟨q1, k1, e1, e2, e3⟩ := h2 j hj2
  have := key q1 k1 _ e2 e3
  refine ⟨q1, k1, ?_, ?_, ?_⟩
  ·rw [List.getElem?_append_left (by omega), List.getElem_append_left hj2]; exact e1
  ·rw [List.getElem_append_left hj2]; exact this.1
  ·rw [List.getElem_append_left hj2]; exact this.2
 ·obtain rfl : j = ls.length := by omega
  have := key q k x hx hq
  refine ⟨q, k, ?_, ?_, ?_⟩
  ·rw [List.getElem?_append_right (by omega), hl, Nat.sub_self]
   simp
  ·simpa using this.1
  ·simpa using this.2
theorem hdr_sl (w : World) (v : Value) (t : TypeId) (b : Nat) (hb : b = w.heap.size) : Sl (w.alloc (.cells #[v] t)) (some ⟨b, 0, none⟩) 1 1 1 [v] :=
 ⟨rfl, Nat.le_refl _, by omega, fun h => (by cases h), fun a ha j u hu => by
  obtain rfl := Option.some.inj ha
  rw [add_none, hb, cell_alloc_new]
  cases j with
  | zero => simpa using hu
  | succ j => simp at hu⟩
structure LsO (w : World) (base : Nat) (v : Value) (ls : List (List UInt8)) : Prop where
 all : ∃ hs : List Value, w.ownsRow base 22 1 v ls.length hs ∧ ∀ j (h : j < ls.length), ∃ q k, hs[j]? = some (.slice q ls[j].length k) ∧ w.ownsRow base 5 1 (.slice q ls[j].length k) ls[j].length (bytesV ls[j])
theorem LsO.nil (w : World) (base : Nat) : LsO w base (.slice none 0 0) [] := ⟨[], World.ownsRow_nil _ _ _ _, fun j h => by simp at h⟩
theorem LsO.ls {w : World} {base : Nat} {v : Value} {ls : List (List UInt8)} (h : LsO w base v ls) : Ls w base v ls := by
 obtain ⟨hs, h1, h2⟩ := h.all
 exact ⟨hs, h1, fun j hj => by
  obtain ⟨q, k, a, b⟩ := h2 j hj
  exact ⟨q, k, a, own_bs b, fun ad ha _ => no_own h1 b ad ha⟩⟩
theorem LsO.below {w w' : World} {base : Nat} {v : Value} {ls : List (List UInt8)} (h : LsO w base v ls) (hb : Below w.heap.size w w') : LsO w' base v ls := by
 obtain ⟨hs, h1, h2⟩ := h.all
 exact ⟨hs, own_touch h1 (Turns.of_below (S := fun _ => False) hb) (fun _ _ h => h), fun j hj => by
  obtain ⟨q, k, a, b⟩ := h2 j hj
  exact ⟨q, k, a, own_touch b (Turns.of_below (S := fun _ => False) hb) (fun _ _ h => h)⟩⟩
theorem LsO.push {w w1 : World} {base : Nat} {v v' : Value} {ls : List (List UInt8)} {hs : List Value} {q : Option Addr} {k : Nat} {x : List UInt8} {tmp : Obj}
  (h1 : w.ownsRow base 22 1 v ls.length hs) (h2 : ∀ j (h : j < ls.length), ∃ q k, hs[j]? = some (.slice q ls[j].length k) ∧ w.ownsRow base 5 1 (.slice q ls[j].length k) ls[j].length (bytesV ls[j]))
  (hx : w.ownsRow base 5 1 (.slice q x.length k) x.length (bytesV x))
  (ho : w1.ownsRow base 22 1 v' (ls.length + 1) (hs ++ [.slice q x.length k])) (hg : (w.alloc tmp).grownBy w1 v.ownBlock) : LsO w1 base v' (ls ++ [x]) := by
 have hl : hs.length = ls.length := by have := h1.1; simpa using this
 have ht : Turns (fun i => v.ownBlock = some i) w w1 := (Turns.of_below (Below.allocs w tmp)).trans (Turns.grown hg (fun k hk => hk)) (fun _ _ h => h)
 have key : ∀ (q : Option Addr) (k : Nat) (y : List UInt8), w.ownsRow base 5 1 (.slice q y.length k) y.length (bytesV y) → w1.ownsRow base 5 1 (.slice q y.length k) y.length (bytesV y) := fun q k y hy =>
  own_touch hy ht (fun i hi he => by
   cases q with
   | none => simp [Value.ownBlock] at hi
   | some a => simp only [Value.ownBlock, Option.some.injEq] at hi; exact no_own h1 hy a rfl (by rw [hi]; exact he))
 refine ⟨_, by rw [List.length_append]; exact ho, fun j hj => ?_⟩
 rw [List.length_append, List.length_singleton] at hj
 by_cases hj2 : j < ls.length
 ·obtain ⟨q1, k1, e1, e2⟩ := h2 j hj2
  refine ⟨q1, k1, ?_, ?_⟩
  ·rw [List.getElem?_append_left (by omega), List.getElem_append_left hj2]; exact e1
  ·rw [List.getElem_append_left hj2]; exact key q1 k1 _ e2
 ·obtain rfl : j = ls.length := by omega
  refine ⟨q, k, ?_, ?_⟩
  ·rw [List.getElem?_append_right (by omega), hl, Nat.sub_self]
   simp
  ·simpa using key q k x hx
theorem LsO.set {w : World} {base : Nat} {v : Value} {ls : List (List UInt8)} {B : Nat} {t : TypeId} {u : Value} (h : LsO w base v ls) (hb : w.heap[B]? = some (.cells #[u] t (0, 0))) (h1 : t ≠ 22) (h2 : t ≠ 5) (u' : Value) : LsO (w.setCell ⟨B, 0, none⟩ u') base v ls := by
 have ht : Turns (fun i => i = B) w (w.setCell ⟨B, 0, none⟩ u') := (Turns.refl (fun i => i = B) w).setCell (p := ⟨B, 0, none⟩) (fun _ => rfl) u'
 have ne : ∀ {n size e : Nat} {x : Value} {vs : List Value}, w.ownsRow base e size x n vs → t ≠ e → ∀ i, x.ownBlock = some i → ¬ i = B := fun {n size e x vs} ho hte i hi he => by
  subst he
  rcases ho.2 with ⟨rfl, _⟩ | ⟨g, cap, cur, rfl, _, hg, _⟩
  ·cases hi
  ·simp only [Value.ownBlock, Option.some.injEq] at hi
   rw [hi, hb] at hg
   injection hg with e1
   injection e1 with _ e2
   exact hte e2
 obtain ⟨hs, a, b⟩ := h.all
 exact ⟨hs, own_touch a ht (ne a h1), fun j hj => by
  obtain ⟨q, k, c, d⟩ := b j hj
  exact ⟨q, k, c, own_touch d ht (ne d h2)⟩⟩
theorem own_apart {w : World} {b1 b2 e1 e2 s1 s2 n1 n2 : Nat} {v1 v2 : Value} {x1 x2 : List Value} (h1 : w.ownsRow b1 e1 s1 v1 n1 x1) (h2 : w.ownsRow b2 e2 s2 v2 n2 x2) (he : e1 ≠ e2) : ∀ k, v1.ownBlock = some k → ¬ v2.ownBlock = some k := fun k hk hk2 => by
 rcases h1.2 with ⟨rfl, _⟩ | ⟨g, cap, cur, rfl, _, hg, _⟩
 ·cases hk
 ·rcases h2.2 with ⟨rfl, _⟩ | ⟨g2, cap2, cur2, rfl, _, hg2, _⟩
  ·cases hk2
  ·simp only [Value.ownBlock, Option.some.injEq] at hk hk2
   rw [hk] at hg
   rw [hk2, hg] at hg2
   injection hg2 with a
   injection a with _ b
   exact he b
structure LsA (w0 w : World) (base : Nat) (v : Value) (ls : List (List UInt8)) : Prop where
 all : ∃ hs : List Value, w.ownsRow base 22 1 v ls.length hs ∧ ∀ j (h : j < ls.length), ∃ q k, hs[j]? = some (.slice q ls[j].length k) ∧ Bs w0 q ls[j].length k ls[j]
theorem LsA.nil (w0 w : World) (base : Nat) : LsA w0 w base (.slice none 0 0) [] := ⟨[], World.ownsRow_nil _ _ _ _, fun j h => by simp at h⟩
theorem LsA.touch {S : Nat → Prop} {w0 w w' : World} {base : Nat} {v : Value} {ls : List (List UInt8)} (h : LsA w0 w base v ls) (ht : Turns S w w') (hv : ∀ k, v.ownBlock = some k → ¬ S k) : LsA w0 w' base v ls := by
 obtain ⟨hs, h1, h2⟩ := h.all
 exact ⟨hs, own_touch h1 ht hv, h2⟩
theorem LsA.below {w0 w w' : World} {base : Nat} {v : Value} {ls : List (List UInt8)} (h : LsA w0 w base v ls) (hb : Below w.heap.size w w') : LsA w0 w' base v ls := h.touch (Turns.of_below (S := fun _ => False) hb) (fun _ _ h => h)
theorem LsA.push {w0 w w1 : World} {base : Nat} {v v' : Value} {ls : List (List UInt8)} {hs : List Value} {q : Option Addr} {k : Nat} {x : List UInt8}
  (h1 : w.ownsRow base 22 1 v ls.length hs) (h2 : ∀ j (h : j < ls.length), ∃ q k, hs[j]? = some (.slice q ls[j].length k) ∧ Bs w0 q ls[j].length k ls[j]) (hx : Bs w0 q x.length k x)
  (ho : w1.ownsRow base 22 1 v' (ls.length + 1) (hs ++ [.slice q x.length k])) : LsA w0 w1 base v' (ls ++ [x]) := by
 have hl : hs.length = ls.length := by have := h1.1; simpa using this
 refine ⟨_, by rw [List.length_append]; exact ho, fun j hj => ?_⟩
 rw [List.length_append, List.length_singleton] at hj
 by_cases hj2 : j < ls.length
 ·obtain ⟨q1, k1, e1, e2⟩ := h2 j hj2
  refine ⟨q1, k1, ?_, ?_⟩
  ·rw [List.getElem?_append_left (by omega), List.getElem_append_left hj2]; exact e1
  ·rw [List.getElem_append_left hj2]; exact e2
 ·obtain rfl : j = ls.length := by omega
  refine ⟨q, k, ?_, ?_⟩
  ·rw [List.getElem?_append_right (by omega), hl, Nat.sub_self]
   simp
  ·simpa using hx
theorem LsA.sl {w0 w : World} {base : Nat} {v : Value} {ls : List (List UInt8)} (h : LsA w0 w base v ls) (hb : Below w0.heap.size w0 w) : ∃ p c, v = .slice p ls.length c ∧ Pts w p ls.length c ls := by
 obtain ⟨hs, h1, h2⟩ := h.all
 obtain ⟨p, c, rfl, hS⟩ := own_sl h1
 refine ⟨p, c, rfl, rfl, hS.le, hS.max, hS.nil0, fun a ha j hj => ?_⟩
 obtain ⟨q, k, e1, e2⟩ := h2 j hj
 exact ⟨q, _, k, hS.cell a ha j _ e1, e2.below hb⟩
end Go.Proofs.YtnejjfglkindjaaGreatDoor.Cut
namespace Go.Proofs.YtnejjfglkindjaaGreatDoor.Frm
open Go.RowKit Go.Mir Go.Mir.Parts Wr Cod Cut
theorem one_ok {l : List UInt8} (h : (one l).2.2 = 0) : 9 ≤ (one l).2.1 ∧ (one l).2.1 ≤ l.length ∧ (one l).2.1 = 8 + (one l).1.length ∧ frame (one l).1 = l.take (one l).2.1 ∧ 1 ≤ (one l).1.length ∧ (one l).1.length ≤ 65536 := by
 unfold one at h ⊢
 split at h
 ·simp at h
 rename_i h1
 rw [if_neg h1]
 split at h
 ·simp at h
 rename_i h2
 rw [if_neg h2]
 split at h
 ·simp at h
 rename_i h3
 rw [if_neg h3]
 split at h
 ·rename_i h4
  rw [if_pos h4]
  have hl : ((l.drop 8).take (Rdr.beN (l.take 4))).length = Rdr.beN (l.take 4) := by rw [List.length_take, List.length_drop]; omega
  refine ⟨by dsimp only; omega, by dsimp only; omega, by dsimp only; rw [hl], h4, by dsimp only; omega, by dsimp only; omega⟩
 ·simp at h
def scan (l : List UInt8) : List (List UInt8) × Nat :=
 if _h : (one l).2.2 = 0 then ((one l).1 :: (scan (l.drop (one l).2.1)).1, (one l).2.1 + (scan (l.drop (one l).2.1)).2) else ([], 0)
termination_by l.length
decreasing_by all_goals (have := one_ok _h; rw [List.length_drop]; omega)
theorem scan_ok {l : List UInt8} (h : (one l).2.2 = 0) : scan l = ((one l).1 :: (scan (l.drop (one l).2.1)).1, (one l).2.1 + (scan (l.drop (one l).2.1)).2) := by rw [scan, dif_pos h]
theorem scan_no {l : List UInt8} (h : ¬ (one l).2.2 = 0) : scan l = ([], 0) := by rw [scan, dif_neg h]
def sumF (pre : List (List UInt8)) : Nat := (pre.map fun x => 8 + x.length).sum
theorem sumF_snoc (pre : List (List UInt8)) (x : List UInt8) : sumF (pre ++ [x]) = sumF pre + (8 + x.length) := by simp [sumF]
def At (l : List UInt8) (pre : List (List UInt8)) (at_ : Nat) : Prop := at_ ≤ l.length ∧ (9 * pre.length ≤ at_ ∧ at_ = sumF pre) ∧ scan l = (pre ++ (scan (l.drop at_)).1, at_ + (scan (l.drop at_)).2)
theorem At.zero (l : List UInt8) : At l [] 0 := ⟨by omega, ⟨by simp, rfl⟩, by simp⟩
theorem At.next {l : List UInt8} {pre : List (List UInt8)} {k : Nat} (h : At l pre k) (ho : (one (l.drop k)).2.2 = 0) : At l (pre ++ [(one (l.drop k)).1]) (k + (one (l.drop k)).2.1) := by
 obtain ⟨h1, ⟨h2, h2'⟩, h3⟩ := h
 obtain ⟨o1, o2, o3, _⟩ := one_ok ho
 rw [List.length_drop] at o2
 refine ⟨by omega, ⟨by rw [List.length_append, List.length_singleton]; omega, by rw [sumF_snoc, ← h2', o3]⟩, ?_⟩
 rw [h3, scan_ok ho, List.drop_drop]
 simp only [List.append_assoc, List.singleton_append, Prod.mk.injEq, true_and]
 omega
theorem At.end {l : List UInt8} {pre : List (List UInt8)} {k : Nat} (h : At l pre k) (ho : ¬ (one (l.drop k)).2.2 = 0) : scan l = (pre, k) := by
 rw [h.2.2, scan_no ho]; simp
theorem At.last {l : List UInt8} {pre : List (List UInt8)} {k k1 : Nat} (h : At l pre k) (ho : ¬ (one (l.drop k)).2.2 = 0) (h1 : At l pre k1) : scan l = (pre, k1) := by
 have he := h.end ho
 have h3 := h1.2.2
 rw [he] at h3
 by_cases hb : (one (l.drop k1)).2.2 = 0
 ·rw [scan_ok hb] at h3
  have := congrArg List.length (congrArg Prod.fst h3)
  simp at this
 ·exact h1.end hb
def RScanO (l : List UInt8) (w : World) (e : Ending) (w' : World) : Prop := ∃ v, e = .returned (.tuple #[v, .int .i64 ((scan l).2 : Int)]) ∧ LsO w' w.heap.size v (scan l).1 ∧ Below w.heap.size w w'
set_option maxRecDepth 100000 in
set_option maxHeartbeats 1600000 in
theorem rscanO_any (p : Option Addr) (n c : Nat) (l : List UInt8) (w : World) (hB : Bs w p n c l) (hn : n ≤ 1000000) :
  Calls Tryz.prog 102 #[.slice p n c] w (RScanO l w) := by
 have HB := Lib.hid hB
 have HN := Lib.hid hB.length
 have hle := hB.le
 have hmax := hB.max
 clear hB
 go_enter Tryz.func102, Tryz.ntmps102
 go_wp2_with fail
 go_loopw [4, 5] (fun x j wr => ∃ (k : Nat) (pre : List (List UInt8)), j = .int .i64 k ∧ LsO wr w.heap.size x pre ∧ At l pre k ∧ Below w.heap.size w wr) (fun _ j _ => n - (intOf j).toNat)
 case atStart => exact ⟨0, [], rfl, LsO.nil _ _, At.zero l, Below.refl _ _⟩
 case round =>
  obtain ⟨k, pre, rfl, hls, hat, hbl⟩ := hrel
  have hk : k ≤ n := by rw [← HN.out]; exact hat.1
  have hpre : 9 * pre.length ≤ k := hat.2.1.1
  have HAT := Lib.hid hat
  have HLS := Lib.hid hls
  have HBL := Lib.hid hbl
  have hcut := cutR (HB.out.below hbl) k (k : Int) rfl hk
  have hone := rone_any _ _ _ _ wr (bs_drop (HB.out.below hbl) k hk) (by omega)
  have HONE := Lib.hid hone
  clear hat hls hbl hone
  go_wp2_with fail
  refine HONE.out.mono ?_
  rintro e w1 ⟨p1, c1, rfl, ho1, hb1⟩
  have HB1 := Lib.hid (HBL.out.trans (hb1.mono HBL.out.size))
  have HL1 := Lib.hid (HLS.out.below hb1)
  have HO1 := Lib.hid ho1
  have HBW := Lib.hid hb1
  clear ho1 hb1 HONE HLS hcut
  obtain ⟨body, m, ev, hoe⟩ : ∃ body m ev, one (l.drop k) = (body, m, ev) := ⟨_, _, _, rfl⟩
  rw [hoe] at HO1 ⊢
  have HOE := Lib.hid hoe
  clear hoe
  by_cases hev : ev = 0
  ·subst hev
   have hok := one_ok (l := l.drop k) (by rw [HOE.out])
   have hnx := HAT.out.next (by rw [HOE.out])
   rw [HOE.out] at hok hnx
   rw [List.length_drop, HN.out] at hok
   dsimp only at hok hnx
   obtain ⟨ok1, ok2, ok3, _⟩ := hok
   clear ok3
   have hw : IntKind.i64.wrap ((k : Int) + (m : Int)) = ((k + m : Nat) : Int) := by rw [IntWalk.i64_in _ (by omega)]; omega
   have hw2 : IntKind.i64.wrap ((k : Int) + (m : Int)) = (k : Int) + (m : Int) := by rw [IntWalk.i64_in _ (by omega)]
   obtain ⟨hs, hh1, hh2⟩ := HL1.out.all
   have HH1 := Lib.hid hh1
   have HH2 := Lib.hid hh2
   have HNX := Lib.hid hnx
   clear hh1 hh2 hnx HOE HAT
   have hbd : Hid (pre.length + 1 ≤ 9223372036854775807 ∧ (pre.length + 1) * 24 ≤ 140737488355328) := by show _ ∧ _; omega
   have hal : Below w1.heap.size w1 (w1.alloc (.cells #[.slice p1 body.length c1] 22)) := Below.allocs _ _
   have HAL := Lib.hid hal
   have hnew := hdr_sl w1 (.slice p1 body.length c1) 22 w1.heap.size rfl
   have HNEW := Lib.hid hnew
   have HOW := Lib.hid (own_touch HH1.out (Turns.of_below (S := fun _ => False) hal) (fun _ _ h => h))
   clear hal hnew
   go_upto_region 7 with (at_builtin; refine wpList_append_nx rfl _ _ 31 rfl (base := w.heap.size) Tryz.underlying31 infoS rfl (by omega) rfl HOW.out rfl HNEW.out (by simp [Value.oneCell']) hbd.out (by have := HB1.out.size; have := HAL.out.size; omega) ?_)
   intro p' c' w2 hown hg hnx _
   have hpush := LsO.push HH1.out HH2.out (own_base HO1.out (fun i hi => by have := (HO1.out.lt i hi).1; have := HBL.out.size; omega)) hown hg
   have hb2 := (HB1.out.trans (HAL.out.mono HB1.out.size)).grown hg (by have := HB1.out.size; have := HAL.out.size; omega) (fun i hi => (HH1.out.lt i hi).1)
   have HPU := Lib.hid hpush
   have HB2 := Lib.hid hb2
   clear hpush hb2 hown hg hnx HOW HNEW HAL hbd HH1 HH2 HL1 HO1 HB1
   go_wp2_with fail
   go_roundw
   case rel => exact ⟨k + m, _, by go_num, HPU.out, HNX.out, HB2.out⟩
   case measure => simp [intOf]; omega
  ·have hz : (ev != 0) = true := by rw [bne_iff_ne]; exact hev
   have hend := HAT.out.end (by rw [HOE.out]; exact hev)
   have HEND := Lib.hid hend
   clear hend hev HOE HAT
   go_wp2_with fail
   go_ret2
   exact ⟨_, by rw [HEND.out]; rfl, by rw [HEND.out]; exact HL1.out, HB1.out⟩
end Go.Proofs.YtnejjfglkindjaaGreatDoor.Frm
