/- PARTS, JOINED: THE WALKS OF THE WRITER, on: Ids, Num. Conditions: as in the first part. LAYER 9: the document's example; numbers. Conditions: the laid cell of errors.errorType. CODECS: what is written by a writer, what a reader reads of it: plain parts, and both as they go on. Conditions: sizes that fit. CODECS, plain: what a reader's calls come to, where there is room and where not. Conditions: none. REPLIES, plain: what Decode reads and Encode writes. Conditions: none. REPLIES: Decode. Conditions: the laid cell of errors.errorType; at most 2^40 bytes. REPLIES: Encode. Conditions: numbers of 32 bits. LAYER 12: the walk of the reference's NumOf. Conditions: texts of at most 2^40. REPLIES: the reference's Parse. Conditions: texts of less than 2^32 bytes. REPLIES: the reference's Nums, Right. Conditions: none. SLICES OF BYTES, CUT: b[k:k+m], b[:m], b[k:]. Conditions: none. REPLIES: what law Bytes stands on. Conditions: none. REPLIES: the reference's Line. Conditions: numbers of 32 bits. REPLIES: the reference's Bytes. Conditions: a right reply, numbers of 32 bits. -/
import Derived.Test.YtmphajilnkgcaaaGreatDoorRq1
import Derived.Test.YtmphajilnkgcaaaGreatDoorRq2
import Derived.Test.YtmphajilnkgcaaaGreatDoorRq3
import Derived.Test.YtmphajilnkgcaaaGreatDoorRq4
import Derived.IntWalk
import Derived.Test.YtmphajilnkgcaaaGreatDoorChecked
namespace Go.Proofs.YtmphajilnkgcaaaGreatDoor.Wr
open Go.RowKit Go.Mir Go.Mir.Parts

theorem infoS : (Tryz.prog.info? 27).map (fun i => (i.zero, i.size, i.bytes)) = some (some (.slice none 0 0), 1, 24) := by kernel_rfl
def idV (p : Option Addr) (i : Nat) : Value := match p with
  | some a => .slice (some ⟨a.block, a.off + i * 32, none⟩) 32 32
  | none => undef
def idsV (p : Option Addr) (k : Nat) : List Value := (List.range k).map (idV p)
theorem idsV_succ (p : Option Addr) (k : Nat) : idsV p (k + 1) = idsV p k ++ [idV p k] := by simp [idsV, List.range_succ]
theorem total_ids (ids : List (List UInt8)) (h : ∀ x ∈ ids, x.length = 32) : total ids = 32 * ids.length := by
  induction ids with
  | nil => rfl
  | cons x r ih =>
    have h1 := h x (by simp)
    have h2 := ih (fun y hy => h y (by simp [hy]))
    simp only [total, List.map_cons, List.sum_cons, List.length_cons] at *
    omega

/-! ### Num -/
/-- byte j of eight, the highest first -/
def nb (n j : Nat) : UInt8 := UInt8.ofNat (n / 2 ^ (8 * (7 - j)))
def numArr (n k : Nat) : Array Value := ((List.range 8).map fun j => Value.int .u8 (if 8 ≤ j + k then ((nb n j).toNat : Int) else 0)).toArray
theorem numArr_size (n k : Nat) : (numArr n k).size = 8 := by simp [numArr]
theorem numArr_get (n k j : Nat) (hj : j < 8) : (numArr n k)[j]? = some (Value.int .u8 (if 8 ≤ j + k then ((nb n j).toNat : Int) else 0)) := by simp [numArr, hj]
theorem nb_int (n k : Nat) (hk : k < 8) : ((n : Int) / 2 ^ (8 * k)) % 256 = ((nb n (7 - k)).toNat : Int) := by
  have e : ((n : Int) / 2 ^ (8 * k)) = ((n / 2 ^ (8 * k) : Nat) : Int) := by rw [Int.natCast_ediv, Int.natCast_pow]; rfl
  rw [e, nb, UInt8.toNat_ofNat', show 7 - (7 - k) = k from by omega]
  omega
theorem numArr_set (n k : Nat) (hk : k < 8) : (numArr n k).setIfInBounds (7 - k) (.int .u8 ((nb n (7 - k)).toNat : Int)) = numArr n (k + 1) := by
  apply Array.ext_getElem?
  intro j
  by_cases hj : j < 8
  · rw [Array.getElem?_setIfInBounds, numArr_get _ _ _ hj, numArr_get _ _ _ hj, numArr_size]
    by_cases e : 7 - k = j
    · subst e; simp [show 7 - k < 8 by omega, show 8 ≤ 7 - k + (k + 1) by omega]
    · rw [if_neg e]
      have : (8 ≤ j + k) ↔ (8 ≤ j + (k + 1)) := by omega
      simp [this]
  · rw [Array.getElem?_eq_none, Array.getElem?_eq_none] <;> simp [numArr_size] <;> omega
def Z8 : Array Value := Array.replicate 8 (.int .u8 0)
theorem numArr_0 (n : Nat) : numArr n 0 = Z8 := by
  apply Array.ext_getElem?
  intro j
  by_cases hj : j < 8
  · rw [numArr_get _ _ _ hj, if_neg (by omega)]; simp [Z8, hj]
  · rw [Array.getElem?_eq_none, Array.getElem?_eq_none] <;> simp [numArr_size, Z8] <;> omega
/-- so many bytes of a number, the highest first -/
def be (n width : Nat) : List UInt8 := (List.range width).map fun i => nb n (8 - width + i)
theorem be_length (n width : Nat) : (be n width).length = width := by simp [be]

def numS (room : Nat) (l : List UInt8) (bad : Int) (n : Nat) (width : Int) : List UInt8 × Int :=
  if 1 ≤ width ∧ width ≤ 8 ∧ (width = 8 ∨ n < 2 ^ (8 * width.toNat)) then putS room l bad true [be n width.toNat] else putS room l bad false [[]]
theorem putS_false (room : Nat) (l : List UInt8) (bad : Int) (ps qs : List (List UInt8)) : putS room l bad false ps = putS room l bad false qs := by simp [putS]

/-- the end of the array that Num lays, as a slice -/
theorem num_bs {w' : World} {b n k : Nat} {t : TypeId} (hrow : w'.heap[b]? = some (.cells (numArr n 8) t (0, 0))) (hk : k ≤ 8) : Bs w' (some ⟨b, 8 - k, none⟩) k k (be n k) :=
  ⟨by rw [bytesV_length, be_length, Nat.mul_one], Nat.le_refl _, by omega, fun h => (by cases h), fun a ha j u hu => by
    obtain rfl := Option.some.inj ha
    have hj : j < k := by
      have := (List.getElem?_eq_some_iff.1 hu).1
      rwa [bytesV_length, be_length] at this
    rw [add_none, cell_of_row _ _ _ _ _ _ hrow, numArr_get _ _ _ (by omega), if_pos (by omega), ← hu]
    rw [bytesV_get _ _ (by rw [be_length]; exact hj)]
    simp [be]⟩

set_option maxRecDepth 100000 in
set_option maxHeartbeats 400000 in
theorem num_any (n : Nat) (width : Int) (wb : Nat) (v : Value) (room : Nat) (l : List UInt8) (bad : Int) (w : World) (h : WAt w wb v room l bad) (_hn : n < 18446744073709551616) (hw1 : -9223372036854775808 ≤ width) (hw2 : width ≤ 9223372036854775807) (hl : l.length ≤ 70368744177664) :
    Calls Tryz.prog 14 #[.pointer (some ⟨wb, 0, none⟩), .int .u64 (n : Int), .int .i64 width] w fun e w' => e = .returned (.tuple #[]) ∧ Left wb v room (numS room l bad n width) w w' := by
  have hz : ∀ w, (zeroValue 69).run Tryz.prog w = .ok (.agg Z8) w := fun w => by kernel_rfl
  have HW := Lib.hid h
  have hlt0 := Lib.hid h.lt
  clear h
  go_enter Tryz.func14, Tryz.ntmps14
  go_wp2
  go_loopw [10] (fun j wr => ∃ k : Nat, k ≤ 8 ∧ j = .int .i64 k ∧ wr.heap.size = w.heap.size + 1 ∧ wr.heap[w.heap.size]? = some (.cells (numArr n k) 69 (0, 0)) ∧ Below w.heap.size w wr) (fun j _ => 8 - (intOf j).toNat)
  case atStart => exact ⟨0, by omega, rfl, by simp, by rw [numArr_0]; exact heap_alloc_last _ _, Below.allocs _ _⟩
  case round =>
    obtain ⟨k, hk, rfl, hsz, hb0, hbl⟩ := hrel
    by_cases hlt : k < 8
    · have hd : decide ((k:Int) < 8) = true := by simp; omega
      have hc : wr.cell? ⟨w.heap.size, 7 - k, none⟩ = some (.int .u8 0) := by
        rw [cell_of_row _ _ _ _ _ _ hb0, numArr_get _ _ _ (by omega), if_neg (by omega)]
      have hf := frozen_of_row _ _ (7 - k) _ _ hb0
      have hv := nb_int n k hlt
      go_wp2
      go_roundw
      case rel =>
        exact ⟨k + 1, by omega, by go_num, by simp [World.setCell, hsz], by rw [heap_setCell_same _ _ _ _ _ _ hb0, numArr_set n k hlt], hbl.setCell (by simp) _⟩
      case measure => simp [intOf]; omega
    · have hd : decide ((k:Int) < 8) = false := by simp; omega
      have hk8 : k = 8 := by omega
      have hrow : wr.heap[w.heap.size]? = some (.cells (numArr n 8) 69 (0, 0)) := by rw [← hk8]; exact hb0
      have HR := Lib.hid hrow
      have HB := Lib.hid hbl
      have HW' : Hid (WAt wr wb v room l bad) := HW.out.touch (Turns.of_below (S := fun _ => False) hbl) (fun _ _ h => h)
      have HP : Hid (∀ m : Nat, m ≤ 8 → ∀ b' t, b' = wr.heap.size → ∀ w', Turns (foot wb v) (wr.alloc (.cells #[.slice (some ⟨w.heap.size, 8 - m, none⟩) m m] t)) w' → Pts w' (some ⟨b', 0, none⟩) 1 1 [be n m]) := by
        intro m hm b' t hb'
        refine stable1 (S := foot wb v) (fun w' ht => ?_) (fun i hi => by have := hlt0.out i hi; omega) t hb'
        exact num_bs (ht.keep hrow (fun hf => by have := hlt0.out _ hf; omega)) hm
      clear hb0 hbl hrow
      have hfin : Hid (∀ r o w1, Left wb v room r (wr.alloc o) w1 → Left wb v room r w w1) := by
        intro r o w1 h1
        obtain ⟨v', h1, h2, h3⟩ := h1.alloc
        exact ⟨v', h1, (Turns.of_below HB.out).trans h2 (fun _ _ h => h), fun i hi hlt => h3 i hi (by omega)⟩
      by_cases hw : 1 ≤ width ∧ width ≤ 8
      · obtain ⟨m, rfl⟩ : ∃ m : Nat, width = (m : Int) := ⟨width.toNat, by omega⟩
        have hsl : ∀ wx, (Instr.sliceAt 69 (.pointer (some ⟨w.heap.size, 0, none⟩)) (some (.int .i64 (8 - (m : Int)))) none none).run Tryz.prog wx = .ok (.slice (some ⟨w.heap.size, 8 - m, none⟩) m m) wx := fun wx => by
          have h1 := run_sliceAt_from (P := Tryz.prog) wx 69 5 8 1 Tryz.underlying69 (by kernel_rfl) ⟨w.heap.size, 0, none⟩ .i64 (8 - (m : Int)) (8 - m) (by omega) (by omega)
          rw [h1, add_none, show 0 + (8 - m) * 1 = 8 - m by omega, show 8 - (8 - m) = m by omega]
        have htot : total [be n m] ≤ 70368744177664 := by simp [total, be_length]; omega
        have HTO := Lib.hid htot
        clear htot
        have hm1 : (1 : Int) ≤ (m : Int) := by omega
        have hm8 : (m : Int) ≤ 8 := by omega
        by_cases hm : m = 8
        · have he : ((m : Int) == 8) = true := by rw [beq_iff_eq]; omega
          have hnum : Hid (numS room l bad n (m : Int) = putS room l bad true [be n m]) := by
            show _ = _
            rw [numS, if_pos ⟨hw.1, hw.2, .inl (by rw [hm]; rfl)⟩, Int.toNat_natCast]
          clear hm
          go_wp2_with (go_at_call 34; refine (put_any _ _ _ [be n m] wb v room l bad true _ (HW'.out.alloc _) (HP.out m (by omega) _ _ (by omega)) HTO.out hl).mono ?_; rintro e w1 ⟨rfl, hl1⟩)
          go_end0
          exact ⟨rfl, by rw [hnum.out]; exact hfin.out _ _ _ hl1⟩
        · have he : ((m : Int) == 8) = false := by rw [beq_eq_false_iff_ne]; omega
          have hpw : ((n : Int) / 2 ^ (8 * m)) = ((n / 2 ^ (8 * m) : Nat) : Int) := by rw [Int.natCast_ediv, Int.natCast_pow]; rfl
          by_cases hnm : n < 2 ^ (8 * m)
          · have hs0 : ((n : Int) / 2 ^ (8 * m) == 0) = true := by rw [hpw, Nat.div_eq_of_lt hnm]; rfl
            have hnum : Hid (numS room l bad n (m : Int) = putS room l bad true [be n m]) := by
              show _ = _
              rw [numS, if_pos ⟨hw.1, hw.2, .inr (by rw [Int.toNat_natCast]; exact hnm)⟩, Int.toNat_natCast]
            clear hm hpw hnm
            go_wp2_with (go_at_call 34; refine (put_any _ _ _ [be n m] wb v room l bad true _ (HW'.out.alloc _) (HP.out m (by omega) _ _ (by omega)) HTO.out hl).mono ?_; rintro e w1 ⟨rfl, hl1⟩)
            go_end0
            exact ⟨rfl, by rw [hnum.out]; exact hfin.out _ _ _ hl1⟩
          · have hs0 : ((n : Int) / 2 ^ (8 * m) == 0) = false := by
              rw [hpw, beq_eq_false_iff_ne]
              have : 0 < n / 2 ^ (8 * m) := Nat.div_pos (by omega) (Nat.two_pow_pos _)
              omega
            have hnum : Hid (numS room l bad n (m : Int) = putS room l bad false [be n m]) := by
              show _ = _
              rw [numS, if_neg (fun h => by rcases h.2.2 with h | h; omega; rw [Int.toNat_natCast] at h; exact hnm h)]
              exact putS_false _ _ _ _ _
            clear hm hpw hnm
            go_wp2_with (go_at_call 34; refine (put_any _ _ _ [be n m] wb v room l bad false _ (HW'.out.alloc _) (HP.out m (by omega) _ _ (by omega)) HTO.out hl).mono ?_; rintro e w1 ⟨rfl, hl1⟩)
            go_end0
            exact ⟨rfl, by rw [hnum.out]; exact hfin.out _ _ _ hl1⟩
      · have hsl : ∀ wx, (Instr.sliceAt 69 (.pointer (some ⟨w.heap.size, 0, none⟩)) (some (.int .i64 0)) none none).run Tryz.prog wx = .ok (.slice (some ⟨w.heap.size, 0, none⟩) 8 8) wx := fun wx => by
          have h1 := run_sliceAt_from (P := Tryz.prog) wx 69 5 8 1 Tryz.underlying69 (by kernel_rfl) ⟨w.heap.size, 0, none⟩ .i64 0 0 rfl (by omega)
          rw [h1, add_none]
        have hnum : Hid (numS room l bad n width = putS room l bad false [be n 8]) := by
          show _ = _
          rw [numS, if_neg (fun h => hw ⟨h.1, h.2.1⟩)]
          exact putS_false _ _ _ _ _
        have HP0 : Hid (∀ b' t, b' = wr.heap.size → ∀ w', Turns (foot wb v) (wr.alloc (.cells #[.slice (some ⟨w.heap.size, 0, none⟩) 8 8] t)) w' → Pts w' (some ⟨b', 0, none⟩) 1 1 [be n 8]) := HP.out 8 (by omega)
        have HTO : Hid (total [be n 8] ≤ 70368744177664) := by show _ ≤ _; simp [total, be_length]
        by_cases hw0 : width < 1
        · go_wp2_with (go_at_call 34; refine (put_any _ _ _ [be n 8] wb v room l bad false _ (HW'.out.alloc _) (HP0.out _ _ (by omega)) HTO.out hl).mono ?_; rintro e w1 ⟨rfl, hl1⟩)
          go_end0
          exact ⟨rfl, by rw [hnum.out]; exact hfin.out _ _ _ hl1⟩
        · have hw9 : 8 < width := by omega
          have hd9 : decide (width ≤ 8) = false := by simp; omega
          go_wp2_with (go_at_call 34; refine (put_any _ _ _ [be n 8] wb v room l bad false _ (HW'.out.alloc _) (HP0.out _ _ (by omega)) HTO.out hl).mono ?_; rintro e w1 ⟨rfl, hl1⟩)
          go_end0
          exact ⟨rfl, by rw [hnum.out]; exact hfin.out _ _ _ hl1⟩

end Go.Proofs.YtmphajilnkgcaaaGreatDoor.Wr

namespace Go.Proofs.YtmphajilnkgcaaaGreatDoor.Rdr
open Go.RowKit Go.Mir Go.Mir.Parts

theorem EType.left {w w' : World} {base rb : Nat} {s s' : RD} (h : EType w) (hr : RAt w base rb s) (hl : LeftR base rb s' w w') (hb : 0 < base) : EType w' :=
  h.below (hl.belowB hr (Nat.le_refl _)) hb
/-! ### the bytes of a number -/
def numB (n : Nat) : Nat → List UInt8
  | 0 => []
  | k + 1 => UInt8.ofNat (n / 256 ^ k) :: numB n k
theorem numB_len (n k : Nat) : (numB n k).length = k := by induction k with
  | zero => rfl
  | succ k ih => simp [numB, ih]
theorem beN_fold (l : List UInt8) : ∀ a, l.foldl (fun a b => 256 * a + b.toNat) a = a * 256 ^ l.length + beN l := by
  induction l with
  | nil => intro a; simp [beN]
  | cons b l ih =>
    intro a
    show List.foldl _ (256 * a + b.toNat) l = _
    have h2 : beN (b :: l) = List.foldl (fun a b => 256 * a + b.toNat) (256 * 0 + b.toNat) l := rfl
    rw [h2, ih, ih, List.length_cons, Nat.pow_succ, Nat.add_mul, Nat.mul_zero, Nat.zero_add, Nat.mul_comm 256 a, Nat.mul_assoc, Nat.mul_comm 256 (256 ^ l.length), Nat.add_assoc]
theorem beN_numB (n k : Nat) : beN (numB n k) = n % 256 ^ k := by
  induction k with
  | zero => simp [numB, beN, Nat.mod_one]
  | succ k ih =>
    show List.foldl _ (256 * 0 + (UInt8.ofNat (n / 256 ^ k)).toNat) (numB n k) = _
    rw [beN_fold, numB_len, ih, Nat.mul_zero, Nat.zero_add, UInt8.toNat_ofNat']
    rw [show (2 : Nat) ^ 8 = 256 from rfl, Nat.pow_succ, Nat.mod_mul, Nat.mul_comm (n / 256 ^ k % 256), Nat.add_comm]
theorem numB_drop (n : Nat) : ∀ k j, j ≤ k → (numB n k).drop j = numB n (k - j) := by
  intro k
  induction k with
  | zero => intro j hj; simp [numB]
  | succ k ih =>
    intro j hj
    cases j with
    | zero => rfl
    | succ j => rw [show k + 1 - (j + 1) = k - j by omega, ← ih j (by omega)]; rfl
theorem numB_at (n k j : Nat) (h : j < k) : (numB n k)[j]? = some (UInt8.ofNat (n / 256 ^ (k - 1 - j))) := by
  have h1 := numB_drop n k j (by omega)
  have h2 : ((numB n k).drop j)[0]? = (numB n k)[j]? := by rw [List.getElem?_drop, Nat.add_zero]
  rw [← h2, h1, show k - j = (k - 1 - j) + 1 by omega]
  rfl
def NumBP (l : List UInt8) (w : World) (e : Ending) (w' : World) : Prop := ∃ p c, e = .returned (.slice p l.length c) ∧ w'.ownsRow w.heap.size 5 1 (.slice p l.length c) l.length (bytesV l) ∧ Below w.heap.size w w'
set_option maxRecDepth 100000 in
theorem number_any (w : World) (n k : Nat) (_hn : n < 18446744073709551616) (hk : k ≤ 8) :
    Calls Tryz.prog 33 #[.int .u64 (n : Int), .int .i64 (k : Int)] w (NumBP (numB n k) w) := by
  have HLN := Lib.hid (numB_len n k)
  have hw1 : IntKind.i64.wrap ((k : Int) - 1) = (k : Int) - 1 := IntWalk.i64_in _ (by omega)
  go_enter Tryz.func33, Tryz.ntmps33
  go_wp2_with fail
  go_loopw [5, 6] (fun v i wr => ∃ (j : Nat) (p : Option Addr) (c : Nat), j ≤ k ∧ v = .slice p j c ∧ i = .int .i64 ((k : Int) - 1 - (j : Int)) ∧ wr.ownsRow w.heap.size 5 1 (.slice p j c) j (bytesV ((numB n k).take j)) ∧ Below w.heap.size w wr) (fun v _ _ => match v with | .slice _ j _ => k - j | _ => 0)
  case atStart => exact ⟨0, none, 0, by omega, rfl, by simp, ⟨rfl, .inl ⟨rfl, rfl⟩⟩, Below.refl _ _⟩
  case round =>
    obtain ⟨j, p, c, hj, rfl, rfl, hown, hbw⟩ := hrel
    have HOW := Lib.hid hown
    have HBW := Lib.hid hbw
    clear hown hbw
    by_cases hlt : j < k
    · have hd : decide ((0 : Int) ≤ (k : Int) - 1 - (j : Int)) = true := decide_eq_true (by omega)
      obtain ⟨i, hi⟩ : ∃ i : Nat, (i : Int) = (k : Int) - 1 - (j : Int) := ⟨k - 1 - j, by omega⟩
      rw [← hi] at hd ⊢
      have hi7 : i ≤ 7 := by omega
      have HTK := Lib.hid (numB_at n k j hlt)
      have HYV : Hid (((n : Int) / 2 ^ (8 * (k - 1 - j)) % 256) = ((UInt8.ofNat (n / 256 ^ (k - 1 - j))).toNat : Int)) := by
        show _ = _
        rw [UInt8.toNat_ofNat', show (2 : Nat) ^ 8 = 256 from rfl, show (256 : Nat) = 2 ^ 8 from rfl, ← Nat.pow_mul]
        simp
      have HTS : Hid ((numB n k).take (j + 1) = (numB n k).take j ++ [UInt8.ofNat (n / 256 ^ (k - 1 - j))]) := by
        have := take_snoc (numB n k) j (by rw [HLN.out]; exact hlt)
        rw [List.getElem?_eq_getElem (by rw [HLN.out]; exact hlt)] at HTK
        show _ = _
        rw [this, Option.some.inj HTK.out]
      generalize UInt8.ofNat (n / 256 ^ (k - 1 - j)) = y at *
      have HSL : Hid (Bs (wr.alloc (.cells #[.int .u8 ((n : Int) / 2 ^ (8 * (k - 1 - j)) % 256)] 5)) (some ⟨wr.heap.size, 0, none⟩) 1 1 [y]) := Bs.made wr [y] _ _ (0, 0) 1 (by rw [HYV.out]; rfl) rfl (by omega)
      have HO5 : Hid ((wr.alloc (.cells #[.int .u8 ((n : Int) / 2 ^ (8 * (k - 1 - j)) % 256)] 5)).ownsRow w.heap.size 5 1 (.slice p j c) j (bytesV ((numB n k).take j))) := HOW.out.alloc _
      have HSZ : Hid (w.heap.size ≤ (wr.alloc (.cells #[.int .u8 ((n : Int) / 2 ^ (8 * (k - 1 - j)) % 256)] 5)).heap.size) := by have := HBW.out.size; show _ ≤ _; simp; omega
      go_wp2_with (at_builtin; refine wpList_append_nx rfl _ _ 27 rfl (base := w.heap.size) Tryz.underlying27 info8 rfl (by omega) rfl HO5.out rfl HSL.out (bytesV_one _) (by omega) HSZ.out ?_)
      intro p' c' w5 hown hg hnx hne
      have HO6 := Lib.hid hown
      have hb5 : Below w.heap.size w w5 := (HBW.out.alloc HBW.out.size _).grown hg HSZ.out (fun i hi => (HO5.out.lt i hi).1)
      have HB5 := Lib.hid hb5
      have hwi : IntKind.i64.wrap ((i : Int) - 1) = (i : Int) - 1 := IntWalk.i64_in _ (by omega)
      clear hown hg hnx hne hb5
      go_wp2_with fail
      go_roundw
      case rel => exact ⟨j + 1, p', c', by omega, rfl, by congr 1; omega, by have := HO6.out; rw [HTS.out, bytesV_append]; exact this, HB5.out⟩
      case measure => simp; omega
    · obtain rfl : j = k := by omega
      have hd : decide ((0 : Int) ≤ (j : Int) - 1 - (j : Int)) = false := decide_eq_false (by omega)
      have hfull : (numB n j).take j = numB n j := List.take_of_length_le (by rw [HLN.out]; omega)
      rw [hfull] at HOW
      have HF : Hid (NumBP (numB n j) w (.returned (.slice p j c)) wr) := ⟨p, c, by rw [HLN.out], by rw [HLN.out]; exact HOW.out, HBW.out⟩
      go_wp2_with fail
      go_ret
      exact HF.out

theorem fits_k {k : Nat} (h : 1 ≤ k ∧ k ≤ 8) : fitsW (k : Int) = true := by unfold fitsW; simp; omega
theorem num_new {A B : List UInt8} {k : Nat} (hk : 1 ≤ k ∧ k ≤ 8) (hA : A.length = k) : RD.numV (RD.new (A ++ B)) (k : Int) = beN A ∧ RD.numS (RD.new (A ++ B)) (k : Int) = ⟨A ++ B, k, none⟩ := by
  have hf := fits_k hk
  constructor
  · unfold RD.numV RD.takeB RD.new
    rw [hf, if_pos ⟨rfl, rfl, by omega, by simp; omega⟩]
    rw [show ((k : Int)).toNat = A.length by omega, List.drop_zero, List.take_left]
  · unfold RD.numS RD.takeS RD.new
    rw [hf, if_neg (by simp), if_neg (by rintro (h | h); (· cases h); (· omega)), if_neg (by simp; omega)]
    simp
theorem num_next {A B : List UInt8} {k : Nat} (hk : 1 ≤ k ∧ k ≤ 8) (hA : A.length = k) (hB : B.length = k) : RD.numV ⟨A ++ B, k, none⟩ (k : Int) = beN B ∧ RD.numS ⟨A ++ B, k, none⟩ (k : Int) = ⟨A ++ B, k + k, none⟩ := by
  have hf := fits_k hk
  constructor
  · unfold RD.numV RD.takeB
    rw [hf, if_pos ⟨rfl, rfl, by omega, by simp; omega⟩]
    rw [show ((k : Int)).toNat = B.length by omega]
    dsimp only
    rw [← hA, List.drop_left, List.take_length]
  · unfold RD.numS RD.takeS
    rw [hf, if_neg (by simp), if_neg (by rintro (h | h); (· cases h); (· omega)), if_neg (by simp; omega)]
    simp
end Go.Proofs.YtmphajilnkgcaaaGreatDoor.Rdr

namespace Go.Proofs.YtmphajilnkgcaaaGreatDoor.Cod
open Go.RowKit Go.Mir Go.Mir.Parts Wr

theorem take_in {l : List UInt8} {pos m : Nat} (h : pos + m ≤ l.length) : Rdr.RD.takeB ⟨l, pos, none⟩ (m : Int) true = (l.drop pos).take m ∧ Rdr.RD.takeS ⟨l, pos, none⟩ (m : Int) true = ⟨l, pos + m, none⟩ := by
  constructor
  · unfold Rdr.RD.takeB
    rw [if_pos ⟨rfl, rfl, by omega, by dsimp only; omega⟩]
    rfl
  · unfold Rdr.RD.takeS
    rw [if_neg (by simp), if_neg (by rintro (h | h); (· cases h); (· omega)), if_neg (by dsimp only; omega)]
    rfl
/-! ### plain: what is written -/
def Inv2 (R : Nat) (E l : List UInt8) (bad : Int) : Prop := l.length ≤ R ∧ ((bad = 0 ∧ l = E) ∨ (bad = 3 ∧ R < E.length))
theorem Inv2.nil (R : Nat) : Inv2 R [] [] 0 := ⟨by simp, .inl ⟨rfl, rfl⟩⟩
theorem Inv2.put {R : Nat} {E l : List UInt8} {bad : Int} (h : Inv2 R E l bad) (ps : List (List UInt8)) : Inv2 R (E ++ ps.flatten) (putS R l bad true ps).1 (putS R l bad true ps).2 := by
  obtain ⟨h1, h2⟩ := h
  unfold putS
  rw [← total_flatten]
  rcases h2 with ⟨rfl, rfl⟩ | ⟨rfl, h2⟩
  · rw [if_pos rfl, if_pos rfl]
    by_cases ht : ps.flatten.length ≤ R - l.length
    · rw [if_pos ht]
      exact ⟨by rw [List.length_append]; omega, .inl ⟨rfl, rfl⟩⟩
    · rw [if_neg ht]
      exact ⟨h1, .inr ⟨rfl, by rw [List.length_append]; omega⟩⟩
  · rw [if_neg (by decide)]
    exact ⟨h1, .inr ⟨rfl, by rw [List.length_append]; omega⟩⟩
theorem Inv2.one {R : Nat} {E l : List UInt8} {bad : Int} (h : Inv2 R E l bad) (b : List UInt8) : Inv2 R (E ++ b) (putS R l bad true [b]).1 (putS R l bad true [b]).2 := by
  have := h.put [b]
  simpa using this
theorem Inv2.num {R : Nat} {E l : List UInt8} {bad : Int} (h : Inv2 R E l bad) (n k : Nat) (h1 : 1 ≤ k) (h8 : k ≤ 8) (hn : n < 2 ^ (8 * k)) : Inv2 R (E ++ be n k) (numS R l bad n (k : Int)).1 (numS R l bad n (k : Int)).2 := by
  unfold numS
  rw [if_pos ⟨by omega, by omega, .inr (by simpa using hn)⟩]
  exact h.one _
theorem flat32 : ∀ (ids : List (List UInt8)), (∀ x ∈ ids, x.length = 32) → ids.flatten.length = 32 * ids.length
  | [], _ => rfl
  | x :: r, h => by
    have h1 := h x (by simp)
    have h2 := flat32 r (fun y hy => h y (by simp [hy]))
    simp only [List.flatten_cons, List.length_append, List.length_cons]; omega
/-! ### plain: what is read -/
theorem take_rest {E x r : List UInt8} {pos : Nat} (hp : pos ≤ E.length) (h : E.drop pos = x ++ r) :
    Rdr.RD.takeB ⟨E, pos, none⟩ (x.length : Int) true = x ∧ Rdr.RD.takeS ⟨E, pos, none⟩ (x.length : Int) true = ⟨E, pos + x.length, none⟩ ∧ E.drop (pos + x.length) = r ∧ pos + x.length ≤ E.length := by
  have hl := congrArg List.length h
  rw [List.length_drop, List.length_append] at hl
  have hle : pos + x.length ≤ E.length := by omega
  obtain ⟨h1, h2⟩ := take_in hle
  refine ⟨by rw [h1, h, List.take_left], h2, by rw [← List.drop_drop, h, List.drop_left], hle⟩
theorem be_numB (n k : Nat) (hk : k ≤ 8) : be n k = Rdr.numB n k := by
  apply List.ext_getElem?
  intro j
  by_cases hj : j < k
  · rw [Rdr.numB_at n k j hj]
    unfold be nb
    rw [List.getElem?_map, List.getElem?_range hj]
    simp only [Option.map_some]
    rw [show 7 - (8 - k + j) = k - 1 - j by omega, Nat.pow_mul]
  · rw [List.getElem?_eq_none (by rw [be_length]; omega), List.getElem?_eq_none (by rw [Rdr.numB_len]; omega)]
theorem num_rest {E r : List UInt8} {pos n k : Nat} (hp : pos ≤ E.length) (h : E.drop pos = be n k ++ r) (h1 : 1 ≤ k) (h8 : k ≤ 8) (hn : n < 256 ^ k) :
    Rdr.RD.numV ⟨E, pos, none⟩ (k : Int) = n ∧ Rdr.RD.numS ⟨E, pos, none⟩ (k : Int) = ⟨E, pos + k, none⟩ ∧ E.drop (pos + k) = r ∧ pos + k ≤ E.length := by
  obtain ⟨a, b, c, d⟩ := take_rest hp h
  rw [be_length] at a b c d
  have hf : Rdr.fitsW (k : Int) = true := by unfold Rdr.fitsW; rw [decide_eq_true (by omega), decide_eq_true (by omega)]; rfl
  refine ⟨?_, ?_, c, d⟩
  · unfold Rdr.RD.numV
    rw [hf, a, be_numB _ _ h8, Rdr.beN_numB, Nat.mod_eq_of_lt hn]
  · unfold Rdr.RD.numS
    rw [hf, b]
theorem cnt_rest {E r : List UInt8} {pos n k m : Nat} (hp : pos ≤ E.length) (h : E.drop pos = be n k ++ r) (h1 : 1 ≤ k) (h8 : k ≤ 8) (hn : n < 256 ^ k) (hm : n ≤ m) :
    Rdr.RD.cntV ⟨E, pos, none⟩ (k : Int) (m : Int) = n ∧ Rdr.RD.cntS ⟨E, pos, none⟩ (k : Int) (m : Int) = ⟨E, pos + k, none⟩ ∧ E.drop (pos + k) = r ∧ pos + k ≤ E.length := by
  obtain ⟨a, b, c, d⟩ := num_rest hp h h1 h8 hn
  have hS : Rdr.RD.cntS ⟨E, pos, none⟩ (k : Int) (m : Int) = ⟨E, pos + k, none⟩ := by
    unfold Rdr.RD.cntS
    rw [a, if_neg (by omega), b]
  refine ⟨?_, hS, c, d⟩
  unfold Rdr.RD.cntV
  rw [hS, if_pos rfl, a]
/-- a row of ids, one behind the other -/
def chunks (L : List UInt8) (k : Nat) : List (List UInt8) := (List.range k).map fun i => (L.drop (32 * i)).take 32
theorem chunks_flat (L : List UInt8) : ∀ k, (chunks L k).flatMap bytesV = bytesV (L.take (32 * k))
  | 0 => rfl
  | k + 1 => by
    have ih := chunks_flat L k
    unfold chunks at ih ⊢
    rw [List.range_succ, List.map_append, List.flatMap_append, ih, Nat.mul_add, List.take_add, bytesV_append]
    simp
theorem chunks_of : ∀ (ids : List (List UInt8)), (∀ x ∈ ids, x.length = 32) → chunks ids.flatten ids.length = ids
  | [], _ => rfl
  | x :: r, h => by
    have hx := h x (by simp)
    have ih := chunks_of r (fun y hy => h y (by simp [hy]))
    unfold chunks at ih ⊢
    rw [List.length_cons, List.range_succ_eq_map, List.map_cons, List.map_map, List.flatten_cons]
    congr 1
    · rw [Nat.mul_zero, List.drop_zero, ← hx, List.take_left]
    · rw [← ih]
      simp only [ih]
      refine Eq.trans (List.map_congr_left fun i _ => ?_) ih
      show ((x ++ r.flatten).drop (32 * (i + 1))).take 32 = _
      rw [show 32 * (i + 1) = x.length + 32 * i by rw [hx]; omega, ← List.drop_drop, List.drop_left]

theorem numB_beN : ∀ (l : List UInt8), Rdr.numB (Rdr.beN l) l.length = l
  | [] => rfl
  | b :: l => by
    have h1 : Rdr.beN (b :: l) = b.toNat * 256 ^ l.length + Rdr.beN l := by
      show List.foldl _ (256 * 0 + b.toNat) l = _
      rw [Rdr.beN_fold]; simp
    have h2 := Rdr.beN_lt_pow l
    have h3 : Rdr.beN (b :: l) / 256 ^ l.length = b.toNat := by
      rw [h1, Nat.add_comm, Nat.mul_comm, Nat.add_mul_div_left _ _ (Nat.pow_pos (by omega)), Nat.div_eq_of_lt h2, Nat.zero_add]
    have h4 : ∀ (k n m : Nat), m < 256 ^ k → Rdr.numB (n * 256 ^ k + m) k = Rdr.numB m k := fun k n m hm => by
      apply List.ext_getElem?
      intro j
      by_cases hj : j < k
      · rw [Rdr.numB_at _ _ _ hj, Rdr.numB_at _ _ _ hj]
        congr 1
        have e : 256 ^ k = 256 ^ (k - 1 - j) * 256 ^ (j + 1) := by rw [← Nat.pow_add]; congr 1; omega
        have e2 : (n * 256 ^ k + m) / 256 ^ (k - 1 - j) = n * 256 ^ (j + 1) + m / 256 ^ (k - 1 - j) := by
          rw [e, show n * (256 ^ (k - 1 - j) * 256 ^ (j + 1)) = 256 ^ (k - 1 - j) * (n * 256 ^ (j + 1)) by rw [Nat.mul_left_comm], Nat.add_comm, Nat.add_mul_div_left _ _ (Nat.pow_pos (by omega)), Nat.add_comm]
        rw [e2]
        apply UInt8.toNat_inj.1
        rw [UInt8.toNat_ofNat', UInt8.toNat_ofNat', Nat.pow_succ, ← Nat.mul_assoc]
        omega
      · rw [List.getElem?_eq_none (by rw [Rdr.numB_len]; omega), List.getElem?_eq_none (by rw [Rdr.numB_len]; omega)]
    show UInt8.ofNat (Rdr.beN (b :: l) / 256 ^ l.length) :: Rdr.numB (Rdr.beN (b :: l)) l.length = b :: l
    rw [h3, h1, h4 _ _ _ h2, numB_beN l]
    simp
theorem be_beN (l : List UInt8) (k : Nat) (hl : l.length = k) (hk : k ≤ 8) : be (Rdr.beN l) k = l := by
  rw [be_numB _ _ hk]
  subst hl
  exact numB_beN l
theorem beN_be (n k : Nat) (hk : k ≤ 8) (hn : n < 256 ^ k) : Rdr.beN (be n k) = n := by
  rw [be_numB _ _ hk, Rdr.beN_numB, Nat.mod_eq_of_lt hn]
/-! ### a writer as it goes on -/
structure WS (w : World) (wb : Nat) (R : Nat) (E : List UInt8) (x : World) : Prop where
  all : ∃ v l bad, WAt x wb v R l bad ∧ Inv2 R E l bad ∧ (∀ i, foot wb v i → w.heap.size ≤ i) ∧ Below w.heap.size w x
theorem WS.low {w x : World} {wb R : Nat} {E : List UInt8} (h : WS w wb R E x) : Below w.heap.size w x := by
  obtain ⟨_, _, _, _, _, _, h4⟩ := h.all
  exact h4
theorem WS.step {w x y : World} {wb R : Nat} {v : Value} {r : List UInt8 × Int} {E' : List UInt8} (h3 : ∀ i, foot wb v i → w.heap.size ≤ i) (h4 : Below w.heap.size w x) (hl : Wr.Left wb v R r x y) (hi : Inv2 R E' r.1 r.2) : WS w wb R E' y := by
  obtain ⟨v', h1, h2, h5⟩ := hl
  refine ⟨v', _, _, h1, hi, fun i hi' => ?_, h4.trans (h2.below h4.size h3)⟩
  rcases hi' with rfl | hi'
  · exact h3 _ (.inl rfl)
  · rcases Nat.lt_or_ge i x.heap.size with h6 | h6
    · exact h3 _ (.inr (h5 i hi' h6))
    · have := h4.size; omega
theorem WS.turn {w x y : World} {wb : Nat} {v : Value} (h3 : ∀ i, foot wb v i → w.heap.size ≤ i) (h4 : Below w.heap.size w x) (ht : Turns (foot wb v) x y) : Below w.heap.size w y := h4.trans (ht.below h4.size h3)
theorem ws_new (w x : World) (hx : Below w.heap.size w x) (R : Nat) (hR : R ≤ 1000000) :
    Calls Tryz.prog 13 #[.int .i64 (R : Int)] x fun e y => e = .returned (.pointer (some ⟨x.heap.size, 0, none⟩)) ∧ WS w x.heap.size R [] y ∧ Below x.heap.size x y := by
  refine (Wr.new_any (R : Int) x (by omega)).mono ?_
  rintro e y ⟨rfl, hw, hb⟩
  rw [Int.toNat_natCast] at hw
  refine ⟨rfl, ⟨_, _, _, hw, Inv2.nil R, fun i hi => ?_, hx.trans (hb.mono hx.size)⟩, hb⟩
  rcases hi with rfl | hi
  · exact hx.size
  · simp [Value.ownBlock] at hi
theorem ws_num {w x : World} {wb R : Nat} {E : List UInt8} (h : WS w wb R E x) (hR : R ≤ 1000000) (n k : Nat) (h1 : 1 ≤ k) (h8 : k ≤ 8) (hn : n < 2 ^ (8 * k)) (hn2 : n < 18446744073709551616) :
    Calls Tryz.prog 14 #[.pointer (some ⟨wb, 0, none⟩), .int .u64 (n : Int), .int .i64 (k : Int)] x fun e y => e = .returned (.tuple #[]) ∧ WS w wb R (E ++ be n k) y := by
  obtain ⟨v, l, bad, ha, hv, h3, h4⟩ := h.all
  refine (Wr.num_any n k wb v R l bad x ha hn2 (by omega) (by omega) (by have := hv.1; omega)).mono ?_
  rintro e y ⟨rfl, hl⟩
  exact ⟨rfl, WS.step h3 h4 hl (hv.num n k h1 h8 hn)⟩
/-- where all fits -/
theorem ws_done {w x : World} {wb R : Nat} {E : List UInt8} (h : WS w wb R E x) (hR : R ≤ 1000000) (hE : E.length ≤ R) :
    Calls Tryz.prog 16 #[.pointer (some ⟨wb, 0, none⟩)] x fun e y => (∃ p c, e = .returned (.tuple #[.slice p E.length c, .int .i64 0]) ∧ y.ownsRow x.heap.size 5 1 (.slice p E.length c) E.length (bytesV E)) ∧ WS w wb R E y ∧ Below x.heap.size x y := by
  obtain ⟨v, l, bad, ha, hv, h3, h4⟩ := h.all
  refine (Wr.done_any wb v R l bad x ha (by have := hv.1; omega)).mono ?_
  rintro e y ⟨⟨p, n, c, rfl, ho⟩, hb⟩
  rcases hv.2 with ⟨rfl, rfl⟩ | ⟨_, h'⟩
  · rw [if_pos rfl] at ho
    obtain ⟨p', c', he, hs⟩ := own_sl ho
    cases he
    have hn := Bs.length (show Bs y p n c l from hs)
    subst hn
    exact ⟨⟨p, c, rfl, ho⟩, ⟨v, l, 0, ha.touch (Turns.of_below (S := fun _ => False) hb) (fun _ _ h => h), hv, h3, h4.trans (hb.mono h4.size)⟩, hb⟩
  · omega
/-! ### a reader as it goes on -/
theorem rd_num {base rb : Nat} {E r : List UInt8} {pos n k : Nat} (w : World) (h : Rdr.RAt w base rb ⟨E, pos, none⟩) (hd : E.drop pos = be n k ++ r) (h1 : 1 ≤ k) (h8 : k ≤ 8) (hn : n < 256 ^ k) :
    Calls Tryz.prog 27 #[.pointer (some ⟨rb, 0, none⟩), .int .i64 (k : Int)] w fun e w' => e = .returned (.int .u64 (n : Int)) ∧ Rdr.LeftR base rb ⟨E, pos + k, none⟩ w w' := by
  obtain ⟨a, b, _, _⟩ := num_rest (by obtain ⟨v, bv, h'⟩ := h; exact h'.at1) hd h1 h8 hn
  refine (Rdr.num_any w h (k : Int) (by omega)).mono ?_
  rintro e w' ⟨rfl, hl⟩
  rw [b] at hl
  exact ⟨by rw [a], hl⟩
end Go.Proofs.YtmphajilnkgcaaaGreatDoor.Cod

namespace Go.Proofs.YtmphajilnkgcaaaGreatDoor.Cod
open Go.Mir Wr Rdr

theorem num_fit {l : List UInt8} {pos k : Nat} (h1 : 1 ≤ k) (h8 : k ≤ 8) (h : pos + k ≤ l.length) : RD.numV ⟨l, pos, none⟩ (k : Int) = beN ((l.drop pos).take k) ∧ RD.numS ⟨l, pos, none⟩ (k : Int) = ⟨l, pos + k, none⟩ := by
  obtain ⟨a, b⟩ := take_in h
  have hf : fitsW (k : Int) = true := by unfold fitsW; rw [decide_eq_true (by omega), decide_eq_true (by omega)]; rfl
  unfold RD.numV RD.numS
  rw [hf, a, b]
  exact ⟨rfl, rfl⟩
theorem take_short {l : List UInt8} {pos k : Nat} (h : l.length < pos + k) : RD.takeB ⟨l, pos, none⟩ (k : Int) true = [] ∧ RD.takeS ⟨l, pos, none⟩ (k : Int) true = ⟨l, pos, some 2⟩ := by
  constructor
  · unfold RD.takeB
    rw [if_neg]
    rintro ⟨_, _, _, h'⟩
    dsimp only at h'
    omega
  · unfold RD.takeS
    rw [if_neg (by simp), if_neg (by rintro (h' | h'); (· cases h'); (· omega)), if_pos (by dsimp only; omega)]
theorem take_bad {l : List UInt8} {pos : Nat} {e : Int} (n : Int) (f : Bool) : RD.takeB ⟨l, pos, some e⟩ n f = [] ∧ RD.takeS ⟨l, pos, some e⟩ n f = ⟨l, pos, some e⟩ := by
  constructor
  · unfold RD.takeB; rw [if_neg (by simp)]
  · unfold RD.takeS; rw [if_pos (by simp)]
theorem num_short {l : List UInt8} {pos k : Nat} (h1 : 1 ≤ k) (h8 : k ≤ 8) (h : l.length < pos + k) : RD.numV ⟨l, pos, none⟩ (k : Int) = 0 ∧ RD.numS ⟨l, pos, none⟩ (k : Int) = ⟨l, pos, some 2⟩ := by
  obtain ⟨a, b⟩ := take_short h
  have hf : fitsW (k : Int) = true := by unfold fitsW; rw [decide_eq_true (by omega), decide_eq_true (by omega)]; rfl
  unfold RD.numV RD.numS
  rw [hf, a, b]
  exact ⟨rfl, rfl⟩
theorem num_bad {l : List UInt8} {pos : Nat} {e : Int} (k : Int) : RD.numV ⟨l, pos, some e⟩ k = 0 ∧ RD.numS ⟨l, pos, some e⟩ k = ⟨l, pos, some e⟩ := by
  unfold RD.numV RD.numS
  rw [(take_bad k _).1, (take_bad k _).2]
  exact ⟨rfl, rfl⟩
theorem cnt_bad {l : List UInt8} {pos : Nat} {e : Int} (k m : Int) (hm : 0 ≤ m) : RD.cntV ⟨l, pos, some e⟩ k m = 0 ∧ RD.cntS ⟨l, pos, some e⟩ k m = ⟨l, pos, some e⟩ := by
  have hS : RD.cntS ⟨l, pos, some e⟩ k m = ⟨l, pos, some e⟩ := by
    unfold RD.cntS
    rw [(num_bad k).1, (num_bad k).2, if_neg (by omega)]
  refine ⟨?_, hS⟩
  unfold RD.cntV
  rw [hS, if_neg (by simp)]
theorem cnt_short {l : List UInt8} {pos k : Nat} (m : Int) (hm : 0 ≤ m) (h1 : 1 ≤ k) (h8 : k ≤ 8) (h : l.length < pos + k) : RD.cntV ⟨l, pos, none⟩ (k : Int) m = 0 ∧ RD.cntS ⟨l, pos, none⟩ (k : Int) m = ⟨l, pos, some 2⟩ := by
  obtain ⟨a, b⟩ := num_short h1 h8 h
  have hS : RD.cntS ⟨l, pos, none⟩ (k : Int) m = ⟨l, pos, some 2⟩ := by
    unfold RD.cntS
    rw [a, b, if_neg (by omega)]
  refine ⟨?_, hS⟩
  unfold RD.cntV
  rw [hS, if_neg (by simp)]
theorem cnt_over {l : List UInt8} {pos k m : Nat} (h1 : 1 ≤ k) (h8 : k ≤ 8) (h : pos + k ≤ l.length) (hm : m < beN ((l.drop pos).take k)) : RD.cntV ⟨l, pos, none⟩ (k : Int) (m : Int) = 0 ∧ RD.cntS ⟨l, pos, none⟩ (k : Int) (m : Int) = ⟨l, pos + k, some 4⟩ := by
  obtain ⟨a, b⟩ := num_fit h1 h8 h
  have hS : RD.cntS ⟨l, pos, none⟩ (k : Int) (m : Int) = ⟨l, pos + k, some 4⟩ := by
    unfold RD.cntS
    rw [a, b, if_pos (by omega)]
    unfold RD.fail
    rw [if_pos ⟨rfl, by decide⟩]
  refine ⟨?_, hS⟩
  unfold RD.cntV
  rw [hS, if_neg (by simp)]
theorem cnt_fit {l : List UInt8} {pos k m : Nat} (h1 : 1 ≤ k) (h8 : k ≤ 8) (h : pos + k ≤ l.length) (hm : beN ((l.drop pos).take k) ≤ m) : RD.cntV ⟨l, pos, none⟩ (k : Int) (m : Int) = beN ((l.drop pos).take k) ∧ RD.cntS ⟨l, pos, none⟩ (k : Int) (m : Int) = ⟨l, pos + k, none⟩ := by
  obtain ⟨a, b⟩ := num_fit h1 h8 h
  have hS : RD.cntS ⟨l, pos, none⟩ (k : Int) (m : Int) = ⟨l, pos + k, none⟩ := by
    unfold RD.cntS
    rw [a, b, if_neg (by omega)]
  refine ⟨?_, hS⟩
  unfold RD.cntV
  rw [hS, if_pos rfl, a]
theorem done_bad {l : List UInt8} {pos : Nat} {e : Int} (he : e ≠ 0) : RD.done ⟨l, pos, some e⟩ = e := by
  unfold RD.done
  rw [if_pos (by show (e : Int) ≠ 0; exact he)]
  rfl
theorem done_all {l : List UInt8} {pos : Nat} (h : l.length ≤ pos) : RD.done ⟨l, pos, none⟩ = 0 := by
  unfold RD.done
  rw [if_neg (by show ¬ (0 : Int) ≠ 0; simp), if_pos (by dsimp only; omega)]
theorem done_left {l : List UInt8} {pos : Nat} (h : pos < l.length) : RD.done ⟨l, pos, none⟩ = 3 := by
  unfold RD.done
  rw [if_neg (by show ¬ (0 : Int) ≠ 0; simp), if_neg (by dsimp only; omega)]
theorem id_fit {l : List UInt8} {pos : Nat} (n : Nat) (h : pos + n ≤ l.length) : RD.idV ⟨l, pos, none⟩ n = (l.drop pos).take n ∧ RD.takeS ⟨l, pos, none⟩ (n : Int) true = ⟨l, pos + n, none⟩ := by
  obtain ⟨a, b⟩ := take_in h
  refine ⟨?_, b⟩
  unfold RD.idV
  rw [a]
  have : ((l.drop pos).take n).length = n := by rw [List.length_take, List.length_drop]; omega
  rw [this]
  simp
theorem idV_len (s : RD) (n : Nat) : (s.idV n).length = n := by
  unfold RD.idV
  have h := takeB_len s (n : Int) true
  rw [if_pos (by omega)] at h
  rw [List.length_append, List.length_replicate]
  omega
theorem numV_pow (s : RD) (k : Nat) (hk : k ≤ 8) : s.numV (k : Int) < 256 ^ k := by
  unfold RD.numV
  have h1 := beN_lt_pow (s.takeB (k : Int) (fitsW (k : Int)))
  have h2 := takeB_len s (k : Int) (fitsW (k : Int))
  rw [if_pos (by omega)] at h2
  have h3 : 256 ^ (s.takeB (k : Int) (fitsW (k : Int))).length ≤ 256 ^ k := Nat.pow_le_pow_right (by omega) (by omega)
  omega
theorem drop_mid {a b c : List UInt8} (k : Nat) (h : a.length = k) : ((a ++ (b ++ c)).drop k).take b.length = b := by
  rw [← h, List.drop_left, List.take_left]
theorem mid_take (b : List UInt8) (n i j : Nat) (h : i + j ≤ n) : ((b.take n).drop i).take j = (b.drop i).take j := by
  rw [List.drop_take, List.take_take]
  congr 1
  omega
theorem mid_app (b c : List UInt8) (i j : Nat) (h : i + j ≤ b.length) : ((b ++ c).drop i).take j = (b.drop i).take j := by
  rw [List.drop_append_of_le_length (by omega), List.take_append_of_le_length (by rw [List.length_drop]; omega)]
theorem cut2 (l : List UInt8) (i k : Nat) : (l.drop i).take k ++ l.drop (i + k) = l.drop i := by
  rw [← List.drop_drop, List.take_append_drop]
theorem be_one (n : Nat) : be n 1 = [UInt8.ofNat n] := by
  rw [be_numB _ _ (by omega)]
  simp [Rdr.numB]
theorem beN_one (x : UInt8) : beN [x] = x.toNat := by simp [beN]
theorem beN_take {l : List UInt8} {i k : Nat} (h : i + k ≤ l.length) : Rdr.beN ((l.drop i).take k) < 256 ^ k := by
  have := Rdr.beN_lt_pow ((l.drop i).take k)
  rwa [List.length_take, List.length_drop, Nat.min_eq_left (by omega)] at this
theorem be_take {l : List UInt8} {i k : Nat} (h : i + k ≤ l.length) (hk : k ≤ 8) : be (Rdr.beN ((l.drop i).take k)) k = (l.drop i).take k := be_beN _ _ (by rw [List.length_take, List.length_drop]; omega) hk
end Go.Proofs.YtmphajilnkgcaaaGreatDoor.Cod

namespace Go.Proofs.YtmphajilnkgcaaaGreatDoor.Rpl
open Go.Mir Wr Rdr Cod

/-- a reader's state that is right at p, or short -/
def R2 (l : List UInt8) (p : Nat) (s : RD) : Prop := (s = ⟨l, p, none⟩ ∧ p ≤ l.length) ∨ ∃ q, s = ⟨l, q, some 2⟩ ∧ l.length < p
theorem R2.step {l : List UInt8} {p : Nat} {s : RD} (h : R2 l p s) (k : Nat) (h1 : 1 ≤ k) (h8 : k ≤ 8) : R2 l (p + k) (s.numS (k : Int)) := by
  rcases h with ⟨rfl, hp⟩ | ⟨q, rfl, hp⟩
  · by_cases hf : p + k ≤ l.length
    · exact .inl ⟨(num_fit h1 h8 hf).2, hf⟩
    · exact .inr ⟨p, (num_short h1 h8 (by omega)).2, by omega⟩
  · exact .inr ⟨q, (num_bad _).2, by omega⟩
theorem R2.val {l : List UInt8} {p : Nat} {s : RD} (h : R2 l p s) (k : Nat) (h1 : 1 ≤ k) (h8 : k ≤ 8) (hf : p + k ≤ l.length) : s.numV (k : Int) = beN ((l.drop p).take k) := by
  rcases h with ⟨rfl, hp⟩ | ⟨q, rfl, hp⟩
  · exact (num_fit h1 h8 hf).1
  · omega
theorem R2.done {l : List UInt8} {p : Nat} {s : RD} (h : R2 l p s) : s.done = if l.length < p then 2 else if p < l.length then 3 else 0 := by
  rcases h with ⟨rfl, hp⟩ | ⟨q, rfl, hp⟩
  · rw [if_neg (by omega)]
    by_cases hl : p < l.length
    · rw [if_pos hl, done_left hl]
    · rw [if_neg hl, done_all (by omega)]
  · rw [if_pos hp, done_bad (by decide)]
theorem R2.bound {l : List UInt8} {p : Nat} {s : RD} (h : R2 l p s) (k : Nat) (h1 : 1 ≤ k) (h8 : k ≤ 8) : s.numV (k : Int) < 256 ^ k := by
  rcases h with ⟨rfl, hp⟩ | ⟨q, rfl, hp⟩
  · by_cases hf : p + k ≤ l.length
    · rw [(num_fit h1 h8 hf).1]
      have := beN_lt_pow ((l.drop p).take k)
      have hl : ((l.drop p).take k).length = k := by rw [List.length_take, List.length_drop]; omega
      rwa [hl] at this
    · rw [(num_short h1 h8 (by omega)).1]; exact Nat.pow_pos (by omega)
  · rw [(num_bad _).1]; exact Nat.pow_pos (by omega)
theorem R2.new (l : List UInt8) : R2 l 0 (RD.new l) := .inl ⟨rfl, Nat.zero_le _⟩
/-- the state behind the first two and i numbers -/
def stN (l : List UInt8) : Nat → RD
  | 0 => ((RD.new l).numS 1).numS 1
  | i + 1 => (stN l i).numS 4
theorem stN_r2 (l : List UInt8) : ∀ i, R2 l (2 + 4 * i) (stN l i)
  | 0 => ((R2.new l).step 1 (by omega) (by omega)).step 1 (by omega) (by omega)
  | i + 1 => by have := (stN_r2 l i).step 4 (by omega) (by omega); rw [show 2 + 4 * i + 4 = 2 + 4 * (i + 1) by omega] at this; exact this
/-- the numbers that were read -/
def numsD (l : List UInt8) (i : Nat) : List Nat := (List.range i).map fun j => (stN l j).numV 4
theorem numsD_succ (l : List UInt8) (i : Nat) : numsD l (i + 1) = numsD l i ++ [(stN l i).numV 4] := by
  unfold numsD; rw [List.range_succ, List.map_append]; rfl
theorem numsD_len (l : List UInt8) (i : Nat) : (numsD l i).length = i := by unfold numsD; simp
def kD (l : List UInt8) : Nat := (RD.new l).numV 1
def eD (l : List UInt8) : Nat := ((RD.new l).numS 1).numV 1
def rD (l : List UInt8) (i : Nat) : RP := mkR (kD l : Int) (eD l : Int) (numsD l i)
/-- what Decode says -/
def decD (l : List UInt8) : RP × Int := if l.length < 22 then (RP.zero, 2) else if 22 < l.length then (RP.zero, 3) else if (rD l 5).right then (rD l 5, 0) else (RP.zero, 4)
theorem done_st (l : List UInt8) : (stN l 5).done = if l.length < 22 then 2 else if 22 < l.length then 3 else 0 := (stN_r2 l 5).done
theorem kD_lt (l : List UInt8) : kD l < 256 := (R2.new l).bound 1 (by omega) (by omega)
theorem eD_lt (l : List UInt8) : eD l < 256 := ((R2.new l).step 1 (by omega) (by omega)).bound 1 (by omega) (by omega)
theorem nD_lt (l : List UInt8) (i : Nat) : (stN l i).numV 4 < 4294967296 := (stN_r2 l i).bound 4 (by omega) (by omega)
/-- what Encode writes -/
def encD (r : RP) : List UInt8 := be r.kind.toNat 1 ++ (be r.err.toNat 1 ++ (be r.se 4 ++ (be r.sq 4 ++ (be r.qu 4 ++ (be r.us 4 ++ be r.ex 4)))))
theorem rD_fit (l : List UInt8) (h : l.length = 22) : rD l 5 = ⟨(beN (l.take 1) : Int), (beN ((l.drop 1).take 1) : Int), beN ((l.drop 2).take 4), beN ((l.drop 6).take 4), beN ((l.drop 10).take 4), beN ((l.drop 14).take 4), beN ((l.drop 18).take 4)⟩ := by
  have v (i : Nat) (hi : i < 5) : (stN l i).numV 4 = beN ((l.drop (2 + 4 * i)).take 4) := (stN_r2 l i).val 4 (by omega) (by omega) (by omega)
  have v0 : kD l = beN (l.take 1) := by have := (R2.new l).val 1 (by omega) (by omega) (by omega); rwa [List.drop_zero] at this
  have v1 : eD l = beN ((l.drop 1).take 1) := ((R2.new l).step 1 (by omega) (by omega)).val 1 (by omega) (by omega) (by omega)
  unfold rD mkR
  rw [v0, v1]
  show (⟨_, _, (stN l 0).numV 4, (stN l 1).numV 4, (stN l 2).numV 4, (stN l 3).numV 4, (stN l 4).numV 4⟩ : RP) = _
  rw [v 0 (by omega), v 1 (by omega), v 2 (by omega), v 3 (by omega), v 4 (by omega)]
theorem cut (l : List UInt8) (p k : Nat) : l.drop p = (l.drop p).take k ++ l.drop (p + k) := by rw [← List.drop_drop, List.take_append_drop]
theorem enc_rD (l : List UInt8) (h : l.length = 22) : encD (rD l 5) = l := by
  rw [rD_fit l h]
  unfold encD
  simp only [Int.toNat_natCast]
  have c (p k : Nat) (hk : k ≤ 8) (hp : p + k ≤ 22) : be (beN ((l.drop p).take k)) k = (l.drop p).take k := be_beN _ _ (by rw [List.length_take, List.length_drop]; omega) hk
  have c0 : be (beN (l.take 1)) 1 = l.take 1 := be_beN _ _ (by rw [List.length_take]; omega) (by omega)
  rw [c0, c 1 1 (by omega) (by omega), c 2 4 (by omega) (by omega), c 6 4 (by omega) (by omega), c 10 4 (by omega) (by omega), c 14 4 (by omega) (by omega), c 18 4 (by omega) (by omega)]
  have e18 : (l.drop 18).take 4 = l.drop 18 := List.take_of_length_le (by rw [List.length_drop]; omega)
  rw [e18, ← cut l 14 4, ← cut l 10 4, ← cut l 6 4, ← cut l 2 4, ← cut l 1 1]
  exact List.take_append_drop 1 l
end Go.Proofs.YtmphajilnkgcaaaGreatDoor.Rpl

namespace Go.Proofs.YtmphajilnkgcaaaGreatDoor.Rpl
open Go.RowKit Go.Mir Go.Mir.Hx Go.Mir.Parts Wr Rdr Cod

/-- Decode's state: the told box, the reply, the reader -/
structure DS (w : World) (base rb xb : Nat) (s : RD) (r : RP) (X : World) : Prop where
  rd : RAt X base rb s
  r0 : X.heap[w.heap.size]? = some (.cells zR 26 (0, 0))
  r1 : X.heap[xb]? = some (.cells (rpA r) 26 (0, 0))
  low : Below w.heap.size w X
  ne : xb ≠ rb ∧ w.heap.size < rb ∧ w.heap.size < xb
theorem DS.left {w x y : World} {base rb xb : Nat} {s s' : RD} {r : RP} (h : DS w base rb xb s r x) (hl : LeftR base rb s' x y) : DS w base rb xb s' r y :=
  ⟨hl.there, hl.turn.keep h.r0 (by have := h.ne; omega), hl.turn.keep h.r1 (by have := h.ne; omega), h.low.trans (hl.turn.below h.low.size (fun i hi => by have := h.ne; omega)), h.ne⟩
theorem DS.below {w x y : World} {base rb xb : Nat} {s : RD} {r : RP} (h : DS w base rb xb s r x) (hb : Below x.heap.size x y) : DS w base rb xb s r y :=
  ⟨h.rd.below hb, Below.keepOld hb h.r0, Below.keepOld hb h.r1, h.low.trans (hb.mono h.low.size), h.ne⟩
theorem DS.kind {w x : World} {base rb xb : Nat} {s : RD} {r : RP} (h : DS w base rb xb s r x) : ∀ k M t fr, x.heap[k]? = some (.cells M t fr) → (t = 5 ∨ t = 105 ∨ t = 89) → ¬ k = xb := fun k M t fr hk h2 h3 => by
  subst h3
  rw [h.r1] at hk
  injection hk with e1
  injection e1 with _ e2
  subst e2
  revert h2
  decide
theorem DS.set {w x : World} {base rb xb : Nat} {s : RD} {r r' : RP} (h : DS w base rb xb s r x) (i : Nat) (v : Value) (hv : (rpA r).setIfInBounds i v = rpA r') : DS w base rb xb s r' (x.setCell ⟨xb, i, none⟩ v) :=
  ⟨h.rd.touch ((Turns.refl (fun k => k = xb) x).setCell (p := ⟨xb, i, none⟩) (fun _ => rfl) v) h.kind, by rw [heap_setCell_other _ _ _ _ (by have := h.ne; simp; omega)]; exact h.r0, by rw [heap_setCell_same _ _ _ _ _ _ h.r1, hv], h.low.setCell (by have := h.ne; show w.heap.size ≤ xb; omega) _, h.ne⟩
def DecP (l : List UInt8) (w : World) (e : Ending) (w' : World) : Prop := e = .returned (.tuple #[.agg (rpA (decD l).1), .int .i64 (decD l).2]) ∧ Below w.heap.size w w'
set_option maxRecDepth 100000 in
set_option maxHeartbeats 6400000 in
theorem decode_any (w : World) (p : Option Addr) (n c : Nat) (l : List UInt8) (hB : Bs w p n c l) (hE : EType w) (hn : n ≤ 1099511627776) :
    Calls Tryz.prog 10 #[.slice p n c] w (DecP l w) := by
  have hz := zeroR
  have hz5 := zeroP
  have HBS := Lib.hid hB
  have HE := Lib.hid hE
  have HZB := Lib.hid (Below.allocs w (.cells zR 26))
  have HZR := Lib.hid (heap_alloc_last w (.cells zR 26))
  have HZS : Hid (w.heap.size < (w.alloc (.cells zR 26)).heap.size) := (Array.getElem?_eq_some_iff.1 HZR.out).1
  have hk256 := kD_lt l
  have he256 := eD_lt l
  have HI1 : Hid (∀ (x : World) (base rb : Nat), RAt x base rb (RD.new l) → Calls Tryz.prog 27 #[.pointer (some ⟨rb, 0, none⟩), .int .i64 1] x fun e w' => e = .returned (.int .u64 (kD l : Int)) ∧ LeftR base rb ((RD.new l).numS 1) x w') := fun x base rb h => Rdr.num_any x h 1 (by omega)
  have HI2 : Hid (∀ (x : World) (base rb : Nat), RAt x base rb ((RD.new l).numS 1) → Calls Tryz.prog 27 #[.pointer (some ⟨rb, 0, none⟩), .int .i64 1] x fun e w' => e = .returned (.int .u64 (eD l : Int)) ∧ LeftR base rb (stN l 0) x w') := fun x base rb h => Rdr.num_any x h 1 (by omega)
  have HI4 : Hid (∀ (i : Nat) (x : World) (base rb : Nat), RAt x base rb (stN l i) → Calls Tryz.prog 27 #[.pointer (some ⟨rb, 0, none⟩), .int .i64 4] x fun e w' => e = .returned (.int .u64 ((stN l i).numV 4 : Int)) ∧ LeftR base rb (stN l (i + 1)) x w') := fun i x base rb h => Rdr.num_any x h 4 (by omega)
  have HRD : Hid (mkR (kD l : Int) (eD l : Int) [] = rD l 0) := rfl
  have HDD : Hid (decD l = if l.length < 22 then (RP.zero, 2) else if 22 < l.length then (RP.zero, 3) else if (rD l 5).right then (rD l 5, 0) else (RP.zero, 4)) := rfl
  have HR5 : Hid (∀ i, (rD l i) = mkR (kD l : Int) (eD l : Int) (numsD l i)) := fun _ => rfl
  have HND := Lib.hid (nD_lt l)
  have hwk : IntKind.i64.wrap (kD l : Int) = (kD l : Int) := by rw [IntKind.wrap_i64]; omega
  have hwe : IntKind.i64.wrap (eD l : Int) = (eD l : Int) := by rw [IntKind.wrap_i64]; omega
  clear hB hE
  generalize kD l = kd at *
  generalize eD l = ed at *
  go_enter Tryz.func10, Tryz.ntmps10
  go_upto_region 1 with fail
  generalize w.alloc (.cells zR 26) = w1 at *
  go_wp2_with fail
  refine (Rdr.new_any w1 _ _ _ l (HBS.out.below HZB.out) (by omega)).mono ?_
  rintro e w2 ⟨rb, rfl, hr2, hb2⟩
  have HR2 := Lib.hid hr2
  have HB2 := Lib.hid hb2
  clear hr2 hb2
  go_wp2_with fail
  refine (HI1.out _ _ _ HR2.out).mono ?_
  rintro e w3 ⟨rfl, hl3⟩
  have HL3 := Lib.hid hl3
  clear hl3
  go_wp2_with fail
  refine (HI2.out _ _ _ HL3.out.there).mono ?_
  rintro e w4 ⟨rfl, hl4⟩
  have HL4 := Lib.hid hl4
  clear hl4
  go_upto_region 3 with (first
    | refine Rdr.wpList_build rfl 26 _ rfl [(0, .int .i64 (kd : Int)), (1, .int .i64 (ed : Int))] rfl _ (built_r2 _ _) ?_
    | refine wpList_store_row rfl 26 _ _ rfl w4.heap.size (rpA ⟨(kd : Int), (ed : Int), 0, 0, 0, 0, 0⟩) rfl rfl 26 zR (heap_alloc_last _ _) (infoR _ rfl) rfl (rpA_one _) ?_)
  simp only [Act.put]
  have hdw : DS w w1.heap.size rb w4.heap.size (stN l 0) (rD l 0) ((w4.alloc (.cells zR 26)).setRow w4.heap.size (rpA ⟨(kd : Int), (ed : Int), 0, 0, 0, 0, 0⟩)) := by
    have hb4 : Below w4.heap.size w4 ((w4.alloc (.cells zR 26)).setRow w4.heap.size (rpA ⟨(kd : Int), (ed : Int), 0, 0, 0, 0, 0⟩)) := below_setRow (Below.allocs _ _) (Nat.le_refl _) _
    have hs1 := HZS.out
    have hs2 := HB2.out.size
    have hs3 := HL3.out.turn.size
    have hs4 := HL4.out.turn.size
    obtain ⟨v, bv, hr⟩ := HR2.out
    have hlow := hr.low
    have hlt := hr.lt
    have hb13 : Below w1.heap.size w1 w3 := HB2.out.trans (HL3.out.turn.below hs2 (fun i hi => by omega))
    have hb14 : Below w1.heap.size w1 w4 := hb13.trans (HL4.out.turn.below (by omega) (fun i hi => by omega))
    have hb15 : Below w1.heap.size w1 _ := hb14.trans (hb4.mono hb14.size)
    refine ⟨HL4.out.there.below hb4, Below.keepOld hb15 HZR.out, ?_, HZB.out.trans (hb15.mono (by omega)), ⟨by omega, by omega, by omega⟩⟩
    rw [← HRD.out]
    exact setRow_heap _ _ _ _ _ _ (heap_alloc_last _ _)
  generalize (w4.alloc (.cells zR 26)).setRow w4.heap.size (rpA ⟨(kd : Int), (ed : Int), 0, 0, 0, 0, 0⟩) = w5 at *
  generalize w4.heap.size = xb at *
  have HDW := Lib.hid hdw
  clear hdw HL3 HL4 HR2 HB2 HI1 HI2
  go_wp2_with fail
  refine (numbers_any xb w5).mono ?_
  rintro e w6 ⟨rfl, hb6⟩
  have HD6 := Lib.hid (HDW.out.below hb6)
  clear hb6 HDW
  go_wp2_with fail
  go_loopw [19] (fun j wr => ∃ i : Nat, i ≤ 5 ∧ j = .int .i64 i ∧ DS w w1.heap.size rb xb (stN l i) (rD l i) wr) (fun j _ => 5 - (intOf j).toNat)
  case atStart => exact ⟨0, by omega, rfl, HD6.out⟩
  case round =>
    clear HD6
    obtain ⟨i, hi, rfl, hds⟩ := hrel
    have HDS := Lib.hid hds
    clear hds
    by_cases hlt : i < 5
    · have hdi : decide ((i : Int) < 5) = true := decide_eq_true (by omega)
      have hdi2 : decide (i < 5) = true := decide_eq_true hlt
      have hpg := idx_run xb i hlt
      have hvl := HND.out i
      have HSU := Lib.hid (numsD_succ l i)
      have HNL := Lib.hid (numsD_len l i)
      have HCALL := Lib.hid (HI4.out i wr _ _ HDS.out.rd)
      generalize (stN l i).numV 4 = v at *
      have hwrap : IntKind.u32.wrap (v : Int) = (v : Int) := by rw [IntKind.wrap_u32]; omega
      go_wp2_with fail
      refine HCALL.out.mono ?_
      rintro e w9 ⟨rfl, hl9⟩
      have HD9 := Lib.hid (HDS.out.left hl9)
      clear hl9 HCALL HDS
      have hco : w9.cell? ⟨xb, 2 + i, none⟩ = some (.int .u32 (((rD l i).nums.getD i 0 : Nat) : Int)) := by rw [cell_of_row _ _ _ _ _ _ HD9.out.r1]; exact rp_num _ i hlt
      have hfz : ∀ j, w9.frozen? ⟨xb, j, none⟩ = false := fun j => frozen_of_row _ _ j _ _ HD9.out.r1
      generalize (rD l i).nums.getD i 0 = old at *
      have HD10 : Hid (DS w w1.heap.size rb xb (stN l (i + 1)) (rD l (i + 1)) (w9.setCell ⟨xb, 2 + i, none⟩ (.int .u32 (v : Int)))) := HD9.out.set _ _ (by
        rw [HR5.out i, HR5.out (i + 1), HSU.out]
        have := rp_push (kd : Int) (ed : Int) (numsD l i) (by rw [HNL.out]; exact hlt) v
        rw [HNL.out] at this
        exact this)
      clear HD9
      go_wp2_with fail
      go_roundw
      case rel => exact ⟨i + 1, by omega, by go_num, HD10.out⟩
      case measure => simp [intOf]; omega
    · obtain rfl : i = 5 := by omega
      have hdi : decide ((5 : Int) < 5) = false := by decide
      have hdi2 : decide (5 < 5) = false := by decide
      have HE9 := Lib.hid (HE.out.below HDS.out.low HE.out.lt)
      have HDN := Lib.hid (done_st l)
      have HRIGHT := Lib.hid (fun w => right_any (rD l 5) w)
      go_wp2_with fail
      refine (Rdr.done_any _ HDS.out.rd HE9.out).mono ?_
      rintro e x9 ⟨rfl, hb9⟩
      rw [HDN.out]
      have hd9 := HDS.out.below hb9
      clear hb9 HDS HE9 HDN
      have HDS := Lib.hid hd9
      clear hd9
      by_cases hl1 : l.length < 22
      · rw [if_pos hl1] at HDD ⊢
        have HDQ := HDD
        clear hl1
        go_upto_region 12 with fail
        skip
        -- the error EV is told: decD l = (zero, EV)
        go_wp2_with (first
          | refine Rdr.wpList_build rfl 26 _ rfl [] rfl _ built_r0 ?_
          | refine wpList_store_row rfl 26 _ _ rfl w.heap.size zR rfl rfl 26 zR HDS.out.r0 (infoR _ rfl) rfl (rpA_one _) ?_)
        have HS := Lib.hid (setRow_heap _ _ _ zR _ _ HDS.out.r0)
        refine bodyPost_ret (results_row_tmp rfl _ _ _ _ _ _ _ rfl HS.out Tryz.underlying26 rfl (infoR _ rfl)) rfl ?_
        unfold DecP
        rw [HDQ.out]
        exact ⟨rfl, below_setRow HDS.out.low (Nat.le_refl _) _⟩
      rw [if_neg hl1] at HDD ⊢
      by_cases hl2 : 22 < l.length
      · rw [if_pos hl2] at HDD ⊢
        have HDQ := HDD
        clear hl1 hl2
        go_upto_region 12 with fail
        skip
        -- the error EV is told: decD l = (zero, EV)
        go_wp2_with (first
          | refine Rdr.wpList_build rfl 26 _ rfl [] rfl _ built_r0 ?_
          | refine wpList_store_row rfl 26 _ _ rfl w.heap.size zR rfl rfl 26 zR HDS.out.r0 (infoR _ rfl) rfl (rpA_one _) ?_)
        have HS := Lib.hid (setRow_heap _ _ _ zR _ _ HDS.out.r0)
        refine bodyPost_ret (results_row_tmp rfl _ _ _ _ _ _ _ rfl HS.out Tryz.underlying26 rfl (infoR _ rfl)) rfl ?_
        unfold DecP
        rw [HDQ.out]
        exact ⟨rfl, below_setRow HDS.out.low (Nat.le_refl _) _⟩
      rw [if_neg hl2] at HDD ⊢
      clear hl1 hl2
      obtain ⟨b, hb⟩ : ∃ b, decide (rD l 5).right = b := ⟨_, rfl⟩
      rw [hb] at HRIGHT
      generalize hRR : rD l 5 = RR at *
      go_wp2_with (refine wpList_load_row_g rfl 26 _ rfl xb rfl 26 (rpA RR) (0, 0) _ HDS.out.r1 Tryz.underlying26 rfl (infoR _ rfl) ?_)
      refine (HRIGHT.out x9).mono ?_
      rintro e y9 ⟨rfl, hb9⟩
      have hd9 := HDS.out.below hb9
      clear hb9 HDS HRIGHT hRR
      have HDS := Lib.hid hd9
      clear hd9
      cases b with
      | false =>
        have hnr : ¬ RR.right := of_decide_eq_false hb
        rw [if_neg hnr] at HDD
        have HDQ := HDD
        clear hb hnr
        go_upto_region 12 with fail
        skip
        -- the error EV is told: decD l = (zero, EV)
        go_wp2_with (first
          | refine Rdr.wpList_build rfl 26 _ rfl [] rfl _ built_r0 ?_
          | refine wpList_store_row rfl 26 _ _ rfl w.heap.size zR rfl rfl 26 zR HDS.out.r0 (infoR _ rfl) rfl (rpA_one _) ?_)
        have HS := Lib.hid (setRow_heap _ _ _ zR _ _ HDS.out.r0)
        refine bodyPost_ret (results_row_tmp rfl _ _ _ _ _ _ _ rfl HS.out Tryz.underlying26 rfl (infoR _ rfl)) rfl ?_
        unfold DecP
        rw [HDQ.out]
        exact ⟨rfl, below_setRow HDS.out.low (Nat.le_refl _) _⟩
      | true =>
        have hnr : RR.right := of_decide_eq_true hb
        rw [if_pos hnr] at HDD
        have HDQ := HDD
        clear hb hnr
        go_upto_region 13 with fail
        go_wp2_with (first
          | refine wpList_load_row rfl 26 _ rfl xb rfl 26 (rpA RR) (0, 0) _ HDS.out.r1 Tryz.underlying26 rfl (infoR _ rfl) ?_
          | refine wpList_store_row rfl 26 _ _ rfl w.heap.size (rpA RR) rfl rfl 26 zR HDS.out.r0 (infoR _ rfl) rfl (rpA_one _) ?_)
        have HS := Lib.hid (setRow_heap _ _ _ (rpA RR) _ _ HDS.out.r0)
        refine bodyPost_ret (results_row_tmp rfl _ _ _ _ _ _ _ rfl HS.out Tryz.underlying26 rfl (infoR _ rfl)) rfl ?_
        unfold DecP
        rw [HDQ.out]
        exact ⟨rfl, below_setRow HDS.out.low (Nat.le_refl _) _⟩
end Go.Proofs.YtmphajilnkgcaaaGreatDoor.Rpl

namespace Go.Proofs.YtmphajilnkgcaaaGreatDoor.Rpl
open Go.RowKit Go.Mir Go.Mir.Hx Go.Mir.Parts Wr Cod

def encN (r : RP) (i : Nat) : List UInt8 := be r.kind.toNat 1 ++ be r.err.toNat 1 ++ ((r.nums.take i).map fun n => be n 4).flatten
theorem encN_succ (r : RP) (i : Nat) (h : i < 5) : encN r (i + 1) = encN r i ++ be (r.nums.getD i 0) 4 := by
  have hnl : i < r.nums.length := h
  unfold encN
  rw [List.take_succ_eq_append_getElem hnl, List.map_append, List.flatten_append, List.getD_eq_getElem?_getD, List.getElem?_eq_getElem hnl]
  simp
theorem encN_all (r : RP) : encN r 5 = encD r := by
  unfold encN encD
  show be r.kind.toNat 1 ++ be r.err.toNat 1 ++ (be r.se 4 ++ (be r.sq 4 ++ (be r.qu 4 ++ (be r.us 4 ++ (be r.ex 4 ++ []))))) = _
  rw [List.append_nil, List.append_assoc]
theorem encD_len (r : RP) : (encD r).length = 22 := by unfold encD; simp [be_length]
def EncP (E : List UInt8) (w : World) (e : Ending) (w' : World) : Prop := ∃ p c, e = .returned (.tuple #[.slice p E.length c, .int .i64 0]) ∧ Bs w' p E.length c E ∧ Below w.heap.size w w'
set_option maxRecDepth 100000 in
set_option maxHeartbeats 6400000 in
theorem encode_any (r : RP) (w : World) (hr : r.right) (hw : r.wf) : Calls Tryz.prog 4 #[.agg (rpA r)] w (EncP (encD r) w) := by
  have HB1 := Lib.hid (Below.allocs w (.cells (rpA r) 26))
  have HR1 := Lib.hid (heap_alloc_last w (.cells (rpA r) 26))
  have HC := Lib.hid (right_any r (w.alloc (.cells (rpA r) 26)))
  have HWF := Lib.hid hw
  have HEL := Lib.hid (encD_len r)
  have HEA := Lib.hid (encN_all r)
  have HES := Lib.hid (fun i h => encN_succ r i h)
  have HE0 : Hid (encN r 0 = [] ++ be r.kind.toNat 1 ++ be r.err.toNat 1) := by show encN r 0 = _; unfold encN; simp
  rw [decide_eq_true hr] at HC
  have hk0 := hr.1.1
  have hk1 := hr.1.2.1
  have he0 := hr.1.2.2.1
  have he1 := hr.1.2.2.2
  obtain ⟨kd, hkd⟩ : ∃ k : Nat, r.kind = (k : Int) := ⟨r.kind.toNat, by omega⟩
  obtain ⟨ed, hed⟩ : ∃ k : Nat, r.err = (k : Int) := ⟨r.err.toNat, by omega⟩
  have HKD : Hid (r.kind.toNat = kd) := by show _ = _; omega
  have HED : Hid (r.err.toNat = ed) := by show _ = _; omega
  have hwk : IntKind.u64.wrap (kd : Int) = (kd : Int) := by rw [IntKind.wrap_u64]; omega
  have hwe : IntKind.u64.wrap (ed : Int) = (ed : Int) := by rw [IntKind.wrap_u64]; omega
  have hkl : kd < 256 := by omega
  have hel : ed < 256 := by omega
  clear hw hr hk0 hk1 he0 he1
  go_enter Tryz.func4, Tryz.ntmps4
  go_wp2_with (refine wpList_load_row rfl 26 _ rfl w.heap.size rfl 26 (rpA r) (0, 0) _ HR1.out Tryz.underlying26 rfl (infoR _ rfl) ?_)
  refine HC.out.mono ?_
  rintro e w2 ⟨rfl, hb2⟩
  have HR2 := Lib.hid (Below.keepOld hb2 HR1.out)
  have HB2 := Lib.hid (HB1.out.trans (hb2.mono HB1.out.size))
  clear hb2 HC HR1 HB1
  go_wp2_with fail
  refine (ws_new w2 w2 (Below.refl _ _) 22 (by omega)).mono ?_
  rintro e w3 ⟨rfl, hws, hb3⟩
  have HW3 := Lib.hid hws
  have HB23 := Lib.hid hb3
  have HBW : Hid (∀ x wb E, WS w2 wb 22 E x → x.heap[w.heap.size]? = some (.cells (rpA r) 26 (0, 0))) := fun x wb E h => Below.keepOld h.low HR2.out
  have c0 := (rp_cells (HBW.out _ _ _ hws)).1
  rw [hkd] at c0
  generalize w2.heap.size = wb at *
  clear hws hb3
  go_wp2_with fail
  refine (ws_num HW3.out (by omega) kd 1 (by omega) (by omega) (by simpa using hkl) (by omega)).mono ?_
  rintro e w4 ⟨rfl, hws⟩
  have HW4 := Lib.hid hws
  have c1 := (rp_cells (HBW.out _ _ _ hws)).2.1
  rw [hed] at c1
  clear hws c0 HW3
  go_wp2_with fail
  refine (ws_num HW4.out (by omega) ed 1 (by omega) (by omega) (by simpa using hel) (by omega)).mono ?_
  rintro e w5 ⟨rfl, hws⟩
  rw [← HKD.out, ← HED.out, ← HE0.out] at hws
  have HW5 := Lib.hid hws
  clear hws c1 HW4
  go_wp2_with fail
  refine (numbers_any w.heap.size w5).mono ?_
  rintro e w6 ⟨rfl, hb6⟩
  have HW6 : Hid (WS w2 wb 22 (encN r 0) w6) := by
    obtain ⟨v, l, bad, h1, h2, h3, h4⟩ := HW5.out.all
    exact ⟨v, l, bad, h1.touch (Turns.of_below (S := fun _ => False) hb6) (fun _ _ h => h), h2, h3, h4.trans (hb6.mono h4.size)⟩
  clear HW5 hb6
  go_wp2_with fail
  go_loopw [22] (fun j wr => ∃ i : Nat, i ≤ 5 ∧ j = .int .i64 i ∧ WS w2 wb 22 (encN r i) wr) (fun j _ => 5 - (intOf j).toNat)
  case atStart => exact ⟨0, by omega, rfl, HW6.out⟩
  case round =>
    clear HW6
    obtain ⟨i, hi, rfl, hws⟩ := hrel
    have HWS := Lib.hid hws
    by_cases hlt : i < 5
    · have hdi : decide ((i : Int) < 5) = true := decide_eq_true (by omega)
      have hdi2 : decide (i < 5) = true := decide_eq_true hlt
      have hpg := idx_run w.heap.size i hlt
      have hcx : wr.cell? ⟨w.heap.size, 2 + i, none⟩ = some (.int .u32 ((r.nums.getD i 0 : Nat) : Int)) := by rw [cell_of_row _ _ _ _ _ _ (HBW.out _ _ _ hws)]; exact rp_num r i hlt
      have hnl : i < r.nums.length := hlt
      have hnb : r.nums.getD i 0 < 4294967296 := by
        rw [List.getD_eq_getElem?_getD, List.getElem?_eq_getElem hnl]
        exact HWF.out _ (List.getElem_mem hnl)
      have HSU := Lib.hid (HES.out i hlt)
      generalize r.nums.getD i 0 = v at *
      have hwrap : IntKind.u64.wrap (v : Int) = (v : Int) := by rw [IntKind.wrap_u64]; omega
      clear hnl hws
      go_wp2_with fail
      refine (ws_num HWS.out (by omega) v 4 (by omega) (by omega) (by simpa using hnb) (by omega)).mono ?_
      rintro e w9 ⟨rfl, hws⟩
      rw [← HSU.out] at hws
      have HW9 := Lib.hid hws
      clear hws HWS hcx
      go_wp2_with fail
      go_roundw
      case rel => exact ⟨i + 1, by omega, by go_num, HW9.out⟩
      case measure => simp [intOf]; omega
    · obtain rfl : i = 5 := by omega
      have hdi : decide ((5 : Int) < 5) = false := by decide
      have hdi2 : decide (5 < 5) = false := by decide
      have HDN := Lib.hid (ws_done hws (by omega) (by rw [HEA.out, HEL.out]; exact Nat.le_refl _))
      rw [HEA.out] at HDN
      clear hws hlt
      go_wp2_with fail
      refine HDN.out.mono ?_
      rintro e w9 ⟨⟨p, c, rfl, ho⟩, hws, _⟩
      have HO := Lib.hid ho
      have HWL := Lib.hid hws.low
      clear ho hws HDN HWS
      go_wp2_with fail
      go_ret2
      obtain ⟨p', c', he, hs⟩ := own_sl HO.out
      cases he
      exact ⟨p, c, rfl, hs, HB2.out.trans (HWL.out.mono HB2.out.size)⟩
end Go.Proofs.YtmphajilnkgcaaaGreatDoor.Rpl

namespace Go.Proofs.YtmphajilnkgcaaaGreatDoor.HexW
open Go.RowKit Bld Go.Mir Go.Mir.Hx Go.Mir.Parts

theorem less_eq (a b : List UInt8) (h : a.length = b.length) (ha : ∀ c ∈ a, isD c) (hb : ∀ c ∈ b, isD c) : (Op.bytesLess a b || a == b) = decide (val a ≤ val b) := by
  have h1 := less_val a b h ha hb
  have h2 := less_val b a h.symm hb ha
  rw [Bool.eq_iff_iff, Bool.or_eq_true, h1, beq_iff_eq, decide_eq_true_eq]
  constructor
  · rintro (h | h)
    · omega
    · rw [h]; exact Nat.le_refl _
  · intro hle
    by_cases he : val a = val b
    · refine .inr ?_
      clear h1 h2
      induction a generalizing b with
      | nil => cases b with
        | nil => rfl
        | cons y b => simp at h
      | cons x a ih => cases b with
        | nil => simp at h
        | cons y b =>
          have hl : a.length = b.length := by simpa using h
          have va := val_lt a (fun c hc => ha c (by simp [hc]))
          have vb := val_lt b (fun c hc => hb c (by simp [hc]))
          have hx := ha x (by simp)
          have hy := hb y (by simp)
          unfold isD at hx hy
          rw [val_cons, val_cons, ← hl] at he
          rw [← hl] at vb
          have hxy : x.toNat - 48 = y.toNat - 48 := by
            have h1 := congrArg (· / 10 ^ a.length) he
            have hp : 0 < 10 ^ a.length := by omega
            rw [Nat.add_comm, Nat.add_mul_div_right _ _ hp, Nat.div_eq_of_lt va, Nat.add_comm _ (val b), Nat.add_mul_div_right _ _ hp, Nat.div_eq_of_lt vb] at h1
            omega
          have : x = y := UInt8.toNat_inj.1 (by omega)
          subst this
          rw [ih b hl (fun c hc => ha c (by simp [hc])) (fun c hc => hb c (by simp [hc])) (by omega) (by omega)]
    · exact .inl (by omega)

end Go.Proofs.YtmphajilnkgcaaaGreatDoor.HexW

namespace Go.Proofs.YtmphajilnkgcaaaGreatDoor.Rpl
open Go.RowKit Go.Mir Go.Mir.Hx Go.Mir.Parts HexW

def nvA (r : RP) : Array Value := #[.int .u32 (r.se : Int), .int .u32 (r.sq : Int), .int .u32 (r.qu : Int), .int .u32 (r.us : Int), .int .u32 (r.ex : Int)]
theorem nv_push (k e : Int) (l : List Nat) (h : l.length < 5) (v : Nat) : (nvA (mkR k e l)).setIfInBounds l.length (.int .u32 (v : Int)) = nvA (mkR k e (l ++ [v])) := by
  match l, h with
  | [], _ => rfl
  | [_], _ => rfl
  | [_, _], _ => rfl
  | [_, _, _], _ => rfl
  | [_, _, _, _], _ => rfl
theorem nv_get (r : RP) (i : Nat) (h : i < 5) : (nvA r)[i]? = some (.int .u32 ((r.nums.getD i 0 : Nat) : Int)) := by
  match i, h with
  | 0, _ => rfl
  | 1, _ => rfl
  | 2, _ => rfl
  | 3, _ => rfl
  | 4, _ => rfl
theorem nv_cells {w : World} {g : Nat} {r : RP} {t : TypeId} {fr : Nat × Nat} (h : w.heap[g]? = some (.cells (nvA r) t fr)) :
    w.cell? ⟨g, 0, none⟩ = some (.int .u32 (r.se : Int)) ∧ w.cell? ⟨g, 1, none⟩ = some (.int .u32 (r.sq : Int)) ∧ w.cell? ⟨g, 2, none⟩ = some (.int .u32 (r.qu : Int)) ∧ w.cell? ⟨g, 3, none⟩ = some (.int .u32 (r.us : Int)) ∧ w.cell? ⟨g, 4, none⟩ = some (.int .u32 (r.ex : Int)) := by
  refine ⟨?_, ?_, ?_, ?_, ?_⟩ <;> (rw [cell_of_row _ _ _ _ _ _ h]; rfl)
theorem built_rw (k e : Int) (r : RP) : Tryz.prog.built 26 [(0, .int .i64 k), (1, .int .i64 e), (2, .int .u32 (r.se : Int)), (3, .int .u32 (r.sq : Int)), (4, .int .u32 (r.qu : Int)), (5, .int .u32 (r.us : Int)), (6, .int .u32 (r.ex : Int))] = some (rpA ⟨k, e, r.se, r.sq, r.qu, r.us, r.ex⟩) := by kernel_rfl
/-- one letter of a string -/
theorem cutStr (s : List UInt8) (i : Nat) (x : UInt8) (hx : s[i]? = some x) (hi : (i : Int) + 1 ≤ 9223372036854775807) : ∀ w0, (Instr.sliceAt 9 (.string (S s)) (some (.int .i64 (i : Int))) (some (.int .i64 ((i : Int) + 1))) none).run Tryz.prog w0 = .ok (.string (S [x])) w0 := by
  intro w0
  have hil : i < s.length := (List.getElem?_eq_some_iff.1 hx).1
  have hb1 : (0 : Int) ≤ (i : Int) + 1 ∧ (i : Int) + 1 ≤ (s.length : Int) := by omega
  have hb3 : i ≤ ((i : Int) + 1).toNat := by omega
  have he : ((i : Int) + 1).toNat = i + 1 := by omega
  have hx' : (S s).extract i (i + 1) = S [x] := by
    obtain ⟨_, rfl⟩ := List.getElem?_eq_some_iff.1 hx
    apply ByteArray.ext
    rw [ByteArray.data_extract]
    apply Array.toList_inj.1
    rw [Array.toList_extract]
    simp [S_data]
    rw [List.drop_eq_getElem_cons hil]; rfl
  simp [Instr.sliceAt, Instr.slice, run_underlying Tryz.underlying9, Instr.sliceBounds, Instr.sliceBound, asIntOf, S_size, hb1, he, hx']
theorem sp_take_len (s : List UInt8) (i : Nat) (h : i < s.length) : sp (s.take (i + 1)) = if s[i] = 32 then sp (s.take i) ++ [[]] else app1 (sp (s.take i)) s[i] := by
  rw [List.take_succ_eq_append_getElem h]
  exact sp_snoc _ _
/-- words of the call's own -/
structure RS (w : World) (ws : List (List UInt8)) (p : Option Addr) (m c : Nat) (X : World) : Prop where
  own : X.ownsRow (w.heap.size + 1) 9 1 (.slice p m c) m (strV ws)
  len : m = ws.length
  box : X.heap[w.heap.size]? = some (.cells zR 26 (0, 0))
  low : Below w.heap.size w X
theorem RS.next {w X Y : World} {ws : List (List UInt8)} {p : Option Addr} {m c : Nat} (h : RS w ws p m c X) (hb : Below X.heap.size X Y) : RS w ws p m c Y :=
  ⟨own_touch h.own (Turns.of_below (S := fun _ => False) hb) (fun _ _ h => h), h.len, Below.keepOld hb h.box, h.low.trans (hb.mono h.low.size)⟩
theorem RS.size {w X : World} {ws : List (List UInt8)} {p : Option Addr} {m c : Nat} (h : RS w ws p m c X) : w.heap.size + 1 ≤ X.heap.size := (Array.getElem?_eq_some_iff.1 h.box).1
theorem own_one' (w : World) (base : Nat) (s : List UInt8) (hb : base ≤ w.heap.size) : (w.alloc (.cells #[.string (S s)] 9)).ownsRow base 9 1 (.slice (some ⟨w.heap.size, 0, none⟩) 1 1) 1 (strV [s]) :=
  ⟨rfl, .inr ⟨w.heap.size, 1, _, rfl, hb, heap_alloc_last _ _, Nat.le_refl _, by simp [maxLen], rfl, rfl⟩⟩
theorem own_set {w : World} {base t g n c : Nat} {xs : List Value} (h : w.ownsRow base t 1 (.slice (some ⟨g, 0, none⟩) n c) n xs) (j : Nat) (y : Value) : (w.setCell ⟨g, j, none⟩ y).ownsRow base t 1 (.slice (some ⟨g, 0, none⟩) n c) n (xs.set j y) := by
  rcases h.2 with ⟨he, _⟩ | ⟨g', cap, cur, he, hb, hg, hn, hm, hs, ht⟩
  · cases he
  · cases he
    refine ⟨by rw [List.length_set]; exact h.1, .inr ⟨g, c, cur.setIfInBounds j y, rfl, hb, heap_setCell_same _ _ _ _ _ _ hg, hn, hm, by simp [hs], ?_⟩⟩
    rw [Array.toList_setIfInBounds, List.take_set, ht]
theorem own_frozen {w : World} {base t g n c : Nat} {xs : List Value} (h : w.ownsRow base t 1 (.slice (some ⟨g, 0, none⟩) n c) n xs) (j : Nat) : w.frozen? ⟨g, j, none⟩ = false := by
  rcases h.2 with ⟨he, _⟩ | ⟨g', cap, cur, he, hb, hg, hn, hm, hs, ht⟩
  · cases he
  · cases he
    exact frozen_of_row _ _ j _ _ hg
theorem S_app (a b : List UInt8) : S a ++ S b = S (a ++ b) := by
  apply ByteArray.ext
  simp [S]
theorem strV_set (ws : List (List UInt8)) (j : Nat) (x : List UInt8) : strV (ws.set j x) = (strV ws).set j (.string (S x)) := by simp [strV, List.map_set]
end Go.Proofs.YtmphajilnkgcaaaGreatDoor.Rpl

namespace Go.Proofs.YtmphajilnkgcaaaGreatDoor.Rpl
open Go.RowKit Go.Mir Go.Mir.Hx Go.Mir.Parts

set_option maxRecDepth 100000 in
theorem rnums_any (r : RP) (w : World) : Calls Tryz.prog 21 #[.agg (rpA r)] w fun e w' => e = .returned (.slice (some ⟨w.heap.size + 1, 0, none⟩) 5 5) ∧ w'.heap[w.heap.size + 1]? = some (.cells (nvA r) 24 (0, 0)) ∧ Below w.heap.size w w' := by
  have hb1 := Below.allocs w (.cells (rpA r) 26)
  have HR := heap_alloc_last w (.cells (rpA r) 26)
  have HSZ : Hid ((w.alloc (.cells (rpA r) 26)).heap.size = w.heap.size + 1) := by show (w.heap.push _).size = _; simp
  obtain ⟨_, _, c2, c3, c4, c5, c6⟩ := rp_cells HR
  have hb2 := Below.allocs (w.alloc (.cells (rpA r) 26)) (.cells (nvA r) 24)
  have HB := Lib.hid (hb1.trans (hb2.mono hb1.size))
  have HN := Lib.hid (heap_alloc_last (w.alloc (.cells (rpA r) 26)) (.cells (nvA r) 24))
  rw [HSZ.out] at HN
  clear hb1 hb2 HR
  go_enter Tryz.func21, Tryz.ntmps21
  go_wp2_with fail
  go_ret
  exact ⟨rfl, HN.out, HB.out⟩
set_option maxRecDepth 100000 in
set_option maxHeartbeats 1600000 in
theorem rright_any (r : RP) (w : World) : Calls Tryz.prog 7 #[.agg (rpA r)] w fun e w' => e = .returned (.bool (decide r.right)) ∧ Below w.heap.size w w' := by
  have HB1 := Lib.hid (Below.allocs w (.cells (rpA r) 26))
  have HR := Lib.hid (heap_alloc_last w (.cells (rpA r) 26))
  obtain ⟨c0, c1, _⟩ := rp_cells HR.out
  by_cases k0 : r.kind < 0
  · have d0 : decide (r.kind < 0) = true := decide_eq_true k0
    have HQ : Hid (decide r.right = false) := decide_eq_false (fun h => by have := h.1.1; omega)
    clear k0
    go_enter Tryz.func7, Tryz.ntmps7
    go_wp2_with fail
    go_ret
    exact ⟨by rw [HQ.out]; rfl, HB1.out⟩
  have d0 : decide (r.kind < 0) = false := decide_eq_false k0
  by_cases k1 : 6 < r.kind
  · have d1 : decide ((6 : Int) < r.kind) = true := decide_eq_true k1
    have HQ : Hid (decide r.right = false) := decide_eq_false (fun h => by have := h.1.2.1; omega)
    clear k0 k1
    go_enter Tryz.func7, Tryz.ntmps7
    go_wp2_with fail
    go_ret
    exact ⟨by rw [HQ.out]; rfl, HB1.out⟩
  have d1 : decide ((6 : Int) < r.kind) = false := decide_eq_false k1
  by_cases e0 : r.err < 0
  · have d2 : decide (r.err < 0) = true := decide_eq_true e0
    have HQ : Hid (decide r.right = false) := decide_eq_false (fun h => by have := h.1.2.2.1; omega)
    clear k0 k1 e0
    go_enter Tryz.func7, Tryz.ntmps7
    go_wp2_with fail
    go_ret
    exact ⟨by rw [HQ.out]; rfl, HB1.out⟩
  have d2 : decide (r.err < 0) = false := decide_eq_false e0
  by_cases e1 : 20 < r.err
  · have d3 : decide ((20 : Int) < r.err) = true := decide_eq_true e1
    have HQ : Hid (decide r.right = false) := decide_eq_false (fun h => by have := h.1.2.2.2; omega)
    clear k0 k1 e0 e1
    go_enter Tryz.func7, Tryz.ntmps7
    go_wp2_with fail
    go_ret
    exact ⟨by rw [HQ.out]; rfl, HB1.out⟩
  have d3 : decide ((20 : Int) < r.err) = false := decide_eq_false e1
  have HK : Hid r.kinds := ⟨by omega, by omega, by omega, by omega⟩
  have HN := Lib.hid (rnums_any r (w.alloc (.cells (rpA r) 26)))
  have HRT : Hid ((∀ q, q < 5 → r.err = 0 ∨ r.nums.getD q 0 = 0) → decide r.right = true) := fun h => decide_eq_true ⟨HK.out, by
    by_cases hz : r.err = 0
    · exact .inl hz
    · have h' : ∀ q, q < 5 → r.nums.getD q 0 = 0 := fun q hq => (h q hq).resolve_left hz
      exact .inr ⟨h' 0 (by omega), h' 1 (by omega), h' 2 (by omega), h' 3 (by omega), h' 4 (by omega)⟩⟩
  have HRF : Hid (∀ q, q < 5 → r.err ≠ 0 → r.nums.getD q 0 ≠ 0 → decide r.right = false) := fun q hq he hn => decide_eq_false (fun h => by
    rcases h.2 with h2 | ⟨h0, h1, h2, h3, h4⟩
    · exact he h2
    · match q, hq with
      | 0, _ => exact hn h0
      | 1, _ => exact hn h1
      | 2, _ => exact hn h2
      | 3, _ => exact hn h3
      | 4, _ => exact hn h4)
  clear k0 k1 e0 e1 HK
  go_enter Tryz.func7, Tryz.ntmps7
  go_wp2_with (refine wpList_load_row rfl 26 _ rfl w.heap.size rfl 26 (rpA r) (0, 0) _ HR.out Tryz.underlying26 rfl (infoR _ rfl) ?_)
  refine HN.out.mono ?_
  rintro e w2 ⟨rfl, hnv, hb⟩
  have HNV := Lib.hid hnv
  have HB2 := Lib.hid (HB1.out.trans (hb.mono HB1.out.size))
  have c1' : w2.cell? ⟨w.heap.size, 1, none⟩ = some (.int .i64 r.err) := (rp_cells (Below.keepOld hb HR.out)).2.1
  clear hnv hb HN HB1 HR c0 c1 d0 d1 d2 d3
  generalize (w.alloc (.cells (rpA r) 26)).heap.size + 1 = g at *
  go_wp2_with fail
  go_loopw [4] (fun j wr => ∃ i : Nat, i ≤ 5 ∧ j = .int .i64 i ∧ (∀ q, q < i → r.err = 0 ∨ r.nums.getD q 0 = 0) ∧ wr = w2) (fun j _ => 5 - (intOf j).toNat)
  case atStart => exact ⟨0, by omega, rfl, fun q hq => absurd hq (Nat.not_lt_zero _), rfl⟩
  case round =>
    obtain ⟨i, hi, rfl, hall, rfl⟩ := hrel
    have HALL := Lib.hid hall
    clear hall
    by_cases hlt : i < 5
    · have hdi : decide ((i : Int) < 5) = true := decide_eq_true (by omega)
      have hdi2 : decide (i < 5) = true := decide_eq_true hlt
      have hi5 : (i : Int) < 5 := by omega
      by_cases hz : r.err = 0
      · have q1 : (r.err != 0) = false := by rw [bne_eq_false_iff_eq]; exact hz
        have HA2 : Hid (∀ q, q < i + 1 → r.err = 0 ∨ r.nums.getD q 0 = 0) := fun q _ => .inl hz
        clear hz
        go_wp2_with fail
        go_roundw
        case rel => exact ⟨i + 1, by omega, by go_num, HA2.out, by first | rfl | trivial⟩
        case measure => simp [intOf]; omega
      · have q1 : (r.err != 0) = true := bne_iff_ne.2 hz
        have hcx : wr.cell? ⟨g, i, none⟩ = some (.int .u32 ((r.nums.getD i 0 : Nat) : Int)) := by rw [cell_of_row _ _ _ _ _ _ HNV.out]; exact nv_get r i hlt
        have HF := Lib.hid (HRF.out i hlt hz)
        have HAL : Hid (r.nums.getD i 0 = 0 → ∀ q, q < i + 1 → r.err = 0 ∨ r.nums.getD q 0 = 0) := fun h q hq => by
          by_cases hqi : q = i
          · subst hqi; exact .inr h
          · exact HALL.out q (by omega)
        generalize r.nums.getD i 0 = v at *
        by_cases hv : v = 0
        · have q2 : ((v : Int) != 0) = false := by rw [bne_eq_false_iff_eq]; omega
          have q3 : (v != 0) = false := by rw [bne_eq_false_iff_eq]; exact hv
          have HA2 := Lib.hid (HAL.out hv)
          clear hz hv HAL
          go_wp2_with fail
          go_roundw
          case rel => exact ⟨i + 1, by omega, by go_num, HA2.out, by first | rfl | trivial⟩
          case measure => simp [intOf]; omega
        · have q2 : ((v : Int) != 0) = true := by rw [bne_iff_ne]; omega
          have q3 : (v != 0) = true := bne_iff_ne.2 hv
          have HQ := Lib.hid (HF.out hv)
          clear hz hv HAL
          go_wp2_with fail
          go_ret
          exact ⟨by rw [HQ.out]; rfl, HB2.out⟩
    · obtain rfl : i = 5 := by omega
      have hdi : decide ((5 : Int) < 5) = false := by decide
      have HQ := Lib.hid (HRT.out HALL.out)
      go_wp2_with fail
      go_ret
      exact ⟨by rw [HQ.out]; rfl, HB2.out⟩
end Go.Proofs.YtmphajilnkgcaaaGreatDoor.Rpl

namespace Go.Proofs.YtmphajilnkgcaaaGreatDoor.Cut
open Go.RowKit Go.Mir Go.Mir.Parts

def cutQ (p : Option Addr) (c k : Nat) : Option Addr := if c = k then p else p.map (·.add k)
theorem bs_cut {w : World} {p : Option Addr} {L c : Nat} {l : List UInt8} (h : Bs w p L c l) (k m : Nat) (hk : k + m ≤ L) : Bs w (cutQ p c k) m (c - k) ((l.drop k).take m) := by
  have hle := h.le
  have hmax := h.max
  have hl := h.length
  unfold cutQ
  by_cases hc : c = k
  · have hm : m = 0 := by omega
    subst hm
    rw [if_pos hc, hc, Nat.sub_self, List.take_zero]
    exact ⟨by simp [bytesV], Nat.le_refl _, by omega, fun _ => rfl, fun a ha j u hu => by simp [bytesV] at hu⟩
  · rw [if_neg hc]
    refine ⟨by rw [bytesV_length, List.length_take, List.length_drop, Nat.mul_one]; omega, by omega, by omega, fun hq => ?_, fun a ha j u hu => ?_⟩
    · cases p with
      | none => have := h.nil0 rfl; omega
      | some a => cases hq
    · cases p with
      | none => cases ha
      | some a0 =>
        have hj : j < m := by
          have := (List.getElem?_eq_some_iff.1 hu).1
          rw [bytesV_length, List.length_take] at this
          omega
        obtain ⟨b, o, hbo⟩ := h.addr (by omega) (by omega)
        obtain rfl := Option.some.inj hbo
        obtain rfl := Option.some.inj ha
        have h1 : (bytesV l)[k + j]? = some u := by
          rw [bytesV, List.getElem?_map] at hu ⊢
          rw [List.getElem?_take, if_pos hj, List.getElem?_drop] at hu
          exact hu
        have h2 := h.cell _ rfl (k + j) u h1
        rw [add_none] at h2
        show w.cell? (((⟨b, o, none⟩ : Addr).add k).add j) = some u
        rw [add_none, add_none, Nat.add_assoc]
        exact h2
theorem bs_drop {w : World} {p : Option Addr} {L c : Nat} {l : List UInt8} (h : Bs w p L c l) (k : Nat) (hk : k ≤ L) : Bs w (cutQ p c k) (L - k) (c - k) (l.drop k) := by
  have := bs_cut h k (L - k) (by omega)
  rwa [List.take_of_length_le (by rw [List.length_drop, h.length]; omega)] at this
theorem bs_take {w : World} {p : Option Addr} {n c k : Nat} {l : List UInt8} (h : Bs w p n c l) (hk : k ≤ n) : Bs w p k c (l.take k) :=
  ⟨by rw [bytesV_length, List.length_take, h.length, Nat.mul_one]; exact Nat.min_eq_left hk, Nat.le_trans hk h.le, h.max, h.nil0, fun a ha j u hu => by
    rw [show bytesV (l.take k) = (bytesV l).take k by simp [bytesV, List.map_take], List.getElem?_take] at hu
    split at hu
    · exact h.cell a ha j u hu
    · cases hu⟩
theorem cut3 {w : World} {p : Option Addr} {L c : Nat} {l : List UInt8} (h : Bs w p L c l) (k m : Nat) (lo hi : Int) (hlo : lo = (k : Int)) (hhi : hi = ((k + m : Nat) : Int)) (hk : k + m ≤ L) :
    ∀ w0, (Instr.sliceAt 27 (.slice p L c) (some (.int .i64 lo)) (some (.int .i64 hi)) none).run Tryz.prog w0 = .ok (.slice (cutQ p c k) m (c - k)) w0 := by
  subst hlo hhi
  have hle := h.le
  have hmax := h.max
  have hsz : (Tryz.prog.info? 5).map (·.size) = some 1 := by kernel_rfl
  obtain ⟨i, hi, hi1⟩ := Option.map_eq_some_iff.1 hsz
  have e1 : ((k : Int) + (m : Int)).toNat = k + m := by omega
  intro w0
  have hb1 : (0 : Int) ≤ (k : Int) + (m : Int) ∧ (k : Int) + (m : Int) ≤ (c : Int) := by omega
  have hb3 : (0 : Int) ≤ (k : Int) ∧ (k : Int) ≤ ((k + m : Nat) : Int) := by omega
  simp [Instr.sliceAt, Instr.slice, cutQ, run_underlying Tryz.underlying27, Instr.sliceBounds, Instr.sliceBound, asIntOf, sizeOf, typeInfo, hi, hi1, e1, hb1, hb3]
  try omega
theorem cut0 {w : World} {p : Option Addr} {L c : Nat} {l : List UInt8} (h : Bs w p L c l) (m : Nat) (hi : Int) (hhi : hi = (m : Int)) (hk : m ≤ L) :
    ∀ w0, (Instr.sliceAt 27 (.slice p L c) none (some (.int .i64 hi)) none).run Tryz.prog w0 = .ok (.slice p m c) w0 := by
  subst hhi
  have hle := h.le
  have hmax := h.max
  have hsz : (Tryz.prog.info? 5).map (·.size) = some 1 := by kernel_rfl
  obtain ⟨i, hi, hi1⟩ := Option.map_eq_some_iff.1 hsz
  intro w0
  have hb1 : (0 : Int) ≤ (m : Int) ∧ (m : Int) ≤ (c : Int) := by omega
  have hp : p.map (fun a => a.add 0) = p := by cases p <;> rfl
  simp [Instr.sliceAt, Instr.slice, run_underlying Tryz.underlying27, Instr.sliceBounds, Instr.sliceBound, asIntOf, sizeOf, typeInfo, hi, hb1, hp]
  try omega
/-- from a place on -/
theorem cutR {w : World} {p : Option Addr} {L c : Nat} {l : List UInt8} (h : Bs w p L c l) (k : Nat) (lo : Int) (hlo : lo = (k : Int)) (hk : k ≤ L) :
    ∀ w0, (Instr.sliceAt 27 (.slice p L c) (some (.int .i64 lo)) none none).run Tryz.prog w0 = .ok (.slice (cutQ p c k) (L - k) (c - k)) w0 := by
  subst hlo
  have hle := h.le
  have hmax := h.max
  have hsz : (Tryz.prog.info? 5).map (·.size) = some 1 := by kernel_rfl
  obtain ⟨i, hi, hi1⟩ := Option.map_eq_some_iff.1 hsz
  intro w0
  have hb1 : (0 : Int) ≤ (L : Int) ∧ (L : Int) ≤ (c : Int) := by omega
  have hb3 : (0 : Int) ≤ (k : Int) ∧ (k : Int) ≤ (L : Int) := by omega
  simp [Instr.sliceAt, Instr.slice, cutQ, run_underlying Tryz.underlying27, Instr.sliceBounds, Instr.sliceBound, asIntOf, sizeOf, typeInfo, hi, hi1, hb3]
  try omega
theorem bconv {w : World} {p : Option Addr} {n c : Nat} {l : List UInt8} (h : Bs w p n c l) : (convert 27 9 (.slice p n c)).run Tryz.prog w = .ok (.string (S l)) w :=
  run_conv (P := Tryz.prog) 27 9 5 Tryz.underlying27 Tryz.underlying5 Tryz.underlying9 h
theorem own_bs {w : World} {base n : Nat} {p : Option Addr} {c : Nat} {l : List UInt8} (h : w.ownsRow base 5 1 (.slice p n c) n (bytesV l)) : Bs w p n c l := by
  obtain ⟨p9, c9, e9, h9⟩ := own_sl h
  cases e9
  exact h9
/-- no bytes: nothing that could turn -/
theorem bs_zero {w w' : World} {p : Option Addr} {n c : Nat} {l : List UInt8} (h : Bs w p n c l) (hn : n = 0) : Bs w' p n c l := by
  subst hn
  have hl : l = [] := List.length_eq_zero_iff.1 h.length
  subst hl
  exact ⟨h.len, h.le, h.max, h.nil0, fun a ha j u hu => by simp [bytesV] at hu⟩
theorem bs_touch {S : Nat → Prop} {w w' : World} {p : Option Addr} {n c : Nat} {l : List UInt8} (h : Bs w p n c l) (ht : Turns S w w') (ho : 0 < n → ∀ a, p = some a → ¬ S a.block) : Bs w' p n c l := by
  by_cases h0 : 0 < n
  · exact h.touch ht (fun a ha _ => ho h0 a ha)
  · exact bs_zero h (by omega)
end Go.Proofs.YtmphajilnkgcaaaGreatDoor.Cut

namespace Go.Proofs.YtmphajilnkgcaaaGreatDoor.Rpl
end Go.Proofs.YtmphajilnkgcaaaGreatDoor.Rpl

namespace Go.Proofs.YtmphajilnkgcaaaGreatDoor.Rpl
open Go.RowKit Go.Mir Go.Mir.Hx Go.Mir.Parts

/-- the line so far -/
def lnN (r : RP) (i : Nat) : List UInt8 := nameB r.kind K7 ++ [32] ++ nameB r.err E21 ++ ((r.nums.take i).map fun n => 32 :: decL n).flatten
theorem lnN_succ (r : RP) (i : Nat) (h : i < 5) : lnN r (i + 1) = lnN r i ++ [32] ++ decL (r.nums.getD i 0) := by
  have hnl : i < r.nums.length := h
  unfold lnN
  rw [List.take_succ_eq_append_getElem hnl, List.map_append, List.flatten_append, List.getD_eq_getElem?_getD, List.getElem?_eq_getElem hnl]
  simp
theorem lnN_ok (r : RP) (h : r.right) (he : r.err = 0) : lineB r = lnN r 5 := by
  rw [lineB, if_pos h]
  unfold words
  rw [if_pos he]
  unfold lnN
  simp [RP.nums, Go.Lib.join_cons, Go.Lib.joinTail]
theorem lnN_no (r : RP) (h : r.right) (he : ¬ r.err = 0) : lineB r = lnN r 0 := by
  rw [lineB, if_pos h]
  unfold words
  rw [if_neg he]
  unfold lnN
  simp [Go.Lib.join_cons, Go.Lib.joinTail]
theorem lnN_len (r : RP) (hw : r.wf) (i : Nat) : (lnN r i).length ≤ 200 := by
  have h1 := name_short r.kind
  have h2 := name_short r.err
  have h3 : ∀ l : List Nat, (∀ n ∈ l, n < 4294967296) → ((l.map fun n => 32 :: decL n).flatten).length ≤ 21 * l.length := by
    intro l hl
    induction l with
    | nil => exact Nat.zero_le _
    | cons n r ih =>
      have := ih (fun x hx => hl x (List.mem_cons_of_mem _ hx))
      have h4 := dec_short n (hl n List.mem_cons_self)
      simp only [List.map_cons, List.flatten_cons, List.length_append, List.length_cons]
      omega
  have h5 := h3 (r.nums.take i) (fun n hn => hw n (List.mem_of_mem_take hn))
  have h6 : (r.nums.take i).length ≤ 5 := by rw [List.length_take]; exact Nat.min_le_right _ _
  unfold lnN
  simp only [List.length_append, List.length_cons, List.length_nil]
  omega
set_option maxRecDepth 100000 in
set_option maxHeartbeats 3200000 in
theorem rline_any (r : RP) (w : World) (hw : r.wf) : Calls Tryz.prog 8 #[.agg (rpA r)] w fun e w' => e = .returned (.string (S (lineB r))) ∧ Below w.heap.size w w' := by
  have HB1 := Lib.hid (Below.allocs w (.cells (rpA r) 26))
  have HR1 := Lib.hid (heap_alloc_last w (.cells (rpA r) 26))
  have HC := Lib.hid (rright_any r (w.alloc (.cells (rpA r) 26)))
  have HWF := Lib.hid hw
  have HLL := Lib.hid (lnN_len r hw)
  have HSU := Lib.hid (fun i h => lnN_succ r i h)
  have HL0 : Hid (lnN r 0 = nameB r.kind K7 ++ [32] ++ nameB r.err E21) := by show lnN r 0 = _; unfold lnN; simp
  clear hw
  by_cases hr : r.right
  rotate_left
  · have hd : decide r.right = false := decide_eq_false hr
    have HQ : Hid (lineB r = []) := if_neg hr
    rw [hd] at HC
    clear hr hd
    go_enter Tryz.func8, Tryz.ntmps8
    go_wp2_with (refine wpList_load_row rfl 26 _ rfl w.heap.size rfl 26 (rpA r) (0, 0) _ HR1.out Tryz.underlying26 rfl (infoR _ rfl) ?_)
    refine HC.out.mono ?_
    rintro e w2 ⟨rfl, hb2⟩
    go_wp2_with fail
    go_ret
    exact ⟨by rw [HQ.out]; rfl, HB1.out.trans (hb2.mono HB1.out.size)⟩
  have hd : decide r.right = true := decide_eq_true hr
  have HQ1 := Lib.hid (lnN_ok r hr)
  have HQ0 := Lib.hid (lnN_no r hr)
  rw [hd] at HC
  have hk0 := hr.1.1
  have hk1 := hr.1.2.1
  have he0 := hr.1.2.2.1
  have he1 := hr.1.2.2.2
  have hs1 := (name_short r.kind).2
  have hs2 := (name_short r.err).1
  clear hd hr
  go_enter Tryz.func8, Tryz.ntmps8
  go_wp2_with (refine wpList_load_row rfl 26 _ rfl w.heap.size rfl 26 (rpA r) (0, 0) _ HR1.out Tryz.underlying26 rfl (infoR _ rfl) ?_)
  refine HC.out.mono ?_
  rintro e w2 ⟨rfl, hb2⟩
  have HR2 := Lib.hid (Below.keepOld hb2 HR1.out)
  have HB2 := Lib.hid (HB1.out.trans (hb2.mono HB1.out.size))
  clear hb2 HC HR1 HB1
  go_upto_region 3 with fail
  have hk : Hid (∀ w', Below w2.heap.size w2 w' → w'.cell? ⟨w.heap.size, 0, none⟩ = some (.int .i64 r.kind)) := fun w' hb => cell_below (rp_cells HR2.out).1 hb
  have he : Hid (∀ w', Below w2.heap.size w2 w' → w'.cell? ⟨w.heap.size, 1, none⟩ = some (.int .i64 r.err)) := fun w' hb => cell_below (rp_cells HR2.out).2.1 hb
  have HKN := Lib.hid (fun p m c w h => rname_any r.kind p m c K7 w h ⟨by omega, by omega⟩)
  have HEN := Lib.hid (fun p m c w h => rname_any r.err p m c E21 w h ⟨by omega, by omega⟩)
  generalize nameB r.kind K7 = kn at *
  generalize nameB r.err E21 = en at *
  have hx1 : ¬ (9223372036854775807 < kn.length + 1) := by omega
  have hx2 : ¬ (9223372036854775807 < kn.length + 1 + en.length) := by omega
  refine wp_region_eager_in (Below w2.heap.size w2) [(0, true), (1, true), (5, true), (6, true), (2, false), (3, false), (4, true), (7, false), (8, false), (9, true), (10, true)] (by kernel_rfl) (by kernel_rfl) ?_ (eagerOpen rfl ?_)
  · exact below_drew1 _ _
  repeat (first
    | (first | (apply wpEager_take; (· rfl); (· (intro w' hb'; go_simp; try with_reducible rfl)); (try simp only [Act.put, List.setIfInBounds_toArray, List.set_cons_zero, List.set_cons_succ]); (try refine eagerOpen rfl ?_)) | (refine wpEager_skip (by rfl) ?_; (try simp only [Act.put, List.setIfInBounds_toArray, List.set_cons_zero, List.set_cons_succ]); (try refine eagerOpen rfl ?_)) | (refine wpEager_off (by rfl) ?_; (try simp only [Act.put, List.setIfInBounds_toArray, List.set_cons_zero, List.set_cons_succ]); (try refine eagerOpen rfl ?_)))
    | (apply wpEager_take; (· rfl); (· (intro w' hb'; have hk' := (hk.out) w' hb'; go_split_ands; go_simp; try with_reducible rfl)); (try simp only [Act.put, List.setIfInBounds_toArray, List.set_cons_zero, List.set_cons_succ]); (try refine eagerOpen rfl ?_))
    | (apply wpEager_take; (· rfl); (· (intro w' hb'; have hk' := (he.out) w' hb'; go_split_ands; go_simp; try with_reducible rfl)); (try simp only [Act.put, List.setIfInBounds_toArray, List.set_cons_zero, List.set_cons_succ]); (try refine eagerOpen rfl ?_)))
  (refine wpEager_op (by rfl) (fun K hK => ?_); go_simp; (refine (rkinds_any _).mono ?_; rintro e y ⟨rfl, hws, hb⟩; have HWS := Lib.hid hws; have hy1 : Below w2.heap.size w2 y := (below_drew1 w2.heap.size w2).trans hb; clear hws hb); refine Shut.out hK _ _ (by assumption) ?_; clear hK K; (try simp only [Act.put, List.setIfInBounds_toArray, List.set_cons_zero, List.set_cons_succ]); (try refine eagerOpen rfl ?_))
  (refine wpEager_op (by rfl) (fun K hK => ?_); go_simp; (refine (HKN.out _ _ _ _ HWS.out).mono ?_; rintro e y' ⟨rfl, rfl⟩); refine Shut.out hK _ _ (by assumption) ?_; clear hK K; (try simp only [Act.put, List.setIfInBounds_toArray, List.set_cons_zero, List.set_cons_succ]); (try refine eagerOpen rfl ?_))
  repeat (first | (apply wpEager_take; (· rfl); (· (intro w' hb'; go_simp; try with_reducible rfl)); (try simp only [Act.put, List.setIfInBounds_toArray, List.set_cons_zero, List.set_cons_succ]); (try refine eagerOpen rfl ?_)) | (refine wpEager_skip (by rfl) ?_; (try simp only [Act.put, List.setIfInBounds_toArray, List.set_cons_zero, List.set_cons_succ]); (try refine eagerOpen rfl ?_)) | (refine wpEager_off (by rfl) ?_; (try simp only [Act.put, List.setIfInBounds_toArray, List.set_cons_zero, List.set_cons_succ]); (try refine eagerOpen rfl ?_)))
  (refine wpEager_op (by rfl) (fun K hK => ?_); go_simp; (refine (rerrs_any _).mono ?_; rintro e y2 ⟨rfl, hws, hb⟩; have HWT := Lib.hid hws; have hy2 : Below w2.heap.size w2 y2 := hy1.trans (hb.mono hy1.size); clear hws hb); refine Shut.out hK _ _ (by assumption) ?_; clear hK K; (try simp only [Act.put, List.setIfInBounds_toArray, List.set_cons_zero, List.set_cons_succ]); (try refine eagerOpen rfl ?_))
  (refine wpEager_op (by rfl) (fun K hK => ?_); go_simp; (refine (HEN.out _ _ _ _ HWT.out).mono ?_; rintro e y' ⟨rfl, rfl⟩); refine Shut.out hK _ _ (by assumption) ?_; clear hK K; (try simp only [Act.put, List.setIfInBounds_toArray, List.set_cons_zero, List.set_cons_succ]); (try refine eagerOpen rfl ?_))
  repeat (first | (apply wpEager_take; (· rfl); (· (intro w' hb'; go_simp; try with_reducible rfl)); (try simp only [Act.put, List.setIfInBounds_toArray, List.set_cons_zero, List.set_cons_succ]); (try refine eagerOpen rfl ?_)) | (refine wpEager_skip (by rfl) ?_; (try simp only [Act.put, List.setIfInBounds_toArray, List.set_cons_zero, List.set_cons_succ]); (try refine eagerOpen rfl ?_)) | (refine wpEager_off (by rfl) ?_; (try simp only [Act.put, List.setIfInBounds_toArray, List.set_cons_zero, List.set_cons_succ]); (try refine eagerOpen rfl ?_)))
  refine eagerEnd ?_
  have hst : S kn ++ (⟨#[32]⟩ : ByteArray) ++ S en = S (lnN r 0) := by rw [show (⟨#[32]⟩ : ByteArray) = S [32] from rfl, S_app, S_app, HL0.out]
  rw [hst]
  have HR3 := Lib.hid (Below.keepOld hy2 HR2.out)
  have HB3 := Lib.hid (HB2.out.trans (hy2.mono HB2.out.size))
  clear hy1 hy2 HR2 HB2 hk he HKN HEN hst HWS HWT hx1 hx2 hs1 hs2 HL0
  generalize w2.heap.size = g2 at *
  generalize y.heap.size = gy at *
  go_wp2_with (refine wpList_load_row rfl 26 _ rfl w.heap.size rfl 26 (rpA r) (0, 0) _ HR3.out Tryz.underlying26 rfl (infoR _ rfl) ?_)
  refine (rnums_any r y2).mono ?_
  rintro e w4 ⟨rfl, hnv, hb⟩
  have HNV := Lib.hid hnv
  have HB4 := Lib.hid (HB3.out.trans (hb.mono HB3.out.size))
  have c1 : w4.cell? ⟨w.heap.size, 1, none⟩ = some (.int .i64 r.err) := (rp_cells (Below.keepOld hb HR3.out)).2.1
  clear hnv hb HR3 HB3
  generalize y2.heap.size + 1 = g at *
  go_wp2_with fail
  go_loopw [3, 5] (fun v j wr => ∃ i : Nat, i ≤ 5 ∧ j = .int .i64 i ∧ v = .string (S (lnN r i)) ∧ (r.err = 0 ∨ i = 0) ∧ wr = w4) (fun _ j _ => 5 - (intOf j).toNat)
  case atStart => exact ⟨0, by omega, rfl, rfl, .inr rfl, rfl⟩
  case round =>
    obtain ⟨i, hi, rfl, rfl, hei, rfl⟩ := hrel
    have hll := HLL.out i
    by_cases hz : r.err = 0
    · have q1 : (r.err == 0) = true := beq_iff_eq.2 hz
      by_cases hlt : i < 5
      · have hdi : decide ((i : Int) < 5) = true := decide_eq_true (by omega)
        have hdi2 : decide (i < 5) = true := decide_eq_true hlt
        have hi5 : (i : Int) < 5 := by omega
        have hcx : wr.cell? ⟨g, i, none⟩ = some (.int .u32 ((r.nums.getD i 0 : Nat) : Int)) := by rw [cell_of_row _ _ _ _ _ _ HNV.out]; exact nv_get r i hlt
        have hnl : i < r.nums.length := hlt
        have hnb : r.nums.getD i 0 < 4294967296 := by
          rw [List.getD_eq_getElem?_getD, List.getElem?_eq_getElem hnl]
          exact HWF.out _ (List.getElem_mem hnl)
        have HSN := Lib.hid (HSU.out i hlt)
        generalize r.nums.getD i 0 = v at *
        have hwrap : IntKind.u64.wrap (v : Int) = (v : Int) := by rw [IntKind.wrap_u64]; omega
        have hdl := dec_short v hnb
        have HEZ := Lib.hid hz
        generalize lnN r i = acc at *
        have hx1 : ¬ (9223372036854775807 < acc.length + 1) := by omega
        have hx2 : ¬ (9223372036854775807 < acc.length + 1 + (decL v).length) := by omega
        clear hnl hz hei
        go_wp2_with fail
        refine (HexW.rNum_any v (by omega) wr).mono ?_
        rintro e w' ⟨rfl, rfl⟩
        go_wp2_with fail
        go_roundw
        case rel => exact ⟨i + 1, by omega, by go_num, by rw [HSN.out, ← S_app, ← S_app]; rfl, .inl HEZ.out, by first | rfl | trivial⟩
        case measure => simp [intOf]; omega
      · obtain rfl : i = 5 := by omega
        have hdi : decide ((5 : Int) < 5) = false := by decide
        have HQ := Lib.hid (HQ1.out hz)
        clear hz hei
        go_wp2_with fail
        go_ret
        exact ⟨by rw [HQ.out]; rfl, HB4.out⟩
    · obtain rfl : i = 0 := hei.resolve_left hz
      have q1 : (r.err == 0) = false := beq_eq_false_iff_ne.2 hz
      have HQ := Lib.hid (HQ0.out hz)
      clear hz hei
      go_wp2_with fail
      go_ret
      exact ⟨by rw [HQ.out]; rfl, HB4.out⟩
end Go.Proofs.YtmphajilnkgcaaaGreatDoor.Rpl

namespace Go.Proofs.YtmphajilnkgcaaaGreatDoor.Rpl
open Go.RowKit Go.Mir Go.Mir.Hx Go.Mir.Parts Wr Cod

theorem info8r : (Tryz.prog.info? 5).map (fun i => (i.zero, i.size, i.bytes)) = some (some (.int .u8 0), 1, 1) := by kernel_rfl
theorem be_one (n : Nat) (h : n < 256) : be n 1 = [UInt8.ofNat n] := by
  have h1 := beN_be n 1 (by omega) (by simpa using h)
  have h2 := be_length n 1
  match hb : be n 1, h2 with
  | [x], _ =>
    rw [hb] at h1
    have : x.toNat = n := by rw [← h1]; show _ = 256 * 0 + x.toNat; omega
    rw [← this]; simp
theorem two_bytes (kd ed : Nat) (hk : kd < 256) (he : ed < 256) : bytesV (be kd 1 ++ be ed 1) = [.int .u8 (kd : Int), .int .u8 (ed : Int)] := by
  rw [be_one _ hk, be_one _ he]
  simp [bytesV, Nat.mod_eq_of_lt hk, Nat.mod_eq_of_lt he]
theorem own_b2 (w : World) (base : Nat) (kd ed : Nat) (hk : kd < 256) (he : ed < 256) (hb : base ≤ w.heap.size) : (w.alloc (.cells #[.int .u8 (kd : Int), .int .u8 (ed : Int)] 5)).ownsRow base 5 1 (.slice (some ⟨w.heap.size, 0, none⟩) 2 2) 2 (bytesV (be kd 1 ++ be ed 1)) := by
  rw [two_bytes _ _ hk he]
  exact ⟨rfl, .inr ⟨w.heap.size, 2, _, rfl, hb, heap_alloc_last _ _, Nat.le_refl _, by simp [maxLen], rfl, rfl⟩⟩
theorem encN_len (r : RP) (i : Nat) (h : i ≤ 5) : (encN r i).length = 2 + 4 * i := by
  have h1 : ∀ l : List Nat, ((l.map fun n => be n 4).flatten).length = 4 * l.length := by
    intro l
    induction l with
    | nil => rfl
    | cons n r ih => simp only [List.map_cons, List.flatten_cons, List.length_append, be_length, List.length_cons, ih]; omega
  have h2 : (r.nums.take i).length = i := by rw [List.length_take]; exact Nat.min_eq_left h
  unfold encN
  simp only [List.length_append, be_length, h1, h2]
theorem number4 (w : World) (n : Nat) (hn : n < 4294967296) : Calls Tryz.prog 33 #[.int .u64 (n : Int), .int .i64 4] w fun e w' => ∃ p c, e = .returned (.slice p 4 c) ∧ Bs w' p 4 c (be n 4) ∧ Below w.heap.size w w' := by
  refine (Rdr.number_any w n 4 (by omega) (by omega)).mono ?_
  rintro e w' ⟨p, c, he, ho, hb⟩
  rw [← be_numB _ _ (by omega), be_length] at he ho
  obtain ⟨p', c', e9, hs⟩ := own_sl ho
  cases e9
  exact ⟨p, c, he, hs, hb⟩
set_option maxRecDepth 100000 in
set_option maxHeartbeats 3200000 in
theorem rbytes_any (r : RP) (w : World) (hr : r.right) (hw : r.wf) : Calls Tryz.prog 12 #[.agg (rpA r)] w fun e w' => ∃ p c, e = .returned (.slice p 22 c) ∧ Bs w' p 22 c (encD r) ∧ Below w.heap.size w w' := by
  have HB1 := Lib.hid (Below.allocs w (.cells (rpA r) 26))
  have HR1 := Lib.hid (heap_alloc_last w (.cells (rpA r) 26))
  have HWF := Lib.hid hw
  have HEA := Lib.hid (encN_all r)
  have HES := Lib.hid (fun i h => encN_succ r i h)
  have HNL := Lib.hid (fun i h => encN_len r i h)
  have hk0 := hr.1.1
  have hk1 := hr.1.2.1
  have he0 := hr.1.2.2.1
  have he1 := hr.1.2.2.2
  obtain ⟨kd, hkd⟩ : ∃ k : Nat, r.kind = (k : Int) := ⟨r.kind.toNat, by omega⟩
  obtain ⟨ed, hed⟩ : ∃ k : Nat, r.err = (k : Int) := ⟨r.err.toNat, by omega⟩
  have hkl : kd < 256 := by omega
  have hel : ed < 256 := by omega
  have HE0 : Hid (encN r 0 = be kd 1 ++ be ed 1) := by
    show encN r 0 = _
    unfold encN
    rw [hkd, hed]; simp
  have hwk : IntKind.u8.wrap (kd : Int) = (kd : Int) := by rw [IntKind.wrap_u8]; omega
  have hwe : IntKind.u8.wrap (ed : Int) = (ed : Int) := by rw [IntKind.wrap_u8]; omega
  obtain ⟨c0, c1, _⟩ := rp_cells HR1.out
  rw [hkd] at c0
  rw [hed] at c1
  have HSZ : Hid ((w.alloc (.cells (rpA r) 26)).heap.size = w.heap.size + 1) := by show (w.heap.push _).size = _; simp
  have hb2 := Below.allocs (w.alloc (.cells (rpA r) 26)) (.cells #[.int .u8 (kd : Int), .int .u8 (ed : Int)] 5)
  have HO2 : Hid (((w.alloc (.cells (rpA r) 26)).alloc (.cells #[.int .u8 (kd : Int), .int .u8 (ed : Int)] 5)).ownsRow (w.heap.size + 1) 5 1 (.slice (some ⟨w.heap.size + 1, 0, none⟩) 2 2) 2 (bytesV (encN r 0))) := by
    have := own_b2 (w.alloc (.cells (rpA r) 26)) (w.heap.size + 1) kd ed hkl hel (by rw [HSZ.out]; exact Nat.le_refl _)
    rw [HSZ.out] at this
    rw [HE0.out]
    exact this
  have HR2 := Lib.hid (Below.keepOld hb2 HR1.out)
  have HB2 := Lib.hid (HB1.out.trans (hb2.mono HB1.out.size))
  clear hw hr hk0 hk1 he0 he1 hb2
  go_enter Tryz.func12, Tryz.ntmps12
  go_upto_region 2 with fail
  generalize (w.alloc (.cells (rpA r) 26)).alloc (.cells #[.int .u8 (kd : Int), .int .u8 (ed : Int)] 5) = w2 at *
  go_wp2_with (refine wpList_load_row rfl 26 _ rfl w.heap.size rfl 26 (rpA r) (0, 0) _ HR2.out Tryz.underlying26 rfl (infoR _ rfl) ?_)
  refine (rnums_any r w2).mono ?_
  rintro e w3 ⟨rfl, hnv, hb⟩
  have HO3 := Lib.hid (own_touch HO2.out (Turns.of_below (S := fun _ => False) hb) (fun _ _ h => h))
  have HB3 := Lib.hid (HB2.out.trans (hb.mono HB2.out.size))
  have HNV := Lib.hid hnv
  have HGO : Hid (w.heap.size + 1 < w2.heap.size) := (HO2.out.lt _ rfl).2
  have HGS : Hid (w.heap.size + 2 ≤ w2.heap.size + 1) := by have := HGO.out; show _ ≤ _; omega
  clear hnv hb HB1 HR1 HR2 HB2 HO2 c0 c1
  generalize w2.heap.size + 1 = g at *
  go_wp2_with fail
  go_loopw [3, 5] (fun v j wr => ∃ (i m : Nat) (p : Option Addr) (c : Nat), i ≤ 5 ∧ j = .int .i64 i ∧ v = .slice p m c ∧ m = 2 + 4 * i ∧ wr.ownsRow (w.heap.size + 1) 5 1 v m (bytesV (encN r i)) ∧ (∀ k, v.ownBlock = some k → k ≠ g) ∧ wr.heap[g]? = some (.cells (nvA r) 24 (0, 0)) ∧ Below w.heap.size w wr) (fun _ j _ => 5 - (intOf j).toNat)
  case atStart => exact ⟨0, 2, _, _, by omega, rfl, rfl, rfl, HO3.out, fun k hk => by have hk : w.heap.size + 1 = k := Option.some.inj hk; have := HGS.out; omega, HNV.out, HB3.out⟩
  case round =>
    clear HO3 HNV HB3
    obtain ⟨i, m, p, c, hi, rfl, rfl, hm, ho, hne, hnv, hb⟩ := hrel
    have HO := Lib.hid ho
    have HNE := Lib.hid hne
    have HNV := Lib.hid hnv
    have HB := Lib.hid hb
    have HM := Lib.hid hm
    clear ho hne hb hm
    by_cases hlt : i < 5
    · have hdi : decide ((i : Int) < 5) = true := decide_eq_true (by omega)
      have hdi2 : decide (i < 5) = true := decide_eq_true hlt
      have hi5 : (i : Int) < 5 := by omega
      have hcx : wr.cell? ⟨g, i, none⟩ = some (.int .u32 ((r.nums.getD i 0 : Nat) : Int)) := by rw [cell_of_row _ _ _ _ _ _ hnv]; exact nv_get r i hlt
      have hnl : i < r.nums.length := hlt
      have hnb : r.nums.getD i 0 < 4294967296 := by
        rw [List.getD_eq_getElem?_getD, List.getElem?_eq_getElem hnl]
        exact HWF.out _ (List.getElem_mem hnl)
      have HSN := Lib.hid (HES.out i hlt)
      generalize r.nums.getD i 0 = v at *
      have hwrap : IntKind.u64.wrap (v : Int) = (v : Int) := by rw [IntKind.wrap_u64]; omega
      have hm22 : m ≤ 22 := by have := HM.out; omega
      clear hnl hnv
      go_wp2_with fail
      refine (number4 wr v hnb).mono ?_
      rintro e w5 ⟨q, d, rfl, hs, hb5⟩
      have HS5 := Lib.hid hs
      have HO5 := Lib.hid (own_touch HO.out (Turns.of_below (S := fun _ => False) hb5) (fun _ _ h => h))
      have HN5 := Lib.hid (Below.keepOld hb5 HNV.out)
      have HB5 := Lib.hid (HB.out.trans (hb5.mono HB.out.size))
      have HZ5 : Hid (w.heap.size + 1 ≤ w5.heap.size) := by
        have h1 := HGS.out
        have h2 := (Array.getElem?_eq_some_iff.1 HN5.out).1
        show _ ≤ _
        omega
      clear hs hb5 HO HNV HB hcx
      go_wp2_with (at_builtin; refine wpList_append_nx rfl _ _ 27 rfl (base := w.heap.size + 1) Tryz.underlying27 info8r rfl (by omega) rfl HO5.out rfl HS5.out (bytesV_one _) ⟨by omega, by omega⟩ HZ5.out ?_)
      intro p' c' w8 ho8 hgr hnx _
      have hb8 := own_below HO5.out hgr HZ5.out
      have ht8 := Turns.grown hgr (S := fun k => (Value.slice p m c).ownBlock = some k) (fun k hk => hk)
      have HN8 := Lib.hid (ht8.keep HN5.out (fun hk => HNE.out g hk rfl))
      have HB8 := Lib.hid (HB5.out.trans (hb8.mono (Nat.le_succ _)))
      have HO8 : Hid (w8.ownsRow (w.heap.size + 1) 5 1 (.slice p' (m + 4) c') (m + 4) (bytesV (encN r (i + 1)))) := by
        show World.ownsRow _ _ _ _ _ _ _
        rw [HSN.out, bytesV_append]
        exact ho8
      have HE8 : Hid (∀ k, (Value.slice p' (m + 4) c').ownBlock = some k → k ≠ g) := fun k hk => by
        rcases hnx k hk with h | rfl
        · exact HNE.out k h
        · have := (Array.getElem?_eq_some_iff.1 HN5.out).1
          omega
      clear ho8 hgr hnx hb8 ht8 HO5 HS5 HN5 HB5 HZ5 HNE
      go_wp2_with fail
      go_roundw
      case rel => exact ⟨i + 1, m + 4, p', c', by omega, by go_num, rfl, by have := HM.out; omega, HO8.out, HE8.out, HN8.out, HB8.out⟩
      case measure => simp [intOf]; omega
    · obtain rfl : i = 5 := by omega
      have hdi : decide ((5 : Int) < 5) = false := by decide
      have hm22 : m = 22 := HM.out
      subst hm22
      rw [HEA.out] at HO
      go_wp2_with fail
      go_ret
      obtain ⟨p', c', he, hs⟩ := own_sl HO.out
      cases he
      exact ⟨p, c, rfl, hs, HB.out⟩
end Go.Proofs.YtmphajilnkgcaaaGreatDoor.Rpl
