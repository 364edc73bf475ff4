/- PARTS, JOINED: THE WALKS OF THE WRITER, on: Ids, Num. Conditions: as in the first part. THE WALKS OF BLOCKS, on: the document's example; a copy. Conditions: as in the first part. MAPS FROM AN ID, MADE BY THE CALL: what they hold, as a function; a look-up, a store. No program is named. Conditions: none. THE WALKS OF BLOCKS, on: may a block be (with the map that the call makes). Conditions: none. LAYER 9: the document's example; numbers. Conditions: the laid cell of errors.errorType. CODECS: what is written by a writer, what a reader reads of it: plain parts, and both as they go on. Conditions: sizes that fit. CODECS, plain: what a reader's calls come to, where there is room and where not. Conditions: none. BLOCKS, plain: their bytes, and what is read of any bytes. Conditions: none. THE WALKS OF BLOCKS, on: a copy. Conditions: as in the first part. THE WALKS OF BLOCKS, on: the reference's ids with a hint. Conditions: as in the first part. -/
import Derived.Test.YtdaigkcbmdcbcaaDoorRc1
import Derived.Test.YtdaigkcbmdcbcaaDoorRc2
import Derived.Test.YtdaigkcbmdcbcaaDoorRc3
import Derived.WalkMore
import Derived.Maps.OwnSet
import Derived.DeepKeys5
import Derived.Test.YtdaigkcbmdcbcaaDoorRows
import Derived.Deep.Cut
namespace Go.Proofs.YtdaigkcbmdcbcaaDoor.Wr
open Go.RowKit Go.Mir Go.Mir.Parts

theorem infoS : (Tryd.prog.info? 29).map (fun i => (i.zero, i.size, i.bytes)) = some (some (.slice none 0 0), 1, 24) := by kernel_rfl
def idV (p : Option Addr) (i : Nat) : Value := match p with
  | some a => .slice (some ⟨a.block, a.off + i * 32, none⟩) 32 32
  | none => undef
def idsV (p : Option Addr) (k : Nat) : List Value := (List.range k).map (idV p)
theorem idsV_succ (p : Option Addr) (k : Nat) : idsV p (k + 1) = idsV p k ++ [idV p k] := by simp [idsV, List.range_succ]
theorem total_ids (ids : List (List UInt8)) (h : ∀ x ∈ ids, x.length = 32) : total ids = 32 * ids.length := by
  induction ids with
  | nil => rfl
  | cons x r ih =>
    have h1 := h x (by simp)
    have h2 := ih (fun y hy => h y (by simp [hy]))
    simp only [total, List.map_cons, List.sum_cons, List.length_cons] at *
    omega

set_option maxRecDepth 100000 in
set_option maxHeartbeats 400000 in
theorem ids_any (p : Option Addr) (n c : Nat) (ids : List (List UInt8)) (wb : Nat) (v : Value) (room : Nat) (l : List UInt8) (bad : Int) (w : World) (h : WAt w wb v room l bad)
    (hI : ∀ w', Turns (foot wb v) w w' → Is w' p n c 32 ids) (hs : n ≤ 1099511627776) (hl : l.length ≤ 70368744177664) :
    Calls Tryd.prog 32 #[.pointer (some ⟨wb, 0, none⟩), .slice p n c] w fun e w' => e = .returned (.tuple #[]) ∧ Left wb v room (putS room l bad true ids) w w' := by
  have hi0 := hI w (Turns.refl _ _)
  have hle := hi0.sl.le
  have hmax := hi0.sl.max
  have hcnt := hi0.count
  have HI := Lib.hid hI
  have HI0 := Lib.hid hi0
  have HW := Lib.hid h
  clear hI hi0 h
  go_enter Tryd.func32, Tryd.ntmps32
  go_wp2
  go_loopw [4, 8] (fun x j wr => ∃ k : Nat, k ≤ n ∧ j = .int .i64 k ∧ wr.ownsRow w.heap.size 29 1 x k (idsV p k) ∧ Below w.heap.size w wr) (fun _ j _ => n - (intOf j).toNat)
  case atStart => exact ⟨0, by omega, rfl, World.ownsRow_nil _ _ _ _, Below.refl _ _⟩
  case round =>
    obtain ⟨k, hk, rfl, how, hbl⟩ := hrel
    have HO := Lib.hid how
    have HB := Lib.hid hbl
    clear how hbl
    by_cases hlt : k < n
    · obtain ⟨b, o, rfl⟩ := HI0.out.sl.addr (by omega) (by omega)
      have hbd : Hid (k + 1 ≤ 9223372036854775807 ∧ (k + 1) * 24 ≤ 140737488355328) := by show _ ∧ _; omega
      have hnew : Hid (Sl (wr.alloc (.cells #[.slice (some ⟨b, o + k * 32, none⟩) 32 32] 29)) (some ⟨wr.heap.size, 0, none⟩) 1 1 1 [idV (some ⟨b, o, none⟩) k]) :=
        ⟨rfl, Nat.le_refl _, by omega, fun h => (by cases h), fun a ha j u hu => by
          obtain rfl := Option.some.inj ha
          rw [add_none, cell_alloc_new]
          cases j with
          | zero => simpa [idV] using hu
          | succ j => simp at hu⟩
      go_wp2_with (at_builtin; refine wpList_append_nx rfl _ _ 81 rfl (base := w.heap.size) Tryd.underlying81 infoS rfl (by omega) rfl (HO.out.alloc _) rfl hnew.out (by simp [idV, Value.oneCell']) hbd.out (by have := HB.out.size; simp; omega) ?_)
      intro p' c' w1 hown hg hnx hne
      have HO' : Hid (w1.ownsRow w.heap.size 29 1 (.slice p' (k + 1) c') (k + 1) (idsV (some ⟨b, o, none⟩) (k + 1))) := by
        show World.ownsRow _ _ _ _ _ _ _
        rw [idsV_succ]; exact hown
      have HB' : Hid (Below w.heap.size w w1) := (HB.out.alloc HB.out.size _).trans ((Below.refl _ _).grown hg (by have := HB.out.size; simp; omega) (fun i hi => (HO.out.lt i hi).1))
      clear hown hg hnx hne
      go_wp2
      go_roundw
      case rel => exact ⟨k + 1, by omega, by go_num, HO'.out, HB'.out⟩
      case measure => simp [intOf]; omega
    · obtain rfl : k = n := by omega
      obtain ⟨px, cx, hx, hsx⟩ := own_sl HO.out
      subst hx
      have hlt0 := HW.out.lt
      have HP : Hid (∀ w', Turns (foot wb v) wr w' → Pts w' px k cx ids) := by
        intro w' ht
        have ho' := own_touch HO.out ht (fun i hi hf => by have := (HO.out.lt i hi).1; have := hlt0 i hf; omega)
        obtain ⟨px', cx', hx', hsx'⟩ := own_sl ho'
        cases hx'
        have hI' := HI.out w' ((Turns.of_below HB.out).trans ht (fun _ _ h => h))
        refine ⟨hcnt, hsx'.le, hsx'.max, hsx'.nil0, fun a ha j hj => ?_⟩
        obtain ⟨b, o, rfl⟩ := HI0.out.sl.addr (by omega) (by omega)
        exact ⟨_, 32, 32, hsx'.cell a ha j (.slice (some ⟨b, o + j * 32, none⟩) 32 32) (by simp [idsV, idV, show j < k by omega]), hI'.one j hj (by omega)⟩
      have HW' : Hid (WAt wr wb v room l bad) := HW.out.touch (Turns.of_below (S := fun _ => False) HB.out) (fun _ _ h => h)
      have htot : Hid (total ids ≤ 70368744177664) := by
        show _ ≤ _
        rw [total_ids ids HI0.out.each]; omega
      clear hsx hlt0
      go_wp2_with (go_at_call 52; refine (put_any _ _ _ ids wb v room l bad true _ HW'.out HP.out htot.out hl).mono ?_; rintro e w1 ⟨rfl, hl1⟩)
      go_end0
      refine ⟨rfl, ?_⟩
      obtain ⟨v', h1, h2, h3⟩ := hl1
      exact ⟨v', h1, (Turns.of_below HB.out).trans h2 (fun _ _ h => h), fun i hi hlt => h3 i hi (by have := HB.out.size; omega)⟩

/-! ### Num -/
/-- byte j of eight, the highest first -/
def nb (n j : Nat) : UInt8 := UInt8.ofNat (n / 2 ^ (8 * (7 - j)))
def numArr (n k : Nat) : Array Value := ((List.range 8).map fun j => Value.int .u8 (if 8 ≤ j + k then ((nb n j).toNat : Int) else 0)).toArray
theorem numArr_size (n k : Nat) : (numArr n k).size = 8 := by simp [numArr]
theorem numArr_get (n k j : Nat) (hj : j < 8) : (numArr n k)[j]? = some (Value.int .u8 (if 8 ≤ j + k then ((nb n j).toNat : Int) else 0)) := by simp [numArr, hj]
theorem nb_int (n k : Nat) (hk : k < 8) : ((n : Int) / 2 ^ (8 * k)) % 256 = ((nb n (7 - k)).toNat : Int) := by
  have e : ((n : Int) / 2 ^ (8 * k)) = ((n / 2 ^ (8 * k) : Nat) : Int) := by rw [Int.natCast_ediv, Int.natCast_pow]; rfl
  rw [e, nb, UInt8.toNat_ofNat', show 7 - (7 - k) = k from by omega]
  omega
theorem numArr_set (n k : Nat) (hk : k < 8) : (numArr n k).setIfInBounds (7 - k) (.int .u8 ((nb n (7 - k)).toNat : Int)) = numArr n (k + 1) := by
  apply Array.ext_getElem?
  intro j
  by_cases hj : j < 8
  · rw [Array.getElem?_setIfInBounds, numArr_get _ _ _ hj, numArr_get _ _ _ hj, numArr_size]
    by_cases e : 7 - k = j
    · subst e; simp [show 7 - k < 8 by omega, show 8 ≤ 7 - k + (k + 1) by omega]
    · rw [if_neg e]
      have : (8 ≤ j + k) ↔ (8 ≤ j + (k + 1)) := by omega
      simp [this]
  · rw [Array.getElem?_eq_none, Array.getElem?_eq_none] <;> simp [numArr_size] <;> omega
def Z8 : Array Value := Array.replicate 8 (.int .u8 0)
theorem numArr_0 (n : Nat) : numArr n 0 = Z8 := by
  apply Array.ext_getElem?
  intro j
  by_cases hj : j < 8
  · rw [numArr_get _ _ _ hj, if_neg (by omega)]; simp [Z8, hj]
  · rw [Array.getElem?_eq_none, Array.getElem?_eq_none] <;> simp [numArr_size, Z8] <;> omega
/-- so many bytes of a number, the highest first -/
def be (n width : Nat) : List UInt8 := (List.range width).map fun i => nb n (8 - width + i)
theorem be_length (n width : Nat) : (be n width).length = width := by simp [be]

def numS (room : Nat) (l : List UInt8) (bad : Int) (n : Nat) (width : Int) : List UInt8 × Int :=
  if 1 ≤ width ∧ width ≤ 8 ∧ (width = 8 ∨ n < 2 ^ (8 * width.toNat)) then putS room l bad true [be n width.toNat] else putS room l bad false [[]]
theorem putS_false (room : Nat) (l : List UInt8) (bad : Int) (ps qs : List (List UInt8)) : putS room l bad false ps = putS room l bad false qs := by simp [putS]

/-- the end of the array that Num lays, as a slice -/
theorem num_bs {w' : World} {b n k : Nat} {t : TypeId} (hrow : w'.heap[b]? = some (.cells (numArr n 8) t (0, 0))) (hk : k ≤ 8) : Bs w' (some ⟨b, 8 - k, none⟩) k k (be n k) :=
  ⟨by rw [bytesV_length, be_length, Nat.mul_one], Nat.le_refl _, by omega, fun h => (by cases h), fun a ha j u hu => by
    obtain rfl := Option.some.inj ha
    have hj : j < k := by
      have := (List.getElem?_eq_some_iff.1 hu).1
      rwa [bytesV_length, be_length] at this
    rw [add_none, cell_of_row _ _ _ _ _ _ hrow, numArr_get _ _ _ (by omega), if_pos (by omega), ← hu]
    rw [bytesV_get _ _ (by rw [be_length]; exact hj)]
    simp [be]⟩

set_option maxRecDepth 100000 in
set_option maxHeartbeats 400000 in
theorem num_any (n : Nat) (width : Int) (wb : Nat) (v : Value) (room : Nat) (l : List UInt8) (bad : Int) (w : World) (h : WAt w wb v room l bad) (hn : n < 18446744073709551616) (hw1 : -9223372036854775808 ≤ width) (hw2 : width ≤ 9223372036854775807) (hl : l.length ≤ 70368744177664) :
    Calls Tryd.prog 31 #[.pointer (some ⟨wb, 0, none⟩), .int .u64 (n : Int), .int .i64 width] w fun e w' => e = .returned (.tuple #[]) ∧ Left wb v room (numS room l bad n width) w w' := by
  have hz : ∀ w, (zeroValue 80).run Tryd.prog w = .ok (.agg Z8) w := fun w => by kernel_rfl
  have HW := Lib.hid h
  have hlt0 := Lib.hid h.lt
  clear h
  go_enter Tryd.func31, Tryd.ntmps31
  go_wp2
  go_loopw [10] (fun j wr => ∃ k : Nat, k ≤ 8 ∧ j = .int .i64 k ∧ wr.heap.size = w.heap.size + 1 ∧ wr.heap[w.heap.size]? = some (.cells (numArr n k) 80 (0, 0)) ∧ Below w.heap.size w wr) (fun j _ => 8 - (intOf j).toNat)
  case atStart => exact ⟨0, by omega, rfl, by simp, by rw [numArr_0]; exact heap_alloc_last _ _, Below.allocs _ _⟩
  case round =>
    obtain ⟨k, hk, rfl, hsz, hb0, hbl⟩ := hrel
    by_cases hlt : k < 8
    · have hd : decide ((k:Int) < 8) = true := by simp; omega
      have hc : wr.cell? ⟨w.heap.size, 7 - k, none⟩ = some (.int .u8 0) := by
        rw [cell_of_row _ _ _ _ _ _ hb0, numArr_get _ _ _ (by omega), if_neg (by omega)]
      have hf := frozen_of_row _ _ (7 - k) _ _ hb0
      have hv := nb_int n k hlt
      go_wp2
      go_roundw
      case rel =>
        exact ⟨k + 1, by omega, by go_num, by simp [World.setCell, hsz], by rw [heap_setCell_same _ _ _ _ _ _ hb0, numArr_set n k hlt], hbl.setCell (by simp) _⟩
      case measure => simp [intOf]; omega
    · have hd : decide ((k:Int) < 8) = false := by simp; omega
      have hk8 : k = 8 := by omega
      have hrow : wr.heap[w.heap.size]? = some (.cells (numArr n 8) 80 (0, 0)) := by rw [← hk8]; exact hb0
      have HR := Lib.hid hrow
      have HB := Lib.hid hbl
      have HW' : Hid (WAt wr wb v room l bad) := HW.out.touch (Turns.of_below (S := fun _ => False) hbl) (fun _ _ h => h)
      have HP : Hid (∀ m : Nat, m ≤ 8 → ∀ b' t, b' = wr.heap.size → ∀ w', Turns (foot wb v) (wr.alloc (.cells #[.slice (some ⟨w.heap.size, 8 - m, none⟩) m m] t)) w' → Pts w' (some ⟨b', 0, none⟩) 1 1 [be n m]) := by
        intro m hm b' t hb'
        refine stable1 (S := foot wb v) (fun w' ht => ?_) (fun i hi => by have := hlt0.out i hi; omega) t hb'
        exact num_bs (ht.keep hrow (fun hf => by have := hlt0.out _ hf; omega)) hm
      clear hb0 hbl hrow
      have hfin : Hid (∀ r o w1, Left wb v room r (wr.alloc o) w1 → Left wb v room r w w1) := by
        intro r o w1 h1
        obtain ⟨v', h1, h2, h3⟩ := h1.alloc
        exact ⟨v', h1, (Turns.of_below HB.out).trans h2 (fun _ _ h => h), fun i hi hlt => h3 i hi (by omega)⟩
      by_cases hw : 1 ≤ width ∧ width ≤ 8
      · obtain ⟨m, rfl⟩ : ∃ m : Nat, width = (m : Int) := ⟨width.toNat, by omega⟩
        have hsl : ∀ wx, (Instr.sliceAt 80 (.pointer (some ⟨w.heap.size, 0, none⟩)) (some (.int .i64 (8 - (m : Int)))) none none).run Tryd.prog wx = .ok (.slice (some ⟨w.heap.size, 8 - m, none⟩) m m) wx := fun wx => by
          have h1 := run_sliceAt_from (P := Tryd.prog) wx 80 5 8 1 Tryd.underlying80 (by kernel_rfl) ⟨w.heap.size, 0, none⟩ .i64 (8 - (m : Int)) (8 - m) (by omega) (by omega)
          rw [h1, add_none, show 0 + (8 - m) * 1 = 8 - m by omega, show 8 - (8 - m) = m by omega]
        have htot : total [be n m] ≤ 70368744177664 := by simp [total, be_length]; omega
        have HTO := Lib.hid htot
        clear htot
        have hm1 : (1 : Int) ≤ (m : Int) := by omega
        have hm8 : (m : Int) ≤ 8 := by omega
        by_cases hm : m = 8
        · have he : ((m : Int) == 8) = true := by rw [beq_iff_eq]; omega
          have hnum : Hid (numS room l bad n (m : Int) = putS room l bad true [be n m]) := by
            show _ = _
            rw [numS, if_pos ⟨hw.1, hw.2, .inl (by rw [hm]; rfl)⟩, Int.toNat_natCast]
          clear hm
          go_wp2_with (go_at_call 52; refine (put_any _ _ _ [be n m] wb v room l bad true _ (HW'.out.alloc _) (HP.out m (by omega) _ _ (by omega)) HTO.out hl).mono ?_; rintro e w1 ⟨rfl, hl1⟩)
          go_end0
          exact ⟨rfl, by rw [hnum.out]; exact hfin.out _ _ _ hl1⟩
        · have he : ((m : Int) == 8) = false := by rw [beq_eq_false_iff_ne]; omega
          have hpw : ((n : Int) / 2 ^ (8 * m)) = ((n / 2 ^ (8 * m) : Nat) : Int) := by rw [Int.natCast_ediv, Int.natCast_pow]; rfl
          by_cases hnm : n < 2 ^ (8 * m)
          · have hs0 : ((n : Int) / 2 ^ (8 * m) == 0) = true := by rw [hpw, Nat.div_eq_of_lt hnm]; rfl
            have hnum : Hid (numS room l bad n (m : Int) = putS room l bad true [be n m]) := by
              show _ = _
              rw [numS, if_pos ⟨hw.1, hw.2, .inr (by rw [Int.toNat_natCast]; exact hnm)⟩, Int.toNat_natCast]
            clear hm hpw hnm
            go_wp2_with (go_at_call 52; refine (put_any _ _ _ [be n m] wb v room l bad true _ (HW'.out.alloc _) (HP.out m (by omega) _ _ (by omega)) HTO.out hl).mono ?_; rintro e w1 ⟨rfl, hl1⟩)
            go_end0
            exact ⟨rfl, by rw [hnum.out]; exact hfin.out _ _ _ hl1⟩
          · have hs0 : ((n : Int) / 2 ^ (8 * m) == 0) = false := by
              rw [hpw, beq_eq_false_iff_ne]
              have : 0 < n / 2 ^ (8 * m) := Nat.div_pos (by omega) (Nat.two_pow_pos _)
              omega
            have hnum : Hid (numS room l bad n (m : Int) = putS room l bad false [be n m]) := by
              show _ = _
              rw [numS, if_neg (fun h => by rcases h.2.2 with h | h; omega; rw [Int.toNat_natCast] at h; exact hnm h)]
              exact putS_false _ _ _ _ _
            clear hm hpw hnm
            go_wp2_with (go_at_call 52; refine (put_any _ _ _ [be n m] wb v room l bad false _ (HW'.out.alloc _) (HP.out m (by omega) _ _ (by omega)) HTO.out hl).mono ?_; rintro e w1 ⟨rfl, hl1⟩)
            go_end0
            exact ⟨rfl, by rw [hnum.out]; exact hfin.out _ _ _ hl1⟩
      · have hsl : ∀ wx, (Instr.sliceAt 80 (.pointer (some ⟨w.heap.size, 0, none⟩)) (some (.int .i64 0)) none none).run Tryd.prog wx = .ok (.slice (some ⟨w.heap.size, 0, none⟩) 8 8) wx := fun wx => by
          have h1 := run_sliceAt_from (P := Tryd.prog) wx 80 5 8 1 Tryd.underlying80 (by kernel_rfl) ⟨w.heap.size, 0, none⟩ .i64 0 0 rfl (by omega)
          rw [h1, add_none]
        have hnum : Hid (numS room l bad n width = putS room l bad false [be n 8]) := by
          show _ = _
          rw [numS, if_neg (fun h => hw ⟨h.1, h.2.1⟩)]
          exact putS_false _ _ _ _ _
        have HP0 : Hid (∀ b' t, b' = wr.heap.size → ∀ w', Turns (foot wb v) (wr.alloc (.cells #[.slice (some ⟨w.heap.size, 0, none⟩) 8 8] t)) w' → Pts w' (some ⟨b', 0, none⟩) 1 1 [be n 8]) := HP.out 8 (by omega)
        have HTO : Hid (total [be n 8] ≤ 70368744177664) := by show _ ≤ _; simp [total, be_length]
        by_cases hw0 : width < 1
        · go_wp2_with (go_at_call 52; refine (put_any _ _ _ [be n 8] wb v room l bad false _ (HW'.out.alloc _) (HP0.out _ _ (by omega)) HTO.out hl).mono ?_; rintro e w1 ⟨rfl, hl1⟩)
          go_end0
          exact ⟨rfl, by rw [hnum.out]; exact hfin.out _ _ _ hl1⟩
        · have hw9 : 8 < width := by omega
          have hd9 : decide (width ≤ 8) = false := by simp; omega
          go_wp2_with (go_at_call 52; refine (put_any _ _ _ [be n 8] wb v room l bad false _ (HW'.out.alloc _) (HP0.out _ _ (by omega)) HTO.out hl).mono ?_; rintro e w1 ⟨rfl, hl1⟩)
          go_end0
          exact ⟨rfl, by rw [hnum.out]; exact hfin.out _ _ _ hl1⟩

end Go.Proofs.YtdaigkcbmdcbcaaDoor.Wr

namespace Go.Proofs.YtdaigkcbmdcbcaaDoor.Blk
open Go.RowKit Go.Mir Go.Mir.Parts

set_option maxRecDepth 100000 in
theorem right_none (M : Array Value) (h p : List UInt8) (q : Option Addr) (c : Nat) (w : World) (hM : BlkAt w M ⟨h, p, []⟩ q 0 c) (hne : ¬ h = p) :
    Calls Tryd.prog 12 #[.agg M] w fun e w' => e = .returned (.bool true) ∧ Below w.heap.size w w' := by
  have HP := Lib.hid (hM.parts (heap_alloc_last w (.cells M 26)))
  have hq : ∀ w, (Op.equalIn 10000 23 (.agg (idA h)) (.agg (idA p))).run Tryd.prog w = .ok (h == p) w := fun w => eqI w _ _ hM.hlen hM.plen
  have HH : Hid (h.length = 32 ∧ p.length = 32) := ⟨hM.hlen, hM.plen⟩
  have hb : (h == p) = false := by rw [beq_eq_false_iff_ne]; exact hne
  have hmm := @run_makeMap Tryd.prog
  have HW : Hid (Below w.heap.size w ((w.alloc (.cells M 26)).alloc (.map #[] 0))) := (Below.allocs _ _).alloc (by simp) _
  have HK := Lib.hid (Below.keepOld (Below.allocs (w.alloc (.cells M 26)) (.map #[] 0)) (heap_alloc_last w (.cells M 26)))
  have hc := (hM.parts HK.out).2.2
  have HR := Lib.hid (hM.parts HK.out)
  clear hM hne
  go_enter Tryd.func12, Tryd.ntmps12
  go_wp2_with fail
  go_step3
  go_wp2_with (first
    | ((with_reducible refine wpAt 14 ?_); refine wpList_unguard rfl (wpList_load_mid rfl 23 _ rfl w.heap.size 0 rfl (idA h).toList _ HR.out.1 Tryd.underlying23 rfl (infoI _ (by rw [Array.length_toList, idA_size, HH.out.1])) ?_))
    | ((with_reducible refine wpAt 16 ?_); refine wpList_unguard rfl (wpList_load_mid rfl 23 _ rfl w.heap.size 32 rfl (idA p).toList _ HR.out.2.1 Tryd.underlying23 rfl (infoI _ (by rw [Array.length_toList, idA_size, HH.out.2])) ?_)))
  generalize (w.alloc (.cells M 26)).alloc (.map #[] 0) = w2 at *
  clear hq
  go_step3
  go_wp2_with fail
  go_loopw [4, 22] (fun f j wr => f = .bool true ∧ j = .int .i64 0 ∧ wr = w2) (fun _ _ _ => 0)
  case atStart => exact ⟨rfl, rfl, rfl⟩
  case round =>
    obtain ⟨rfl, rfl, rfl⟩ := hrel
    go_wp2_with fail
    rw [Exit.noGoto_ret]
    go_ret
    exact ⟨rfl, HW.out⟩

/-! ### a writer, call by call -/
structure WI (w0 wr : World) (wb : Nat) (v : Value) (room : Nat) (l : List UInt8) (bad : Int) : Prop where
  wat : Wr.WAt wr wb v room l bad
  below : Below w0.heap.size w0 wr
  own : ∀ k, Wr.foot wb v k → w0.heap.size ≤ k
theorem WI.next {w0 wr w' : World} {wb : Nat} {v : Value} {room : Nat} {l : List UInt8} {bad : Int} {r : List UInt8 × Int} (h : WI w0 wr wb v room l bad) (hl : Wr.Left wb v room r wr w') : ∃ v', WI w0 w' wb v' room r.1 r.2 := by
  obtain ⟨v', hw, ht, hn⟩ := hl
  refine ⟨v', hw, h.below.trans (ht.below h.below.size h.own), fun k hk => ?_⟩
  rcases hk with rfl | hk
  · exact h.own _ (.inl rfl)
  · by_cases hlt : k < wr.heap.size
    · exact h.own k (.inr (hn k hk hlt))
    · have := h.below.size; omega
theorem putS_fit {room : Nat} {l : List UInt8} {ps : List (List UInt8)} (h : l.length + ps.flatten.length ≤ room) : Wr.putS room l 0 true ps = (l ++ ps.flatten, 0) := by
  rw [total_flatten] at h
  unfold Wr.putS
  rw [if_pos rfl, if_pos rfl, if_pos (by omega)]
theorem be1 (n : Nat) (h : n < 256) : Wr.be n 1 = [UInt8.ofNat n] := by
  unfold Wr.be Wr.nb
  simp
def encL (d : BlkD) : List UInt8 := d.hash ++ d.par ++ [UInt8.ofNat d.txs.length] ++ d.txs.flatten
theorem flat_len (txs : List (List UInt8)) (h : ∀ x ∈ txs, x.length = 32) : txs.flatten.length = 32 * txs.length := by
  rw [total_flatten]; exact Wr.total_ids txs h

set_option maxRecDepth 100000 in
set_option maxHeartbeats 400000 in
theorem encode_ok (M : Array Value) (d : BlkD) (q : Option Addr) (n c : Nat) (w : World) (hM : BlkAt w M d q n c) (hn : n ≤ 32)
    (hR : ∀ w', BlkAt w' M d q n c → Calls Tryd.prog 12 #[.agg M] w' fun e w'' => e = .returned (.bool true) ∧ Below w'.heap.size w' w'') :
    Calls Tryd.prog 10 #[.agg M] w fun e w' => (∃ p m cc, e = .returned (.tuple #[.slice p m cc, .int .i64 0]) ∧ w'.ownsRow w.heap.size 5 1 (.slice p m cc) m (bytesV (encL d))) ∧ Below w.heap.size w w' := by
  have HM := Lib.hid hM
  have HR := Lib.hid hR
  have HMS := Lib.hid hM.size
  have HA : Hid (d.hash.length = 32 ∧ d.par.length = 32) := ⟨hM.hlen, hM.plen⟩
  have hcap := hM.ids.sl.le
  have hmax := hM.ids.sl.max
  obtain rfl : d.txs.length = n := hM.ids.count
  have HFL := Lib.hid (flat_len d.txs hM.ids.each)
  have H0 : Hid ((w.alloc (.cells M 26)).heap[w.heap.size]? = some (.cells M 26 (0, 0))) := heap_alloc_last _ _
  have HB0 := Lib.hid (Below.allocs w (.cells M 26))
  clear hM hR
  go_enter Tryd.func10, Tryd.ntmps10
  go_wp2_with ((with_reducible refine wpAt 5 ?_); refine wpList_load_row rfl 26 _ rfl w.heap.size rfl 26 M (0, 0) _ H0.out Tryd.underlying26 rfl (infoBlk _ HMS.out) ?_)
  generalize w.alloc (.cells M 26) = w0 at *
  refine (HR.out _ (HM.out.below HB0.out)).mono ?_
  rintro e w1 ⟨rfl, hb1⟩
  have HR1 := Lib.hid (Below.keepOld hb1 H0.out)
  have HB1 := Lib.hid (HB0.out.trans (hb1.mono HB0.out.size))
  clear hb1
  go_wp2_with fail
  refine (Wr.new_any 1089 _ (by omega)).mono ?_
  rintro e w2 ⟨rfl, hw2, hb2⟩
  have HI2 : Hid (WI w1 w2 w1.heap.size (.slice none 0 0) 1089 [] 0) := ⟨hw2, hb2, fun k hk => by
    rcases hk with rfl | hk
    · exact Nat.le_refl _
    · simp [Value.ownBlock] at hk⟩
  have HR2 := Lib.hid (HM.out.parts (Below.keepOld hb2 HR1.out))
  clear hw2 hb2
  go_wp2_with ((with_reducible refine wpAt 11 ?_); refine wpList_load_mid rfl 23 _ rfl w.heap.size 0 rfl (idA d.hash).toList _ HR2.out.1 Tryd.underlying23 rfl (infoI _ (by rw [Array.length_toList, idA_size, HA.out.1])) ?_)
  rw [Array.toArray_toList]
  refine (Wr.id_any (idA d.hash) d.hash (idA_toList _) HA.out.1 _ _ _ _ _ _ HI2.out.wat (by simp)).mono ?_
  rintro e w3 ⟨rfl, hl3⟩
  rw [putS_fit (by simp [HA.out.1])] at hl3
  obtain ⟨v3, hi3⟩ := HI2.out.next hl3
  have HI3 := Lib.hid hi3
  have HR3 := Lib.hid (HM.out.parts (Below.keepOld hi3.below HR1.out))
  clear hl3 hi3
  go_wp2_with ((with_reducible refine wpAt 15 ?_); refine wpList_load_mid rfl 23 _ rfl w.heap.size 32 rfl (idA d.par).toList _ HR3.out.2.1 Tryd.underlying23 rfl (infoI _ (by rw [Array.length_toList, idA_size, HA.out.2])) ?_)
  rw [Array.toArray_toList]
  refine (Wr.id_any (idA d.par) d.par (idA_toList _) HA.out.2 _ _ _ _ _ _ HI3.out.wat (by simp [HA.out.1])).mono ?_
  rintro e w4 ⟨rfl, hl4⟩
  rw [putS_fit (by simp [HA.out.1, HA.out.2])] at hl4
  obtain ⟨v4, hi4⟩ := HI3.out.next hl4
  have HI4 := Lib.hid hi4
  have HR4 := Lib.hid (HM.out.parts (Below.keepOld hi4.below HR1.out))
  have hc4 := HR4.out.2.2
  clear hl4 hi4
  go_wp2_with fail
  refine (Wr.num_any d.txs.length 1 _ _ _ _ _ _ HI4.out.wat (by omega) (by omega) (by omega) (by simp [HA.out.1, HA.out.2])).mono ?_
  rintro e w5 ⟨rfl, hl5⟩
  have hnum : Wr.numS 1089 ([] ++ [d.hash].flatten ++ [d.par].flatten) 0 d.txs.length 1 = ([] ++ [d.hash].flatten ++ [d.par].flatten ++ [[UInt8.ofNat d.txs.length]].flatten, 0) := by
    unfold Wr.numS
    rw [if_pos ⟨by omega, by omega, .inr (by simp; omega)⟩, show (1 : Int).toNat = 1 from rfl, be1 _ (by omega), putS_fit (by simp [HA.out.1, HA.out.2])]
  rw [hnum] at hl5
  obtain ⟨v5, hi5⟩ := HI4.out.next hl5
  have HI5 := Lib.hid hi5
  have hc5 := (HM.out.parts (Below.keepOld hi5.below HR1.out)).2.2
  clear hl5 hi5 hc4 hnum
  go_wp2_with fail
  refine (Wr.ids_any q d.txs.length c d.txs _ _ _ _ _ _ HI5.out.wat (fun w' ht => HM.out.ids.below (HB1.out.trans (((HI5.out.below.trans (ht.below HI5.out.below.size HI5.out.own)).mono HB1.out.size)))) (by omega) (by simp [HA.out.1, HA.out.2])).mono ?_
  rintro e w6 ⟨rfl, hl6⟩
  rw [putS_fit (by simp [HA.out.1, HA.out.2, HFL.out]; omega)] at hl6
  obtain ⟨v6, hi6⟩ := HI5.out.next hl6
  have HI6 := Lib.hid hi6
  have HE : Hid ([] ++ [d.hash].flatten ++ [d.par].flatten ++ [[UInt8.ofNat d.txs.length]].flatten ++ d.txs.flatten = encL d) := by show _ = _; simp [encL]
  clear hl6 hi6 hc5
  go_wp2_with fail
  refine (Wr.done_any _ _ _ _ _ _ HI6.out.wat (by simp [HA.out.1, HA.out.2, HFL.out]; omega)).mono ?_
  rintro e w7 ⟨⟨p7, n7, c7, rfl, ho7⟩, hb7⟩
  have HB7 := Lib.hid (HB1.out.trans ((HI6.out.below.trans (hb7.mono HI6.out.below.size)).mono HB1.out.size))
  have HO7 := Lib.hid ho7
  have HBX : Hid (w.heap.size ≤ w6.heap.size) := (HB1.out.trans (HI6.out.below.mono HB1.out.size)).size
  clear ho7 hb7
  go_wp2_with fail
  go_ret2
  refine ⟨⟨p7, n7, c7, rfl, ?_⟩, HB7.out⟩
  have h1 := HO7.out
  rw [if_pos trivial, HE.out] at h1
  exact own_base h1 (fun k hk => Nat.le_trans HBX.out (h1.lt k hk).1)

/-! ### the example -/
def id1 (b : UInt8) : List UInt8 := b :: List.replicate 31 0
theorem zc_blk (p : Option Addr) (n c : Nat) : Tryd.zeroCells26.setIfInBounds 64 (.slice p n c) = blkA zeros zeros p n c := by kernel_rfl
theorem lit5 : idA (id1 5) = #[.int .u8 5, .int .u8 0, .int .u8 0, .int .u8 0, .int .u8 0, .int .u8 0, .int .u8 0, .int .u8 0, .int .u8 0, .int .u8 0, .int .u8 0, .int .u8 0, .int .u8 0, .int .u8 0, .int .u8 0, .int .u8 0, .int .u8 0, .int .u8 0, .int .u8 0, .int .u8 0, .int .u8 0, .int .u8 0, .int .u8 0, .int .u8 0, .int .u8 0, .int .u8 0, .int .u8 0, .int .u8 0, .int .u8 0, .int .u8 0, .int .u8 0, .int .u8 0] := by kernel_rfl
theorem build1 : Tryd.prog.built 23 [(0, .int .u8 1)] = some (idA (id1 1)) := by kernel_rfl
theorem build5 : Tryd.prog.built 23 [(0, .int .u8 5)] = some (idA (id1 5)) := by kernel_rfl
theorem buildB1 : Tryd.prog.built 26 [(0, .agg (idA (id1 1)))] = some (blkA (id1 1) zeros none 0 0) := by kernel_rfl
theorem buildB5 (p : Option Addr) (n c : Nat) : Tryd.prog.built 26 [(2, .slice p n c)] = some (blkA zeros zeros p n c) := by kernel_rfl
set_option maxRecDepth 100000 in
set_option maxHeartbeats 400000 in
theorem alive_any (w : World) : Calls Tryd.prog 9 #[] w fun e w' => e = .returned (.bool true) ∧ Below w.heap.size w w' := by
  have b1 := fun w0 => run_build (P := Tryd.prog) w0 23 #[(0, .int .u8 1)] _ build1
  have b2 := fun w0 => run_build (P := Tryd.prog) w0 26 #[(0, .agg (idA (id1 1)))] _ buildB1
  have b3 := fun w0 => run_build (P := Tryd.prog) w0 23 #[(0, .int .u8 5)] _ build5
  have b4 := fun w0 p n c => run_build (P := Tryd.prog) w0 26 #[(2, .slice p n c)] _ (buildB5 p n c)
  go_enter Tryd.func9, Tryd.ntmps9
  go_wp2_with fail
  have HM : Hid (∀ w', BlkAt w' (blkA (id1 1) zeros none 0 0) ⟨id1 1, zeros, []⟩ none 0 0) := fun w' => ⟨rfl, rfl, rfl, Is.nil _ _⟩
  refine (encode_ok _ ⟨id1 1, zeros, []⟩ none 0 0 w (HM.out w) (by omega) (fun w' hw' => right_none _ _ _ _ _ w' hw' (by decide))).mono ?_
  rintro e w1 ⟨⟨p, m, cc, rfl, ho⟩, hb1⟩
  obtain ⟨p', c', hv, hs⟩ := own_sl ho
  cases hv
  have hl : (encL ⟨id1 1, zeros, []⟩).length = m := Bs.length hs
  have h65 : m = 65 := by rw [← hl]; rfl
  subst h65
  have hm := hs.le
  have hx := hs.max
  obtain ⟨b, o, rfl⟩ := hs.addr (by omega) (by omega)
  have hc := Bs.byte hs (j := 0) (by decide)
  rw [Nat.add_zero] at hc
  have hc1 : w1.cell? ⟨b, o, none⟩ = some (.int .u8 1) := hc
  have HB1 := Lib.hid hb1
  clear hb1 ho hs hl hc
  go_wp2_with fail
  rw [zc_blk, ← lit5]
  have HMX : Hid (BlkAt (w1.alloc (.cells (idA (id1 5)) 23)) (blkA zeros zeros (some ⟨w1.heap.size, 0, none⟩) 1 1) ⟨zeros, zeros, [id1 5]⟩ (some ⟨w1.heap.size, 0, none⟩) 1 1) :=
    ⟨rfl, rfl, rfl, ⟨by simpa using made_id w1 (id1 5) _ 23 (idA_toList _) rfl, fun x hx => by simp at hx; subst hx; rfl, rfl⟩⟩
  refine (has_any _ ⟨zeros, zeros, [id1 5]⟩ _ 1 1 (id1 5) _ HMX.out rfl (by omega)).mono ?_
  rintro e w2 ⟨rfl, hb2⟩
  have HB2 := Lib.hid ((HB1.out.alloc HB1.out.size _).trans (hb2.mono (by have := HB1.out.size; simp; omega)))
  clear hb2
  go_wp2_with fail
  go_ret
  exact ⟨rfl, HB2.out⟩
end Go.Proofs.YtdaigkcbmdcbcaaDoor.Blk

namespace Go.Mir
open Go.RowKit Go.WideMaps Go.Maps Go.ChangeMaps

theorem idA_inj {x y : List UInt8} (h : idA x = idA y) : x = y := by
  have h1 : bytesV x = bytesV y := by rw [← idA_toList x, ← idA_toList y, h]
  refine List.map_inj_right (f := fun b : UInt8 => Value.int .u8 (b.toNat : Int)) ?_ |>.1 h1
  intro a b e
  have : (a.toNat : Int) = (b.toNat : Int) := by injection e
  exact UInt8.toNat_inj.1 (by omega)
/-- the key's laws -/
structure IdKeys (P : Program) (k : TypeId) : Prop where
  law : Keyed P k
  is : ∀ x : List UInt8, x.length = 32 → ∃ l, keyOf P k (.agg (idA x)) = some l
theorem mapM_some {α β : Type} (f : α → Option β) : ∀ (l : List α), (∀ x ∈ l, ∃ y, f x = some y) → ∃ ys, l.mapM f = some ys
  | [], _ => ⟨[], rfl⟩
  | x :: l, h => by
    obtain ⟨y, hy⟩ := h x (by simp)
    obtain ⟨ys, hys⟩ := mapM_some f l (fun z hz => h z (by simp [hz]))
    exact ⟨y :: ys, by simp [List.mapM_cons, hy, hys]⟩
theorem idKeys_of {P : Program} {k e : TypeId} (hk : P.underlying k = some (.array 32 e)) (he : P.underlying e = some (.int .u8)) (hc : P.cellsOf e = 1) (hck : P.cellsOf k = 32) (hkt : P.keyType k = true) (hp : 2 ≤ P.types.size + 1) (law : Keyed P k) : IdKeys P k := by
  refine ⟨law, fun x hx => ?_⟩
  unfold keyOf
  rw [hk]
  have hf : (Value.agg (idA x)).formed P k = true := by simp [Value.formed, hk, hck, idA_size, hx]
  simp only [hkt, hf, Bool.and_self, if_true]
  obtain ⟨d, hd⟩ : ∃ d, P.types.size + 1 = d + 1 + 1 := ⟨P.types.size - 1, by omega⟩
  have : ∃ ls, P.keyLits (P.types.size + 1) k (Value.agg (idA x)).cells.toList = some ls := by
    rw [hd]
    unfold Program.keyLits
    simp only [hk]
    rw [if_pos (by rw [hck, show (Value.agg (idA x)).cells = idA x from rfl, Array.length_toList, idA_size, hx])]
    obtain ⟨ys, hys⟩ := mapM_some (fun i => P.keyLits (d + 1) e (((Value.agg (idA x)).cells.toList.drop (i * P.cellsOf e)).take (P.cellsOf e))) (List.range 32) (fun i hi => by
      have hi' : i < x.length := by rw [hx]; exact List.mem_range.1 hi
      have h1 : ((Value.agg (idA x)).cells.toList.drop (i * P.cellsOf e)).take (P.cellsOf e) = [Value.int .u8 (x[i].toNat : Int)] := by
        rw [hc, Nat.mul_one, show (Value.agg (idA x)).cells = idA x from rfl, idA_toList, List.drop_eq_getElem_cons (by rw [bytesV_length]; exact hi'), List.take_succ_cons, List.take_zero]
        congr 1
        simp [bytesV]
      rw [h1]
      unfold Program.keyLits
      simp only [he]
      have hw : (Lit.int .u8 (x[i].toNat : Int)).wf = true := by
        have := UInt8.toNat_lt x[i]
        simp [Lit.wf, IntKind.min, IntKind.max, IntKind.signed, IntKind.bits]; omega
      exact ⟨[.int .u8 (x[i].toNat : Int)], by simp [hw]⟩)
    exact ⟨ys.flatten, by rw [hys]; rfl⟩
  obtain ⟨ls, hls⟩ := this
  exact ⟨_, by rw [hls]; rfl⟩
theorem modify_get {l : List MapEntry} {g : MapEntry → MapEntry} {j i : Nat} {e : MapEntry} (h : (l.modify j g)[i]? = some e) : ∃ e1, l[i]? = some e1 ∧ e = if j = i then g e1 else e1 := by
  rw [List.getElem?_modify] at h
  cases hl : l[i]? with
  | none => rw [hl] at h; simp at h
  | some e1 =>
    rw [hl] at h
    refine ⟨e1, rfl, ?_⟩
    have : (if j = i then g e1 else e1) = e := by simpa using h
    exact this.symm
/-- a map from ids, as a function -/
structure MapAt (w : World) (b : Nat) (f : List UInt8 → Option Value) (es : Array MapEntry) (clock : Nat) : Prop where
  heap : w.heap[b]? = some (.map es clock)
  reads : ∀ (i : Nat) e, es.toList[i]? = some e → ∃ x : List UInt8, x.length = 32 ∧ e.key = .agg (idA x) ∧ f x = some e.val
  has : ∀ (x : List UInt8) v, x.length = 32 → f x = some v → ∃ (i : Nat) (e : MapEntry), es.toList[i]? = some e ∧ e.key = .agg (idA x)
  one : ∀ (i j : Nat) (e e' : MapEntry), es.toList[i]? = some e → es.toList[j]? = some e' → e.key = e'.key → i = j
def MapIs (w : World) (b : Nat) (f : List UInt8 → Option Value) : Prop := ∃ es clock, MapAt w b f es clock
theorem MapIs.lt {w : World} {b : Nat} {f : List UInt8 → Option Value} (h : MapIs w b f) : b < w.heap.size := by
  obtain ⟨es, c, h⟩ := h
  exact (Array.getElem?_eq_some_iff.1 h.heap).1
theorem MapIs.keep {w w' : World} {b : Nat} {f : List UInt8 → Option Value} (h : MapIs w b f) (hk : w'.heap[b]? = w.heap[b]?) : MapIs w' b f := by
  obtain ⟨es, c, h⟩ := h
  exact ⟨es, c, by rw [hk]; exact h.heap, h.reads, h.has, h.one⟩
theorem MapIs.below {w w' : World} {b : Nat} {f : List UInt8 → Option Value} (h : MapIs w b f) (hb : Below w.heap.size w w') : MapIs w' b f := h.keep (hb.block b h.lt)
theorem MapIs.turned {S : Nat → Prop} {w w' : World} {b : Nat} {f : List UInt8 → Option Value} (h : MapIs w b f) (ht : Turns S w w') (hS : ¬ S b) : MapIs w' b f := h.keep (ht.block b h.lt hS)
theorem mapIs_made (w : World) : MapIs (w.alloc (.map #[] 0)) w.heap.size (fun _ => none) :=
  ⟨#[], 0, heap_alloc_last _ _, fun i e h => by simp at h, fun x v _ h => by simp at h, fun i j e e' h => by simp at h⟩
theorem MapIs.look {P : Program} {w : World} {b : Nat} {f : List UInt8 → Option Value} {t k e : TypeId} (h : MapIs w b f) (K : IdKeys P k) (ht : P.underlying t = some (.map k e)) {z : Value} (hz : (zeroValue e).run P w = .ok z w) (x : List UInt8) (hx : x.length = 32) :
    (Instr.lookup t (.map (some b)) (.agg (idA x)) false).run P w = .ok ((f x).getD z) w := by
  obtain ⟨es, c, h⟩ := h
  obtain ⟨l, hl⟩ := K.is x hx
  have hkeys : ∀ e ∈ es.toList, ∃ l, keyOf P k e.key = some l := fun e he => by
    obtain ⟨i, hi⟩ := List.mem_iff_getElem?.1 he
    obtain ⟨y, hy, e1, _⟩ := h.reads i e hi
    rw [e1]; exact K.is y hy
  rcases K.law.find w hl es.toList hkeys with ⟨h1, h2⟩ | ⟨j, e0, h1, h2, h3⟩
  · have : f x = none := by
      cases hf : f x with
      | none => rfl
      | some v =>
        obtain ⟨i, e, hi, he⟩ := h.has x v hx hf
        exact absurd he (h2 e (List.mem_of_getElem? hi))
    rw [this]
    simp [Instr.lookup, run_underlying ht, MapKept.run_getObj_map h.heap, K.law.check w _ hl, h1, hz, Result.andThen]
  · obtain ⟨y, hy, e1, e2⟩ := h.reads j e0 h2
    rw [e1] at h3
    have : y = x := idA_inj (by injection h3)
    subst this
    rw [e2]
    simp [Instr.lookup, run_underlying ht, MapKept.run_getObj_map h.heap, K.law.check w _ hl, h1, Result.andThen]
theorem MapIs.look_ok {P : Program} {w : World} {b : Nat} {f : List UInt8 → Option Value} {t k e : TypeId} (h : MapIs w b f) (K : IdKeys P k) (ht : P.underlying t = some (.map k e)) {z : Value} (hz : (zeroValue e).run P w = .ok z w) (x : List UInt8) (hx : x.length = 32) :
    (Instr.lookup t (.map (some b)) (.agg (idA x)) true).run P w = .ok (.tuple #[(f x).getD z, .bool (f x).isSome]) w := by
  obtain ⟨es, c, h⟩ := h
  obtain ⟨l, hl⟩ := K.is x hx
  have hkeys : ∀ e ∈ es.toList, ∃ l, keyOf P k e.key = some l := fun e he => by
    obtain ⟨i, hi⟩ := List.mem_iff_getElem?.1 he
    obtain ⟨y, hy, e1, _⟩ := h.reads i e hi
    rw [e1]; exact K.is y hy
  rcases K.law.find w hl es.toList hkeys with ⟨h1, h2⟩ | ⟨j, e0, h1, h2, h3⟩
  · have : f x = none := by
      cases hf : f x with
      | none => rfl
      | some v =>
        obtain ⟨i, e, hi, he⟩ := h.has x v hx hf
        exact absurd he (h2 e (List.mem_of_getElem? hi))
    rw [this]
    simp [Instr.lookup, run_underlying ht, MapKept.run_getObj_map h.heap, K.law.check w _ hl, h1, hz, Result.andThen]
  · obtain ⟨y, hy, e1, e2⟩ := h.reads j e0 h2
    rw [e1] at h3
    have : y = x := idA_inj (by injection h3)
    subst this
    rw [e2]
    simp [Instr.lookup, run_underlying ht, MapKept.run_getObj_map h.heap, K.law.check w _ hl, h1, Result.andThen]
theorem MapIs.store {P : Program} {w : World} {b : Nat} {f : List UInt8 → Option Value} {t k e : TypeId} (h : MapIs w b f) (K : IdKeys P k) (ht : P.underlying t = some (.map k e)) (x : List UInt8) (hx : x.length = 32) (v : Value) :
    ∃ w', (Instr.mapUpdate t (.map (some b)) (.agg (idA x)) v).run P w = .ok () w' ∧ MapIs w' b (fun y => if y = x then some v else f y) ∧ Turns (fun i => i = b) w w' := by
  obtain ⟨es, c, h⟩ := h
  obtain ⟨l, hl⟩ := K.is x hx
  have hkeys : ∀ e ∈ es.toList, ∃ l, keyOf P k e.key = some l := fun e he => by
    obtain ⟨i, hi⟩ := List.mem_iff_getElem?.1 he
    obtain ⟨y, hy, e1, _⟩ := h.reads i e hi
    rw [e1]; exact K.is y hy
  have hT : ∀ o, Turns (fun i => i = b) w (setBlock w b o) := fun o => ⟨rfl, rfl, rfl, by simp [setBlock], fun i _ hi => heap_setBlock_other h.heap _ hi⟩
  rcases K.law.find w hl es.toList hkeys with ⟨h1, h2⟩ | ⟨j, e0, h1, h2, h3⟩
  · refine ⟨setBlock w b (.map (es.push ⟨.agg (idA x), v, c⟩) (c + 1)), ?_, ⟨_, _, heap_setBlock_same h.heap _, ?_, ?_, ?_⟩, hT _⟩
    · simp [Instr.mapUpdate, run_underlying ht, MapKept.run_getObj_map h.heap, K.law.check w false hl, h1, MapKept.run_setObj_map _ h.heap, Result.andThen, setBlock]
    · intro i e hi
      rw [Array.toList_push, List.getElem?_append] at hi
      split at hi
      · obtain ⟨y, hy, e1, e2⟩ := h.reads i e hi
        refine ⟨y, hy, e1, ?_⟩
        rw [if_neg (fun q => h2 e (List.mem_of_getElem? hi) (by rw [e1, q]))]; exact e2
      · obtain ⟨rfl, _⟩ : e = ⟨.agg (idA x), v, c⟩ ∧ True := by
          have := List.mem_of_getElem? hi
          simp at this
          exact ⟨this, trivial⟩
        exact ⟨x, hx, rfl, by rw [if_pos rfl]⟩
    · intro y u hy hu
      by_cases hyx : y = x
      · refine ⟨es.toList.length, ⟨.agg (idA x), v, c⟩, ?_, by rw [hyx]⟩
        rw [Array.toList_push, List.getElem?_append_right (Nat.le_refl _), Nat.sub_self]; rfl
      · rw [if_neg hyx] at hu
        obtain ⟨i, e, hi, he⟩ := h.has y u hy hu
        refine ⟨i, e, ?_, he⟩
        rw [Array.toList_push, List.getElem?_append_left (List.getElem?_eq_some_iff.1 hi).1]; exact hi
    · intro i j e e' hi hj hk
      rw [Array.toList_push] at hi hj
      have key : ∀ (i : Nat) (e : MapEntry), (es.toList ++ [⟨.agg (idA x), v, c⟩])[i]? = some e → (es.toList[i]? = some e ∧ e.key ≠ .agg (idA x)) ∨ (i = es.toList.length ∧ e.key = .agg (idA x)) := fun i e hi => by
        rw [List.getElem?_append] at hi
        split at hi
        · exact .inl ⟨hi, h2 e (List.mem_of_getElem? hi)⟩
        · rename_i hge
          have hlt := (List.getElem?_eq_some_iff.1 hi).1
          simp at hlt hge
          refine .inr ⟨by rw [Array.length_toList]; omega, ?_⟩
          have := List.mem_of_getElem? hi
          simp at this
          rw [this]
      rcases key i e hi with ⟨a1, a2⟩ | ⟨a1, a2⟩ <;> rcases key j e' hj with ⟨b1, b2⟩ | ⟨b1, b2⟩
      · exact h.one i j e e' a1 b1 hk
      · exact absurd (hk.trans b2) a2
      · exact absurd (hk.symm.trans a2) b2
      · rw [a1, b1]
  · have hj : es[j]? = some e0 := by simpa using h2
    have hj2 : es.toList[j]? = some e0 := h2
    refine ⟨setBlock w b (.map (es.modify j (fun e' => { e' with key := .agg (idA x), val := v })) c), ?_, ⟨_, _, heap_setBlock_same h.heap _, ?_, ?_, ?_⟩, hT _⟩
    · simp [Instr.mapUpdate, run_underlying ht, MapKept.run_getObj_map h.heap, K.law.check w false hl, h1, hj, h3, K.law.stays w hl, MapKept.run_setObj_map _ h.heap, Result.andThen, setBlock]
    · intro i e hi
      rw [Array.toList_modify] at hi
      obtain ⟨e1, hei, rfl⟩ := modify_get hi
      by_cases hij : j = i
      · rw [if_pos hij]
        exact ⟨x, hx, rfl, by rw [if_pos rfl]⟩
      · rw [if_neg hij]
        obtain ⟨y, hy, q1, q2⟩ := h.reads i e1 hei
        refine ⟨y, hy, q1, ?_⟩
        rw [if_neg (fun q => hij (h.one j i e0 e1 hj2 hei (by rw [h3, q1, q])))]; exact q2
    · intro y u hy hu
      by_cases hyx : y = x
      · refine ⟨j, { e0 with key := .agg (idA x), val := v }, ?_, by rw [hyx]⟩
        rw [Array.toList_modify, List.getElem?_modify, hj2]; simp
      · rw [if_neg hyx] at hu
        obtain ⟨i, e, hi, he⟩ := h.has y u hy hu
        have hij : ¬ j = i := fun q => by
          subst q
          rw [hj2] at hi
          cases hi
          rw [h3] at he
          exact hyx (idA_inj (by injection he)).symm
        refine ⟨i, e, ?_, he⟩
        rw [Array.toList_modify, List.getElem?_modify, hi]; simp [hij]
    · intro i i' e e' hi hi' hk
      rw [Array.toList_modify] at hi hi'
      have key : ∀ (i : Nat) (e1 e : MapEntry), es.toList[i]? = some e1 → (e = if j = i then { e1 with key := .agg (idA x), val := v } else e1) → e1.key = e.key := fun i e1 e hi he => by
        by_cases hij : j = i
        · rw [if_pos hij] at he
          subst hij
          rw [hj2] at hi
          cases hi
          rw [he]; exact h3
        · rw [if_neg hij] at he
          rw [he]
      obtain ⟨a, ha, ha'⟩ := modify_get hi
      obtain ⟨a2, ha2, ha2'⟩ := modify_get hi'
      exact h.one i i' a a2 ha ha2 (by rw [key i a e ha ha', key i' a2 e' ha2 ha2', hk])
end Go.Mir

namespace Go.Proofs.YtdaigkcbmdcbcaaDoor.Blk
open Go.RowKit Go.Mir Go.Mir.Parts

theorem laidOutP : laidOutB Tryd.prog = true := by kernel_rfl
theorem idKeys : IdKeys Tryd.prog 23 :=
  idKeys_of Tryd.underlying23 Tryd.underlying5 (by kernel_rfl) (by kernel_rfl) (by kernel_rfl) (of_decide_eq_true (by kernel_rfl))
    (Maps.Keyed.of_law (deep_law_gate laidOutP (of_decide_eq_true (by kernel_rfl)) (of_decide_eq_true (by kernel_rfl)) (by kernel_rfl) (by kernel_rfl)))
theorem und_met : Tryd.prog.underlying 58 = some (.map 23 4) := Tryd.underlying58
theorem zbool (w : World) : (zeroValue 4).run Tryd.prog w = .ok (.bool false) w := by kernel_rfl
/-- may a block be? -/
def rightB (d : BlkD) : Bool := decide (d.txs.length ≤ 32) && !(d.hash == d.par) && decide d.txs.Nodup
/-- the ids met so far -/
def metF (l : List (List UInt8)) (y : List UInt8) : Option Value := if y ∈ l then some (.bool true) else none
theorem metF_look (l : List (List UInt8)) (y : List UInt8) : (metF l y).getD (.bool false) = .bool (decide (y ∈ l)) := by
  unfold metF; by_cases h : y ∈ l <;> simp [h]
theorem metF_snoc (l : List (List UInt8)) (y : List UInt8) : (fun z => if z = y then some (Value.bool true) else metF l z) = metF (l ++ [y]) := by
  funext z
  unfold metF
  by_cases h : z = y <;> simp [h]

set_option maxRecDepth 100000 in
set_option maxHeartbeats 400000 in
theorem right_any (M : Array Value) (d : BlkD) (q : Option Addr) (n c : Nat) (w : World) (hM : BlkAt w M d q n c) :
    Calls Tryd.prog 12 #[.agg M] w fun e w' => e = .returned (.bool (rightB d)) ∧ Below w.heap.size w w' := by
  have HM := Lib.hid hM
  have hcap := hM.ids.sl.le
  have hmax := hM.ids.sl.max
  have HC : Hid (d.txs.length = n) := hM.ids.count
  have hq : ∀ w, (Op.equalIn 10000 23 (.agg (idA d.hash)) (.agg (idA d.par))).run Tryd.prog w = .ok (d.hash == d.par) w := fun w => eqI w _ _ hM.hlen hM.plen
  have HH : Hid (d.hash.length = 32 ∧ d.par.length = 32) := ⟨hM.hlen, hM.plen⟩
  have hmm := @run_makeMap Tryd.prog
  have HW : Hid (Below w.heap.size w ((w.alloc (.cells M 26)).alloc (.map #[] 0))) := (Below.allocs _ _).alloc (by simp) _
  have HK := Lib.hid (Below.keepOld (Below.allocs (w.alloc (.cells M 26)) (.map #[] 0)) (heap_alloc_last w (.cells M 26)))
  have HMP : Hid (MapIs ((w.alloc (.cells M 26)).alloc (.map #[] 0)) (w.heap.size + 1) (metF [])) := by
    have h := mapIs_made (w.alloc (.cells M 26))
    have hs : (w.alloc (.cells M 26)).heap.size = w.heap.size + 1 := by simp
    rw [hs] at h
    exact h
  have hc := (hM.parts HK.out).2.2
  have HR := Lib.hid (hM.parts HK.out)
  obtain ⟨f0, hf0⟩ : ∃ f : Bool, f = (decide (n ≤ 32) && !(d.hash == d.par)) := ⟨_, rfl⟩
  have HF0 : Hid (f0 = (decide (n ≤ 32) && !(d.hash == d.par))) := hf0
  clear hM hf0
  go_enter Tryd.func12, Tryd.ntmps12
  go_wp2_with fail
  go_step3
  go_upto_region 2 with fail
  generalize (w.alloc (.cells M 26)).alloc (.map #[] 0) = w2 at *
  try simp only [Act.put, List.setIfInBounds_toArray, List.set_cons_zero, List.set_cons_succ]
  go_cut [4] from 7 (fun s4 wx => s4 = .bool f0 ∧ wx = w2)
  case first =>
    by_cases h32 : n ≤ 32
    · have hd0 : decide ((n : Int) ≤ 32) = true := decide_eq_true (by omega)
      go_wp2_with (first
        | ((with_reducible refine wpAt 14 ?_); refine wpList_unguard rfl (wpList_load_mid rfl 23 _ rfl w.heap.size 0 rfl (idA d.hash).toList _ HR.out.1 Tryd.underlying23 rfl (infoI _ (by rw [Array.length_toList, idA_size, HH.out.1])) ?_))
        | ((with_reducible refine wpAt 16 ?_); refine wpList_unguard rfl (wpList_load_mid rfl 23 _ rfl w.heap.size 32 rfl (idA d.par).toList _ HR.out.2.1 Tryd.underlying23 rfl (infoI _ (by rw [Array.length_toList, idA_size, HH.out.2])) ?_)))
      go_meet
      exact ⟨by rw [HF0.out, decide_eq_true h32]; simp, rfl⟩
    · have hd0 : decide ((n : Int) ≤ 32) = false := decide_eq_false (by omega)
      go_wp2_with fail
      go_meet
      exact ⟨by rw [HF0.out, decide_eq_false h32]; simp, rfl⟩
  obtain ⟨rfl, hw2⟩ := hcut
  subst hw2
  clear hq
  go_wp2_with fail
  go_step3
  go_wp2_with fail
  have HRT : Hid (f0 = true → rightB d = decide d.txs.Nodup) := fun h => by
    unfold rightB; rw [HC.out, ← HF0.out, h]; rfl
  have HRF : Hid (f0 = false → rightB d = false) := fun h => by
    unfold rightB; rw [HC.out, ← HF0.out, h]; rfl
  generalize hwc : wc = w2 at *
  clear hwc wc hc HR HF0
  go_loopw [4, 22] (fun f j wr => ∃ k : Nat, k ≤ n ∧ j = .int .i64 k ∧ f = .bool f0 ∧ (0 < k → f0 = true) ∧ (d.txs.take k).Nodup ∧ MapIs wr (w.heap.size + 1) (metF (d.txs.take k)) ∧ Below w.heap.size w wr) (fun _ j _ => n - (intOf j).toNat)
  case atStart => exact ⟨0, by omega, rfl, rfl, by omega, by simp, by simpa using HMP.out, HW.out⟩
  case round =>
    obtain ⟨k, hk, rfl, rfl, hpos, hnd, hmp, hbw⟩ := hrel
    have HPOS := Lib.hid hpos
    have HND := Lib.hid hnd
    have HMW := Lib.hid hmp
    have HBW := Lib.hid hbw
    clear hpos hnd hmp hbw
    by_cases hlt : k < n
    · obtain ⟨b, o, rfl⟩ := HM.out.ids.sl.addr (by omega) (by omega)
      have hlk : k < d.txs.length := by rw [HC.out]; exact hlt
      have HRG := Lib.hid ((HM.out.ids.below HBW.out).range (by omega) k hlk)
      have HLK : Hid ((d.txs[k]'hlk).length = 32) := HM.out.ids.each _ (List.getElem_mem _)
      have HTK := Lib.hid (take_snoc d.txs k hlk)
      have HNN : Hid (d.txs[k]'hlk ∈ d.txs.take k → ¬ d.txs.Nodup) := fun h hn => by
        have h2 := List.take_append_drop k d.txs
        rw [← h2, List.nodup_append] at hn
        refine hn.2.2 _ h _ ?_ rfl
        rw [List.drop_eq_getElem_cons hlk]; exact List.mem_cons_self
      generalize d.txs[k]'hlk = y at *
      have HYS : Hid ((idA y).size = 32) := by show _ = _; rw [idA_size, HLK.out]
      have HYL : Hid ((idA y).toList.length = 32) := by show _ = _; rw [Array.length_toList, HYS.out]
      have HNW := Lib.hid (box_new wr (idA zeros) 23)
      have HBR := Lib.hid (box_row wr (idA zeros) (idA y) 23)
      have HBB := Lib.hid (box_below wr (idA zeros) (idA y) 23)
      have HB3 := Lib.hid (HBW.out.trans (HBB.out.mono HBW.out.size))
      have HM3 := Lib.hid (HMW.out.below HBB.out)
      have hd : decide ((k : Int) < (n : Int)) = true := decide_eq_true (by omega)
      have hz := zeroI
      have hlook := HM3.out.look idKeys und_met (zbool _) y HLK.out
      rw [metF_look] at hlook
      by_cases hin : y ∈ d.txs.take k
      · have hb : decide (y ∈ d.txs.take k) = true := decide_eq_true hin
        have HRES : Hid (rightB d = false) := by
          cases hf : f0 with
          | false => exact HRF.out hf
          | true => show _ = _; rw [HRT.out hf]; exact decide_eq_false (HNN.out hin)
        rw [hb] at hlook
        clear hin hb
        go_wp2_with (first
          | ((with_reducible refine wpAt 25 ?_); refine wpList_load_mid rfl 23 _ rfl b (o + k * 32) rfl (idA y).toList _ HRG.out Tryd.underlying23 rfl (infoI _ HYL.out) ?_)
          | ((with_reducible refine wpStoreAt 6 ?_); refine wpList_store_row rfl 23 _ _ rfl wr.heap.size (idA y) rfl rfl 23 (idA zeros) HNW.out (infoI _ HYS.out) (zeros_size.trans HYS.out.symm) (idA_one y) ?_)
          | ((with_reducible refine wpAt 27 ?_); refine wpList_load_row rfl 23 _ rfl wr.heap.size rfl 23 (idA y) (0, 0) _ HBR.out Tryd.underlying23 rfl (infoI _ HYS.out) ?_))
        rw [Exit.noGoto_ret]
        go_ret
        exact ⟨bret HRES.out.symm, HB3.out⟩
      · have hb : decide (y ∈ d.txs.take k) = false := decide_eq_false hin
        rw [hb] at hlook
        cases hf : f0 with
        | false =>
          have HRES := Lib.hid (HRF.out hf)
          clear hin hb
          go_wp2_with (first
            | ((with_reducible refine wpAt 25 ?_); refine wpList_load_mid rfl 23 _ rfl b (o + k * 32) rfl (idA y).toList _ HRG.out Tryd.underlying23 rfl (infoI _ HYL.out) ?_)
            | ((with_reducible refine wpStoreAt 6 ?_); refine wpList_store_row rfl 23 _ _ rfl wr.heap.size (idA y) rfl rfl 23 (idA zeros) HNW.out (infoI _ HYS.out) (zeros_size.trans HYS.out.symm) (idA_one y) ?_)
            | ((with_reducible refine wpAt 27 ?_); refine wpList_load_row rfl 23 _ rfl wr.heap.size rfl 23 (idA y) (0, 0) _ HBR.out Tryd.underlying23 rfl (infoI _ HYS.out) ?_)
            | ((with_reducible refine wpAt 34 ?_); refine wpList_load_row rfl 23 _ rfl wr.heap.size rfl 23 (idA y) (0, 0) _ HBR.out Tryd.underlying23 rfl (infoI _ HYS.out) ?_))
          rw [Exit.noGoto_ret]
          go_ret
          exact ⟨bret HRES.out.symm, HB3.out⟩
        | true =>
          obtain ⟨w6, hst, hm6, ht6⟩ := HM3.out.store idKeys und_met y HLK.out (.bool true)
          rw [metF_snoc, ← HTK.out] at hm6
          have HM6 := Lib.hid hm6
          have HB6 := Lib.hid (HB3.out.trans (ht6.below HB3.out.size (fun i hi => by rw [hi]; exact Nat.le_succ _)))
          have HND6 : Hid (d.txs.take (k + 1)).Nodup := by
            show List.Nodup _
            rw [HTK.out, List.nodup_append]
            refine ⟨HND.out, by simp, fun a ha b hb e => hin ?_⟩
            rw [List.mem_singleton] at hb
            rw [← hb, ← e]; exact ha
          clear hin hb hm6 ht6
          go_wp2_with (first
            | ((with_reducible refine wpAt 25 ?_); refine wpList_load_mid rfl 23 _ rfl b (o + k * 32) rfl (idA y).toList _ HRG.out Tryd.underlying23 rfl (infoI _ HYL.out) ?_)
            | ((with_reducible refine wpStoreAt 6 ?_); refine wpList_store_row rfl 23 _ _ rfl wr.heap.size (idA y) rfl rfl 23 (idA zeros) HNW.out (infoI _ HYS.out) (zeros_size.trans HYS.out.symm) (idA_one y) ?_)
            | ((with_reducible refine wpAt 27 ?_); refine wpList_load_row rfl 23 _ rfl wr.heap.size rfl 23 (idA y) (0, 0) _ HBR.out Tryd.underlying23 rfl (infoI _ HYS.out) ?_)
            | ((with_reducible refine wpAt 34 ?_); refine wpList_load_row rfl 23 _ rfl wr.heap.size rfl 23 (idA y) (0, 0) _ HBR.out Tryd.underlying23 rfl (infoI _ HYS.out) ?_))
          go_roundw
          case rel => exact ⟨k + 1, by omega, by go_num, rfl, fun _ => (by first | trivial | exact hf), HND6.out, HM6.out, HB6.out⟩
          case measure => simp [intOf]; omega
    · have hd : decide ((k : Int) < (n : Int)) = false := decide_eq_false (by omega)
      have HRES : Hid (rightB d = f0) := by
        cases hf : f0 with
        | false => exact HRF.out hf
        | true =>
          show _ = _
          rw [HRT.out hf]
          have h1 := HND.out
          rw [List.take_of_length_le (by rw [HC.out]; omega)] at h1
          exact decide_eq_true h1
      go_wp2_with fail
      rw [Exit.noGoto_ret]
      go_ret
      exact ⟨bret HRES.out.symm, HBW.out⟩
end Go.Proofs.YtdaigkcbmdcbcaaDoor.Blk

namespace Go.Proofs.YtdaigkcbmdcbcaaDoor.Rdr
open Go.RowKit Go.Mir Go.Mir.Parts

theorem EType.left {w w' : World} {base rb : Nat} {s s' : RD} (h : EType w) (hr : RAt w base rb s) (hl : LeftR base rb s' w w') (hb : 0 < base) : EType w' :=
  h.below (hl.belowB hr (Nat.le_refl _)) hb
/-! ### the bytes of a number -/
def numB (n : Nat) : Nat → List UInt8
  | 0 => []
  | k + 1 => UInt8.ofNat (n / 256 ^ k) :: numB n k
theorem numB_len (n k : Nat) : (numB n k).length = k := by induction k with
  | zero => rfl
  | succ k ih => simp [numB, ih]
theorem beN_fold (l : List UInt8) : ∀ a, l.foldl (fun a b => 256 * a + b.toNat) a = a * 256 ^ l.length + beN l := by
  induction l with
  | nil => intro a; simp [beN]
  | cons b l ih =>
    intro a
    show List.foldl _ (256 * a + b.toNat) l = _
    have h2 : beN (b :: l) = List.foldl (fun a b => 256 * a + b.toNat) (256 * 0 + b.toNat) l := rfl
    rw [h2, ih, ih, List.length_cons, Nat.pow_succ, Nat.add_mul, Nat.mul_zero, Nat.zero_add, Nat.mul_comm 256 a, Nat.mul_assoc, Nat.mul_comm 256 (256 ^ l.length), Nat.add_assoc]
theorem beN_numB (n k : Nat) : beN (numB n k) = n % 256 ^ k := by
  induction k with
  | zero => simp [numB, beN, Nat.mod_one]
  | succ k ih =>
    show List.foldl _ (256 * 0 + (UInt8.ofNat (n / 256 ^ k)).toNat) (numB n k) = _
    rw [beN_fold, numB_len, ih, Nat.mul_zero, Nat.zero_add, UInt8.toNat_ofNat']
    rw [show (2 : Nat) ^ 8 = 256 from rfl, Nat.pow_succ, Nat.mod_mul, Nat.mul_comm (n / 256 ^ k % 256), Nat.add_comm]
theorem numB_drop (n : Nat) : ∀ k j, j ≤ k → (numB n k).drop j = numB n (k - j) := by
  intro k
  induction k with
  | zero => intro j hj; simp [numB]
  | succ k ih =>
    intro j hj
    cases j with
    | zero => rfl
    | succ j => rw [show k + 1 - (j + 1) = k - j by omega, ← ih j (by omega)]; rfl
theorem numB_at (n k j : Nat) (h : j < k) : (numB n k)[j]? = some (UInt8.ofNat (n / 256 ^ (k - 1 - j))) := by
  have h1 := numB_drop n k j (by omega)
  have h2 : ((numB n k).drop j)[0]? = (numB n k)[j]? := by rw [List.getElem?_drop, Nat.add_zero]
  rw [← h2, h1, show k - j = (k - 1 - j) + 1 by omega]
  rfl
def NumBP (l : List UInt8) (w : World) (e : Ending) (w' : World) : Prop := ∃ p c, e = .returned (.slice p l.length c) ∧ w'.ownsRow w.heap.size 5 1 (.slice p l.length c) l.length (bytesV l) ∧ Below w.heap.size w w'
set_option maxRecDepth 100000 in
theorem number_any (w : World) (n k : Nat) (hn : n < 18446744073709551616) (hk : k ≤ 8) :
    Calls Tryd.prog 60 #[.int .u64 (n : Int), .int .i64 (k : Int)] w (NumBP (numB n k) w) := by
  have HLN := Lib.hid (numB_len n k)
  have hw1 : IntKind.i64.wrap ((k : Int) - 1) = (k : Int) - 1 := IntWalk.i64_in _ (by omega)
  go_enter Tryd.func60, Tryd.ntmps60
  go_wp2_with fail
  go_loopw [5, 6] (fun v i wr => ∃ (j : Nat) (p : Option Addr) (c : Nat), j ≤ k ∧ v = .slice p j c ∧ i = .int .i64 ((k : Int) - 1 - (j : Int)) ∧ wr.ownsRow w.heap.size 5 1 (.slice p j c) j (bytesV ((numB n k).take j)) ∧ Below w.heap.size w wr) (fun v _ _ => match v with | .slice _ j _ => k - j | _ => 0)
  case atStart => exact ⟨0, none, 0, by omega, rfl, by simp, ⟨rfl, .inl ⟨rfl, rfl⟩⟩, Below.refl _ _⟩
  case round =>
    obtain ⟨j, p, c, hj, rfl, rfl, hown, hbw⟩ := hrel
    have HOW := Lib.hid hown
    have HBW := Lib.hid hbw
    clear hown hbw
    by_cases hlt : j < k
    · have hd : decide ((0 : Int) ≤ (k : Int) - 1 - (j : Int)) = true := decide_eq_true (by omega)
      obtain ⟨i, hi⟩ : ∃ i : Nat, (i : Int) = (k : Int) - 1 - (j : Int) := ⟨k - 1 - j, by omega⟩
      rw [← hi] at hd ⊢
      have hi7 : i ≤ 7 := by omega
      have HTK := Lib.hid (numB_at n k j hlt)
      have HYV : Hid (((n : Int) / 2 ^ (8 * (k - 1 - j)) % 256) = ((UInt8.ofNat (n / 256 ^ (k - 1 - j))).toNat : Int)) := by
        show _ = _
        rw [UInt8.toNat_ofNat', show (2 : Nat) ^ 8 = 256 from rfl, show (256 : Nat) = 2 ^ 8 from rfl, ← Nat.pow_mul]
        simp
      have HTS : Hid ((numB n k).take (j + 1) = (numB n k).take j ++ [UInt8.ofNat (n / 256 ^ (k - 1 - j))]) := by
        have := take_snoc (numB n k) j (by rw [HLN.out]; exact hlt)
        rw [List.getElem?_eq_getElem (by rw [HLN.out]; exact hlt)] at HTK
        show _ = _
        rw [this, Option.some.inj HTK.out]
      generalize UInt8.ofNat (n / 256 ^ (k - 1 - j)) = y at *
      have HSL : Hid (Bs (wr.alloc (.cells #[.int .u8 ((n : Int) / 2 ^ (8 * (k - 1 - j)) % 256)] 5)) (some ⟨wr.heap.size, 0, none⟩) 1 1 [y]) := Bs.made wr [y] _ _ (0, 0) 1 (by rw [HYV.out]; rfl) rfl (by omega)
      have HO5 : Hid ((wr.alloc (.cells #[.int .u8 ((n : Int) / 2 ^ (8 * (k - 1 - j)) % 256)] 5)).ownsRow w.heap.size 5 1 (.slice p j c) j (bytesV ((numB n k).take j))) := HOW.out.alloc _
      have HSZ : Hid (w.heap.size ≤ (wr.alloc (.cells #[.int .u8 ((n : Int) / 2 ^ (8 * (k - 1 - j)) % 256)] 5)).heap.size) := by have := HBW.out.size; show _ ≤ _; simp; omega
      go_wp2_with (at_builtin; refine wpList_append_nx rfl _ _ 29 rfl (base := w.heap.size) Tryd.underlying29 info8 rfl (by omega) rfl HO5.out rfl HSL.out (bytesV_one _) (by omega) HSZ.out ?_)
      intro p' c' w5 hown hg hnx hne
      have HO6 := Lib.hid hown
      have hb5 : Below w.heap.size w w5 := (HBW.out.alloc HBW.out.size _).grown hg HSZ.out (fun i hi => (HO5.out.lt i hi).1)
      have HB5 := Lib.hid hb5
      have hwi : IntKind.i64.wrap ((i : Int) - 1) = (i : Int) - 1 := IntWalk.i64_in _ (by omega)
      clear hown hg hnx hne hb5
      go_wp2_with fail
      go_roundw
      case rel => exact ⟨j + 1, p', c', by omega, rfl, by congr 1; omega, by have := HO6.out; rw [HTS.out, bytesV_append]; exact this, HB5.out⟩
      case measure => simp; omega
    · obtain rfl : j = k := by omega
      have hd : decide ((0 : Int) ≤ (j : Int) - 1 - (j : Int)) = false := decide_eq_false (by omega)
      have hfull : (numB n j).take j = numB n j := List.take_of_length_le (by rw [HLN.out]; omega)
      rw [hfull] at HOW
      have HF : Hid (NumBP (numB n j) w (.returned (.slice p j c)) wr) := ⟨p, c, by rw [HLN.out], by rw [HLN.out]; exact HOW.out, HBW.out⟩
      go_wp2_with fail
      go_ret
      exact HF.out

theorem fits_k {k : Nat} (h : 1 ≤ k ∧ k ≤ 8) : fitsW (k : Int) = true := by unfold fitsW; simp; omega
theorem num_new {A B : List UInt8} {k : Nat} (hk : 1 ≤ k ∧ k ≤ 8) (hA : A.length = k) : RD.numV (RD.new (A ++ B)) (k : Int) = beN A ∧ RD.numS (RD.new (A ++ B)) (k : Int) = ⟨A ++ B, k, none⟩ := by
  have hf := fits_k hk
  constructor
  · unfold RD.numV RD.takeB RD.new
    rw [hf, if_pos ⟨rfl, rfl, by omega, by simp; omega⟩]
    rw [show ((k : Int)).toNat = A.length by omega, List.drop_zero, List.take_left]
  · unfold RD.numS RD.takeS RD.new
    rw [hf, if_neg (by simp), if_neg (by rintro (h | h); (· cases h); (· omega)), if_neg (by simp; omega)]
    simp
theorem num_next {A B : List UInt8} {k : Nat} (hk : 1 ≤ k ∧ k ≤ 8) (hA : A.length = k) (hB : B.length = k) : RD.numV ⟨A ++ B, k, none⟩ (k : Int) = beN B ∧ RD.numS ⟨A ++ B, k, none⟩ (k : Int) = ⟨A ++ B, k + k, none⟩ := by
  have hf := fits_k hk
  constructor
  · unfold RD.numV RD.takeB
    rw [hf, if_pos ⟨rfl, rfl, by omega, by simp; omega⟩]
    rw [show ((k : Int)).toNat = B.length by omega]
    dsimp only
    rw [← hA, List.drop_left, List.take_length]
  · unfold RD.numS RD.takeS
    rw [hf, if_neg (by simp), if_neg (by rintro (h | h); (· cases h); (· omega)), if_neg (by simp; omega)]
    simp
end Go.Proofs.YtdaigkcbmdcbcaaDoor.Rdr

namespace Go.Proofs.YtdaigkcbmdcbcaaDoor.Cod
open Go.RowKit Go.Mir Go.Mir.Parts Wr

theorem take_in {l : List UInt8} {pos m : Nat} (h : pos + m ≤ l.length) : Rdr.RD.takeB ⟨l, pos, none⟩ (m : Int) true = (l.drop pos).take m ∧ Rdr.RD.takeS ⟨l, pos, none⟩ (m : Int) true = ⟨l, pos + m, none⟩ := by
  constructor
  · unfold Rdr.RD.takeB
    rw [if_pos ⟨rfl, rfl, by omega, by dsimp only; omega⟩]
    rfl
  · unfold Rdr.RD.takeS
    rw [if_neg (by simp), if_neg (by rintro (h | h); (· cases h); (· omega)), if_neg (by dsimp only; omega)]
    rfl
/-! ### plain: what is written -/
def Inv2 (R : Nat) (E l : List UInt8) (bad : Int) : Prop := l.length ≤ R ∧ ((bad = 0 ∧ l = E) ∨ (bad = 3 ∧ R < E.length))
theorem Inv2.nil (R : Nat) : Inv2 R [] [] 0 := ⟨by simp, .inl ⟨rfl, rfl⟩⟩
theorem Inv2.put {R : Nat} {E l : List UInt8} {bad : Int} (h : Inv2 R E l bad) (ps : List (List UInt8)) : Inv2 R (E ++ ps.flatten) (putS R l bad true ps).1 (putS R l bad true ps).2 := by
  obtain ⟨h1, h2⟩ := h
  unfold putS
  rw [← total_flatten]
  rcases h2 with ⟨rfl, rfl⟩ | ⟨rfl, h2⟩
  · rw [if_pos rfl, if_pos rfl]
    by_cases ht : ps.flatten.length ≤ R - l.length
    · rw [if_pos ht]
      exact ⟨by rw [List.length_append]; omega, .inl ⟨rfl, rfl⟩⟩
    · rw [if_neg ht]
      exact ⟨h1, .inr ⟨rfl, by rw [List.length_append]; omega⟩⟩
  · rw [if_neg (by decide)]
    exact ⟨h1, .inr ⟨rfl, by rw [List.length_append]; omega⟩⟩
theorem Inv2.one {R : Nat} {E l : List UInt8} {bad : Int} (h : Inv2 R E l bad) (b : List UInt8) : Inv2 R (E ++ b) (putS R l bad true [b]).1 (putS R l bad true [b]).2 := by
  have := h.put [b]
  simpa using this
theorem Inv2.num {R : Nat} {E l : List UInt8} {bad : Int} (h : Inv2 R E l bad) (n k : Nat) (h1 : 1 ≤ k) (h8 : k ≤ 8) (hn : n < 2 ^ (8 * k)) : Inv2 R (E ++ be n k) (numS R l bad n (k : Int)).1 (numS R l bad n (k : Int)).2 := by
  unfold numS
  rw [if_pos ⟨by omega, by omega, .inr (by simpa using hn)⟩]
  exact h.one _
theorem flat32 : ∀ (ids : List (List UInt8)), (∀ x ∈ ids, x.length = 32) → ids.flatten.length = 32 * ids.length
  | [], _ => rfl
  | x :: r, h => by
    have h1 := h x (by simp)
    have h2 := flat32 r (fun y hy => h y (by simp [hy]))
    simp only [List.flatten_cons, List.length_append, List.length_cons]; omega
/-! ### plain: what is read -/
theorem take_rest {E x r : List UInt8} {pos : Nat} (hp : pos ≤ E.length) (h : E.drop pos = x ++ r) :
    Rdr.RD.takeB ⟨E, pos, none⟩ (x.length : Int) true = x ∧ Rdr.RD.takeS ⟨E, pos, none⟩ (x.length : Int) true = ⟨E, pos + x.length, none⟩ ∧ E.drop (pos + x.length) = r ∧ pos + x.length ≤ E.length := by
  have hl := congrArg List.length h
  rw [List.length_drop, List.length_append] at hl
  have hle : pos + x.length ≤ E.length := by omega
  obtain ⟨h1, h2⟩ := take_in hle
  refine ⟨by rw [h1, h, List.take_left], h2, by rw [← List.drop_drop, h, List.drop_left], hle⟩
theorem be_numB (n k : Nat) (hk : k ≤ 8) : be n k = Rdr.numB n k := by
  apply List.ext_getElem?
  intro j
  by_cases hj : j < k
  · rw [Rdr.numB_at n k j hj]
    unfold be nb
    rw [List.getElem?_map, List.getElem?_range hj]
    simp only [Option.map_some]
    rw [show 7 - (8 - k + j) = k - 1 - j by omega, Nat.pow_mul]
  · rw [List.getElem?_eq_none (by rw [be_length]; omega), List.getElem?_eq_none (by rw [Rdr.numB_len]; omega)]
theorem num_rest {E r : List UInt8} {pos n k : Nat} (hp : pos ≤ E.length) (h : E.drop pos = be n k ++ r) (h1 : 1 ≤ k) (h8 : k ≤ 8) (hn : n < 256 ^ k) :
    Rdr.RD.numV ⟨E, pos, none⟩ (k : Int) = n ∧ Rdr.RD.numS ⟨E, pos, none⟩ (k : Int) = ⟨E, pos + k, none⟩ ∧ E.drop (pos + k) = r ∧ pos + k ≤ E.length := by
  obtain ⟨a, b, c, d⟩ := take_rest hp h
  rw [be_length] at a b c d
  have hf : Rdr.fitsW (k : Int) = true := by unfold Rdr.fitsW; rw [decide_eq_true (by omega), decide_eq_true (by omega)]; rfl
  refine ⟨?_, ?_, c, d⟩
  · unfold Rdr.RD.numV
    rw [hf, a, be_numB _ _ h8, Rdr.beN_numB, Nat.mod_eq_of_lt hn]
  · unfold Rdr.RD.numS
    rw [hf, b]
theorem cnt_rest {E r : List UInt8} {pos n k m : Nat} (hp : pos ≤ E.length) (h : E.drop pos = be n k ++ r) (h1 : 1 ≤ k) (h8 : k ≤ 8) (hn : n < 256 ^ k) (hm : n ≤ m) :
    Rdr.RD.cntV ⟨E, pos, none⟩ (k : Int) (m : Int) = n ∧ Rdr.RD.cntS ⟨E, pos, none⟩ (k : Int) (m : Int) = ⟨E, pos + k, none⟩ ∧ E.drop (pos + k) = r ∧ pos + k ≤ E.length := by
  obtain ⟨a, b, c, d⟩ := num_rest hp h h1 h8 hn
  have hS : Rdr.RD.cntS ⟨E, pos, none⟩ (k : Int) (m : Int) = ⟨E, pos + k, none⟩ := by
    unfold Rdr.RD.cntS
    rw [a, if_neg (by omega), b]
  refine ⟨?_, hS, c, d⟩
  unfold Rdr.RD.cntV
  rw [hS, if_pos rfl, a]
/-- a row of ids, one behind the other -/
def chunks (L : List UInt8) (k : Nat) : List (List UInt8) := (List.range k).map fun i => (L.drop (32 * i)).take 32
theorem chunks_flat (L : List UInt8) : ∀ k, (chunks L k).flatMap bytesV = bytesV (L.take (32 * k))
  | 0 => rfl
  | k + 1 => by
    have ih := chunks_flat L k
    unfold chunks at ih ⊢
    rw [List.range_succ, List.map_append, List.flatMap_append, ih, Nat.mul_add, List.take_add, bytesV_append]
    simp
theorem is_chunks {w : World} {base : Nat} {p : Option Addr} {k c : Nat} {L : List UInt8} (h : w.ownsRow base 23 32 (.slice p k c) k (bytesV L)) (hl : L.length = 32 * k) : Is w p k c 32 (chunks L k) := by
  obtain ⟨p', c', he, hs⟩ := own_sl h
  cases he
  refine ⟨by rw [chunks_flat, List.take_of_length_le (by omega)]; exact hs, fun x hx => ?_, by simp [chunks]⟩
  simp only [chunks, List.mem_map, List.mem_range] at hx
  obtain ⟨i, hi, rfl⟩ := hx
  rw [List.length_take, List.length_drop]
  omega
theorem chunks_of : ∀ (ids : List (List UInt8)), (∀ x ∈ ids, x.length = 32) → chunks ids.flatten ids.length = ids
  | [], _ => rfl
  | x :: r, h => by
    have hx := h x (by simp)
    have ih := chunks_of r (fun y hy => h y (by simp [hy]))
    unfold chunks at ih ⊢
    rw [List.length_cons, List.range_succ_eq_map, List.map_cons, List.map_map, List.flatten_cons]
    congr 1
    · rw [Nat.mul_zero, List.drop_zero, ← hx, List.take_left]
    · rw [← ih]
      simp only [ih]
      refine Eq.trans (List.map_congr_left fun i _ => ?_) ih
      show ((x ++ r.flatten).drop (32 * (i + 1))).take 32 = _
      rw [show 32 * (i + 1) = x.length + 32 * i by rw [hx]; omega, ← List.drop_drop, List.drop_left]

theorem numB_beN : ∀ (l : List UInt8), Rdr.numB (Rdr.beN l) l.length = l
  | [] => rfl
  | b :: l => by
    have h1 : Rdr.beN (b :: l) = b.toNat * 256 ^ l.length + Rdr.beN l := by
      show List.foldl _ (256 * 0 + b.toNat) l = _
      rw [Rdr.beN_fold]; simp
    have h2 := Rdr.beN_lt_pow l
    have h3 : Rdr.beN (b :: l) / 256 ^ l.length = b.toNat := by
      rw [h1, Nat.add_comm, Nat.mul_comm, Nat.add_mul_div_left _ _ (Nat.pow_pos (by omega)), Nat.div_eq_of_lt h2, Nat.zero_add]
    have h4 : ∀ (k n m : Nat), m < 256 ^ k → Rdr.numB (n * 256 ^ k + m) k = Rdr.numB m k := fun k n m hm => by
      apply List.ext_getElem?
      intro j
      by_cases hj : j < k
      · rw [Rdr.numB_at _ _ _ hj, Rdr.numB_at _ _ _ hj]
        congr 1
        have e : 256 ^ k = 256 ^ (k - 1 - j) * 256 ^ (j + 1) := by rw [← Nat.pow_add]; congr 1; omega
        have e2 : (n * 256 ^ k + m) / 256 ^ (k - 1 - j) = n * 256 ^ (j + 1) + m / 256 ^ (k - 1 - j) := by
          rw [e, show n * (256 ^ (k - 1 - j) * 256 ^ (j + 1)) = 256 ^ (k - 1 - j) * (n * 256 ^ (j + 1)) by rw [Nat.mul_left_comm], Nat.add_comm, Nat.add_mul_div_left _ _ (Nat.pow_pos (by omega)), Nat.add_comm]
        rw [e2]
        apply UInt8.toNat_inj.1
        rw [UInt8.toNat_ofNat', UInt8.toNat_ofNat', Nat.pow_succ, ← Nat.mul_assoc]
        omega
      · rw [List.getElem?_eq_none (by rw [Rdr.numB_len]; omega), List.getElem?_eq_none (by rw [Rdr.numB_len]; omega)]
    show UInt8.ofNat (Rdr.beN (b :: l) / 256 ^ l.length) :: Rdr.numB (Rdr.beN (b :: l)) l.length = b :: l
    rw [h3, h1, h4 _ _ _ h2, numB_beN l]
    simp
theorem be_beN (l : List UInt8) (k : Nat) (hl : l.length = k) (hk : k ≤ 8) : be (Rdr.beN l) k = l := by
  rw [be_numB _ _ hk]
  subst hl
  exact numB_beN l
theorem beN_be (n k : Nat) (hk : k ≤ 8) (hn : n < 256 ^ k) : Rdr.beN (be n k) = n := by
  rw [be_numB _ _ hk, Rdr.beN_numB, Nat.mod_eq_of_lt hn]
/-! ### a writer as it goes on -/
structure WS (w : World) (wb : Nat) (R : Nat) (E : List UInt8) (x : World) : Prop where
  all : ∃ v l bad, WAt x wb v R l bad ∧ Inv2 R E l bad ∧ (∀ i, foot wb v i → w.heap.size ≤ i) ∧ Below w.heap.size w x
theorem WS.low {w x : World} {wb R : Nat} {E : List UInt8} (h : WS w wb R E x) : Below w.heap.size w x := by
  obtain ⟨_, _, _, _, _, _, h4⟩ := h.all
  exact h4
theorem WS.step {w x y : World} {wb R : Nat} {v : Value} {r : List UInt8 × Int} {E' : List UInt8} (h3 : ∀ i, foot wb v i → w.heap.size ≤ i) (h4 : Below w.heap.size w x) (hl : Wr.Left wb v R r x y) (hi : Inv2 R E' r.1 r.2) : WS w wb R E' y := by
  obtain ⟨v', h1, h2, h5⟩ := hl
  refine ⟨v', _, _, h1, hi, fun i hi' => ?_, h4.trans (h2.below h4.size h3)⟩
  rcases hi' with rfl | hi'
  · exact h3 _ (.inl rfl)
  · rcases Nat.lt_or_ge i x.heap.size with h6 | h6
    · exact h3 _ (.inr (h5 i hi' h6))
    · have := h4.size; omega
theorem WS.turn {w x y : World} {wb : Nat} {v : Value} (h3 : ∀ i, foot wb v i → w.heap.size ≤ i) (h4 : Below w.heap.size w x) (ht : Turns (foot wb v) x y) : Below w.heap.size w y := h4.trans (ht.below h4.size h3)
theorem ws_new (w x : World) (hx : Below w.heap.size w x) (R : Nat) (hR : R ≤ 1000000) :
    Calls Tryd.prog 29 #[.int .i64 (R : Int)] x fun e y => e = .returned (.pointer (some ⟨x.heap.size, 0, none⟩)) ∧ WS w x.heap.size R [] y ∧ Below x.heap.size x y := by
  refine (Wr.new_any (R : Int) x (by omega)).mono ?_
  rintro e y ⟨rfl, hw, hb⟩
  rw [Int.toNat_natCast] at hw
  refine ⟨rfl, ⟨_, _, _, hw, Inv2.nil R, fun i hi => ?_, hx.trans (hb.mono hx.size)⟩, hb⟩
  rcases hi with rfl | hi
  · exact hx.size
  · simp [Value.ownBlock] at hi
theorem ws_num {w x : World} {wb R : Nat} {E : List UInt8} (h : WS w wb R E x) (hR : R ≤ 1000000) (n k : Nat) (h1 : 1 ≤ k) (h8 : k ≤ 8) (hn : n < 2 ^ (8 * k)) (hn2 : n < 18446744073709551616) :
    Calls Tryd.prog 31 #[.pointer (some ⟨wb, 0, none⟩), .int .u64 (n : Int), .int .i64 (k : Int)] x fun e y => e = .returned (.tuple #[]) ∧ WS w wb R (E ++ be n k) y := by
  obtain ⟨v, l, bad, ha, hv, h3, h4⟩ := h.all
  refine (Wr.num_any n k wb v R l bad x ha hn2 (by omega) (by omega) (by have := hv.1; omega)).mono ?_
  rintro e y ⟨rfl, hl⟩
  exact ⟨rfl, WS.step h3 h4 hl (hv.num n k h1 h8 hn)⟩
theorem ws_bytes {w x : World} {wb R : Nat} {E : List UInt8} (h : WS w wb R E x) (hR : R ≤ 1000000) (p : Option Addr) (n c : Nat) (b : List UInt8) (hB : Bs w p n c b) (hb : b.length ≤ 70368744177664) :
    Calls Tryd.prog 43 #[.pointer (some ⟨wb, 0, none⟩), .slice p n c] x fun e y => e = .returned (.tuple #[]) ∧ WS w wb R (E ++ b) y := by
  obtain ⟨v, l, bad, ha, hv, h3, h4⟩ := h.all
  refine (Wr.bytes_any p n c b wb v R l bad x ha (fun w' ht => hB.below (WS.turn h3 h4 ht)) hb (by have := hv.1; omega)).mono ?_
  rintro e y ⟨rfl, hl⟩
  exact ⟨rfl, WS.step h3 h4 hl (hv.one b)⟩
theorem ws_id {w x : World} {wb R : Nat} {E : List UInt8} (h : WS w wb R E x) (hR : R ≤ 1000000) (b : List UInt8) (hb : b.length = 32) :
    Calls Tryd.prog 30 #[.pointer (some ⟨wb, 0, none⟩), .agg (idA b)] x fun e y => e = .returned (.tuple #[]) ∧ WS w wb R (E ++ b) y := by
  obtain ⟨v, l, bad, ha, hv, h3, h4⟩ := h.all
  refine (Wr.id_any (idA b) b (idA_toList b) hb wb v R l bad x ha (by have := hv.1; omega)).mono ?_
  rintro e y ⟨rfl, hl⟩
  exact ⟨rfl, WS.step h3 h4 hl (hv.one b)⟩
theorem ws_hint {w x : World} {wb R : Nat} {E : List UInt8} (h : WS w wb R E x) (hR : R ≤ 1000000) (b : List UInt8) (hb : b.length = 16) :
    Calls Tryd.prog 42 #[.pointer (some ⟨wb, 0, none⟩), .agg (idA b)] x fun e y => e = .returned (.tuple #[]) ∧ WS w wb R (E ++ b) y := by
  obtain ⟨v, l, bad, ha, hv, h3, h4⟩ := h.all
  refine (Wr.hint_any (idA b) b (idA_toList b) hb wb v R l bad x ha (by have := hv.1; omega)).mono ?_
  rintro e y ⟨rfl, hl⟩
  exact ⟨rfl, WS.step h3 h4 hl (hv.one b)⟩
theorem ws_ids {w x : World} {wb R : Nat} {E : List UInt8} (h : WS w wb R E x) (hR : R ≤ 1000000) (p : Option Addr) (n c : Nat) (ids : List (List UInt8)) (hI : Is w p n c 32 ids) (hn : n ≤ 1099511627776) :
    Calls Tryd.prog 32 #[.pointer (some ⟨wb, 0, none⟩), .slice p n c] x fun e y => e = .returned (.tuple #[]) ∧ WS w wb R (E ++ ids.flatten) y := by
  obtain ⟨v, l, bad, ha, hv, h3, h4⟩ := h.all
  refine (Wr.ids_any p n c ids wb v R l bad x ha (fun w' ht => hI.below (WS.turn h3 h4 ht)) hn (by have := hv.1; omega)).mono ?_
  rintro e y ⟨rfl, hl⟩
  exact ⟨rfl, WS.step h3 h4 hl (hv.put ids)⟩
/-- where all fits -/
theorem ws_done {w x : World} {wb R : Nat} {E : List UInt8} (h : WS w wb R E x) (hR : R ≤ 1000000) (hE : E.length ≤ R) :
    Calls Tryd.prog 33 #[.pointer (some ⟨wb, 0, none⟩)] x fun e y => (∃ p c, e = .returned (.tuple #[.slice p E.length c, .int .i64 0]) ∧ y.ownsRow x.heap.size 5 1 (.slice p E.length c) E.length (bytesV E)) ∧ WS w wb R E y ∧ Below x.heap.size x y := by
  obtain ⟨v, l, bad, ha, hv, h3, h4⟩ := h.all
  refine (Wr.done_any wb v R l bad x ha (by have := hv.1; omega)).mono ?_
  rintro e y ⟨⟨p, n, c, rfl, ho⟩, hb⟩
  rcases hv.2 with ⟨rfl, rfl⟩ | ⟨_, h'⟩
  · rw [if_pos rfl] at ho
    obtain ⟨p', c', he, hs⟩ := own_sl ho
    cases he
    have hn := Bs.length (show Bs y p n c l from hs)
    subst hn
    exact ⟨⟨p, c, rfl, ho⟩, ⟨v, l, 0, ha.touch (Turns.of_below (S := fun _ => False) hb) (fun _ _ h => h), hv, h3, h4.trans (hb.mono h4.size)⟩, hb⟩
  · omega
/-! ### a reader as it goes on -/
theorem rd_num {base rb : Nat} {E r : List UInt8} {pos n k : Nat} (w : World) (h : Rdr.RAt w base rb ⟨E, pos, none⟩) (hd : E.drop pos = be n k ++ r) (h1 : 1 ≤ k) (h8 : k ≤ 8) (hn : n < 256 ^ k) :
    Calls Tryd.prog 47 #[.pointer (some ⟨rb, 0, none⟩), .int .i64 (k : Int)] w fun e w' => e = .returned (.int .u64 (n : Int)) ∧ Rdr.LeftR base rb ⟨E, pos + k, none⟩ w w' := by
  obtain ⟨a, b, _, _⟩ := num_rest (by obtain ⟨v, bv, h'⟩ := h; exact h'.at1) hd h1 h8 hn
  refine (Rdr.num_any w h (k : Int) (by omega)).mono ?_
  rintro e w' ⟨rfl, hl⟩
  rw [b] at hl
  exact ⟨by rw [a], hl⟩
theorem rd_cnt {base rb : Nat} {E r : List UInt8} {pos n k m : Nat} (w : World) (h : Rdr.RAt w base rb ⟨E, pos, none⟩) (hd : E.drop pos = be n k ++ r) (h1 : 1 ≤ k) (h8 : k ≤ 8) (hn : n < 256 ^ k) (hm : n ≤ m) (hm2 : m ≤ 1000000) :
    Calls Tryd.prog 38 #[.pointer (some ⟨rb, 0, none⟩), .int .i64 (k : Int), .int .i64 (m : Int)] w fun e w' => e = .returned (.int .i64 (n : Int)) ∧ Rdr.LeftR base rb ⟨E, pos + k, none⟩ w w' := by
  obtain ⟨a, b, _, _⟩ := cnt_rest (by obtain ⟨v, bv, h'⟩ := h; exact h'.at1) hd h1 h8 hn hm
  refine (Rdr.count_any w h (k : Int) (by omega) (m : Int) (by omega)).mono ?_
  rintro e w' ⟨rfl, hl⟩
  rw [b] at hl
  exact ⟨by rw [a], hl⟩
theorem rd_id {base rb : Nat} {E x r : List UInt8} {pos : Nat} (w : World) (h : Rdr.RAt w base rb ⟨E, pos, none⟩) (hd : E.drop pos = x ++ r) (hx : x.length = 32) :
    Calls Tryd.prog 36 #[.pointer (some ⟨rb, 0, none⟩)] w fun e w' => e = .returned (.agg (idA x)) ∧ Rdr.LeftR base rb ⟨E, pos + 32, none⟩ w w' := by
  obtain ⟨a, b, _, _⟩ := take_rest (by obtain ⟨v, bv, h'⟩ := h; exact h'.at1) hd
  rw [hx] at a b
  refine (Rdr.id_any w h).mono ?_
  rintro e w' ⟨rfl, hl⟩
  rw [b] at hl
  refine ⟨?_, hl⟩
  unfold Rdr.RD.idV
  rw [a, hx]
  simp
theorem rd_bytes {base rb : Nat} {E x r : List UInt8} {pos : Nat} (w : World) (h : Rdr.RAt w base rb ⟨E, pos, none⟩) (hd : E.drop pos = x ++ r) (hx : x.length ≤ 1000000) :
    Calls Tryd.prog 62 #[.pointer (some ⟨rb, 0, none⟩), .int .i64 (x.length : Int)] w fun e w' => ∃ p c, e = .returned (.slice p x.length c) ∧ w'.ownsRow w.heap.size 5 1 (.slice p x.length c) x.length (bytesV x) ∧ Rdr.LeftR base rb ⟨E, pos + x.length, none⟩ w w' := by
  obtain ⟨a, b, _, _⟩ := take_rest (by obtain ⟨v, bv, h'⟩ := h; exact h'.at1) hd
  refine (Rdr.bytes_any w h (x.length : Int) (by omega)).mono ?_
  rintro e w' ⟨p, c, he, ho, hl⟩
  rw [a] at he ho
  rw [b] at hl
  exact ⟨p, c, he, ho, hl⟩
theorem rd_ids {base rb : Nat} {E r : List UInt8} {ids : List (List UInt8)} {pos : Nat} (w : World) (h : Rdr.RAt w base rb ⟨E, pos, none⟩) (hd : E.drop pos = ids.flatten ++ r) (hI : ∀ x ∈ ids, x.length = 32) (hx : ids.length ≤ 1000000) :
    Calls Tryd.prog 37 #[.pointer (some ⟨rb, 0, none⟩), .int .i64 (ids.length : Int)] w fun e w' => ∃ p c, e = .returned (.slice p ids.length c) ∧ Is w' p ids.length c 32 ids ∧ Rdr.LeftR base rb ⟨E, pos + ids.flatten.length, none⟩ w w' := by
  obtain ⟨a, b, _, _⟩ := take_rest (by obtain ⟨v, bv, h'⟩ := h; exact h'.at1) hd
  have hf := flat32 ids hI
  have hc : (ids.flatten.length : Int) = 32 * (ids.length : Int) := by rw [hf]; omega
  rw [hc] at a b
  refine (Rdr.ids_any w h (ids.length : Int) (by omega)).mono ?_
  rintro e w' ⟨p, k, c, hk, he, ho, hl⟩
  rw [a] at hk ho
  rw [b] at hl
  obtain rfl : k = ids.length := by omega
  refine ⟨p, c, he, ?_, hl⟩
  have := is_chunks ho hk
  rw [chunks_of ids hI] at this
  exact this
end Go.Proofs.YtdaigkcbmdcbcaaDoor.Cod

namespace Go.Proofs.YtdaigkcbmdcbcaaDoor.Cod
open Go.Mir Wr Rdr

theorem num_fit {l : List UInt8} {pos k : Nat} (h1 : 1 ≤ k) (h8 : k ≤ 8) (h : pos + k ≤ l.length) : RD.numV ⟨l, pos, none⟩ (k : Int) = beN ((l.drop pos).take k) ∧ RD.numS ⟨l, pos, none⟩ (k : Int) = ⟨l, pos + k, none⟩ := by
  obtain ⟨a, b⟩ := take_in h
  have hf : fitsW (k : Int) = true := by unfold fitsW; rw [decide_eq_true (by omega), decide_eq_true (by omega)]; rfl
  unfold RD.numV RD.numS
  rw [hf, a, b]
  exact ⟨rfl, rfl⟩
theorem take_short {l : List UInt8} {pos k : Nat} (h : l.length < pos + k) : RD.takeB ⟨l, pos, none⟩ (k : Int) true = [] ∧ RD.takeS ⟨l, pos, none⟩ (k : Int) true = ⟨l, pos, some 2⟩ := by
  constructor
  · unfold RD.takeB
    rw [if_neg]
    rintro ⟨_, _, _, h'⟩
    dsimp only at h'
    omega
  · unfold RD.takeS
    rw [if_neg (by simp), if_neg (by rintro (h' | h'); (· cases h'); (· omega)), if_pos (by dsimp only; omega)]
theorem take_bad {l : List UInt8} {pos : Nat} {e : Int} (n : Int) (f : Bool) : RD.takeB ⟨l, pos, some e⟩ n f = [] ∧ RD.takeS ⟨l, pos, some e⟩ n f = ⟨l, pos, some e⟩ := by
  constructor
  · unfold RD.takeB; rw [if_neg (by simp)]
  · unfold RD.takeS; rw [if_pos (by simp)]
theorem num_short {l : List UInt8} {pos k : Nat} (h1 : 1 ≤ k) (h8 : k ≤ 8) (h : l.length < pos + k) : RD.numV ⟨l, pos, none⟩ (k : Int) = 0 ∧ RD.numS ⟨l, pos, none⟩ (k : Int) = ⟨l, pos, some 2⟩ := by
  obtain ⟨a, b⟩ := take_short h
  have hf : fitsW (k : Int) = true := by unfold fitsW; rw [decide_eq_true (by omega), decide_eq_true (by omega)]; rfl
  unfold RD.numV RD.numS
  rw [hf, a, b]
  exact ⟨rfl, rfl⟩
theorem num_bad {l : List UInt8} {pos : Nat} {e : Int} (k : Int) : RD.numV ⟨l, pos, some e⟩ k = 0 ∧ RD.numS ⟨l, pos, some e⟩ k = ⟨l, pos, some e⟩ := by
  unfold RD.numV RD.numS
  rw [(take_bad k _).1, (take_bad k _).2]
  exact ⟨rfl, rfl⟩
theorem cnt_bad {l : List UInt8} {pos : Nat} {e : Int} (k m : Int) (hm : 0 ≤ m) : RD.cntV ⟨l, pos, some e⟩ k m = 0 ∧ RD.cntS ⟨l, pos, some e⟩ k m = ⟨l, pos, some e⟩ := by
  have hS : RD.cntS ⟨l, pos, some e⟩ k m = ⟨l, pos, some e⟩ := by
    unfold RD.cntS
    rw [(num_bad k).1, (num_bad k).2, if_neg (by omega)]
  refine ⟨?_, hS⟩
  unfold RD.cntV
  rw [hS, if_neg (by simp)]
theorem cnt_short {l : List UInt8} {pos k : Nat} (m : Int) (hm : 0 ≤ m) (h1 : 1 ≤ k) (h8 : k ≤ 8) (h : l.length < pos + k) : RD.cntV ⟨l, pos, none⟩ (k : Int) m = 0 ∧ RD.cntS ⟨l, pos, none⟩ (k : Int) m = ⟨l, pos, some 2⟩ := by
  obtain ⟨a, b⟩ := num_short h1 h8 h
  have hS : RD.cntS ⟨l, pos, none⟩ (k : Int) m = ⟨l, pos, some 2⟩ := by
    unfold RD.cntS
    rw [a, b, if_neg (by omega)]
  refine ⟨?_, hS⟩
  unfold RD.cntV
  rw [hS, if_neg (by simp)]
theorem cnt_over {l : List UInt8} {pos k m : Nat} (h1 : 1 ≤ k) (h8 : k ≤ 8) (h : pos + k ≤ l.length) (hm : m < beN ((l.drop pos).take k)) : RD.cntV ⟨l, pos, none⟩ (k : Int) (m : Int) = 0 ∧ RD.cntS ⟨l, pos, none⟩ (k : Int) (m : Int) = ⟨l, pos + k, some 4⟩ := by
  obtain ⟨a, b⟩ := num_fit h1 h8 h
  have hS : RD.cntS ⟨l, pos, none⟩ (k : Int) (m : Int) = ⟨l, pos + k, some 4⟩ := by
    unfold RD.cntS
    rw [a, b, if_pos (by omega)]
    unfold RD.fail
    rw [if_pos ⟨rfl, by decide⟩]
  refine ⟨?_, hS⟩
  unfold RD.cntV
  rw [hS, if_neg (by simp)]
theorem cnt_fit {l : List UInt8} {pos k m : Nat} (h1 : 1 ≤ k) (h8 : k ≤ 8) (h : pos + k ≤ l.length) (hm : beN ((l.drop pos).take k) ≤ m) : RD.cntV ⟨l, pos, none⟩ (k : Int) (m : Int) = beN ((l.drop pos).take k) ∧ RD.cntS ⟨l, pos, none⟩ (k : Int) (m : Int) = ⟨l, pos + k, none⟩ := by
  obtain ⟨a, b⟩ := num_fit h1 h8 h
  have hS : RD.cntS ⟨l, pos, none⟩ (k : Int) (m : Int) = ⟨l, pos + k, none⟩ := by
    unfold RD.cntS
    rw [a, b, if_neg (by omega)]
  refine ⟨?_, hS⟩
  unfold RD.cntV
  rw [hS, if_pos rfl, a]
theorem done_bad {l : List UInt8} {pos : Nat} {e : Int} (he : e ≠ 0) : RD.done ⟨l, pos, some e⟩ = e := by
  unfold RD.done
  rw [if_pos (by show (e : Int) ≠ 0; exact he)]
  rfl
theorem done_all {l : List UInt8} {pos : Nat} (h : l.length ≤ pos) : RD.done ⟨l, pos, none⟩ = 0 := by
  unfold RD.done
  rw [if_neg (by show ¬ (0 : Int) ≠ 0; simp), if_pos (by dsimp only; omega)]
theorem done_left {l : List UInt8} {pos : Nat} (h : pos < l.length) : RD.done ⟨l, pos, none⟩ = 3 := by
  unfold RD.done
  rw [if_neg (by show ¬ (0 : Int) ≠ 0; simp), if_neg (by dsimp only; omega)]
theorem id_fit {l : List UInt8} {pos : Nat} (n : Nat) (h : pos + n ≤ l.length) : RD.idV ⟨l, pos, none⟩ n = (l.drop pos).take n ∧ RD.takeS ⟨l, pos, none⟩ (n : Int) true = ⟨l, pos + n, none⟩ := by
  obtain ⟨a, b⟩ := take_in h
  refine ⟨?_, b⟩
  unfold RD.idV
  rw [a]
  have : ((l.drop pos).take n).length = n := by rw [List.length_take, List.length_drop]; omega
  rw [this]
  simp
theorem idV_len (s : RD) (n : Nat) : (s.idV n).length = n := by
  unfold RD.idV
  have h := takeB_len s (n : Int) true
  rw [if_pos (by omega)] at h
  rw [List.length_append, List.length_replicate]
  omega
theorem numV_pow (s : RD) (k : Nat) (hk : k ≤ 8) : s.numV (k : Int) < 256 ^ k := by
  unfold RD.numV
  have h1 := beN_lt_pow (s.takeB (k : Int) (fitsW (k : Int)))
  have h2 := takeB_len s (k : Int) (fitsW (k : Int))
  rw [if_pos (by omega)] at h2
  have h3 : 256 ^ (s.takeB (k : Int) (fitsW (k : Int))).length ≤ 256 ^ k := Nat.pow_le_pow_right (by omega) (by omega)
  omega
theorem drop_mid {a b c : List UInt8} (k : Nat) (h : a.length = k) : ((a ++ (b ++ c)).drop k).take b.length = b := by
  rw [← h, List.drop_left, List.take_left]
theorem mid_take (b : List UInt8) (n i j : Nat) (h : i + j ≤ n) : ((b.take n).drop i).take j = (b.drop i).take j := by
  rw [List.drop_take, List.take_take]
  congr 1
  omega
theorem mid_app (b c : List UInt8) (i j : Nat) (h : i + j ≤ b.length) : ((b ++ c).drop i).take j = (b.drop i).take j := by
  rw [List.drop_append_of_le_length (by omega), List.take_append_of_le_length (by rw [List.length_drop]; omega)]
theorem cut2 (l : List UInt8) (i k : Nat) : (l.drop i).take k ++ l.drop (i + k) = l.drop i := by
  rw [← List.drop_drop, List.take_append_drop]
theorem be_one (n : Nat) : be n 1 = [UInt8.ofNat n] := by
  rw [be_numB _ _ (by omega)]
  simp [Rdr.numB]
theorem beN_one (x : UInt8) : beN [x] = x.toNat := by simp [beN]
theorem beN_take {l : List UInt8} {i k : Nat} (h : i + k ≤ l.length) : Rdr.beN ((l.drop i).take k) < 256 ^ k := by
  have := Rdr.beN_lt_pow ((l.drop i).take k)
  rwa [List.length_take, List.length_drop, Nat.min_eq_left (by omega)] at this
theorem be_take {l : List UInt8} {i k : Nat} (h : i + k ≤ l.length) (hk : k ≤ 8) : be (Rdr.beN ((l.drop i).take k)) k = (l.drop i).take k := be_beN _ _ (by rw [List.length_take, List.length_drop]; omega) hk
end Go.Proofs.YtdaigkcbmdcbcaaDoor.Cod

namespace Go.Proofs.YtdaigkcbmdcbcaaDoor.Blk
open Go.Mir Go.Mir.Parts Wr Cod Rdr

def _root_.Go.Mir.BlkD.zero : BlkD := ⟨zeros, zeros, []⟩
structure _root_.Go.Mir.BlkD.wf (d : BlkD) : Prop where
  hlen : d.hash.length = 32
  plen : d.par.length = 32
  each : ∀ x ∈ d.txs, x.length = 32
theorem zero_wf : BlkD.zero.wf := ⟨rfl, rfl, fun x hx => (nomatch hx)⟩
def _root_.Go.Mir.BlkD.enc (d : BlkD) : List UInt8 × Int := if rightB d = true then (encL d, 0) else ([], 1)
theorem right_le {d : BlkD} (h : rightB d = true) : d.txs.length ≤ 32 := by
  unfold rightB at h
  simp only [Bool.and_eq_true, decide_eq_true_eq] at h
  exact h.1.1
theorem encL_len {d : BlkD} (hw : d.wf) : (encL d).length = 65 + 32 * d.txs.length := by
  unfold encL
  simp only [List.length_append, hw.hlen, hw.plen, List.length_cons, List.length_nil, flat_len _ hw.each]
/-- the count, and what is read where all is right -/
def cn (b : List UInt8) : Nat := beN ((b.drop 64).take 1)
def getB (b : List UInt8) : BlkD := ⟨b.take 32, (b.drop 32).take 32, chunks (b.drop 65) (cn b)⟩
def decB (b : List UInt8) : BlkD × Int :=
  if b.length < 65 then (.zero, 2) else if 32 < cn b then (.zero, 4) else if b.length < 65 + 32 * cn b then (.zero, 2) else if 65 + 32 * cn b < b.length then (.zero, 3)
  else if rightB (getB b) = true then (getB b, 0) else (.zero, 4)
theorem chunks_len (L : List UInt8) (k : Nat) : (chunks L k).length = k := by unfold chunks; simp
theorem chunks_each (L : List UInt8) (k : Nat) (h : 32 * k ≤ L.length) : ∀ x ∈ chunks L k, x.length = 32 := fun x hx => by
  simp only [chunks, List.mem_map, List.mem_range] at hx
  obtain ⟨i, hi, rfl⟩ := hx
  rw [List.length_take, List.length_drop]
  omega
theorem chunks_all (L : List UInt8) : ∀ k, 32 * k ≤ L.length → (chunks L k).flatten = L.take (32 * k)
  | 0, _ => by simp [chunks]
  | k + 1, h => by
    have ih := chunks_all L k (by omega)
    unfold chunks at ih ⊢
    rw [List.range_succ, List.map_append, List.flatten_append, ih, Nat.mul_add, List.take_add]
    simp
theorem getB_wf {b : List UInt8} (h : 65 + 32 * cn b ≤ b.length) : (getB b).wf :=
  ⟨by show (b.take 32).length = 32; rw [List.length_take]; omega, by show ((b.drop 32).take 32).length = 32; rw [List.length_take, List.length_drop]; omega, chunks_each _ _ (by rw [List.length_drop]; omega)⟩
theorem cn_encL {d : BlkD} (hw : d.wf) (h : d.txs.length ≤ 32) (r : List UInt8) : cn (encL d ++ r) = d.txs.length := by
  unfold cn encL
  have h1 : d.hash ++ d.par ++ [UInt8.ofNat d.txs.length] ++ d.txs.flatten ++ r = (d.hash ++ d.par) ++ ([UInt8.ofNat d.txs.length] ++ (d.txs.flatten ++ r)) := by simp
  have h2 := drop_mid (a := d.hash ++ d.par) (b := [UInt8.ofNat d.txs.length]) (c := d.txs.flatten ++ r) 64 (by rw [List.length_append, hw.hlen, hw.plen])
  rw [h1, show (1 : Nat) = [UInt8.ofNat d.txs.length].length from rfl, h2, beN_one, UInt8.toNat_ofNat']
  exact Nat.mod_eq_of_lt (by omega)
theorem getB_encL {d : BlkD} (hw : d.wf) (h : d.txs.length ≤ 32) : getB (encL d) = d := by
  have hc := cn_encL hw h []
  rw [List.append_nil] at hc
  obtain ⟨hash, par, txs⟩ := d
  have h1 : hash.length = 32 := hw.hlen
  have h2 : par.length = 32 := hw.plen
  have e1 : (encL ⟨hash, par, txs⟩).take 32 = hash := by
    unfold encL
    rw [← h1, List.append_assoc, List.append_assoc, List.take_left]
  have e2 : ((encL ⟨hash, par, txs⟩).drop 32).take 32 = par := by
    unfold encL
    have := drop_mid (a := hash) (b := par) (c := [UInt8.ofNat txs.length] ++ txs.flatten) 32 h1
    rw [h2] at this
    simpa using this
  have e3 : (encL ⟨hash, par, txs⟩).drop 65 = txs.flatten := by
    unfold encL
    have h9 : (hash ++ par ++ [UInt8.ofNat txs.length]).length = 65 := by simp [h1, h2]
    show ((hash ++ par ++ [UInt8.ofNat txs.length]) ++ txs.flatten).drop 65 = txs.flatten
    rw [← h9, List.drop_left]
  unfold getB
  rw [e1, e2, e3, hc]
  show (⟨hash, par, chunks txs.flatten txs.length⟩ : BlkD) = _
  rw [chunks_of txs hw.each]
theorem dec_enc {d : BlkD} (hw : d.wf) (h : rightB d = true) : decB (encL d) = (d, 0) := by
  have hl := encL_len hw
  have hn := right_le h
  have hc := cn_encL hw hn []
  rw [List.append_nil] at hc
  unfold decB
  rw [hc, getB_encL hw hn, hl, if_neg (by omega), if_neg (by omega), if_neg (by omega), if_neg (by omega), if_pos h]
theorem dec_less {d : BlkD} (hw : d.wf) (h : rightB d = true) : (decB ((encL d).take ((encL d).length - 1))).2 = 2 := by
  have hl := encL_len hw
  have hn := right_le h
  have hc := cn_encL hw hn []
  rw [List.append_nil] at hc
  have hl2 : ((encL d).take ((encL d).length - 1)).length = 64 + 32 * d.txs.length := by rw [List.length_take]; omega
  unfold decB
  rw [hl2]
  by_cases h0 : d.txs.length = 0
  · rw [if_pos (by omega)]
  · have hc2 : cn ((encL d).take ((encL d).length - 1)) = d.txs.length := by
      unfold cn at hc ⊢
      rw [mid_take _ _ _ _ (by omega), hc]
    rw [hc2, if_neg (by omega), if_neg (by omega), if_pos (by omega)]
theorem dec_more {d : BlkD} (hw : d.wf) (h : rightB d = true) (x : UInt8) : (decB (encL d ++ [x])).2 = 3 := by
  have hl := encL_len hw
  have hn := right_le h
  unfold decB
  rw [cn_encL hw hn, List.length_append, hl]
  simp only [List.length_cons, List.length_nil]
  rw [if_neg (by omega), if_neg (by omega), if_neg (by omega), if_pos (by omega)]
theorem dec_zero {b : List UInt8} (h : (decB b).2 ≠ 0) : (decB b).1 = .zero := by
  unfold decB at h ⊢
  split
  · rfl
  split
  · rfl
  split
  · rfl
  split
  · rfl
  split
  · rename_i a1 a2 a3 a4 a5
    rw [if_neg a1, if_neg a2, if_neg a3, if_neg a4, if_pos a5] at h
    exact absurd rfl h
  · rfl
theorem dec_back {b : List UInt8} (h : (decB b).2 = 0) : rightB (decB b).1 = true ∧ encL (decB b).1 = b := by
  unfold decB at h ⊢
  split at h
  · cases h
  split at h
  · cases h
  split at h
  · cases h
  split at h
  · cases h
  split at h
  · rename_i a1 a2 a3 a4 a5
    rw [if_neg a1, if_neg a2, if_neg a3, if_neg a4, if_pos a5]
    refine ⟨a5, ?_⟩
    have hcl : (getB b).txs.length = cn b := chunks_len _ _
    have hcb : cn b < 256 := by
      have := beN_take (l := b) (i := 64) (k := 1) (by omega)
      simpa [cn] using this
    have h1 : [UInt8.ofNat (cn b)] = (b.drop 64).take 1 := by
      rw [← be_one]
      exact be_take (by omega) (by omega)
    unfold encL
    rw [hcl, h1]
    show b.take 32 ++ (b.drop 32).take 32 ++ (b.drop 64).take 1 ++ (chunks (b.drop 65) (cn b)).flatten = b
    rw [chunks_all (b.drop 65) (cn b) (by rw [List.length_drop]; omega), List.take_of_length_le (l := b.drop 65) (by rw [List.length_drop]; omega)]
    rw [List.append_assoc, List.append_assoc, cut2 b 64 1, cut2 b 32 32, List.take_append_drop]
  · cases h
theorem dec_wf (b : List UInt8) : (decB b).1.wf := by
  unfold decB
  split
  · exact zero_wf
  split
  · exact zero_wf
  split
  · exact zero_wf
  split
  · exact zero_wf
  split
  · exact getB_wf (by omega)
  · exact zero_wf
/-! ### the program's chain -/
def s1P (l : List UInt8) : RD := (RD.new l).takeS 32 true
def s2P (l : List UInt8) : RD := (s1P l).takeS 32 true
def nP (l : List UInt8) : Int := (s2P l).cntV 1 32
def s3P (l : List UInt8) : RD := (s2P l).cntS 1 32
def idsP (l : List UInt8) : List UInt8 := (s3P l).takeB (32 * nP l) true
def s4P (l : List UInt8) : RD := (s3P l).takeS (32 * nP l) true
def blkP (l : List UInt8) : BlkD := ⟨(RD.new l).idV 32, (s1P l).idV 32, chunks (idsP l) ((idsP l).length / 32)⟩
def dQ (l : List UInt8) : BlkD × Int := if (s4P l).done ≠ 0 then (.zero, (s4P l).done) else if rightB (blkP l) = true then (blkP l, 0) else (.zero, 4)
theorem dQ_bad {l : List UInt8} {e : Int} (he : e ≠ 0) (h : (s4P l).done = e) : dQ l = (.zero, e) := by
  unfold dQ; rw [h, if_pos he]
theorem s4_bad {l : List UInt8} {pos : Nat} {e : Int} (h : s3P l = ⟨l, pos, some e⟩) (he : e ≠ 0) : (s4P l).done = e := by
  unfold s4P
  rw [h, (take_bad _ true).2]
  exact done_bad he
theorem dQ_dec (l : List UInt8) : dQ l = decB l := by
  have c32 : (32 : Int) = ((32 : Nat) : Int) := rfl
  have c1 : (1 : Int) = ((1 : Nat) : Int) := rfl
  unfold decB
  by_cases h65 : l.length < 65
  · rw [if_pos h65]
    refine dQ_bad (by decide) ?_
    suffices h : ∃ pos, s3P l = ⟨l, pos, some 2⟩ by
      obtain ⟨pos, h⟩ := h
      exact s4_bad h (by decide)
    unfold s3P s2P s1P RD.new
    by_cases h32 : l.length < 32
    · obtain ⟨_, b⟩ := take_short (l := l) (pos := 0) (k := 32) (by omega)
      rw [← c32] at b
      rw [b, (take_bad 32 true).2, (cnt_bad 1 32 (by omega)).2]
      exact ⟨_, rfl⟩
    obtain ⟨_, b1⟩ := take_in (l := l) (pos := 0) (m := 32) (by omega)
    rw [← c32] at b1
    rw [b1]
    by_cases h64 : l.length < 64
    · obtain ⟨_, b⟩ := take_short (l := l) (pos := 0 + 32) (k := 32) (by omega)
      rw [← c32] at b
      rw [b, (cnt_bad 1 32 (by omega)).2]
      exact ⟨_, rfl⟩
    obtain ⟨_, b2⟩ := take_in (l := l) (pos := 0 + 32) (m := 32) (by omega)
    rw [← c32] at b2
    rw [b2]
    obtain ⟨_, b⟩ := cnt_short (l := l) (pos := 0 + 32 + 32) (k := 1) 32 (by omega) (by omega) (by omega) (by omega)
    rw [← c1] at b
    rw [b]
    exact ⟨_, rfl⟩
  rw [if_neg h65]
  obtain ⟨a1, b1⟩ := id_fit (l := l) (pos := 0) 32 (by omega)
  obtain ⟨a2, b2⟩ := id_fit (l := l) (pos := 32) 32 (by omega)
  have e1 : s1P l = ⟨l, 32, none⟩ := by unfold s1P RD.new; rw [c32, b1]
  have e2 : s2P l = ⟨l, 64, none⟩ := by unfold s2P; rw [e1, c32, b2]
  by_cases hov : 32 < cn l
  · rw [if_pos hov]
    refine dQ_bad (by decide) (s4_bad (pos := 64 + 1) ?_ (by decide))
    unfold s3P
    rw [e2]
    exact (cnt_over (l := l) (pos := 64) (k := 1) (m := 32) (by omega) (by omega) (by omega) hov).2
  rw [if_neg hov]
  obtain ⟨a3, b3⟩ := cnt_fit (l := l) (pos := 64) (k := 1) (m := 32) (by omega) (by omega) (by omega) (show beN ((l.drop 64).take 1) ≤ 32 by unfold cn at hov; omega)
  have e3 : s3P l = ⟨l, 65, none⟩ := by unfold s3P; rw [e2]; exact b3
  have en : nP l = (cn l : Int) := by unfold nP; rw [e2]; exact a3
  have e32 : 32 * (cn l : Int) = ((32 * cn l : Nat) : Int) := by omega
  by_cases hs : l.length < 65 + 32 * cn l
  · rw [if_pos hs]
    refine dQ_bad (by decide) ?_
    unfold s4P
    rw [e3, en, e32, (take_short hs).2]
    exact done_bad (by decide)
  rw [if_neg hs]
  obtain ⟨a4, b4⟩ := take_in (l := l) (pos := 65) (m := 32 * cn l) (by omega)
  have e4 : s4P l = ⟨l, 65 + 32 * cn l, none⟩ := by unfold s4P; rw [e3, en, e32, b4]
  by_cases hg : 65 + 32 * cn l < l.length
  · rw [if_pos hg]
    refine dQ_bad (by decide) ?_
    rw [e4]
    exact done_left hg
  rw [if_neg hg]
  have hd : (s4P l).done = 0 := by rw [e4]; exact done_all (by omega)
  have eb : blkP l = getB l := by
    unfold blkP getB
    have ei : idsP l = l.drop 65 := by
      unfold idsP
      rw [e3, en, e32, a4]
      exact List.take_of_length_le (by rw [List.length_drop]; omega)
    rw [ei, e1, a2, List.length_drop, show (l.length - 65) / 32 = cn l by omega]
    congr 1
  unfold dQ
  rw [hd, if_neg (by simp), eb]
end Go.Proofs.YtdaigkcbmdcbcaaDoor.Blk

namespace Go.Proofs.YtdaigkcbmdcbcaaDoor.Blk
open Go.RowKit Go.Mir Go.Mir.Parts

theorem blkA_set (h p : List UInt8) (hh : h.length = 32) (hp : p.length = 32) (q q' : Option Addr) (n n' c c' : Nat) : (blkA h p q n c).setIfInBounds 64 (.slice q' n' c') = blkA h p q' n' c' := by
  apply Array.toList_inj.1
  rw [Array.toList_setIfInBounds, blkA_toList, blkA_toList, List.set_append_right _ _ (by simp [bytesV_length, hh, hp])]
  simp [bytesV_length, hh, hp]
/-- what is left of a block copied -/
def CopyP (d : BlkD) (w : World) (e : Ending) (w' : World) : Prop := ∃ p c', e = .returned (.agg (blkA d.hash d.par p d.txs.length c')) ∧ w'.ownsRow w.heap.size 23 32 (.slice p d.txs.length c') d.txs.length (d.txs.flatMap bytesV) ∧ Below w.heap.size w w'
set_option maxRecDepth 100000 in
set_option maxHeartbeats 400000 in
theorem copy_any (M : Array Value) (d : BlkD) (q : Option Addr) (n c : Nat) (w : World) (hM : BlkAt w M d q n c) (hn : n ≤ 1099511627776) :
    Calls Tryd.prog 50 #[.agg M] w (CopyP d w) := by
  have HA : Hid (d.hash.length = 32 ∧ d.par.length = 32) := ⟨hM.hlen, hM.plen⟩
  have HARR := Lib.hid hM.arr
  have HMS := Lib.hid hM.size
  have hcap := hM.ids.sl.le
  have hmax := hM.ids.sl.max
  obtain rfl : d.txs.length = n := hM.ids.count
  have hzb : ∃ Z : Array Value, (∀ w0, (zeroValue 26).run Tryd.prog w0 = .ok (.agg Z) w0) ∧ Z.size = 65 := ⟨blkA zeros zeros none 0 0, fun w0 => by kernel_rfl, by kernel_rfl⟩
  obtain ⟨Z, hz, hZ⟩ := hzb
  have HZ := Lib.hid hZ
  have H2 := Lib.hid (two_allocs w (.cells M 26) (.cells Z 26))
  have HI := Lib.hid (hM.ids.below H2.out.2.2.2)
  have hc64 := (hM.parts H2.out.1).2.2
  have hf64 : ((w.alloc (.cells M 26)).alloc (.cells Z 26)).frozen? ⟨w.heap.size, 64, none⟩ = false := frozen_of_row _ _ _ _ _ H2.out.1
  have HN0 : Hid (((w.alloc (.cells M 26)).alloc (.cells Z 26)).ownsRow w.heap.size 23 32 (.slice none 0 0) 0 []) := World.ownsRow_nil _ _ _ _
  have HSZ : Hid (w.heap.size ≤ ((w.alloc (.cells M 26)).alloc (.cells Z 26)).heap.size) := H2.out.2.2.2.size
  have HONE : Hid (∀ u ∈ d.txs.flatMap bytesV, u.oneCell' = true) := fun u hu => by
    obtain ⟨x, _, hx⟩ := List.mem_flatMap.1 hu
    exact bytesV_one x u hx
  clear hM hZ
  go_enter Tryd.func50, Tryd.ntmps50
  go_wp2_with (at_builtin; refine wpList_append_nx rfl _ _ 24 rfl (base := w.heap.size) Tryd.underlying24 infoIds (by rw [show (Value.agg (idA zeros)).cells = idA zeros from rfl]; exact zeros_size) (by omega) rfl HN0.out rfl HI.out.sl HONE.out (by omega) HSZ.out ?_)
  intro p' c' w3 hown hg hnx hne
  have hr0 : w3.heap[w.heap.size]? = some (.cells M 26 (0, 0)) := by
    rw [hg.block _ (by have := H2.out.2.2.1; omega) (by simp [Value.ownBlock])]; exact H2.out.1
  have hr1 : w3.heap[w.heap.size + 1]? = some (.cells Z 26 (0, 0)) := by
    rw [hg.block _ (by have := H2.out.2.2.1; omega) (by simp [Value.ownBlock])]; exact H2.out.2.1
  have hb3 : Below w.heap.size w w3 := H2.out.2.2.2.grown hg HSZ.out (fun k hk => by simp [Value.ownBlock] at hk)
  have hc3 : w3.cell? ⟨w.heap.size, 64, none⟩ = some (.slice q d.txs.length c) := by
    rw [cell_of_row _ _ _ _ _ _ hr0, ← Array.getElem?_toList, HARR.out, blkA_toList, List.getElem?_append_right (by simp [bytesV_length, HA.out.1, HA.out.2])]
    simp [bytesV_length, HA.out.1, HA.out.2]
  have hf3 : w3.frozen? ⟨w.heap.size, 64, none⟩ = false := frozen_of_row _ _ _ _ _ hr0
  have HR4 : Hid ((w3.setCell ⟨w.heap.size, 64, none⟩ (.slice p' d.txs.length c')).heap[w.heap.size]? = some (.cells (blkA d.hash d.par p' d.txs.length c') 26 (0, 0))) := by
    show _ = _
    rw [heap_setCell_same _ _ _ _ _ _ hr0, HARR.out, blkA_set _ _ HA.out.1 HA.out.2]
  have ht := (Turns.refl (fun i => i = w.heap.size) w3).setCell (p := ⟨w.heap.size, 64, none⟩) (fun _ => rfl) (.slice p' d.txs.length c')
  have HR5 := Lib.hid (ht.keep hr1 (by omega))
  have HB4 := Lib.hid (hb3.setCell (p := ⟨w.heap.size, 64, none⟩) (Nat.le_refl _) (.slice p' d.txs.length c'))
  have hnb : ∀ k, (Value.slice p' d.txs.length c').ownBlock = some k → w.heap.size + 2 ≤ k := fun k hk => by
    rcases hnx k hk with h | h
    · simp [Value.ownBlock] at h
    · have := H2.out.2.2.1; omega
  have HNB := Lib.hid hnb
  have HO4 := Lib.hid (own_touch hown ht (fun k hk e => by have := hnb k hk; omega))
  have HBA : Hid ((blkA d.hash d.par p' d.txs.length c').size = 65) := by
    show _ = _
    rw [← Array.length_toList, blkA_toList]; simp [bytesV_length, HA.out.1, HA.out.2]
  have HBO : Hid ((blkA d.hash d.par p' d.txs.length c').all (·.oneCell') = true) := by
    have h := all_oneCell_toArray (cs := (blkA d.hash d.par p' d.txs.length c').toList) (fun v hv => by
      rw [blkA_toList] at hv
      simp only [List.mem_append, List.mem_singleton] at hv
      rcases hv with (hv | hv) | hv
      · exact bytesV_one _ v hv
      · exact bytesV_one _ v hv
      · rw [hv]; rfl)
    rwa [Array.toArray_toList] at h
  clear hown hg hnx hne hr0 hr1 hb3 ht hc64 hf64 hnb
  go_wp2_with (first
    | ((with_reducible refine wpAt 7 ?_); refine wpList_load_row rfl 26 _ rfl w.heap.size rfl 26 (blkA d.hash d.par p' d.txs.length c') (0, 0) _ HR4.out Tryd.underlying26 rfl (infoBlk _ HBA.out) ?_)
    | ((with_reducible refine wpStoreAt 2 ?_); refine wpList_store_row rfl 26 _ _ rfl (w.heap.size + 1) (blkA d.hash d.par p' d.txs.length c') rfl rfl 26 Z HR5.out (infoBlk _ HBA.out) (by rw [HZ.out, HBA.out]) HBO.out ?_))
  have HS := Lib.hid (setRow_heap _ _ _ (blkA d.hash d.par p' d.txs.length c') _ _ HR5.out)
  have HOF := Lib.hid (own_touch HO4.out (turns_setRow _ (w.heap.size + 1) (blkA d.hash d.par p' d.txs.length c')) (fun k hk e => by have := HNB.out k hk; omega))
  refine bodyPost_ret (results_cell_row rfl _ _ _ _ _ _ _ rfl HS.out Tryd.underlying26 rfl (infoBlk _ HBA.out)) rfl ?_
  exact ⟨p', c', rfl, HOF.out, below_setRow HB4.out (Nat.le_succ _) _⟩
end Go.Proofs.YtdaigkcbmdcbcaaDoor.Blk

namespace Go.Proofs.YtdaigkcbmdcbcaaDoor.Blk
open Go.RowKit Go.Mir Go.Mir.Parts

theorem range_grown_row0 {w : World} {b : Nat} {A : Array Value} {t : TypeId} {fr : Nat × Nat} (h : w.heap[b]? = some (.cells A t fr)) : ∀ z : Grown w, z.v.rangeAt b 0 A.toList := fun z => range_grown_row h z
end Go.Proofs.YtdaigkcbmdcbcaaDoor.Blk
