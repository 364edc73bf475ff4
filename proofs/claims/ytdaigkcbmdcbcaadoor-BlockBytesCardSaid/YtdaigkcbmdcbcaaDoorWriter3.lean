/- THE WALKS OF THE WRITER, on: Ids, Num. Conditions: as in the first part. -/
import Derived.Test.YtdaigkcbmdcbcaaDoorWriter2
namespace Go.Proofs.YtdaigkcbmdcbcaaDoor.Wr
open Go.RowKit Go.Mir Go.Mir.Parts

theorem infoS : (Tryd.prog.info? 29).map (fun i => (i.zero, i.size, i.bytes)) = some (some (.slice none 0 0), 1, 24) := by kernel_rfl
def idV (p : Option Addr) (i : Nat) : Value := match p with
  | some a => .slice (some ⟨a.block, a.off + i * 32, none⟩) 32 32
  | none => undef
def idsV (p : Option Addr) (k : Nat) : List Value := (List.range k).map (idV p)
theorem idsV_succ (p : Option Addr) (k : Nat) : idsV p (k + 1) = idsV p k ++ [idV p k] := by simp [idsV, List.range_succ]
theorem total_ids (ids : List (List UInt8)) (h : ∀ x ∈ ids, x.length = 32) : total ids = 32 * ids.length := by
  induction ids with
  | nil => rfl
  | cons x r ih =>
    have h1 := h x (by simp)
    have h2 := ih (fun y hy => h y (by simp [hy]))
    simp only [total, List.map_cons, List.sum_cons, List.length_cons] at *
    omega

set_option maxRecDepth 100000 in
set_option maxHeartbeats 400000 in
theorem ids_any (p : Option Addr) (n c : Nat) (ids : List (List UInt8)) (wb : Nat) (v : Value) (room : Nat) (l : List UInt8) (bad : Int) (w : World) (h : WAt w wb v room l bad)
    (hI : ∀ w', Turns (foot wb v) w w' → Is w' p n c 32 ids) (hs : n ≤ 1099511627776) (hl : l.length ≤ 70368744177664) :
    Calls Tryd.prog 32 #[.pointer (some ⟨wb, 0, none⟩), .slice p n c] w fun e w' => e = .returned (.tuple #[]) ∧ Left wb v room (putS room l bad true ids) w w' := by
  have hi0 := hI w (Turns.refl _ _)
  have hle := hi0.sl.le
  have hmax := hi0.sl.max
  have hcnt := hi0.count
  have HI := Lib.hid hI
  have HI0 := Lib.hid hi0
  have HW := Lib.hid h
  clear hI hi0 h
  go_enter Tryd.func32, Tryd.ntmps32
  go_wp2
  go_loopw [4, 8] (fun x j wr => ∃ k : Nat, k ≤ n ∧ j = .int .i64 k ∧ wr.ownsRow w.heap.size 29 1 x k (idsV p k) ∧ Below w.heap.size w wr) (fun _ j _ => n - (intOf j).toNat)
  case atStart => exact ⟨0, by omega, rfl, World.ownsRow_nil _ _ _ _, Below.refl _ _⟩
  case round =>
    obtain ⟨k, hk, rfl, how, hbl⟩ := hrel
    have HO := Lib.hid how
    have HB := Lib.hid hbl
    clear how hbl
    by_cases hlt : k < n
    · obtain ⟨b, o, rfl⟩ := HI0.out.sl.addr (by omega) (by omega)
      have hbd : Hid (k + 1 ≤ 9223372036854775807 ∧ (k + 1) * 24 ≤ 140737488355328) := by show _ ∧ _; omega
      have hnew : Hid (Sl (wr.alloc (.cells #[.slice (some ⟨b, o + k * 32, none⟩) 32 32] 29)) (some ⟨wr.heap.size, 0, none⟩) 1 1 1 [idV (some ⟨b, o, none⟩) k]) :=
        ⟨rfl, Nat.le_refl _, by omega, fun h => (by cases h), fun a ha j u hu => by
          obtain rfl := Option.some.inj ha
          rw [add_none, cell_alloc_new]
          cases j with
          | zero => simpa [idV] using hu
          | succ j => simp at hu⟩
      go_wp2_with (at_builtin; refine wpList_append_nx rfl _ _ 81 rfl (base := w.heap.size) Tryd.underlying81 infoS rfl (by omega) rfl (HO.out.alloc _) rfl hnew.out (by simp [idV, Value.oneCell']) hbd.out (by have := HB.out.size; simp; omega) ?_)
      intro p' c' w1 hown hg hnx hne
      have HO' : Hid (w1.ownsRow w.heap.size 29 1 (.slice p' (k + 1) c') (k + 1) (idsV (some ⟨b, o, none⟩) (k + 1))) := by
        show World.ownsRow _ _ _ _ _ _ _
        rw [idsV_succ]; exact hown
      have HB' : Hid (Below w.heap.size w w1) := (HB.out.alloc HB.out.size _).trans ((Below.refl _ _).grown hg (by have := HB.out.size; simp; omega) (fun i hi => (HO.out.lt i hi).1))
      clear hown hg hnx hne
      go_wp2
      go_roundw
      case rel => exact ⟨k + 1, by omega, by go_num, HO'.out, HB'.out⟩
      case measure => simp [intOf]; omega
    · obtain rfl : k = n := by omega
      obtain ⟨px, cx, hx, hsx⟩ := own_sl HO.out
      subst hx
      have hlt0 := HW.out.lt
      have HP : Hid (∀ w', Turns (foot wb v) wr w' → Pts w' px k cx ids) := by
        intro w' ht
        have ho' := own_touch HO.out ht (fun i hi hf => by have := (HO.out.lt i hi).1; have := hlt0 i hf; omega)
        obtain ⟨px', cx', hx', hsx'⟩ := own_sl ho'
        cases hx'
        have hI' := HI.out w' ((Turns.of_below HB.out).trans ht (fun _ _ h => h))
        refine ⟨hcnt, hsx'.le, hsx'.max, hsx'.nil0, fun a ha j hj => ?_⟩
        obtain ⟨b, o, rfl⟩ := HI0.out.sl.addr (by omega) (by omega)
        exact ⟨_, 32, 32, hsx'.cell a ha j (.slice (some ⟨b, o + j * 32, none⟩) 32 32) (by simp [idsV, idV, show j < k by omega]), hI'.one j hj (by omega)⟩
      have HW' : Hid (WAt wr wb v room l bad) := HW.out.touch (Turns.of_below (S := fun _ => False) HB.out) (fun _ _ h => h)
      have htot : Hid (total ids ≤ 70368744177664) := by
        show _ ≤ _
        rw [total_ids ids HI0.out.each]; omega
      clear hsx hlt0
      go_wp2_with (go_at_call 52; refine (put_any _ _ _ ids wb v room l bad true _ HW'.out HP.out htot.out hl).mono ?_; rintro e w1 ⟨rfl, hl1⟩)
      go_end0
      refine ⟨rfl, ?_⟩
      obtain ⟨v', h1, h2, h3⟩ := hl1
      exact ⟨v', h1, (Turns.of_below HB.out).trans h2 (fun _ _ h => h), fun i hi hlt => h3 i hi (by have := HB.out.size; omega)⟩

/-! ### Num -/
/-- byte j of eight, the highest first -/
def nb (n j : Nat) : UInt8 := UInt8.ofNat (n / 2 ^ (8 * (7 - j)))
def numArr (n k : Nat) : Array Value := ((List.range 8).map fun j => Value.int .u8 (if 8 ≤ j + k then ((nb n j).toNat : Int) else 0)).toArray
theorem numArr_size (n k : Nat) : (numArr n k).size = 8 := by simp [numArr]
theorem numArr_get (n k j : Nat) (hj : j < 8) : (numArr n k)[j]? = some (Value.int .u8 (if 8 ≤ j + k then ((nb n j).toNat : Int) else 0)) := by simp [numArr, hj]
theorem nb_int (n k : Nat) (hk : k < 8) : ((n : Int) / 2 ^ (8 * k)) % 256 = ((nb n (7 - k)).toNat : Int) := by
  have e : ((n : Int) / 2 ^ (8 * k)) = ((n / 2 ^ (8 * k) : Nat) : Int) := by rw [Int.natCast_ediv, Int.natCast_pow]; rfl
  rw [e, nb, UInt8.toNat_ofNat', show 7 - (7 - k) = k from by omega]
  omega
theorem numArr_set (n k : Nat) (hk : k < 8) : (numArr n k).setIfInBounds (7 - k) (.int .u8 ((nb n (7 - k)).toNat : Int)) = numArr n (k + 1) := by
  apply Array.ext_getElem?
  intro j
  by_cases hj : j < 8
  · rw [Array.getElem?_setIfInBounds, numArr_get _ _ _ hj, numArr_get _ _ _ hj, numArr_size]
    by_cases e : 7 - k = j
    · subst e; simp [show 7 - k < 8 by omega, show 8 ≤ 7 - k + (k + 1) by omega]
    · rw [if_neg e]
      have : (8 ≤ j + k) ↔ (8 ≤ j + (k + 1)) := by omega
      simp [this]
  · rw [Array.getElem?_eq_none, Array.getElem?_eq_none] <;> simp [numArr_size] <;> omega
def Z8 : Array Value := Array.replicate 8 (.int .u8 0)
theorem numArr_0 (n : Nat) : numArr n 0 = Z8 := by
  apply Array.ext_getElem?
  intro j
  by_cases hj : j < 8
  · rw [numArr_get _ _ _ hj, if_neg (by omega)]; simp [Z8, hj]
  · rw [Array.getElem?_eq_none, Array.getElem?_eq_none] <;> simp [numArr_size, Z8] <;> omega
/-- so many bytes of a number, the highest first -/
def be (n width : Nat) : List UInt8 := (List.range width).map fun i => nb n (8 - width + i)
theorem be_length (n width : Nat) : (be n width).length = width := by simp [be]

def numS (room : Nat) (l : List UInt8) (bad : Int) (n : Nat) (width : Int) : List UInt8 × Int :=
  if 1 ≤ width ∧ width ≤ 8 ∧ (width = 8 ∨ n < 2 ^ (8 * width.toNat)) then putS room l bad true [be n width.toNat] else putS room l bad false [[]]
theorem putS_false (room : Nat) (l : List UInt8) (bad : Int) (ps qs : List (List UInt8)) : putS room l bad false ps = putS room l bad false qs := by simp [putS]

/-- the end of the array that Num lays, as a slice -/
theorem num_bs {w' : World} {b n k : Nat} {t : TypeId} (hrow : w'.heap[b]? = some (.cells (numArr n 8) t (0, 0))) (hk : k ≤ 8) : Bs w' (some ⟨b, 8 - k, none⟩) k k (be n k) :=
  ⟨by rw [bytesV_length, be_length, Nat.mul_one], Nat.le_refl _, by omega, fun h => (by cases h), fun a ha j u hu => by
    obtain rfl := Option.some.inj ha
    have hj : j < k := by
      have := (List.getElem?_eq_some_iff.1 hu).1
      rwa [bytesV_length, be_length] at this
    rw [add_none, cell_of_row _ _ _ _ _ _ hrow, numArr_get _ _ _ (by omega), if_pos (by omega), ← hu]
    rw [bytesV_get _ _ (by rw [be_length]; exact hj)]
    simp [be]⟩

set_option maxRecDepth 100000 in
set_option maxHeartbeats 400000 in
theorem num_any (n : Nat) (width : Int) (wb : Nat) (v : Value) (room : Nat) (l : List UInt8) (bad : Int) (w : World) (h : WAt w wb v room l bad) (hn : n < 18446744073709551616) (hw1 : -9223372036854775808 ≤ width) (hw2 : width ≤ 9223372036854775807) (hl : l.length ≤ 70368744177664) :
    Calls Tryd.prog 31 #[.pointer (some ⟨wb, 0, none⟩), .int .u64 (n : Int), .int .i64 width] w fun e w' => e = .returned (.tuple #[]) ∧ Left wb v room (numS room l bad n width) w w' := by
  have hz : ∀ w, (zeroValue 80).run Tryd.prog w = .ok (.agg Z8) w := fun w => by kernel_rfl
  have HW := Lib.hid h
  have hlt0 := Lib.hid h.lt
  clear h
  go_enter Tryd.func31, Tryd.ntmps31
  go_wp2
  go_loopw [10] (fun j wr => ∃ k : Nat, k ≤ 8 ∧ j = .int .i64 k ∧ wr.heap.size = w.heap.size + 1 ∧ wr.heap[w.heap.size]? = some (.cells (numArr n k) 80 (0, 0)) ∧ Below w.heap.size w wr) (fun j _ => 8 - (intOf j).toNat)
  case atStart => exact ⟨0, by omega, rfl, by simp, by rw [numArr_0]; exact heap_alloc_last _ _, Below.allocs _ _⟩
  case round =>
    obtain ⟨k, hk, rfl, hsz, hb0, hbl⟩ := hrel
    by_cases hlt : k < 8
    · have hd : decide ((k:Int) < 8) = true := by simp; omega
      have hc : wr.cell? ⟨w.heap.size, 7 - k, none⟩ = some (.int .u8 0) := by
        rw [cell_of_row _ _ _ _ _ _ hb0, numArr_get _ _ _ (by omega), if_neg (by omega)]
      have hf := frozen_of_row _ _ (7 - k) _ _ hb0
      have hv := nb_int n k hlt
      go_wp2
      go_roundw
      case rel =>
        exact ⟨k + 1, by omega, by go_num, by simp [World.setCell, hsz], by rw [heap_setCell_same _ _ _ _ _ _ hb0, numArr_set n k hlt], hbl.setCell (by simp) _⟩
      case measure => simp [intOf]; omega
    · have hd : decide ((k:Int) < 8) = false := by simp; omega
      have hk8 : k = 8 := by omega
      have hrow : wr.heap[w.heap.size]? = some (.cells (numArr n 8) 80 (0, 0)) := by rw [← hk8]; exact hb0
      have HR := Lib.hid hrow
      have HB := Lib.hid hbl
      have HW' : Hid (WAt wr wb v room l bad) := HW.out.touch (Turns.of_below (S := fun _ => False) hbl) (fun _ _ h => h)
      have HP : Hid (∀ m : Nat, m ≤ 8 → ∀ b' t, b' = wr.heap.size → ∀ w', Turns (foot wb v) (wr.alloc (.cells #[.slice (some ⟨w.heap.size, 8 - m, none⟩) m m] t)) w' → Pts w' (some ⟨b', 0, none⟩) 1 1 [be n m]) := by
        intro m hm b' t hb'
        refine stable1 (S := foot wb v) (fun w' ht => ?_) (fun i hi => by have := hlt0.out i hi; omega) t hb'
        exact num_bs (ht.keep hrow (fun hf => by have := hlt0.out _ hf; omega)) hm
      clear hb0 hbl hrow
      have hfin : Hid (∀ r o w1, Left wb v room r (wr.alloc o) w1 → Left wb v room r w w1) := by
        intro r o w1 h1
        obtain ⟨v', h1, h2, h3⟩ := h1.alloc
        exact ⟨v', h1, (Turns.of_below HB.out).trans h2 (fun _ _ h => h), fun i hi hlt => h3 i hi (by omega)⟩
      by_cases hw : 1 ≤ width ∧ width ≤ 8
      · obtain ⟨m, rfl⟩ : ∃ m : Nat, width = (m : Int) := ⟨width.toNat, by omega⟩
        have hsl : ∀ wx, (Instr.sliceAt 80 (.pointer (some ⟨w.heap.size, 0, none⟩)) (some (.int .i64 (8 - (m : Int)))) none none).run Tryd.prog wx = .ok (.slice (some ⟨w.heap.size, 8 - m, none⟩) m m) wx := fun wx => by
          have h1 := run_sliceAt_from (P := Tryd.prog) wx 80 5 8 1 Tryd.underlying80 (by kernel_rfl) ⟨w.heap.size, 0, none⟩ .i64 (8 - (m : Int)) (8 - m) (by omega) (by omega)
          rw [h1, add_none, show 0 + (8 - m) * 1 = 8 - m by omega, show 8 - (8 - m) = m by omega]
        have htot : total [be n m] ≤ 70368744177664 := by simp [total, be_length]; omega
        have HTO := Lib.hid htot
        clear htot
        have hm1 : (1 : Int) ≤ (m : Int) := by omega
        have hm8 : (m : Int) ≤ 8 := by omega
        by_cases hm : m = 8
        · have he : ((m : Int) == 8) = true := by rw [beq_iff_eq]; omega
          have hnum : Hid (numS room l bad n (m : Int) = putS room l bad true [be n m]) := by
            show _ = _
            rw [numS, if_pos ⟨hw.1, hw.2, .inl (by rw [hm]; rfl)⟩, Int.toNat_natCast]
          clear hm
          go_wp2_with (go_at_call 52; refine (put_any _ _ _ [be n m] wb v room l bad true _ (HW'.out.alloc _) (HP.out m (by omega) _ _ (by omega)) HTO.out hl).mono ?_; rintro e w1 ⟨rfl, hl1⟩)
          go_end0
          exact ⟨rfl, by rw [hnum.out]; exact hfin.out _ _ _ hl1⟩
        · have he : ((m : Int) == 8) = false := by rw [beq_eq_false_iff_ne]; omega
          have hpw : ((n : Int) / 2 ^ (8 * m)) = ((n / 2 ^ (8 * m) : Nat) : Int) := by rw [Int.natCast_ediv, Int.natCast_pow]; rfl
          by_cases hnm : n < 2 ^ (8 * m)
          · have hs0 : ((n : Int) / 2 ^ (8 * m) == 0) = true := by rw [hpw, Nat.div_eq_of_lt hnm]; rfl
            have hnum : Hid (numS room l bad n (m : Int) = putS room l bad true [be n m]) := by
              show _ = _
              rw [numS, if_pos ⟨hw.1, hw.2, .inr (by rw [Int.toNat_natCast]; exact hnm)⟩, Int.toNat_natCast]
            clear hm hpw hnm
            go_wp2_with (go_at_call 52; refine (put_any _ _ _ [be n m] wb v room l bad true _ (HW'.out.alloc _) (HP.out m (by omega) _ _ (by omega)) HTO.out hl).mono ?_; rintro e w1 ⟨rfl, hl1⟩)
            go_end0
            exact ⟨rfl, by rw [hnum.out]; exact hfin.out _ _ _ hl1⟩
          · have hs0 : ((n : Int) / 2 ^ (8 * m) == 0) = false := by
              rw [hpw, beq_eq_false_iff_ne]
              have : 0 < n / 2 ^ (8 * m) := Nat.div_pos (by omega) (Nat.two_pow_pos _)
              omega
            have hnum : Hid (numS room l bad n (m : Int) = putS room l bad false [be n m]) := by
              show _ = _
              rw [numS, if_neg (fun h => by rcases h.2.2 with h | h; omega; rw [Int.toNat_natCast] at h; exact hnm h)]
              exact putS_false _ _ _ _ _
            clear hm hpw hnm
            go_wp2_with (go_at_call 52; refine (put_any _ _ _ [be n m] wb v room l bad false _ (HW'.out.alloc _) (HP.out m (by omega) _ _ (by omega)) HTO.out hl).mono ?_; rintro e w1 ⟨rfl, hl1⟩)
            go_end0
            exact ⟨rfl, by rw [hnum.out]; exact hfin.out _ _ _ hl1⟩
      · have hsl : ∀ wx, (Instr.sliceAt 80 (.pointer (some ⟨w.heap.size, 0, none⟩)) (some (.int .i64 0)) none none).run Tryd.prog wx = .ok (.slice (some ⟨w.heap.size, 0, none⟩) 8 8) wx := fun wx => by
          have h1 := run_sliceAt_from (P := Tryd.prog) wx 80 5 8 1 Tryd.underlying80 (by kernel_rfl) ⟨w.heap.size, 0, none⟩ .i64 0 0 rfl (by omega)
          rw [h1, add_none]
        have hnum : Hid (numS room l bad n width = putS room l bad false [be n 8]) := by
          show _ = _
          rw [numS, if_neg (fun h => hw ⟨h.1, h.2.1⟩)]
          exact putS_false _ _ _ _ _
        have HP0 : Hid (∀ b' t, b' = wr.heap.size → ∀ w', Turns (foot wb v) (wr.alloc (.cells #[.slice (some ⟨w.heap.size, 0, none⟩) 8 8] t)) w' → Pts w' (some ⟨b', 0, none⟩) 1 1 [be n 8]) := HP.out 8 (by omega)
        have HTO : Hid (total [be n 8] ≤ 70368744177664) := by show _ ≤ _; simp [total, be_length]
        by_cases hw0 : width < 1
        · go_wp2_with (go_at_call 52; refine (put_any _ _ _ [be n 8] wb v room l bad false _ (HW'.out.alloc _) (HP0.out _ _ (by omega)) HTO.out hl).mono ?_; rintro e w1 ⟨rfl, hl1⟩)
          go_end0
          exact ⟨rfl, by rw [hnum.out]; exact hfin.out _ _ _ hl1⟩
        · have hw9 : 8 < width := by omega
          have hd9 : decide (width ≤ 8) = false := by simp; omega
          go_wp2_with (go_at_call 52; refine (put_any _ _ _ [be n 8] wb v room l bad false _ (HW'.out.alloc _) (HP0.out _ _ (by omega)) HTO.out hl).mono ?_; rintro e w1 ⟨rfl, hl1⟩)
          go_end0
          exact ⟨rfl, by rw [hnum.out]; exact hfin.out _ _ _ hl1⟩

end Go.Proofs.YtdaigkcbmdcbcaaDoor.Wr
