/- PARTS, JOINED: LAYER 12: the walks of ids told and read, both ways. Conditions: texts of at most 2^40. LAYER 12: the walk of the reference's IdOf. Conditions: texts of at most 2^40. LAYER 12: the walks of numbers told and read, both ways. Conditions: texts of at most 2^40. LAYER 12: the walk of NumOf. Conditions: texts of at most 2^40. PLAIN PART OF REPLIES: names, words, what a reply's line is, and whose line a text is. Conditions: none. IDS AND BLOCKS AS VALUES: arrays of 32 bytes, and structs of two of them and a slice of them. A REGION THAT DRAWS ITS ORDER, WHOSE CALLS MAKE MEMORY. No program is named. Conditions: none. A REGION THAT DRAWS ITS ORDER, WALKED IN ONE ORDER: what reads only what stood at its start is taken at once; the calls come one behind the other. No program is named. Conditions: none. A READER IN MEMORY, and what it holds, plain; new, none, At, Left, Fail. Conditions: none. REPLIES: names: the lists, a number's name, a name's number. Conditions: none. REPLIES: strings.Split at a blank, strings.Join with one (the shelf's contracts, laid at this translation). Conditions: texts of less than 2^32 bytes. -/
import Derived.Test.YtcddgbobbogpgaaDoorSa1
import Derived.Deep.MidRow
import Derived.Laws.Rows
import Derived.Laws.Tables
import Derived.Lib.SplitLaws
import Derived.Lib.Join
import Derived.Great.BuildSlice
import Derived.BigQuiet
import Derived.StillTailTactics
import Derived.Deep.QuietTactic
import Derived.OrdersHeld
import Derived.Deep.RegionHeld3
import Derived.NoCompiler
import Derived.IntWalk
import Derived.Test.YtcddgbobbogpgaaDoorProg
import Derived.Deep.Upon
import Derived.Deep.Cut
import Derived.Outline
import Derived.Shelf.Strings.OnBuilder
import Derived.Shelf.Strings.Split
import Derived.Shelf.Strings.SplitShaped
import Derived.Shelf.LaysM
namespace Go.Proofs.YtcddgbobbogpgaaDoor.HexW
open Go.RowKit Bld Go.Mir Go.Mir.Hx Go.Mir.Parts

/-- an id, told -/
def idText (x : List UInt8) : List UInt8 := pairsL (x.take (trimN x 32))
/-- bytes in a row of their own -/
theorem bs_row {w : World} {b : Nat} {M : Array Value} {t : TypeId} {fr : Nat × Nat} {x : List UInt8} (h : w.heap[b]? = some (.cells M t fr)) (hM : M.toList = bytesV x) (k c : Nat) (hk : k ≤ x.length) (hc : k ≤ c) (hc2 : c ≤ 9223372036854775807) : Bs w (some ⟨b, 0, none⟩) k c (x.take k) :=
  ⟨by rw [bytesV_length, List.length_take]; omega, hc, hc2, fun h => (by cases h), fun a ha j u hu => by
    obtain rfl := Option.some.inj ha
    have hj := (List.getElem?_eq_some_iff.1 hu).1
    rw [bytesV_length, List.length_take] at hj
    rw [bytesV_get _ _ (by rw [List.length_take]; omega)] at hu
    rw [add_none, cell_of_row _ _ _ _ _ _ h, ← Array.getElem?_toList, hM, Nat.zero_add, bytesV_get _ _ (by omega), ← hu]
    simp⟩
theorem row_byte {w : World} {b : Nat} {M : Array Value} {t : TypeId} {fr : Nat × Nat} {x : List UInt8} (h : w.heap[b]? = some (.cells M t fr)) (hM : M.toList = bytesV x) (k : Nat) (hk : k < x.length) : w.cell? ⟨b, k, none⟩ = some (.int .u8 (x[k].toNat : Int)) := by
  rw [cell_of_row _ _ _ _ _ _ h, ← Array.getElem?_toList, hM, bytesV_get _ _ hk]

set_option maxRecDepth 100000 in
theorem idText_any (M : Array Value) (x : List UInt8) (w : World) (hM : M.toList = bytesV x) (hx : x.length = 32) :
    Calls Tryd.prog 23 #[.agg M] w fun e w' => e = .returned (.string (S (idText x))) ∧ Below w.heap.size w w' := by
  have HM := Lib.hid hM
  have HX := Lib.hid hx
  clear hM hx
  go_enter Tryd.func23, Tryd.ntmps23
  go_wp2_with fail
  have HR : Hid ((w.alloc (.cells M 25)).heap[w.heap.size]? = some (.cells M 25)) := heap_alloc_last _ _
  have HB : Hid (Below w.heap.size w (w.alloc (.cells M 25))) := Below.allocs _ _
  generalize w.alloc (.cells M 25) = w0 at *
  go_loop [3] (fun j => ∃ k : Nat, 1 ≤ k ∧ k ≤ 32 ∧ j = .int .i64 k ∧ trimN x k = trimN x 32) (fun j => (intOf j).toNat)
  case atStart => exact ⟨32, by omega, by omega, rfl, rfl⟩
  case round =>
    obtain ⟨k, hk1, hk, rfl, ht⟩ := hrel
    have HT := Lib.hid ht
    clear ht
    by_cases h1 : 1 < k
    · have hc := row_byte HR.out HM.out (k - 1) (by rw [HX.out]; omega)
      have hb : decide ((1 : Int) < (k : Int)) = true := by simp; omega
      have hcast : ((k - 1 : Nat) : Int) = (k : Int) - 1 := by omega
      by_cases hz : x[k - 1]'(by rw [HX.out]; omega) = 0
      · have HZ := Lib.hid (trimN_step x k h1 (by rw [List.getElem?_eq_getElem (by rw [HX.out]; omega), hz]))
        have hq : (((x[k - 1]'(by rw [HX.out]; omega)).toNat : Int) == 0) = true := by rw [hz]; rfl
        clear hz
        go_wp2_with fail
        go_round
        case rel => exact ⟨k - 1, by omega, by omega, by rw [hcast], HZ.out.symm.trans HT.out⟩
        case measure => simp [intOf]; omega
      · have HZ := Lib.hid (trimN_stop x k (.inr (by rw [List.getElem?_eq_getElem (by rw [HX.out]; omega)]; intro e; exact hz (Option.some.inj e))))
        have hq : (((x[k - 1]'(by rw [HX.out]; omega)).toNat : Int) == 0) = false := by
          rw [beq_eq_false_iff_ne]; intro e
          exact hz (UInt8.toNat_inj.1 (by have h0 : (0 : UInt8).toNat = 0 := rfl; omega))
        clear hz
        have hsl : (Instr.sliceAt 25 (.pointer (some ⟨w.heap.size, 0, none⟩)) none (some (.int .i64 (k : Int))) none).run Tryd.prog w0 = .ok (.slice (some ⟨w.heap.size, 0, none⟩) k 32) w0 := run_sliceAt_upto w0 25 5 32 1 Tryd.underlying25 (by kernel_rfl) _ _ _ k rfl (by omega) (by omega)
        go_wp2_with fail
        refine (pairs_any _ _ _ (x.take k) _ (bs_row HR.out HM.out k 32 (by rw [HX.out]; exact hk) hk (by omega)) (by omega) (by omega)).mono ?_
        rintro e w1 ⟨rfl, hb1⟩
        have HB1 := Lib.hid hb1
        clear hb1
        go_wp2_with fail
        go_ret
        exact ⟨str_ret (congrArg S (congrArg (fun m => pairsL (x.take m)) (HZ.out.symm.trans HT.out))), HB.out.trans (HB1.out.mono HB.out.size)⟩
    · have HZ := Lib.hid (trimN_stop x k (.inl (by omega)))
      have hb : decide ((1 : Int) < (k : Int)) = false := by simp; omega
      have hsl : (Instr.sliceAt 25 (.pointer (some ⟨w.heap.size, 0, none⟩)) none (some (.int .i64 (k : Int))) none).run Tryd.prog w0 = .ok (.slice (some ⟨w.heap.size, 0, none⟩) k 32) w0 := run_sliceAt_upto w0 25 5 32 1 Tryd.underlying25 (by kernel_rfl) _ _ _ k rfl (by omega) (by omega)
      go_wp2_with fail
      refine (pairs_any _ _ _ (x.take k) _ (bs_row HR.out HM.out k 32 (by rw [HX.out]; exact hk) hk (by omega)) (by omega) (by omega)).mono ?_
      rintro e w1 ⟨rfl, hb1⟩
      have HB1 := Lib.hid hb1
      clear hb1
      go_wp2_with fail
      go_ret
      exact ⟨str_ret (congrArg S (congrArg (fun m => pairsL (x.take m)) (HZ.out.symm.trans HT.out))), HB.out.trans (HB1.out.mono HB.out.size)⟩
theorem text_take (x : List UInt8) (k : Nat) (h1 : 1 ≤ k) (h2 : k ≤ x.length) : textL (x.take k) = pairsL (x.take k) := by
  unfold textL
  rw [if_neg (fun e => by have := congrArg List.length e; rw [List.length_take, List.length_nil] at this; omega)]
set_option maxRecDepth 100000 in
theorem rId_any (M : Array Value) (x : List UInt8) (w : World) (hM : M.toList = bytesV x) (hx : x.length = 32) :
    Calls Tryd.prog 29 #[.agg M] w fun e w' => e = .returned (.string (S (idText x))) ∧ Below w.heap.size w w' := by
  have HM := Lib.hid hM
  have HX := Lib.hid hx
  clear hM hx
  go_enter Tryd.func29, Tryd.ntmps29
  go_wp2_with fail
  have HR : Hid ((w.alloc (.cells M 25)).heap[w.heap.size]? = some (.cells M 25)) := heap_alloc_last _ _
  have HB : Hid (Below w.heap.size w (w.alloc (.cells M 25))) := Below.allocs _ _
  generalize w.alloc (.cells M 25) = w0 at *
  go_loop [3] (fun j => ∃ k : Nat, 1 ≤ k ∧ k ≤ 32 ∧ j = .int .i64 k ∧ trimN x k = trimN x 32) (fun j => (intOf j).toNat)
  case atStart => exact ⟨32, by omega, by omega, rfl, rfl⟩
  case round =>
    obtain ⟨k, hk1, hk, rfl, ht⟩ := hrel
    have HT := Lib.hid ht
    clear ht
    by_cases h1 : 1 < k
    · have hc := row_byte HR.out HM.out (k - 1) (by rw [HX.out]; omega)
      have hb : decide ((1 : Int) < (k : Int)) = true := by simp; omega
      have hcast : ((k - 1 : Nat) : Int) = (k : Int) - 1 := by omega
      by_cases hz : x[k - 1]'(by rw [HX.out]; omega) = 0
      · have HZ := Lib.hid (trimN_step x k h1 (by rw [List.getElem?_eq_getElem (by rw [HX.out]; omega), hz]))
        have hq : (((x[k - 1]'(by rw [HX.out]; omega)).toNat : Int) == 0) = true := by rw [hz]; rfl
        clear hz
        go_wp2_with fail
        go_round
        case rel => exact ⟨k - 1, by omega, by omega, by rw [hcast], HZ.out.symm.trans HT.out⟩
        case measure => simp [intOf]; omega
      · have HZ := Lib.hid (trimN_stop x k (.inr (by rw [List.getElem?_eq_getElem (by rw [HX.out]; omega)]; intro e; exact hz (Option.some.inj e))))
        have hq : (((x[k - 1]'(by rw [HX.out]; omega)).toNat : Int) == 0) = false := by
          rw [beq_eq_false_iff_ne]; intro e
          exact hz (UInt8.toNat_inj.1 (by have h0 : (0 : UInt8).toNat = 0 := rfl; omega))
        clear hz
        have hsl : (Instr.sliceAt 25 (.pointer (some ⟨w.heap.size, 0, none⟩)) none (some (.int .i64 (k : Int))) none).run Tryd.prog w0 = .ok (.slice (some ⟨w.heap.size, 0, none⟩) k 32) w0 := run_sliceAt_upto w0 25 5 32 1 Tryd.underlying25 (by kernel_rfl) _ _ _ k rfl (by omega) (by omega)
        go_wp2_with fail
        refine (rText_any _ _ _ (x.take k) _ (bs_row HR.out HM.out k 32 (by rw [HX.out]; exact hk) hk (by omega)) (by omega)).mono ?_
        rintro e w1 ⟨rfl, hb1⟩
        have HB1 := Lib.hid hb1
        clear hb1
        go_wp2_with fail
        go_ret
        exact ⟨str_ret (congrArg S ((text_take x k hk1 (by rw [HX.out]; exact hk)).trans <| congrArg (fun m => pairsL (x.take m)) (HZ.out.symm.trans HT.out))), HB.out.trans (HB1.out.mono HB.out.size)⟩
    · have HZ := Lib.hid (trimN_stop x k (.inl (by omega)))
      have hb : decide ((1 : Int) < (k : Int)) = false := by simp; omega
      have hsl : (Instr.sliceAt 25 (.pointer (some ⟨w.heap.size, 0, none⟩)) none (some (.int .i64 (k : Int))) none).run Tryd.prog w0 = .ok (.slice (some ⟨w.heap.size, 0, none⟩) k 32) w0 := run_sliceAt_upto w0 25 5 32 1 Tryd.underlying25 (by kernel_rfl) _ _ _ k rfl (by omega) (by omega)
      go_wp2_with fail
      refine (rText_any _ _ _ (x.take k) _ (bs_row HR.out HM.out k 32 (by rw [HX.out]; exact hk) hk (by omega)) (by omega)).mono ?_
      rintro e w1 ⟨rfl, hb1⟩
      have HB1 := Lib.hid hb1
      clear hb1
      go_wp2_with fail
      go_ret
      exact ⟨str_ret (congrArg S ((text_take x k hk1 (by rw [HX.out]; exact hk)).trans <| congrArg (fun m => pairsL (x.take m)) (HZ.out.symm.trans HT.out))), HB.out.trans (HB1.out.mono HB.out.size)⟩

/-! ### ids read -/
def idL (l : List UInt8) : Option (List UInt8) := match readL l with
  | none => none
  | some b => if b = [] ∨ 32 < b.length ∨ (1 < b.length ∧ b[b.length - 1]? = some 0) then none else some (padId b)
def zeros : List UInt8 := List.replicate 32 0
def IdP (l : List UInt8) (w : World) (e : Ending) (w' : World) : Prop := Below w.heap.size w w' ∧ ((∃ x M, idL l = some x ∧ x.length = 32 ∧ M.toList = bytesV x ∧ e = .returned (.tuple #[.agg M, .int .i64 0])) ∨ (idL l = none ∧ ∃ M, M.toList = bytesV zeros ∧ e = .returned (.tuple #[.agg M, .int .i64 4])))
def Z32 : Array Value := (bytesV zeros).toArray
theorem zeroId (w : World) : (zeroValue 25).run Tryd.prog w = .ok (.agg Z32) w := by kernel_rfl
theorem Z32_list : Z32.toList = bytesV zeros := by rw [Z32]
theorem Z32_size : Z32.size = 32 := by decide
theorem Z32_one : Z32.all (·.oneCell') = true := all_oneCell_toArray (bytesV_one zeros)
theorem two_allocs (w : World) (o o2 : Obj) : ((w.alloc o).alloc o2).heap[w.heap.size]? = some o ∧ ((w.alloc o).alloc o2).heap[w.heap.size + 1]? = some o2 ∧ ((w.alloc o).alloc o2).heap.size = w.heap.size + 2 ∧ Below w.heap.size w ((w.alloc o).alloc o2) := by
  refine ⟨block_old _ (heap_alloc_last _ _), ?_, by simp, (Below.allocs _ _).alloc (by simp) _⟩
  have := heap_alloc_last (w.alloc o) o2
  simpa using this
theorem splice_pad (b : List UInt8) (_h : b.length ≤ 32) : splice (bytesV zeros) 0 (bytesV b) = bytesV (padId b) := by
  unfold splice padId
  rw [List.take_zero, List.nil_append, bytesV_append, bytesV_length, Nat.zero_add]
  congr 1
  unfold bytesV zeros
  rw [← List.map_drop, List.drop_replicate]
theorem id_cases (l b : List UInt8) (hr : readL l = some b) (hne : l ≠ []) : (32 < b.length → idL l = none) ∧ (b.length ≤ 32 → idL l = if idText (padId b) = l then some (padId b) else none) := by
  have hlen := read_length hr
  have hb : b ≠ [] := fun e => hne (by rw [e] at hlen; exact List.length_eq_zero_iff.1 hlen)
  have hpos : 0 < b.length := List.length_pos_iff.2 hb
  have hp := pairs_read l b hr
  unfold idL
  rw [hr]
  refine ⟨fun h => by simp only; rw [if_pos (.inr (.inl h))], fun h => ?_⟩
  simp only
  have hiff := trim_pad b hpos h
  have hinj : idText (padId b) = l ↔ (padId b).take (trimN (padId b) 32) = b := by
    unfold idText
    constructor
    · intro e
      rw [← hp] at e
      have := congrArg readL e
      rw [readL_pairs, readL_pairs] at this
      exact Option.some.inj this
    · intro e; rw [e, hp]
  by_cases hc : idText (padId b) = l
  · rw [if_pos hc, if_neg]
    rintro (h1 | h1 | ⟨h1, h2⟩)
    · exact hb h1
    · omega
    · rcases hiff.1 (hinj.1 hc) with h3 | h3
      · omega
      · exact h3 h2
  · rw [if_neg hc, if_pos]
    refine .inr (.inr ?_)
    by_cases h1 : 1 < b.length
    · refine ⟨h1, ?_⟩
      by_cases h2 : b[b.length - 1]? = some 0
      · exact h2
      · exact absurd (hinj.2 (hiff.2 (.inr h2))) hc
    · exact absurd (hinj.2 (hiff.2 (.inl (by omega)))) hc
set_option maxRecDepth 100000 in
set_option maxHeartbeats 400000 in
theorem idOf_any (l : List UInt8) (w : World) (hl : l.length ≤ 1099511627776) : Calls Tryd.prog 72 #[.string (S l)] w (IdP l w) := by
  have hz := zeroId
  go_enter Tryd.func72, Tryd.ntmps72
  go_wp2_with fail
  have H2 := Lib.hid (two_allocs w (.cells Z32 25) (.cells Z32 25))
  generalize (w.alloc (.cells Z32 25)).alloc (.cells Z32 25) = w2 at *
  refine (read_any (S l) _ (by rw [S_size]; exact hl)).mono ?_
  rw [S_data]
  rintro e w3 ⟨hb3, ⟨b, p, c, hr, hne, rfl, hB, hp⟩ | ⟨hr, v, rfl⟩⟩
  · have HIC := Lib.hid (id_cases l b hr hne)
    have HR0 := Lib.hid (Below.keepOld hb3 H2.out.1)
    have HRX := Lib.hid (Below.keepOld hb3 H2.out.2.1)
    have HB0 := Lib.hid (H2.out.2.2.2.trans (hb3.mono (by have := H2.out.2.2.1; omega)))
    have HBS := Lib.hid hB
    have hbl : b.length ≤ 1099511627776 := by have := read_length hr; omega
    have HP2 : Hid (0 < b.length) := List.length_pos_iff.2 (fun e => hne (by have := read_length hr; rw [e] at this; exact List.length_eq_zero_iff.1 this))
    obtain ⟨pb, po, rfl⟩ := hB.addr HP2.out (by omega)
    have HCP : Hid (∀ (m : Nat) j v, (bytesV (b.take m))[j]? = some v → w3.cell? ((⟨pb, po, none⟩ : Addr).add j) = some v) := fun m j v hv => by
      refine HBS.out.cell _ rfl j v ?_
      have hj := (List.getElem?_eq_some_iff.1 hv).1
      rw [bytesV_length, List.length_take] at hj
      rw [← hv, bytesV_get _ _ (by omega), bytesV_get _ _ (by rw [List.length_take]; omega)]
      simp
    clear hb3 hr hne hB hp
    by_cases h32 : 32 < b.length
    · have HN := Lib.hid (HIC.out.1 h32)
      have hlen : (bytesV (b.take 32)).length = 32 := by rw [bytesV_length, List.length_take]; omega
      have HLEN := Lib.hid hlen
      have hq : ((32 : Int) == (b.length : Int)) = false := by rw [beq_eq_false_iff_ne]; omega
      have HMIN : Hid ((bytesV (b.take 32)).length = Nat.min b.length 32) := by show _ = _; rw [hlen]; exact (Nat.min_eq_right (by omega)).symm
      have HFIT : Hid (0 + (bytesV (b.take 32)).length ≤ (bytesV zeros).length) := by show _ ≤ _; rw [hlen]; decide
      go_wp2_with (refine wpList_copy_g rfl _ _ 23 23 rfl 5 Tryd.underlying23 (by kernel_rfl) _ _ _ _ _ _ rfl rfl (w.heap.size + 1) 0 (bytesV zeros) 25 HRX.out (bytesV (b.take 32)) HMIN.out (fun _ => ⟨rfl, _, rfl, HCP.out 32⟩) HFIT.out (bytesV_one _) (w.heap.size + 1) w3 (Below.refl _ _) (Nat.le_refl _) ?_)
      intro w4 HX4 hb4
      have HR1 := Lib.hid (Below.keepBlock hb4 HR0.out (by omega))
      have HB := Lib.hid (HB0.out.trans (hb4.mono (Nat.le_succ _)))
      clear hb4
      go_wp2_with (refine wpList_store_row rfl 25 _ _ rfl w.heap.size Z32 rfl rfl 25 Z32 HR1.out (by rw [Z32_size]; kernel_rfl) rfl Z32_one ?_)
      have HS : Hid ((w4.setRow w.heap.size Z32).heap[w.heap.size]? = some (.cells Z32 25)) := setRow_heap w4 _ _ _ _ _ HR1.out
      have HBB : Hid (Below w.heap.size w (w4.setRow w.heap.size Z32)) := below_setRow HB.out (Nat.le_refl _) _
      refine bodyPost_ret (results_row_tmp rfl _ _ _ _ _ _ _ rfl HS.out Tryd.underlying25 rfl (by rw [Z32_size]; kernel_rfl)) rfl ?_
      exact ⟨HBB.out, .inr ⟨HN.out, Z32, Z32_list, rfl⟩⟩
    · have hlen : (bytesV (b.take 32)).length = b.length := by rw [bytesV_length, List.length_take]; omega
      have HLEN := Lib.hid hlen
      have HT : Hid (b.take 32 = b) := List.take_of_length_le (by omega)
      have HMIN : Hid ((bytesV (b.take 32)).length = Nat.min b.length 32) := by show _ = _; rw [hlen]; exact (Nat.min_eq_left (by omega)).symm
      have HFIT : Hid (0 + (bytesV (b.take 32)).length ≤ (bytesV zeros).length) := by show _ ≤ _; rw [hlen]; show 0 + b.length ≤ 32; omega
      have hble : b.length ≤ 32 := by omega
      have HC := Lib.hid (HIC.out.2 hble)
      clear h32
      go_wp2_with (refine wpList_copy_g rfl _ _ 23 23 rfl 5 Tryd.underlying23 (by kernel_rfl) _ _ _ _ _ _ rfl rfl (w.heap.size + 1) 0 (bytesV zeros) 25 HRX.out (bytesV (b.take 32)) HMIN.out (fun _ => ⟨rfl, _, rfl, HCP.out 32⟩) HFIT.out (bytesV_one _) (w.heap.size + 1) w3 (Below.refl _ _) (Nat.le_refl _) ?_)
      intro w4 HX4 hb4
      have HR1 := Lib.hid (Below.keepBlock hb4 HR0.out (by omega))
      have HB := Lib.hid (HB0.out.trans (hb4.mono (Nat.le_succ _)))
      clear hb4
      obtain ⟨X, hX⟩ : ∃ X : Array Value, X.toList = bytesV (padId b) := ⟨(bytesV (padId b)).toArray, by simp⟩
      have HXL := Lib.hid hX
      have HX5 : Hid (w4.heap[w.heap.size + 1]? = some (.cells X 25)) := by
        have := HX4.out
        rw [HT.out, splice_pad b hble, ← hX, Array.toArray_toList] at this
        exact this
      have HXS : Hid (X.size = 32) := by show _ = _; rw [← Array.length_toList, hX, bytesV_length, padId_length b hble]
      have HX1 : Hid (X.all (·.oneCell') = true) := by
        have := all_oneCell_toArray (bytesV_one (padId b))
        rw [← hX, Array.toArray_toList] at this; exact this
      clear hX HX4 hlen
      go_wp2_with (refine wpList_load_row_g rfl 25 _ rfl (w.heap.size + 1) rfl 25 X (0, 0) _ HX5.out Tryd.underlying25 rfl (by rw [HXS.out]; kernel_rfl) ?_)
      refine (idText_any X (padId b) _ HXL.out (padId_length b hble)).mono ?_
      rintro e w5 ⟨rfl, hb5⟩
      have HR1 := Lib.hid (Below.keepOld hb5 HR1.out)
      have HX6 := Lib.hid (Below.keepOld hb5 HX5.out)
      have HB := Lib.hid (HB.out.trans (hb5.mono HB.out.size))
      clear hb5
      by_cases hc : idText (padId b) = l
      · have HY : Hid (idL l = some (padId b)) := by show _ = _; rw [HC.out, if_pos hc]
        have hq : (idText (padId b) == l) = true := by rw [beq_iff_eq]; exact hc
        clear hc
        go_wp2_with (first
          | refine wpList_load_row rfl 25 _ rfl (w.heap.size + 1) rfl 25 X (0, 0) _ HX6.out Tryd.underlying25 rfl (by rw [HXS.out]; kernel_rfl) ?_
          | refine wpList_store_row rfl 25 _ _ rfl w.heap.size X rfl rfl 25 Z32 HR1.out (by rw [HXS.out]; kernel_rfl) (by rw [HXS.out]; exact Z32_size) HX1.out ?_)
        have HS : Hid ((w5.setRow w.heap.size X).heap[w.heap.size]? = some (.cells X 25)) := setRow_heap w5 _ _ _ _ _ HR1.out
        have HBB : Hid (Below w.heap.size w (w5.setRow w.heap.size X)) := below_setRow HB.out (Nat.le_refl _) _
        refine bodyPost_ret (results_row_tmp rfl _ _ _ _ _ _ _ rfl HS.out Tryd.underlying25 rfl (by rw [HXS.out]; kernel_rfl)) rfl ?_
        exact ⟨HBB.out, .inl ⟨padId b, X, HY.out, padId_length b hble, HXL.out, rfl⟩⟩
      · have HN : Hid (idL l = none) := by show _ = _; rw [HC.out, if_neg hc]
        have hq : (idText (padId b) == l) = false := by rw [beq_eq_false_iff_ne]; exact hc
        clear hc
        go_wp2_with (refine wpList_store_row rfl 25 _ _ rfl w.heap.size Z32 rfl rfl 25 Z32 HR1.out (by rw [Z32_size]; kernel_rfl) rfl Z32_one ?_)
        have HS : Hid ((w5.setRow w.heap.size Z32).heap[w.heap.size]? = some (.cells Z32 25)) := setRow_heap w5 _ _ _ _ _ HR1.out
        have HBB : Hid (Below w.heap.size w (w5.setRow w.heap.size Z32)) := below_setRow HB.out (Nat.le_refl _) _
        refine bodyPost_ret (results_row_tmp rfl _ _ _ _ _ _ _ rfl HS.out Tryd.underlying25 rfl (by rw [Z32_size]; kernel_rfl)) rfl ?_
        exact ⟨HBB.out, .inr ⟨HN.out, Z32, Z32_list, rfl⟩⟩
  · have HN : Hid (idL l = none) := by
      show _ = _; unfold idL
      rcases hr with h | h
      · rw [h]
      · subst h; rfl
    have HR1 := Lib.hid (Below.keepOld hb3 H2.out.1)
    have HB := Lib.hid (H2.out.2.2.2.trans (hb3.mono (by have := H2.out.2.2.1; omega)))
    clear hb3 hr
    go_wp2_with (refine wpList_store_row rfl 25 _ _ rfl w.heap.size Z32 rfl rfl 25 Z32 HR1.out (by rw [Z32_size]; kernel_rfl) rfl Z32_one ?_)
    have HS : Hid ((w3.setRow w.heap.size Z32).heap[w.heap.size]? = some (.cells Z32 25)) := setRow_heap w3 _ _ _ _ _ HR1.out
    have HBB : Hid (Below w.heap.size w (w3.setRow w.heap.size Z32)) := below_setRow HB.out (Nat.le_refl _) _
    refine bodyPost_ret (results_row_tmp rfl _ _ _ _ _ _ _ rfl HS.out Tryd.underlying25 rfl (by rw [Z32_size]; kernel_rfl)) rfl ?_
    exact ⟨HBB.out, .inr ⟨HN.out, Z32, Z32_list, rfl⟩⟩
end Go.Proofs.YtcddgbobbogpgaaDoor.HexW

namespace Go.Proofs.YtcddgbobbogpgaaDoor.HexW
open Go.RowKit Bld Go.Mir Go.Mir.Hx Go.Mir.Parts

theorem id_bytes (l : List UInt8) : (bytesL l = none → idL l = none) ∧ ∀ b, bytesL l = some b → idL l = if b = [] ∨ 32 < b.length ∨ (1 < b.length ∧ b[b.length - 1]? = some 0) then none else some (padId b) := by
  unfold bytesL
  by_cases h : l = [45]
  · subst h
    refine ⟨fun h => (by simp at h), fun b hb => ?_⟩
    simp at hb; subst hb; rfl
  · rw [if_neg h]
    by_cases h0 : l = []
    · subst h0; refine ⟨fun _ => rfl, fun b hb => (by simp at hb)⟩
    · rw [if_neg h0]
      refine ⟨fun hn => by unfold idL; rw [hn], fun b hb => by unfold idL; rw [hb]⟩
/-- an id, as far as it is filled -/
def part (b : List UInt8) (k : Nat) : List UInt8 := b.take k ++ List.replicate (32 - k) 0
theorem part_set (b : List UInt8) (k : Nat) (h : k < b.length) (h32 : k < 32) : (part b k).set k b[k] = part b (k + 1) := by
  unfold part
  have hl : (b.take k).length = k := by rw [List.length_take]; omega
  rw [List.set_append_right _ _ (by omega), hl, Nat.sub_self, show 32 - k = (32 - (k + 1)) + 1 by omega, List.replicate_succ, List.set_cons_zero, take_snoc b k h, List.append_assoc]; rfl
theorem part_end (b : List UInt8) (_h : b.length ≤ 32) : part b b.length = padId b := by unfold part padId; rw [List.take_length]

theorem row_id {M : Array Value} {x : List UInt8} (hM : M.toList = bytesV x) (hx : x.length = 32) : M.size = 32 ∧ M.all (·.oneCell') = true := by
  refine ⟨by rw [← Array.length_toList, hM, bytesV_length, hx], ?_⟩
  have := all_oneCell_toArray (bytesV_one x)
  rw [← hM, Array.toArray_toList] at this; exact this
theorem part_length (b : List UInt8) (k : Nat) (h : k ≤ b.length) (h32 : k ≤ 32) : (part b k).length = 32 := by
  unfold part; rw [List.length_append, List.length_take, List.length_replicate]; omega
theorem part_row {M : Array Value} {b : List UInt8} {k : Nat} (hM : M.toList = bytesV (part b k)) (h : k < b.length) (h32 : k < 32) : (M.setIfInBounds k (.int .u8 (b[k].toNat : Int))).toList = bytesV (part b (k + 1)) := by
  rw [Array.toList_setIfInBounds, hM, ← part_set b k h h32]
  simp [bytesV, List.map_set]
set_option maxRecDepth 100000 in
set_option maxHeartbeats 400000 in
theorem rIdOf_any (l : List UInt8) (w : World) (hl : l.length ≤ 1099511627776) : Calls Tryd.prog 60 #[.string (S l)] w (IdP l w) := by
  have hz := zeroId
  have HIB := Lib.hid (id_bytes l)
  go_enter Tryd.func60, Tryd.ntmps60
  go_wp2_with fail
  have H2 := Lib.hid (two_allocs w (.cells Z32 25) (.cells Z32 25))
  generalize (w.alloc (.cells Z32 25)).alloc (.cells Z32 25) = w2 at *
  refine (rBytes_any l _ hl).mono ?_
  rintro e w3 ⟨hb3, ⟨b, p, c, hr, rfl, hB, hp⟩ | ⟨hr, rfl⟩⟩
  · have HR1 := Lib.hid (Below.keepOld hb3 H2.out.1)
    have HX := Lib.hid (Below.keepOld hb3 H2.out.2.1)
    have HB := Lib.hid (H2.out.2.2.2.trans (hb3.mono (by have := H2.out.2.2.1; omega)))
    have HI := Lib.hid (HIB.out.2 b hr)
    have HBS := Lib.hid hB
    have hle := hB.le
    have hmax := hB.max
    have HP : Hid (∀ a, p = some a → ¬ a.block = w.heap.size + 1) := fun a ha e => by have := hp a ha; have := H2.out.2.2.1; omega
    clear hb3 hr hB hp
    by_cases h0 : b.length = 0
    · have HN : Hid (idL l = none) := by show _ = _; rw [HI.out, if_pos (.inl (List.length_eq_zero_iff.1 h0))]
      have hq : ((b.length : Int) == 0) = true := by rw [beq_iff_eq]; omega
      clear h0
      go_wp2_with (first
        | refine wpList_load_row rfl 25 _ rfl (w.heap.size + 1) rfl 25 Z32 (0, 0) _ HX.out Tryd.underlying25 rfl (by rw [Z32_size]; kernel_rfl) ?_
        | refine wpList_store_row rfl 25 _ _ rfl w.heap.size Z32 rfl rfl 25 Z32 HR1.out (by rw [Z32_size]; kernel_rfl) rfl Z32_one ?_)
      have HS : Hid ((w3.setRow w.heap.size Z32).heap[w.heap.size]? = some (.cells Z32 25)) := setRow_heap w3 _ _ _ _ _ HR1.out
      have HBB : Hid (Below w.heap.size w (w3.setRow w.heap.size Z32)) := below_setRow HB.out (Nat.le_refl _) _
      refine bodyPost_ret (results_row_tmp rfl _ _ _ _ _ _ _ rfl HS.out Tryd.underlying25 rfl (by rw [Z32_size]; kernel_rfl)) rfl ?_
      exact ⟨HBB.out, .inr ⟨HN.out, Z32, Z32_list, rfl⟩⟩
    · have hq : ((b.length : Int) == 0) = false := by rw [beq_eq_false_iff_ne]; omega
      have HNE : Hid (b ≠ []) := fun e => h0 (by rw [e]; rfl)
      by_cases h32 : 32 < b.length
      · have HN : Hid (idL l = none) := by show _ = _; rw [HI.out, if_pos (.inr (.inl h32))]
        clear h0
        go_wp2_with (first
          | refine wpList_load_row rfl 25 _ rfl (w.heap.size + 1) rfl 25 Z32 (0, 0) _ HX.out Tryd.underlying25 rfl (by rw [Z32_size]; kernel_rfl) ?_
          | refine wpList_store_row rfl 25 _ _ rfl w.heap.size Z32 rfl rfl 25 Z32 HR1.out (by rw [Z32_size]; kernel_rfl) rfl Z32_one ?_)
        have HS : Hid ((w3.setRow w.heap.size Z32).heap[w.heap.size]? = some (.cells Z32 25)) := setRow_heap w3 _ _ _ _ _ HR1.out
        have HBB : Hid (Below w.heap.size w (w3.setRow w.heap.size Z32)) := below_setRow HB.out (Nat.le_refl _) _
        refine bodyPost_ret (results_row_tmp rfl _ _ _ _ _ _ _ rfl HS.out Tryd.underlying25 rfl (by rw [Z32_size]; kernel_rfl)) rfl ?_
        exact ⟨HBB.out, .inr ⟨HN.out, Z32, Z32_list, rfl⟩⟩
      · obtain ⟨pb, po, rfl⟩ := HBS.out.addr (by omega) (by omega)
        have hd32 : decide ((32 : Int) < (b.length : Int)) = false := by simp; omega
        have hlt : b.length - 1 < b.length := by omega
        clear h0
        have hc := Bs.byte HBS.out (j := b.length - 1) hlt
        have hcast : ((b.length - 1 : Nat) : Int) = (b.length : Int) - 1 := by omega
        by_cases hbad : 1 < b.length ∧ b[b.length - 1]? = some 0
        · have HN : Hid (idL l = none) := by show _ = _; rw [HI.out, if_pos (.inr (.inr hbad))]
          obtain ⟨h1, hl0⟩ := hbad
          have hd1 : decide ((1 : Int) < (b.length : Int)) = true := by simp; omega
          have hz0 : (((b[b.length - 1]'hlt).toNat : Int) == 0) = true := by
            rw [List.getElem?_eq_getElem hlt] at hl0
            rw [Option.some.inj hl0]; rfl
          clear hl0
          go_wp2_with (first
            | refine wpList_load_row rfl 25 _ rfl (w.heap.size + 1) rfl 25 Z32 (0, 0) _ HX.out Tryd.underlying25 rfl (by rw [Z32_size]; kernel_rfl) ?_
            | refine wpList_store_row rfl 25 _ _ rfl w.heap.size Z32 rfl rfl 25 Z32 HR1.out (by rw [Z32_size]; kernel_rfl) rfl Z32_one ?_)
          have HS : Hid ((w3.setRow w.heap.size Z32).heap[w.heap.size]? = some (.cells Z32 25)) := setRow_heap w3 _ _ _ _ _ HR1.out
          have HBB : Hid (Below w.heap.size w (w3.setRow w.heap.size Z32)) := below_setRow HB.out (Nat.le_refl _) _
          refine bodyPost_ret (results_row_tmp rfl _ _ _ _ _ _ _ rfl HS.out Tryd.underlying25 rfl (by rw [Z32_size]; kernel_rfl)) rfl ?_
          exact ⟨HBB.out, .inr ⟨HN.out, Z32, Z32_list, rfl⟩⟩
        · have HY : Hid (idL l = some (padId b)) := by
            show _ = _; rw [HI.out, if_neg]
            rintro (h | h | h)
            · exact HNE.out h
            · exact h32 h
            · exact hbad h
          have HBAD := Lib.hid hbad
          clear hbad
          by_cases h1 : 1 < b.length
          all_goals
            first
              | have hd1 : decide ((1 : Int) < (b.length : Int)) = true := decide_eq_true (by omega)
              | have hd1 : decide ((1 : Int) < (b.length : Int)) = false := decide_eq_false (by omega)
            have hz0 : 1 < b.length → (((b[b.length - 1]'hlt).toNat : Int) == 0) = false := fun h1 => by
              rw [beq_eq_false_iff_ne]; intro e
              refine HBAD.out ⟨h1, ?_⟩
              rw [List.getElem?_eq_getElem hlt]
              congr 1
              exact UInt8.toNat_inj.1 (by have h0 : (0 : UInt8).toNat = 0 := rfl; omega)
            try replace hz0 := hz0 h1
            go_wp2_with fail
            go_loopw [7] (fun j wr => ∃ (k : Nat) (X : Array Value), k ≤ b.length ∧ j = .int .i64 k ∧ wr.heap[w.heap.size + 1]? = some (.cells X 25 (0, 0)) ∧ X.toList = bytesV (part b k) ∧ wr.heap[w.heap.size]? = some (.cells Z32 25 (0, 0)) ∧ Bs wr (some ⟨pb, po, none⟩) b.length c b ∧ Below w.heap.size w wr) (fun j _ => b.length - (intOf j).toNat)
            case atStart => exact ⟨0, Z32, by omega, rfl, HX.out, Z32_list, HR1.out, HBS.out, HB.out⟩
            case round =>
              clear hc hz0
              obtain ⟨k, X, hk, rfl, hx, hxl, hr0, hbs, hbb⟩ := hrel
              have HXO := Lib.hid hx
              have HXL := Lib.hid hxl
              have HR2 := Lib.hid hr0
              have HBS2 := Lib.hid hbs
              have HBB := Lib.hid hbb
              have HSZ := Lib.hid (row_id hxl (part_length b k hk (by omega)))
              by_cases hkl : k < b.length
              · have hby := Bs.byte hbs (j := k) hkl
                have hxk : ∃ u, wr.cell? ⟨w.heap.size + 1, k, none⟩ = some u := by
                  refine ⟨_, (cell_of_row _ _ _ _ _ _ hx).trans (Array.getElem?_eq_getElem (by rw [HSZ.out.1]; omega))⟩
                obtain ⟨u, hu⟩ := hxk
                have hf : wr.frozen? ⟨w.heap.size + 1, k, none⟩ = false := frozen_of_row _ _ _ _ _ hx
                have hdk : decide ((k : Int) < (b.length : Int)) = true := decide_eq_true (by omega)
                clear hx hxl hr0 hbs hbb
                go_wp2_with fail
                go_roundw
                case rel =>
                  have ht := (Turns.refl (fun i => i = w.heap.size + 1) wr).setCell (p := ⟨w.heap.size + 1, k, none⟩) (fun _ => rfl) (.int .u8 ((b[k]'hkl).toNat : Int))
                  refine ⟨k + 1, _, by omega, by go_num, heap_setCell_same _ _ _ _ _ _ HXO.out, part_row HXL.out hkl (by omega), ht.keep HR2.out (fun e => ?_), HBS2.out.touch ht (fun a ha _ => HP.out a ha), HBB.out.setCell (Nat.le_succ _) _⟩
                  omega
                case measure => simp [intOf]; omega
              · have hkb : k = b.length := by omega
                have hdk : decide ((k : Int) < (b.length : Int)) = false := decide_eq_false (by omega)
                have HXL2 : Hid (X.toList = bytesV (padId b)) := by show _ = _; rw [hxl, hkb, part_end b (by omega)]
                have HXS := HSZ
                have HX := HXO
                have HR1 := HR2
                have HB := HBB
                clear hx hxl hr0 hbs hbb hkb
                go_wp2_with (first
                  | refine wpList_load_row rfl 25 _ rfl (w.heap.size + 1) rfl 25 X (0, 0) _ HX.out Tryd.underlying25 rfl (by rw [HXS.out.1]; kernel_rfl) ?_
                  | refine wpList_store_row rfl 25 _ _ rfl w.heap.size X rfl rfl 25 Z32 HR1.out (by rw [HXS.out.1]; kernel_rfl) (by rw [HXS.out.1]; exact Z32_size) HXS.out.2 ?_)
                have HS : Hid ((wr.setRow w.heap.size X).heap[w.heap.size]? = some (.cells X 25)) := setRow_heap wr _ _ _ _ _ HR1.out
                have HBB : Hid (Below w.heap.size w (wr.setRow w.heap.size X)) := below_setRow HB.out (Nat.le_refl _) _
                refine bodyPost_ret (results_row_tmp rfl _ _ _ _ _ _ _ rfl HS.out Tryd.underlying25 rfl (by rw [HXS.out.1]; kernel_rfl)) rfl ?_
                exact ⟨HBB.out, .inl ⟨padId b, X, HY.out, padId_length b (by omega), HXL2.out, rfl⟩⟩
  · have HR1 := Lib.hid (Below.keepOld hb3 H2.out.1)
    have HX := Lib.hid (Below.keepOld hb3 H2.out.2.1)
    have HB := Lib.hid (H2.out.2.2.2.trans (hb3.mono (by have := H2.out.2.2.1; omega)))
    have HN := Lib.hid (HIB.out.1 hr)
    clear hb3 hr
    go_wp2_with (first
      | refine wpList_load_row rfl 25 _ rfl (w.heap.size + 1) rfl 25 Z32 (0, 0) _ HX.out Tryd.underlying25 rfl (by rw [Z32_size]; kernel_rfl) ?_
      | refine wpList_store_row rfl 25 _ _ rfl w.heap.size Z32 rfl rfl 25 Z32 HR1.out (by rw [Z32_size]; kernel_rfl) rfl Z32_one ?_)
    have HS : Hid ((w3.setRow w.heap.size Z32).heap[w.heap.size]? = some (.cells Z32 25)) := setRow_heap w3 _ _ _ _ _ HR1.out
    have HBB : Hid (Below w.heap.size w (w3.setRow w.heap.size Z32)) := below_setRow HB.out (Nat.le_refl _) _
    refine bodyPost_ret (results_row_tmp rfl _ _ _ _ _ _ _ rfl HS.out Tryd.underlying25 rfl (by rw [Z32_size]; kernel_rfl)) rfl ?_
    exact ⟨HBB.out, .inr ⟨HN.out, Z32, Z32_list, rfl⟩⟩
end Go.Proofs.YtcddgbobbogpgaaDoor.HexW

namespace Go.Proofs.YtcddgbobbogpgaaDoor.HexW
open Go.RowKit Bld Go.Mir Go.Mir.Hx Go.Mir.Parts

def Z20 : Array Value := (bytesV (List.replicate 20 0)).toArray
theorem zero20 (w : World) : (zeroValue 123).run Tryd.prog w = .ok (.agg Z20) w := by kernel_rfl
theorem sgn_digit (m : Nat) (h : m < 10) : sgn m = UInt8.ofNat (48 + m) := by unfold sgn; rw [if_pos h]
/-- how many digits a number has at most -/
theorem dec_len (n : Nat) (h : n < 18446744073709551616) : (decL n).length ≤ 20 := by
  by_cases h10 : n < 10
  · rw [decL_small n h10]; simp
  · have h1 := (dec_bounds n).2 (by omega)
    by_cases h2 : (decL n).length ≤ 20
    · exact h2
    · have h3 : 10 ^ 20 ≤ 10 ^ ((decL n).length - 1) := Nat.pow_le_pow_right (by omega) (by omega)
      have h4 : (10 : Nat) ^ 20 = 100000000000000000000 := by decide
      omega
/-- a buffer, filled from behind -/
structure Buf (M : Array Value) (k : Nat) (s : List UInt8) : Prop where
  size : M.size = 20
  len : s.length + k = 19
  tail : M.toList.drop (k + 1) = bytesV s
theorem Buf.put {M : Array Value} {k : Nat} {s : List UInt8} (h : Buf M (k + 1) s) (c : UInt8) : Buf (M.setIfInBounds (k + 1) (.int .u8 (c.toNat : Int))) k (c :: s) := by
  refine ⟨by rw [Array.size_setIfInBounds]; exact h.size, by have := h.len; simp; omega, ?_⟩
  rw [Array.toList_setIfInBounds]
  have hl : k + 1 < (M.toList.set (k + 1) (.int .u8 (c.toNat : Int))).length := by rw [List.length_set, Array.length_toList, h.size]; have := h.len; omega
  rw [List.drop_eq_getElem_cons hl, List.getElem_set_self, List.drop_set_of_lt (by omega), h.tail]
  rfl
theorem Buf.last {M : Array Value} {k : Nat} {s : List UInt8} (h : Buf M k s) (c : UInt8) : (M.setIfInBounds k (.int .u8 (c.toNat : Int))).toList.drop k = bytesV (c :: s) := by
  rw [Array.toList_setIfInBounds]
  have hl : k < (M.toList.set k (.int .u8 (c.toNat : Int))).length := by rw [List.length_set, Array.length_toList, h.size]; have := h.len; omega
  rw [List.drop_eq_getElem_cons hl, List.getElem_set_self, List.drop_set_of_lt (by omega), h.tail]
  rfl
theorem bs_drop {w : World} {b k m : Nat} {M : Array Value} {t : TypeId} {fr : Nat × Nat} {x : List UInt8} (h : w.heap[b]? = some (.cells M t fr)) (hM : M.toList.drop k = bytesV x) (hx : x.length = m) (hm : m ≤ 9223372036854775807) : Bs w (some ⟨b, k, none⟩) m m x :=
  ⟨by rw [bytesV_length, hx, Nat.mul_one], Nat.le_refl _, hm, fun h => (by cases h), fun a ha j u hu => by
    obtain rfl := Option.some.inj ha
    rw [add_none, cell_of_row _ _ _ _ _ _ h, ← Array.getElem?_toList, ← hu, ← hM, List.getElem?_drop]⟩

set_option maxRecDepth 100000 in
theorem num_any (n0 : Nat) (w : World) (hn : n0 < 18446744073709551616) :
    Calls Tryd.prog 48 #[.int .u64 (n0 : Int)] w fun e w' => e = .returned (.string (S (decL n0))) ∧ Below w.heap.size w w' := by
  have hz := zero20
  have hlen := dec_len n0 hn
  have HB0 : Hid (Buf Z20 19 []) := ⟨by decide, by simp, List.drop_eq_nil_of_le (by decide)⟩
  have HZR : Hid ((w.alloc (.cells Z20 123)).heap[w.heap.size]? = some (.cells Z20 123)) := heap_alloc_last _ _
  go_enter Tryd.func48, Tryd.ntmps48
  go_wp2_with fail
  generalize hD : decL n0 = D at *
  have HD := Lib.hid hD
  clear hD
  go_loopw [0, 4] (fun i j wr => ∃ (m k : Nat) (s : List UInt8) (M : Array Value), i = .int .u64 (m : Int) ∧ j = .int .i64 (k : Int) ∧ m ≤ n0 ∧ D = decL m ++ s ∧ Buf M k s ∧ wr.heap[w.heap.size]? = some (.cells M 123 (0, 0)) ∧ Below w.heap.size w wr) (fun i _ _ => (intOf i).toNat)
  case atStart => exact ⟨n0, 19, [], Z20, rfl, rfl, Nat.le_refl _, by rw [← HD.out]; simp, HB0.out, HZR.out, Below.allocs _ _⟩
  case round =>
    obtain ⟨m, k, s, M, rfl, rfl, hm, hds, hbuf, hrow, hbw⟩ := hrel
    have HDS := Lib.hid hds
    have HBF := Lib.hid hbuf
    have HR := Lib.hid hrow
    have HBW := Lib.hid hbw
    have hsl := hbuf.len
    have hdl : (decL m).length + s.length ≤ 20 := by rw [← List.length_append, ← hds]; exact hlen
    have hf : wr.frozen? ⟨w.heap.size, k, none⟩ = false := frozen_of_row _ _ _ _ _ hrow
    obtain ⟨u, hu⟩ : ∃ u, wr.cell? ⟨w.heap.size, k, none⟩ = some u := ⟨_, (cell_of_row _ _ _ _ _ _ hrow).trans (Array.getElem?_eq_getElem (by rw [hbuf.size]; omega))⟩
    clear hds hbuf hrow hbw
    by_cases h9 : 9 < m
    · have hd : decide ((9 : Int) < (m : Int)) = true := decide_eq_true (by omega)
      have HDB := Lib.hid (decL_big m (by omega))
      have hp := dec_pos (m / 10)
      rw [HDB.out, List.length_append, List.length_singleton] at hdl
      obtain ⟨k, rfl⟩ : ∃ k', k = k' + 1 := ⟨k - 1, by omega⟩
      go_wp2_with fail
      go_roundw
      case rel =>
        rw [signs_at _ (by omega)]
        refine ⟨m / 10, k, sgn (m % 10) :: s, _, by go_num, by go_num, by omega, ?_, HBF.out.put _, heap_setCell_same _ _ _ _ _ _ HR.out, HBW.out.setCell (Nat.le_refl _) _⟩
        rw [HDS.out, HDB.out, sgn_digit _ (by omega), List.append_assoc]; rfl
      case measure => simp [intOf]; omega
    · have hd : decide ((9 : Int) < (m : Int)) = false := decide_eq_false (by omega)
      have hsl2 : (Instr.sliceAt 123 (.pointer (some ⟨w.heap.size, 0, none⟩)) (some (.int .i64 (k : Int))) none none).run Tryd.prog (wr.setCell ⟨w.heap.size, k, none⟩ (.int .u8 ((sgn m).toNat : Int))) = .ok (.slice (some ⟨w.heap.size, k, none⟩) (20 - k) (20 - k)) (wr.setCell ⟨w.heap.size, k, none⟩ (.int .u8 ((sgn m).toNat : Int))) := by
        have := run_sliceAt_from (P := Tryd.prog) (wr.setCell ⟨w.heap.size, k, none⟩ (.int .u8 ((sgn m).toNat : Int))) 123 5 20 1 Tryd.underlying123 (by kernel_rfl) ⟨w.heap.size, 0, none⟩ .i64 (k : Int) k rfl (by omega)
        rw [Nat.mul_one, add_none, Nat.zero_add] at this
        exact this
      have hbs : Bs (wr.setCell ⟨w.heap.size, k, none⟩ (.int .u8 ((sgn m).toNat : Int))) (some ⟨w.heap.size, k, none⟩) (20 - k) (20 - k) (sgn m :: s) := bs_drop (heap_setCell_same _ _ _ _ _ _ HR.out) (HBF.out.last _) (by simp; omega) (by omega)
      have hcv := run_conv (P := Tryd.prog) 23 9 5 Tryd.underlying23 Tryd.underlying5 Tryd.underlying9 hbs
      have HBX := Lib.hid (HBW.out.setCell (p := ⟨w.heap.size, k, none⟩) (Nat.le_refl _) (.int .u8 ((sgn m).toNat : Int)))
      have HSG : (⟨#[48, 49, 50, 51, 52, 53, 54, 55, 56, 57, 97, 98, 99, 100, 101, 102]⟩ : ByteArray)[m]'(show m < 16 by omega) = sgn m := signs_at m (by omega) _
      have HDE := Lib.hid (decL_small m (by omega))
      have HSD := Lib.hid (sgn_digit m (by omega))
      clear hbs
      go_wp2_with fail
      go_ret
      exact ⟨str_ret (by rw [HD.out, HDS.out, HDE.out, HSD.out]; rfl), HBX.out⟩

theorem rNum_any (n : Nat) (hn : n < 18446744073709551616) : ∀ (w : World), Calls Tryd.prog 31 #[.int .u64 (n : Int)] w fun e w' => e = .returned (.string (S (decL n))) ∧ w = w' := by
  induction n using Nat.strongRecOn with
  | _ n ih =>
    intro w
    by_cases h9 : n < 10
    · have hd : decide ((n : Int) < 10) = true := decide_eq_true (by omega)
      have HDE := Lib.hid (decL_small n h9)
      have HSD := Lib.hid (sgn_digit n h9)
      clear ih
      go_enter Tryd.func31, Tryd.ntmps31
      go_wp2_with fail
      refine (half_any n _ (by omega)).mono ?_
      rintro e w' ⟨rfl, rfl⟩
      go_wp2_with fail
      go_ret
      exact ⟨str_ret (by rw [HDE.out, HSD.out]), rfl⟩
    · have hd : decide ((n : Int) < 10) = false := decide_eq_false (by omega)
      have HDB := Lib.hid (decL_big n (by omega))
      have HSD := Lib.hid (sgn_digit (n % 10) (by omega))
      have HIH := Lib.hid (ih (n / 10) (by omega) (by omega) w)
      have hl := dec_len (n / 10) (by omega)
      clear ih
      go_enter Tryd.func31, Tryd.ntmps31
      go_wp2_with fail
      rw [show (n : Int) / 10 = ((n / 10 : Nat) : Int) by omega]
      refine HIH.out.mono ?_
      rintro e w' ⟨rfl, rfl⟩
      go_wp2_with fail
      rw [show (n : Int) % 10 = ((n % 10 : Nat) : Int) by omega]
      refine (half_any (n % 10) _ (by omega)).mono ?_
      rintro e w' ⟨rfl, rfl⟩
      go_wp2_with fail
      go_ret
      exact ⟨str_ret (by rw [HDB.out, HSD.out]), rfl⟩
end Go.Proofs.YtcddgbobbogpgaaDoor.HexW

namespace Go.Proofs.YtcddgbobbogpgaaDoor.HexW
open Go.RowKit Bld Go.Mir Go.Mir.Hx Go.Mir.Parts

/-- what is read of a text, up to a bound: a number, an error -/
def niceB (l : List UInt8) : Bool := !l.isEmpty && l.all (fun c => decide (48 ≤ c.toNat) && decide (c.toNat ≤ 57)) && (l[0]? != some 48 || l.length == 1)
theorem niceB_iff (l : List UInt8) : niceB l = true ↔ Nice l := by
  unfold niceB Nice isD
  simp only [Bool.and_eq_true, Bool.not_eq_true', List.isEmpty_eq_false_iff, List.all_eq_true, decide_eq_true_eq, Bool.or_eq_true, bne_iff_ne, beq_iff_eq]
  constructor
  · rintro ⟨⟨h1, h2⟩, h3⟩
    exact ⟨h1, h2, fun h => h3.resolve_left (fun h' => h' h)⟩
  · rintro ⟨h1, h2, h3⟩
    refine ⟨⟨h1, h2⟩, ?_⟩
    by_cases h : l[0]? = some 48
    · exact .inr (h3 h)
    · exact .inl h
def numOf (l : List UInt8) (most : Nat) : Nat × Int := if niceB l = true then (if most < val l then (0, 3) else (val l, 0)) else (0, 4)
def NumP (l : List UInt8) (most : Nat) (w : World) (e : Ending) (w' : World) : Prop := e = .returned (.tuple #[.int .u64 ((numOf l most).1 : Int), .int .i64 (numOf l most).2]) ∧ Below w.heap.size w w'
theorem numOf_bad {l : List UInt8} (h : ¬ Nice l) (most : Nat) : numOf l most = (0, 4) := by unfold numOf; rw [if_neg (fun e => h ((niceB_iff l).1 e))]
theorem numOf_many {l : List UInt8} {most : Nat} (h : Nice l) (hm : most < val l) : numOf l most = (0, 3) := by unfold numOf; rw [if_pos ((niceB_iff l).2 h), if_pos hm]
theorem numOf_ok {l : List UInt8} {most : Nat} (h : Nice l) (hm : val l ≤ most) : numOf l most = (val l, 0) := by unfold numOf; rw [if_pos ((niceB_iff l).2 h), if_neg (by omega)]
theorem val_mono (l : List UInt8) (k : Nat) : val (l.take k) ≤ val l := by
  have h := foldl_val (l.drop k) (val (l.take k))
  have h2 : val l = (l.drop k).foldl (fun n c => 10 * n + (c.toNat - 48)) (val (l.take k)) := by
    unfold val
    rw [← List.foldl_append, List.take_append_drop]
  have h3 : 1 ≤ 10 ^ (l.drop k).length := by have := Nat.pos_of_ne_zero (n := 10 ^ (l.drop k).length) (by simp); omega
  have h4 : val (l.take k) * 1 ≤ val (l.take k) * 10 ^ (l.drop k).length := Nat.mul_le_mul_left _ h3
  rw [h2, h]; omega
/-- the state of a reading -/
structure St (l : List UInt8) (most k x : Nat) (many : Bool) : Prop where
  digs : ∀ c ∈ l.take k, isD c
  le : x ≤ most
  small : many = false → x = val (l.take k)
  big : many = true → most < val (l.take k)
theorem St.next {l : List UInt8} {most k x : Nat} (h : St l most k x false) (hk : k < l.length) (hd : isD l[k]) (hn : 10 * x + (l[k].toNat - 48) ≤ most) : St l most (k + 1) (10 * x + (l[k].toNat - 48)) false := by
  refine ⟨fun c hc => ?_, hn, fun _ => ?_, fun h => (by cases h)⟩
  · rw [take_snoc l k hk, List.mem_append, List.mem_singleton] at hc
    rcases hc with hc | rfl
    · exact h.digs c hc
    · exact hd
  · rw [take_snoc l k hk, val_snoc, h.small rfl]
theorem St.over {l : List UInt8} {most k x : Nat} {many : Bool} (h : St l most k x many) (hk : k < l.length) (hd : isD l[k]) (hn : many = true ∨ most < 10 * x + (l[k].toNat - 48)) : St l most (k + 1) x true := by
  refine ⟨fun c hc => ?_, h.le, fun h => (by cases h), fun _ => ?_⟩
  · rw [take_snoc l k hk, List.mem_append, List.mem_singleton] at hc
    rcases hc with hc | rfl
    · exact h.digs c hc
    · exact hd
  · rw [take_snoc l k hk, val_snoc]
    rcases hn with hn | hn
    · have := h.big hn; omega
    · cases many with
      | true => have := h.big rfl; omega
      | false => rw [← h.small rfl]; exact hn

set_option maxRecDepth 100000 in
set_option maxHeartbeats 400000 in
theorem numOf_any (l : List UInt8) (most : Nat) (w : World) (hl : l.length ≤ 1099511627776) (hm : most < 18446744073709551616) :
    Calls Tryd.prog 66 #[.string (S l), .int .u64 (most : Int)] w (NumP l most w) := by
  by_cases h0 : l = []
  · have HN : Hid (numOf l most = (0, 4)) := numOf_bad (fun h => h.1 h0) most
    subst h0
    go_enter Tryd.func66, Tryd.ntmps66
    go_wp2_with fail
    go_ret2
    exact ⟨by rw [HN.out]; rfl, Below.refl _ _⟩
  · have hpos : 0 < l.length := List.length_pos_iff.2 h0
    have hi0 : l.toArray.toList = l := rfl
    have hem : (l == []) = false := by rw [beq_eq_false_iff_ne]; exact h0
    by_cases hz : l[0] = 48 ∧ l ≠ [48]
    · have HN : Hid (numOf l most = (0, 4)) := numOf_bad (fun h => hz.2 (by
        have := h.2.2 (by rw [List.getElem?_eq_getElem hpos, hz.1])
        match l, this with
        | [c], _ => rw [← hz.1]; rfl)) most
      have hb : ((l[0].toNat : Int) == 48) = true := by rw [hz.1]; rfl
      have hb2 : (l == [48]) = false := by rw [beq_eq_false_iff_ne]; exact hz.2
      clear hz h0 hi0
      go_enter Tryd.func66, Tryd.ntmps66
      go_wp2_with fail
      go_ret2
      exact ⟨by rw [HN.out]; rfl, Below.refl _ _⟩
    · have HZ : Hid (l[0]? = some 48 → l.length = 1) := fun h => by
        rw [List.getElem?_eq_getElem hpos] at h
        by_cases h1 : l = [48]
        · rw [h1]; rfl
        · exact absurd ⟨Option.some.inj h, h1⟩ hz
      have HNE := Lib.hid h0
      clear h0 hi0
      by_cases hz0 : l[0] = 48
      · have hb : ((l[0].toNat : Int) == 48) = true := by rw [hz0]; rfl
        have hb2 : (l == [48]) = true := by
          rw [beq_iff_eq]
          by_cases h1 : l = [48]
          · exact h1
          · exact absurd ⟨hz0, h1⟩ hz
        clear hz hz0
        go_enter Tryd.func66, Tryd.ntmps66
        go_wp2_with fail
        have HW1 : Hid (w.iter (S l) 0 = w.alloc (.stringIter (S l) 0)) := rfl
        have HS : Hid ((S l).size = l.length) := S_size l
        have HSB : Hid (∀ k (h : k < (S l).size), (S l)[k] = l[k]'(by rw [← S_size]; exact h)) := fun k h => rfl
        go_loopw [6, 7] (fun n m wr => ∃ (k x : Nat) (many : Bool), k ≤ l.length ∧ n = .int .u64 (x : Int) ∧ m = .bool many ∧ St l most k x many ∧ wr.heap[w.heap.size]? = some (.stringIter (S l) k) ∧ Below w.heap.size w wr) (fun _ _ wr => l.length - wr.iterPos w.heap.size)
        case atStart => exact ⟨0, 0, false, by omega, rfl, rfl, ⟨fun c hc => by simp at hc, by omega, fun _ => rfl, fun h => (by cases h)⟩, World.iter_heap _ _ _, by rw [HW1.out]; exact Below.allocs _ _⟩
        case round =>
          obtain ⟨k, x, many, hk, rfl, rfl, hst, hit, hbw⟩ := hrel
          have HST := Lib.hid hst
          have HIT := Lib.hid hit
          have HBW := Lib.hid hbw
          have hxm := hst.le
          clear hst hit hbw
          by_cases hlt : k < l.length
          · obtain ⟨D, Wd, hnx, hD1, hD2⟩ := next_rune wr _ (S l) k HIT.out (by rw [HS.out]; exact hlt)
            have HIT1 := Lib.hid (Lib.iterAt_heap wr _ (S l) k (k + Wd) HIT.out)
            have HB2 := Lib.hid (Lib.below_iterAt HBW.out (Nat.le_refl _) (S l) (k + Wd))
            rw [HSB.out] at hD2
            have HD2 := Lib.hid hD2
            clear hD2
            by_cases hdg : 48 ≤ D ∧ D ≤ 57
            · obtain ⟨h48, h57⟩ := hdg
              obtain ⟨hDk, rfl⟩ : D = (l[k]'hlt).toNat ∧ Wd = 1 := by
                rcases HD2.out with h | h
                · exact h.2
                · omega
              have HDK := Lib.hid hDk
              have HID : Hid (isD (l[k]'hlt)) := ⟨by omega, by omega⟩
              have b1 : decide ((D : Int) < 48) = false := decide_eq_false (by omega)
              have b2 : decide ((57 : Int) < (D : Int)) = false := decide_eq_false (by omega)
              obtain ⟨d, rfl⟩ : ∃ d, D = 48 + d := ⟨D - 48, by omega⟩
              clear hDk
              cases many with
              | true =>
                have HN := Lib.hid (HST.out.over hlt HID.out (.inl rfl))
                go_wp2_with fail
                go_roundw
                case rel => exact ⟨k + 1, x, true, by omega, rfl, rfl, HN.out, HIT1.out, HB2.out⟩
                case measure => simp [World.iterPos, HIT.out, HIT1.out]; omega
              | false =>
                by_cases hmd : most < d
                · have HN := Lib.hid (HST.out.over hlt HID.out (.inr (by rw [← HDK.out]; omega)))
                  go_wp2_with fail
                  all_goals
                    go_roundw
                    case rel => exact ⟨k + 1, x, true, by omega, rfl, rfl, HN.out, HIT1.out, HB2.out⟩
                    case measure => simp [World.iterPos, HIT.out, HIT1.out]; omega
                · by_cases hov : most < 10 * x + d
                  · have HN := Lib.hid (HST.out.over hlt HID.out (.inr (by rw [← HDK.out]; omega)))
                    go_wp2_with fail
                    go_roundw
                    case rel => exact ⟨k + 1, x, true, by omega, rfl, rfl, HN.out, HIT1.out, HB2.out⟩
                    case measure => simp [World.iterPos, HIT.out, HIT1.out]; omega
                  · have HN := Lib.hid (HST.out.next hlt HID.out (by rw [← HDK.out]; omega))
                    go_wp2_with fail
                    go_roundw
                    case rel => exact ⟨k + 1, _, false, by omega, by rw [← HDK.out]; go_num, rfl, HN.out, HIT1.out, HB2.out⟩
                    case measure => simp [World.iterPos, HIT.out, HIT1.out]; omega
            · have HBAD : Hid (¬ Nice l) := fun h => by
                have h1 := h.2.1 (l[k]'hlt) (List.getElem_mem _)
                unfold isD at h1
                rcases HD2.out with h2 | h2
                · omega
                · omega
              have HN := Lib.hid (numOf_bad HBAD.out most)
              by_cases h48 : D < 48
              · have b1 : decide ((D : Int) < 48) = true := decide_eq_true (by omega)
                clear hdg
                go_wp2_with fail
                go_ret2
                exact ⟨by rw [HN.out]; rfl, HB2.out⟩
              · have b1 : decide ((D : Int) < 48) = false := decide_eq_false (by omega)
                have b2 : decide ((57 : Int) < (D : Int)) = true := decide_eq_true (by omega)
                clear hdg
                go_wp2_with fail
                go_ret2
                exact ⟨by rw [HN.out]; rfl, HB2.out⟩
          · obtain rfl : k = l.length := by omega
            have hnd : ∀ ty, (Instr.next (.pointer (some ⟨w.heap.size, 0, none⟩)) true ty).run Tryd.prog wr = .ok (.tuple #[.bool false]) wr := fun ty => Lib.run_next_end_at wr _ (S l) _ ty HIT.out (by rw [HS.out]; omega)
            have HNI : Hid (Nice l) := ⟨HNE.out, fun c hc => HST.out.digs c (by rw [List.take_length]; exact hc), HZ.out⟩
            cases many with
            | true =>
              have HN := Lib.hid (numOf_many HNI.out (by have := HST.out.big rfl; rwa [List.take_length] at this))
              go_wp2_with fail
              go_ret2
              exact ⟨by rw [HN.out]; rfl, HBW.out⟩
            | false =>
              have HSM : Hid (x = val l) := by have := HST.out.small rfl; rwa [List.take_length] at this
              have HN := Lib.hid (numOf_ok HNI.out (by rw [← HSM.out]; exact hxm))
              go_wp2_with fail
              go_ret2
              exact ⟨by rw [HN.out, HSM.out]; rfl, HBW.out⟩
      · have hb : ((l[0].toNat : Int) == 48) = false := by
          rw [beq_eq_false_iff_ne]; intro e
          exact hz0 (UInt8.toNat_inj.1 (by have h0 : (48 : UInt8).toNat = 48 := rfl; omega))
        clear hz hz0
        go_enter Tryd.func66, Tryd.ntmps66
        go_wp2_with fail
        have HW1 : Hid (w.iter (S l) 0 = w.alloc (.stringIter (S l) 0)) := rfl
        have HS : Hid ((S l).size = l.length) := S_size l
        have HSB : Hid (∀ k (h : k < (S l).size), (S l)[k] = l[k]'(by rw [← S_size]; exact h)) := fun k h => rfl
        go_loopw [6, 7] (fun n m wr => ∃ (k x : Nat) (many : Bool), k ≤ l.length ∧ n = .int .u64 (x : Int) ∧ m = .bool many ∧ St l most k x many ∧ wr.heap[w.heap.size]? = some (.stringIter (S l) k) ∧ Below w.heap.size w wr) (fun _ _ wr => l.length - wr.iterPos w.heap.size)
        case atStart => exact ⟨0, 0, false, by omega, rfl, rfl, ⟨fun c hc => by simp at hc, by omega, fun _ => rfl, fun h => (by cases h)⟩, World.iter_heap _ _ _, by rw [HW1.out]; exact Below.allocs _ _⟩
        case round =>
          obtain ⟨k, x, many, hk, rfl, rfl, hst, hit, hbw⟩ := hrel
          have HST := Lib.hid hst
          have HIT := Lib.hid hit
          have HBW := Lib.hid hbw
          have hxm := hst.le
          clear hst hit hbw
          by_cases hlt : k < l.length
          · obtain ⟨D, Wd, hnx, hD1, hD2⟩ := next_rune wr _ (S l) k HIT.out (by rw [HS.out]; exact hlt)
            have HIT1 := Lib.hid (Lib.iterAt_heap wr _ (S l) k (k + Wd) HIT.out)
            have HB2 := Lib.hid (Lib.below_iterAt HBW.out (Nat.le_refl _) (S l) (k + Wd))
            rw [HSB.out] at hD2
            have HD2 := Lib.hid hD2
            clear hD2
            by_cases hdg : 48 ≤ D ∧ D ≤ 57
            · obtain ⟨h48, h57⟩ := hdg
              obtain ⟨hDk, rfl⟩ : D = (l[k]'hlt).toNat ∧ Wd = 1 := by
                rcases HD2.out with h | h
                · exact h.2
                · omega
              have HDK := Lib.hid hDk
              have HID : Hid (isD (l[k]'hlt)) := ⟨by omega, by omega⟩
              have b1 : decide ((D : Int) < 48) = false := decide_eq_false (by omega)
              have b2 : decide ((57 : Int) < (D : Int)) = false := decide_eq_false (by omega)
              obtain ⟨d, rfl⟩ : ∃ d, D = 48 + d := ⟨D - 48, by omega⟩
              clear hDk
              cases many with
              | true =>
                have HN := Lib.hid (HST.out.over hlt HID.out (.inl rfl))
                go_wp2_with fail
                go_roundw
                case rel => exact ⟨k + 1, x, true, by omega, rfl, rfl, HN.out, HIT1.out, HB2.out⟩
                case measure => simp [World.iterPos, HIT.out, HIT1.out]; omega
              | false =>
                by_cases hmd : most < d
                · have HN := Lib.hid (HST.out.over hlt HID.out (.inr (by rw [← HDK.out]; omega)))
                  go_wp2_with fail
                  all_goals
                    go_roundw
                    case rel => exact ⟨k + 1, x, true, by omega, rfl, rfl, HN.out, HIT1.out, HB2.out⟩
                    case measure => simp [World.iterPos, HIT.out, HIT1.out]; omega
                · by_cases hov : most < 10 * x + d
                  · have HN := Lib.hid (HST.out.over hlt HID.out (.inr (by rw [← HDK.out]; omega)))
                    go_wp2_with fail
                    go_roundw
                    case rel => exact ⟨k + 1, x, true, by omega, rfl, rfl, HN.out, HIT1.out, HB2.out⟩
                    case measure => simp [World.iterPos, HIT.out, HIT1.out]; omega
                  · have HN := Lib.hid (HST.out.next hlt HID.out (by rw [← HDK.out]; omega))
                    go_wp2_with fail
                    go_roundw
                    case rel => exact ⟨k + 1, _, false, by omega, by rw [← HDK.out]; go_num, rfl, HN.out, HIT1.out, HB2.out⟩
                    case measure => simp [World.iterPos, HIT.out, HIT1.out]; omega
            · have HBAD : Hid (¬ Nice l) := fun h => by
                have h1 := h.2.1 (l[k]'hlt) (List.getElem_mem _)
                unfold isD at h1
                rcases HD2.out with h2 | h2
                · omega
                · omega
              have HN := Lib.hid (numOf_bad HBAD.out most)
              by_cases h48 : D < 48
              · have b1 : decide ((D : Int) < 48) = true := decide_eq_true (by omega)
                clear hdg
                go_wp2_with fail
                go_ret2
                exact ⟨by rw [HN.out]; rfl, HB2.out⟩
              · have b1 : decide ((D : Int) < 48) = false := decide_eq_false (by omega)
                have b2 : decide ((57 : Int) < (D : Int)) = true := decide_eq_true (by omega)
                clear hdg
                go_wp2_with fail
                go_ret2
                exact ⟨by rw [HN.out]; rfl, HB2.out⟩
          · obtain rfl : k = l.length := by omega
            have hnd : ∀ ty, (Instr.next (.pointer (some ⟨w.heap.size, 0, none⟩)) true ty).run Tryd.prog wr = .ok (.tuple #[.bool false]) wr := fun ty => Lib.run_next_end_at wr _ (S l) _ ty HIT.out (by rw [HS.out]; omega)
            have HNI : Hid (Nice l) := ⟨HNE.out, fun c hc => HST.out.digs c (by rw [List.take_length]; exact hc), HZ.out⟩
            cases many with
            | true =>
              have HN := Lib.hid (numOf_many HNI.out (by have := HST.out.big rfl; rwa [List.take_length] at this))
              go_wp2_with fail
              go_ret2
              exact ⟨by rw [HN.out]; rfl, HBW.out⟩
            | false =>
              have HSM : Hid (x = val l) := by have := HST.out.small rfl; rwa [List.take_length] at this
              have HN := Lib.hid (numOf_ok HNI.out (by rw [← HSM.out]; exact hxm))
              go_wp2_with fail
              go_ret2
              exact ⟨by rw [HN.out, HSM.out]; rfl, HBW.out⟩
end Go.Proofs.YtcddgbobbogpgaaDoor.HexW

namespace Go.Proofs.YtcddgbobbogpgaaDoor.Rpl
open Go.Mir Go.Mir.Hx HexW
open Go.Lib (join joinTail splitK count index)

/-! ### words -/
def sp : List UInt8 → List (List UInt8)
  | [] => [[]]
  | c :: r => if c = 32 then [] :: sp r else match sp r with
    | [] => [[c]]
    | h :: t => (c :: h) :: t
theorem sp_ne : ∀ s : List UInt8, sp s ≠ []
  | [] => by simp [sp]
  | c :: r => by
    unfold sp
    split
    · simp
    · split <;> simp
theorem sp_form (s : List UInt8) : ∃ h t, sp s = h :: t := by
  cases hs : sp s with
  | nil => exact absurd hs (sp_ne s)
  | cons h t => exact ⟨h, t, rfl⟩
theorem sp_pos (s : List UInt8) : 1 ≤ (sp s).length := by
  obtain ⟨h, t, e⟩ := sp_form s
  rw [e]; simp
theorem sp_blank (r : List UInt8) : sp (32 :: r) = [] :: sp r := by rw [sp]; rfl
theorem sp_sign {c : UInt8} (hc : ¬ c = 32) {r : List UInt8} {h : List UInt8} {t : List (List UInt8)} (e : sp r = h :: t) : sp (c :: r) = (c :: h) :: t := by
  rw [sp, if_neg hc, e]
/-- one sign more at the last word -/
def app1 (ws : List (List UInt8)) (c : UInt8) : List (List UInt8) := ws.set (ws.length - 1) ((ws[ws.length - 1]?.getD []) ++ [c])
theorem app1_cons (h : List UInt8) {t : List (List UInt8)} (ht : t ≠ []) (c : UInt8) : app1 (h :: t) c = h :: app1 t c := by
  cases t with
  | nil => exact absurd rfl ht
  | cons y t => simp [app1]
theorem sp_snoc (c : UInt8) : ∀ l : List UInt8, sp (l ++ [c]) = if c = 32 then sp l ++ [[]] else app1 (sp l) c
  | [] => by
    by_cases hc : c = 32
    · subst hc; rfl
    · rw [if_neg hc, List.nil_append, sp_sign hc (show sp [] = [] :: [] from rfl)]; rfl
  | x :: r => by
    have ih := sp_snoc c r
    obtain ⟨h, t, e⟩ := sp_form r
    rw [List.cons_append]
    by_cases hx : x = 32
    · subst hx
      rw [sp_blank, sp_blank, ih]
      split
      · rfl
      · rw [app1_cons _ (sp_ne r)]
    · rw [sp_sign hx e]
      rw [e] at ih
      by_cases hc : c = 32
      · rw [if_pos hc] at ih ⊢
        rw [sp_sign hx ih]; rfl
      · rw [if_neg hc] at ih ⊢
        cases t with
        | nil =>
          have e2 : app1 [h] c = [h ++ [c]] := rfl
          rw [e2] at ih
          rw [sp_sign hx ih]; rfl
        | cons y t =>
          rw [app1_cons h (t := y :: t) (by simp) c] at ih
          rw [sp_sign hx ih, app1_cons (x :: h) (t := y :: t) (by simp) c]
theorem join_sp : ∀ s : List UInt8, join (sp s) [32] = s
  | [] => rfl
  | c :: r => by
    have ih := join_sp r
    obtain ⟨h, t, e⟩ := sp_form r
    by_cases hc : c = 32
    · subst hc
      rw [sp_blank, Go.Lib.join_cons, e]
      rw [e, Go.Lib.join_cons] at ih
      simp only [joinTail, List.map_cons, List.flatten_cons, List.nil_append, List.append_assoc] at ih ⊢
      rw [ih]; rfl
    · rw [sp_sign hc e, Go.Lib.join_cons]
      rw [e, Go.Lib.join_cons] at ih
      rw [List.cons_append, ih]
theorem sp_app : ∀ (x : List UInt8), (32 : UInt8) ∉ x → ∀ z, sp (x ++ 32 :: z) = x :: sp z
  | [], _, z => by rw [List.nil_append, sp_blank]
  | c :: r, h, z => by
    rw [List.cons_append, sp_sign (fun e => h (by rw [e]; exact List.mem_cons_self)) (sp_app r (fun hm => h (List.mem_cons_of_mem _ hm)) z)]
theorem sp_one : ∀ (x : List UInt8), (32 : UInt8) ∉ x → sp x = [x]
  | [], _ => rfl
  | c :: r, h => sp_sign (fun e => h (by rw [e]; exact List.mem_cons_self)) (sp_one r (fun hm => h (List.mem_cons_of_mem _ hm)))
theorem sp_join : ∀ (ws : List (List UInt8)), ws ≠ [] → (∀ x ∈ ws, (32 : UInt8) ∉ x) → sp (join ws [32]) = ws
  | [], h, _ => absurd rfl h
  | [x], _, h => by rw [Go.Lib.join_one]; exact sp_one x (h x (by simp))
  | x :: y :: r, _, h => by
    have ih := sp_join (y :: r) (by simp) (fun z hz => h z (List.mem_cons_of_mem _ hz))
    rw [Go.Lib.join_cons] at ih
    have e : join (x :: y :: r) [32] = x ++ 32 :: (y ++ joinTail [32] r) := by
      rw [Go.Lib.join_cons]
      simp [joinTail]
    rw [e, sp_app x (h x (by simp)), ih]
theorem split_sp : ∀ s : List UInt8, splitK [32] 0 (count s [32]) s = sp s
  | [] => by rw [Go.Lib.count_one]; rfl
  | c :: r => by
    have ih := split_sp r
    by_cases hc : c = 32
    · subst hc
      have hix : index (32 :: r) [32] = ((0 : Nat) : Int) := by rw [index]; simp [List.isPrefixOf]
      rw [Go.Lib.count_cons_eq, Nat.add_comm 1, splitK, hix, sp_blank, ← ih]
      rfl
    · have hp : ([32] : List UInt8).isPrefixOf (c :: r) = false := by simp [List.isPrefixOf, Ne.symm hc]
      have hix : index (c :: r) [32] = if index r [32] == -1 then -1 else index r [32] + 1 := by rw [index, hp]; simp
      rw [Go.Lib.count_cons_ne c 32 r hc]
      cases hk : count r [32] with
      | zero =>
        rw [hk] at ih
        rw [sp_sign hc (show sp r = r :: [] from ih.symm)]
        rfl
      | succ k =>
        rw [hk] at ih
        by_cases hm : index r [32] = -1
        · have := Go.Lib.count_miss hm
          omega
        · have hge := Go.Lib.index_ge r [32]
          obtain ⟨j, hj⟩ : ∃ j : Nat, index r [32] = j := ⟨(index r [32]).toNat, by omega⟩
          have hix' : index (c :: r) [32] = ((j + 1 : Nat) : Int) := by rw [hix, if_neg (fun e => hm (beq_iff_eq.1 e)), hj]; omega
          have n1 : ¬ (((j + 1 : Nat) : Int) == -1) = true := fun e => by have := beq_iff_eq.1 e; omega
          have n2 : ¬ (((j : Nat) : Int) == -1) = true := fun e => by have := beq_iff_eq.1 e; omega
          rw [splitK, hj, if_neg n2] at ih
          rw [sp_sign hc ih.symm, splitK, hix', if_neg n1]
          rfl
theorem sp_len : ∀ (s : List UInt8), ∀ x ∈ sp s, x.length ≤ s.length
  | [], x, hx => by
    have hx : x ∈ [([] : List UInt8)] := hx
    rw [List.mem_singleton] at hx
    rw [hx]; exact Nat.le_refl _
  | c :: r, x, hx => by
    have ih := sp_len r
    obtain ⟨h, t, e⟩ := sp_form r
    by_cases hc : c = 32
    · subst hc
      rw [sp_blank] at hx
      rcases List.mem_cons.1 hx with rfl | hx
      · exact Nat.zero_le _
      · have := ih x hx
        rw [List.length_cons]; omega
    · rw [sp_sign hc e] at hx
      rw [e] at ih
      rcases List.mem_cons.1 hx with rfl | hx
      · have := ih h List.mem_cons_self
        rw [List.length_cons, List.length_cons]; omega
      · have := ih x (List.mem_cons_of_mem _ hx)
        rw [List.length_cons]; omega
/-! ### names -/
def E21 : List (List UInt8) := [[111, 107], [97, 114, 103], [115, 104, 111, 114, 116], [108, 111, 110, 103], [102, 111, 114, 109], [110, 111, 110, 101], [116, 119, 105, 99, 101], [110, 105, 108], [115, 101, 97, 108], [115, 117, 109], [115, 116, 97, 116, 101], [104, 97, 108, 116, 101, 100], [115, 101, 115, 115, 105, 111, 110], [101, 120, 112, 105, 114, 101, 100], [115, 101, 113], [113, 117, 111, 116, 97], [109, 97, 110, 121], [100, 105, 115, 107], [100, 111, 119, 110], [112, 97, 114, 101, 110, 116], [100, 101, 101, 112]]
def K7 : List (List UInt8) := [[110, 111, 110, 101], [111, 112, 101, 110], [117, 112, 108, 111, 97, 100], [97, 115, 107], [99, 108, 111, 115, 101], [99, 111, 110, 110, 101, 99, 116], [100, 105, 115, 99, 111, 110, 110, 101, 99, 116]]
def nameB (n : Int) (ls : List (List UInt8)) : List UInt8 := if 0 ≤ n ∧ n < (ls.length : Int) then (ls[n.toNat]?).getD [] else [63]
/-! ### replies -/
structure RP where
  kind : Int
  err : Int
  se : Nat
  sq : Nat
  qu : Nat
  us : Nat
  ex : Nat
def RP.nums (r : RP) : List Nat := [r.se, r.sq, r.qu, r.us, r.ex]
def RP.zero : RP := ⟨0, 0, 0, 0, 0, 0, 0⟩
def RP.wf (r : RP) : Prop := ∀ n ∈ r.nums, n < 4294967296
def RP.kinds (r : RP) : Prop := 0 ≤ r.kind ∧ r.kind ≤ 6 ∧ 0 ≤ r.err ∧ r.err ≤ 20
def RP.only (r : RP) : Prop := r.err = 0 ∨ (r.se = 0 ∧ r.sq = 0 ∧ r.qu = 0 ∧ r.us = 0 ∧ r.ex = 0)
def RP.right (r : RP) : Prop := r.kinds ∧ r.only
instance (r : RP) : Decidable r.kinds := by unfold RP.kinds; infer_instance
instance (r : RP) : Decidable r.only := by unfold RP.only; infer_instance
instance (r : RP) : Decidable r.right := by unfold RP.right; infer_instance
def words (r : RP) : List (List UInt8) := [nameB r.kind K7, nameB r.err E21] ++ (if r.err = 0 then r.nums.map decL else [])
theorem numOf_dec (n most : Nat) (h : n ≤ most) : numOf (decL n) most = (n, 0) := by
  rw [numOf_ok (dec_nice n) (by rw [val_dec]; exact h), val_dec]
theorem numOf_cases (l : List UInt8) (most : Nat) : (∃ v, numOf l most = (v, 0) ∧ decL v = l ∧ v ≤ most) ∨ ∃ e, numOf l most = (0, e) ∧ (e = 3 ∨ e = 4) := by
  by_cases h : Nice l
  · by_cases hm : most < val l
    · exact .inr ⟨3, numOf_many h hm, .inl rfl⟩
    · exact .inl ⟨val l, numOf_ok h (by omega), dec_val l h, by omega⟩
  · exact .inr ⟨4, numOf_bad h most, .inr rfl⟩
theorem numOf_back {l : List UInt8} {most : Nat} (h : (numOf l most).2 = 0) : decL (numOf l most).1 = l ∧ (numOf l most).1 ≤ most := by
  rcases numOf_cases l most with ⟨v, e, h1, h2⟩ | ⟨x, e, h1⟩
  · rw [e]; exact ⟨h1, h2⟩
  · rw [e] at h
    rcases h1 with rfl | rfl
    · exact absurd h (by decide)
    · exact absurd h (by decide)
theorem dec_no32 (n : Nat) : (32 : UInt8) ∉ decL n := fun h => by
  have := (dec_digits n 32 h).1
  exact absurd this (by decide)
end Go.Proofs.YtcddgbobbogpgaaDoor.Rpl

namespace Go.Mir
open Go.RowKit

/-! ### an id -/
def idA (x : List UInt8) : Array Value := (bytesV x).toArray
theorem idA_toList (x : List UInt8) : (idA x).toList = bytesV x := by simp [idA]
theorem idA_size (x : List UInt8) : (idA x).size = x.length := by rw [← Array.length_toList, idA_toList, bytesV_length]
theorem idA_one (x : List UInt8) : (idA x).all (·.oneCell') = true := by
  have := all_oneCell_toArray (bytesV_one x)
  rw [← idA_toList, Array.toArray_toList] at this; exact this
theorem run_equal_ids {P : Program} (w : World) (d : Nat) {t e : TypeId} {n : Nat} (hu : P.underlying t = some (.array n e)) (he : P.underlying e = some (.int .u8)) (hi : (P.info? e).isSome = true) (hc : P.cellsOf e = 1) (hp : P.plainKey e = true) (a b : List UInt8) (ha : a.length = n) (hb : b.length = n) :
    (Op.equalIn (d + 2) t (.agg (idA a)) (.agg (idA b))).run P w = .ok (a == b) w :=
  run_equal_bytes w d hu he (Option.isSome_iff_exists.1 hi) hc hp a b ha hb
/-- a row of its own, and parts of it -/
theorem range_row {w : World} {b : Nat} {M : Array Value} {t : TypeId} {fr : Nat × Nat} (h : w.heap[b]? = some (.cells M t fr)) (A B C : List Value) (hM : M.toList = A ++ B ++ C) : w.rangeAt b A.length B := fun j v hv => by
  have hj := (List.getElem?_eq_some_iff.1 hv).1
  rw [cell_of_row _ _ _ _ _ _ h, ← Array.getElem?_toList, hM, List.getElem?_append_left (by rw [List.length_append]; omega), List.getElem?_append_right (by omega), Nat.add_sub_cancel_left]; exact hv
theorem box_new (w : World) (Z : Array Value) (t : TypeId) : (w.alloc (.cells Z t)).heap[w.heap.size]? = some (.cells Z t (0, 0)) := heap_alloc_last _ _
theorem box_row (w : World) (Z X : Array Value) (t : TypeId) : ((w.alloc (.cells Z t)).setRow w.heap.size X).heap[w.heap.size]? = some (.cells X t (0, 0)) := setRow_heap _ _ _ _ _ _ (box_new w Z t)
theorem box_below (w : World) (Z X : Array Value) (t : TypeId) : Below w.heap.size w ((w.alloc (.cells Z t)).setRow w.heap.size X) := below_setRow (Below.allocs _ _) (Nat.le_refl _) _
theorem two_allocs (w : World) (o o2 : Obj) : ((w.alloc o).alloc o2).heap[w.heap.size]? = some o ∧ ((w.alloc o).alloc o2).heap[w.heap.size + 1]? = some o2 ∧ ((w.alloc o).alloc o2).heap.size = w.heap.size + 2 ∧ Below w.heap.size w ((w.alloc o).alloc o2) := by
  refine ⟨block_old _ (heap_alloc_last _ _), ?_, by simp, (Below.allocs _ _).alloc (by simp) _⟩
  have := heap_alloc_last (w.alloc o) o2
  simpa using this

/-! ### a literal of one aggregate -/
theorem fold_put (off : Nat) : ∀ (L : List Value) (s : Nat) (A : Array Value), off + s + L.length ≤ A.size →
    ((L.zipIdx s).foldl (fun cs (x : Value × Nat) => cs.setIfInBounds (off + x.2) x.1) A).size = A.size ∧ ∀ i, ((L.zipIdx s).foldl (fun cs (x : Value × Nat) => cs.setIfInBounds (off + x.2) x.1) A)[i]? = if off + s ≤ i ∧ i < off + s + L.length then L[i - (off + s)]? else A[i]?
  | [], s, A, _ => ⟨rfl, fun i => by rw [if_neg (by simp <;> omega)]; rfl⟩
  | v :: L, s, A, h => by
    simp only [List.length_cons] at h
    obtain ⟨h1, h2⟩ := fold_put off L (s + 1) (A.setIfInBounds (off + s) v) (by simp; omega)
    rw [List.zipIdx_cons, List.foldl_cons]
    refine ⟨by rw [h1]; simp, fun i => ?_⟩
    rw [h2 i, Array.getElem?_setIfInBounds]
    by_cases hi : off + (s + 1) ≤ i ∧ i < off + (s + 1) + L.length
    · rw [if_pos hi, if_pos (by simp; omega), show i - (off + s) = (i - (off + (s + 1))) + 1 by omega, List.getElem?_cons_succ]
    · rw [if_neg hi]
      by_cases ho : off + s = i
      · subst ho
        rw [if_pos rfl, if_pos (by omega), if_pos (by simp)]; simp
      · rw [if_neg ho, if_neg (by simp; omega)]
theorem fill_one (Z M : Array Value) (size : Nat) (hZ : Z.size = size) (hM : M.size = size) : Instr.fill (fun i => some (i * size, size)) Z [(0, .agg M)] = some M := by
  have hc : (Value.agg M).cells = M := rfl
  simp only [Instr.fill, hc]
  rw [if_neg (by simp [hM, hZ])]
  simp only [Option.some.injEq, Nat.zero_mul]
  rw [← Array.foldl_toList, Array.toList_zipIdx]
  obtain ⟨h1, h2⟩ := fold_put 0 M.toList 0 Z (by simp; omega)
  apply Array.ext_getElem?
  intro i
  rw [h2 i]
  by_cases hi : i < M.size
  · rw [if_pos (by simp; omega)]; simp
  · rw [if_neg (by simp; omega), Array.getElem?_eq_none (by omega), Array.getElem?_eq_none (by omega)]
theorem wpList_buildOne {P : Program} {ops : Array Oper} {rest : List Oper} {o : Oper} {a : Act} {w : World} {Q : Exit → Act → World → Prop} (hg : o.guard = none) (t e : TypeId) (x : Operand) (ho : o.op = .buildSlice t 1 #[(0, x)])
    (M : Array Value) (hx : a.eval x = .agg M) (size : Nat) (hu : P.underlying t = some (.slice e)) (hie : (P.info? e).map (fun i => (i.zero.isSome, i.size)) = some (true, size)) (hsm : size ≤ 16777216) (hpos : 0 < size) (hM : M.size = size)
    (h : wpList P ops Q rest (a.put o.dst (.slice (some ⟨w.heap.size, 0, none⟩) 1 1)) (w.alloc (.cells M e))) : wpList P ops Q (o :: rest) a w := by
  obtain ⟨ie, hi, he⟩ := Option.map_eq_some_iff.1 hie
  obtain ⟨hz, rfl⟩ := Prod.mk.inj he
  obtain ⟨z, hz⟩ := Option.isSome_iff_exists.1 hz
  refine wpList_buildSlice hg t e 1 #[(0, x)] ho M ie z hu hi hz (by rw [Nat.one_mul]; omega) (by omega) ?_ h
  have : (#[(0, x)].map fun (p : Nat × Operand) => (p.1, a.eval p.2)).toList = [(0, .agg M)] := by simp [hx]
  rw [this]
  exact fill_one _ M _ (by simp) hM

/-- is it the operation that fills this slot? the store into what this slot holds? (guards for an arm, cheap) -/
theorem wpAt {P : Program} {ops : Array Oper} {rest : List Oper} {a : Act} {w : World} {Q : Exit → Act → World → Prop} (n : Nat) {op : Op} {t : TypeId} {p : String} {af : Array Edge} {g : Option (Nat × Bool)} (h : wpList P ops Q (⟨some n, op, t, p, af, g⟩ :: rest) a w) : wpList P ops Q (⟨some n, op, t, p, af, g⟩ :: rest) a w := h
theorem wpStoreAt {P : Program} {ops : Array Oper} {rest : List Oper} {a : Act} {w : World} {Q : Exit → Act → World → Prop} (n : Nat) {d : Option Nat} {ty : TypeId} {y : Operand} {t : TypeId} {p : String} {af : Array Edge} {g : Option (Nat × Bool)} (h : wpList P ops Q (⟨d, .store ty (.tmp n) y, t, p, af, g⟩ :: rest) a w) : wpList P ops Q (⟨d, .store ty (.tmp n) y, t, p, af, g⟩ :: rest) a w := h

theorem turns_setRow (w : World) (g : Nat) (cs : Array Value) : Turns (fun i => i = g) w (w.setRow g cs) := ⟨rfl, rfl, rfl, by simp [World.setRow], fun k _ hk => setRow_other w g k cs hk⟩

/-! ### ids, one behind the other -/
theorem Is.range {w : World} {b o n c size : Nat} {ids : List (List UInt8)} (h : Is w (some ⟨b, o, none⟩) n c size ids) (hs : size ≤ 9223372036854775807) (i : Nat) (hi : i < ids.length) : w.rangeAt b (o + i * size) (idA ids[i]).toList := fun j v hv => by
  rw [idA_toList] at hv
  exact (h.one i hi hs).at hv
theorem Is.nil (w : World) (size : Nat) : Is w none 0 0 size [] := ⟨Sl.nil _ _, fun _ h => by simp at h, rfl⟩

/-! ### a block: a hash, a parent, ids -/
structure BlkD where
  hash : List UInt8
  par : List UInt8
  txs : List (List UInt8)
def blkA (h p : List UInt8) (q : Option Addr) (n c : Nat) : Array Value := (bytesV h ++ bytesV p ++ [Value.slice q n c]).toArray
theorem blkA_toList (h p : List UInt8) (q : Option Addr) (n c : Nat) : (blkA h p q n c).toList = bytesV h ++ bytesV p ++ [Value.slice q n c] := by simp [blkA]
/-- a block's value, in a world -/
structure BlkAt (w : World) (M : Array Value) (d : BlkD) (q : Option Addr) (n c : Nat) : Prop where
  arr : M = blkA d.hash d.par q n c
  hlen : d.hash.length = 32
  plen : d.par.length = 32
  ids : Is w q n c 32 d.txs
theorem BlkAt.below {w w' : World} {M : Array Value} {d : BlkD} {q : Option Addr} {n c : Nat} (h : BlkAt w M d q n c) (hb : Below w.heap.size w w') : BlkAt w' M d q n c := ⟨h.arr, h.hlen, h.plen, h.ids.below hb⟩
theorem BlkAt.size {w : World} {M : Array Value} {d : BlkD} {q : Option Addr} {n c : Nat} (h : BlkAt w M d q n c) : M.size = 65 := by
  rw [h.arr, ← Array.length_toList, blkA_toList]; simp [bytesV_length, h.hlen, h.plen]
theorem BlkAt.one {w : World} {M : Array Value} {d : BlkD} {q : Option Addr} {n c : Nat} (h : BlkAt w M d q n c) : M.all (·.oneCell') = true := by
  have := all_oneCell_toArray (cs := M.toList) (fun v hv => by
    rw [h.arr, blkA_toList] at hv
    simp only [List.mem_append, List.mem_singleton] at hv
    rcases hv with (hv | hv) | hv
    · exact bytesV_one _ v hv
    · exact bytesV_one _ v hv
    · rw [hv]; rfl)
  rwa [Array.toArray_toList] at this
/-- its parts, where it lies in a row of its own -/
theorem BlkAt.parts {w wb : World} {M : Array Value} {d : BlkD} {q : Option Addr} {n c : Nat} (h : BlkAt w M d q n c) {b : Nat} {t : TypeId} {fr : Nat × Nat} (hr : wb.heap[b]? = some (.cells M t fr)) :
    wb.rangeAt b 0 (idA d.hash).toList ∧ wb.rangeAt b 32 (idA d.par).toList ∧ wb.cell? ⟨b, 64, none⟩ = some (.slice q n c) := by
  have hM : M.toList = bytesV d.hash ++ bytesV d.par ++ [Value.slice q n c] := by rw [h.arr, blkA_toList]
  refine ⟨?_, ?_, ?_⟩
  · have := range_row hr [] (bytesV d.hash) (bytesV d.par ++ [Value.slice q n c]) (by rw [hM]; simp)
    rw [idA_toList]; exact this
  · have := range_row hr (bytesV d.hash) (bytesV d.par) [Value.slice q n c] hM
    rw [bytesV_length, h.hlen] at this
    rw [idA_toList]; exact this
  · have := range_row hr (bytesV d.hash ++ bytesV d.par) [Value.slice q n c] [] (by rw [hM]; simp)
    rw [List.length_append, bytesV_length, bytesV_length, h.hlen, h.plen] at this
    exact this 0 _ rfl

/-! ### a region that draws its order, whose calls make memory and hand back plain values -/
/-- worlds in which nothing below 'w' has turned -/
def Grown (w : World) : Type := { w' : World // Below w.heap.size w w' }
instance (w : World) : Nonempty (Grown w) := ⟨⟨w, Below.refl _ _⟩⟩
def Grown.v {w : World} (x : Grown w) : World := x.1
theorem Grown.b {w : World} (x : Grown w) : Below w.heap.size w x.v := x.2
theorem wp_region_grow {P : Program} {id : Nat} {Q : Exit → Act → World → Prop} {a : Act} {w : World} {l : List Oper} (hm : P.follows .mixedOrders = true) (hB : Region.lexB .any l.toArray = true)
    (h : wpQuiet P l.toArray (fun w' => ∃ x : Grown w, w' = x.v) (fun a' => ∀ w', Below w.heap.size w w' → Q .normal a' w') l a) : (Code.region id l.toArray true).wp P Q a w := by
  refine wp_region_quiet (C := fun w' => ∃ x : Grown w, w' = x.v) hm hB ⟨⟨w.drew, ⟨rfl, rfl, rfl, Nat.le_refl _, fun _ _ => rfl⟩⟩, rfl⟩ ?_
  have key : (fun a' : Act => ∀ w', Below w.heap.size w w' → Q .normal a' w') = (fun a' => ∀ w', (∃ x : Grown w, w' = x.v) → Q .normal a' w') := by
    funext a'
    apply propext
    exact ⟨fun h w' ⟨x, hx⟩ => h w' (by rw [hx]; exact x.b), fun h w' hb => h w' ⟨⟨w', hb⟩, rfl⟩⟩
  rw [← key]; simpa using h
/-- a whole row loaded -/
theorem wpQuiet_load {P : Program} {ops : Array Oper} {w : World} {Q : Act → Prop} {a : Act} {op : Oper} {rest : List Oper} (hw : Region.wanted op (yielded ops a.tmps) = true) (ty : TypeId) (x : Operand) (ho : op.op = .load ty x)
    (b o : Nat) (hx : a.eval x = .pointer (some ⟨b, o, none⟩)) (M : Array Value) (d : TypeDesc) (hc : ∀ y : Grown w, y.v.rangeAt b o M.toList)
    (hu : P.underlying ty = some d) (hd : d.isRow = true) (hi : (P.info? ty).map (·.size) = some M.size)
    (h : wpQuiet P ops (fun w' => ∃ x : Grown w, w' = x.v) Q rest (a.put op.dst (.agg M))) : wpQuiet P ops (fun w' => ∃ x : Grown w, w' = x.v) Q (op :: rest) a := by
  unfold wpQuiet
  rw [if_pos hw]
  refine ⟨.agg M, fun w' ⟨y, hy⟩ => ?_, h⟩
  subst hy
  unfold Oper.quietAt execOp
  simp only [ho, hx, Instr.loadAt, Instr.sureAddr, Sem.run_bind, Sem.run_pure, Result.andThen_ok, run_loadVar_mid y.v b o ty M.toList d (hc y) hu hd (by simpa using hi)]
  simp [Oper.quietUpon]
theorem below_drew1 (B : Nat) (w : World) : Below B w w.drew := ⟨rfl, rfl, rfl, Nat.le_refl _, fun _ _ => rfl⟩
theorem range_grown {w : World} {b o : Nat} {L : List Value} (h : w.rangeAt b o L) (y : Grown w) : y.v.rangeAt b o L := fun j v hv => by
  have := h j v hv
  rw [y.b.cell (block_lt_of_cell this)]; exact this
theorem cell_grown {w : World} {p : Addr} {v : Value} (h : w.cell? p = some v) (y : Grown w) : y.v.cell? p = some v := by
  rw [y.b.cell (block_lt_of_cell h)]; exact h
end Go.Mir

namespace Go.Mir
open Go.RowKit

/-- the plan is one that any order comes to -/
def planB (ops : Array Oper) : List (Nat × Bool) → Array Bool → Bool
  | [], listed => (Region.ready .any ops listed).isEmpty
  | (i, true) :: r, listed => (ops[i]?).isSome && Region.free .any ops listed i && (Region.ready .any ops listed).contains i && planB ops r (listed.setIfInBounds i true)
  | (i, false) :: r, listed => (ops[i]?).isSome && Region.ready .any ops listed == [i] && planB ops r (listed.setIfInBounds i true)
/-- the operation at a place of the text -/
def nthO : List Oper → Nat → Option Oper
  | [], _ => none
  | o :: _, 0 => some o
  | _ :: l, n + 1 => nthO l n
theorem nthO_eq : ∀ (l : List Oper) (n : Nat), l.toArray[n]? = nthO l n
  | [], n => by simp [nthO]
  | o :: l, 0 => by simp [nthO]
  | o :: l, n + 1 => by
    have := nthO_eq l n
    simpa [nthO] using this
def planOps (l : List Oper) : List (Nat × Bool) → List (Oper × Bool)
  | [] => []
  | (i, b) :: r => match nthO l i with
    | some o => (o, b) :: planOps l r
    | none => planOps l r
def wpEager (P : Program) (ops : Array Oper) (S : World → Prop) (Q : Exit → Act → World → Prop) : List (Oper × Bool) → Act → World → Prop
  | [], a, w => Q .normal a w
  | (o, true) :: r, a, w => ∃ v, YieldsIf P ops S o v a ∧ wpEager P ops S Q r (a.put o.dst v) w
  | (o, false) :: r, a, w => if Region.wanted o (yielded ops a.tmps) then o.wp P a w (fun a' w' => S w' ∧ wpEager P ops S Q r a' w') Q else wpEager P ops S Q r (a.put o.dst undef) w
theorem wpAnyH_eager {P : Program} {l : List Oper} {ops : Array Oper} (hl : l.toArray = ops) {S : World → Prop} {Q : Exit → Act → World → Prop} (hs : Region.noSelect ops = true) (hQ : ∀ c a d v w, Q (.panic c) (a.put d v) w → Q (.panic c) a w) :
    ∀ (π : List (Nat × Bool)) (listed : Array Bool) (a : Act) (w : World), planB ops π listed = true → S w → wpEager P ops S Q (planOps l π) a w → wpAnyH P .any ops Q S π.length listed a w
  | [], listed, a, w, hp, _, h => by
    refine wpAnyH_done ?_ h _
    simpa [planB, List.isEmpty_iff] using hp
  | (i, true) :: r, listed, a, w, hp, hS, h => by
    simp only [planB, Bool.and_eq_true] at hp
    obtain ⟨⟨⟨h1, h2⟩, h3⟩, h4⟩ := hp
    obtain ⟨o, ho⟩ := Option.isSome_iff_exists.1 h1
    have hn : nthO l i = some o := by rw [← nthO_eq, hl]; exact ho
    simp only [planOps, hn, wpEager] at h
    obtain ⟨v, hy, h⟩ := h
    exact wpAnyH_take ho hs h2 h3 (fun c a w => hQ c a _ _ w) hy hS (wpAnyH_eager hl hs hQ r _ _ _ h4 hS h)
  | (i, false) :: r, listed, a, w, hp, hS, h => by
    simp only [planB, Bool.and_eq_true, beq_iff_eq] at hp
    obtain ⟨⟨h1, h2⟩, h4⟩ := hp
    obtain ⟨o, ho⟩ := Option.isSome_iff_exists.1 h1
    have hn : nthO l i = some o := by rw [← nthO_eq, hl]; exact ho
    simp only [planOps, hn, wpEager] at h
    refine wpAnyH_all h2 (by simp) fun j hj => ?_
    rw [List.mem_singleton] at hj
    subst hj
    unfold wpOp
    simp only [ho]
    split at h
    · rename_i hw
      rw [if_pos hw]
      exact .inl (Oper.wp_mono (fun a' w' ⟨h5, h6⟩ => ⟨h5, wpAnyH_eager hl hs hQ r _ _ _ h4 h5 h6⟩) h)
    · rename_i hw
      rw [if_neg hw]
      exact ⟨hS, wpAnyH_eager hl hs hQ r _ _ _ h4 hS h⟩
/-- the beginning -/
theorem wp_region_eager_in {P : Program} {id : Nat} {Q : Exit → Act → World → Prop} {a : Act} {w : World} {l : List Oper} (S : World → Prop) (π : List (Nat × Bool)) (hm : P.follows .mixedOrders = true)
    (hp : (planB l.toArray π (Array.replicate l.length false) && Region.noSelect l.toArray && π.length == l.length) = true) (hS : S w.drew)
    (h : wpEager P l.toArray S (NoPanic Q) (planOps l π) a w.drew) : (Code.region id l.toArray true).wp P Q a w := by
  refine wp_region_noPanic ?_
  simp only [Bool.and_eq_true, beq_iff_eq] at hp
  obtain ⟨⟨h1, h2⟩, h3⟩ := hp
  have := wpAnyH_eager (P := P) (Q := NoPanic Q) (l := l) rfl h2 (fun _ _ _ _ _ h => h) π (Array.replicate l.length false) a w.drew h1 hS h
  refine wp_region_held hm (S := S) ?_
  rw [h3] at this
  have hz : l.toArray.size = l.length := List.size_toArray ..
  rw [hz]
  exact this
theorem wp_region_eager {P : Program} {id : Nat} {Q : Exit → Act → World → Prop} {a : Act} {w : World} {l : List Oper} (π : List (Nat × Bool)) (hm : P.follows .mixedOrders = true)
    (hp : (planB l.toArray π (Array.replicate l.length false) && Region.noSelect l.toArray && π.length == l.length) = true)
    (h : wpEager P l.toArray (Below w.heap.size w) (NoPanic Q) (planOps l π) a w.drew) : (Code.region id l.toArray true).wp P Q a w :=
  wp_region_eager_in (Below w.heap.size w) π hm hp ⟨rfl, rfl, rfl, Nat.le_refl _, fun _ _ => rfl⟩ h
/-- the next operation, written out -/
theorem eagerOpen {P : Program} {ops : Array Oper} {S : World → Prop} {Q : Exit → Act → World → Prop} {l : List Oper} {i : Nat} {b : Bool} {r : List (Nat × Bool)} {a : Act} {w : World} {o : Oper} (ho : nthO l i = some o)
    (h : wpEager P ops S Q ((o, b) :: planOps l r) a w) : wpEager P ops S Q (planOps l ((i, b) :: r)) a w := by
  unfold planOps; rw [ho]; exact h
theorem eagerEnd {P : Program} {ops : Array Oper} {S : World → Prop} {Q : Exit → Act → World → Prop} {l : List Oper} {a : Act} {w : World} (h : Q .normal a w) : wpEager P ops S (NoPanic Q) (planOps l []) a w := h
theorem wpEager_take {P : Program} {ops : Array Oper} {S : World → Prop} {Q : Exit → Act → World → Prop} {o : Oper} {r : List (Oper × Bool)} {a : Act} {w : World} {v : Value} (hw : Region.wanted o (yielded ops a.tmps) = true)
    (hy : ∀ w', S w' → (execOp a.eval o).run P w' = .ok (.value v) w') (h : wpEager P ops S Q r (a.put o.dst v) w) : wpEager P ops S Q ((o, true) :: r) a w := ⟨v, .inl ⟨hw, hy⟩, h⟩
theorem wpEager_skip {P : Program} {ops : Array Oper} {S : World → Prop} {Q : Exit → Act → World → Prop} {o : Oper} {r : List (Oper × Bool)} {a : Act} {w : World} (hw : Region.wanted o (yielded ops a.tmps) = false)
    (h : wpEager P ops S Q r (a.put o.dst undef) w) : wpEager P ops S Q ((o, true) :: r) a w := ⟨undef, .inr ⟨hw, rfl⟩, h⟩
theorem wpEager_off {P : Program} {ops : Array Oper} {S : World → Prop} {Q : Exit → Act → World → Prop} {o : Oper} {r : List (Oper × Bool)} {a : Act} {w : World} (hw : Region.wanted o (yielded ops a.tmps) = false)
    (h : wpEager P ops S Q r (a.put o.dst undef) w) : wpEager P ops S Q ((o, false) :: r) a w := by
  unfold wpEager; rw [if_neg (by rw [hw]; exact Bool.false_ne_true)]; exact h
theorem wpEager_load {P : Program} {ops : Array Oper} {S : World → Prop} {Q : Exit → Act → World → Prop} {op : Oper} {r : List (Oper × Bool)} {a : Act} {w : World} (hw : Region.wanted op (yielded ops a.tmps) = true) (ty : TypeId) (x : Operand) (ho : op.op = .load ty x)
    (b o : Nat) (hx : a.eval x = .pointer (some ⟨b, o, none⟩)) (M : Array Value) (d : TypeDesc) (hc : ∀ w', S w' → w'.rangeAt b o M.toList)
    (hu : P.underlying ty = some d) (hd : d.isRow = true) (hi : (P.info? ty).map (·.size) = some M.size)
    (h : wpEager P ops S Q r (a.put op.dst (.agg M)) w) : wpEager P ops S Q ((op, true) :: r) a w := by
  refine wpEager_take hw (fun w' hb => ?_) h
  unfold execOp
  simp only [ho, hx, Instr.loadAt, Instr.sureAddr, Sem.run_bind, Sem.run_pure, Result.andThen_ok, run_loadVar_mid w' b o ty M.toList d (hc w' hb) hu hd (by simpa using hi)]
/-- at a call: the way back is shut till 'S' is shown -/
theorem wpEager_op {P : Program} {ops : Array Oper} {S : World → Prop} {Q : Exit → Act → World → Prop} {o : Oper} {r : List (Oper × Bool)} {a : Act} {w : World} (hw : Region.wanted o (yielded ops a.tmps) = true)
    (h : ∀ K : Act → World → Prop, Shut (∀ a w, S w → wpEager P ops S Q r a w → K a w) → Oper.wp P o a w K Q) : wpEager P ops S Q ((o, false) :: r) a w := by
  unfold wpEager; rw [if_pos hw]; exact h _ fun _ _ h1 h2 => ⟨h1, h2⟩
theorem eagerLoadAt {P : Program} {ops : Array Oper} {S : World → Prop} {Q : Exit → Act → World → Prop} {r : List (Oper × Bool)} {a : Act} {w : World} (n : Nat) {d : Option Nat} {ty : TypeId} {t : TypeId} {p : String} {af : Array Edge} {g : Option (Nat × Bool)} {b : Bool}
    (h : wpEager P ops S Q ((⟨d, .load ty (.tmp n), t, p, af, g⟩, b) :: r) a w) : wpEager P ops S Q ((⟨d, .load ty (.tmp n), t, p, af, g⟩, b) :: r) a w := h
theorem range_below {w w' : World} {b o : Nat} {L : List Value} (h : w.rangeAt b o L) (hb : Below w.heap.size w w') : w'.rangeAt b o L := fun j v hv => by
  have := h j v hv
  rw [hb.cell (block_lt_of_cell this)]; exact this
theorem cell_below {w w' : World} {p : Addr} {v : Value} (h : w.cell? p = some v) (hb : Below w.heap.size w w') : w'.cell? p = some v := by
  rw [hb.cell (block_lt_of_cell h)]; exact h

end Go.Mir

namespace Go.Proofs.YtcddgbobbogpgaaDoor.Rdr
open Go.RowKit Go.Mir

/-! ### plain -/
structure RD where
  l : List UInt8
  pos : Nat
  bad : Option Int
def RD.fail (s : RD) (e : Int) : RD := if s.bad = none ∧ e ≠ 0 then ⟨s.l, s.pos, some e⟩ else s
def RD.new (l : List UInt8) : RD := ⟨l, 0, none⟩

/-! ### in memory -/
/-- bytes that are only read -/
def Rd (w : World) (base : Nat) (v : Value) (l : List UInt8) : Prop :=
  (v = .slice none 0 0 ∧ l = []) ∨ ∃ g cap cur, v = .slice (some ⟨g, 0, none⟩) l.length cap ∧ base ≤ g ∧ w.heap[g]? = some (.cells cur 5 (0, 0)) ∧ l.length ≤ cap ∧ cap ≤ maxLen ∧ l.length ≤ cur.size ∧ cur.toList.take l.length = bytesV l
theorem Rd.touch {S : Nat → Prop} {w w' : World} {base : Nat} {v : Value} {l : List UInt8} (h : Rd w base v l) (ht : Turns S w w') (hS : ∀ k M fr, w.heap[k]? = some (.cells M 5 fr) → ¬ S k) : Rd w' base v l := by
  rcases h with h | ⟨g, cap, cur, h1, h2, h3, h4⟩
  · exact .inl h
  · exact .inr ⟨g, cap, cur, h1, h2, ht.keep h3 (hS g cur _ h3), h4⟩
theorem Rd.below {w w' : World} {base : Nat} {v : Value} {l : List UInt8} (h : Rd w base v l) (hb : Below w.heap.size w w') : Rd w' base v l :=
  h.touch (Turns.of_below (S := fun _ => False) hb) (fun _ _ _ _ h => h)
theorem Rd.bs {w : World} {base : Nat} {v : Value} {l : List UInt8} (h : Rd w base v l) : ∃ p c, v = .slice p l.length c ∧ Bs w p l.length c l := by
  rcases h with ⟨rfl, rfl⟩ | ⟨g, cap, cur, rfl, hb, hg, hn, hm, hz, ht⟩
  · exact ⟨none, 0, rfl, Sl.nil _ _⟩
  · refine ⟨_, _, rfl, ⟨by rw [bytesV_length, Nat.mul_one], hn, by simpa [maxLen] using hm, fun h => (by cases h), fun a ha j u hu => ?_⟩⟩
    obtain rfl := Option.some.inj ha
    have hj : j < l.length := by
      have := (List.getElem?_eq_some_iff.1 hu).1
      rwa [bytesV_length] at this
    rw [add_none, Nat.zero_add, cell_of_row _ _ _ _ _ _ hg, ← Array.getElem?_toList]
    rw [← ht, List.getElem?_take, if_pos hj] at hu
    exact hu
theorem Rd.base {w : World} {base b2 : Nat} {v : Value} {l : List UInt8} (h : Rd w base v l) (hb : b2 ≤ base) : Rd w b2 v l := by
  rcases h with h | ⟨g, cap, cur, h1, h2, h3⟩
  · exact .inl h
  · exact .inr ⟨g, cap, cur, h1, Nat.le_trans hb h2, h3⟩
/-! ### walks -/
theorem wpList_build {P : Program} {w : World} {ops : Array Oper} {rest : List Oper} {o : Oper} {a : Act} {Q : Exit → Act → World → Prop} (hgd : o.guard = none) (t : TypeId) (parts : Array (Nat × Operand)) (ho : o.op = .build t parts)
    (vals : List (Nat × Value)) (hv : (parts.toList.map fun p => (p.1, a.eval p.2)) = vals) (cells : Array Value) (h : P.built t vals = some cells) (k : wpList P ops Q rest (a.put o.dst (.agg cells)) w) : wpList P ops Q (o :: rest) a w := by
  refine wpList_plain hgd fun K hK => ?_
  unfold Oper.wp execOp
  have hb : P.built t (parts.map fun p => (p.1, a.eval p.2)).toList = some cells := by rw [Array.toList_map, hv]; exact h
  simp only [ho, Sem.run_bind, Sem.run_pure, Result.andThen_ok, run_build w t _ cells hb]
  exact hK _ _ k
end Go.Proofs.YtcddgbobbogpgaaDoor.Rdr

namespace Go.Proofs.YtcddgbobbogpgaaDoor.Rpl
open Go.RowKit Go.Mir Go.Mir.Hx Go.Mir.Parts

def strV (ls : List (List UInt8)) : List Value := ls.map fun x => .string (S x)
theorem strV_length (ls : List (List UInt8)) : (strV ls).length = ls.length := by simp [strV]
theorem strV_get (ls : List (List UInt8)) (j : Nat) (h : j < ls.length) : (strV ls)[j]? = some (.string (S ls[j])) := by simp [strV, h]
theorem strV_one (ls : List (List UInt8)) : ∀ u ∈ strV ls, u.oneCell' = true := by
  intro u hu; simp only [strV, List.mem_map] at hu; obtain ⟨_, _, rfl⟩ := hu; rfl
/-- a []string that reads as these -/
abbrev Ws (w : World) (p : Option Addr) (n c : Nat) (ls : List (List UInt8)) : Prop := Sl w p n c 1 (strV ls)
theorem Ws.length {w : World} {p : Option Addr} {n c : Nat} {ls : List (List UInt8)} (h : Ws w p n c ls) : ls.length = n := by
  have := h.len; simpa [strV_length] using this
theorem Ws.str {w : World} {b o : Nat} {n c : Nat} {ls : List (List UInt8)} (h : Ws w (some ⟨b, o, none⟩) n c ls) {j : Nat} (hj : j < ls.length) : w.cell? ⟨b, o + j, none⟩ = some (.string (S ls[j])) := h.at (strV_get ls j hj)
theorem Ws.row {w : World} {g : Nat} {cs : Array Value} {t : TypeId} {fr : Nat × Nat} {ls : List (List UInt8)} (hr : w.heap[g]? = some (.cells cs t fr)) (hc : cs.toList = strV ls) (hm : ls.length ≤ 9223372036854775807) : Ws w (some ⟨g, 0, none⟩) ls.length ls.length ls :=
  ⟨by rw [strV_length, Nat.mul_one], Nat.le_refl _, hm, fun h => (by cases h), fun a ha j u hu => by
    obtain rfl := Option.some.inj ha
    rw [add_none, cell_of_row _ _ _ _ _ _ hr, ← Array.getElem?_toList, hc, Nat.zero_add]
    exact hu⟩
end Go.Proofs.YtcddgbobbogpgaaDoor.Rpl

namespace Go.Proofs
open Go.Shelf
def Tryd.lays156_ren : Go.Shelf.Ren := ⟨fun | 156 => 25 | 165 => 49 | 166 => 41 | 169 => 43 | 240 => 62 | 241 => 68 | 276 => 74 | 277 => 76 | n => n, fun | 31 => 65 | 9 => 9 | 3 => 3 | 4 => 4 | 0 => 0 | 20 => 20 | 72 => 95 | 76 => 98 | 70 => 93 | 37 => 23 | 75 => 97 | 127 => 116 | 164 => 128 | 5 => 5 | 80 => 101 | n => n, fun | n => n⟩
theorem Tryd.lays156 : Go.Proofs.Lays.n156 Tryd.prog Tryd.lays156_ren := {
  mixed := by kernel_rfl
  f156 := Tryd.func25.trans (congrArg some (by kernel_rfl))
  f165 := Tryd.func49.trans (congrArg some (by kernel_rfl))
  f166 := Tryd.func41.trans (congrArg some (by kernel_rfl))
  f169 := Tryd.func43.trans (congrArg some (by kernel_rfl))
  f240 := Tryd.func62.trans (congrArg some (by kernel_rfl))
  f241 := Tryd.func68.trans (congrArg some (by kernel_rfl))
  f276 := Tryd.func74.trans (congrArg some (by kernel_rfl))
  f277 := Tryd.func76.trans (congrArg some (by kernel_rfl))
  t0 := Tryd.underlying0
  a0 := Tryd.isAgg0
  z0 := Tryd.sizeOf0
  v0 := Tryd.zeroValue0
  t3 := Tryd.underlying3
  a3 := Tryd.isAgg3
  z3 := Tryd.sizeOf3
  v3 := Tryd.zeroValue3
  t4 := Tryd.underlying4
  a4 := Tryd.isAgg4
  z4 := Tryd.sizeOf4
  v4 := Tryd.zeroValue4
  t9 := Tryd.underlying9
  a9 := Tryd.isAgg9
  z9 := Tryd.sizeOf9
  v9 := Tryd.zeroValue9
  t20 := Tryd.underlying20
  a20 := Tryd.isAgg20
  z20 := Tryd.sizeOf20
  v20 := Tryd.zeroValue20
  t31 := Tryd.underlying65
  a31 := Tryd.isAgg65
  z31 := Tryd.sizeOf65
  v31 := Tryd.zeroValue65
  t37 := Tryd.underlying23
  a37 := Tryd.isAgg23
  z37 := Tryd.sizeOf23
  v37 := Tryd.zeroValue23
  t70 := Tryd.underlying93
  a70 := Tryd.isAgg93
  z70 := Tryd.sizeOf93
  v70 := Tryd.zeroValue93
  t72 := Tryd.underlying95
  a72 := Tryd.isAgg95
  z72 := Tryd.sizeOf95
  v72 := Tryd.zeroValue95
  t75 := Tryd.underlying97
  a75 := Tryd.isAgg97
  z75 := Tryd.sizeOf97
  v75 := Tryd.zeroValue97
  t76 := Tryd.underlying98
  a76 := Tryd.isAgg98
  z76 := Tryd.sizeOf98
  v76 := Tryd.zeroValue98
  t127 := Tryd.underlying116
  a127 := Tryd.isAgg116
  z127 := Tryd.sizeOf116
  v127 := Tryd.zeroValue116
  t164 := Tryd.underlying128
  a164 := Tryd.isAgg128
  z164 := Tryd.sizeOf128
  v164 := Tryd.zeroValue128 }
theorem Tryd.Builder_Extra_156 : Builder.Extra Tryd.prog Tryd.lays156_ren := {
  sizeBuilder := by kernel_rfl
  liesBuilder := by kernel_rfl
  t5 := Tryd.underlying5
  a5 := Tryd.isAgg5
  z5 := Tryd.sizeOf5
  v5 := Tryd.zeroValue5
  infoByte := by kernel_rfl
  cellsByte := by kernel_rfl
  sizeByte := by kernel_rfl
  neB5 := by decide }
open Go.RowKit in
/-- strings.Join: "Join concatenates the elements of its first argument to create a single string. The separator string sep is placed between elements in the resulting string.": HOWEVER MANY ELEMENTS. Below the heap's end the world is as it was. (LAID: no walk: one application.) -/
theorem Tryd.strings_Join (bk o c : Nat) (xs : List ByteArray) (sep : ByteArray) (w : World) (hcells : ∀ (j : Nat) x, xs[j]? = some x → w.cell? ⟨bk, o + j, none⟩ = some (.string x)) (hbk : bk < w.heap.size) (hN : xs.length ≤ 140737488355328) (hcap : xs.length ≤ c) (hlen : (Lib.join (xs.map (·.data.toList)) sep.data.toList).length ≤ 140737488355328) :
    Calls Tryd.prog 25 #[.slice (some ⟨bk, o, none⟩) xs.length c, .string sep] w fun e w' => e = .returned (.string ⟨(Lib.join (xs.map (·.data.toList)) sep.data.toList).toArray⟩) ∧ Below w.heap.size w w' := Any.strings_Join Tryd.lays156 Tryd.Builder_Extra_156 bk o c xs sep w hcells hbk hN hcap hlen
def Tryd.lays146_ren : Go.Shelf.Ren := ⟨fun | 146 => 32 | 221 => 51 | 268 => 69 | 138 => 70 | 143 => 71 | 195 => 77 | 197 => 78 | 218 => 79 | 219 => 80 | 260 => 82 | 217 => 83 | 225 => 84 | 224 => 85 | 267 => 86 | 266 => 87 | 314 => 88 | n => n, fun | 9 => 9 | 31 => 65 | 3 => 3 | 4 => 4 | 0 => 0 | 105 => 131 | 21 => 21 | 5 => 5 | 46 => 122 | 119 => 137 | 139 => 140 | 138 => 139 | 146 => 142 | 51 => 141 | n => n, fun | 1 => 0 | 3 => 1 | 4 => 2 | n => n⟩
theorem Tryd.lays146 : Go.Proofs.Lays.n146 Tryd.prog Tryd.lays146_ren := {
  mixed := by kernel_rfl
  f138 := Tryd.func70.trans (congrArg some (by kernel_rfl))
  f143 := Tryd.func71.trans (congrArg some (by kernel_rfl))
  f146 := Tryd.func32.trans (congrArg some (by kernel_rfl))
  f195 := Tryd.func77.trans (congrArg some (by kernel_rfl))
  f197 := Tryd.func78.trans (congrArg some (by kernel_rfl))
  f217 := Tryd.func83.trans (congrArg some (by kernel_rfl))
  f218 := Tryd.func79.trans (congrArg some (by kernel_rfl))
  f219 := Tryd.func80.trans (congrArg some (by kernel_rfl))
  f221 := Tryd.func51.trans (congrArg some (by kernel_rfl))
  f224 := Tryd.func85.trans (congrArg some (by kernel_rfl))
  f225 := Tryd.func84.trans (congrArg some (by kernel_rfl))
  f260 := Tryd.func82.trans (congrArg some (by kernel_rfl))
  f266 := Tryd.func87.trans (congrArg some (by kernel_rfl))
  f267 := Tryd.func86.trans (congrArg some (by kernel_rfl))
  f268 := Tryd.func69.trans (congrArg some (by kernel_rfl))
  f314 := Tryd.func88.trans (congrArg some (by kernel_rfl))
  t0 := Tryd.underlying0
  a0 := Tryd.isAgg0
  z0 := Tryd.sizeOf0
  v0 := Tryd.zeroValue0
  t3 := Tryd.underlying3
  a3 := Tryd.isAgg3
  z3 := Tryd.sizeOf3
  v3 := Tryd.zeroValue3
  t4 := Tryd.underlying4
  a4 := Tryd.isAgg4
  z4 := Tryd.sizeOf4
  v4 := Tryd.zeroValue4
  t5 := Tryd.underlying5
  a5 := Tryd.isAgg5
  z5 := Tryd.sizeOf5
  v5 := Tryd.zeroValue5
  t9 := Tryd.underlying9
  a9 := Tryd.isAgg9
  z9 := Tryd.sizeOf9
  v9 := Tryd.zeroValue9
  t21 := Tryd.underlying21
  a21 := Tryd.isAgg21
  z21 := Tryd.sizeOf21
  v21 := Tryd.zeroValue21
  t31 := Tryd.underlying65
  a31 := Tryd.isAgg65
  z31 := Tryd.sizeOf65
  v31 := Tryd.zeroValue65
  t46 := Tryd.underlying122
  a46 := Tryd.isAgg122
  z46 := Tryd.sizeOf122
  v46 := Tryd.zeroValue122
  t51 := Tryd.underlying141
  a51 := Tryd.isAgg141
  z51 := Tryd.sizeOf141
  v51 := Tryd.zeroValue141
  t105 := Tryd.underlying131
  a105 := Tryd.isAgg131
  z105 := Tryd.sizeOf131
  v105 := Tryd.zeroValue131
  t119 := Tryd.underlying137
  a119 := Tryd.isAgg137
  z119 := Tryd.sizeOf137
  t138 := Tryd.underlying139
  a138 := Tryd.isAgg139
  z138 := Tryd.sizeOf139
  v138 := Tryd.zeroValue139
  t139 := Tryd.underlying140
  a139 := Tryd.isAgg140
  z139 := Tryd.sizeOf140
  v139 := Tryd.zeroValue140
  t146 := Tryd.underlying142
  a146 := Tryd.isAgg142
  z146 := Tryd.sizeOf142
  v146 := Tryd.zeroValue142
  g1 := by kernel_rfl
  g3 := by kernel_rfl
  g4 := by kernel_rfl }
open Go.RowKit Go.Lib in
/-- strings.Split. (LAID: no walk: one application.) -/
theorem Tryd.strings_Split (s sep : ByteArray) (m : Int) (w : World) (hs : s.size < 4294967281) (hm : w.cell? ⟨0, 0, none⟩ = some (.int .i64 m)) (h1 : 1 ≤ sep.size) :
    Calls Tryd.prog 32 #[.string s, .string sep] w fun e w' =>
      e = .returned (.slice (some ⟨w.heap.size, 0, none⟩) (Lib.countB s sep + 1) (Lib.countB s sep + 1)) ∧ w' = w.alloc (.cells ((Lib.splitB sep 0 (Lib.countB s sep) s).map Value.string).toArray 9) := Any.strings_Split Tryd.lays146 (by kernel_rfl) s sep m w hs hm h1
def Tryd.laysM146_ren : Go.Shelf.Ren := ⟨fun | 146 => 32 | 221 => 51 | 268 => 69 | 138 => 70 | 143 => 71 | 195 => 77 | 197 => 78 | 218 => 79 | 219 => 80 | 260 => 82 | 217 => 83 | 225 => 84 | 224 => 85 | 267 => 86 | 266 => 87 | 314 => 88 | n => n, fun | 9 => 9 | 31 => 65 | 3 => 3 | 4 => 4 | 0 => 0 | 105 => 131 | 21 => 21 | 5 => 5 | 46 => 122 | 119 => 137 | 139 => 140 | 138 => 139 | 146 => 142 | 51 => 141 | n => n, fun | 1 => 0 | 3 => 1 | 4 => 2 | n => n⟩
theorem Tryd.laysM146 : Go.Proofs.LaysM.n146 Tryd.prog Tryd.laysM146_ren := {
  mixed := by kernel_rfl
  f138 := Tryd.func70.trans (congrArg some (by kernel_rfl))
  f143 := Tryd.func71.trans (congrArg some (by kernel_rfl))
  f146 := Tryd.func32.trans (congrArg some (by kernel_rfl))
  f195 := Tryd.func77.trans (congrArg some (by kernel_rfl))
  f197 := Tryd.func78.trans (congrArg some (by kernel_rfl))
  f217 := Tryd.func83.trans (congrArg some (by kernel_rfl))
  f218 := Tryd.func79.trans (congrArg some (by kernel_rfl))
  f219 := Tryd.func80.trans (congrArg some (by kernel_rfl))
  f221 := Tryd.func51.trans (congrArg some (by kernel_rfl))
  f224 := Tryd.func85.trans (congrArg some (by kernel_rfl))
  f225 := Tryd.func84.trans (congrArg some (by kernel_rfl))
  f260 := Tryd.func82.trans (congrArg some (by kernel_rfl))
  f266 := Tryd.func87.trans (congrArg some (by kernel_rfl))
  f267 := Tryd.func86.trans (congrArg some (by kernel_rfl))
  f268 := Tryd.func69.trans (congrArg some (by kernel_rfl))
  f314 := Tryd.func88.trans (congrArg some (by kernel_rfl))
  t0 := Tryd.underlying0
  a0 := Tryd.isAgg0
  z0 := Tryd.sizeOf0
  v0 := Tryd.zeroValue0
  t3 := Tryd.underlying3
  a3 := Tryd.isAgg3
  z3 := Tryd.sizeOf3
  v3 := Tryd.zeroValue3
  t4 := Tryd.underlying4
  a4 := Tryd.isAgg4
  z4 := Tryd.sizeOf4
  v4 := Tryd.zeroValue4
  t5 := Tryd.underlying5
  a5 := Tryd.isAgg5
  z5 := Tryd.sizeOf5
  v5 := Tryd.zeroValue5
  t9 := Tryd.underlying9
  a9 := Tryd.isAgg9
  z9 := Tryd.sizeOf9
  v9 := Tryd.zeroValue9
  t21 := Tryd.underlying21
  a21 := Tryd.isAgg21
  z21 := Tryd.sizeOf21
  v21 := Tryd.zeroValue21
  t31 := Tryd.underlying65
  a31 := Tryd.isAgg65
  z31 := Tryd.sizeOf65
  v31 := Tryd.zeroValue65
  t46 := Tryd.underlying122
  a46 := Tryd.isAgg122
  z46 := Tryd.sizeOf122
  v46 := Tryd.zeroValue122
  t51 := Tryd.underlying141
  a51 := Tryd.isAgg141
  z51 := Tryd.sizeOf141
  v51 := Tryd.zeroValue141
  t105 := Tryd.underlying131
  a105 := Tryd.isAgg131
  z105 := Tryd.sizeOf131
  v105 := Tryd.zeroValue131
  t119 := Tryd.underlying137
  a119 := Tryd.isAgg137
  z119 := Tryd.sizeOf137
  t138 := Tryd.underlying139
  a138 := Tryd.isAgg139
  z138 := Tryd.sizeOf139
  v138 := Tryd.zeroValue139
  t139 := Tryd.underlying140
  a139 := Tryd.isAgg140
  z139 := Tryd.sizeOf140
  v139 := Tryd.zeroValue140
  t146 := Tryd.underlying142
  a146 := Tryd.isAgg142
  z146 := Tryd.sizeOf142
  v146 := Tryd.zeroValue142
  g1 := by kernel_rfl
  g3 := by kernel_rfl
  g4 := by kernel_rfl
  i0 := by kernel_rfl
  i3 := by kernel_rfl
  i4 := by kernel_rfl
  i5 := by kernel_rfl
  i9 := by kernel_rfl
  i21 := by kernel_rfl
  i31 := by kernel_rfl
  i46 := by kernel_rfl
  i51 := by kernel_rfl
  i105 := by kernel_rfl
  i138 := by kernel_rfl
  i139 := by kernel_rfl
  i146 := by kernel_rfl
  m1 := by kernel_rfl
  s1_3 := fun w h => Go.Proofs.cell_of_shapedOpen_int (zero := #[.int .i64 0]) (t := 3) h (of_decide_eq_true (by kernel_rfl)) (by kernel_rfl) rfl (by kernel_rfl) (by kernel_rfl) Tryd.underlying3
  m3 := by kernel_rfl
  m4 := by kernel_rfl }
end Go.Proofs

namespace Go.Proofs.YtcddgbobbogpgaaDoor.Rpl
open Go.RowKit Go.Mir Go.Mir.Hx Go.Mir.Parts
open Go.Lib (join)

/-- internal/bytealg.MaxLen holds an int -/
def MaxL (w : World) : Prop := ∃ m, w.cell? ⟨Tryd.lays146_ren.g 1, 0, none⟩ = some (.int .i64 m)
theorem MaxL.below {w w' : World} (h : MaxL w) (hb : Below w.heap.size w w') : MaxL w' := by
  obtain ⟨m, h⟩ := h
  exact ⟨m, cell_below h hb⟩
theorem maxL_shaped {w : World} (h : w.ShapedOpen Tryd.prog) : MaxL w := Tryd.laysM146.s1_3 w h
theorem strV_of (xs : List ByteArray) : xs.map Value.string = strV (xs.map (·.data.toList)) := by
  unfold strV
  rw [List.map_map]
  refine List.map_congr_left fun x _ => ?_
  show Value.string x = .string (S x.data.toList)
  rw [← S_of x]
set_option maxRecDepth 100000 in
theorem split_any (s : List UInt8) (w : World) (hs : s.length < 4294967281) (hm : MaxL w) :
    Calls Tryd.prog 32 #[.string (S s), .string ⟨#[32]⟩] w fun e w' => e = .returned (.slice (some ⟨w.heap.size, 0, none⟩) (sp s).length (sp s).length) ∧ Ws w' (some ⟨w.heap.size, 0, none⟩) (sp s).length (sp s).length (sp s) ∧ Below w.heap.size w w' := by
  obtain ⟨m, hm⟩ := hm
  have hd : (Go.Lib.splitB ⟨#[32]⟩ 0 (Go.Lib.countB (S s) ⟨#[32]⟩) (S s)).map (·.data.toList) = sp s := by
    rw [Go.Lib.splitB_data]
    show Go.Lib.splitK [32] 0 (Go.Lib.count (S s).data.toList [32]) (S s).data.toList = _
    rw [S_data]
    exact split_sp s
  have hl : Go.Lib.countB (S s) ⟨#[32]⟩ + 1 = (sp s).length := by
    rw [← hd, List.length_map, Go.Lib.splitB_all ⟨#[32]⟩ (by decide) 0 _ (S s) rfl]
  refine (Tryd.strings_Split (S s) ⟨#[32]⟩ m w (by rw [S_size]; exact hs) hm (by decide)).mono ?_
  rintro e w' ⟨rfl, rfl⟩
  rw [hl]
  refine ⟨rfl, Ws.row (ls := sp s) (heap_alloc_last w _) ?_ ?_, Below.allocs _ _⟩
  · rw [strV_of, hd]
  · have : (sp s).length ≤ s.length + 1 := by
      rw [← hl]
      have := Go.Lib.countB_le ⟨#[32]⟩ (by decide) (S s).size (S s) (Nat.le_refl _)
      rw [S_size] at this
      omega
    omega
theorem join_any (g o n c : Nat) (ws : List (List UInt8)) (w : World) (h : Ws w (some ⟨g, o, none⟩) n c ws) (hg : g < w.heap.size) (hn : n ≤ 140737488355328) (hl : (join ws [32]).length ≤ 140737488355328) :
    Calls Tryd.prog 25 #[.slice (some ⟨g, o, none⟩) n c, .string ⟨#[32]⟩] w fun e w' => e = .returned (.string (S (join ws [32]))) ∧ Below w.heap.size w w' := by
  have hm : (ws.map S).map (·.data.toList) = ws := by
    rw [List.map_map]
    conv => rhs; rw [← List.map_id ws]
    exact List.map_congr_left fun x _ => S_data x
  have hlen := h.length
  have hln : (ws.map S).length = n := by rw [List.length_map]; exact hlen
  have := Tryd.strings_Join g o c (ws.map S) ⟨#[32]⟩ w (fun j x hx => by
    rw [List.getElem?_map] at hx
    obtain ⟨y, hy, rfl⟩ := Option.map_eq_some_iff.1 hx
    obtain ⟨hj, rfl⟩ := List.getElem?_eq_some_iff.1 hy
    exact h.str hj) hg (by rw [hln]; exact hn) (by rw [hln]; exact h.le) (by rw [hm]; exact hl)
  rw [hm, hln] at this
  exact this
end Go.Proofs.YtcddgbobbogpgaaDoor.Rpl
