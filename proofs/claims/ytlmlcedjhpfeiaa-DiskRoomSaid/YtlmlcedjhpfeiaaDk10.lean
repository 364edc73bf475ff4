/- LAYER 18: the document's example. Conditions: none. -/
import Derived.Test.YtlmlcedjhpfeiaaDk9
import Derived.Test.YtlmlcedjhpfeiaaStr
namespace Go.Proofs.Ytlmlcedjhpfeiaa.Dk
open Go.RowKit Go.Mir Go.Mir.Parts

def aD0 : DD := DD.new 10
def aF0 : FD := FD.none
def aS1 : St := .put [1, 2, 3]
def aD1 : DD := doD aD0 0 aF0 aS1
def aF1 : FD := FD.none.take aS1
def aD2 : DD := syncD aD1 0 aF1
def aF2 : FD := aF1.settle (unitsAll aF1.steps)
def aS3 : St := .put [4, 5]
def aD3 : DD := doD aD2 0 aF2 aS3
def aD4 : DD := crashD [1] aD3
theorem aE1 : doE aD0 0 aF0 aS1 = 0 := by decide
theorem aE2 : syncE aD1 = 0 := by decide
theorem aE3 : doE aD2 0 aF2 aS3 = 0 := by decide
theorem aL0 : ∃ h : 0 < aD0.fs.length, aD0.fs[0] = aF0 := ⟨by decide, rfl⟩
theorem aL1 : ∃ h : 0 < aD1.fs.length, aD1.fs[0] = aF1 := ⟨by decide, rfl⟩
theorem aL2 : ∃ h : 0 < aD2.fs.length, aD2.fs[0] = aF2 := ⟨by decide, rfl⟩
theorem aL4 : ∃ h : 0 < aD4.fs.length, aD4.fs[0].now = [1, 2, 3, 4] := ⟨by decide, by decide⟩
theorem bs_lit (w : World) (l : List UInt8) (hl : l.length ≤ 65536) : Bs (w.alloc (.cells (bytesV l).toArray 5)) (some ⟨w.heap.size, 0, none⟩) l.length l.length l :=
  ⟨by rw [bytesV_length, Nat.mul_one], Nat.le_refl _, by omega, fun h => (by cases h), fun a ha j u hu => by
    obtain rfl := Option.some.inj ha
    rw [add_none, Nat.zero_add, cell_of_row _ _ _ _ _ _ (heap_alloc_last _ _), ← Array.getElem?_toList]
    exact hu⟩
theorem lit123 : (bytesV [1, 2, 3]).toArray = #[.int .u8 1, .int .u8 2, .int .u8 3] := rfl
theorem lit45 : (bytesV [4, 5]).toArray = #[.int .u8 4, .int .u8 5] := rfl
theorem Turns.belowW {W w w' : World} {base db : Nat} {vs : List FV} {d : DD} (hW : Below W.heap.size W w) (h : DAt w base db vs d) (hb : W.heap.size ≤ base) (ht : Turns (DOwn db vs) w w') : Below W.heap.size W w' :=
  hW.trans (ht.below hW.size (fun i hi => Nat.le_trans hb (h.ownLt i hi).1))
theorem ns_one (w : World) (x : Int) (hx : -9223372036854775808 ≤ x ∧ x ≤ 9223372036854775807) : Ns (w.alloc (.cells #[.int .i64 x] 3)) (some ⟨w.heap.size, 0, none⟩) [x].length 1 [x] :=
  ⟨row_sl1 (heap_alloc_last _ _), rfl, fun y hy => by rw [List.mem_singleton] at hy; rw [hy]; exact hx⟩
set_option maxRecDepth 100000 in
set_option maxHeartbeats 800000 in
theorem alive_any (w : World) : Calls Try.prog 16 #[] w fun e w' => e = .returned (.bool true) ∧ Below w.heap.size w w' := by
  go_enter Try.func16, Try.ntmps16
  go_wp2_with fail
  refine (new_any 10 w ⟨by omega, by omega⟩).mono ?_
  rintro e w1 ⟨db, vs, rfl, hd1, hb1⟩
  have HD1 : Hid (DAt w1 w.heap.size db vs aD0) := hd1
  have HB1 := Lib.hid hb1
  clear hd1 hb1
  obtain ⟨hi0, hf0⟩ := aL0
  have hba := Below.allocs w1 (.cells (bytesV [1, 2, 3]).toArray 5)
  have HA1 := Lib.hid (append_in _ (HD1.out.below hba) (Nat.le_trans HB1.out.size hba.size) 0 hi0 aF0 hf0 _ _ _ [1, 2, 3] (bs_lit w1 [1, 2, 3] (by decide)) (by decide) (by decide))
  have HBA1 := Lib.hid (HB1.out.trans (hba.mono HB1.out.size))
  have hlit := lit123
  rw [hlit] at HA1 HBA1
  clear hba hi0 hf0 hlit
  go_wp2_with fail
  refine (HA1.out).mono ?_
  rintro e w2 ⟨he, vs2, hd2, ht2, hn2⟩
  have he1 : e = .returned (.int .i64 0) := by rw [he]; exact congrArg (fun z => Ending.returned (.int .i64 z)) aE1
  subst he1
  have HD2 : Hid (DAt w2 w.heap.size db vs2 aD1) := hd2
  have HB2 := Lib.hid (Turns.belowW HBA1.out (HD1.out.below (Below.allocs _ _)) (Nat.le_refl _) ht2)
  obtain ⟨hi1, hf1⟩ := aL1
  have HSY := Lib.hid (sync_in w2 hd2 HB2.out.size 0 hi1 aF1 hf1)
  clear hd2 ht2 hn2 he hi1 hf1
  go_wp2_with fail
  refine (HSY.out).mono ?_
  rintro e w3 ⟨he, vs3, hd3, ht3, hn3⟩
  have he1 : e = .returned (.int .i64 0) := by rw [he]; exact congrArg (fun z => Ending.returned (.int .i64 z)) aE2
  subst he1
  have HD3 : Hid (DAt w3 w.heap.size db vs3 aD2) := hd3
  have HB3 := Lib.hid (Turns.belowW HB2.out HD2.out (Nat.le_refl _) ht3)
  obtain ⟨hi2, hf2⟩ := aL2
  have hba := Below.allocs w3 (.cells (bytesV [4, 5]).toArray 5)
  have HA3 := Lib.hid (append_in _ (HD3.out.below hba) (Nat.le_trans HB3.out.size hba.size) 0 hi2 aF2 hf2 _ _ _ [4, 5] (bs_lit w3 [4, 5] (by decide)) (by decide) (by decide))
  have HBA3 := Lib.hid (HB3.out.trans (hba.mono HB3.out.size))
  have HDA3 := Lib.hid (HD3.out.below hba)
  rw [lit45] at HA3 HBA3 HDA3
  clear hba hi2 hf2 hd3 ht3 hn3 he
  go_wp2_with fail
  refine (HA3.out).mono ?_
  rintro e w4 ⟨he, vs4, hd4, ht4, hn4⟩
  have he1 : e = .returned (.int .i64 0) := by rw [he]; exact congrArg (fun z => Ending.returned (.int .i64 z)) aE3
  subst he1
  have HD4 : Hid (DAt w4 w.heap.size db vs4 aD3) := hd4
  have HB4 := Lib.hid (Turns.belowW HBA3.out HDA3.out (Nat.le_refl _) ht4)
  have hba := Below.allocs w4 (.cells #[.int .i64 1] 3)
  have HDA4 := Lib.hid (HD4.out.below hba)
  have HC4 := Lib.hid (crash_any _ (HD4.out.below hba) (Nat.le_trans HB4.out.size hba.size) [1] _ _ (ns_one w4 1 ⟨by omega, by omega⟩) (fun a ha => by
    obtain rfl := Option.some.inj ha
    exact ⟨fun hk => by have := (HD4.out.ownLt _ hk).2; exact absurd this (Nat.lt_irrefl _), by simp⟩))
  have HBA4 := Lib.hid (HB4.out.trans (hba.mono HB4.out.size))
  clear hba hd4 ht4 hn4 he
  go_wp2_with fail
  refine (HC4.out).mono ?_
  rintro e w5 ⟨rfl, vs5, hd5, ht5, hn5⟩
  have HD5 : Hid (DAt w5 w.heap.size db vs5 aD4) := hd5
  have HB5 := Lib.hid (Turns.belowW HBA4.out HDA4.out (Nat.le_refl _) ht5)
  obtain ⟨hi4, hf4⟩ := aL4
  have HRD := Lib.hid (read_in w5 HD5.out 0 hi4)
  rw [hf4] at HRD
  clear hd5 ht5 hn5 hi4 hf4
  go_wp2_with fail
  refine (HRD.out).mono ?_
  rintro e w6 ⟨p6, c6, rfl, hr6, hb6⟩
  have HB6 := Lib.hid (HB5.out.trans (hb6.mono HB5.out.size))
  obtain ⟨p', c', hv, hbs⟩ := hr6.bs
  obtain ⟨rfl, -, rfl⟩ := Value.slice.inj hv
  have hcv := run_conv (P := Try.prog) (w := w6) 22 9 5 Try.underlying22 Try.underlying5 Try.underlying9 hbs
  have hS : S [1, 2, 3, 4] = ByteArray.mk #[1, 2, 3, 4] := rfl
  rw [hS] at hcv
  have hcv2 := hcv
  rw [show ([1, 2, 3, 4] : List UInt8).length = 4 from rfl] at hcv2
  clear hb6 hr6 hbs hv
  go_wp2_with fail
  go_ret
  exact ⟨rfl, HB6.out⟩
end Go.Proofs.Ytlmlcedjhpfeiaa.Dk
