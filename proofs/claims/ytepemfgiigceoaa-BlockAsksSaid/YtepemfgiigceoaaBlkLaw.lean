/- LAYER 16: the walk of BlockAsks. Conditions: none. -/
import Derived.Test.YtepemfgiigceoaaBlk9
namespace Go.Proofs.Ytepemfgiigceoaa.Blk
open Go.RowKit Go.Mir Go.Mir.Parts

set_option maxRecDepth 100000 in
theorem asks_out (M M2 : Array Value) (d d2 : BlkD) (q q2 : Option Addr) (n c n2 c2 : Nat) (k : Nat) (w : World) (hM : BlkAt w M d q n c) (hM2 : BlkAt w M2 d2 q2 n2 c2) (h : 100 < n ∨ 100 < n2) :
    Calls Try.prog 4 #[.agg M, .agg M2, .int .u8 (k : Int)] w fun e w' => e = .returned (.bool true) ∧ Below w.heap.size w w' := by
  have H2 := Lib.hid (two_allocs w (.cells M 33) (.cells M2 33))
  have HM := Lib.hid (hM.below H2.out.2.2.2)
  have HM2 := Lib.hid (hM2.below H2.out.2.2.2)
  have HS := Lib.hid hM.size
  have HS2 := Lib.hid hM2.size
  clear hM hM2
  by_cases h1 : 100 < n
  · have HF : Hid (decide (n ≤ 100) = false) := decide_eq_false (by omega)
    clear h h1
    go_enter Try.func4, Try.ntmps4
    go_wp2_with ((with_reducible refine wpAt 12 ?_); refine wpList_load_row rfl 33 _ rfl w.heap.size rfl 33 M (0, 0) _ H2.out.1 Try.underlying33 rfl (infoBlk _ HS.out) ?_)
    refine (few_any M d q n c _ HM.out).mono ?_
    rintro e w1 ⟨rfl, hb1⟩
    rw [HF.out]
    have HB1 := Lib.hid (H2.out.2.2.2.trans (hb1.mono H2.out.2.2.2.size))
    clear hb1
    go_wp2_with fail
    refine (alive_any _).mono ?_
    rintro e w3 ⟨rfl, hb3⟩
    have HB3 := Lib.hid (HB1.out.trans (hb3.mono HB1.out.size))
    clear hb3
    go_wp2_with fail
    go_ret
    exact ⟨rfl, HB3.out⟩
  · have HF : Hid (decide (n ≤ 100) = true) := decide_eq_true (by omega)
    have HF2 : Hid (decide (n2 ≤ 100) = false) := decide_eq_false (by omega)
    clear h h1
    go_enter Try.func4, Try.ntmps4
    go_wp2_with ((with_reducible refine wpAt 12 ?_); refine wpList_load_row rfl 33 _ rfl w.heap.size rfl 33 M (0, 0) _ H2.out.1 Try.underlying33 rfl (infoBlk _ HS.out) ?_)
    refine (few_any M d q n c _ HM.out).mono ?_
    rintro e w1 ⟨rfl, hb1⟩
    rw [HF.out]
    have HB1 := Lib.hid (H2.out.2.2.2.trans (hb1.mono H2.out.2.2.2.size))
    have HR2 := Lib.hid (Below.keepOld hb1 H2.out.2.1)
    have HMB := Lib.hid (HM2.out.below hb1)
    clear hb1
    go_wp2_with ((with_reducible refine wpAt 16 ?_); refine wpList_load_row_g rfl 33 _ rfl (w.heap.size + 1) rfl 33 M2 (0, 0) _ HR2.out Try.underlying33 rfl (infoBlk _ HS2.out) ?_)
    refine (few_any M2 d2 q2 n2 c2 _ HMB.out).mono ?_
    rintro e w2 ⟨rfl, hb2⟩
    rw [HF2.out]
    have HB2 := Lib.hid (HB1.out.trans (hb2.mono HB1.out.size))
    clear hb2
    go_wp2_with fail
    refine (alive_any _).mono ?_
    rintro e w3 ⟨rfl, hb3⟩
    have HB3 := Lib.hid (HB2.out.trans (hb3.mono HB2.out.size))
    clear hb3
    go_wp2_with fail
    go_ret
    exact ⟨rfl, HB3.out⟩
end Go.Proofs.Ytepemfgiigceoaa.Blk
