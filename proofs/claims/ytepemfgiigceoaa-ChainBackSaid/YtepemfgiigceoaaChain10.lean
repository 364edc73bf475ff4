/- THE WALKS OF A CHAIN, on: the document's example. Conditions: none. -/
import Derived.Test.YtepemfgiigceoaaChain9
namespace Go.Proofs.Ytepemfgiigceoaa.Chn
open Go.RowKit Go.Mir Go.Mir.Parts Go.Proofs.Ytepemfgiigceoaa.Blk

theorem ChAt.ownLow {w : World} {base cb depth height : Nat} {ds : List BlkD} {p : Option Addr} {c : Nat} {rows : List (List Value)} (h : ChAt w base cb depth height ds p c rows) : ∀ i, ChOwn cb p ds.length c i → base ≤ i := fun i hi => by
  rcases hi with hi | hi
  · rw [hi]; exact h.low
  · exact (keeps_lt h.keeps i hi).1
theorem build2 : Try.prog.built 30 [(0, .int .u8 2)] = some (idA (id1 2)) := by kernel_rfl
theorem buildB2 : Try.prog.built 33 [(0, .agg (idA (id1 2))), (1, .agg (idA (id1 1)))] = some (blkA (id1 2) (id1 1) none 0 0) := by kernel_rfl
theorem may1 : mayE [] 0 ⟨id1 1, zeros, []⟩ = 0 := by decide
theorem may2 : mayE [⟨id1 1, zeros, []⟩] 1 ⟨id1 2, id1 1, []⟩ = 0 := by decide
theorem disc1 : discE [⟨id1 1, zeros, []⟩, ⟨id1 2, id1 1, []⟩] (id1 2) = 0 := by decide
theorem disc2 : discE [⟨id1 1, zeros, []⟩] (id1 1) = 20 := by decide

set_option maxRecDepth 100000 in
set_option maxHeartbeats 400000 in
theorem alive_any (w : World) : Calls Try.prog 9 #[] w fun e w' => e = .returned (.bool true) ∧ Below w.heap.size w w' := by
  have b1 := fun w0 => run_build (P := Try.prog) w0 30 #[(0, .int .u8 1)] _ build1
  have b2 := fun w0 => run_build (P := Try.prog) w0 33 #[(0, .agg (idA (id1 1)))] _ buildB1
  have b3 := fun w0 => run_build (P := Try.prog) w0 30 #[(0, .int .u8 2)] _ build2
  have b4 := fun w0 => run_build (P := Try.prog) w0 33 #[(0, .agg (idA (id1 2))), (1, .agg (idA (id1 1)))] _ buildB2
  have HM1 : Hid (∀ w', BlkAt w' (blkA (id1 1) zeros none 0 0) ⟨id1 1, zeros, []⟩ none 0 0) := fun w' => ⟨rfl, rfl, rfl, Is.nil _ _⟩
  have HM2 : Hid (∀ w', BlkAt w' (blkA (id1 2) (id1 1) none 0 0) ⟨id1 2, id1 1, []⟩ none 0 0) := fun w' => ⟨rfl, rfl, rfl, Is.nil _ _⟩
  go_enter Try.func9, Try.ntmps9
  go_wp2_with fail
  refine (new_any 1 _ ⟨by omega, by omega⟩).mono ?_
  rintro e w1 ⟨cb, rows1, rfl, hcb, hch1, hb1⟩
  have HB1 := Lib.hid hb1
  have H1 := Lib.hid hch1
  clear hb1 hch1
  go_wp2_with fail
  refine (connect_ok w1 H1.out HB1.out.size _ ⟨id1 1, zeros, []⟩ none 0 0 (HM1.out w1) (by omega) may1).mono ?_
  rintro e w2 ⟨rfl, p2, c2, rows2, hch2, _, ht2, _⟩
  have HB2 := Lib.hid (HB1.out.trans (ht2.below HB1.out.size H1.out.ownLow))
  have H2 : Hid (ChAt w2 w.heap.size cb 1 1 [⟨id1 1, zeros, []⟩] p2 c2 rows2) := hch2
  clear ht2 hch2
  go_wp2_with fail
  refine (connect_ok w2 H2.out HB2.out.size _ ⟨id1 2, id1 1, []⟩ none 0 0 (HM2.out w2) (by omega) may2).mono ?_
  rintro e w3 ⟨rfl, p3, c3, rows3, hch3, _, ht3, _⟩
  have HB3 := Lib.hid (HB2.out.trans (ht3.below HB2.out.size H2.out.ownLow))
  have H3 : Hid (ChAt w3 w.heap.size cb 1 2 [⟨id1 1, zeros, []⟩, ⟨id1 2, id1 1, []⟩] p3 c3 rows3) := hch3
  clear ht3 hch3
  go_wp2_with fail
  refine (disc_any w3 H3.out (by simp) (id1 2) rfl).mono ?_
  rintro e w4 ⟨rfl, _, hok⟩
  obtain ⟨c4, rows4, hch4, ht4⟩ := hok disc1
  rw [disc1]
  have HB4 := Lib.hid (HB3.out.trans (ht4.below HB3.out.size H3.out.ownLow))
  have H4 : Hid (ChAt w4 w.heap.size cb 1 1 [⟨id1 1, zeros, []⟩] p3 c4 rows4) := hch4
  clear hok ht4 hch4
  go_wp2_with fail
  refine (disc_any w4 H4.out (by simp) (id1 1) rfl).mono ?_
  rintro e w5 ⟨rfl, hno, _⟩
  rw [disc2]
  have hb5 := hno (by rw [disc2]; omega)
  have HB5 := Lib.hid (HB4.out.trans (hb5.mono HB4.out.size))
  have H5 := Lib.hid (H4.out.below hb5)
  clear hno hb5
  go_wp2_with fail
  refine (height_any w5 H5.out).mono ?_
  rintro e w' ⟨rfl, rfl⟩
  go_wp2_with fail
  go_ret
  exact ⟨rfl, HB5.out⟩
end Go.Proofs.Ytepemfgiigceoaa.Chn
