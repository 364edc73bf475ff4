/- LAYER 19: the document's example. Conditions: the laid cell of errors.errorType. -/
import Derived.Test.YtjbjlmdfgpoadaaDoorFrmP
import Derived.Laws.MakeOwn
namespace Go.Proofs.YtjbjlmdfgpoadaaDoor.Frm
open Go.RowKit Go.Mir Go.Mir.Parts Wr Cod Cut Rdr

theorem enc_ok {l : List UInt8} (h : 1 ≤ l.length) : enc l = (frame l, 0) := by unfold enc; rw [if_neg (by omega)]
theorem enc_no {l : List UInt8} (h : l.length = 0) : enc l = ([], 1) := by unfold enc; rw [if_pos h]
theorem make20 (w : World) : (Instr.makeSlice 22 (.int .i64 20) (.int .i64 20)).run Tryd.prog w = .ok (.slice (some ⟨w.heap.size, 0, none⟩) 20 20) (w.alloc (.cells (bytesV (List.replicate 20 0)).toArray 5)) := by
  obtain ⟨i, hi, hz, h1, h2⟩ := info_parts (P := Tryd.prog) info8b
  have h := run_makeSlice (P := Tryd.prog) w 22 5 i (.int .u8 0) Tryd.underlying22 hi hz .i64 .i64 20 20 (by omega) (by omega) (by rw [h1]; decide) (by rw [h2]; decide) (by omega)
  rw [h1, show madeCells (Value.int IntKind.u8 0).cells (Int.toNat 20 * 1) = (bytesV (List.replicate 20 0)).toArray by kernel_rfl] at h
  exact h
set_option maxRecDepth 100000 in
set_option maxHeartbeats 1600000 in
theorem alive19_any (w : World) (hE : EType w) :
    Calls Tryd.prog 6 #[] w fun e w' => e = .returned (.bool true) ∧ Below w.heap.size w w' := by
  have HE := Lib.hid hE
  have HF : Hid ((frame [7]).length = 9) := frame_length [7]
  have HO : Hid (one (frame [7]) = ([7], 9, 0)) := one_frame0 [7] (by decide) (by decide)
  have HA1 : Hid (Below w.heap.size w (w.alloc (.cells #[.int .u8 7] 5))) := Below.allocs _ _
  have H1 := encode_any (some ⟨w.heap.size, 0, none⟩) 1 1 [7] (w.alloc (.cells #[.int .u8 7] 5)) (Bs.made _ _ _ _ _ _ rfl rfl (by omega)) (by omega)
  rw [show enc [7] = (frame [7], 0) from rfl] at H1
  have H1 := Lib.hid H1
  clear hE
  go_enter Tryd.func6, Tryd.ntmps6
  go_wp2_with fail
  refine H1.out.mono ?_
  rintro e w1 ⟨p1, c1, rfl, ho1, hb1⟩
  dsimp only at ho1 ⊢
  rw [HF.out] at ho1 ⊢
  have HS1 := Lib.hid (own_bs ho1)
  have HB1 := Lib.hid (HA1.out.trans (hb1.mono HA1.out.size))
  have HE1 := Lib.hid (HE.out.below HB1.out HE.out.lt)
  clear ho1 hb1 H1
  have H2 := one_any p1 9 c1 (frame [7]) w1 HE1.out HS1.out (by omega)
  unfold OneP at H2
  rw [HO.out] at H2
  have H2 := Lib.hid H2
  go_wp2_with fail
  refine H2.out.mono ?_
  rintro e w2 ⟨p2, c2, rfl, ho2, hb2⟩
  have HS2 : Hid (Bs w2 p2 1 c2 [7]) := own_bs ho2
  have HB2 := Lib.hid (HB1.out.trans (hb2.mono HB1.out.size))
  clear ho2 hb2 H2 HS1
  have HA3 : Hid (Below w2.heap.size w2 (w2.alloc (.cells (bytesV (List.replicate 20 0)).toArray 5))) := Below.allocs _ _
  have HB3 := Lib.hid (HB2.out.trans (HA3.out.mono HB2.out.size))
  have HE3 := Lib.hid (HE.out.below HB3.out HE.out.lt)
  have H3 := one_any (some ⟨w2.heap.size, 0, none⟩) 20 20 (List.replicate 20 0) _ HE3.out (Bs.made w2 _ _ 5 (0, 0) 20 rfl rfl (by omega)) (by omega)
  unfold OneP at H3
  rw [one_zero] at H3
  have H3 := Lib.hid H3
  have hmk := make20 w2
  generalize w2.alloc (.cells (bytesV (List.replicate 20 0)).toArray 5) = w3 at *
  go_wp2_with fail
  refine H3.out.mono ?_
  rintro e w4 ⟨p4, c4, rfl, ho4, hb4⟩
  have hb24 := HA3.out.trans (hb4.mono HA3.out.size)
  obtain ⟨b, o, rfl⟩ := HS2.out.addr (by omega) (by omega)
  have hcl : w4.cell? ⟨b, o, none⟩ = some (.int .u8 7) := Bs.byte (HS2.out.below hb24) (j := 0) (by decide)
  have HB4 := Lib.hid (HB3.out.trans (hb4.mono HB3.out.size))
  clear ho4 hb4 hb24 H3 hmk
  go_wp2_with fail
  go_ret
  exact ⟨rfl, HB4.out⟩
end Go.Proofs.YtjbjlmdfgpoadaaDoor.Frm
