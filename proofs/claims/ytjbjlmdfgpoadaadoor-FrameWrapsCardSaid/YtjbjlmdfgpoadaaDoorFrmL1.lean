/- LAYER 19: FrameWraps: there and back. Conditions: the laid cell of errors.errorType. -/
import Derived.Test.YtjbjlmdfgpoadaaDoorFrmA
namespace Go.Proofs.YtjbjlmdfgpoadaaDoor.Frm
open Go.RowKit Go.Mir Go.Mir.Parts Wr Cod Cut Rdr

set_option maxRecDepth 100000 in
set_option maxHeartbeats 3200000 in
theorem law_wraps (p0 p1 : Option Addr) (n0 c0 n1 c1 : Nat) (l0 l1 : List UInt8) (k : Nat) (hk : k < 65536) (w : World) (hE : EType w) (hB0 : Bs w p0 n0 c0 l0) (hB1 : Bs w p1 n1 c1 l1) :
    Calls Tryd.prog 3 #[.slice p0 n0 c0, .slice p1 n1 c1, .int .u16 (k : Int)] w fun e w' => e = .returned (.bool true) ∧ Below w.heap.size w w' := by
  have HE := Lib.hid hE
  have HA := Lib.hid hB0
  have HC := Lib.hid hB1
  have HNA := Lib.hid hB0.length
  have HNC := Lib.hid hB1.length
  have hla := hB0.le
  have hma := hB0.max
  have hlc := hB1.le
  have hmc := hB1.max
  clear hE hB0 hB1
  have HB2 : Hid (Below w.heap.size w w) := Below.refl _ _
  have HE2 := HE
  by_cases h0 : 1000 < n0
  · have d0 : decide ((1000 : Int) < (n0 : Int)) = true := decide_eq_true (by omega)
    go_enter Tryd.func3, Tryd.ntmps3
    go_wp2_with fail
    refine (alive19_any _ HE2.out).mono ?_
    rintro e w9 ⟨rfl, hb9⟩
    have HB9 := Lib.hid (HB2.out.trans (hb9.mono HB2.out.size))
    clear hb9
    go_wp2_with fail
    go_ret
    exact ⟨rfl, HB9.out⟩
  have d0 : decide ((1000 : Int) < (n0 : Int)) = false := decide_eq_false (by omega)
  by_cases h1 : 1000 < n1
  · have d1 : decide ((1000 : Int) < (n1 : Int)) = true := decide_eq_true (by omega)
    go_enter Tryd.func3, Tryd.ntmps3
    go_wp2_with fail
    refine (alive19_any _ HE2.out).mono ?_
    rintro e w9 ⟨rfl, hb9⟩
    have HB9 := Lib.hid (HB2.out.trans (hb9.mono HB2.out.size))
    clear hb9
    go_wp2_with fail
    go_ret
    exact ⟨rfl, HB9.out⟩
  have d1 : decide ((1000 : Int) < (n1 : Int)) = false := decide_eq_false (by omega)
  clear HB2 HE2
  by_cases hz : n0 = 0
  · have HEN := Lib.hid (enc_no (l := l0) (by rw [HNA.out]; exact hz))
    subst hz
    have H1 := encode_any p0 0 c0 l0 w HA.out (by omega)
    have H2 := fun w' (hb : Below w.heap.size w w') => rencode_any p0 0 c0 l0 w' (HA.out.below hb) (by omega)
    rw [HEN.out] at H1 H2
    have H1 := Lib.hid H1
    have H2 := Lib.hid H2
    go_enter Tryd.func3, Tryd.ntmps3
    go_wp2_with fail
    refine H1.out.mono ?_
    rintro e w1 ⟨p2, c2, rfl, ho1, hb1⟩
    have HS1 : Hid (Bs w1 p2 0 c2 []) := own_bs ho1
    have HB1 := Lib.hid hb1
    clear ho1 hb1
    go_wp2_with fail
    refine (H2.out _ HB1.out).mono ?_
    rintro e w2 ⟨p3, c3, rfl, ho2, hb2⟩
    have HS2 : Hid (Bs w2 p3 0 c3 []) := own_bs ho2
    have HS12 := Lib.hid (HS1.out.below hb2)
    have HB2 := Lib.hid (HB1.out.trans (hb2.mono HB1.out.size))
    clear ho2 hb2 H1 H2
    have hc1 := bconv HS12.out
    have hc2 := bconv HS2.out
    have q1 : IntKind.i64.wrap (0 + 8) = 8 := by decide
    go_wp2_with fail
    refine (size_any p0 0 c0 (by omega) _).mono ?_
    rintro e w3 ⟨rfl, rfl⟩
    clear hc1 hc2
    have HE2 := Lib.hid (HE.out.below HB2.out HE.out.lt)
    skip
    go_wp2_with fail
    refine (alive19_any _ HE2.out).mono ?_
    rintro e w9 ⟨rfl, hb9⟩
    have HB9 := Lib.hid (HB2.out.trans (hb9.mono HB2.out.size))
    clear hb9
    go_wp2_with fail
    go_ret
    exact ⟨rfl, HB9.out⟩
  have HZ1 : Hid (1 ≤ l0.length) := by show _ ≤ _; rw [HNA.out]; omega
  have HZ2 : Hid (l0.length ≤ 65536) := by show _ ≤ _; rw [HNA.out]; omega
  have HEN := Lib.hid (enc_ok HZ1.out)
  have HFL : Hid ((frame l0).length = 8 + n0) := by show _ = _; rw [frame_length, HNA.out]
  have H1 := encode_any p0 n0 c0 l0 w HA.out (by omega)
  have H2 := fun w' (hb : Below w.heap.size w w') => rencode_any p0 n0 c0 l0 w' (HA.out.below hb) (by omega)
  rw [HEN.out] at H1 H2
  dsimp only at H1 H2
  rw [HFL.out] at H1 H2
  have H1 := Lib.hid H1
  have H2 := Lib.hid H2
  go_enter Tryd.func3, Tryd.ntmps3
  go_wp2_with fail
  refine H1.out.mono ?_
  rintro e w1 ⟨p2, c2, rfl, ho1, hb1⟩
  have HS1 := Lib.hid (own_bs ho1)
  have HB1 := Lib.hid hb1
  clear ho1 hb1
  go_wp2_with fail
  refine (H2.out _ HB1.out).mono ?_
  rintro e w2 ⟨p3, c3, rfl, ho2, hb2⟩
  have HS2 := Lib.hid (own_bs ho2)
  have HS12 := Lib.hid (HS1.out.below hb2)
  have HB2 := Lib.hid (HB1.out.trans (hb2.mono HB1.out.size))
  clear ho2 hb2 H1 H2 HS1
  have hc1 := bconv HS12.out
  have hc2 := bconv HS2.out
  generalize hfr : frame l0 = fr at *
  have q1 : IntKind.i64.wrap ((n0 : Int) + 8) = (n0 : Int) + 8 := by rw [IntWalk.i64_in _ (by omega)]
  have q2 : (((8 + n0 : Nat) : Int) != (n0 : Int) + 8) = false := by rw [bne_eq_false_iff_eq]; omega
  have q3 : (8 + (n0 : Int) != (n0 : Int) + 8) = false := by rw [bne_eq_false_iff_eq]; omega
  go_wp2_with fail
  refine (size_any p0 n0 c0 (by omega) _).mono ?_
  rintro e w3 ⟨rfl, rfl⟩
  clear hc1 hc2
  go_upto_region 9 with fail
  have HW1 := Lib.hid (one_frame l0 l1 HZ1.out HZ2.out)
  have HTO := Lib.hid (one_torn l0 HZ1.out HZ2.out (8 + n0 - 1) (by rw [HNA.out]; omega))
  have HOD := Lib.hid (fun j h4 hj y hy => one_odd l0 HZ1.out HZ2.out j h4 hj y hy)
  rw [hfr] at HW1 HTO
  rw [HNA.out] at HW1
  have HO : Hid ((w2.alloc (.cells #[] 5)).ownsRow w2.heap.size 5 1 (.slice (some ⟨w2.heap.size, 0, none⟩) 0 0) 0 []) := ⟨rfl, .inr ⟨w2.heap.size, 0, _, rfl, Nat.le_refl _, heap_alloc_last _ _, Nat.le_refl _, by simp [maxLen], rfl, rfl⟩⟩
  have HBX : Hid (Below w2.heap.size w2 (w2.alloc (.cells #[] 5))) := Below.allocs _ _
  have HSX := Lib.hid (HS12.out.below HBX.out)
  have hlx := HSX.out.le
  have hmx := HSX.out.max
  go_wp2_with (at_builtin; refine wpList_append_nx rfl _ _ 22 rfl (base := w2.heap.size) Tryd.underlying22 info8b rfl (by omega) rfl HO.out rfl HSX.out (bytesV_one _) ⟨by omega, by omega⟩ HBX.out.size ?_)
  intro p5 c5 x5 ho9 hg9 _ _
  have hb9 := HBX.out.grown hg9 HBX.out.size (fun k hk => (HO.out.lt k hk).1)
  try rw [← bytesV_append] at ho9
  try rw [Nat.zero_add] at ho9
  try rw [List.nil_append] at ho9
  clear HO HSX HBX hg9 hlx hmx
  have HO := Lib.hid ho9
  have HBX := Lib.hid hb9
  clear ho9 hb9
  have HSX := Lib.hid ((HC.out.below HB2.out).below HBX.out)
  have hlx := HSX.out.le
  have hmx := HSX.out.max
  go_wp2_with (at_builtin; refine wpList_append_nx rfl _ _ 22 rfl (base := w2.heap.size) Tryd.underlying22 info8b rfl (by omega) rfl HO.out rfl HSX.out (bytesV_one _) ⟨by omega, by omega⟩ HBX.out.size ?_)
  intro p6 c6 x6 ho9 hg9 _ _
  have hb9 := HBX.out.grown hg9 HBX.out.size (fun k hk => (HO.out.lt k hk).1)
  try rw [← bytesV_append] at ho9
  try rw [Nat.zero_add] at ho9
  try rw [List.nil_append] at ho9
  clear HO HSX HBX hg9 hlx hmx
  have HO := Lib.hid ho9
  have HBX := Lib.hid hb9
  clear ho9 hb9
  have HB6 := Lib.hid (HB2.out.trans (HBX.out.mono HB2.out.size))
  have hon := one_any p6 (8 + n0 + n1) c6 (fr ++ l1) x6 (HE.out.below HB6.out HE.out.lt) (own_bs HO.out) (by omega)
  unfold OneP at hon
  rw [HW1.out] at hon
  have HON := Lib.hid hon
  have HS6 := Lib.hid (HS12.out.below HBX.out)
  clear hon HO HBX HW1
  go_wp2_with fail
  refine HON.out.mono ?_
  rintro e w7 ⟨p7, c7, rfl, ho7, hb7⟩
  dsimp only at ho7 ⊢
  rw [HNA.out] at ho7 ⊢
  have HS7 := Lib.hid (own_bs ho7)
  have HB7 := Lib.hid (HB6.out.trans (hb7.mono HB6.out.size))
  have HS67 := Lib.hid (HS6.out.below hb7)
  clear ho7 hb7 HON HS6
  obtain ⟨M, hM⟩ : ∃ M, 8 + n0 - 1 = M := ⟨_, rfl⟩
  have r1 : IntKind.i64.wrap (8 + (n0 : Int) - 1) = (M : Int) := by rw [IntWalk.i64_in _ (by omega)]; omega
  have r2 : IntKind.i64.wrap (((8 + n0 : Nat) : Int) - 1) = (M : Int) := by rw [IntWalk.i64_in _ (by omega)]; omega
  have HMM : Hid (M + 1 = 8 + n0) := by show _ = _; omega
  have hcut := cut0 HS67.out M (M : Int) rfl (by omega)
  rw [hM] at HTO
  have hon := one_any p2 M c2 (fr.take M) w7 (HE.out.below HB7.out HE.out.lt) (bs_take HS67.out (by omega)) (by omega)
  unfold OneP at hon
  rw [HTO.out] at hon
  have HON := Lib.hid hon
  clear hon hM HTO
  go_wp2_with fail
  refine HON.out.mono ?_
  rintro e w8 ⟨p8, c8, rfl, -, hb8⟩
  have HB8 := Lib.hid (HB7.out.trans (hb8.mono HB7.out.size))
  have HS8 := Lib.hid (HS67.out.below hb8)
  have hc1 := bconv (HS7.out.below hb8)
  have hc2 := bconv (HA.out.below HB8.out)
  clear hb8 HON r1 r2 hcut HS67 HS7
  go_upto_region 13 with fail
  clear hc1 hc2
  have HO : Hid ((w8.alloc (.cells #[] 5)).ownsRow w8.heap.size 5 1 (.slice (some ⟨w8.heap.size, 0, none⟩) 0 0) 0 []) := ⟨rfl, .inr ⟨w8.heap.size, 0, _, rfl, Nat.le_refl _, heap_alloc_last _ _, Nat.le_refl _, by simp [maxLen], rfl, rfl⟩⟩
  have HBX : Hid (Below w8.heap.size w8 (w8.alloc (.cells #[] 5))) := Below.allocs _ _
  have HSX := Lib.hid (HS8.out.below HBX.out)
  have hlx := HSX.out.le
  have hmx := HSX.out.max
  go_upto_region 14 with (at_builtin; refine wpList_append_nx rfl _ _ 22 rfl (base := w8.heap.size) Tryd.underlying22 info8b rfl (by omega) rfl HO.out rfl HSX.out (bytesV_one _) ⟨by omega, by omega⟩ HBX.out.size ?_)
  intro p9 c9 x9 ho9 hg9 _ hp9
  have hb9 := HBX.out.grown hg9 HBX.out.size (fun k hk => (HO.out.lt k hk).1)
  try rw [Nat.zero_add] at ho9
  try rw [List.nil_append] at ho9
  clear HO HSX HBX hg9 hlx hmx
  have HB9 := Lib.hid (HB8.out.trans (hb9.mono HB8.out.size))
  have HO9 := Lib.hid ho9
  clear ho9 hb9
  go_upto_region 14 with fail
  obtain ⟨g, cap, hv, hgb, hgc, hgm⟩ := own_some HO9.out (fun h => by injection h with h1 h2 h3; omega)
  injection hv with hv1 _ hv3
  subst hv1 hv3
  obtain ⟨J, hJ⟩ : ∃ J, J = 4 + (k / 8) % (4 + n0) := ⟨_, rfl⟩
  have hJ4 : 4 ≤ J ∧ J < 8 + n0 := by have := Nat.mod_lt (k / 8) (show 0 < 4 + n0 by omega); omega
  have hJi : (4 : Int) + (k : Int) / 8 % (8 + (n0 : Int) - 4) = (J : Int) := by
    rw [hJ, show (8 : Int) + (n0 : Int) - 4 = ((4 + n0 : Nat) : Int) by omega, show (k : Int) / 8 = ((k / 8 : Nat) : Int) by omega, ← Int.natCast_emod]; omega
  have hJw : IntKind.i64.wrap ((4 : Int) + (k : Int) / 8 % (8 + (n0 : Int) - 4)) = (J : Int) := by rw [hJi, IntWalk.i64_in _ (by omega)]
  have hJw2 : wrap64 ((4 : Int) + (k : Int) / 8 % (8 + (n0 : Int) - 4)) = (J : Int) := by rw [hJi]; unfold wrap64; omega
  have HJ := Lib.hid hJ4
  have hJ8 := hJ4.2
  clear hJ hJi hJ4
  have hJf : J < fr.length := by rw [HFL.out]; exact HJ.out.2
  have hc := World.ownsRow.cellAt (size := 1) HO9.out J (by rw [Nat.mul_one]; exact HJ.out.2)
  rw [bytesV_get fr J hJf] at hc
  have hf := HO9.out.frozenAt J
  have HOJ := Lib.hid (HOD.out J HJ.out.1 (by rw [HNA.out]; exact HJ.out.2))
  simp only [hfr] at HOJ
  generalize hyy : fr[J]'hJf = y at *
  clear HOD hyy hp9 hJw q1 q2 q3
  go_upto_region 15 with fail
  rw [CrcW.flip_int y (k % 8) (by omega)]
  have HOO := Lib.hid (HOJ.out (CrcW.flipped y (k % 8)) (flipped_ne y _ (by omega)))
  have hst := (HO9.out.stored J (.int .u8 ((CrcW.flipped y (k % 8)).toNat : Int))).1
  rw [← CrcW.bytesV_set] at hst
  have hb10 : Below w.heap.size w (x9.setCell ⟨g, J, none⟩ (.int .u8 ((CrcW.flipped y (k % 8)).toNat : Int))) := HB9.out.setCell (by have := HB8.out.size; show w.heap.size ≤ g; omega) _
  generalize x9.setCell ⟨g, J, none⟩ (.int .u8 ((CrcW.flipped y (k % 8)).toNat : Int)) = x10 at *
  have HB10 := Lib.hid hb10
  have HE10 := Lib.hid (HE.out.below hb10 HE.out.lt)
  have hon := one_any (some ⟨g, 0, none⟩) (8 + n0) c9 (fr.set J (CrcW.flipped y (k % 8))) x10 HE10.out (own_bs hst) (by omega)
  unfold OneP at hon
  rw [HOO.out] at hon
  have HON := Lib.hid hon
  clear hon hst hb10 HOO HOJ HO9 hc hf hJw2
  go_wp2_with fail
  refine HON.out.mono ?_
  rintro e w11 ⟨p11, c11, rfl, -, hb11⟩
  have HB2 := Lib.hid (HB10.out.trans (hb11.mono HB10.out.size))
  have HE2 := Lib.hid (HE.out.below HB2.out HE.out.lt)
  clear hb11
  skip
  go_wp2_with fail
  refine (alive19_any _ HE2.out).mono ?_
  rintro e w9 ⟨rfl, hb9⟩
  have HB9 := Lib.hid (HB2.out.trans (hb9.mono HB2.out.size))
  clear hb9
  go_wp2_with fail
  go_ret
  exact ⟨rfl, HB9.out⟩
end Go.Proofs.YtjbjlmdfgpoadaaDoor.Frm
