/- FRAMES: the reference: Bytes. Conditions: at most 70000 bytes. -/
import Derived.Test.YtjbjlmdfgpoadaaDoorFrm3
import Derived.Test.YtjbjlmdfgpoadaaDoorRefWriter2
namespace Go.Proofs.YtjbjlmdfgpoadaaDoor.Frm
open Go.RowKit Go.Mir Go.Mir.Parts Wr Cod

theorem info8b : (Tryd.prog.info? 5).map (fun i => (i.zero, i.size, i.bytes)) = some (some (.int .u8 0), 1, 1) := by kernel_rfl
theorem number4 (w : World) (n : Nat) (hn : n < 18446744073709551616) :
    Calls Tryd.prog 34 #[.int .u64 (n : Int), .int .i64 4] w fun e w' => ∃ p c, e = .returned (.slice p 4 c) ∧ w'.ownsRow w.heap.size 5 1 (.slice p 4 c) 4 (bytesV (be n 4)) ∧ Below w.heap.size w w' := by
  refine (Rdr.number_any w n 4 hn (by omega)).mono ?_
  rintro e w' ⟨p, c, he, ho, hb⟩
  rw [← be_numB _ _ (by omega), be_length] at he ho
  exact ⟨p, c, he, ho, hb⟩
set_option maxRecDepth 100000 in
set_option maxHeartbeats 1600000 in
theorem rbytes_any (p : Option Addr) (n c : Nat) (l : List UInt8) (w : World) (hB : Bs w p n c l) (hn : n ≤ 70000) :
    Calls Tryd.prog 23 #[.slice p n c] w fun e w' => ∃ p' c', e = .returned (.slice p' (frame l).length c') ∧ w'.ownsRow w.heap.size 5 1 (.slice p' (frame l).length c') (frame l).length (bytesV (frame l)) ∧ Below w.heap.size w w' := by
  have HB := Lib.hid hB
  have HN := Lib.hid hB.length
  have hle := hB.le
  have hmax := hB.max
  clear hB
  have hw1 : IntKind.u64.wrap (n : Int) = (n : Int) := by rw [IntKind.wrap_u64]; omega
  go_enter Tryd.func23, Tryd.ntmps23
  go_wp2_with fail
  refine (number4 w n (by omega)).mono ?_
  rintro e w1 ⟨p1, c1, rfl, ho1, hb1⟩
  have HO1 := Lib.hid ho1
  have HB1 := Lib.hid hb1
  have hs1 : Bs w1 p1 4 c1 (be n 4) := by
    obtain ⟨p9, c9, e9, h9⟩ := own_sl ho1
    cases e9
    exact h9
  have HS1 := Lib.hid hs1
  clear ho1 hb1 hs1
  go_upto_region 2 with fail
  have HO : Hid ((w1.alloc (.cells #[] 5)).ownsRow w1.heap.size 5 1 (.slice (some ⟨w1.heap.size, 0, none⟩) 0 0) 0 []) := ⟨rfl, .inr ⟨w1.heap.size, 0, _, rfl, Nat.le_refl _, heap_alloc_last _ _, Nat.le_refl _, by simp [maxLen], rfl, rfl⟩⟩
  have HBX : Hid (Below w1.heap.size w1 (w1.alloc (.cells #[] 5))) := Below.allocs _ _
  have HSX := Lib.hid (HS1.out.below HBX.out)
  have hlx := HSX.out.le
  have hmx := HSX.out.max
  go_wp2_with (at_builtin; refine wpList_append_nx rfl _ _ 22 rfl (base := w1.heap.size) Tryd.underlying22 info8b rfl (by omega) rfl HO.out rfl HSX.out (bytesV_one _) ⟨by omega, by omega⟩ HBX.out.size ?_)
  intro p5 c5 x5 ho5 hg5 _ _
  have hb5 := HBX.out.grown hg5 HBX.out.size (fun k hk => (HO.out.lt k hk).1)
  clear HO HSX HBX hg5 hlx hmx
  have HO := Lib.hid ho5
  have HBX := Lib.hid hb5
  have HSX := Lib.hid (HB.out.below (HB1.out.trans (hb5.mono HB1.out.size)))
  clear ho5 hb5
  have hlx := HSX.out.le
  have hmx := HSX.out.max
  go_wp2_with (at_builtin; refine wpList_append_nx rfl _ _ 22 rfl (base := w1.heap.size) Tryd.underlying22 info8b rfl (by omega) rfl HO.out rfl HSX.out (bytesV_one _) ⟨by omega, by omega⟩ HBX.out.size ?_)
  intro p6 c6 x6 ho6 hg6 _ _
  have hb6 := HBX.out.grown hg6 HBX.out.size (fun k hk => (HO.out.lt k hk).1)
  rw [← bytesV_append] at ho6
  have hs6 : Bs x6 p6 (4 + n) c6 (be n 4 ++ l) := by
    obtain ⟨p9, c9, e9, h9⟩ := own_sl ho6
    cases e9
    exact h9
  have HS6 := Lib.hid hs6
  have HB6 := Lib.hid (HB1.out.trans (hb6.mono HB1.out.size))
  have HO6 := Lib.hid (own_touch HO1.out (Turns.of_below (S := fun _ => False) hb6) (fun _ _ h => h))
  clear HO HBX HSX hg6 hlx hmx ho6 hb6 hs6 HO1 HS1 HB1
  have hcl := (Crc.more 0#32 (be n 4 ++ l)).isLt
  have hrof := CrcW.refOf_any p6 (4 + n) c6 (be n 4 ++ l) x6 HS6.out
  obtain ⟨C, hC⟩ : ∃ C, (Crc.more 0#32 (be n 4 ++ l)).toNat = C := ⟨_, rfl⟩
  rw [hC] at hcl hrof
  have HR := Lib.hid hrof
  have HC := Lib.hid hC
  clear hrof hC
  have hcw : IntKind.u64.wrap (C : Int) = (C : Int) := by rw [IntKind.wrap_u64]; omega
  go_wp2_with fail
  refine HR.out.mono ?_
  rintro e x7 ⟨rfl, rfl⟩
  go_wp2_with fail
  refine (number4 x6 C (by omega)).mono ?_
  rintro e x8 ⟨p8, c8, rfl, ho8, hb8⟩
  have HBX := Lib.hid (HB6.out.trans (hb8.mono HB6.out.size))
  have HO := Lib.hid (own_touch HO6.out (Turns.of_below (S := fun _ => False) hb8) (fun _ _ h => h))
  have hs8 : Bs x8 p8 4 c8 (be C 4) := by
    obtain ⟨p9, c9, e9, h9⟩ := own_sl ho8
    cases e9
    exact h9
  have HSX := Lib.hid hs8
  clear hb8 ho8 hs8 HO6 HB6 HR HS6
  have hlx := HSX.out.le
  have hmx := HSX.out.max
  go_wp2_with (at_builtin; refine wpList_append_nx rfl _ _ 22 rfl (base := w.heap.size) Tryd.underlying22 info8b rfl (by omega) rfl HO.out rfl HSX.out (bytesV_one _) ⟨by omega, by omega⟩ HBX.out.size ?_)
  intro p10 c10 x10 ho10 hg10 _ _
  have hb10 := HBX.out.grown hg10 HBX.out.size (fun k hk => (HO.out.lt k hk).1)
  rw [← bytesV_append] at ho10
  clear HO HSX HBX hg10 hlx hmx
  have HO := Lib.hid ho10
  have HBX := Lib.hid hb10
  have HSX := Lib.hid (HB.out.below hb10)
  clear ho10 hb10
  have hlx := HSX.out.le
  have hmx := HSX.out.max
  go_wp2_with (at_builtin; refine wpList_append_nx rfl _ _ 22 rfl (base := w.heap.size) Tryd.underlying22 info8b rfl (by omega) rfl HO.out rfl HSX.out (bytesV_one _) ⟨by omega, by omega⟩ HBX.out.size ?_)
  intro p11 c11 x11 ho11 hg11 _ _
  have hb11 := HBX.out.grown hg11 HBX.out.size (fun k hk => (HO.out.lt k hk).1)
  rw [← bytesV_append] at ho11
  have hfr : be n 4 ++ be C 4 ++ l = frame l := by
    unfold frame
    rw [HN.out, ← HC.out]
    simp
  rw [hfr] at ho11
  have hfl : (frame l).length = 8 + n := by rw [← hfr]; simp only [List.length_append, be_length, HN.out]
  have HO11 := Lib.hid ho11
  have HB11 := Lib.hid hb11
  have HFL := Lib.hid hfl
  clear HO HSX HBX hg11 hlx hmx ho11 hb11 hfr hfl
  go_wp2_with fail
  go_ret
  rw [HFL.out]
  exact ⟨p11, c11, rfl, HO11.out, HB11.out⟩
end Go.Proofs.YtjbjlmdfgpoadaaDoor.Frm
