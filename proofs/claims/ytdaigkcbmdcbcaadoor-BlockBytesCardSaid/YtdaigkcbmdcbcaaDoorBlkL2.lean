/- LAYER 16: BlockReads: the block of any bytes. Conditions: the laid cell of errors.errorType. -/
import Derived.Test.YtdaigkcbmdcbcaaDoorBlkR2
namespace Go.Proofs.YtdaigkcbmdcbcaaDoor.Blk
open Go.RowKit Go.Mir Go.Mir.Parts Wr Cod Rdr

theorem sameB_self (d : BlkD) : sameB d d = true := by unfold sameB; simp
set_option maxRecDepth 100000 in
set_option maxHeartbeats 6400000 in
theorem law_reads (p : Option Addr) (n c : Nat) (l : List UInt8) (w : World) (hE : EType w) (hB : Bs w p n c l) :
    Calls Tryd.prog 4 #[.slice p n c] w fun e w' => e = .returned (.bool true) ∧ Below w.heap.size w w' := by
  have hz := zeroB
  have HE := Lib.hid hE
  have HB := Lib.hid hB
  have hle := hB.le
  have hmax := hB.max
  have HN := Lib.hid hB.length
  clear hE hB
  by_cases hbig : 3000 < n
  · have hd : decide ((3000 : Int) < (n : Int)) = true := decide_eq_true (by omega)
    have HB2 : Hid (Below w.heap.size w w) := Below.refl _ _
    go_enter Tryd.func4, Tryd.ntmps4
    go_wp2_with fail
    refine (alive_any _).mono ?_
    rintro e w9 ⟨rfl, hb9⟩
    have HB9 := Lib.hid (HB2.out.trans (hb9.mono HB2.out.size))
    clear hb9
    go_wp2_with fail
    go_ret
    exact ⟨rfl, HB9.out⟩
  have hd : decide ((3000 : Int) < (n : Int)) = false := decide_eq_false (by omega)
  obtain ⟨d, ev, hdm⟩ : ∃ d ev, decB l = (d, ev) := ⟨_, _, rfl⟩
  have HD1 := Lib.hid (fun w (hE : EType w) (hB : Bs w p n c l) => decode_any p n c l w hE hB (by omega))
  have HD2 := Lib.hid (fun w (hB : Bs w p n c l) => rdecode_any p n c l w hB (by omega))
  unfold DecP at HD1 HD2
  rw [hdm] at HD1 HD2
  by_cases hev : ev = 0
  · have hb := dec_back (b := l) (by rw [hdm]; exact hev)
    rw [hdm] at hb
    have HRT : Hid (rightB d = true) := hb.1
    have HEN : Hid (d.enc = (l, 0)) := by show _ = _; unfold BlkD.enc; rw [if_pos hb.1]; exact congrArg (·, (0 : Int)) hb.2
    subst hev
    clear hb hdm
    go_enter Tryd.func4, Tryd.ntmps4
    go_wp2_with fail
    refine (HD1.out _ HE.out HB.out).mono ?_
    rintro e w1 ⟨M1, q1, n1, c1, rfl, hm1, hb1⟩
    have HM1 := Lib.hid hm1
    have HB1 := Lib.hid hb1
    have HZ1 := Lib.hid hm1.size
    have HO1 := Lib.hid hm1.one
    clear hm1 hb1
    go_upto_region 4 with ((with_reducible refine wpStoreAt 3 ?_); refine wpList_store_row rfl 26 _ _ rfl w1.heap.size M1 rfl rfl 26 (blkA zeros zeros none 0 0) (heap_alloc_last _ _) (infoBlk _ HZ1.out) (by rw [HZ1.out]; rfl) HO1.out ?_)
    try simp only [Act.put, List.setIfInBounds_toArray, List.set_cons_zero, List.set_cons_succ]
    obtain ⟨w2, hw2⟩ : ∃ w2, w2 = (w1.alloc (.cells (blkA zeros zeros none 0 0) 26)).setRow w1.heap.size M1 := ⟨_, rfl⟩
    rw [← hw2]
    have HR2 : Hid (w2.heap[w1.heap.size]? = some (.cells M1 26 (0, 0))) := by rw [hw2]; exact setRow_heap _ _ _ _ _ _ (heap_alloc_last _ _)
    have hb2 : Below w1.heap.size w1 w2 := by rw [hw2]; exact below_setRow (Below.allocs _ _) (Nat.le_refl _) _
    have HM2 := Lib.hid (HM1.out.below hb2)
    have HB2 := Lib.hid (HB1.out.trans (hb2.mono HB1.out.size))
    clear hb2 hw2 HM1 HB1
    go_wp2_with fail
    refine (HD2.out _ (HB.out.below HB2.out)).mono ?_
    rintro e w3 ⟨M3, q3, n3, c3, rfl, hm3, hb3⟩
    have HM3 := Lib.hid hm3
    have HB3 := Lib.hid hb3
    have HZ3 := Lib.hid hm3.size
    have HO3 := Lib.hid hm3.one
    clear hm3 hb3
    go_upto_region 5 with ((with_reducible refine wpStoreAt 5 ?_); refine wpList_store_row rfl 26 _ _ rfl w3.heap.size M3 rfl rfl 26 (blkA zeros zeros none 0 0) (heap_alloc_last _ _) (infoBlk _ HZ3.out) (by rw [HZ3.out]; rfl) HO3.out ?_)
    try simp only [Act.put, List.setIfInBounds_toArray, List.set_cons_zero, List.set_cons_succ]
    obtain ⟨w4, hw4⟩ : ∃ w4, w4 = (w3.alloc (.cells (blkA zeros zeros none 0 0) 26)).setRow w3.heap.size M3 := ⟨_, rfl⟩
    rw [← hw4]
    have HR4 : Hid (w4.heap[w3.heap.size]? = some (.cells M3 26 (0, 0))) := by rw [hw4]; exact setRow_heap _ _ _ _ _ _ (heap_alloc_last _ _)
    have hb4 : Below w3.heap.size w3 w4 := by rw [hw4]; exact below_setRow (Below.allocs _ _) (Nat.le_refl _) _
    have hb24 : Below w2.heap.size w2 w4 := HB3.out.trans (hb4.mono HB3.out.size)
    have HR24 := Lib.hid (Below.keepOld hb24 HR2.out)
    have HM4 := Lib.hid (HM3.out.below hb4)
    have HM24 := Lib.hid (HM2.out.below hb24)
    have HB4 := Lib.hid (HB2.out.trans (hb24.mono HB2.out.size))
    clear hb24 hb4 hw4 HM3 HB3 HM2 HB2 HR2
    go_wp2_with (first
      | refine wpList_load_row rfl 26 _ rfl w1.heap.size rfl 26 M1 (0, 0) _ HR24.out Tryd.underlying26 rfl (infoBlk _ HZ1.out) ?_
      | refine wpList_load_row rfl 26 _ rfl w3.heap.size rfl 26 M3 (0, 0) _ HR4.out Tryd.underlying26 rfl (infoBlk _ HZ3.out) ?_)
    refine (rSame_any M1 M3 d d q1 q3 n1 c1 n3 c3 _ HM24.out HM4.out).mono ?_
    rintro e w5 ⟨rfl, hb5⟩
    rw [sameB_self]
    have HB5 := Lib.hid (HB4.out.trans (hb5.mono HB4.out.size))
    have hr5 := Below.keepOld hb5 HR24.out
    have hm5 := HM24.out.below hb5
    clear HR24 HR4 HM24 HM4 HB4 hb5
    have HR24 := Lib.hid hr5
    have HM24 := Lib.hid hm5
    clear hr5 hm5
    go_wp2_with (first
      | refine wpList_load_row rfl 26 _ rfl w1.heap.size rfl 26 M1 (0, 0) _ HR24.out Tryd.underlying26 rfl (infoBlk _ HZ1.out) ?_
      | refine Rdr.wpList_build rfl 26 _ rfl [] rfl _ build_b0 ?_)
    have henc := encode_any M1 d q1 n1 c1 w5 HM24.out
    unfold EncP at henc
    rw [HEN.out] at henc
    refine henc.mono ?_
    clear henc
    rintro e w6 ⟨p6, c6, rfl, ho6, hs6, hb6⟩
    have HB6 := Lib.hid (HB5.out.trans (hb6.mono HB5.out.size))
    have hcv := run_conv (P := Tryd.prog) 29 9 5 Tryd.underlying29 Tryd.underlying5 Tryd.underlying9 hs6
    have hcv2 := run_conv (P := Tryd.prog) 29 9 5 Tryd.underlying29 Tryd.underlying5 Tryd.underlying9 (HB.out.below HB6.out)
    have hr6 := Below.keepOld hb6 HR24.out
    have hm6 := HM24.out.below hb6
    clear HR24 HM24 hb6 ho6 hs6
    have HR24 := Lib.hid hr6
    have HM24 := Lib.hid hm6
    have HLN : Hid (l.length = n) := HN.out
    clear hr6 hm6
    go_wp2_with ((with_reducible refine wpAt 55 ?_); refine wpList_unguard (by rfl) ?_; refine wpList_load_row rfl 26 _ rfl w1.heap.size rfl 26 M1 (0, 0) _ HR24.out Tryd.underlying26 rfl (infoBlk _ HZ1.out) ?_)
    clear hcv hcv2
    refine (right_any M1 d q1 n1 c1 _ HM24.out).mono ?_
    rintro e w7 ⟨rfl, hb7⟩
    rw [HRT.out]
    have HB2 := Lib.hid (HB6.out.trans (hb7.mono HB6.out.size))
    clear hb7
    skip
    go_wp2_with fail
    refine (alive_any _).mono ?_
    rintro e w9 ⟨rfl, hb9⟩
    have HB9 := Lib.hid (HB2.out.trans (hb9.mono HB2.out.size))
    clear hb9
    go_wp2_with fail
    go_ret
    exact ⟨rfl, HB9.out⟩
  · have hzm := dec_zero (b := l) (by rw [hdm]; exact hev)
    rw [hdm] at hzm
    dsimp only at hzm
    subst hzm
    have hbe : (ev != 0) = true := by simp [hev]
    clear hev hdm
    obtain ⟨d, hd0⟩ : ∃ d, d = BlkD.zero := ⟨_, rfl⟩
    rw [← hd0] at HD1 HD2
    have HD0 := Lib.hid hd0
    clear hd0
    go_enter Tryd.func4, Tryd.ntmps4
    go_wp2_with fail
    refine (HD1.out _ HE.out HB.out).mono ?_
    rintro e w1 ⟨M1, q1, n1, c1, rfl, hm1, hb1⟩
    have HM1 := Lib.hid hm1
    have HB1 := Lib.hid hb1
    have HZ1 := Lib.hid hm1.size
    have HO1 := Lib.hid hm1.one
    clear hm1 hb1
    go_upto_region 4 with ((with_reducible refine wpStoreAt 3 ?_); refine wpList_store_row rfl 26 _ _ rfl w1.heap.size M1 rfl rfl 26 (blkA zeros zeros none 0 0) (heap_alloc_last _ _) (infoBlk _ HZ1.out) (by rw [HZ1.out]; rfl) HO1.out ?_)
    try simp only [Act.put, List.setIfInBounds_toArray, List.set_cons_zero, List.set_cons_succ]
    obtain ⟨w2, hw2⟩ : ∃ w2, w2 = (w1.alloc (.cells (blkA zeros zeros none 0 0) 26)).setRow w1.heap.size M1 := ⟨_, rfl⟩
    rw [← hw2]
    have HR2 : Hid (w2.heap[w1.heap.size]? = some (.cells M1 26 (0, 0))) := by rw [hw2]; exact setRow_heap _ _ _ _ _ _ (heap_alloc_last _ _)
    have hb2 : Below w1.heap.size w1 w2 := by rw [hw2]; exact below_setRow (Below.allocs _ _) (Nat.le_refl _) _
    have HM2 := Lib.hid (HM1.out.below hb2)
    have HB2 := Lib.hid (HB1.out.trans (hb2.mono HB1.out.size))
    clear hb2 hw2 HM1 HB1
    go_wp2_with fail
    refine (HD2.out _ (HB.out.below HB2.out)).mono ?_
    rintro e w3 ⟨M3, q3, n3, c3, rfl, hm3, hb3⟩
    have HM3 := Lib.hid hm3
    have HB3 := Lib.hid hb3
    have HZ3 := Lib.hid hm3.size
    have HO3 := Lib.hid hm3.one
    clear hm3 hb3
    go_upto_region 5 with ((with_reducible refine wpStoreAt 5 ?_); refine wpList_store_row rfl 26 _ _ rfl w3.heap.size M3 rfl rfl 26 (blkA zeros zeros none 0 0) (heap_alloc_last _ _) (infoBlk _ HZ3.out) (by rw [HZ3.out]; rfl) HO3.out ?_)
    try simp only [Act.put, List.setIfInBounds_toArray, List.set_cons_zero, List.set_cons_succ]
    obtain ⟨w4, hw4⟩ : ∃ w4, w4 = (w3.alloc (.cells (blkA zeros zeros none 0 0) 26)).setRow w3.heap.size M3 := ⟨_, rfl⟩
    rw [← hw4]
    have HR4 : Hid (w4.heap[w3.heap.size]? = some (.cells M3 26 (0, 0))) := by rw [hw4]; exact setRow_heap _ _ _ _ _ _ (heap_alloc_last _ _)
    have hb4 : Below w3.heap.size w3 w4 := by rw [hw4]; exact below_setRow (Below.allocs _ _) (Nat.le_refl _) _
    have hb24 : Below w2.heap.size w2 w4 := HB3.out.trans (hb4.mono HB3.out.size)
    have HR24 := Lib.hid (Below.keepOld hb24 HR2.out)
    have HM4 := Lib.hid (HM3.out.below hb4)
    have HM24 := Lib.hid (HM2.out.below hb24)
    have HB4 := Lib.hid (HB2.out.trans (hb24.mono HB2.out.size))
    clear hb24 hb4 hw4 HM3 HB3 HM2 HB2 HR2
    go_wp2_with (first
      | refine wpList_load_row rfl 26 _ rfl w1.heap.size rfl 26 M1 (0, 0) _ HR24.out Tryd.underlying26 rfl (infoBlk _ HZ1.out) ?_
      | refine wpList_load_row rfl 26 _ rfl w3.heap.size rfl 26 M3 (0, 0) _ HR4.out Tryd.underlying26 rfl (infoBlk _ HZ3.out) ?_)
    refine (rSame_any M1 M3 d d q1 q3 n1 c1 n3 c3 _ HM24.out HM4.out).mono ?_
    rintro e w5 ⟨rfl, hb5⟩
    rw [sameB_self]
    have HB5 := Lib.hid (HB4.out.trans (hb5.mono HB4.out.size))
    have hr5 := Below.keepOld hb5 HR24.out
    have hm5 := HM24.out.below hb5
    clear HR24 HR4 HM24 HM4 HB4 hb5
    have HR24 := Lib.hid hr5
    have HM24 := Lib.hid hm5
    clear hr5 hm5
    go_wp2_with (first
      | refine wpList_load_row rfl 26 _ rfl w1.heap.size rfl 26 M1 (0, 0) _ HR24.out Tryd.underlying26 rfl (infoBlk _ HZ1.out) ?_
      | refine Rdr.wpList_build rfl 26 _ rfl [] rfl _ build_b0 ?_)
    refine (rSame_any M1 (blkA zeros zeros none 0 0) d BlkD.zero q1 none n1 c1 0 0 _ HM24.out ⟨rfl, rfl, rfl, Is.nil _ _⟩).mono ?_
    rintro e w6 ⟨rfl, hb6⟩
    rw [HD0.out, sameB_self]
    have HB2 := Lib.hid (HB5.out.trans (hb6.mono HB5.out.size))
    clear hb6
    skip
    go_wp2_with fail
    refine (alive_any _).mono ?_
    rintro e w9 ⟨rfl, hb9⟩
    have HB9 := Lib.hid (HB2.out.trans (hb9.mono HB2.out.size))
    clear hb9
    go_wp2_with fail
    go_ret
    exact ⟨rfl, HB9.out⟩
end Go.Proofs.YtdaigkcbmdcbcaaDoor.Blk
