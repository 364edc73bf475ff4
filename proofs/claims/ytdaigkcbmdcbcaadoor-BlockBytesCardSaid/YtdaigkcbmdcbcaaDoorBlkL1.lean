/- LAYER 16: BlockBytes: may a block be, and its bytes. Conditions: the laid cell of errors.errorType. -/
import Derived.Test.YtdaigkcbmdcbcaaDoorBlkL2
import Derived.Test.YtdaigkcbmdcbcaaDoorEager
namespace Go.Proofs.YtdaigkcbmdcbcaaDoor.Blk
open Go.RowKit Go.Mir Go.Mir.Parts Wr Cod Rdr

theorem bs_take {w : World} {p : Option Addr} {n c k : Nat} {l : List UInt8} (h : Bs w p n c l) (hk : k ≤ n) : Bs w p k c (l.take k) :=
  ⟨by rw [bytesV_length, List.length_take, h.length, Nat.mul_one]; exact Nat.min_eq_left hk, Nat.le_trans hk h.le, h.max, h.nil0, fun a ha j u hu => by
    rw [show bytesV (l.take k) = (bytesV l).take k by simp [bytesV, List.map_take], List.getElem?_take] at hu
    split at hu
    · exact h.cell a ha j u hu
    · cases hu⟩
theorem cut0 {w : World} {p : Option Addr} {L c : Nat} (l : List UInt8) (h : Bs w p L c l) (m : Nat) (hi : Int) (hhi : hi = (m : Int)) (hk : m ≤ L) :
    (∀ w0, (Instr.sliceAt 29 (.slice p L c) none (some (.int .i64 hi)) none).run Tryd.prog w0 = .ok (.slice p m c) w0) := by
  subst hhi
  have hle := h.le
  have hmax := h.max
  have hsz : (Tryd.prog.info? 5).map (·.size) = some 1 := by kernel_rfl
  obtain ⟨i, hi, hi1⟩ := Option.map_eq_some_iff.1 hsz
  intro w0
  have hb1 : (0 : Int) ≤ (m : Int) ∧ (m : Int) ≤ (c : Int) := by omega
  have hp : p.map (fun a => a.add 0) = p := by cases p <;> rfl
  simp [Instr.sliceAt, Instr.slice, run_underlying Tryd.underlying29, Instr.sliceBounds, Instr.sliceBound, asIntOf, sizeOf, typeInfo, hi, hi1, hb1, hp]
  try omega
set_option maxRecDepth 100000 in
set_option maxHeartbeats 6400000 in
theorem law_bytes (M : Array Value) (d : BlkD) (q : Option Addr) (n c : Nat) (w : World) (hE : EType w) (hA : BlkAt w M d q n c) :
    Calls Tryd.prog 3 #[.agg M] w fun e w' => e = .returned (.bool true) ∧ Below w.heap.size w w' := by
  have HROW : Hid ((w.alloc (.cells M 26)).heap[w.heap.size]? = some (.cells M 26 (0, 0))) := heap_alloc_last _ _
  have HB1 := Lib.hid (Below.allocs w (.cells M 26))
  have HM1 := Lib.hid (hA.below HB1.out)
  have HZ := Lib.hid hA.size
  have HWF := Lib.hid hA.wf
  have HC : Hid (d.txs.length = n) := hA.ids.count
  have hz := zeroB
  have HE := Lib.hid hE
  clear hE hA
  by_cases hbig : n ≤ 100
  case neg =>
    have hd : decide (n ≤ 100) = false := decide_eq_false hbig
    go_enter Tryd.func3, Tryd.ntmps3
    go_upto_region 1 with fail
    generalize w.alloc (.cells M 26) = w2 at *
    go_wp2_with (refine wpList_load_row rfl 26 _ rfl w.heap.size rfl 26 M (0, 0) _ HROW.out Tryd.underlying26 rfl (infoBlk _ HZ.out) ?_)
    refine (few_any M d q n c w2 HM1.out).mono ?_
    rintro e w2b ⟨rfl, hb2b⟩
    have hr2b := Below.keepOld hb2b HROW.out
    have hm2b := HM1.out.below hb2b
    have HB1b := Lib.hid (HB1.out.trans (hb2b.mono HB1.out.size))
    have HROWb := Lib.hid hr2b
    have HM1b := Lib.hid hm2b
    clear hr2b hm2b hb2b HROW HM1 HB1
    rw [hd]
    have HB2 := HB1b
    clear hd hbig
    go_wp2_with fail
    refine (alive_any _).mono ?_
    rintro e w9 ⟨rfl, hb9⟩
    have HB9 := Lib.hid (HB2.out.trans (hb9.mono HB2.out.size))
    clear hb9
    go_wp2_with fail
    go_ret
    exact ⟨rfl, HB9.out⟩
  have hd : decide (n ≤ 100) = true := decide_eq_true hbig
  have he1 := fun w (hM : BlkAt w M d q n c) => encode_any M d q n c w hM
  have he2 := fun w (hM : BlkAt w M d q n c) => rencode_any M d q n c w hM
  unfold EncP at he1 he2
  by_cases hr : rightB d = true
  · have HRT : Hid (rightB d = true) := hr
    have henc : d.enc = (encL d, 0) := by unfold BlkD.enc; rw [if_pos hr]
    have HDE := Lib.hid (dec_enc HWF.out hr)
    have HDL := Lib.hid (dec_less HWF.out hr)
    have HDM := Lib.hid (dec_more HWF.out hr 0)
    have hbl := encL_len HWF.out
    have hn32 := right_le hr
    rw [henc] at he1 he2
    have HEN1 := Lib.hid he1
    have HEN2 := Lib.hid he2
    have HSS : Hid (sameB d d = true) := sameB_self d
    have HLN : Hid ((encL d).length = 65 + 32 * d.txs.length) := hbl
    have hl1 : 1 ≤ (encL d).length ∧ (encL d).length ≤ 4000 := by omega
    clear henc he1 he2 hr hbl hn32
    obtain ⟨B, hBB⟩ : ∃ B, encL d = B := ⟨_, rfl⟩
    rw [hBB] at HDE HDL HDM HEN1 HEN2 HLN hl1
    clear hBB
    obtain ⟨hl1, hl2⟩ := hl1
    skip
    go_enter Tryd.func3, Tryd.ntmps3
    go_upto_region 1 with fail
    generalize w.alloc (.cells M 26) = w2 at *
    go_wp2_with (refine wpList_load_row rfl 26 _ rfl w.heap.size rfl 26 M (0, 0) _ HROW.out Tryd.underlying26 rfl (infoBlk _ HZ.out) ?_)
    refine (few_any M d q n c w2 HM1.out).mono ?_
    rintro e w2b ⟨rfl, hb2b⟩
    have hr2b := Below.keepOld hb2b HROW.out
    have hm2b := HM1.out.below hb2b
    have HB1b := Lib.hid (HB1.out.trans (hb2b.mono HB1.out.size))
    have HROWb := Lib.hid hr2b
    have HM1b := Lib.hid hm2b
    clear hr2b hm2b hb2b HROW HM1 HB1
    go_wp2_with (refine wpList_load_row rfl 26 _ rfl w.heap.size rfl 26 M (0, 0) _ HROWb.out Tryd.underlying26 rfl (infoBlk _ HZ.out) ?_)
    refine (HEN1.out w2b HM1b.out).mono ?_
    rintro e w3 ⟨p3, c3, rfl, ho3, hs3, hb3⟩
    have hr3 := Below.keepOld hb3 HROWb.out
    have hm3 := HM1b.out.below hb3
    have HB3 := Lib.hid (HB1b.out.trans (hb3.mono HB1b.out.size))
    have HR3 := Lib.hid hr3
    have HM3 := Lib.hid hm3
    have HS3 := Lib.hid hs3
    clear hr3 hm3 hs3 hb3 ho3
    go_wp2_with (refine wpList_load_row rfl 26 _ rfl w.heap.size rfl 26 M (0, 0) _ HR3.out Tryd.underlying26 rfl (infoBlk _ HZ.out) ?_)
    refine (HEN2.out w3 HM3.out).mono ?_
    rintro e w4 ⟨p4, c4, rfl, ho4, hs4, hb4⟩
    have HR4 := Lib.hid (Below.keepOld hb4 HR3.out)
    have HM4 := Lib.hid (HM3.out.below hb4)
    have HB4 := Lib.hid (HB3.out.trans (hb4.mono HB3.out.size))
    have HS34 := Lib.hid (HS3.out.below hb4)
    have HS4 := Lib.hid hs4
    clear hs4 hb4 HR3 HM3 HB3 HS3 ho4
    go_upto_region 5 with fail
    have HMW : Hid (∀ w', Below w4.heap.size w4 w' → BlkAt w' M d q n c) := fun w' hb => HM4.out.below hb
    have HLA : Hid (∀ w', Below w4.heap.size w4 w' → w'.rangeAt w.heap.size 0 M.toList) := fun w' hb j v hv => by rw [cell_of_row _ _ _ _ _ _ (Below.keepOld hb HR4.out), ← Array.getElem?_toList, Nat.zero_add]; exact hv
    have HC1 : Hid (∀ w', Below w4.heap.size w4 w' → (convert 29 9 (.slice p3 (B.length) c3)).run Tryd.prog w' = .ok (.string (S B)) w') := fun w' hb =>
      run_conv (P := Tryd.prog) 29 9 5 Tryd.underlying29 Tryd.underlying5 Tryd.underlying9 (HS34.out.below hb)
    have HC2 : Hid (∀ w', Below w4.heap.size w4 w' → (convert 29 9 (.slice p4 (B.length) c4)).run Tryd.prog w' = .ok (.string (S B)) w') := fun w' hb =>
      run_conv (P := Tryd.prog) 29 9 5 Tryd.underlying29 Tryd.underlying5 Tryd.underlying9 (HS4.out.below hb)
    refine wp_region_eager [(0, true), (2, true), (1, false), (3, false), (4, true), (5, true), (6, true), (7, true), (8, true), (9, true), (10, true), (11, true), (12, true), (13, true), (14, true), (15, true), (16, true)] (by kernel_rfl) (by kernel_rfl) (eagerOpen rfl ?_)
    have hy0 : Below w4.heap.size w4 w4.drew := below_drew1 _ _
    repeat (first
      | ((with_reducible refine eagerLoadAt 1 ?_); refine wpEager_load (by rfl) 26 _ rfl w.heap.size 0 rfl M _ (fun w' hb => HLA.out w' hb) Tryd.underlying26 rfl (infoBlk _ HZ.out) ?_; (try simp only [Act.put, List.setIfInBounds_toArray, List.set_cons_zero, List.set_cons_succ]); (try refine eagerOpen rfl ?_))
      | (first | (apply wpEager_take; (· rfl); (· (intro w' hb'; go_simp; try with_reducible rfl)); (try simp only [Act.put, List.setIfInBounds_toArray, List.set_cons_zero, List.set_cons_succ]); (try refine eagerOpen rfl ?_)) | (refine wpEager_skip (by rfl) ?_; (try simp only [Act.put, List.setIfInBounds_toArray, List.set_cons_zero, List.set_cons_succ]); (try refine eagerOpen rfl ?_)) | (refine wpEager_off (by rfl) ?_; (try simp only [Act.put, List.setIfInBounds_toArray, List.set_cons_zero, List.set_cons_succ]); (try refine eagerOpen rfl ?_))))
    (refine wpEager_op (by rfl) (fun K hK => ?_); go_simp; (refine (right_any M d q n c _ (HMW.out _ hy0)).mono ?_; rintro e y1 ⟨rfl, hb⟩; have hy1 := hy0.trans hb; clear hb); refine Shut.out hK _ _ (by assumption) ?_; clear hK K; (try simp only [Act.put, List.setIfInBounds_toArray, List.set_cons_zero, List.set_cons_succ]); (try refine eagerOpen rfl ?_))
    (refine wpEager_op (by rfl) (fun K hK => ?_); go_simp; (refine (rRight_any M d q n c _ (HMW.out _ hy1)).mono ?_; rintro e y2 ⟨rfl, hb⟩; have hy2 := hy1.trans (hb.mono hy1.size); clear hb); refine Shut.out hK _ _ (by assumption) ?_; clear hK K; (try simp only [Act.put, List.setIfInBounds_toArray, List.set_cons_zero, List.set_cons_succ]); (try refine eagerOpen rfl ?_))
    rw [HRT.out]
    repeat (first
      | (first | (apply wpEager_take; (· rfl); (· (intro w' hb'; go_simp; try with_reducible rfl)); (try simp only [Act.put, List.setIfInBounds_toArray, List.set_cons_zero, List.set_cons_succ]); (try refine eagerOpen rfl ?_)) | (refine wpEager_skip (by rfl) ?_; (try simp only [Act.put, List.setIfInBounds_toArray, List.set_cons_zero, List.set_cons_succ]); (try refine eagerOpen rfl ?_)) | (refine wpEager_off (by rfl) ?_; (try simp only [Act.put, List.setIfInBounds_toArray, List.set_cons_zero, List.set_cons_succ]); (try refine eagerOpen rfl ?_)))
      | (apply wpEager_take; (· rfl); (· (intro w' hb'; have hk' := (fun w' hb => HC1.out w' hb) w' hb'; go_split_ands; go_simp; try with_reducible rfl)); (try simp only [Act.put, List.setIfInBounds_toArray, List.set_cons_zero, List.set_cons_succ]); (try refine eagerOpen rfl ?_))
      | (apply wpEager_take; (· rfl); (· (intro w' hb'; have hk' := (fun w' hb => HC2.out w' hb) w' hb'; go_split_ands; go_simp; try with_reducible rfl)); (try simp only [Act.put, List.setIfInBounds_toArray, List.set_cons_zero, List.set_cons_succ]); (try refine eagerOpen rfl ?_)))
    refine eagerEnd ?_
    have HY2 := Lib.hid hy2
    have hrr := Below.keepOld hy2 HR4.out
    have HR5 := Lib.hid hrr
    have HM5 := Lib.hid (HM4.out.below hy2)
    have HB5 := Lib.hid (HB4.out.trans (hy2.mono HB4.out.size))
    have HS5 := Lib.hid (HS34.out.below hy2)
    clear hrr hy0 hy1 hy2 HR4 HM4 HB4 HS34 HS4 HMW HLA HC1 HC2
    go_wp2_with fail
    have HE5 := Lib.hid (HE.out.below HB5.out HE.out.lt)
    have hd1 := decode_any p3 B.length c3 B _ HE5.out HS5.out (by omega)
    rw [HDE.out] at hd1
    refine hd1.mono ?_
    clear hd1
    rintro e w6 ⟨M6, q6, n6, c6, rfl, hm6, hb6⟩
    have HM6 := Lib.hid hm6
    have HZ6 := Lib.hid hm6.size
    have HO6 := Lib.hid hm6.one
    have HB6 := Lib.hid hb6
    clear hm6 hb6
    go_upto_region 10 with ((with_reducible refine wpStoreAt 7 ?_); refine wpList_store_row rfl 26 _ _ rfl w6.heap.size M6 rfl rfl 26 (blkA zeros zeros none 0 0) (heap_alloc_last _ _) (infoBlk _ HZ6.out) (by rw [HZ6.out]; rfl) HO6.out ?_)
    try simp only [Act.put, List.setIfInBounds_toArray, List.set_cons_zero, List.set_cons_succ]
    obtain ⟨w7, hw7⟩ : ∃ w7, w7 = (w6.alloc (.cells (blkA zeros zeros none 0 0) 26)).setRow w6.heap.size M6 := ⟨_, rfl⟩
    rw [← hw7]
    have hr7 : w7.heap[w6.heap.size]? = some (.cells M6 26 (0, 0)) := by rw [hw7]; exact setRow_heap _ _ _ _ _ _ (heap_alloc_last _ _)
    have hb67 : Below w6.heap.size w6 w7 := by rw [hw7]; exact below_setRow (Below.allocs _ _) (Nat.le_refl _) _
    have hb57 := HB6.out.trans (hb67.mono HB6.out.size)
    have HK : Hid (∀ x, Below w7.heap.size w7 x → x.heap[w.heap.size]? = some (.cells M 26 (0, 0)) ∧ x.heap[w6.heap.size]? = some (.cells M6 26 (0, 0)) ∧ BlkAt x M d q n c ∧ BlkAt x M6 d q6 n6 c6 ∧ Bs x p3 B.length c3 B ∧ EType x ∧ Below w.heap.size w x) := fun x hx => by
      have h6x := hb67.trans (hx.mono hb67.size)
      have h5x := hb57.trans (hx.mono hb57.size)
      have hwx := HB5.out.trans (h5x.mono HB5.out.size)
      exact ⟨Below.keepOld h5x HR5.out, Below.keepOld hx hr7, HM5.out.below h5x, HM6.out.below h6x, HS5.out.below h5x, HE.out.below hwx HE.out.lt, hwx⟩
    have HKK : Hid (Below w7.heap.size w7 w7) := Below.refl _ _
    clear hr7 hb67 hb57 hw7 HM6 HB6 HR5 HM5 HB5 HE5
    obtain ⟨K1, hK1⟩ : ∃ K1, B.length - 1 = K1 := ⟨_, rfl⟩
    have hwk : IntKind.i64.wrap ((B.length : Int) - 1) = (K1 : Int) := by rw [IntWalk.i64_in _ (by omega)]; omega
    have hrun := cut0 B HS5.out K1 (K1 : Int) rfl (by omega)
    have hdl := HDL.out
    rw [hK1] at hdl
    obtain ⟨md, hmd⟩ : ∃ md, decB (B.take K1) = (md, 2) := ⟨_, Prod.ext rfl hdl⟩
    have hd8 := fun x (hx : Below w7.heap.size w7 x) => decode_any p3 K1 c3 (B.take K1) x (HK.out x hx).2.2.2.2.2.1 (bs_take (HK.out x hx).2.2.2.2.1 (by omega)) (by omega)
    rw [hmd] at hd8
    have HD8 := Lib.hid hd8
    have HKL : Hid (K1 ≤ B.length ∧ K1 + 1 = B.length) := ⟨by omega, by omega⟩
    clear hd8 hmd hdl hK1
    go_wp2_with fail
    refine (HD8.out _ HKK.out).mono ?_
    clear hrun hwk
    rintro e w8 ⟨M8, q8, n8, c8, rfl, hm8, hb8⟩
    have HB8 := Lib.hid hb8
    have HZ8 := Lib.hid hm8.size
    have HO8 := Lib.hid hm8.one
    clear hm8 hb8
    go_upto_region 11 with ((with_reducible refine wpStoreAt 9 ?_); refine wpList_store_row rfl 26 _ _ rfl w8.heap.size M8 rfl rfl 26 (blkA zeros zeros none 0 0) (heap_alloc_last _ _) (infoBlk _ HZ8.out) (by rw [HZ8.out]; rfl) HO8.out ?_)
    try simp only [Act.put, List.setIfInBounds_toArray, List.set_cons_zero, List.set_cons_succ]
    obtain ⟨w9, hw9⟩ : ∃ w9, w9 = (w8.alloc (.cells (blkA zeros zeros none 0 0) 26)).setRow w8.heap.size M8 := ⟨_, rfl⟩
    rw [← hw9]
    have hb89 : Below w8.heap.size w8 w9 := by rw [hw9]; exact below_setRow (Below.allocs _ _) (Nat.le_refl _) _
    have HB9 := Lib.hid (HB8.out.trans (hb89.mono HB8.out.size))
    clear hw9 hb89 HB8 HKK HD8
    have HO : Hid ((w9.alloc (.cells #[] 5)).ownsRow w9.heap.size 5 1 (.slice (some ⟨w9.heap.size, 0, none⟩) 0 0) 0 []) := ⟨rfl, .inr ⟨w9.heap.size, 0, _, rfl, Nat.le_refl _, heap_alloc_last _ _, Nat.le_refl _, by simp [maxLen], rfl, rfl⟩⟩
    have HBX : Hid (Below w9.heap.size w9 (w9.alloc (.cells #[] 5))) := Below.allocs _ _
    have HSX := Lib.hid ((HK.out _ HB9.out).2.2.2.2.1.below HBX.out)
    have hlx := HSX.out.le
    have hmx := HSX.out.max
    go_upto_region 12 with (at_builtin; refine wpList_append_nx rfl _ _ 29 rfl (base := w9.heap.size) Tryd.underlying29 info8b rfl (by omega) rfl HO.out rfl HSX.out (bytesV_one _) ⟨by omega, by omega⟩ HBX.out.size ?_)
    intro p10 c10 x10 ho10 hg10 _ _
    have hb10 := HBX.out.grown hg10 HBX.out.size (fun k hk => (HO.out.lt k hk).1)
    try rw [Nat.zero_add] at ho10
    try rw [List.nil_append] at ho10
    clear HO HBX HSX hg10 hlx hmx
    go_upto_region 12 with fail
    have HO : Hid ((x10.alloc (.cells #[.int .u8 0] 5)).ownsRow w9.heap.size 5 1 (.slice p10 B.length c10) B.length (bytesV B)) := own_touch ho10 (Turns.of_below (S := fun _ => False) (Below.allocs _ _)) (fun _ _ h => h)
    have HBX : Hid (Below w9.heap.size w9 (x10.alloc (.cells #[.int .u8 0] 5))) := hb10.trans ((Below.allocs _ _).mono hb10.size)
    have HSX : Hid (Bs (x10.alloc (.cells #[.int .u8 0] 5)) (some ⟨x10.heap.size, 0, none⟩) 1 1 [0]) := Bs.made _ _ _ _ _ _ rfl rfl (by omega)
    clear ho10 hb10
    go_upto_region 13 with (at_builtin; refine wpList_append_nx rfl _ _ 29 rfl (base := w9.heap.size) Tryd.underlying29 info8b rfl (by omega) rfl HO.out rfl HSX.out (bytesV_one _) ⟨by omega, by omega⟩ HBX.out.size ?_)
    intro p11 c11 x11 ho11 hg11 _ _
    have hb11 := HBX.out.grown hg11 HBX.out.size (fun k hk => (HO.out.lt k hk).1)
    rw [← bytesV_append] at ho11
    obtain ⟨p12, c12, e12, hs12⟩ := own_sl ho11
    cases e12
    have HB11 := Lib.hid (HB9.out.trans (hb11.mono HB9.out.size))
    clear HO HBX HSX hg11 hb11 ho11
    obtain ⟨me, hme⟩ : ∃ me, decB (B ++ [0]) = (me, 3) := ⟨_, Prod.ext rfl HDM.out⟩
    have hd12 := decode_any p11 (B.length + 1) c11 (B ++ [0]) x11 (HK.out _ HB11.out).2.2.2.2.2.1 hs12 (by omega)
    rw [hme] at hd12
    have HD12 := Lib.hid hd12
    clear hme hd12 hs12
    go_wp2_with fail
    refine HD12.out.mono ?_
    rintro e w12 ⟨M13, q13, n13, c13, rfl, hm13, hb13⟩
    have HB13 := Lib.hid hb13
    have HZ13 := Lib.hid hm13.size
    have HO13 := Lib.hid hm13.one
    clear hm13 hb13 HD12
    go_upto_region 14 with ((with_reducible refine wpStoreAt 12 ?_); refine wpList_store_row rfl 26 _ _ rfl w12.heap.size M13 rfl rfl 26 (blkA zeros zeros none 0 0) (heap_alloc_last _ _) (infoBlk _ HZ13.out) (by rw [HZ13.out]; rfl) HO13.out ?_)
    try simp only [Act.put, List.setIfInBounds_toArray, List.set_cons_zero, List.set_cons_succ]
    obtain ⟨w14, hw14⟩ : ∃ w14, w14 = (w12.alloc (.cells (blkA zeros zeros none 0 0) 26)).setRow w12.heap.size M13 := ⟨_, rfl⟩
    rw [← hw14]
    have hb14 : Below w12.heap.size w12 w14 := by rw [hw14]; exact below_setRow (Below.allocs _ _) (Nat.le_refl _) _
    have h714 : Below w7.heap.size w7 w14 := HB11.out.trans ((HB13.out.trans (hb14.mono HB13.out.size)).mono HB11.out.size)
    clear hw14 hb14 HB13 HB11
    have HK14 := Lib.hid (HK.out _ h714)
    clear h714
    go_wp2_with (first
      | ((with_reducible refine wpAt 81 ?_); refine wpList_unguard (by rfl) ?_; refine wpList_load_row rfl 26 _ rfl w.heap.size rfl 26 M (0, 0) _ HK14.out.1 Tryd.underlying26 rfl (infoBlk _ HZ.out) ?_)
      | ((with_reducible refine wpAt 82 ?_); refine wpList_unguard (by rfl) ?_; refine wpList_load_row rfl 26 _ rfl w6.heap.size rfl 26 M6 (0, 0) _ HK14.out.2.1 Tryd.underlying26 rfl (infoBlk _ HZ6.out) ?_))
    refine (rSame_any M M6 d d q q6 n c n6 c6 _ HK14.out.2.2.1 HK14.out.2.2.2.1).mono ?_
    rintro e w15 ⟨rfl, hb15⟩
    rw [HSS.out]
    have HB2 := Lib.hid (HK14.out.2.2.2.2.2.2.trans (hb15.mono HK14.out.2.2.2.2.2.2.size))
    clear hb15
    skip
    go_wp2_with fail
    refine (alive_any _).mono ?_
    rintro e w9 ⟨rfl, hb9⟩
    have HB9 := Lib.hid (HB2.out.trans (hb9.mono HB2.out.size))
    clear hb9
    go_wp2_with fail
    go_ret
    exact ⟨rfl, HB9.out⟩
  · have hf : rightB d = false := by cases h : rightB d; rfl; exact absurd h hr
    have HRT : Hid (rightB d = false) := hf
    have henc : d.enc = ([], 1) := by unfold BlkD.enc; rw [if_neg hr]
    rw [henc] at he1 he2
    have HEN1 := Lib.hid he1
    have HEN2 := Lib.hid he2
    clear henc he1 he2 hr hf
    skip
    go_enter Tryd.func3, Tryd.ntmps3
    go_upto_region 1 with fail
    generalize w.alloc (.cells M 26) = w2 at *
    go_wp2_with (refine wpList_load_row rfl 26 _ rfl w.heap.size rfl 26 M (0, 0) _ HROW.out Tryd.underlying26 rfl (infoBlk _ HZ.out) ?_)
    refine (few_any M d q n c w2 HM1.out).mono ?_
    rintro e w2b ⟨rfl, hb2b⟩
    have hr2b := Below.keepOld hb2b HROW.out
    have hm2b := HM1.out.below hb2b
    have HB1b := Lib.hid (HB1.out.trans (hb2b.mono HB1.out.size))
    have HROWb := Lib.hid hr2b
    have HM1b := Lib.hid hm2b
    clear hr2b hm2b hb2b HROW HM1 HB1
    go_wp2_with (refine wpList_load_row rfl 26 _ rfl w.heap.size rfl 26 M (0, 0) _ HROWb.out Tryd.underlying26 rfl (infoBlk _ HZ.out) ?_)
    refine (HEN1.out w2b HM1b.out).mono ?_
    rintro e w3 ⟨p3, c3, rfl, ho3, hs3, hb3⟩
    have hr3 := Below.keepOld hb3 HROWb.out
    have hm3 := HM1b.out.below hb3
    have HB3 := Lib.hid (HB1b.out.trans (hb3.mono HB1b.out.size))
    have HR3 := Lib.hid hr3
    have HM3 := Lib.hid hm3
    have HS3 := Lib.hid hs3
    clear hr3 hm3 hs3 hb3 ho3
    go_wp2_with (refine wpList_load_row rfl 26 _ rfl w.heap.size rfl 26 M (0, 0) _ HR3.out Tryd.underlying26 rfl (infoBlk _ HZ.out) ?_)
    refine (HEN2.out w3 HM3.out).mono ?_
    rintro e w4 ⟨p4, c4, rfl, ho4, hs4, hb4⟩
    have HR4 := Lib.hid (Below.keepOld hb4 HR3.out)
    have HM4 := Lib.hid (HM3.out.below hb4)
    have HB4 := Lib.hid (HB3.out.trans (hb4.mono HB3.out.size))
    have HS34 := Lib.hid (HS3.out.below hb4)
    have HS4 := Lib.hid hs4
    clear hs4 hb4 HR3 HM3 HB3 HS3 ho4
    go_upto_region 5 with fail
    have HMW : Hid (∀ w', Below w4.heap.size w4 w' → BlkAt w' M d q n c) := fun w' hb => HM4.out.below hb
    have HLA : Hid (∀ w', Below w4.heap.size w4 w' → w'.rangeAt w.heap.size 0 M.toList) := fun w' hb j v hv => by rw [cell_of_row _ _ _ _ _ _ (Below.keepOld hb HR4.out), ← Array.getElem?_toList, Nat.zero_add]; exact hv
    have HC1 : Hid (∀ w', Below w4.heap.size w4 w' → (convert 29 9 (.slice p3 (0) c3)).run Tryd.prog w' = .ok (.string (S ([] : List UInt8))) w') := fun w' hb =>
      run_conv (P := Tryd.prog) 29 9 5 Tryd.underlying29 Tryd.underlying5 Tryd.underlying9 (HS34.out.below hb)
    have HC2 : Hid (∀ w', Below w4.heap.size w4 w' → (convert 29 9 (.slice p4 (0) c4)).run Tryd.prog w' = .ok (.string (S ([] : List UInt8))) w') := fun w' hb =>
      run_conv (P := Tryd.prog) 29 9 5 Tryd.underlying29 Tryd.underlying5 Tryd.underlying9 (HS4.out.below hb)
    refine wp_region_eager [(0, true), (2, true), (1, false), (3, false), (4, true), (5, true), (6, true), (7, true), (8, true), (9, true), (10, true), (11, true), (12, true), (13, true), (14, true), (15, true), (16, true)] (by kernel_rfl) (by kernel_rfl) (eagerOpen rfl ?_)
    have hy0 : Below w4.heap.size w4 w4.drew := below_drew1 _ _
    repeat (first
      | ((with_reducible refine eagerLoadAt 1 ?_); refine wpEager_load (by rfl) 26 _ rfl w.heap.size 0 rfl M _ (fun w' hb => HLA.out w' hb) Tryd.underlying26 rfl (infoBlk _ HZ.out) ?_; (try simp only [Act.put, List.setIfInBounds_toArray, List.set_cons_zero, List.set_cons_succ]); (try refine eagerOpen rfl ?_))
      | (first | (apply wpEager_take; (· rfl); (· (intro w' hb'; go_simp; try with_reducible rfl)); (try simp only [Act.put, List.setIfInBounds_toArray, List.set_cons_zero, List.set_cons_succ]); (try refine eagerOpen rfl ?_)) | (refine wpEager_skip (by rfl) ?_; (try simp only [Act.put, List.setIfInBounds_toArray, List.set_cons_zero, List.set_cons_succ]); (try refine eagerOpen rfl ?_)) | (refine wpEager_off (by rfl) ?_; (try simp only [Act.put, List.setIfInBounds_toArray, List.set_cons_zero, List.set_cons_succ]); (try refine eagerOpen rfl ?_))))
    (refine wpEager_op (by rfl) (fun K hK => ?_); go_simp; (refine (right_any M d q n c _ (HMW.out _ hy0)).mono ?_; rintro e y1 ⟨rfl, hb⟩; have hy1 := hy0.trans hb; clear hb); refine Shut.out hK _ _ (by assumption) ?_; clear hK K; (try simp only [Act.put, List.setIfInBounds_toArray, List.set_cons_zero, List.set_cons_succ]); (try refine eagerOpen rfl ?_))
    (refine wpEager_op (by rfl) (fun K hK => ?_); go_simp; (refine (rRight_any M d q n c _ (HMW.out _ hy1)).mono ?_; rintro e y2 ⟨rfl, hb⟩; have hy2 := hy1.trans (hb.mono hy1.size); clear hb); refine Shut.out hK _ _ (by assumption) ?_; clear hK K; (try simp only [Act.put, List.setIfInBounds_toArray, List.set_cons_zero, List.set_cons_succ]); (try refine eagerOpen rfl ?_))
    rw [HRT.out]
    repeat (first
      | (first | (apply wpEager_take; (· rfl); (· (intro w' hb'; go_simp; try with_reducible rfl)); (try simp only [Act.put, List.setIfInBounds_toArray, List.set_cons_zero, List.set_cons_succ]); (try refine eagerOpen rfl ?_)) | (refine wpEager_skip (by rfl) ?_; (try simp only [Act.put, List.setIfInBounds_toArray, List.set_cons_zero, List.set_cons_succ]); (try refine eagerOpen rfl ?_)) | (refine wpEager_off (by rfl) ?_; (try simp only [Act.put, List.setIfInBounds_toArray, List.set_cons_zero, List.set_cons_succ]); (try refine eagerOpen rfl ?_)))
      | (apply wpEager_take; (· rfl); (· (intro w' hb'; have hk' := (fun w' hb => HC1.out w' hb) w' hb'; go_split_ands; go_simp; try with_reducible rfl)); (try simp only [Act.put, List.setIfInBounds_toArray, List.set_cons_zero, List.set_cons_succ]); (try refine eagerOpen rfl ?_))
      | (apply wpEager_take; (· rfl); (· (intro w' hb'; have hk' := (fun w' hb => HC2.out w' hb) w' hb'; go_split_ands; go_simp; try with_reducible rfl)); (try simp only [Act.put, List.setIfInBounds_toArray, List.set_cons_zero, List.set_cons_succ]); (try refine eagerOpen rfl ?_)))
    refine eagerEnd ?_
    have HY2 := Lib.hid hy2
    have hrr := Below.keepOld hy2 HR4.out
    have HR5 := Lib.hid hrr
    have HM5 := Lib.hid (HM4.out.below hy2)
    have HB5 := Lib.hid (HB4.out.trans (hy2.mono HB4.out.size))
    have HS5 := Lib.hid (HS34.out.below hy2)
    clear hrr hy0 hy1 hy2 HR4 HM4 HB4 HS34 HS4 HMW HLA HC1 HC2
    have HB2 := HB5
    skip
    go_wp2_with fail
    refine (alive_any _).mono ?_
    rintro e w9 ⟨rfl, hb9⟩
    have HB9 := Lib.hid (HB2.out.trans (hb9.mono HB2.out.size))
    clear hb9
    go_wp2_with fail
    go_ret
    exact ⟨rfl, HB9.out⟩
end Go.Proofs.YtdaigkcbmdcbcaaDoor.Blk
