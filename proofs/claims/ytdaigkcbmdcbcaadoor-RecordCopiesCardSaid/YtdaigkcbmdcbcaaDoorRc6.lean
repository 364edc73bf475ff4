/- PARTS, JOINED: RECORDS: the walk of only. Conditions: none. RECORDS: may one be? here. Conditions: none. -/
import Derived.Test.YtdaigkcbmdcbcaaDoorRc1
import Derived.Test.YtdaigkcbmdcbcaaDoorRc2
import Derived.Test.YtdaigkcbmdcbcaaDoorRc3
import Derived.Test.YtdaigkcbmdcbcaaDoorRc4
import Derived.Test.YtdaigkcbmdcbcaaDoorRc5
namespace Go.Proofs.YtdaigkcbmdcbcaaDoor.Rec
open Go.RowKit Go.Mir Go.Mir.Parts Wr Cod Blk

theorem RW.drew {w0 x : World} {g : Nat} {r : RecD} {s : RS} (h : RW w0 g r s x) : RW w0 g r s x.drew := ⟨h.row, h.wf, h.turn.drew⟩
set_option maxRecDepth 100000 in
set_option maxHeartbeats 3200000 in
theorem only_any (r : RecD) (s : RS) (w : World) (hR : RecAt w r s) :
    Calls Tryd.prog 46 #[.agg (recA r s)] w (RecP r.only w) := by
  have hz := zeroR
  have HR := Lib.hid hR
  have HW := Lib.hid hR.wf
  clear hR
  by_cases h2 : r.kind = 2
  · have t2 : (r.kind == 2) = true := by rw [beq_iff_eq]; exact h2
    have HE : Hid (r.only = ⟨r.kind, r.ses, r.seq, 0, r.hint, r.blob, .zero⟩) := by show _ = _; unfold RecD.only; rw [if_pos h2, h2]
    have HFIN : Hid (∀ s' w', RecAt w' ⟨r.kind, r.ses, r.seq, 0, r.hint, r.blob, .zero⟩ s' → Below w.heap.size w w' → RecP r.only w (.returned (.agg (recA ⟨r.kind, r.ses, r.seq, 0, r.hint, r.blob, .zero⟩ s'))) w') := fun s' w' h hb => by rw [HE.out]; exact ⟨s', rfl, h, hb⟩
    clear h2 HE
    go_enter Tryd.func46, Tryd.ntmps46
    go_upto_region 1 with fail
    obtain ⟨w2, hw2⟩ : ∃ w2, w2 = (w.alloc (.cells (recA r s) 42)).alloc (.cells (recA RecD.zero RS.none) 42) := ⟨_, rfl⟩
    rw [← hw2]
    have h2 := two_allocs w (.cells (recA r s) 42) (.cells (recA RecD.zero RS.none) 42)
    rw [← hw2] at h2
    have HT2 := Lib.hid h2
    clear hw2 h2
    obtain ⟨a0, _, _, _, _, _, _, _, _⟩ := rec_cells HW.out HT2.out.1
    go_upto_region 2 with (first
      | ((with_reducible refine wpAt 6 ?_); refine Rdr.wpList_build rfl 42 _ rfl [(0, .int .i64 r.kind)] rfl _ (build_rk _) ?_)
      | ((with_reducible refine wpStoreAt 3 ?_); refine wpList_store_row rfl 42 _ _ rfl w2.heap.size (recA ⟨r.kind, 0, 0, 0, z16, [], .zero⟩ RS.none) rfl rfl 42 (recA RecD.zero RS.none) (heap_alloc_last _ _) (sizeR _ rfl) rfl (recA_one _ _) ?_))
    try simp only [Act.put, List.setIfInBounds_toArray, List.set_cons_zero, List.set_cons_succ]
    have hq : RW ((w2.alloc (.cells (recA RecD.zero RS.none) 42)).setRow w2.heap.size (recA ⟨r.kind, 0, 0, 0, z16, [], .zero⟩ RS.none)) w2.heap.size ⟨r.kind, 0, 0, 0, z16, [], .zero⟩ RS.none ((w2.alloc (.cells (recA RecD.zero RS.none) 42)).setRow w2.heap.size (recA ⟨r.kind, 0, 0, 0, z16, [], .zero⟩ RS.none)) := ⟨setRow_heap _ _ _ _ _ _ (heap_alloc_last _ _), kind_wf HW.out.kindB, Turns.refl _ _⟩
    have hb3 : Below w2.heap.size w2 ((w2.alloc (.cells (recA RecD.zero RS.none) 42)).setRow w2.heap.size (recA ⟨r.kind, 0, 0, 0, z16, [], .zero⟩ RS.none)) := below_setRow (Below.allocs _ _) (Nat.le_refl _) _
    generalize (w2.alloc (.cells (recA RecD.zero RS.none) 42)).setRow w2.heap.size (recA ⟨r.kind, 0, 0, 0, z16, [], .zero⟩ RS.none) = x0 at *
    have h2 := HT2.out
    have hs2 := h2.2.2.1
    rw [hs2] at hq ⊢
    have HX : Hid (x0.heap[w.heap.size]? = some (.cells (recA r s) 42 (0, 0)) ∧ x0.heap[w.heap.size + 1]? = some (.cells (recA RecD.zero RS.none) 42 (0, 0)) ∧ Below w.heap.size w x0) := ⟨Below.keepOld hb3 h2.1, Below.keepOld hb3 h2.2.1, h2.2.2.2.trans (hb3.mono (by omega))⟩
    have HC : Hid (∀ x, Turns (fun k => k = w.heap.size + 2) x0 x → Cells x w.heap.size r s) := fun x ht => rec_cells HW.out (ht.keep HX.out.1 (by omega))
    have HQ := Lib.hid hq
    clear hq hb3 h2 hs2 a0
    obtain ⟨a0, a1, a2, a3, a20, _, _, _, _⟩ := HC.out _ (Turns.refl _ _)
    have HK : Hid (∀ w', Turns (fun k => k = w.heap.size + 2) x0 w' → w'.cell? ⟨w.heap.size, 2, none⟩ = some (.int .u32 (r.seq : Int))) := fun w' ht => (HC.out w' ht).c2
    have HK2 : Hid (∀ w', Turns (fun k => k = w.heap.size + 2) x0 w' → w'.cell? ⟨w.heap.size, 20, none⟩ = some (.slice s.p r.blob.length s.c)) := fun w' ht => (HC.out w' ht).c20
    have HKR : Hid (∀ w', Turns (fun k => k = w.heap.size + 2) x0 w' → w'.rangeAt w.heap.size 4 (idA r.hint).toList) := fun w' ht => (HC.out w' ht).rh
    go_wp2_with fail
    refine wp_region_eager_in (Turns (fun k => k = w.heap.size + 2) x0) [(0, true), (1, true), (2, true), (3, true), (4, true), (5, true), (6, true), (7, false), (8, true), (9, false), (10, true), (11, false)] (by kernel_rfl) (by kernel_rfl) ?_ (eagerOpen rfl ?_)
    · exact (Turns.refl _ _).drew
    have hq1 := HQ.out.drew
    have b2 := hq1.cells.c2
    have f2 := hq1.cells.fr 2
    generalize x0.drew = xd at *
    repeat (first
      | ((with_reducible refine eagerLoadAt 21 ?_); refine wpEager_load (by rfl) 40 _ rfl w.heap.size 4 rfl (idA r.hint) _ (fun w' hb => HKR.out w' hb) Tryd.underlying40 rfl (sizeH _ HW.out.hint) ?_; (try simp only [Act.put, List.setIfInBounds_toArray, List.set_cons_zero, List.set_cons_succ]); (try refine eagerOpen rfl ?_))
      | (first | (apply wpEager_take; (· rfl); (· (intro w' hb'; go_simp; try with_reducible rfl)); (try simp only [Act.put, List.setIfInBounds_toArray, List.set_cons_zero, List.set_cons_succ]); (try refine eagerOpen rfl ?_)) | (refine wpEager_skip (by rfl) ?_; (try simp only [Act.put, List.setIfInBounds_toArray, List.set_cons_zero, List.set_cons_succ]); (try refine eagerOpen rfl ?_)) | (refine wpEager_off (by rfl) ?_; (try simp only [Act.put, List.setIfInBounds_toArray, List.set_cons_zero, List.set_cons_succ]); (try refine eagerOpen rfl ?_)))
      | (apply wpEager_take; (· rfl); (· (intro w' hb'; have hk' := (HK.out) w' hb'; go_split_ands; go_simp; try with_reducible rfl)); (try simp only [Act.put, List.setIfInBounds_toArray, List.set_cons_zero, List.set_cons_succ]); (try refine eagerOpen rfl ?_))
      | (apply wpEager_take; (· rfl); (· (intro w' hb'; have hk' := (HK2.out) w' hb'; go_split_ands; go_simp; try with_reducible rfl)); (try simp only [Act.put, List.setIfInBounds_toArray, List.set_cons_zero, List.set_cons_succ]); (try refine eagerOpen rfl ?_)))
    have hq2 := hq1.seq r.seq HW.out.seq
    refine wpEager_op (by rfl) (fun K hK => ?_)
    go_simp
    refine Shut.out hK _ _ hq2.turn ?_
    clear hK K
    (try simp only [Act.put, List.setIfInBounds_toArray, List.set_cons_zero, List.set_cons_succ]); (try refine eagerOpen rfl ?_)
    generalize xd.setCell ⟨w.heap.size + 2, 2, none⟩ (.int .u32 (r.seq : Int)) = xe at *
    (first | (apply wpEager_take; (· rfl); (· (intro w' hb'; go_simp; try with_reducible rfl)); (try simp only [Act.put, List.setIfInBounds_toArray, List.set_cons_zero, List.set_cons_succ]); (try refine eagerOpen rfl ?_)) | (refine wpEager_skip (by rfl) ?_; (try simp only [Act.put, List.setIfInBounds_toArray, List.set_cons_zero, List.set_cons_succ]); (try refine eagerOpen rfl ?_)) | (refine wpEager_off (by rfl) ?_; (try simp only [Act.put, List.setIfInBounds_toArray, List.set_cons_zero, List.set_cons_succ]); (try refine eagerOpen rfl ?_)))
    have hq3 := hq2.hint r.hint HW.out.hint
    have HTH : Hid (xe.there (w.heap.size + 2) 4 (idA r.hint).size) := hq2.thereH 4 _ (by rw [idA_size, HW.out.hint]; omega)
    refine wpEager_op (by rfl) (fun K hK => oper_of_list rfl ?_)
    refine wpList_store_mid rfl 40 _ _ rfl (w.heap.size + 2) 4 (idA r.hint) rfl rfl HTH.out (sizeH _ HW.out.hint) (idA_one _) ?_
    refine only_end (Shut.out hK _ _ hq3.turn ?_)
    clear hK K HTH
    (try simp only [Act.put, List.setIfInBounds_toArray, List.set_cons_zero, List.set_cons_succ]); (try refine eagerOpen rfl ?_)
    generalize xe.setCells (w.heap.size + 2) 4 (idA r.hint).toList = xf at *
    (first | (apply wpEager_take; (· rfl); (· (intro w' hb'; go_simp; try with_reducible rfl)); (try simp only [Act.put, List.setIfInBounds_toArray, List.set_cons_zero, List.set_cons_succ]); (try refine eagerOpen rfl ?_)) | (refine wpEager_skip (by rfl) ?_; (try simp only [Act.put, List.setIfInBounds_toArray, List.set_cons_zero, List.set_cons_succ]); (try refine eagerOpen rfl ?_)) | (refine wpEager_off (by rfl) ?_; (try simp only [Act.put, List.setIfInBounds_toArray, List.set_cons_zero, List.set_cons_succ]); (try refine eagerOpen rfl ?_)))
    have hq4 := hq3.blob r.blob s.p s.c
    have b20 := hq3.cells.c20
    have f20 := hq3.cells.fr 20
    refine wpEager_op (by rfl) (fun K hK => ?_)
    go_simp
    refine Shut.out hK _ _ hq4.turn ?_
    clear hK K
    (try simp only [Act.put, List.setIfInBounds_toArray, List.set_cons_zero, List.set_cons_succ]); (try refine eagerOpen rfl ?_)
    refine eagerEnd ?_
    generalize xf.setCell ⟨w.heap.size + 2, 20, none⟩ (.slice s.p r.blob.length s.c) = xg at *
    clear b2 f2 b20 f20 hq1 hq2 hq3 a0 a1 a2 a3 a20
    have b1 := hq4.cells.c1
    have f1 := hq4.cells.fr 1
    obtain ⟨a0, a1, a2, a3, a20, _, _, _, _⟩ := HC.out _ hq4.turn
    have hq5 := hq4.ses r.ses HW.out.ses
    clear HQ hq4
    have HQ := Lib.hid hq5
    clear hq5
    go_upto_region 13 with fail
    generalize xg.setCell ⟨w.heap.size + 2, 1, none⟩ (.int .u32 (r.ses : Int)) = xh at *
    clear b1 f1 a0 a1 a2 a3 a20
    have HQE := HQ
    clear HQ
    go_wp2_with (first
      | refine wpList_load_row rfl 42 _ rfl (w.heap.size + 2) rfl 42 (recA ⟨r.kind, r.ses, r.seq, 0, r.hint, r.blob, .zero⟩ ⟨s.p, s.c, none, 0⟩) (0, 0) _ HQE.out.row Tryd.underlying42 rfl (sizeR _ (recA_size HQE.out.wf _)) ?_
      | refine wpList_store_row rfl 42 _ _ rfl (w.heap.size + 1) (recA ⟨r.kind, r.ses, r.seq, 0, r.hint, r.blob, .zero⟩ ⟨s.p, s.c, none, 0⟩) rfl rfl 42 (recA RecD.zero RS.none) (HQE.out.turn.keep HX.out.2.1 (by omega)) (sizeR _ (recA_size HQE.out.wf _)) (by rw [recA_size HQE.out.wf]; rfl) (recA_one _ _) ?_)
    have HS := Lib.hid (setRow_heap _ _ _ (recA ⟨r.kind, r.ses, r.seq, 0, r.hint, r.blob, .zero⟩ ⟨s.p, s.c, none, 0⟩) _ _ (HQE.out.turn.keep HX.out.2.1 (by omega)))
    refine bodyPost_ret (results_cell_row rfl _ _ _ _ _ _ _ rfl HS.out Tryd.underlying42 rfl (sizeR _ (recA_size HQE.out.wf _))) rfl ?_
    have hfin : Below w.heap.size w _ := below_setRow (HX.out.2.2.trans (HQE.out.turn.below HX.out.2.2.size (fun i hi => by omega))) (Nat.le_succ _) (recA ⟨r.kind, r.ses, r.seq, 0, r.hint, r.blob, .zero⟩ ⟨s.p, s.c, none, 0⟩)
    exact HFIN.out ⟨s.p, s.c, none, 0⟩ _ (⟨HQE.out.wf, HR.out.blob.below hfin, Is.nil _ _⟩) hfin
  by_cases h4 : r.kind = 4
  · have t2 : (r.kind == 2) = false := by rw [beq_eq_false_iff_ne]; exact h2
    have t4 : (r.kind == 4) = true := by rw [beq_iff_eq]; exact h4
    have HE : Hid (r.only = ⟨r.kind, r.ses, 0, 0, z16, [], .zero⟩) := by show _ = _; unfold RecD.only; rw [if_neg h2, if_pos h4, h4]
    have HFIN : Hid (∀ s' w', RecAt w' ⟨r.kind, r.ses, 0, 0, z16, [], .zero⟩ s' → Below w.heap.size w w' → RecP r.only w (.returned (.agg (recA ⟨r.kind, r.ses, 0, 0, z16, [], .zero⟩ s'))) w') := fun s' w' h hb => by rw [HE.out]; exact ⟨s', rfl, h, hb⟩
    clear h2 h4 HE
    go_enter Tryd.func46, Tryd.ntmps46
    go_upto_region 1 with fail
    obtain ⟨w2, hw2⟩ : ∃ w2, w2 = (w.alloc (.cells (recA r s) 42)).alloc (.cells (recA RecD.zero RS.none) 42) := ⟨_, rfl⟩
    rw [← hw2]
    have h2 := two_allocs w (.cells (recA r s) 42) (.cells (recA RecD.zero RS.none) 42)
    rw [← hw2] at h2
    have HT2 := Lib.hid h2
    clear hw2 h2
    obtain ⟨a0, _, _, _, _, _, _, _, _⟩ := rec_cells HW.out HT2.out.1
    go_upto_region 2 with (first
      | ((with_reducible refine wpAt 6 ?_); refine Rdr.wpList_build rfl 42 _ rfl [(0, .int .i64 r.kind)] rfl _ (build_rk _) ?_)
      | ((with_reducible refine wpStoreAt 3 ?_); refine wpList_store_row rfl 42 _ _ rfl w2.heap.size (recA ⟨r.kind, 0, 0, 0, z16, [], .zero⟩ RS.none) rfl rfl 42 (recA RecD.zero RS.none) (heap_alloc_last _ _) (sizeR _ rfl) rfl (recA_one _ _) ?_))
    try simp only [Act.put, List.setIfInBounds_toArray, List.set_cons_zero, List.set_cons_succ]
    have hq : RW ((w2.alloc (.cells (recA RecD.zero RS.none) 42)).setRow w2.heap.size (recA ⟨r.kind, 0, 0, 0, z16, [], .zero⟩ RS.none)) w2.heap.size ⟨r.kind, 0, 0, 0, z16, [], .zero⟩ RS.none ((w2.alloc (.cells (recA RecD.zero RS.none) 42)).setRow w2.heap.size (recA ⟨r.kind, 0, 0, 0, z16, [], .zero⟩ RS.none)) := ⟨setRow_heap _ _ _ _ _ _ (heap_alloc_last _ _), kind_wf HW.out.kindB, Turns.refl _ _⟩
    have hb3 : Below w2.heap.size w2 ((w2.alloc (.cells (recA RecD.zero RS.none) 42)).setRow w2.heap.size (recA ⟨r.kind, 0, 0, 0, z16, [], .zero⟩ RS.none)) := below_setRow (Below.allocs _ _) (Nat.le_refl _) _
    generalize (w2.alloc (.cells (recA RecD.zero RS.none) 42)).setRow w2.heap.size (recA ⟨r.kind, 0, 0, 0, z16, [], .zero⟩ RS.none) = x0 at *
    have h2 := HT2.out
    have hs2 := h2.2.2.1
    rw [hs2] at hq ⊢
    have HX : Hid (x0.heap[w.heap.size]? = some (.cells (recA r s) 42 (0, 0)) ∧ x0.heap[w.heap.size + 1]? = some (.cells (recA RecD.zero RS.none) 42 (0, 0)) ∧ Below w.heap.size w x0) := ⟨Below.keepOld hb3 h2.1, Below.keepOld hb3 h2.2.1, h2.2.2.2.trans (hb3.mono (by omega))⟩
    have HC : Hid (∀ x, Turns (fun k => k = w.heap.size + 2) x0 x → Cells x w.heap.size r s) := fun x ht => rec_cells HW.out (ht.keep HX.out.1 (by omega))
    have HQ := Lib.hid hq
    clear hq hb3 h2 hs2 a0
    obtain ⟨a0, a1, a2, a3, a20, _, _, _, _⟩ := HC.out _ (Turns.refl _ _)
    have b1 := HQ.out.cells.c1
    have f1 := HQ.out.cells.fr 1
    have hq5 := HQ.out.ses r.ses HW.out.ses
    clear HQ
    have HQ := Lib.hid hq5
    clear hq5
    go_upto_region 13 with fail
    generalize x0.setCell ⟨w.heap.size + 2, 1, none⟩ (.int .u32 (r.ses : Int)) = xh at *
    clear b1 f1 a0 a1 a2 a3 a20
    have HQE := HQ
    clear HQ
    go_wp2_with (first
      | refine wpList_load_row rfl 42 _ rfl (w.heap.size + 2) rfl 42 (recA ⟨r.kind, r.ses, 0, 0, z16, [], .zero⟩ RS.none) (0, 0) _ HQE.out.row Tryd.underlying42 rfl (sizeR _ (recA_size HQE.out.wf _)) ?_
      | refine wpList_store_row rfl 42 _ _ rfl (w.heap.size + 1) (recA ⟨r.kind, r.ses, 0, 0, z16, [], .zero⟩ RS.none) rfl rfl 42 (recA RecD.zero RS.none) (HQE.out.turn.keep HX.out.2.1 (by omega)) (sizeR _ (recA_size HQE.out.wf _)) (by rw [recA_size HQE.out.wf]; rfl) (recA_one _ _) ?_)
    have HS := Lib.hid (setRow_heap _ _ _ (recA ⟨r.kind, r.ses, 0, 0, z16, [], .zero⟩ RS.none) _ _ (HQE.out.turn.keep HX.out.2.1 (by omega)))
    refine bodyPost_ret (results_cell_row rfl _ _ _ _ _ _ _ rfl HS.out Tryd.underlying42 rfl (sizeR _ (recA_size HQE.out.wf _))) rfl ?_
    have hfin : Below w.heap.size w _ := below_setRow (HX.out.2.2.trans (HQE.out.turn.below HX.out.2.2.size (fun i hi => by omega))) (Nat.le_succ _) (recA ⟨r.kind, r.ses, 0, 0, z16, [], .zero⟩ RS.none)
    exact HFIN.out RS.none _ (⟨HQE.out.wf, Sl.nil _ _, Is.nil _ _⟩) hfin
  by_cases h1 : r.kind = 1
  · have t2 : (r.kind == 2) = false := by rw [beq_eq_false_iff_ne]; exact h2
    have t4 : (r.kind == 4) = false := by rw [beq_eq_false_iff_ne]; exact h4
    have t1 : (r.kind == 1) = true := by rw [beq_iff_eq]; exact h1
    have HE : Hid (r.only = ⟨r.kind, r.ses, 0, r.quo, z16, [], .zero⟩) := by show _ = _; unfold RecD.only; rw [if_neg h2, if_neg h4, if_pos h1, h1]
    have HFIN : Hid (∀ s' w', RecAt w' ⟨r.kind, r.ses, 0, r.quo, z16, [], .zero⟩ s' → Below w.heap.size w w' → RecP r.only w (.returned (.agg (recA ⟨r.kind, r.ses, 0, r.quo, z16, [], .zero⟩ s'))) w') := fun s' w' h hb => by rw [HE.out]; exact ⟨s', rfl, h, hb⟩
    clear h2 h4 h1 HE
    go_enter Tryd.func46, Tryd.ntmps46
    go_upto_region 1 with fail
    obtain ⟨w2, hw2⟩ : ∃ w2, w2 = (w.alloc (.cells (recA r s) 42)).alloc (.cells (recA RecD.zero RS.none) 42) := ⟨_, rfl⟩
    rw [← hw2]
    have h2 := two_allocs w (.cells (recA r s) 42) (.cells (recA RecD.zero RS.none) 42)
    rw [← hw2] at h2
    have HT2 := Lib.hid h2
    clear hw2 h2
    obtain ⟨a0, _, _, _, _, _, _, _, _⟩ := rec_cells HW.out HT2.out.1
    go_upto_region 2 with (first
      | ((with_reducible refine wpAt 6 ?_); refine Rdr.wpList_build rfl 42 _ rfl [(0, .int .i64 r.kind)] rfl _ (build_rk _) ?_)
      | ((with_reducible refine wpStoreAt 3 ?_); refine wpList_store_row rfl 42 _ _ rfl w2.heap.size (recA ⟨r.kind, 0, 0, 0, z16, [], .zero⟩ RS.none) rfl rfl 42 (recA RecD.zero RS.none) (heap_alloc_last _ _) (sizeR _ rfl) rfl (recA_one _ _) ?_))
    try simp only [Act.put, List.setIfInBounds_toArray, List.set_cons_zero, List.set_cons_succ]
    have hq : RW ((w2.alloc (.cells (recA RecD.zero RS.none) 42)).setRow w2.heap.size (recA ⟨r.kind, 0, 0, 0, z16, [], .zero⟩ RS.none)) w2.heap.size ⟨r.kind, 0, 0, 0, z16, [], .zero⟩ RS.none ((w2.alloc (.cells (recA RecD.zero RS.none) 42)).setRow w2.heap.size (recA ⟨r.kind, 0, 0, 0, z16, [], .zero⟩ RS.none)) := ⟨setRow_heap _ _ _ _ _ _ (heap_alloc_last _ _), kind_wf HW.out.kindB, Turns.refl _ _⟩
    have hb3 : Below w2.heap.size w2 ((w2.alloc (.cells (recA RecD.zero RS.none) 42)).setRow w2.heap.size (recA ⟨r.kind, 0, 0, 0, z16, [], .zero⟩ RS.none)) := below_setRow (Below.allocs _ _) (Nat.le_refl _) _
    generalize (w2.alloc (.cells (recA RecD.zero RS.none) 42)).setRow w2.heap.size (recA ⟨r.kind, 0, 0, 0, z16, [], .zero⟩ RS.none) = x0 at *
    have h2 := HT2.out
    have hs2 := h2.2.2.1
    rw [hs2] at hq ⊢
    have HX : Hid (x0.heap[w.heap.size]? = some (.cells (recA r s) 42 (0, 0)) ∧ x0.heap[w.heap.size + 1]? = some (.cells (recA RecD.zero RS.none) 42 (0, 0)) ∧ Below w.heap.size w x0) := ⟨Below.keepOld hb3 h2.1, Below.keepOld hb3 h2.2.1, h2.2.2.2.trans (hb3.mono (by omega))⟩
    have HC : Hid (∀ x, Turns (fun k => k = w.heap.size + 2) x0 x → Cells x w.heap.size r s) := fun x ht => rec_cells HW.out (ht.keep HX.out.1 (by omega))
    have HQ := Lib.hid hq
    clear hq hb3 h2 hs2 a0
    obtain ⟨a0, a1, a2, a3, a20, _, _, _, _⟩ := HC.out _ (Turns.refl _ _)
    have b1 := HQ.out.cells.c1
    have f1 := HQ.out.cells.fr 1
    have b3 := HQ.out.cells.c3
    have f3 := HQ.out.cells.fr 3
    go_upto_region 10 with fail
    go_region
    have hq5 := ((HQ.out.ses r.ses HW.out.ses).quo r.quo HW.out.quo).drew
    clear HQ
    have HQ := Lib.hid hq5
    clear hq5
    generalize ((x0.setCell ⟨w.heap.size + 2, 1, none⟩ (.int .u32 (r.ses : Int))).setCell ⟨w.heap.size + 2, 3, none⟩ (.int .u32 (r.quo : Int))).drew = xh at *
    clear b1 f1 b3 f3 a0 a1 a2 a3 a20
    have HQE := HQ
    clear HQ
    go_wp2_with (first
      | refine wpList_load_row rfl 42 _ rfl (w.heap.size + 2) rfl 42 (recA ⟨r.kind, r.ses, 0, r.quo, z16, [], .zero⟩ RS.none) (0, 0) _ HQE.out.row Tryd.underlying42 rfl (sizeR _ (recA_size HQE.out.wf _)) ?_
      | refine wpList_store_row rfl 42 _ _ rfl (w.heap.size + 1) (recA ⟨r.kind, r.ses, 0, r.quo, z16, [], .zero⟩ RS.none) rfl rfl 42 (recA RecD.zero RS.none) (HQE.out.turn.keep HX.out.2.1 (by omega)) (sizeR _ (recA_size HQE.out.wf _)) (by rw [recA_size HQE.out.wf]; rfl) (recA_one _ _) ?_)
    have HS := Lib.hid (setRow_heap _ _ _ (recA ⟨r.kind, r.ses, 0, r.quo, z16, [], .zero⟩ RS.none) _ _ (HQE.out.turn.keep HX.out.2.1 (by omega)))
    refine bodyPost_ret (results_cell_row rfl _ _ _ _ _ _ _ rfl HS.out Tryd.underlying42 rfl (sizeR _ (recA_size HQE.out.wf _))) rfl ?_
    have hfin : Below w.heap.size w _ := below_setRow (HX.out.2.2.trans (HQE.out.turn.below HX.out.2.2.size (fun i hi => by omega))) (Nat.le_succ _) (recA ⟨r.kind, r.ses, 0, r.quo, z16, [], .zero⟩ RS.none)
    exact HFIN.out RS.none _ (⟨HQE.out.wf, Sl.nil _ _, Is.nil _ _⟩) hfin
  by_cases h5 : r.kind = 5
  · have t2 : (r.kind == 2) = false := by rw [beq_eq_false_iff_ne]; exact h2
    have t4 : (r.kind == 4) = false := by rw [beq_eq_false_iff_ne]; exact h4
    have t1 : (r.kind == 1) = false := by rw [beq_eq_false_iff_ne]; exact h1
    have t5 : (r.kind == 5) = true := by rw [beq_iff_eq]; exact h5
    have HE : Hid (r.only = ⟨r.kind, 0, 0, 0, z16, [], r.blk⟩) := by show _ = _; unfold RecD.only; rw [if_neg h2, if_neg h4, if_neg h1, if_pos h5, h5]
    have HFIN : Hid (∀ s' w', RecAt w' ⟨r.kind, 0, 0, 0, z16, [], r.blk⟩ s' → Below w.heap.size w w' → RecP r.only w (.returned (.agg (recA ⟨r.kind, 0, 0, 0, z16, [], r.blk⟩ s'))) w') := fun s' w' h hb => by rw [HE.out]; exact ⟨s', rfl, h, hb⟩
    clear h2 h4 h1 h5 HE
    go_enter Tryd.func46, Tryd.ntmps46
    go_upto_region 1 with fail
    obtain ⟨w2, hw2⟩ : ∃ w2, w2 = (w.alloc (.cells (recA r s) 42)).alloc (.cells (recA RecD.zero RS.none) 42) := ⟨_, rfl⟩
    rw [← hw2]
    have h2 := two_allocs w (.cells (recA r s) 42) (.cells (recA RecD.zero RS.none) 42)
    rw [← hw2] at h2
    have HT2 := Lib.hid h2
    clear hw2 h2
    obtain ⟨a0, _, _, _, _, _, _, _, _⟩ := rec_cells HW.out HT2.out.1
    go_upto_region 2 with (first
      | ((with_reducible refine wpAt 6 ?_); refine Rdr.wpList_build rfl 42 _ rfl [(0, .int .i64 r.kind)] rfl _ (build_rk _) ?_)
      | ((with_reducible refine wpStoreAt 3 ?_); refine wpList_store_row rfl 42 _ _ rfl w2.heap.size (recA ⟨r.kind, 0, 0, 0, z16, [], .zero⟩ RS.none) rfl rfl 42 (recA RecD.zero RS.none) (heap_alloc_last _ _) (sizeR _ rfl) rfl (recA_one _ _) ?_))
    try simp only [Act.put, List.setIfInBounds_toArray, List.set_cons_zero, List.set_cons_succ]
    have hq : RW ((w2.alloc (.cells (recA RecD.zero RS.none) 42)).setRow w2.heap.size (recA ⟨r.kind, 0, 0, 0, z16, [], .zero⟩ RS.none)) w2.heap.size ⟨r.kind, 0, 0, 0, z16, [], .zero⟩ RS.none ((w2.alloc (.cells (recA RecD.zero RS.none) 42)).setRow w2.heap.size (recA ⟨r.kind, 0, 0, 0, z16, [], .zero⟩ RS.none)) := ⟨setRow_heap _ _ _ _ _ _ (heap_alloc_last _ _), kind_wf HW.out.kindB, Turns.refl _ _⟩
    have hb3 : Below w2.heap.size w2 ((w2.alloc (.cells (recA RecD.zero RS.none) 42)).setRow w2.heap.size (recA ⟨r.kind, 0, 0, 0, z16, [], .zero⟩ RS.none)) := below_setRow (Below.allocs _ _) (Nat.le_refl _) _
    generalize (w2.alloc (.cells (recA RecD.zero RS.none) 42)).setRow w2.heap.size (recA ⟨r.kind, 0, 0, 0, z16, [], .zero⟩ RS.none) = x0 at *
    have h2 := HT2.out
    have hs2 := h2.2.2.1
    rw [hs2] at hq ⊢
    have HX : Hid (x0.heap[w.heap.size]? = some (.cells (recA r s) 42 (0, 0)) ∧ x0.heap[w.heap.size + 1]? = some (.cells (recA RecD.zero RS.none) 42 (0, 0)) ∧ Below w.heap.size w x0) := ⟨Below.keepOld hb3 h2.1, Below.keepOld hb3 h2.2.1, h2.2.2.2.trans (hb3.mono (by omega))⟩
    have HC : Hid (∀ x, Turns (fun k => k = w.heap.size + 2) x0 x → Cells x w.heap.size r s) := fun x ht => rec_cells HW.out (ht.keep HX.out.1 (by omega))
    have HQ := Lib.hid hq
    clear hq hb3 h2 hs2 a0
    obtain ⟨a0, a1, a2, a3, a20, _, _, _, _⟩ := HC.out _ (Turns.refl _ _)
    have hq5 := HQ.out.block r.blk HW.out.blk s.q s.d
    have HTH : Hid (x0.there (w.heap.size + 2) 21 (r.blkA s).size) := HQ.out.thereH 21 _ (by rw [rblk_size HW.out]; omega)
    have HRB := Lib.hid (HC.out _ (Turns.refl _ _)).rb
    clear HQ
    have HQ := Lib.hid hq5
    clear hq5
    go_upto_region 13 with (first
      | ((with_reducible refine wpAt 38 ?_); refine wpList_load_mid rfl 26 _ rfl w.heap.size 21 rfl (r.blkA s).toList _ HRB.out Tryd.underlying26 rfl (by rw [Array.length_toList, infoBlk _ rfl, rblk_size HW.out]) ?_)
      | refine wpList_store_mid rfl 26 _ _ rfl (w.heap.size + 2) 21 (r.blkA s) (by first | rfl | simp) rfl HTH.out (by rw [infoBlk _ rfl, rblk_size HW.out]) (rblk_one _ _) ?_)
    try simp only [Act.put, List.setIfInBounds_toArray, List.set_cons_zero, List.set_cons_succ]
    have hgx : x0.setCells (w.heap.size + 2) 21 (Go.Mir.blkA r.blk.hash r.blk.par s.q r.blk.txs.length s.d).toList = x0.setCells (w.heap.size + 2) 21 (r.blkA s).toList := rfl
    rw [hgx] at HQ
    clear hgx HTH HRB
    generalize x0.setCells (w.heap.size + 2) 21 (r.blkA s).toList = xh at *
    clear a0 a1 a2 a3 a20
    have HQE := HQ
    clear HQ
    go_wp2_with (first
      | refine wpList_load_row rfl 42 _ rfl (w.heap.size + 2) rfl 42 (recA ⟨r.kind, 0, 0, 0, z16, [], r.blk⟩ ⟨none, 0, s.q, s.d⟩) (0, 0) _ HQE.out.row Tryd.underlying42 rfl (sizeR _ (recA_size HQE.out.wf _)) ?_
      | refine wpList_store_row rfl 42 _ _ rfl (w.heap.size + 1) (recA ⟨r.kind, 0, 0, 0, z16, [], r.blk⟩ ⟨none, 0, s.q, s.d⟩) rfl rfl 42 (recA RecD.zero RS.none) (HQE.out.turn.keep HX.out.2.1 (by omega)) (sizeR _ (recA_size HQE.out.wf _)) (by rw [recA_size HQE.out.wf]; rfl) (recA_one _ _) ?_)
    have HS := Lib.hid (setRow_heap _ _ _ (recA ⟨r.kind, 0, 0, 0, z16, [], r.blk⟩ ⟨none, 0, s.q, s.d⟩) _ _ (HQE.out.turn.keep HX.out.2.1 (by omega)))
    refine bodyPost_ret (results_cell_row rfl _ _ _ _ _ _ _ rfl HS.out Tryd.underlying42 rfl (sizeR _ (recA_size HQE.out.wf _))) rfl ?_
    have hfin : Below w.heap.size w _ := below_setRow (HX.out.2.2.trans (HQE.out.turn.below HX.out.2.2.size (fun i hi => by omega))) (Nat.le_succ _) (recA ⟨r.kind, 0, 0, 0, z16, [], r.blk⟩ ⟨none, 0, s.q, s.d⟩)
    exact HFIN.out ⟨none, 0, s.q, s.d⟩ _ (⟨HQE.out.wf, Sl.nil _ _, HR.out.ids.below hfin⟩) hfin
  by_cases h6 : r.kind = 6
  · have t2 : (r.kind == 2) = false := by rw [beq_eq_false_iff_ne]; exact h2
    have t4 : (r.kind == 4) = false := by rw [beq_eq_false_iff_ne]; exact h4
    have t1 : (r.kind == 1) = false := by rw [beq_eq_false_iff_ne]; exact h1
    have t5 : (r.kind == 5) = false := by rw [beq_eq_false_iff_ne]; exact h5
    have t6 : (r.kind == 6) = true := by rw [beq_iff_eq]; exact h6
    have HE : Hid (r.only = ⟨r.kind, 0, 0, 0, z16, [], ⟨r.blk.hash, zeros, []⟩⟩) := by show _ = _; unfold RecD.only; rw [if_neg h2, if_neg h4, if_neg h1, if_neg h5, if_pos h6, h6]
    have HFIN : Hid (∀ s' w', RecAt w' ⟨r.kind, 0, 0, 0, z16, [], ⟨r.blk.hash, zeros, []⟩⟩ s' → Below w.heap.size w w' → RecP r.only w (.returned (.agg (recA ⟨r.kind, 0, 0, 0, z16, [], ⟨r.blk.hash, zeros, []⟩⟩ s'))) w') := fun s' w' h hb => by rw [HE.out]; exact ⟨s', rfl, h, hb⟩
    clear h2 h4 h1 h5 h6 HE
    go_enter Tryd.func46, Tryd.ntmps46
    go_upto_region 1 with fail
    obtain ⟨w2, hw2⟩ : ∃ w2, w2 = (w.alloc (.cells (recA r s) 42)).alloc (.cells (recA RecD.zero RS.none) 42) := ⟨_, rfl⟩
    rw [← hw2]
    have h2 := two_allocs w (.cells (recA r s) 42) (.cells (recA RecD.zero RS.none) 42)
    rw [← hw2] at h2
    have HT2 := Lib.hid h2
    clear hw2 h2
    obtain ⟨a0, _, _, _, _, _, _, _, _⟩ := rec_cells HW.out HT2.out.1
    go_upto_region 2 with (first
      | ((with_reducible refine wpAt 6 ?_); refine Rdr.wpList_build rfl 42 _ rfl [(0, .int .i64 r.kind)] rfl _ (build_rk _) ?_)
      | ((with_reducible refine wpStoreAt 3 ?_); refine wpList_store_row rfl 42 _ _ rfl w2.heap.size (recA ⟨r.kind, 0, 0, 0, z16, [], .zero⟩ RS.none) rfl rfl 42 (recA RecD.zero RS.none) (heap_alloc_last _ _) (sizeR _ rfl) rfl (recA_one _ _) ?_))
    try simp only [Act.put, List.setIfInBounds_toArray, List.set_cons_zero, List.set_cons_succ]
    have hq : RW ((w2.alloc (.cells (recA RecD.zero RS.none) 42)).setRow w2.heap.size (recA ⟨r.kind, 0, 0, 0, z16, [], .zero⟩ RS.none)) w2.heap.size ⟨r.kind, 0, 0, 0, z16, [], .zero⟩ RS.none ((w2.alloc (.cells (recA RecD.zero RS.none) 42)).setRow w2.heap.size (recA ⟨r.kind, 0, 0, 0, z16, [], .zero⟩ RS.none)) := ⟨setRow_heap _ _ _ _ _ _ (heap_alloc_last _ _), kind_wf HW.out.kindB, Turns.refl _ _⟩
    have hb3 : Below w2.heap.size w2 ((w2.alloc (.cells (recA RecD.zero RS.none) 42)).setRow w2.heap.size (recA ⟨r.kind, 0, 0, 0, z16, [], .zero⟩ RS.none)) := below_setRow (Below.allocs _ _) (Nat.le_refl _) _
    generalize (w2.alloc (.cells (recA RecD.zero RS.none) 42)).setRow w2.heap.size (recA ⟨r.kind, 0, 0, 0, z16, [], .zero⟩ RS.none) = x0 at *
    have h2 := HT2.out
    have hs2 := h2.2.2.1
    rw [hs2] at hq ⊢
    have HX : Hid (x0.heap[w.heap.size]? = some (.cells (recA r s) 42 (0, 0)) ∧ x0.heap[w.heap.size + 1]? = some (.cells (recA RecD.zero RS.none) 42 (0, 0)) ∧ Below w.heap.size w x0) := ⟨Below.keepOld hb3 h2.1, Below.keepOld hb3 h2.2.1, h2.2.2.2.trans (hb3.mono (by omega))⟩
    have HC : Hid (∀ x, Turns (fun k => k = w.heap.size + 2) x0 x → Cells x w.heap.size r s) := fun x ht => rec_cells HW.out (ht.keep HX.out.1 (by omega))
    have HQ := Lib.hid hq
    clear hq hb3 h2 hs2 a0
    obtain ⟨a0, a1, a2, a3, a20, _, _, _, _⟩ := HC.out _ (Turns.refl _ _)
    have hq5 : RW x0 (w.heap.size + 2) ⟨r.kind, 0, 0, 0, z16, [], ⟨r.blk.hash, zeros, []⟩⟩ RS.none _ := HQ.out.hash r.blk.hash HW.out.blk.hlen
    have HTH : Hid (x0.there (w.heap.size + 2) 21 (idA r.blk.hash).size) := HQ.out.thereH 21 _ (by rw [idA_size, HW.out.blk.hlen]; omega)
    have HRB := Lib.hid (HC.out _ (Turns.refl _ _)).ri
    clear HQ
    have HQ := Lib.hid hq5
    clear hq5
    go_upto_region 13 with (first
      | ((with_reducible refine wpAt 42 ?_); refine wpList_load_mid rfl 23 _ rfl w.heap.size 21 rfl (idA r.blk.hash).toList _ HRB.out Tryd.underlying23 rfl (infoI _ (by rw [Array.length_toList, idA_size, HW.out.blk.hlen])) ?_)
      | refine wpList_store_mid rfl 23 _ _ rfl (w.heap.size + 2) 21 (idA r.blk.hash) (by first | rfl | simp) rfl HTH.out (infoI _ (by rw [idA_size, HW.out.blk.hlen])) (idA_one _) ?_)
    try simp only [Act.put, List.setIfInBounds_toArray, List.set_cons_zero, List.set_cons_succ]
    clear HTH HRB
    generalize x0.setCells (w.heap.size + 2) 21 (idA r.blk.hash).toList = xh at *
    clear a0 a1 a2 a3 a20
    have HQE := HQ
    clear HQ
    go_wp2_with (first
      | refine wpList_load_row rfl 42 _ rfl (w.heap.size + 2) rfl 42 (recA ⟨r.kind, 0, 0, 0, z16, [], ⟨r.blk.hash, zeros, []⟩⟩ RS.none) (0, 0) _ HQE.out.row Tryd.underlying42 rfl (sizeR _ (recA_size HQE.out.wf _)) ?_
      | refine wpList_store_row rfl 42 _ _ rfl (w.heap.size + 1) (recA ⟨r.kind, 0, 0, 0, z16, [], ⟨r.blk.hash, zeros, []⟩⟩ RS.none) rfl rfl 42 (recA RecD.zero RS.none) (HQE.out.turn.keep HX.out.2.1 (by omega)) (sizeR _ (recA_size HQE.out.wf _)) (by rw [recA_size HQE.out.wf]; rfl) (recA_one _ _) ?_)
    have HS := Lib.hid (setRow_heap _ _ _ (recA ⟨r.kind, 0, 0, 0, z16, [], ⟨r.blk.hash, zeros, []⟩⟩ RS.none) _ _ (HQE.out.turn.keep HX.out.2.1 (by omega)))
    refine bodyPost_ret (results_cell_row rfl _ _ _ _ _ _ _ rfl HS.out Tryd.underlying42 rfl (sizeR _ (recA_size HQE.out.wf _))) rfl ?_
    have hfin : Below w.heap.size w _ := below_setRow (HX.out.2.2.trans (HQE.out.turn.below HX.out.2.2.size (fun i hi => by omega))) (Nat.le_succ _) (recA ⟨r.kind, 0, 0, 0, z16, [], ⟨r.blk.hash, zeros, []⟩⟩ RS.none)
    exact HFIN.out RS.none _ (⟨HQE.out.wf, Sl.nil _ _, Is.nil _ _⟩) hfin
  · have t2 : (r.kind == 2) = false := by rw [beq_eq_false_iff_ne]; exact h2
    have t4 : (r.kind == 4) = false := by rw [beq_eq_false_iff_ne]; exact h4
    have t1 : (r.kind == 1) = false := by rw [beq_eq_false_iff_ne]; exact h1
    have t5 : (r.kind == 5) = false := by rw [beq_eq_false_iff_ne]; exact h5
    have t6 : (r.kind == 6) = false := by rw [beq_eq_false_iff_ne]; exact h6
    have HE : Hid (r.only = ⟨r.kind, 0, 0, 0, z16, [], .zero⟩) := by show _ = _; unfold RecD.only; rw [if_neg h2, if_neg h4, if_neg h1, if_neg h5, if_neg h6]
    have HFIN : Hid (∀ s' w', RecAt w' ⟨r.kind, 0, 0, 0, z16, [], .zero⟩ s' → Below w.heap.size w w' → RecP r.only w (.returned (.agg (recA ⟨r.kind, 0, 0, 0, z16, [], .zero⟩ s'))) w') := fun s' w' h hb => by rw [HE.out]; exact ⟨s', rfl, h, hb⟩
    clear h2 h4 h1 h5 h6 HE
    go_enter Tryd.func46, Tryd.ntmps46
    go_upto_region 1 with fail
    obtain ⟨w2, hw2⟩ : ∃ w2, w2 = (w.alloc (.cells (recA r s) 42)).alloc (.cells (recA RecD.zero RS.none) 42) := ⟨_, rfl⟩
    rw [← hw2]
    have h2 := two_allocs w (.cells (recA r s) 42) (.cells (recA RecD.zero RS.none) 42)
    rw [← hw2] at h2
    have HT2 := Lib.hid h2
    clear hw2 h2
    obtain ⟨a0, _, _, _, _, _, _, _, _⟩ := rec_cells HW.out HT2.out.1
    go_upto_region 2 with (first
      | ((with_reducible refine wpAt 6 ?_); refine Rdr.wpList_build rfl 42 _ rfl [(0, .int .i64 r.kind)] rfl _ (build_rk _) ?_)
      | ((with_reducible refine wpStoreAt 3 ?_); refine wpList_store_row rfl 42 _ _ rfl w2.heap.size (recA ⟨r.kind, 0, 0, 0, z16, [], .zero⟩ RS.none) rfl rfl 42 (recA RecD.zero RS.none) (heap_alloc_last _ _) (sizeR _ rfl) rfl (recA_one _ _) ?_))
    try simp only [Act.put, List.setIfInBounds_toArray, List.set_cons_zero, List.set_cons_succ]
    have hq : RW ((w2.alloc (.cells (recA RecD.zero RS.none) 42)).setRow w2.heap.size (recA ⟨r.kind, 0, 0, 0, z16, [], .zero⟩ RS.none)) w2.heap.size ⟨r.kind, 0, 0, 0, z16, [], .zero⟩ RS.none ((w2.alloc (.cells (recA RecD.zero RS.none) 42)).setRow w2.heap.size (recA ⟨r.kind, 0, 0, 0, z16, [], .zero⟩ RS.none)) := ⟨setRow_heap _ _ _ _ _ _ (heap_alloc_last _ _), kind_wf HW.out.kindB, Turns.refl _ _⟩
    have hb3 : Below w2.heap.size w2 ((w2.alloc (.cells (recA RecD.zero RS.none) 42)).setRow w2.heap.size (recA ⟨r.kind, 0, 0, 0, z16, [], .zero⟩ RS.none)) := below_setRow (Below.allocs _ _) (Nat.le_refl _) _
    generalize (w2.alloc (.cells (recA RecD.zero RS.none) 42)).setRow w2.heap.size (recA ⟨r.kind, 0, 0, 0, z16, [], .zero⟩ RS.none) = x0 at *
    have h2 := HT2.out
    have hs2 := h2.2.2.1
    rw [hs2] at hq ⊢
    have HX : Hid (x0.heap[w.heap.size]? = some (.cells (recA r s) 42 (0, 0)) ∧ x0.heap[w.heap.size + 1]? = some (.cells (recA RecD.zero RS.none) 42 (0, 0)) ∧ Below w.heap.size w x0) := ⟨Below.keepOld hb3 h2.1, Below.keepOld hb3 h2.2.1, h2.2.2.2.trans (hb3.mono (by omega))⟩
    have HC : Hid (∀ x, Turns (fun k => k = w.heap.size + 2) x0 x → Cells x w.heap.size r s) := fun x ht => rec_cells HW.out (ht.keep HX.out.1 (by omega))
    have HQ := Lib.hid hq
    clear hq hb3 h2 hs2 a0
    obtain ⟨a0, a1, a2, a3, a20, _, _, _, _⟩ := HC.out _ (Turns.refl _ _)
    have HQE := HQ
    clear HQ
    go_wp2_with (first
      | refine wpList_load_row rfl 42 _ rfl (w.heap.size + 2) rfl 42 (recA ⟨r.kind, 0, 0, 0, z16, [], .zero⟩ RS.none) (0, 0) _ HQE.out.row Tryd.underlying42 rfl (sizeR _ (recA_size HQE.out.wf _)) ?_
      | refine wpList_store_row rfl 42 _ _ rfl (w.heap.size + 1) (recA ⟨r.kind, 0, 0, 0, z16, [], .zero⟩ RS.none) rfl rfl 42 (recA RecD.zero RS.none) (HQE.out.turn.keep HX.out.2.1 (by omega)) (sizeR _ (recA_size HQE.out.wf _)) (by rw [recA_size HQE.out.wf]; rfl) (recA_one _ _) ?_)
    have HS := Lib.hid (setRow_heap _ _ _ (recA ⟨r.kind, 0, 0, 0, z16, [], .zero⟩ RS.none) _ _ (HQE.out.turn.keep HX.out.2.1 (by omega)))
    refine bodyPost_ret (results_cell_row rfl _ _ _ _ _ _ _ rfl HS.out Tryd.underlying42 rfl (sizeR _ (recA_size HQE.out.wf _))) rfl ?_
    have hfin : Below w.heap.size w _ := below_setRow (HX.out.2.2.trans (HQE.out.turn.below HX.out.2.2.size (fun i hi => by omega))) (Nat.le_succ _) (recA ⟨r.kind, 0, 0, 0, z16, [], .zero⟩ RS.none)
    exact HFIN.out RS.none _ (⟨HQE.out.wf, Sl.nil _ _, Is.nil _ _⟩) hfin
end Go.Proofs.YtdaigkcbmdcbcaaDoor.Rec

namespace Go.Proofs.YtdaigkcbmdcbcaaDoor.Rec
open Go.RowKit Go.Mir Go.Mir.Parts Wr Cod Blk

/-- may it be, when it has only what its kind may have? -/
def RecD.tail (r : RecD) : Bool := if r.kind = 1 then decide (1 ≤ r.quo) && decide (r.quo ≤ 64) else if r.kind = 2 then decide (r.blob.length ≤ 600) else if r.kind = 5 then rightB r.blk else (r.kind == 4 || r.kind == 6)
def RecD.right (r : RecD) : Bool := r.same r.only && r.tail
set_option maxRecDepth 100000 in
set_option maxHeartbeats 3200000 in
theorem right_any (r : RecD) (s : RS) (w : World) (hR : RecAt w r s) :
    Calls Tryd.prog 21 #[.agg (recA r s)] w fun e w' => e = .returned (.bool r.right) ∧ Below w.heap.size w w' := by
  have HR := Lib.hid hR
  have HW := Lib.hid hR.wf
  have hble := hR.blob.le
  have hbmax := hR.blob.max
  have HROW : Hid ((w.alloc (.cells (recA r s) 42)).heap[w.heap.size]? = some (.cells (recA r s) 42 (0, 0))) := heap_alloc_last _ _
  have HB1 := Lib.hid (Below.allocs w (.cells (recA r s) 42))
  clear hR
  cases hsm : r.same r.only with
  | false =>
    have HSM := Lib.hid hsm
    have HRES : Hid (r.right = false) := by show _ = _; unfold RecD.right; rw [hsm]; rfl
    clear hsm
    go_enter Tryd.func21, Tryd.ntmps21
    go_upto_region 1 with fail
    generalize w.alloc (.cells (recA r s) 42) = w1 at *
    have HMW : Hid (∀ w', Below w1.heap.size w1 w' → RecAt w' r s) := fun w' hb => (HR.out.below HB1.out).below hb
    have HLA : Hid (∀ w', Below w1.heap.size w1 w' → w'.rangeAt w.heap.size 0 (recA r s).toList) := fun w' hb j v hv => by rw [cell_of_row _ _ _ _ _ _ (Below.keepOld hb HROW.out), ← Array.getElem?_toList, Nat.zero_add]; exact hv
    refine wp_region_eager [(0, true), (1, true), (2, false), (3, false), (4, true)] (by kernel_rfl) (by kernel_rfl) (eagerOpen rfl ?_)
    have hy0 : Below w1.heap.size w1 w1.drew := below_drew1 _ _
    repeat (first
      | ((with_reducible refine eagerLoadAt 1 ?_); refine wpEager_load (by rfl) 42 _ rfl w.heap.size 0 rfl (recA r s) _ (fun w' hb => HLA.out w' hb) Tryd.underlying42 rfl (sizeR _ (recA_size HW.out _)) ?_; (try simp only [Act.put, List.setIfInBounds_toArray, List.set_cons_zero, List.set_cons_succ]); (try refine eagerOpen rfl ?_))
      | (first | (apply wpEager_take; (· rfl); (· (intro w' hb'; go_simp; try with_reducible rfl)); (try simp only [Act.put, List.setIfInBounds_toArray, List.set_cons_zero, List.set_cons_succ]); (try refine eagerOpen rfl ?_)) | (refine wpEager_skip (by rfl) ?_; (try simp only [Act.put, List.setIfInBounds_toArray, List.set_cons_zero, List.set_cons_succ]); (try refine eagerOpen rfl ?_)) | (refine wpEager_off (by rfl) ?_; (try simp only [Act.put, List.setIfInBounds_toArray, List.set_cons_zero, List.set_cons_succ]); (try refine eagerOpen rfl ?_))))
    (refine wpEager_op (by rfl) (fun K hK => ?_); go_simp; (refine (only_any r s _ (HMW.out _ hy0)).mono ?_; rintro e y1 ⟨s1, rfl, hr1, hb⟩; have hy1 := hy0.trans hb; clear hb); refine Shut.out hK _ _ (by assumption) ?_; clear hK K; (try simp only [Act.put, List.setIfInBounds_toArray, List.set_cons_zero, List.set_cons_succ]); (try refine eagerOpen rfl ?_))
    (refine wpEager_op (by rfl) (fun K hK => ?_); go_simp; (refine (same_any r r.only s s1 _ (HMW.out _ hy1) hr1).mono ?_; rintro e y2 ⟨rfl, hb⟩; have hy2 := hy1.trans (hb.mono hy1.size); clear hb hr1); refine Shut.out hK _ _ (by assumption) ?_; clear hK K; (try simp only [Act.put, List.setIfInBounds_toArray, List.set_cons_zero, List.set_cons_succ]); (try refine eagerOpen rfl ?_))
    rw [HSM.out]
    repeat (first | (apply wpEager_take; (· rfl); (· (intro w' hb'; go_simp; try with_reducible rfl)); (try simp only [Act.put, List.setIfInBounds_toArray, List.set_cons_zero, List.set_cons_succ]); (try refine eagerOpen rfl ?_)) | (refine wpEager_skip (by rfl) ?_; (try simp only [Act.put, List.setIfInBounds_toArray, List.set_cons_zero, List.set_cons_succ]); (try refine eagerOpen rfl ?_)) | (refine wpEager_off (by rfl) ?_; (try simp only [Act.put, List.setIfInBounds_toArray, List.set_cons_zero, List.set_cons_succ]); (try refine eagerOpen rfl ?_)))
    refine eagerEnd ?_
    have HC := rec_cells HW.out (Below.keepOld hy2 HROW.out)
    have HRB := Lib.hid HC.rb
    obtain ⟨a0, a1, a2, a3, a20, _, _, _, _⟩ := HC
    have HM2 := Lib.hid (HMW.out _ hy2)
    have HB2 := Lib.hid (HB1.out.trans (hy2.mono HB1.out.size))
    clear hy0 hy1 hy2 HMW HLA
    go_wp2_with fail
    go_ret
    exact ⟨bret HRES.out.symm, HB2.out⟩
  | true =>
    have HSM := Lib.hid hsm
    have hres : r.right = r.tail := by unfold RecD.right; rw [hsm]; rfl
    unfold RecD.tail at hres
    clear hsm
    by_cases h1 : r.kind = 1
    · have t1 : (r.kind == 1) = true := by rw [beq_iff_eq]; exact h1
      rw [if_pos h1] at hres
      clear h1
      by_cases q1 : 1 ≤ r.quo
      · have d1 : decide ((1 : Int) ≤ (r.quo : Int)) = true := decide_eq_true (by omega)
        have d1b : decide (1 ≤ r.quo) = true := decide_eq_true q1
        have d1c : decide (0 < r.quo) = true := decide_eq_true (by omega)
        by_cases q2 : r.quo ≤ 64
        · have d2 : decide ((r.quo : Int) ≤ 64) = true := decide_eq_true (by omega)
          have d2b : decide (r.quo ≤ 64) = true := decide_eq_true q2
          rw [d1b, d2b] at hres
          have HRES : Hid (r.right = true) := hres
          clear hres q1 q2
          go_enter Tryd.func21, Tryd.ntmps21
          go_upto_region 1 with fail
          generalize w.alloc (.cells (recA r s) 42) = w1 at *
          have HMW : Hid (∀ w', Below w1.heap.size w1 w' → RecAt w' r s) := fun w' hb => (HR.out.below HB1.out).below hb
          have HLA : Hid (∀ w', Below w1.heap.size w1 w' → w'.rangeAt w.heap.size 0 (recA r s).toList) := fun w' hb j v hv => by rw [cell_of_row _ _ _ _ _ _ (Below.keepOld hb HROW.out), ← Array.getElem?_toList, Nat.zero_add]; exact hv
          refine wp_region_eager [(0, true), (1, true), (2, false), (3, false), (4, true)] (by kernel_rfl) (by kernel_rfl) (eagerOpen rfl ?_)
          have hy0 : Below w1.heap.size w1 w1.drew := below_drew1 _ _
          repeat (first
            | ((with_reducible refine eagerLoadAt 1 ?_); refine wpEager_load (by rfl) 42 _ rfl w.heap.size 0 rfl (recA r s) _ (fun w' hb => HLA.out w' hb) Tryd.underlying42 rfl (sizeR _ (recA_size HW.out _)) ?_; (try simp only [Act.put, List.setIfInBounds_toArray, List.set_cons_zero, List.set_cons_succ]); (try refine eagerOpen rfl ?_))
            | (first | (apply wpEager_take; (· rfl); (· (intro w' hb'; go_simp; try with_reducible rfl)); (try simp only [Act.put, List.setIfInBounds_toArray, List.set_cons_zero, List.set_cons_succ]); (try refine eagerOpen rfl ?_)) | (refine wpEager_skip (by rfl) ?_; (try simp only [Act.put, List.setIfInBounds_toArray, List.set_cons_zero, List.set_cons_succ]); (try refine eagerOpen rfl ?_)) | (refine wpEager_off (by rfl) ?_; (try simp only [Act.put, List.setIfInBounds_toArray, List.set_cons_zero, List.set_cons_succ]); (try refine eagerOpen rfl ?_))))
          (refine wpEager_op (by rfl) (fun K hK => ?_); go_simp; (refine (only_any r s _ (HMW.out _ hy0)).mono ?_; rintro e y1 ⟨s1, rfl, hr1, hb⟩; have hy1 := hy0.trans hb; clear hb); refine Shut.out hK _ _ (by assumption) ?_; clear hK K; (try simp only [Act.put, List.setIfInBounds_toArray, List.set_cons_zero, List.set_cons_succ]); (try refine eagerOpen rfl ?_))
          (refine wpEager_op (by rfl) (fun K hK => ?_); go_simp; (refine (same_any r r.only s s1 _ (HMW.out _ hy1) hr1).mono ?_; rintro e y2 ⟨rfl, hb⟩; have hy2 := hy1.trans (hb.mono hy1.size); clear hb hr1); refine Shut.out hK _ _ (by assumption) ?_; clear hK K; (try simp only [Act.put, List.setIfInBounds_toArray, List.set_cons_zero, List.set_cons_succ]); (try refine eagerOpen rfl ?_))
          rw [HSM.out]
          repeat (first | (apply wpEager_take; (· rfl); (· (intro w' hb'; go_simp; try with_reducible rfl)); (try simp only [Act.put, List.setIfInBounds_toArray, List.set_cons_zero, List.set_cons_succ]); (try refine eagerOpen rfl ?_)) | (refine wpEager_skip (by rfl) ?_; (try simp only [Act.put, List.setIfInBounds_toArray, List.set_cons_zero, List.set_cons_succ]); (try refine eagerOpen rfl ?_)) | (refine wpEager_off (by rfl) ?_; (try simp only [Act.put, List.setIfInBounds_toArray, List.set_cons_zero, List.set_cons_succ]); (try refine eagerOpen rfl ?_)))
          refine eagerEnd ?_
          have HC := rec_cells HW.out (Below.keepOld hy2 HROW.out)
          have HRB := Lib.hid HC.rb
          obtain ⟨a0, a1, a2, a3, a20, _, _, _, _⟩ := HC
          have HM2 := Lib.hid (HMW.out _ hy2)
          have HB2 := Lib.hid (HB1.out.trans (hy2.mono HB1.out.size))
          clear hy0 hy1 hy2 HMW HLA
          go_wp2_with fail
          go_ret
          exact ⟨bret HRES.out.symm, HB2.out⟩
        · have d2 : decide ((r.quo : Int) ≤ 64) = false := decide_eq_false (by omega)
          have d2b : decide (r.quo ≤ 64) = false := decide_eq_false q2
          rw [d2b] at hres
          have HRES : Hid (r.right = false) := by show _ = _; rw [hres]; simp
          clear hres q1 q2
          go_enter Tryd.func21, Tryd.ntmps21
          go_upto_region 1 with fail
          generalize w.alloc (.cells (recA r s) 42) = w1 at *
          have HMW : Hid (∀ w', Below w1.heap.size w1 w' → RecAt w' r s) := fun w' hb => (HR.out.below HB1.out).below hb
          have HLA : Hid (∀ w', Below w1.heap.size w1 w' → w'.rangeAt w.heap.size 0 (recA r s).toList) := fun w' hb j v hv => by rw [cell_of_row _ _ _ _ _ _ (Below.keepOld hb HROW.out), ← Array.getElem?_toList, Nat.zero_add]; exact hv
          refine wp_region_eager [(0, true), (1, true), (2, false), (3, false), (4, true)] (by kernel_rfl) (by kernel_rfl) (eagerOpen rfl ?_)
          have hy0 : Below w1.heap.size w1 w1.drew := below_drew1 _ _
          repeat (first
            | ((with_reducible refine eagerLoadAt 1 ?_); refine wpEager_load (by rfl) 42 _ rfl w.heap.size 0 rfl (recA r s) _ (fun w' hb => HLA.out w' hb) Tryd.underlying42 rfl (sizeR _ (recA_size HW.out _)) ?_; (try simp only [Act.put, List.setIfInBounds_toArray, List.set_cons_zero, List.set_cons_succ]); (try refine eagerOpen rfl ?_))
            | (first | (apply wpEager_take; (· rfl); (· (intro w' hb'; go_simp; try with_reducible rfl)); (try simp only [Act.put, List.setIfInBounds_toArray, List.set_cons_zero, List.set_cons_succ]); (try refine eagerOpen rfl ?_)) | (refine wpEager_skip (by rfl) ?_; (try simp only [Act.put, List.setIfInBounds_toArray, List.set_cons_zero, List.set_cons_succ]); (try refine eagerOpen rfl ?_)) | (refine wpEager_off (by rfl) ?_; (try simp only [Act.put, List.setIfInBounds_toArray, List.set_cons_zero, List.set_cons_succ]); (try refine eagerOpen rfl ?_))))
          (refine wpEager_op (by rfl) (fun K hK => ?_); go_simp; (refine (only_any r s _ (HMW.out _ hy0)).mono ?_; rintro e y1 ⟨s1, rfl, hr1, hb⟩; have hy1 := hy0.trans hb; clear hb); refine Shut.out hK _ _ (by assumption) ?_; clear hK K; (try simp only [Act.put, List.setIfInBounds_toArray, List.set_cons_zero, List.set_cons_succ]); (try refine eagerOpen rfl ?_))
          (refine wpEager_op (by rfl) (fun K hK => ?_); go_simp; (refine (same_any r r.only s s1 _ (HMW.out _ hy1) hr1).mono ?_; rintro e y2 ⟨rfl, hb⟩; have hy2 := hy1.trans (hb.mono hy1.size); clear hb hr1); refine Shut.out hK _ _ (by assumption) ?_; clear hK K; (try simp only [Act.put, List.setIfInBounds_toArray, List.set_cons_zero, List.set_cons_succ]); (try refine eagerOpen rfl ?_))
          rw [HSM.out]
          repeat (first | (apply wpEager_take; (· rfl); (· (intro w' hb'; go_simp; try with_reducible rfl)); (try simp only [Act.put, List.setIfInBounds_toArray, List.set_cons_zero, List.set_cons_succ]); (try refine eagerOpen rfl ?_)) | (refine wpEager_skip (by rfl) ?_; (try simp only [Act.put, List.setIfInBounds_toArray, List.set_cons_zero, List.set_cons_succ]); (try refine eagerOpen rfl ?_)) | (refine wpEager_off (by rfl) ?_; (try simp only [Act.put, List.setIfInBounds_toArray, List.set_cons_zero, List.set_cons_succ]); (try refine eagerOpen rfl ?_)))
          refine eagerEnd ?_
          have HC := rec_cells HW.out (Below.keepOld hy2 HROW.out)
          have HRB := Lib.hid HC.rb
          obtain ⟨a0, a1, a2, a3, a20, _, _, _, _⟩ := HC
          have HM2 := Lib.hid (HMW.out _ hy2)
          have HB2 := Lib.hid (HB1.out.trans (hy2.mono HB1.out.size))
          clear hy0 hy1 hy2 HMW HLA
          go_wp2_with fail
          go_ret
          exact ⟨bret HRES.out.symm, HB2.out⟩
      · have d1 : decide ((1 : Int) ≤ (r.quo : Int)) = false := decide_eq_false (by omega)
        have d1b : decide (1 ≤ r.quo) = false := decide_eq_false q1
        have d1c : decide (0 < r.quo) = false := decide_eq_false (by omega)
        rw [d1b] at hres
        have HRES : Hid (r.right = false) := hres
        clear hres q1
        go_enter Tryd.func21, Tryd.ntmps21
        go_upto_region 1 with fail
        generalize w.alloc (.cells (recA r s) 42) = w1 at *
        have HMW : Hid (∀ w', Below w1.heap.size w1 w' → RecAt w' r s) := fun w' hb => (HR.out.below HB1.out).below hb
        have HLA : Hid (∀ w', Below w1.heap.size w1 w' → w'.rangeAt w.heap.size 0 (recA r s).toList) := fun w' hb j v hv => by rw [cell_of_row _ _ _ _ _ _ (Below.keepOld hb HROW.out), ← Array.getElem?_toList, Nat.zero_add]; exact hv
        refine wp_region_eager [(0, true), (1, true), (2, false), (3, false), (4, true)] (by kernel_rfl) (by kernel_rfl) (eagerOpen rfl ?_)
        have hy0 : Below w1.heap.size w1 w1.drew := below_drew1 _ _
        repeat (first
          | ((with_reducible refine eagerLoadAt 1 ?_); refine wpEager_load (by rfl) 42 _ rfl w.heap.size 0 rfl (recA r s) _ (fun w' hb => HLA.out w' hb) Tryd.underlying42 rfl (sizeR _ (recA_size HW.out _)) ?_; (try simp only [Act.put, List.setIfInBounds_toArray, List.set_cons_zero, List.set_cons_succ]); (try refine eagerOpen rfl ?_))
          | (first | (apply wpEager_take; (· rfl); (· (intro w' hb'; go_simp; try with_reducible rfl)); (try simp only [Act.put, List.setIfInBounds_toArray, List.set_cons_zero, List.set_cons_succ]); (try refine eagerOpen rfl ?_)) | (refine wpEager_skip (by rfl) ?_; (try simp only [Act.put, List.setIfInBounds_toArray, List.set_cons_zero, List.set_cons_succ]); (try refine eagerOpen rfl ?_)) | (refine wpEager_off (by rfl) ?_; (try simp only [Act.put, List.setIfInBounds_toArray, List.set_cons_zero, List.set_cons_succ]); (try refine eagerOpen rfl ?_))))
        (refine wpEager_op (by rfl) (fun K hK => ?_); go_simp; (refine (only_any r s _ (HMW.out _ hy0)).mono ?_; rintro e y1 ⟨s1, rfl, hr1, hb⟩; have hy1 := hy0.trans hb; clear hb); refine Shut.out hK _ _ (by assumption) ?_; clear hK K; (try simp only [Act.put, List.setIfInBounds_toArray, List.set_cons_zero, List.set_cons_succ]); (try refine eagerOpen rfl ?_))
        (refine wpEager_op (by rfl) (fun K hK => ?_); go_simp; (refine (same_any r r.only s s1 _ (HMW.out _ hy1) hr1).mono ?_; rintro e y2 ⟨rfl, hb⟩; have hy2 := hy1.trans (hb.mono hy1.size); clear hb hr1); refine Shut.out hK _ _ (by assumption) ?_; clear hK K; (try simp only [Act.put, List.setIfInBounds_toArray, List.set_cons_zero, List.set_cons_succ]); (try refine eagerOpen rfl ?_))
        rw [HSM.out]
        repeat (first | (apply wpEager_take; (· rfl); (· (intro w' hb'; go_simp; try with_reducible rfl)); (try simp only [Act.put, List.setIfInBounds_toArray, List.set_cons_zero, List.set_cons_succ]); (try refine eagerOpen rfl ?_)) | (refine wpEager_skip (by rfl) ?_; (try simp only [Act.put, List.setIfInBounds_toArray, List.set_cons_zero, List.set_cons_succ]); (try refine eagerOpen rfl ?_)) | (refine wpEager_off (by rfl) ?_; (try simp only [Act.put, List.setIfInBounds_toArray, List.set_cons_zero, List.set_cons_succ]); (try refine eagerOpen rfl ?_)))
        refine eagerEnd ?_
        have HC := rec_cells HW.out (Below.keepOld hy2 HROW.out)
        have HRB := Lib.hid HC.rb
        obtain ⟨a0, a1, a2, a3, a20, _, _, _, _⟩ := HC
        have HM2 := Lib.hid (HMW.out _ hy2)
        have HB2 := Lib.hid (HB1.out.trans (hy2.mono HB1.out.size))
        clear hy0 hy1 hy2 HMW HLA
        go_wp2_with fail
        go_ret
        exact ⟨bret HRES.out.symm, HB2.out⟩
    have t1 : (r.kind == 1) = false := by rw [beq_eq_false_iff_ne]; exact h1
    rw [if_neg h1] at hres
    by_cases h2 : r.kind = 2
    · have t2 : (r.kind == 2) = true := by rw [beq_iff_eq]; exact h2
      rw [if_pos h2] at hres
      clear h1 h2
      obtain ⟨BB, hBB⟩ : ∃ B, decide (r.blob.length ≤ 600) = B := ⟨_, rfl⟩
      have hB2 : decide ((r.blob.length : Int) ≤ 600) = BB := by rw [← hBB]; exact decide_eq_decide.2 (by omega)
      rw [hBB] at hres
      have HRES : Hid (r.right = BB) := hres
      clear hres
      go_enter Tryd.func21, Tryd.ntmps21
      go_upto_region 1 with fail
      generalize w.alloc (.cells (recA r s) 42) = w1 at *
      have HMW : Hid (∀ w', Below w1.heap.size w1 w' → RecAt w' r s) := fun w' hb => (HR.out.below HB1.out).below hb
      have HLA : Hid (∀ w', Below w1.heap.size w1 w' → w'.rangeAt w.heap.size 0 (recA r s).toList) := fun w' hb j v hv => by rw [cell_of_row _ _ _ _ _ _ (Below.keepOld hb HROW.out), ← Array.getElem?_toList, Nat.zero_add]; exact hv
      refine wp_region_eager [(0, true), (1, true), (2, false), (3, false), (4, true)] (by kernel_rfl) (by kernel_rfl) (eagerOpen rfl ?_)
      have hy0 : Below w1.heap.size w1 w1.drew := below_drew1 _ _
      repeat (first
        | ((with_reducible refine eagerLoadAt 1 ?_); refine wpEager_load (by rfl) 42 _ rfl w.heap.size 0 rfl (recA r s) _ (fun w' hb => HLA.out w' hb) Tryd.underlying42 rfl (sizeR _ (recA_size HW.out _)) ?_; (try simp only [Act.put, List.setIfInBounds_toArray, List.set_cons_zero, List.set_cons_succ]); (try refine eagerOpen rfl ?_))
        | (first | (apply wpEager_take; (· rfl); (· (intro w' hb'; go_simp; try with_reducible rfl)); (try simp only [Act.put, List.setIfInBounds_toArray, List.set_cons_zero, List.set_cons_succ]); (try refine eagerOpen rfl ?_)) | (refine wpEager_skip (by rfl) ?_; (try simp only [Act.put, List.setIfInBounds_toArray, List.set_cons_zero, List.set_cons_succ]); (try refine eagerOpen rfl ?_)) | (refine wpEager_off (by rfl) ?_; (try simp only [Act.put, List.setIfInBounds_toArray, List.set_cons_zero, List.set_cons_succ]); (try refine eagerOpen rfl ?_))))
      (refine wpEager_op (by rfl) (fun K hK => ?_); go_simp; (refine (only_any r s _ (HMW.out _ hy0)).mono ?_; rintro e y1 ⟨s1, rfl, hr1, hb⟩; have hy1 := hy0.trans hb; clear hb); refine Shut.out hK _ _ (by assumption) ?_; clear hK K; (try simp only [Act.put, List.setIfInBounds_toArray, List.set_cons_zero, List.set_cons_succ]); (try refine eagerOpen rfl ?_))
      (refine wpEager_op (by rfl) (fun K hK => ?_); go_simp; (refine (same_any r r.only s s1 _ (HMW.out _ hy1) hr1).mono ?_; rintro e y2 ⟨rfl, hb⟩; have hy2 := hy1.trans (hb.mono hy1.size); clear hb hr1); refine Shut.out hK _ _ (by assumption) ?_; clear hK K; (try simp only [Act.put, List.setIfInBounds_toArray, List.set_cons_zero, List.set_cons_succ]); (try refine eagerOpen rfl ?_))
      rw [HSM.out]
      repeat (first | (apply wpEager_take; (· rfl); (· (intro w' hb'; go_simp; try with_reducible rfl)); (try simp only [Act.put, List.setIfInBounds_toArray, List.set_cons_zero, List.set_cons_succ]); (try refine eagerOpen rfl ?_)) | (refine wpEager_skip (by rfl) ?_; (try simp only [Act.put, List.setIfInBounds_toArray, List.set_cons_zero, List.set_cons_succ]); (try refine eagerOpen rfl ?_)) | (refine wpEager_off (by rfl) ?_; (try simp only [Act.put, List.setIfInBounds_toArray, List.set_cons_zero, List.set_cons_succ]); (try refine eagerOpen rfl ?_)))
      refine eagerEnd ?_
      have HC := rec_cells HW.out (Below.keepOld hy2 HROW.out)
      have HRB := Lib.hid HC.rb
      obtain ⟨a0, a1, a2, a3, a20, _, _, _, _⟩ := HC
      have HM2 := Lib.hid (HMW.out _ hy2)
      have HB2 := Lib.hid (HB1.out.trans (hy2.mono HB1.out.size))
      clear hy0 hy1 hy2 HMW HLA
      go_wp2_with fail
      go_ret
      exact ⟨bret HRES.out.symm, HB2.out⟩
    have t2 : (r.kind == 2) = false := by rw [beq_eq_false_iff_ne]; exact h2
    rw [if_neg h2] at hres
    by_cases h5 : r.kind = 5
    · have t5 : (r.kind == 5) = true := by rw [beq_iff_eq]; exact h5
      rw [if_pos h5] at hres
      clear h1 h2 h5
      have HRES : Hid (r.right = rightB r.blk) := hres
      clear hres
      go_enter Tryd.func21, Tryd.ntmps21
      go_upto_region 1 with fail
      generalize w.alloc (.cells (recA r s) 42) = w1 at *
      have HMW : Hid (∀ w', Below w1.heap.size w1 w' → RecAt w' r s) := fun w' hb => (HR.out.below HB1.out).below hb
      have HLA : Hid (∀ w', Below w1.heap.size w1 w' → w'.rangeAt w.heap.size 0 (recA r s).toList) := fun w' hb j v hv => by rw [cell_of_row _ _ _ _ _ _ (Below.keepOld hb HROW.out), ← Array.getElem?_toList, Nat.zero_add]; exact hv
      refine wp_region_eager [(0, true), (1, true), (2, false), (3, false), (4, true)] (by kernel_rfl) (by kernel_rfl) (eagerOpen rfl ?_)
      have hy0 : Below w1.heap.size w1 w1.drew := below_drew1 _ _
      repeat (first
        | ((with_reducible refine eagerLoadAt 1 ?_); refine wpEager_load (by rfl) 42 _ rfl w.heap.size 0 rfl (recA r s) _ (fun w' hb => HLA.out w' hb) Tryd.underlying42 rfl (sizeR _ (recA_size HW.out _)) ?_; (try simp only [Act.put, List.setIfInBounds_toArray, List.set_cons_zero, List.set_cons_succ]); (try refine eagerOpen rfl ?_))
        | (first | (apply wpEager_take; (· rfl); (· (intro w' hb'; go_simp; try with_reducible rfl)); (try simp only [Act.put, List.setIfInBounds_toArray, List.set_cons_zero, List.set_cons_succ]); (try refine eagerOpen rfl ?_)) | (refine wpEager_skip (by rfl) ?_; (try simp only [Act.put, List.setIfInBounds_toArray, List.set_cons_zero, List.set_cons_succ]); (try refine eagerOpen rfl ?_)) | (refine wpEager_off (by rfl) ?_; (try simp only [Act.put, List.setIfInBounds_toArray, List.set_cons_zero, List.set_cons_succ]); (try refine eagerOpen rfl ?_))))
      (refine wpEager_op (by rfl) (fun K hK => ?_); go_simp; (refine (only_any r s _ (HMW.out _ hy0)).mono ?_; rintro e y1 ⟨s1, rfl, hr1, hb⟩; have hy1 := hy0.trans hb; clear hb); refine Shut.out hK _ _ (by assumption) ?_; clear hK K; (try simp only [Act.put, List.setIfInBounds_toArray, List.set_cons_zero, List.set_cons_succ]); (try refine eagerOpen rfl ?_))
      (refine wpEager_op (by rfl) (fun K hK => ?_); go_simp; (refine (same_any r r.only s s1 _ (HMW.out _ hy1) hr1).mono ?_; rintro e y2 ⟨rfl, hb⟩; have hy2 := hy1.trans (hb.mono hy1.size); clear hb hr1); refine Shut.out hK _ _ (by assumption) ?_; clear hK K; (try simp only [Act.put, List.setIfInBounds_toArray, List.set_cons_zero, List.set_cons_succ]); (try refine eagerOpen rfl ?_))
      rw [HSM.out]
      repeat (first | (apply wpEager_take; (· rfl); (· (intro w' hb'; go_simp; try with_reducible rfl)); (try simp only [Act.put, List.setIfInBounds_toArray, List.set_cons_zero, List.set_cons_succ]); (try refine eagerOpen rfl ?_)) | (refine wpEager_skip (by rfl) ?_; (try simp only [Act.put, List.setIfInBounds_toArray, List.set_cons_zero, List.set_cons_succ]); (try refine eagerOpen rfl ?_)) | (refine wpEager_off (by rfl) ?_; (try simp only [Act.put, List.setIfInBounds_toArray, List.set_cons_zero, List.set_cons_succ]); (try refine eagerOpen rfl ?_)))
      refine eagerEnd ?_
      have HC := rec_cells HW.out (Below.keepOld hy2 HROW.out)
      have HRB := Lib.hid HC.rb
      obtain ⟨a0, a1, a2, a3, a20, _, _, _, _⟩ := HC
      have HM2 := Lib.hid (HMW.out _ hy2)
      have HB2 := Lib.hid (HB1.out.trans (hy2.mono HB1.out.size))
      clear hy0 hy1 hy2 HMW HLA
      go_wp2_with ((with_reducible refine wpAt 29 ?_); refine wpList_load_mid rfl 26 _ rfl w.heap.size 21 rfl (r.blkA s).toList _ HRB.out Tryd.underlying26 rfl (by rw [Array.length_toList, infoBlk _ rfl, rblk_size HW.out]) ?_)
      try rw [Array.toArray_toList]
      refine (Blk.right_any _ _ _ _ _ _ HM2.out.blkAt).mono ?_
      rintro e w3 ⟨rfl, hb3⟩
      have HB3 := Lib.hid (HB2.out.trans (hb3.mono HB2.out.size))
      clear hb3
      go_wp2_with fail
      go_ret
      exact ⟨bret HRES.out.symm, HB3.out⟩
    have t5 : (r.kind == 5) = false := by rw [beq_eq_false_iff_ne]; exact h5
    rw [if_neg h5] at hres
    clear h1 h2 h5
    cases h4 : r.kind == 4 with
    | true =>
      rw [h4] at hres
      have HRES : Hid (r.right = true) := hres
      clear hres
      go_enter Tryd.func21, Tryd.ntmps21
      go_upto_region 1 with fail
      generalize w.alloc (.cells (recA r s) 42) = w1 at *
      have HMW : Hid (∀ w', Below w1.heap.size w1 w' → RecAt w' r s) := fun w' hb => (HR.out.below HB1.out).below hb
      have HLA : Hid (∀ w', Below w1.heap.size w1 w' → w'.rangeAt w.heap.size 0 (recA r s).toList) := fun w' hb j v hv => by rw [cell_of_row _ _ _ _ _ _ (Below.keepOld hb HROW.out), ← Array.getElem?_toList, Nat.zero_add]; exact hv
      refine wp_region_eager [(0, true), (1, true), (2, false), (3, false), (4, true)] (by kernel_rfl) (by kernel_rfl) (eagerOpen rfl ?_)
      have hy0 : Below w1.heap.size w1 w1.drew := below_drew1 _ _
      repeat (first
        | ((with_reducible refine eagerLoadAt 1 ?_); refine wpEager_load (by rfl) 42 _ rfl w.heap.size 0 rfl (recA r s) _ (fun w' hb => HLA.out w' hb) Tryd.underlying42 rfl (sizeR _ (recA_size HW.out _)) ?_; (try simp only [Act.put, List.setIfInBounds_toArray, List.set_cons_zero, List.set_cons_succ]); (try refine eagerOpen rfl ?_))
        | (first | (apply wpEager_take; (· rfl); (· (intro w' hb'; go_simp; try with_reducible rfl)); (try simp only [Act.put, List.setIfInBounds_toArray, List.set_cons_zero, List.set_cons_succ]); (try refine eagerOpen rfl ?_)) | (refine wpEager_skip (by rfl) ?_; (try simp only [Act.put, List.setIfInBounds_toArray, List.set_cons_zero, List.set_cons_succ]); (try refine eagerOpen rfl ?_)) | (refine wpEager_off (by rfl) ?_; (try simp only [Act.put, List.setIfInBounds_toArray, List.set_cons_zero, List.set_cons_succ]); (try refine eagerOpen rfl ?_))))
      (refine wpEager_op (by rfl) (fun K hK => ?_); go_simp; (refine (only_any r s _ (HMW.out _ hy0)).mono ?_; rintro e y1 ⟨s1, rfl, hr1, hb⟩; have hy1 := hy0.trans hb; clear hb); refine Shut.out hK _ _ (by assumption) ?_; clear hK K; (try simp only [Act.put, List.setIfInBounds_toArray, List.set_cons_zero, List.set_cons_succ]); (try refine eagerOpen rfl ?_))
      (refine wpEager_op (by rfl) (fun K hK => ?_); go_simp; (refine (same_any r r.only s s1 _ (HMW.out _ hy1) hr1).mono ?_; rintro e y2 ⟨rfl, hb⟩; have hy2 := hy1.trans (hb.mono hy1.size); clear hb hr1); refine Shut.out hK _ _ (by assumption) ?_; clear hK K; (try simp only [Act.put, List.setIfInBounds_toArray, List.set_cons_zero, List.set_cons_succ]); (try refine eagerOpen rfl ?_))
      rw [HSM.out]
      repeat (first | (apply wpEager_take; (· rfl); (· (intro w' hb'; go_simp; try with_reducible rfl)); (try simp only [Act.put, List.setIfInBounds_toArray, List.set_cons_zero, List.set_cons_succ]); (try refine eagerOpen rfl ?_)) | (refine wpEager_skip (by rfl) ?_; (try simp only [Act.put, List.setIfInBounds_toArray, List.set_cons_zero, List.set_cons_succ]); (try refine eagerOpen rfl ?_)) | (refine wpEager_off (by rfl) ?_; (try simp only [Act.put, List.setIfInBounds_toArray, List.set_cons_zero, List.set_cons_succ]); (try refine eagerOpen rfl ?_)))
      refine eagerEnd ?_
      have HC := rec_cells HW.out (Below.keepOld hy2 HROW.out)
      have HRB := Lib.hid HC.rb
      obtain ⟨a0, a1, a2, a3, a20, _, _, _, _⟩ := HC
      have HM2 := Lib.hid (HMW.out _ hy2)
      have HB2 := Lib.hid (HB1.out.trans (hy2.mono HB1.out.size))
      clear hy0 hy1 hy2 HMW HLA
      go_wp2_with fail
      go_ret
      exact ⟨bret HRES.out.symm, HB2.out⟩
    | false =>
      rw [h4] at hres
      obtain ⟨SX, hSX⟩ : ∃ B, (r.kind == 6) = B := ⟨_, rfl⟩
      rw [hSX] at hres
      have HRES : Hid (r.right = SX) := by show _ = _; rw [hres]; rfl
      clear hres
      go_enter Tryd.func21, Tryd.ntmps21
      go_upto_region 1 with fail
      generalize w.alloc (.cells (recA r s) 42) = w1 at *
      have HMW : Hid (∀ w', Below w1.heap.size w1 w' → RecAt w' r s) := fun w' hb => (HR.out.below HB1.out).below hb
      have HLA : Hid (∀ w', Below w1.heap.size w1 w' → w'.rangeAt w.heap.size 0 (recA r s).toList) := fun w' hb j v hv => by rw [cell_of_row _ _ _ _ _ _ (Below.keepOld hb HROW.out), ← Array.getElem?_toList, Nat.zero_add]; exact hv
      refine wp_region_eager [(0, true), (1, true), (2, false), (3, false), (4, true)] (by kernel_rfl) (by kernel_rfl) (eagerOpen rfl ?_)
      have hy0 : Below w1.heap.size w1 w1.drew := below_drew1 _ _
      repeat (first
        | ((with_reducible refine eagerLoadAt 1 ?_); refine wpEager_load (by rfl) 42 _ rfl w.heap.size 0 rfl (recA r s) _ (fun w' hb => HLA.out w' hb) Tryd.underlying42 rfl (sizeR _ (recA_size HW.out _)) ?_; (try simp only [Act.put, List.setIfInBounds_toArray, List.set_cons_zero, List.set_cons_succ]); (try refine eagerOpen rfl ?_))
        | (first | (apply wpEager_take; (· rfl); (· (intro w' hb'; go_simp; try with_reducible rfl)); (try simp only [Act.put, List.setIfInBounds_toArray, List.set_cons_zero, List.set_cons_succ]); (try refine eagerOpen rfl ?_)) | (refine wpEager_skip (by rfl) ?_; (try simp only [Act.put, List.setIfInBounds_toArray, List.set_cons_zero, List.set_cons_succ]); (try refine eagerOpen rfl ?_)) | (refine wpEager_off (by rfl) ?_; (try simp only [Act.put, List.setIfInBounds_toArray, List.set_cons_zero, List.set_cons_succ]); (try refine eagerOpen rfl ?_))))
      (refine wpEager_op (by rfl) (fun K hK => ?_); go_simp; (refine (only_any r s _ (HMW.out _ hy0)).mono ?_; rintro e y1 ⟨s1, rfl, hr1, hb⟩; have hy1 := hy0.trans hb; clear hb); refine Shut.out hK _ _ (by assumption) ?_; clear hK K; (try simp only [Act.put, List.setIfInBounds_toArray, List.set_cons_zero, List.set_cons_succ]); (try refine eagerOpen rfl ?_))
      (refine wpEager_op (by rfl) (fun K hK => ?_); go_simp; (refine (same_any r r.only s s1 _ (HMW.out _ hy1) hr1).mono ?_; rintro e y2 ⟨rfl, hb⟩; have hy2 := hy1.trans (hb.mono hy1.size); clear hb hr1); refine Shut.out hK _ _ (by assumption) ?_; clear hK K; (try simp only [Act.put, List.setIfInBounds_toArray, List.set_cons_zero, List.set_cons_succ]); (try refine eagerOpen rfl ?_))
      rw [HSM.out]
      repeat (first | (apply wpEager_take; (· rfl); (· (intro w' hb'; go_simp; try with_reducible rfl)); (try simp only [Act.put, List.setIfInBounds_toArray, List.set_cons_zero, List.set_cons_succ]); (try refine eagerOpen rfl ?_)) | (refine wpEager_skip (by rfl) ?_; (try simp only [Act.put, List.setIfInBounds_toArray, List.set_cons_zero, List.set_cons_succ]); (try refine eagerOpen rfl ?_)) | (refine wpEager_off (by rfl) ?_; (try simp only [Act.put, List.setIfInBounds_toArray, List.set_cons_zero, List.set_cons_succ]); (try refine eagerOpen rfl ?_)))
      refine eagerEnd ?_
      have HC := rec_cells HW.out (Below.keepOld hy2 HROW.out)
      have HRB := Lib.hid HC.rb
      obtain ⟨a0, a1, a2, a3, a20, _, _, _, _⟩ := HC
      have HM2 := Lib.hid (HMW.out _ hy2)
      have HB2 := Lib.hid (HB1.out.trans (hy2.mono HB1.out.size))
      clear hy0 hy1 hy2 HMW HLA
      go_wp2_with fail
      go_ret
      exact ⟨bret HRES.out.symm, HB2.out⟩
end Go.Proofs.YtdaigkcbmdcbcaaDoor.Rec
