/- THE WALKS OF BLOCKS, on: the program's Same and Copy. Conditions: as in the first part. -/
import Derived.Test.YtdaigkcbmdcbcaaDoorBlk5
namespace Go.Proofs.YtdaigkcbmdcbcaaDoor.Blk
open Go.RowKit Go.Mir Go.Mir.Parts

set_option maxRecDepth 100000 in
set_option maxHeartbeats 400000 in
theorem same_hash (M M2 : Array Value) (d d2 : BlkD) (q q2 : Option Addr) (n c n2 c2 : Nat) (w : World) (hM : BlkAt w M d q n c) (hM2 : BlkAt w M2 d2 q2 n2 c2) (h1 : ¬ d.hash = d2.hash) :
    Calls Tryd.prog 51 #[.agg M, .agg M2] w fun e w' => e = .returned (.bool (sameB d d2)) ∧ Below w.heap.size w w' := by
  have H2 := Lib.hid (two_allocs w (.cells M 26) (.cells M2 26))
  have HP := Lib.hid (hM.parts H2.out.1)
  have HP2 := Lib.hid (hM2.parts H2.out.2.1)
  have HM2 := Lib.hid hM2
  have HA : Hid (d.hash.length = 32 ∧ d.par.length = 32 ∧ d2.hash.length = 32 ∧ d2.par.length = 32) := ⟨hM.hlen, hM.plen, hM2.hlen, hM2.plen⟩
  have HI := Lib.hid (hM.ids.below H2.out.2.2.2)
  have HI2 := Lib.hid (hM2.ids.below H2.out.2.2.2)
  have hc := HP.out.2.2
  have hc2 := HP2.out.2.2
  have hq : ∀ w, (Op.equalIn 10000 23 (.agg (idA d.hash)) (.agg (idA d2.hash))).run Tryd.prog w = .ok (d.hash == d2.hash) w := fun w => eqI w _ _ HA.out.1 HA.out.2.2.1
  have hcap := hM.ids.sl.le
  have hmax := hM.ids.sl.max
  have hcap2 := hM2.ids.sl.le
  have hmax2 := hM2.ids.sl.max
  obtain rfl : d.txs.length = n := hM.ids.count
  obtain rfl : d2.txs.length = n2 := hM2.ids.count
  clear hM hM2
  have hb1 : (d.hash == d2.hash) = false := by rw [beq_eq_false_iff_ne]; exact h1
  have HR : Hid (sameB d d2 = false) := by show _ = _; unfold sameB; rw [hb1]; simp
  clear h1
  go_enter Tryd.func51, Tryd.ntmps51
  go_wp2_with (first
    | ((with_reducible refine wpAt 8 ?_); refine wpList_load_mid rfl 23 _ rfl w.heap.size 0 rfl (idA d.hash).toList _ HP.out.1 Tryd.underlying23 rfl (infoI _ (by rw [Array.length_toList, idA_size, HA.out.1])) ?_)
    | ((with_reducible refine wpAt 10 ?_); refine wpList_load_mid rfl 23 _ rfl (w.heap.size + 1) 0 rfl (idA d2.hash).toList _ HP2.out.1 Tryd.underlying23 rfl (infoI _ (by rw [Array.length_toList, idA_size, HA.out.2.2.1])) ?_))
  go_ret
  exact ⟨bretd HR.out.symm, H2.out.2.2.2⟩

set_option maxRecDepth 100000 in
set_option maxHeartbeats 400000 in
theorem same_par (M M2 : Array Value) (d d2 : BlkD) (q q2 : Option Addr) (n c n2 c2 : Nat) (w : World) (hM : BlkAt w M d q n c) (hM2 : BlkAt w M2 d2 q2 n2 c2) (h1 : d.hash = d2.hash) (h2 : ¬ d.par = d2.par) :
    Calls Tryd.prog 51 #[.agg M, .agg M2] w fun e w' => e = .returned (.bool (sameB d d2)) ∧ Below w.heap.size w w' := by
  have H2 := Lib.hid (two_allocs w (.cells M 26) (.cells M2 26))
  have HP := Lib.hid (hM.parts H2.out.1)
  have HP2 := Lib.hid (hM2.parts H2.out.2.1)
  have HM2 := Lib.hid hM2
  have HA : Hid (d.hash.length = 32 ∧ d.par.length = 32 ∧ d2.hash.length = 32 ∧ d2.par.length = 32) := ⟨hM.hlen, hM.plen, hM2.hlen, hM2.plen⟩
  have HI := Lib.hid (hM.ids.below H2.out.2.2.2)
  have HI2 := Lib.hid (hM2.ids.below H2.out.2.2.2)
  have hc := HP.out.2.2
  have hc2 := HP2.out.2.2
  have hq : ∀ w, (Op.equalIn 10000 23 (.agg (idA d.hash)) (.agg (idA d2.hash))).run Tryd.prog w = .ok (d.hash == d2.hash) w := fun w => eqI w _ _ HA.out.1 HA.out.2.2.1
  have hq2 : ∀ w, (Op.equalIn 10000 23 (.agg (idA d.par)) (.agg (idA d2.par))).run Tryd.prog w = .ok (d.par == d2.par) w := fun w => eqI w _ _ HA.out.2.1 HA.out.2.2.2
  have hcap := hM.ids.sl.le
  have hmax := hM.ids.sl.max
  have hcap2 := hM2.ids.sl.le
  have hmax2 := hM2.ids.sl.max
  obtain rfl : d.txs.length = n := hM.ids.count
  obtain rfl : d2.txs.length = n2 := hM2.ids.count
  clear hM hM2
  have hb1 : (d.hash == d2.hash) = true := by rw [beq_iff_eq]; exact h1
  clear h1
  have hb2 : (d.par == d2.par) = false := by rw [beq_eq_false_iff_ne]; exact h2
  have HR : Hid (sameB d d2 = false) := by show _ = _; unfold sameB; rw [hb2]; simp
  clear h2
  go_enter Tryd.func51, Tryd.ntmps51
  go_wp2_with (first
    | ((with_reducible refine wpAt 8 ?_); refine wpList_load_mid rfl 23 _ rfl w.heap.size 0 rfl (idA d.hash).toList _ HP.out.1 Tryd.underlying23 rfl (infoI _ (by rw [Array.length_toList, idA_size, HA.out.1])) ?_)
    | ((with_reducible refine wpAt 10 ?_); refine wpList_load_mid rfl 23 _ rfl (w.heap.size + 1) 0 rfl (idA d2.hash).toList _ HP2.out.1 Tryd.underlying23 rfl (infoI _ (by rw [Array.length_toList, idA_size, HA.out.2.2.1])) ?_)
    | ((with_reducible refine wpAt 14 ?_); refine wpList_unguard rfl (wpList_load_mid rfl 23 _ rfl w.heap.size 32 rfl (idA d.par).toList _ HP.out.2.1 Tryd.underlying23 rfl (infoI _ (by rw [Array.length_toList, idA_size, HA.out.2.1])) ?_))
    | ((with_reducible refine wpAt 16 ?_); refine wpList_unguard rfl (wpList_load_mid rfl 23 _ rfl (w.heap.size + 1) 32 rfl (idA d2.par).toList _ HP2.out.2.1 Tryd.underlying23 rfl (infoI _ (by rw [Array.length_toList, idA_size, HA.out.2.2.2])) ?_)))
  go_ret
  exact ⟨bretd HR.out.symm, H2.out.2.2.2⟩

set_option maxRecDepth 100000 in
set_option maxHeartbeats 1000000 in
theorem same_any (M M2 : Array Value) (d d2 : BlkD) (q q2 : Option Addr) (n c n2 c2 : Nat) (w : World) (hM : BlkAt w M d q n c) (hM2 : BlkAt w M2 d2 q2 n2 c2) :
    Calls Tryd.prog 51 #[.agg M, .agg M2] w fun e w' => e = .returned (.bool (sameB d d2)) ∧ Below w.heap.size w w' := by
  have H2 := Lib.hid (two_allocs w (.cells M 26) (.cells M2 26))
  have HP := Lib.hid (hM.parts H2.out.1)
  have HP2 := Lib.hid (hM2.parts H2.out.2.1)
  have HM2 := Lib.hid hM2
  have HA : Hid (d.hash.length = 32 ∧ d.par.length = 32 ∧ d2.hash.length = 32 ∧ d2.par.length = 32) := ⟨hM.hlen, hM.plen, hM2.hlen, hM2.plen⟩
  have HI := Lib.hid (hM.ids.below H2.out.2.2.2)
  have HI2 := Lib.hid (hM2.ids.below H2.out.2.2.2)
  have hc := HP.out.2.2
  have hc2 := HP2.out.2.2
  have hz := zeroI
  have hq : ∀ w, (Op.equalIn 10000 23 (.agg (idA d.hash)) (.agg (idA d2.hash))).run Tryd.prog w = .ok (d.hash == d2.hash) w := fun w => eqI w _ _ HA.out.1 HA.out.2.2.1
  have hq2 : ∀ w, (Op.equalIn 10000 23 (.agg (idA d.par)) (.agg (idA d2.par))).run Tryd.prog w = .ok (d.par == d2.par) w := fun w => eqI w _ _ HA.out.2.1 HA.out.2.2.2
  have hcap := hM.ids.sl.le
  have hmax := hM.ids.sl.max
  have hcap2 := hM2.ids.sl.le
  have hmax2 := hM2.ids.sl.max
  obtain rfl : d.txs.length = n := hM.ids.count
  obtain rfl : d2.txs.length = n2 := hM2.ids.count
  by_cases h1 : d.hash = d2.hash
  · have hb1 : (d.hash == d2.hash) = true := by rw [beq_iff_eq]; exact h1
    by_cases h2 : d.par = d2.par
    · have hb2 : (d.par == d2.par) = true := by rw [beq_iff_eq]; exact h2
      have HR : Hid (sameB d d2 = (d.txs == d2.txs)) := by show _ = _; unfold sameB; rw [hb1, hb2]; rfl
      clear h1 h2 hM hM2
      by_cases hl : d.txs.length = d2.txs.length
      · have hlen : ((d.txs.length : Int) == (d2.txs.length : Int)) = true := by rw [beq_iff_eq]; omega
        have hlen2 : ((d.txs.length : Int) != (d2.txs.length : Int)) = false := by rw [bne_eq_false_iff_eq]; omega
        have HL := Lib.hid hl
        clear hl
        go_enter Tryd.func51, Tryd.ntmps51
        go_wp2_with (first
          | ((with_reducible refine wpAt 8 ?_); refine wpList_load_mid rfl 23 _ rfl w.heap.size 0 rfl (idA d.hash).toList _ HP.out.1 Tryd.underlying23 rfl (infoI _ (by rw [Array.length_toList, idA_size, HA.out.1])) ?_)
          | ((with_reducible refine wpAt 10 ?_); refine wpList_load_mid rfl 23 _ rfl (w.heap.size + 1) 0 rfl (idA d2.hash).toList _ HP2.out.1 Tryd.underlying23 rfl (infoI _ (by rw [Array.length_toList, idA_size, HA.out.2.2.1])) ?_)
          | ((with_reducible refine wpAt 14 ?_); refine wpList_unguard rfl (wpList_load_mid rfl 23 _ rfl w.heap.size 32 rfl (idA d.par).toList _ HP.out.2.1 Tryd.underlying23 rfl (infoI _ (by rw [Array.length_toList, idA_size, HA.out.2.1])) ?_))
          | ((with_reducible refine wpAt 16 ?_); refine wpList_unguard rfl (wpList_load_mid rfl 23 _ rfl (w.heap.size + 1) 32 rfl (idA d2.par).toList _ HP2.out.2.1 Tryd.underlying23 rfl (infoI _ (by rw [Array.length_toList, idA_size, HA.out.2.2.2])) ?_)))
        have HR1 := Lib.hid H2.out.2.1
        have HB := Lib.hid H2.out.2.2.2
        generalize (w.alloc (.cells M 26)).alloc (.cells M2 26) = w2 at *
        clear hc hc2 hq hq2
        go_loopw [31] (fun j wr => ∃ k : Nat, k ≤ d.txs.length ∧ j = .int .i64 k ∧ d.txs.take k = d2.txs.take k ∧ Below w2.heap.size w2 wr) (fun j _ => d.txs.length - (intOf j).toNat)
        case atStart => exact ⟨0, by omega, rfl, rfl, Below.refl _ _⟩
        case round =>
          obtain ⟨k, hk, rfl, heq, hbw⟩ := hrel
          have HEQ := Lib.hid heq
          have HBW := Lib.hid hbw
          clear heq hbw
          by_cases hlt : k < d.txs.length
          · have hlt2 : k < d2.txs.length := by rw [← HL.out]; exact hlt
            obtain ⟨b, o, rfl⟩ := HI.out.sl.addr (by omega) (by omega)
            obtain ⟨b2, o2, rfl⟩ := HI2.out.sl.addr (by omega) (by omega)
            have HRA := Lib.hid ((HI.out.below HBW.out).range (by omega) k hlt)
            have HRM2 := Lib.hid (Below.keepOld HBW.out HR1.out)
            have HLA : Hid ((d.txs[k]'hlt).length = 32) := HI.out.each _ (List.getElem_mem _)
            have HLB : Hid ((d2.txs[k]'hlt2).length = 32) := HI2.out.each _ (List.getElem_mem _)
            have HST : Hid (d.txs[k]'hlt = d2.txs[k]'hlt2 → d.txs.take (k + 1) = d2.txs.take (k + 1)) := fun e => take_eq_step HEQ.out hlt hlt2 e
            have HNE : Hid (¬ d.txs[k]'hlt = d2.txs[k]'hlt2 → (d.txs == d2.txs) = false) := fun h => by
              rw [beq_eq_false_iff_ne]; intro e
              exact h (by simp only [e])
            have HNW := Lib.hid (box_new wr (idA zeros) 23)
            have HBR := Lib.hid (box_row wr (idA zeros) (idA (d.txs[k]'hlt)) 23)
            have HBB := Lib.hid (box_below wr (idA zeros) (idA (d.txs[k]'hlt)) 23)
            have HB4 := Lib.hid (HBW.out.trans (HBB.out.mono HBW.out.size))
            have HRB := Lib.hid (range_grown ((HI2.out.below HB4.out).range (by omega) k hlt2))
            generalize d.txs[k]'hlt = x at *
            generalize d2.txs[k]'hlt2 = y at *
            have HXS : Hid ((idA x).size = 32) := by show _ = _; rw [idA_size, HLA.out]
            have HXL : Hid ((idA x).toList.length = 32) := by show _ = _; rw [Array.length_toList, HXS.out]
            have hq : ∀ w, (Op.equalIn 10000 23 (.agg (idA x)) (.agg (idA y))).run Tryd.prog w = .ok (x == y) w := fun w => eqI w _ _ HLA.out HLB.out
            have hd : decide ((k : Int) < (d.txs.length : Int)) = true := decide_eq_true (by omega)
            by_cases hxy : x = y
            · have hbq : (x == y) = true := by rw [beq_iff_eq]; exact hxy
              have HN := Lib.hid (HST.out hxy)
              clear hxy
              go_wp2_with (first
                | refine wpList_load_mid rfl 23 _ rfl b (o + k * 32) rfl (idA x).toList _ HRA.out Tryd.underlying23 rfl (infoI _ HXL.out) ?_
                | refine wpList_store_row rfl 23 _ _ rfl wr.heap.size (idA x) rfl rfl 23 (idA zeros) HNW.out (infoI _ HXS.out) (zeros_size.trans HXS.out.symm) (idA_one x) ?_)
              generalize (wr.alloc (.cells (idA zeros) 23)).setRow wr.heap.size (idA x) = w4 at *
              have hg64 := cell_grown ((HM2.out.parts (Below.keepOld HB4.out HR1.out)).2.2)
              have HGX := Lib.hid (range_grown_row HBR.out)
              refine wp_region_grow (by kernel_rfl) (by kernel_rfl) ?_
              repeat (first
                | refine wpQuiet_load rfl 23 _ rfl wr.heap.size 0 rfl (idA x) _ HGX.out Tryd.underlying23 rfl (infoI _ HXS.out) ?_
                | refine wpQuiet_load rfl 23 _ rfl b2 (o2 + k * 32) rfl (idA y) _ HRB.out Tryd.underlying23 rfl (infoI _ (by rw [idA_size, HLB.out])) ?_
                | quiet_step (fail))
              refine wpQuiet_nil ?_
              intro w5 hb5
              have HB5 := Lib.hid (HB4.out.trans (hb5.mono HB4.out.size))
              clear hb5 hq hg64
              go_wp2_with fail
              go_roundw
              case rel => exact ⟨k + 1, by omega, by go_num, HN.out, HB5.out⟩
              case measure => simp [intOf]; omega
            · have hbq : (x == y) = false := by rw [beq_eq_false_iff_ne]; exact hxy
              have HN := Lib.hid (HNE.out hxy)
              clear hxy
              go_wp2_with (first
                | refine wpList_load_mid rfl 23 _ rfl b (o + k * 32) rfl (idA x).toList _ HRA.out Tryd.underlying23 rfl (infoI _ HXL.out) ?_
                | refine wpList_store_row rfl 23 _ _ rfl wr.heap.size (idA x) rfl rfl 23 (idA zeros) HNW.out (infoI _ HXS.out) (zeros_size.trans HXS.out.symm) (idA_one x) ?_)
              generalize (wr.alloc (.cells (idA zeros) 23)).setRow wr.heap.size (idA x) = w4 at *
              have hg64 := cell_grown ((HM2.out.parts (Below.keepOld HB4.out HR1.out)).2.2)
              have HGX := Lib.hid (range_grown_row HBR.out)
              refine wp_region_grow (by kernel_rfl) (by kernel_rfl) ?_
              repeat (first
                | refine wpQuiet_load rfl 23 _ rfl wr.heap.size 0 rfl (idA x) _ HGX.out Tryd.underlying23 rfl (infoI _ HXS.out) ?_
                | refine wpQuiet_load rfl 23 _ rfl b2 (o2 + k * 32) rfl (idA y) _ HRB.out Tryd.underlying23 rfl (infoI _ (by rw [idA_size, HLB.out])) ?_
                | quiet_step (fail))
              refine wpQuiet_nil ?_
              intro w5 hb5
              have HB5 := Lib.hid (HB4.out.trans (hb5.mono HB4.out.size))
              clear hb5 hq hg64
              go_wp2_with fail
              go_ret
              exact ⟨bretd (HR.out.trans HN.out).symm, HB.out.trans (HB5.out.mono HB.out.size)⟩
          · have HRR : Hid ((d.txs == d2.txs) = true) := by
              show _ = _
              have h1 := HEQ.out
              rw [List.take_of_length_le (by omega), List.take_of_length_le (by rw [← HL.out]; omega)] at h1
              rw [beq_iff_eq]; exact h1
            have hd : decide ((k : Int) < (d.txs.length : Int)) = false := decide_eq_false (by omega)
            go_wp2_with fail
            go_ret
            exact ⟨bretd (HR.out.trans HRR.out).symm, HB.out.trans (HBW.out.mono HB.out.size)⟩
      · have hlen : ((d.txs.length : Int) == (d2.txs.length : Int)) = false := by rw [beq_eq_false_iff_ne]; omega
        have HN : Hid (sameB d d2 = false) := by show _ = _; rw [HR.out, beq_eq_false_iff_ne]; intro e; exact hl (by rw [e])
        clear hl
        go_enter Tryd.func51, Tryd.ntmps51
        go_wp2_with (first
          | ((with_reducible refine wpAt 8 ?_); refine wpList_load_mid rfl 23 _ rfl w.heap.size 0 rfl (idA d.hash).toList _ HP.out.1 Tryd.underlying23 rfl (infoI _ (by rw [Array.length_toList, idA_size, HA.out.1])) ?_)
          | ((with_reducible refine wpAt 10 ?_); refine wpList_load_mid rfl 23 _ rfl (w.heap.size + 1) 0 rfl (idA d2.hash).toList _ HP2.out.1 Tryd.underlying23 rfl (infoI _ (by rw [Array.length_toList, idA_size, HA.out.2.2.1])) ?_)
          | ((with_reducible refine wpAt 14 ?_); refine wpList_unguard rfl (wpList_load_mid rfl 23 _ rfl w.heap.size 32 rfl (idA d.par).toList _ HP.out.2.1 Tryd.underlying23 rfl (infoI _ (by rw [Array.length_toList, idA_size, HA.out.2.1])) ?_))
          | ((with_reducible refine wpAt 16 ?_); refine wpList_unguard rfl (wpList_load_mid rfl 23 _ rfl (w.heap.size + 1) 32 rfl (idA d2.par).toList _ HP2.out.2.1 Tryd.underlying23 rfl (infoI _ (by rw [Array.length_toList, idA_size, HA.out.2.2.2])) ?_)))
        go_ret
        exact ⟨bretd HN.out.symm, H2.out.2.2.2⟩
    · exact same_par _ _ _ _ _ _ _ _ _ _ _ hM hM2 h1 h2
  · exact same_hash _ _ _ _ _ _ _ _ _ _ _ hM hM2 h1
end Go.Proofs.YtdaigkcbmdcbcaaDoor.Blk
