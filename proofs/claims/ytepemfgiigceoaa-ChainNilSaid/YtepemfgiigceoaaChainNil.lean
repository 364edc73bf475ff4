/- THE WALKS OF A CHAIN, on: nil, and one that no call made. Conditions: none. -/
import Derived.Test.YtepemfgiigceoaaChain10
namespace Go.Proofs.Ytepemfgiigceoaa.Chn
open Go.RowKit Go.Mir Go.Mir.Parts Go.Proofs.Ytepemfgiigceoaa.Blk

/-- nil, or a chain that no call made -/
def Non (w : World) (v : Value) : Prop := v = .pointer none ∨ ∃ cb, v = .pointer (some ⟨cb, 0, none⟩) ∧ w.cell? ⟨cb, 0, none⟩ = some (.int .i64 0)
theorem Non.below {w w' : World} {v : Value} (h : Non w v) (hb : Below w.heap.size w w') : Non w' v := by
  rcases h with h | ⟨cb, h, hc⟩
  · exact .inl h
  · exact .inr ⟨cb, h, cell_below hc hb⟩
set_option maxRecDepth 100000 in
theorem none_non (v : Value) (w : World) (h : Non w v) : Calls Try.prog 41 #[v] w fun e w' => e = .returned (.bool true) ∧ w = w' := by
  rcases h with rfl | ⟨cb, rfl, hc⟩
  · go_enter Try.func41, Try.ntmps41
    go_wp2_with fail
    go_ret
    exact ⟨rfl, rfl⟩
  · go_enter Try.func41, Try.ntmps41
    go_wp2_with fail
    go_ret
    exact ⟨rfl, rfl⟩
set_option maxRecDepth 100000 in
theorem height_non (v : Value) (w : World) (h : Non w v) : Calls Try.prog 15 #[v] w fun e w' => e = .returned (.int .u32 0) ∧ w = w' := by
  have HV := Lib.hid h
  clear h
  go_enter Try.func15, Try.ntmps15
  go_wp2_with fail
  refine (none_non _ _ HV.out).mono ?_
  rintro e w' ⟨rfl, hw⟩
  subst hw
  go_wp2_with fail
  go_ret
  exact ⟨rfl, rfl⟩
set_option maxRecDepth 100000 in
theorem low_non (v : Value) (w : World) (h : Non w v) : Calls Try.prog 39 #[v] w fun e w' => e = .returned (.int .u32 0) ∧ w = w' := by
  have HV := Lib.hid h
  clear h
  go_enter Try.func39, Try.ntmps39
  go_wp2_with fail
  refine (none_non _ _ HV.out).mono ?_
  rintro e w' ⟨rfl, hw⟩
  subst hw
  go_wp2_with fail
  go_ret
  exact ⟨rfl, rfl⟩
set_option maxRecDepth 100000 in
theorem window_non (v : Value) (w : World) (h : Non w v) : Calls Try.prog 12 #[v] w fun e w' => e = .returned (.slice none 0 0) ∧ w = w' := by
  have HV := Lib.hid h
  clear h
  go_enter Try.func12, Try.ntmps12
  go_wp2_with fail
  refine (none_non _ _ HV.out).mono ?_
  rintro e w' ⟨rfl, hw⟩
  subst hw
  go_wp2_with fail
  go_ret
  exact ⟨rfl, rfl⟩
set_option maxRecDepth 100000 in
theorem clone_non (v : Value) (w : World) (h : Non w v) : Calls Try.prog 35 #[v] w fun e w' => e = .returned (.pointer none) ∧ w = w' := by
  have HV := Lib.hid h
  clear h
  go_enter Try.func35, Try.ntmps35
  go_wp2_with fail
  refine (none_non _ _ HV.out).mono ?_
  rintro e w' ⟨rfl, hw⟩
  subst hw
  go_wp2_with fail
  go_ret
  exact ⟨rfl, rfl⟩
set_option maxRecDepth 100000 in
theorem hinted_non (v : Value) (x : Array Value) (w : World) (h : Non w v) : Calls Try.prog 40 #[v, .agg x] w fun e w' => e = .returned (.slice none 0 0) ∧ Below w.heap.size w w' := by
  have hb1 : Below w.heap.size w (w.alloc (.cells x 52)) := Below.allocs _ _
  have HB1 := Lib.hid hb1
  have HV := Lib.hid (h.below hb1)
  clear h hb1
  go_enter Try.func40, Try.ntmps40
  go_wp2_with fail
  refine (none_non _ _ HV.out).mono ?_
  rintro e w' ⟨rfl, hw⟩
  subst hw
  go_wp2_with fail
  go_ret
  exact ⟨rfl, HB1.out⟩
set_option maxRecDepth 100000 in
theorem has_non (v : Value) (x : Array Value) (w : World) (h : Non w v) : Calls Try.prog 37 #[v, .agg x] w fun e w' => e = .returned (.tuple #[.int .u32 0, .bool false]) ∧ Below w.heap.size w w' := by
  have hb1 : Below w.heap.size w (w.alloc (.cells x 30)) := Below.allocs _ _
  have HB1 := Lib.hid hb1
  have HV := Lib.hid (h.below hb1)
  clear h hb1
  go_enter Try.func37, Try.ntmps37
  go_wp2_with fail
  refine (none_non _ _ HV.out).mono ?_
  rintro e w' ⟨rfl, hw⟩
  subst hw
  go_wp2_with fail
  go_ret2
  exact ⟨rfl, HB1.out⟩
set_option maxRecDepth 100000 in
theorem find_non (v : Value) (x : Array Value) (w : World) (h : Non w v) : Calls Try.prog 36 #[v, .agg x] w fun e w' => e = .returned (.tuple #[.int .u32 0, .bool false]) ∧ Below w.heap.size w w' := by
  have hb1 : Below w.heap.size w (w.alloc (.cells x 30)) := Below.allocs _ _
  have HB1 := Lib.hid hb1
  have HV := Lib.hid (h.below hb1)
  clear h hb1
  go_enter Try.func36, Try.ntmps36
  go_wp2_with fail
  refine (none_non _ _ HV.out).mono ?_
  rintro e w' ⟨rfl, hw⟩
  subst hw
  go_wp2_with fail
  go_ret2
  exact ⟨rfl, HB1.out⟩
set_option maxRecDepth 100000 in
theorem disc_non (v : Value) (x : Array Value) (w : World) (h : Non w v) : Calls Try.prog 14 #[v, .agg x] w fun e w' => e = .returned (.int .i64 7) ∧ Below w.heap.size w w' := by
  have hb1 : Below w.heap.size w (w.alloc (.cells x 30)) := Below.allocs _ _
  have HB1 := Lib.hid hb1
  have HV := Lib.hid (h.below hb1)
  clear h hb1
  go_enter Try.func14, Try.ntmps14
  go_wp2_with fail
  refine (none_non _ _ HV.out).mono ?_
  rintro e w' ⟨rfl, hw⟩
  subst hw
  go_wp2_with fail
  go_ret
  exact ⟨rfl, HB1.out⟩
set_option maxRecDepth 100000 in
theorem may_non (v : Value) (x : Array Value) (w : World) (h : Non w v) : Calls Try.prog 38 #[v, .agg x] w fun e w' => e = .returned (.int .i64 7) ∧ Below w.heap.size w w' := by
  have hb1 : Below w.heap.size w (w.alloc (.cells x 33)) := Below.allocs _ _
  have HB1 := Lib.hid hb1
  have HV := Lib.hid (h.below hb1)
  clear h hb1
  go_enter Try.func38, Try.ntmps38
  go_wp2_with fail
  refine (none_non _ _ HV.out).mono ?_
  rintro e w' ⟨rfl, hw⟩
  subst hw
  go_wp2_with fail
  go_ret
  exact ⟨rfl, HB1.out⟩
set_option maxRecDepth 100000 in
theorem connect_non (v : Value) (M : Array Value) (w : World) (hs : M.size = 65) (h : Non w v) : Calls Try.prog 13 #[v, .agg M] w fun e w' => e = .returned (.int .i64 7) ∧ Below w.heap.size w w' := by
  have hb1 : Below w.heap.size w (w.alloc (.cells M 33)) := Below.allocs _ _
  have HB1 := Lib.hid hb1
  have HV := Lib.hid (h.below hb1)
  have HS := Lib.hid hs
  have HR1 := Lib.hid (heap_alloc_last w (.cells M 33))
  clear h hb1 hs
  go_enter Try.func13, Try.ntmps13
  go_wp2_with ((with_reducible refine wpAt 7 ?_); refine wpList_load_row rfl 33 _ rfl w.heap.size rfl 33 M (0, 0) _ HR1.out Try.underlying33 rfl (infoBlk _ HS.out) ?_)
  refine (may_non _ _ _ HV.out).mono ?_
  rintro e w2 ⟨rfl, hb2⟩
  have HB2 := Lib.hid (HB1.out.trans (hb2.mono HB1.out.size))
  clear hb2
  go_wp2_with fail
  go_ret
  exact ⟨rfl, HB2.out⟩
set_option maxRecDepth 100000 in
theorem tip_non (v : Value) (w : World) (h : Non w v) : Calls Try.prog 16 #[v] w fun e w' => e = .returned (.tuple #[.agg (blkA zeros zeros none 0 0), .bool false]) ∧ Below w.heap.size w w' := by
  obtain ⟨Z, hz, HZE⟩ : ∃ Z : Array Value, (∀ w0, (zeroValue 33).run Try.prog w0 = .ok (.agg Z) w0) ∧ Hid (Z = blkA zeros zeros none 0 0) := ⟨blkA zeros zeros none 0 0, fun w0 => by kernel_rfl, rfl⟩
  have hzs : Z.size = 65 := by rw [HZE.out]; kernel_rfl
  have hzo : Z.all (·.oneCell') = true := by rw [HZE.out]; kernel_rfl
  have hb1 : Below w.heap.size w (w.alloc (.cells Z 33)) := Below.allocs _ _
  have HB1 := Lib.hid hb1
  have HV := Lib.hid (h.below hb1)
  have HR1 := Lib.hid (heap_alloc_last w (.cells Z 33))
  clear h hb1
  go_enter Try.func16, Try.ntmps16
  go_wp2_with fail
  refine (none_non _ _ HV.out).mono ?_
  rintro e w' ⟨rfl, hw⟩
  subst hw
  go_wp2_with ((with_reducible refine wpStoreAt 2 ?_); refine wpList_store_row rfl 33 _ _ rfl w.heap.size Z rfl rfl 33 Z HR1.out (infoBlk _ hzs) rfl hzo ?_)
  have HRS := Lib.hid (setRow_heap _ _ _ Z _ _ HR1.out)
  have HBF := Lib.hid (below_setRow HB1.out (Nat.le_refl _) Z)
  refine bodyPost_ret (results_row_tmp rfl _ _ _ _ _ _ _ rfl HRS.out Try.underlying33 rfl (infoBlk _ hzs)) rfl ?_
  exact ⟨by rw [← HZE.out]; rfl, HBF.out⟩

set_option maxRecDepth 100000 in
set_option maxHeartbeats 800000 in
theorem law_nil (M : Array Value) (d : BlkD) (q : Option Addr) (n c : Nat) (w : World) (hM : BlkAt w M d q n c) :
    Calls Try.prog 7 #[.agg M] w fun e w' => e = .returned (.bool true) ∧ Below w.heap.size w w' := by
  obtain ⟨Z, hz, HZE⟩ : ∃ Z : Array Value, (∀ w0, (zeroValue 33).run Try.prog w0 = .ok (.agg Z) w0) ∧ Hid (Z = blkA zeros zeros none 0 0) := ⟨blkA zeros zeros none 0 0, fun w0 => by kernel_rfl, rfl⟩
  have hzo : Z.all (·.oneCell') = true := by rw [HZE.out]; kernel_rfl
  have hzs : Hid (Z.size = 65) := by show _ = _; rw [HZE.out]; kernel_rfl
  have H2 := Lib.hid (two_allocs w (.cells M 33) (.cells (chA 0 0 none 0 0) 70))
  have HM := Lib.hid hM
  have HS := Lib.hid hM.size
  have HHS : Hid ((idA d.hash).toList.length = 32) := by show _ = _; rw [Array.length_toList, idA_size, hM.hlen]
  clear hM
  go_enter Try.func7, Try.ntmps7
  go_wp2_with fail
  rw [show (w.alloc (.cells M 33)).alloc (.cells #[Value.int IntKind.i64 0, Value.int IntKind.u32 0, Value.slice none 0 0] 70) = (w.alloc (.cells M 33)).alloc (.cells (chA 0 0 none 0 0) 70) from rfl]
  generalize (w.alloc (.cells M 33)).alloc (.cells (chA 0 0 none 0 0) 70) = w2 at *
  have HA : Hid (∀ w', Non w' (.pointer none)) := fun w' => .inl rfl
  have HC : Hid (∀ w', Below w2.heap.size w2 w' → Non w' (.pointer (some ⟨w.heap.size + 1, 0, none⟩))) := fun w' hb => .inr ⟨_, rfl, cell_below (by rw [cell_of_row _ _ _ _ _ _ H2.out.2.1]; rfl) hb⟩
  have HID : Hid (∀ w', Below w2.heap.size w2 w' → w'.rangeAt w.heap.size 0 (idA d.hash).toList) := fun w' hb => range_below (HM.out.parts H2.out.1).1 hb
  have HMM : Hid (∀ w', Below w2.heap.size w2 w' → w'.heap[w.heap.size]? = some (.cells M 33 (0, 0))) := fun w' hb => Below.keepOld hb H2.out.1
  refine (tip_non _ w2 (HA.out _)).mono ?_
  rintro e w3 ⟨rfl, hb3⟩
  rw [← HZE.out]
  have HB3 := Lib.hid hb3
  clear hb3
  have HNW := Lib.hid (box_new w3 Z 33)
  have HBB := Lib.hid (HB3.out.trans ((box_below w3 Z Z 33).mono HB3.out.size))
  go_wp2_with (first
    | ((with_reducible refine wpStoreAt 5 ?_); refine wpList_store_row rfl 33 _ _ rfl w3.heap.size Z rfl rfl 33 Z HNW.out (infoBlk _ hzs.out) rfl hzo ?_)
    | ((with_reducible refine wpAt 18 ?_); refine wpList_load_mid rfl 30 _ rfl w.heap.size 0 rfl (idA d.hash).toList _ (HID.out _ HBB.out) Try.underlying30 rfl (infoI _ HHS.out) ?_))
  refine (find_non _ _ _ (HC.out _ HBB.out)).mono ?_
  rintro e w4 ⟨rfl, hb4⟩
  have HB4 := Lib.hid (HBB.out.trans (hb4.mono HBB.out.size))
  clear hb4
  go_wp2_with ((with_reducible refine wpAt 25 ?_); refine wpList_load_mid rfl 30 _ rfl w.heap.size 0 rfl (idA d.hash).toList _ (HID.out _ HB4.out) Try.underlying30 rfl (infoI _ HHS.out) ?_)
  refine (has_non _ _ _ (HA.out _)).mono ?_
  rintro e w5 ⟨rfl, hb5⟩
  have HB5 := Lib.hid (HB4.out.trans (hb5.mono HB4.out.size))
  clear hb5
  go_wp2_with ((with_reducible refine wpAt 41 ?_); refine wpList_load_row_g rfl 33 _ rfl w.heap.size rfl 33 M (0, 0) _ (HMM.out _ HB5.out) Try.underlying33 rfl (infoBlk _ HS.out) ?_)
  refine (connect_non _ _ _ HS.out (HA.out _)).mono ?_
  rintro e w6 ⟨rfl, hb6⟩
  have HB6 := Lib.hid (HB5.out.trans (hb6.mono HB5.out.size))
  clear hb6
  go_wp2_with ((with_reducible refine wpAt 47 ?_); refine wpList_unguard (by rfl) ?_; refine wpList_load_mid rfl 30 _ rfl w.heap.size 0 rfl (idA d.hash).toList _ (HID.out _ HB6.out) Try.underlying30 rfl (infoI _ HHS.out) ?_)
  refine (disc_non _ _ _ (HC.out _ HB6.out)).mono ?_
  rintro e w7 ⟨rfl, hb7⟩
  have HB7 := Lib.hid (HB6.out.trans (hb7.mono HB6.out.size))
  clear hb7
  go_wp2_with ((with_reducible refine wpAt 53 ?_); refine wpList_load_row_g rfl 33 _ rfl w.heap.size rfl 33 M (0, 0) _ (HMM.out _ HB7.out) Try.underlying33 rfl (infoBlk _ HS.out) ?_)
  refine (may_non _ _ _ (HA.out _)).mono ?_
  rintro e w8 ⟨rfl, hb8⟩
  have HB8 := Lib.hid (HB7.out.trans (hb8.mono HB7.out.size))
  clear hb8
  go_wp2_with fail
  refine (height_non _ _ (HA.out _)).mono ?_
  rintro e w' ⟨rfl, hw⟩
  subst hw
  go_wp2_with fail
  refine (height_non _ _ (HC.out _ HB8.out)).mono ?_
  rintro e w' ⟨rfl, hw⟩
  subst hw
  go_wp2_with fail
  refine (low_non _ _ (HA.out _)).mono ?_
  rintro e w' ⟨rfl, hw⟩
  subst hw
  go_wp2_with fail
  refine (low_non _ _ (HC.out _ HB8.out)).mono ?_
  rintro e w' ⟨rfl, hw⟩
  subst hw
  go_wp2_with fail
  refine (window_non _ _ (HA.out _)).mono ?_
  rintro e w' ⟨rfl, hw⟩
  subst hw
  go_wp2_with fail
  refine (hinted_non _ _ _ (HC.out _ HB8.out)).mono ?_
  rintro e w9 ⟨rfl, hb9⟩
  have HB9 := Lib.hid (HB8.out.trans (hb9.mono HB8.out.size))
  clear hb9
  go_wp2_with fail
  refine (clone_non _ _ (HA.out _)).mono ?_
  rintro e w' ⟨rfl, hw⟩
  subst hw
  go_wp2_with fail
  refine (clone_non _ _ (HC.out _ HB9.out)).mono ?_
  rintro e w' ⟨rfl, hw⟩
  subst hw
  go_wp2_with fail
  refine (alive_any _).mono ?_
  rintro e w10 ⟨rfl, hb10⟩
  have HB10 := Lib.hid (HB9.out.trans (hb10.mono HB9.out.size))
  clear hb10
  have HBE := Lib.hid (H2.out.2.2.2.trans (HB10.out.mono H2.out.2.2.2.size))
  go_wp2_with fail
  go_ret
  exact ⟨rfl, HBE.out⟩
end Go.Proofs.Ytepemfgiigceoaa.Chn
