/- LAYER 14: MessageCopies: are two messages the same; a copy is the same, and apart. Conditions: the laid cell of errors.errorType. -/
import Derived.Test.YtmjdpfmofbbknaaDoorMsgA
namespace Go.Proofs.YtmjdpfmofbbknaaDoor.Msg
open Go.RowKit Go.Mir Go.Mir.Parts Wr Cod Rdr

theorem u8_add1 (v : UInt8) : ((v.toNat : Int) + 1) % 256 = ((v + 1).toNat : Int) := by
  rw [UInt8.toNat_add]; simp
theorem bytesV_set1 (m : List UInt8) (j : Nat) (y : UInt8) : bytesV (m.set j y) = (bytesV m).set j (.int .u8 (y.toNat : Int)) := by simp [bytesV, List.map_set]
theorem same_self (a : MsgD) : decide (a.same a) = true := decide_eq_true ⟨rfl, rfl, rfl, rfl, rfl, rfl⟩
set_option maxRecDepth 100000 in
set_option maxHeartbeats 6400000 in
theorem law_copies (a b : MsgD) (p p2 : Option Addr) (c c2 : Nat) (w : World) (hE : EType w) (hA : MsgAt w a p c) (hB : MsgAt w b p2 c2) :
    Calls Tryd.prog 5 #[.agg (msgA a p c), .agg (msgA b p2 c2)] w fun e w' => e = .returned (.bool true) ∧ Below w.heap.size w w' := by
  have H2 := Lib.hid (two_allocs w (.cells (msgA a p c) 28) (.cells (msgA b p2 c2) 28))
  have HE2 := Lib.hid (hE.below H2.out.2.2.2 hE.lt)
  have HB2 := Lib.hid H2.out.2.2.2
  have HA := Lib.hid hA
  have HBM := Lib.hid hB
  have HA2 := Lib.hid (hA.below HB2.out)
  have HBM2 := Lib.hid (hB.below HB2.out)
  have HE := Lib.hid hE
  have hz := zeroM
  have hle := hA.blob.le
  have hmax := hA.blob.max
  clear hE hA hB
  obtain ⟨a0, a1, a2, a3, a4, a5⟩ := msg_cells HA.out.wf.hint H2.out.1
  obtain ⟨b0, b1, b2, b3, b4, b5⟩ := msg_cells HBM.out.wf.hint H2.out.2.1
  clear a0 a1 a2 a3 a5 b0 b1 b2 b3 b5
  by_cases hbig : 3000 < a.blob.length
  · have hd : decide ((3000 : Int) < (a.blob.length : Int)) = true := decide_eq_true (by omega)
    go_enter Tryd.func5, Tryd.ntmps5
    go_upto_region 1 with fail
    generalize (w.alloc (.cells (msgA a p c) 28)).alloc (.cells (msgA b p2 c2) 28) = w2 at *
    go_wp2_with fail
    refine (alive14_any _ HE2.out).mono ?_
    rintro e w9 ⟨rfl, hb9⟩
    have HB9 := Lib.hid (HB2.out.trans (hb9.mono HB2.out.size))
    clear hb9
    go_wp2_with fail
    go_ret
    exact ⟨rfl, HB9.out⟩
  have hd : decide ((3000 : Int) < (a.blob.length : Int)) = false := decide_eq_false (by omega)
  by_cases hbig2 : 3000 < b.blob.length
  · have hd2 : decide ((3000 : Int) < (b.blob.length : Int)) = true := decide_eq_true (by omega)
    go_enter Tryd.func5, Tryd.ntmps5
    go_upto_region 1 with fail
    generalize (w.alloc (.cells (msgA a p c) 28)).alloc (.cells (msgA b p2 c2) 28) = w2 at *
    go_wp2_with fail
    refine (alive14_any _ HE2.out).mono ?_
    rintro e w9 ⟨rfl, hb9⟩
    have HB9 := Lib.hid (HB2.out.trans (hb9.mono HB2.out.size))
    clear hb9
    go_wp2_with fail
    go_ret
    exact ⟨rfl, HB9.out⟩
  have hd2 : decide ((3000 : Int) < (b.blob.length : Int)) = false := decide_eq_false (by omega)
  go_enter Tryd.func5, Tryd.ntmps5
  go_upto_region 1 with fail
  generalize (w.alloc (.cells (msgA a p c) 28)).alloc (.cells (msgA b p2 c2) 28) = w2 at *
  go_wp2_with (refine wpList_load_row rfl 28 _ rfl w.heap.size rfl 28 (msgA a p c) (0, 0) _ H2.out.1 Tryd.underlying28 rfl (sizeM _ (msgA_size HA.out.wf.hint _ _)) ?_)
  refine (copy_any a p c w2 HA2.out (by omega)).mono ?_
  rintro e w3 ⟨pc, cc, rfl, ho3, hb3⟩
  have HB3 := Lib.hid hb3
  have HO3 := Lib.hid ho3
  clear ho3 hb3
  go_upto_region 4 with (refine wpList_store_row rfl 28 _ _ rfl w3.heap.size (msgA a pc cc) rfl rfl 28 (msgA MsgD.zero none 0) (heap_alloc_last _ _) (sizeM _ (msgA_size HA.out.wf.hint _ _)) (by rw [msgA_size HA.out.wf.hint]; rfl) (msgA_one _ _ _) ?_)
  try simp only [Act.put, List.setIfInBounds_toArray, List.set_cons_zero, List.set_cons_succ]
  have hr4 : ((w3.alloc (.cells (msgA MsgD.zero none 0) 28)).setRow w3.heap.size (msgA a pc cc)).heap[w3.heap.size]? = some (.cells (msgA a pc cc) 28 (0, 0)) := setRow_heap _ _ _ _ _ _ (heap_alloc_last _ _)
  have hb4 : Below w3.heap.size w3 ((w3.alloc (.cells (msgA MsgD.zero none 0) 28)).setRow w3.heap.size (msgA a pc cc)) := below_setRow (Below.allocs _ _) (Nat.le_refl _) _
  generalize (w3.alloc (.cells (msgA MsgD.zero none 0) 28)).setRow w3.heap.size (msgA a pc cc) = w4 at *
  have HR4 := Lib.hid hr4
  have HB24 := Lib.hid (HB3.out.trans (hb4.mono HB3.out.size))
  have HO4 := Lib.hid (own_touch HO3.out (Turns.of_below (S := fun _ => False) hb4) (fun _ _ h => h))
  have HS34 := Lib.hid hb4.size
  clear hr4 hb4
  have HS3 : Hid (w2.heap.size ≤ w3.heap.size) := HB3.out.size
  have HLA : Hid (∀ w', Below w4.heap.size w4 w' → w'.rangeAt w.heap.size 0 (msgA a p c).toList) := fun w' hb j v hv => by rw [cell_of_row _ _ _ _ _ _ (Below.keepOld hb (Below.keepOld HB24.out H2.out.1)), ← Array.getElem?_toList, Nat.zero_add]; exact hv
  have HLB : Hid (∀ w', Below w4.heap.size w4 w' → w'.rangeAt (w.heap.size + 1) 0 (msgA b p2 c2).toList) := fun w' hb j v hv => by rw [cell_of_row _ _ _ _ _ _ (Below.keepOld hb (Below.keepOld HB24.out H2.out.2.1)), ← Array.getElem?_toList, Nat.zero_add]; exact hv
  have HLC : Hid (∀ w', Below w4.heap.size w4 w' → w'.rangeAt w3.heap.size 0 (msgA a pc cc).toList) := fun w' hb j v hv => by rw [cell_of_row _ _ _ _ _ _ (Below.keepOld hb HR4.out), ← Array.getElem?_toList, Nat.zero_add]; exact hv
  have HMA : Hid (∀ w', Below w4.heap.size w4 w' → MsgAt w' a p c) := fun w' hb => HA2.out.below (HB24.out.trans (hb.mono HB24.out.size))
  have HMB : Hid (∀ w', Below w4.heap.size w4 w' → MsgAt w' b p2 c2) := fun w' hb => HBM2.out.below (HB24.out.trans (hb.mono HB24.out.size))
  have HMC : Hid (∀ w', Below w4.heap.size w4 w' → MsgAt w' a pc cc) := fun w' hb => by
    obtain ⟨p9, c9, e9, hs9⟩ := own_sl HO4.out
    cases e9
    exact ⟨HA.out.wf, Sl.below hs9 hb⟩
  refine wp_region_eager [(0, true), (1, true), (3, true), (4, true), (2, false), (5, false), (6, true), (7, true), (8, true), (9, true), (10, false), (11, true), (12, true), (13, true), (14, true), (15, true), (16, false), (17, true), (18, true)] (by kernel_rfl) (by kernel_rfl) (eagerOpen rfl ?_)
  have hy0 : Below w4.heap.size w4 w4.drew := below_drew1 _ _
  repeat (first
    | ((with_reducible refine eagerLoadAt 2 ?_); refine wpEager_load (by rfl) 28 _ rfl w.heap.size 0 rfl (msgA a p c) _ (fun w' hb => HLA.out w' hb) Tryd.underlying28 rfl (sizeM _ (msgA_size HA.out.wf.hint _ _)) ?_; (try simp only [Act.put, List.setIfInBounds_toArray, List.set_cons_zero, List.set_cons_succ]); (try refine eagerOpen rfl ?_))
    | ((with_reducible refine eagerLoadAt 3 ?_); refine wpEager_load (by rfl) 28 _ rfl (w.heap.size + 1) 0 rfl (msgA b p2 c2) _ (fun w' hb => HLB.out w' hb) Tryd.underlying28 rfl (sizeM _ (msgA_size HBM.out.wf.hint _ _)) ?_; (try simp only [Act.put, List.setIfInBounds_toArray, List.set_cons_zero, List.set_cons_succ]); (try refine eagerOpen rfl ?_))
    | ((with_reducible refine eagerLoadAt 5 ?_); refine wpEager_load (by rfl) 28 _ rfl w3.heap.size 0 rfl (msgA a pc cc) _ (fun w' hb => HLC.out w' hb) Tryd.underlying28 rfl (sizeM _ (msgA_size HA.out.wf.hint _ _)) ?_; (try simp only [Act.put, List.setIfInBounds_toArray, List.set_cons_zero, List.set_cons_succ]); (try refine eagerOpen rfl ?_))
    | (first | (apply wpEager_take; (· rfl); (· (intro w' hb'; go_simp; try with_reducible rfl)); (try simp only [Act.put, List.setIfInBounds_toArray, List.set_cons_zero, List.set_cons_succ]); (try refine eagerOpen rfl ?_)) | (refine wpEager_skip (by rfl) ?_; (try simp only [Act.put, List.setIfInBounds_toArray, List.set_cons_zero, List.set_cons_succ]); (try refine eagerOpen rfl ?_)) | (refine wpEager_off (by rfl) ?_; (try simp only [Act.put, List.setIfInBounds_toArray, List.set_cons_zero, List.set_cons_succ]); (try refine eagerOpen rfl ?_))))
  (refine wpEager_op (by rfl) (fun K hK => ?_); go_simp; (refine (same_any a b p p2 c c2 _ (HMA.out _ hy0) (HMB.out _ hy0)).mono ?_; rintro e y1 ⟨rfl, hb⟩; have hy1 := hy0.trans hb; clear hb); refine Shut.out hK _ _ (by assumption) ?_; clear hK K; (try simp only [Act.put, List.setIfInBounds_toArray, List.set_cons_zero, List.set_cons_succ]); (try refine eagerOpen rfl ?_))
  (refine wpEager_op (by rfl) (fun K hK => ?_); go_simp; (refine (rsame_any a b p p2 c c2 _ (HMA.out _ hy1) (HMB.out _ hy1)).mono ?_; rintro e y2 ⟨rfl, hb⟩; have hy2 := hy1.trans (hb.mono hy1.size); clear hb); refine Shut.out hK _ _ (by assumption) ?_; clear hK K; (try simp only [Act.put, List.setIfInBounds_toArray, List.set_cons_zero, List.set_cons_succ]); (try refine eagerOpen rfl ?_))
  generalize decide (a.same b) = SAB at *
  repeat (first
    | ((with_reducible refine eagerLoadAt 2 ?_); refine wpEager_load (by rfl) 28 _ rfl w.heap.size 0 rfl (msgA a p c) _ (fun w' hb => HLA.out w' hb) Tryd.underlying28 rfl (sizeM _ (msgA_size HA.out.wf.hint _ _)) ?_; (try simp only [Act.put, List.setIfInBounds_toArray, List.set_cons_zero, List.set_cons_succ]); (try refine eagerOpen rfl ?_))
    | ((with_reducible refine eagerLoadAt 3 ?_); refine wpEager_load (by rfl) 28 _ rfl (w.heap.size + 1) 0 rfl (msgA b p2 c2) _ (fun w' hb => HLB.out w' hb) Tryd.underlying28 rfl (sizeM _ (msgA_size HBM.out.wf.hint _ _)) ?_; (try simp only [Act.put, List.setIfInBounds_toArray, List.set_cons_zero, List.set_cons_succ]); (try refine eagerOpen rfl ?_))
    | ((with_reducible refine eagerLoadAt 5 ?_); refine wpEager_load (by rfl) 28 _ rfl w3.heap.size 0 rfl (msgA a pc cc) _ (fun w' hb => HLC.out w' hb) Tryd.underlying28 rfl (sizeM _ (msgA_size HA.out.wf.hint _ _)) ?_; (try simp only [Act.put, List.setIfInBounds_toArray, List.set_cons_zero, List.set_cons_succ]); (try refine eagerOpen rfl ?_))
    | (first | (apply wpEager_take; (· rfl); (· (intro w' hb'; go_simp; try with_reducible rfl)); (try simp only [Act.put, List.setIfInBounds_toArray, List.set_cons_zero, List.set_cons_succ]); (try refine eagerOpen rfl ?_)) | (refine wpEager_skip (by rfl) ?_; (try simp only [Act.put, List.setIfInBounds_toArray, List.set_cons_zero, List.set_cons_succ]); (try refine eagerOpen rfl ?_)) | (refine wpEager_off (by rfl) ?_; (try simp only [Act.put, List.setIfInBounds_toArray, List.set_cons_zero, List.set_cons_succ]); (try refine eagerOpen rfl ?_))))
  (refine wpEager_op (by rfl) (fun K hK => ?_); go_simp; (refine (same_any a a p pc c cc _ (HMA.out _ hy2) (HMC.out _ hy2)).mono ?_; rintro e y3 ⟨rfl, hb⟩; have hy3 := hy2.trans (hb.mono hy2.size); clear hb; rw [same_self]); refine Shut.out hK _ _ (by assumption) ?_; clear hK K; (try simp only [Act.put, List.setIfInBounds_toArray, List.set_cons_zero, List.set_cons_succ]); (try refine eagerOpen rfl ?_))
  repeat (first
    | ((with_reducible refine eagerLoadAt 2 ?_); refine wpEager_load (by rfl) 28 _ rfl w.heap.size 0 rfl (msgA a p c) _ (fun w' hb => HLA.out w' hb) Tryd.underlying28 rfl (sizeM _ (msgA_size HA.out.wf.hint _ _)) ?_; (try simp only [Act.put, List.setIfInBounds_toArray, List.set_cons_zero, List.set_cons_succ]); (try refine eagerOpen rfl ?_))
    | ((with_reducible refine eagerLoadAt 3 ?_); refine wpEager_load (by rfl) 28 _ rfl (w.heap.size + 1) 0 rfl (msgA b p2 c2) _ (fun w' hb => HLB.out w' hb) Tryd.underlying28 rfl (sizeM _ (msgA_size HBM.out.wf.hint _ _)) ?_; (try simp only [Act.put, List.setIfInBounds_toArray, List.set_cons_zero, List.set_cons_succ]); (try refine eagerOpen rfl ?_))
    | ((with_reducible refine eagerLoadAt 5 ?_); refine wpEager_load (by rfl) 28 _ rfl w3.heap.size 0 rfl (msgA a pc cc) _ (fun w' hb => HLC.out w' hb) Tryd.underlying28 rfl (sizeM _ (msgA_size HA.out.wf.hint _ _)) ?_; (try simp only [Act.put, List.setIfInBounds_toArray, List.set_cons_zero, List.set_cons_succ]); (try refine eagerOpen rfl ?_))
    | (first | (apply wpEager_take; (· rfl); (· (intro w' hb'; go_simp; try with_reducible rfl)); (try simp only [Act.put, List.setIfInBounds_toArray, List.set_cons_zero, List.set_cons_succ]); (try refine eagerOpen rfl ?_)) | (refine wpEager_skip (by rfl) ?_; (try simp only [Act.put, List.setIfInBounds_toArray, List.set_cons_zero, List.set_cons_succ]); (try refine eagerOpen rfl ?_)) | (refine wpEager_off (by rfl) ?_; (try simp only [Act.put, List.setIfInBounds_toArray, List.set_cons_zero, List.set_cons_succ]); (try refine eagerOpen rfl ?_))))
  (refine wpEager_op (by rfl) (fun K hK => ?_); go_simp; (refine (rsame_any a a p pc c cc _ (HMA.out _ hy3) (HMC.out _ hy3)).mono ?_; rintro e y4 ⟨rfl, hb⟩; have hy4 := hy3.trans (hb.mono hy3.size); clear hb; rw [same_self]); refine Shut.out hK _ _ (by assumption) ?_; clear hK K; (try simp only [Act.put, List.setIfInBounds_toArray, List.set_cons_zero, List.set_cons_succ]); (try refine eagerOpen rfl ?_))
  repeat (first
    | ((with_reducible refine eagerLoadAt 2 ?_); refine wpEager_load (by rfl) 28 _ rfl w.heap.size 0 rfl (msgA a p c) _ (fun w' hb => HLA.out w' hb) Tryd.underlying28 rfl (sizeM _ (msgA_size HA.out.wf.hint _ _)) ?_; (try simp only [Act.put, List.setIfInBounds_toArray, List.set_cons_zero, List.set_cons_succ]); (try refine eagerOpen rfl ?_))
    | ((with_reducible refine eagerLoadAt 3 ?_); refine wpEager_load (by rfl) 28 _ rfl (w.heap.size + 1) 0 rfl (msgA b p2 c2) _ (fun w' hb => HLB.out w' hb) Tryd.underlying28 rfl (sizeM _ (msgA_size HBM.out.wf.hint _ _)) ?_; (try simp only [Act.put, List.setIfInBounds_toArray, List.set_cons_zero, List.set_cons_succ]); (try refine eagerOpen rfl ?_))
    | ((with_reducible refine eagerLoadAt 5 ?_); refine wpEager_load (by rfl) 28 _ rfl w3.heap.size 0 rfl (msgA a pc cc) _ (fun w' hb => HLC.out w' hb) Tryd.underlying28 rfl (sizeM _ (msgA_size HA.out.wf.hint _ _)) ?_; (try simp only [Act.put, List.setIfInBounds_toArray, List.set_cons_zero, List.set_cons_succ]); (try refine eagerOpen rfl ?_))
    | (first | (apply wpEager_take; (· rfl); (· (intro w' hb'; go_simp; try with_reducible rfl)); (try simp only [Act.put, List.setIfInBounds_toArray, List.set_cons_zero, List.set_cons_succ]); (try refine eagerOpen rfl ?_)) | (refine wpEager_skip (by rfl) ?_; (try simp only [Act.put, List.setIfInBounds_toArray, List.set_cons_zero, List.set_cons_succ]); (try refine eagerOpen rfl ?_)) | (refine wpEager_off (by rfl) ?_; (try simp only [Act.put, List.setIfInBounds_toArray, List.set_cons_zero, List.set_cons_succ]); (try refine eagerOpen rfl ?_))))
  refine eagerEnd ?_
  have HY4 := Lib.hid hy4
  clear hy0 hy1 hy2 hy3 hy4
  have HBW4 : Hid (Below w.heap.size w y4) := HB2.out.trans ((HB24.out.trans (HY4.out.mono HB24.out.size)).mono HB2.out.size)
  have hra := Below.keepOld HY4.out (Below.keepOld HB24.out H2.out.1)
  have hrc := Below.keepOld HY4.out HR4.out
  have HRA := Lib.hid hra
  have HRC := Lib.hid hrc
  have HOW := Lib.hid (own_touch HO4.out (Turns.of_below (S := fun _ => False) HY4.out) (fun _ _ h => h))
  have HOL : Hid (∀ k, (Value.slice pc a.blob.length cc).ownBlock = some k → w2.heap.size ≤ k ∧ k < w3.heap.size) := HO3.out.lt
  have hma := HMA.out _ HY4.out
  obtain ⟨_, _, _, _, a4, _⟩ := msg_cells HA.out.wf.hint hra
  obtain ⟨_, _, _, _, c4, _⟩ := msg_cells HA.out.wf.hint hrc
  have hcv := run_conv (P := Tryd.prog) 26 9 5 Tryd.underlying26 Tryd.underlying5 Tryd.underlying9 hma.blob
  clear hra hrc hma
  go_wp2_with fail
  clear hcv
  go_loopw [7, 46] (fun _ j wr => ∃ (k : Nat) (l : List UInt8), k ≤ a.blob.length ∧ j = .int .i64 k ∧ l.length = a.blob.length ∧ wr.ownsRow w2.heap.size 5 1 (.slice pc a.blob.length cc) a.blob.length (bytesV l) ∧ Turns (fun i => (Value.slice pc a.blob.length cc).ownBlock = some i) y4 wr) (fun _ j _ => a.blob.length - (intOf j).toNat)
  case atStart => exact ⟨0, a.blob, by omega, rfl, rfl, HOW.out, Turns.refl _ _⟩
  case round =>
    obtain ⟨k, l, hk, rfl, hll, hown, htu⟩ := hrel
    have HOWR := Lib.hid hown
    have HTU := Lib.hid htu
    have HLL := Lib.hid hll
    clear hown htu hll
    have hrow5 := HTU.out.keep HRC.out (fun e => by have := (HOL.out _ e).2; omega)
    have hrow6 := HTU.out.keep HRA.out (fun e => by have h1 := (HOL.out _ e).1; have h2 := H2.out.2.2.1; omega)
    obtain ⟨_, _, _, _, d4, _⟩ := msg_cells HA.out.wf.hint hrow5
    obtain ⟨_, _, _, _, e4, _⟩ := msg_cells HA.out.wf.hint hrow6
    clear hrow5 hrow6
    by_cases hlt : k < a.blob.length
    · have hdk : decide ((k : Int) < (a.blob.length : Int)) = true := decide_eq_true (by omega)
      obtain ⟨g, cap, hp9, _, hcap1, hcap2⟩ := own_some HOWR.out (fun e => by have e2 := (Value.slice.inj e).2.1; omega)
      cases hp9
      have hj : k < l.length := by rw [HLL.out]; omega
      have hcell : wr.cell? ⟨g, k, none⟩ = some (.int .u8 ((l[k]'hj).toNat : Int)) := by
        have := HOWR.out.cellAt k (by omega)
        rw [this, bytesV_get _ _ hj]
      have hfz := HOWR.out.frozenAt k
      have HSTO : Hid ((wr.setCell ⟨g, k, none⟩ (.int .u8 ((((l[k]'hj).toNat : Int) + 1) % 256))).ownsRow w2.heap.size 5 1 (.slice (some ⟨g, 0, none⟩) a.blob.length cc) a.blob.length (bytesV (l.set k ((l[k]'hj) + 1)))) := by
        rw [u8_add1, bytesV_set1]
        exact (HOWR.out.stored k _).1
      generalize l[k]'hj = y at *
      have hyl : y.toNat < 256 := y.toNat_lt
      go_wp2_with fail
      go_roundw
      case rel => exact ⟨k + 1, _, by omega, by go_num, by rw [List.length_set]; exact HLL.out, HSTO.out, HTU.out.setCell (p := ⟨g, k, none⟩) (fun _ => rfl) _⟩
      case measure => simp [intOf]; omega
    · obtain rfl : k = a.blob.length := by omega
      have HBWR : Hid (Below w.heap.size w wr) := HBW4.out.trans (HTU.out.below HBW4.out.size (fun i hi => by have h1 := (HOL.out i hi).1; have h2 := HB2.out.size; omega))
      have HEW := Lib.hid (HE.out.below HBWR.out HE.out.lt)
      have hcv2 := run_conv (P := Tryd.prog) 26 9 5 Tryd.underlying26 Tryd.underlying5 Tryd.underlying9 (HA.out.blob.below HBWR.out)
      go_wp2_with fail
      refine (alive14_any _ HEW.out).mono ?_
      rintro e w9 ⟨rfl, hb9⟩
      have HB9 := Lib.hid (HBWR.out.trans (hb9.mono HBWR.out.size))
      clear hb9
      go_wp2_with fail
      go_ret
      exact ⟨rfl, HB9.out⟩
end Go.Proofs.YtmjdpfmofbbknaaDoor.Msg
