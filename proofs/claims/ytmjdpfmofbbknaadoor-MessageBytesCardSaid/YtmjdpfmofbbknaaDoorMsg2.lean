/- MESSAGES: the reference's Same; Copy. Conditions: none. -/
import Derived.Test.YtmjdpfmofbbknaaDoorMsg
namespace Go.Proofs.YtmjdpfmofbbknaaDoor.Msg
open Go.RowKit Go.Mir Go.Mir.Parts Wr Cod

theorem eqH (w : World) (a b : List UInt8) (ha : a.length = 16) (hb : b.length = 16) : (Op.equalIn 10000 25 (.agg (idA a)) (.agg (idA b))).run Tryd.prog w = .ok (a == b) w :=
  run_equal_ids w 9998 Tryd.underlying25 Tryd.underlying5 (by kernel_rfl) (by kernel_rfl) (by kernel_rfl) a b ha hb
theorem wpList_unguard {P : Program} {w : World} {ops : Array Oper} {rest : List Oper} {d : Option Nat} {op : Op} {t : TypeId} {ps : String} {af : Array Edge} {g : Nat × Bool} {a : Act} {Q : Exit → Act → World → Prop}
    (hw : Region.wanted ⟨d, op, t, ps, af, some g⟩ (yielded ops a.tmps) = true)
    (h : wpList P ops Q (⟨d, op, t, ps, af, none⟩ :: rest) a w) : wpList P ops Q (⟨d, op, t, ps, af, some g⟩ :: rest) a w := by
  unfold wpList at h ⊢
  rw [if_pos hw]
  rw [if_pos (by simp [Region.wanted])] at h
  exact h
set_option maxRecDepth 100000 in
set_option maxHeartbeats 3200000 in
theorem rsame_any (a b : MsgD) (p p2 : Option Addr) (c c2 : Nat) (w : World) (hA : MsgAt w a p c) (hB : MsgAt w b p2 c2) :
    Calls Tryd.prog 12 #[.agg (msgA a p c), .agg (msgA b p2 c2)] w fun e w' => e = .returned (.bool (decide (a.same b))) ∧ Below w.heap.size w w' := by
  have H2 := two_allocs w (.cells (msgA a p c) 28) (.cells (msgA b p2 c2) 28)
  have hA2 := hA.below H2.2.2.2
  have hB2 := hB.below H2.2.2.2
  obtain ⟨a0, a1, a2, a3, a4, a5⟩ := msg_cells hA.wf.hint H2.1
  obtain ⟨b0, b1, b2, b3, b4, b5⟩ := msg_cells hB.wf.hint H2.2.1
  have HA := Lib.hid hA2
  have HB := Lib.hid hB2
  have HAH := Lib.hid hA.wf.hint
  have HBH := Lib.hid hB.wf.hint
  have HRA := Lib.hid a5
  have HRB := Lib.hid b5
  have HBL := Lib.hid H2.2.2.2
  have hq := fun w => eqH w _ _ hA.wf.hint hB.wf.hint
  clear H2 hA hB a5 b5 hA2 hB2
  by_cases h0 : a.kind = b.kind
  · have t0 : (a.kind == b.kind) = true := by rw [beq_iff_eq]; exact h0
    by_cases h1 : a.ses = b.ses
    · have t1 : ((a.ses : Int) == (b.ses : Int)) = true := by rw [beq_iff_eq]; omega
      by_cases h2 : a.seq = b.seq
      · have t2 : ((a.seq : Int) == (b.seq : Int)) = true := by rw [beq_iff_eq]; omega
        by_cases h3 : a.quo = b.quo
        · have t3 : ((a.quo : Int) == (b.quo : Int)) = true := by rw [beq_iff_eq]; omega
          by_cases h4 : a.hint = b.hint
          · have t4 : (a.hint == b.hint) = true := by rw [beq_iff_eq]; exact h4
            have HRES : Hid (decide (a.same b) = (a.blob == b.blob)) := by
              show _ = _
              rw [Bool.eq_iff_iff, decide_eq_true_eq, beq_iff_eq]
              exact ⟨fun h => h.2.2.2.2.2, fun h => ⟨h0, h1, h2, h3, h4, h⟩⟩
            clear h0 h1 h2 h3 h4
            go_enter Tryd.func12, Tryd.ntmps12
            go_upto_region 1 with fail
            generalize (w.alloc (.cells (msgA a p c) 28)).alloc (.cells (msgA b p2 c2) 28) = w2 at *
            have hcv := run_conv (P := Tryd.prog) 26 9 5 Tryd.underlying26 Tryd.underlying5 Tryd.underlying9 HA.out.blob
            have hcv2 := run_conv (P := Tryd.prog) 26 9 5 Tryd.underlying26 Tryd.underlying5 Tryd.underlying9 HB.out.blob
            go_wp2_with (first
              | ((with_reducible refine wpAt 33 ?_); refine wpList_unguard (by rfl) ?_; refine wpList_load_mid rfl 25 _ rfl w.heap.size 4 rfl (idA a.hint).toList _ HRA.out Tryd.underlying25 rfl (by rw [Array.length_toList]; exact sizeH _ HAH.out) ?_)
              | ((with_reducible refine wpAt 35 ?_); refine wpList_unguard (by rfl) ?_; refine wpList_load_mid rfl 25 _ rfl (w.heap.size + 1) 4 rfl (idA b.hint).toList _ HRB.out Tryd.underlying25 rfl (by rw [Array.length_toList]; exact sizeH _ HBH.out) ?_))
            go_ret
            exact ⟨bret HRES.out.symm, HBL.out⟩
          · have t4 : (a.hint == b.hint) = false := by rw [beq_eq_false_iff_ne]; exact h4
            have HRES : Hid (decide (a.same b) = false) := decide_eq_false (fun h => h4 h.2.2.2.2.1)
            clear h0 h1 h2 h3 h4
            go_enter Tryd.func12, Tryd.ntmps12
            go_upto_region 1 with fail
            generalize (w.alloc (.cells (msgA a p c) 28)).alloc (.cells (msgA b p2 c2) 28) = w2 at *
            have hcv := run_conv (P := Tryd.prog) 26 9 5 Tryd.underlying26 Tryd.underlying5 Tryd.underlying9 HA.out.blob
            have hcv2 := run_conv (P := Tryd.prog) 26 9 5 Tryd.underlying26 Tryd.underlying5 Tryd.underlying9 HB.out.blob
            go_wp2_with (first
              | ((with_reducible refine wpAt 33 ?_); refine wpList_unguard (by rfl) ?_; refine wpList_load_mid rfl 25 _ rfl w.heap.size 4 rfl (idA a.hint).toList _ HRA.out Tryd.underlying25 rfl (by rw [Array.length_toList]; exact sizeH _ HAH.out) ?_)
              | ((with_reducible refine wpAt 35 ?_); refine wpList_unguard (by rfl) ?_; refine wpList_load_mid rfl 25 _ rfl (w.heap.size + 1) 4 rfl (idA b.hint).toList _ HRB.out Tryd.underlying25 rfl (by rw [Array.length_toList]; exact sizeH _ HBH.out) ?_))
            go_ret
            exact ⟨bret HRES.out.symm, HBL.out⟩
        · have t3 : ((a.quo : Int) == (b.quo : Int)) = false := by rw [beq_eq_false_iff_ne]; omega
          have HRES : Hid (decide (a.same b) = false) := decide_eq_false (fun h => h3 h.2.2.2.1)
          clear h0 h1 h2 h3
          go_enter Tryd.func12, Tryd.ntmps12
          go_upto_region 1 with fail
          generalize (w.alloc (.cells (msgA a p c) 28)).alloc (.cells (msgA b p2 c2) 28) = w2 at *
          have hcv := run_conv (P := Tryd.prog) 26 9 5 Tryd.underlying26 Tryd.underlying5 Tryd.underlying9 HA.out.blob
          have hcv2 := run_conv (P := Tryd.prog) 26 9 5 Tryd.underlying26 Tryd.underlying5 Tryd.underlying9 HB.out.blob
          go_wp2_with (first
            | ((with_reducible refine wpAt 33 ?_); refine wpList_unguard (by rfl) ?_; refine wpList_load_mid rfl 25 _ rfl w.heap.size 4 rfl (idA a.hint).toList _ HRA.out Tryd.underlying25 rfl (by rw [Array.length_toList]; exact sizeH _ HAH.out) ?_)
            | ((with_reducible refine wpAt 35 ?_); refine wpList_unguard (by rfl) ?_; refine wpList_load_mid rfl 25 _ rfl (w.heap.size + 1) 4 rfl (idA b.hint).toList _ HRB.out Tryd.underlying25 rfl (by rw [Array.length_toList]; exact sizeH _ HBH.out) ?_))
          go_ret
          exact ⟨bret HRES.out.symm, HBL.out⟩
      · have t2 : ((a.seq : Int) == (b.seq : Int)) = false := by rw [beq_eq_false_iff_ne]; omega
        have HRES : Hid (decide (a.same b) = false) := decide_eq_false (fun h => h2 h.2.2.1)
        clear h0 h1 h2
        go_enter Tryd.func12, Tryd.ntmps12
        go_upto_region 1 with fail
        generalize (w.alloc (.cells (msgA a p c) 28)).alloc (.cells (msgA b p2 c2) 28) = w2 at *
        have hcv := run_conv (P := Tryd.prog) 26 9 5 Tryd.underlying26 Tryd.underlying5 Tryd.underlying9 HA.out.blob
        have hcv2 := run_conv (P := Tryd.prog) 26 9 5 Tryd.underlying26 Tryd.underlying5 Tryd.underlying9 HB.out.blob
        go_wp2_with (first
          | ((with_reducible refine wpAt 33 ?_); refine wpList_unguard (by rfl) ?_; refine wpList_load_mid rfl 25 _ rfl w.heap.size 4 rfl (idA a.hint).toList _ HRA.out Tryd.underlying25 rfl (by rw [Array.length_toList]; exact sizeH _ HAH.out) ?_)
          | ((with_reducible refine wpAt 35 ?_); refine wpList_unguard (by rfl) ?_; refine wpList_load_mid rfl 25 _ rfl (w.heap.size + 1) 4 rfl (idA b.hint).toList _ HRB.out Tryd.underlying25 rfl (by rw [Array.length_toList]; exact sizeH _ HBH.out) ?_))
        go_ret
        exact ⟨bret HRES.out.symm, HBL.out⟩
    · have t1 : ((a.ses : Int) == (b.ses : Int)) = false := by rw [beq_eq_false_iff_ne]; omega
      have HRES : Hid (decide (a.same b) = false) := decide_eq_false (fun h => h1 h.2.1)
      clear h0 h1
      go_enter Tryd.func12, Tryd.ntmps12
      go_upto_region 1 with fail
      generalize (w.alloc (.cells (msgA a p c) 28)).alloc (.cells (msgA b p2 c2) 28) = w2 at *
      have hcv := run_conv (P := Tryd.prog) 26 9 5 Tryd.underlying26 Tryd.underlying5 Tryd.underlying9 HA.out.blob
      have hcv2 := run_conv (P := Tryd.prog) 26 9 5 Tryd.underlying26 Tryd.underlying5 Tryd.underlying9 HB.out.blob
      go_wp2_with (first
        | ((with_reducible refine wpAt 33 ?_); refine wpList_unguard (by rfl) ?_; refine wpList_load_mid rfl 25 _ rfl w.heap.size 4 rfl (idA a.hint).toList _ HRA.out Tryd.underlying25 rfl (by rw [Array.length_toList]; exact sizeH _ HAH.out) ?_)
        | ((with_reducible refine wpAt 35 ?_); refine wpList_unguard (by rfl) ?_; refine wpList_load_mid rfl 25 _ rfl (w.heap.size + 1) 4 rfl (idA b.hint).toList _ HRB.out Tryd.underlying25 rfl (by rw [Array.length_toList]; exact sizeH _ HBH.out) ?_))
      go_ret
      exact ⟨bret HRES.out.symm, HBL.out⟩
  · have t0 : (a.kind == b.kind) = false := by rw [beq_eq_false_iff_ne]; exact h0
    have HRES : Hid (decide (a.same b) = false) := decide_eq_false (fun h => h0 h.1)
    clear h0
    go_enter Tryd.func12, Tryd.ntmps12
    go_upto_region 1 with fail
    generalize (w.alloc (.cells (msgA a p c) 28)).alloc (.cells (msgA b p2 c2) 28) = w2 at *
    have hcv := run_conv (P := Tryd.prog) 26 9 5 Tryd.underlying26 Tryd.underlying5 Tryd.underlying9 HA.out.blob
    have hcv2 := run_conv (P := Tryd.prog) 26 9 5 Tryd.underlying26 Tryd.underlying5 Tryd.underlying9 HB.out.blob
    go_wp2_with (first
      | ((with_reducible refine wpAt 33 ?_); refine wpList_unguard (by rfl) ?_; refine wpList_load_mid rfl 25 _ rfl w.heap.size 4 rfl (idA a.hint).toList _ HRA.out Tryd.underlying25 rfl (by rw [Array.length_toList]; exact sizeH _ HAH.out) ?_)
      | ((with_reducible refine wpAt 35 ?_); refine wpList_unguard (by rfl) ?_; refine wpList_load_mid rfl 25 _ rfl (w.heap.size + 1) 4 rfl (idA b.hint).toList _ HRB.out Tryd.underlying25 rfl (by rw [Array.length_toList]; exact sizeH _ HBH.out) ?_))
    go_ret
    exact ⟨bret HRES.out.symm, HBL.out⟩
theorem zeroM (w : World) : (zeroValue 28).run Tryd.prog w = .ok (.agg (msgA MsgD.zero none 0)) w := by kernel_rfl
theorem msgA_setS (m : MsgD) (hh : m.hint.length = 16) (p : Option Addr) (c : Nat) (v : Value) (b : List UInt8) (p' : Option Addr) (c' : Nat) (hv : v = .slice p' b.length c') : (msgA m p c).setIfInBounds 20 v = msgA { m with blob := b } p' c' := by
  subst hv
  unfold msgA msgL
  rw [List.setIfInBounds_toArray]
  congr 1
  have hl := bytesV_length m.hint
  rw [List.set_append_right _ _ (by simp), List.set_append_right _ _ (by simp [hl, hh])]
  simp [hl, hh]
theorem info8b : (Tryd.prog.info? 5).map (fun i => (i.zero, i.size, i.bytes)) = some (some (.int .u8 0), 1, 1) := by kernel_rfl
set_option maxRecDepth 100000 in
set_option maxHeartbeats 1600000 in
theorem copy_any (m : MsgD) (p : Option Addr) (c : Nat) (w : World) (hM : MsgAt w m p c) (hl : m.blob.length ≤ 140737488355328) :
    Calls Tryd.prog 14 #[.agg (msgA m p c)] w fun e w' => ∃ p' c', e = .returned (.agg (msgA m p' c')) ∧ w'.ownsRow w.heap.size 5 1 (.slice p' m.blob.length c') m.blob.length (bytesV m.blob) ∧ Below w.heap.size w w' := by
  have hz := zeroM
  have H2 := Lib.hid (two_allocs w (.cells (msgA m p c) 28) (.cells (msgA MsgD.zero none 0) 28))
  have HM := Lib.hid (hM.below H2.out.2.2.2)
  have HW := Lib.hid hM.wf
  clear hM
  go_enter Tryd.func14, Tryd.ntmps14
  go_upto_region 1 with fail
  generalize (w.alloc (.cells (msgA m p c) 28)).alloc (.cells (msgA MsgD.zero none 0) 28) = w2 at *
  obtain ⟨_, _, _, _, a4, _⟩ := msg_cells HW.out.hint H2.out.1
  have hle := HM.out.blob.le
  have hmax := HM.out.blob.max
  have hfz := frozen_of_row _ _ 20 _ _ H2.out.1
  have HSZ : Hid (w.heap.size ≤ w2.heap.size) := H2.out.2.2.2.size
  go_wp2_with (at_builtin; refine wpList_append_nx rfl _ _ 26 rfl (base := w2.heap.size) Tryd.underlying26 info8b rfl (by omega) rfl (World.ownsRow_nil _ _ _ _) rfl HM.out.blob (bytesV_one _) ⟨by omega, by omega⟩ (Nat.le_refl _) ?_)
  intro p9 c9 w9 ho9 hg9 _ _
  have ho9 : w9.ownsRow w2.heap.size 5 1 (.slice p9 m.blob.length c9) m.blob.length (bytesV m.blob) := by simpa using ho9
  have hb9 : Below w2.heap.size w2 w9 := (Below.refl _ _).grown hg9 (Nat.le_refl _) (fun k hk => by simp [Value.ownBlock] at hk)
  have e0 := Below.keepOld hb9 H2.out.1
  have e1 := Below.keepOld hb9 H2.out.2.1
  have c20 : w9.cell? ⟨w.heap.size, 20, none⟩ = some (.slice p m.blob.length c) := (msg_cells HW.out.hint e0).2.2.2.2.1
  have f20 := frozen_of_row _ _ 20 _ _ e0
  have HE0 : Hid ((w9.setCell ⟨w.heap.size, 20, none⟩ (.slice p9 m.blob.length c9)).heap[w.heap.size]? = some (.cells (msgA m p9 c9) 28 (0, 0))) := by
    show _ = _
    rw [heap_setCell_same _ _ _ _ _ _ e0, msgA_setS m HW.out.hint p c _ m.blob p9 c9 rfl]
  have HE1 : Hid ((w9.setCell ⟨w.heap.size, 20, none⟩ (.slice p9 m.blob.length c9)).heap[w.heap.size + 1]? = some (.cells (msgA MsgD.zero none 0) 28 (0, 0))) := by
    show _ = _
    rw [heap_setCell_other _ _ _ _ (by simp)]; exact e1
  have HO : Hid ((w9.setCell ⟨w.heap.size, 20, none⟩ (.slice p9 m.blob.length c9)).ownsRow w2.heap.size 5 1 (.slice p9 m.blob.length c9) m.blob.length (bytesV m.blob)) :=
    own_touch ho9 ((Turns.refl (fun k => k = w.heap.size) w9).setCell (p := ⟨w.heap.size, 20, none⟩) (fun _ => rfl) _) (fun k hk e => by have := (ho9.lt k hk).1; have := H2.out.2.2.1; omega)
  have HB : Hid (Below w.heap.size w (w9.setCell ⟨w.heap.size, 20, none⟩ (.slice p9 m.blob.length c9))) := (H2.out.2.2.2.trans (hb9.mono HSZ.out)).setCell (Nat.le_refl _) _
  clear ho9 hg9 hb9 e0 e1 a4 hfz
  go_upto_region 2 with fail
  generalize w9.setCell ⟨w.heap.size, 20, none⟩ (.slice p9 m.blob.length c9) = w10 at *
  clear c20 f20
  go_wp2_with (first
    | refine wpList_load_row rfl 28 _ rfl w.heap.size rfl 28 (msgA m p9 c9) (0, 0) _ HE0.out Tryd.underlying28 rfl (sizeM _ (msgA_size HW.out.hint _ _)) ?_
    | refine wpList_store_row rfl 28 _ _ rfl (w.heap.size + 1) (msgA m p9 c9) rfl rfl 28 (msgA MsgD.zero none 0) HE1.out (sizeM _ (msgA_size HW.out.hint _ _)) (by rw [msgA_size HW.out.hint]; rfl) (msgA_one _ _ _) ?_)
  have HS := Lib.hid (setRow_heap _ _ _ (msgA m p9 c9) _ _ HE1.out)
  refine bodyPost_ret (results_cell_row rfl _ _ _ _ _ _ _ rfl HS.out Tryd.underlying28 rfl (sizeM _ (msgA_size HW.out.hint _ _))) rfl ?_
  refine ⟨p9, c9, rfl, own_base (own_touch HO.out (turns_setRow w10 (w.heap.size + 1) _) (fun k hk e => by have := (HO.out.lt k hk).1; have := H2.out.2.2.1; omega)) (fun k hk => by have := (HO.out.lt k hk).1; have := HSZ.out; omega), below_setRow HB.out (by omega) _⟩
end Go.Proofs.YtmjdpfmofbbknaaDoor.Msg
