/- LAYER 10: the walk of step, kind by kind (printed by gen_step.py). Conditions: as in Step. -/
import Derived.Test.YthgaadnbmiekkaaW10Step
import Derived.Laws.Cover3
namespace Go.Proofs.Ythgaadnbmiekkaa.W10
open Go.RowKit Go.Mir Go.Mir.Parts Wr RW

abbrev stepBoxes (w : World) (room : Nat) (p : Option Addr) (n c : Nat) (bad : Int) (cs : List Value) : World :=
  ((w.alloc (.cells #[.int .i64 (room : Int), .slice p n c, .int .i64 bad] 48)).alloc (.cells cs.toArray 28)).alloc (.cells #[.int .i64 0, .slice none 0 0, .int .i64 0] 48)
theorem boxes_rows (w : World) (room : Nat) (p : Option Addr) (n c : Nat) (bad : Int) (cs : List Value) :
    (stepBoxes w room p n c bad cs).heap[w.heap.size]? = some (.cells #[.int .i64 (room : Int), .slice p n c, .int .i64 bad] 48 (0, 0)) ∧
    (stepBoxes w room p n c bad cs).heap[w.heap.size + 1]? = some (.cells cs.toArray 28 (0, 0)) ∧
    (stepBoxes w room p n c bad cs).heap[w.heap.size + 2]? = some (.cells #[.int .i64 0, .slice none 0 0, .int .i64 0] 48 (0, 0)) ∧
    (stepBoxes w room p n c bad cs).heap.size = w.heap.size + 3 ∧ Below w.heap.size w (stepBoxes w room p n c bad cs) := by
  refine ⟨block_old _ (block_old _ (heap_alloc_last _ _)), block_old _ ?_, ?_, by simp [stepBoxes], ((Below.allocs _ _).alloc (by simp) _).alloc (by simp; omega) _⟩
  · have h := heap_alloc_last (w.alloc (.cells #[.int .i64 (room : Int), .slice p n c, .int .i64 bad] 48)) (.cells cs.toArray 28)
    simpa using h
  · have h := heap_alloc_last ((w.alloc (.cells #[.int .i64 (room : Int), .slice p n c, .int .i64 bad] 48)).alloc (.cells cs.toArray 28)) (.cells #[.int .i64 0, .slice none 0 0, .int .i64 0] 48)
    simpa using h
/-- what a step's own blocks read as while the writer turns -/
theorem step_keep {w wk : World} {room : Nat} {p : Option Addr} {n c : Nat} {bad : Int} {cs : List Value} {wb : Nat} {v : Value} (hlt : ∀ k, foot wb v k → k < w.heap.size) (ht : Turns (foot wb v) (stepBoxes w room p n c bad cs) wk) :
    wk.heap[w.heap.size]? = some (.cells #[.int .i64 (room : Int), .slice p n c, .int .i64 bad] 48 (0, 0)) ∧ wk.heap[w.heap.size + 1]? = some (.cells cs.toArray 28 (0, 0)) ∧
    wk.heap[w.heap.size + 2]? = some (.cells #[.int .i64 0, .slice none 0 0, .int .i64 0] 48 (0, 0)) := by
  obtain ⟨r0, r1, r2, _, _⟩ := boxes_rows w room p n c bad cs
  exact ⟨ht.keep r0 (fun h => by have := hlt _ h; omega), ht.keep r1 (fun h => by have := hlt _ h; omega), ht.keep r2 (fun h => by have := hlt _ h; omega)⟩
theorem range_take {w : World} {b o : Nat} {l : List UInt8} (h : w.rangeAt b o (bytesV l)) (k : Nat) : w.rangeAt b o (bytesV (l.take k)) := fun j v hv => by
  refine h j v ?_
  have hj := (List.getElem?_eq_some_iff.1 hv).1
  rw [bytesV_length, List.length_take] at hj
  rw [← hv, bytesV_get _ _ (by omega), bytesV_get _ _ (by rw [List.length_take]; omega)]
  simp
theorem num_all (room : Nat) (p : Option Addr) (n c : Nat) (l : List UInt8) (bad : Int) (x : Nat) (width : Int) (w : World) (hB : Bs w p n c l) (hr : room ≤ 9223372036854775807) (hl : n ≤ 70368744177664) (hx : x < 18446744073709551616) (hw1 : -9223372036854775808 ≤ width) (hw2 : width ≤ 9223372036854775807)
    (hp : ∀ a, p = some a → a.block < w.heap.size) :
    Calls Try.prog 21 #[rv (room : Int) p n c bad, .int .u64 (x : Int), .int .i64 width] w fun e w' => RLeft room p (numR room l bad x width) e w w' ∧ Below w.heap.size w w' := by
  by_cases h : 1 ≤ width ∧ width ≤ 8 ∧ (width = 8 ∨ x < 2 ^ (8 * width.toNat))
  · rw [numR, if_pos h]
    obtain ⟨m, rfl⟩ : ∃ m : Nat, width = (m : Int) := ⟨width.toNat, by omega⟩
    exact RW.num_any room p n c l bad x m w hB hr hl hx (by omega) (by omega) (by rcases h.2.2 with h | h; exact .inl (by omega); exact .inr (by simpa using h)) hp
  · rw [numR, if_neg h]
    exact RW.num_bad room p n c l bad x width w hB hx hw1 hw2 h hp

set_option maxRecDepth 100000 in
set_option maxHeartbeats 1000000 in
theorem step_bytes (room : Nat) (p : Option Addr) (n c : Nat) (l : List UInt8) (bad : Int) (cs : List Value) (o : OpD) (wb : Nat) (v : Value) (w : World) (hw : WAt w wb v room l bad) (hB : Bs w p n c l)
    (hp : ∀ a, p = some a → a.block < w.heap.size ∧ ¬ foot wb v a.block) (hO : ∀ w', Turns (foot wb v) w w' → OpAt w' cs o) (hl : l.length ≤ 1073741824) (ho : o.weight ≤ 1073741824) (hk : o.kind = 1) :
    Calls Try.prog 17 #[.pointer (some ⟨wb, 0, none⟩), rv (room : Int) p n c bad, .agg cs.toArray] w fun e wf => ∃ v' p2 n2 c2, e = .returned (rv (room : Int) p2 n2 c2 (stepS room l bad o).2) ∧ StepLeft wb v room p (stepS room l bad o) w wf v' p2 n2 c2 := by
  have hO0 := hO w (Turns.refl _ _)
  obtain ⟨pb, nb, cb, pl, nl, cl, hlen, h0, h1, h2, h3, h36, hid, _, hI0⟩ := hO0.row
  have g0 : cs[0]'(by omega) = .int .i64 o.kind := by rw [List.getElem?_eq_getElem (by omega)] at h0; exact Option.some.inj h0
  have g1 : cs[1]'(by omega) = .int .i64 o.a := by rw [List.getElem?_eq_getElem (by omega)] at h1; exact Option.some.inj h1
  have g2 : cs[2]'(by omega) = .int .u64 (o.n : Int) := by rw [List.getElem?_eq_getElem (by omega)] at h2; exact Option.some.inj h2
  have g3 : cs[3]'(by omega) = .slice pb nb cb := by rw [List.getElem?_eq_getElem (by omega)] at h3; exact Option.some.inj h3
  have g36 : cs[36]'(by omega) = .slice pl nl cl := by rw [List.getElem?_eq_getElem (by omega)] at h36; exact Option.some.inj h36
  have t0 : (o.kind == 0) = false := by rw [beq_eq_false_iff_ne]; omega
  have t1 : (o.kind == 1) = true := by rw [beq_iff_eq]; exact hk
  obtain ⟨aB1, aB2⟩ := hO0.aB
  have nB := hO0.nB
  have HID := Lib.hid hid
  have HIL := Lib.hid hO0.idlen
  have HW := Lib.hid hw
  have HB := Lib.hid hB
  have HP := Lib.hid hp
  have HO := Lib.hid hO
  have HLT := Lib.hid hw.lt
  have HS := Lib.hid (show stepS room l bad o = bytesR room l bad o.b by rw [stepS, if_neg (by omega), if_pos hk])
  have HFIT := Lib.hid hw.fits
  have HNI : Hid (o.ids.length = nl) := hI0.count
  have HROOM := Lib.hid hw.roomy
  have HNL : Hid (n = l.length) := hB.length.symm
  have hX := boxes_rows w room p n c bad cs
  have HX := Lib.hid hX
  have HWT : Hid (o.b.length ≤ 1073741824 ∧ o.ids.length ≤ 33554432) := by unfold OpD.weight at ho; show _ ∧ _; omega
  have HOX : Hid (∀ wk, Turns (foot wb v) (stepBoxes w room p n c bad cs) wk → OpAt wk cs o) := fun wk ht => HO.out wk ((Turns.of_below (S := foot wb v) HX.out.2.2.2.2).trans ht (fun _ _ h => h))
  have HWX : Hid (WAt (stepBoxes w room p n c bad cs) wb v room l bad) := hw.touch (Turns.of_below (S := fun _ => False) HX.out.2.2.2.2) (fun _ _ h => h)
  clear hX hw hB hp hO hO0 h0 h1 h2 h3 h36 hid ho hI0
  go_enter Try.func17, Try.ntmps17
  go_wp2_with fail
  generalize hW2 : ((w.alloc (.cells #[.int .i64 (room : Int), .slice p n c, .int .i64 bad] 48)).alloc (.cells cs.toArray 28)).alloc (.cells #[.int .i64 0, .slice none 0 0, .int .i64 0] 48) = W2
  have HW2 : Hid (stepBoxes w room p n c bad cs = W2) := hW2
  clear hW2
  rw [HW2.out] at HX HWX HOX
  refine (Wr.bytes_any pb nb cb o.b wb v room l bad W2 HWX.out (fun w' ht => by
    obtain ⟨_, _, _, _, _, _, _, _, _, _, q3, _, _, qb, _⟩ := (HOX.out w' ht).row
    have q : (Value.slice pb nb cb) = .slice _ _ _ := g3.symm.trans (by rw [List.getElem?_eq_getElem (by omega)] at q3; exact Option.some.inj q3)
    cases q
    exact qb) (by have := HWT.out.1; omega) (by omega)).mono ?_
  rintro e w1 ⟨rfl, hl1⟩
  have HL1 : Hid (Wr.Left wb v room (stepS room l bad o) W2 w1) := by
    show Wr.Left _ _ _ _ _ _
    rw [HS.out]; rw [← show putS room l bad true [o.b] = bytesR room l bad o.b by rw [putS_bytesR _ _ _ _ HFIT.out]; simp]; exact hl1
  have ht1 : Turns (foot wb v) W2 w1 := by obtain ⟨_, _, h, _⟩ := hl1; exact h
  obtain ⟨r0, r1, r2⟩ := step_keep HLT.out (by rw [HW2.out]; exact ht1)
  obtain ⟨c00, c01, c02, _, _, _⟩ := rw_cells r0
  obtain ⟨c20, c21, c22, f20, f21, f22⟩ := rw_cells r2
  obtain ⟨pb', nb', cb', pl', nl', cl', k0, k1, k2, k3, k36, kid, _, _, hBs, hIs⟩ := op_cells (HOX.out _ ht1) r1
  have hnb := hBs.length
  have hnl := hIs.count
  have HBs := Lib.hid hBs
  have HIs := Lib.hid hIs
  have HKID := Lib.hid kid
  have HT1 := Lib.hid ht1
  have HR2 := Lib.hid r2
  have HBB : Hid (Bs w1 p n c l) := (HB.out.below HX.out.2.2.2.2).touch ht1 (fun a ha _ => (HP.out a ha).2)
  have HPP : Hid (∀ a, p = some a → a.block < w1.heap.size) := fun a ha => by have h1 := (HP.out a ha).1; have h2 := ht1.size; have h3 := HX.out.2.2.2.1; omega
  clear hl1 ht1 r0 r1 r2 hBs hIs kid
  go_wp2_with fail
  refine (RW.bytes_any room p _ n c _ _ l o.b bad _ HBB.out HBs.out HROOM.out (by have h1 := HNL.out; have h2 := HWT.out; omega) HPP.out).mono ?_
  rintro e w2 ⟨⟨p2, n2, c2, rfl, hs2, hf2⟩, hb2⟩
  have e1 := Below.keepOld hb2 HR2.out
  obtain ⟨d20, d21, d22, f20', f21', f22'⟩ := rw_cells e1
  have e2 := heap_setCell_same _ (w.heap.size + 2) 2 _ _ (.int .i64 (bytesR room l bad o.b).2) (heap_setCell_same _ (w.heap.size + 2) 1 _ _ (.slice p2 n2 c2) (heap_setCell_same _ (w.heap.size + 2) 0 _ _ (.int .i64 (room : Int)) e1))
  have E2 := Lib.hid e2
  have HB2 := Lib.hid hb2
  have HS2 := Lib.hid hs2
  have HF2 := Lib.hid hf2
  clear e1 e2 hb2 hs2 hf2
  go_wp2_with fail
  refine bodyPost_ret (results_cell_row rfl _ _ _ _ _ _ _ rfl E2.out Try.underlying48 rfl (by kernel_rfl)) rfl ?_
  obtain ⟨v', hv'⟩ := step_end HX.out.2.2.2.1 HX.out.2.2.2.2 HW.out HP.out HL1.out HB2.out (by rw [HS.out]; exact HS2.out) HF2.out ((((Turns.refl (fun k => k = w.heap.size + 2) w2).setCell (p := ⟨w.heap.size + 2, 0, none⟩) (fun _ => rfl) (.int .i64 (room : Int))).setCell (p := ⟨w.heap.size + 2, 1, none⟩) (fun _ => rfl) (.slice p2 n2 c2)).setCell (p := ⟨w.heap.size + 2, 2, none⟩) (fun _ => rfl) (.int .i64 (bytesR room l bad o.b).2))
  exact ⟨v', p2, n2, c2, by rw [HS.out]; rfl, hv'⟩

set_option maxRecDepth 100000 in
set_option maxHeartbeats 1000000 in
theorem step_ids (room : Nat) (p : Option Addr) (n c : Nat) (l : List UInt8) (bad : Int) (cs : List Value) (o : OpD) (wb : Nat) (v : Value) (w : World) (hw : WAt w wb v room l bad) (hB : Bs w p n c l)
    (hp : ∀ a, p = some a → a.block < w.heap.size ∧ ¬ foot wb v a.block) (hO : ∀ w', Turns (foot wb v) w w' → OpAt w' cs o) (hl : l.length ≤ 1073741824) (ho : o.weight ≤ 1073741824) (hk : o.kind = 4) :
    Calls Try.prog 17 #[.pointer (some ⟨wb, 0, none⟩), rv (room : Int) p n c bad, .agg cs.toArray] w fun e wf => ∃ v' p2 n2 c2, e = .returned (rv (room : Int) p2 n2 c2 (stepS room l bad o).2) ∧ StepLeft wb v room p (stepS room l bad o) w wf v' p2 n2 c2 := by
  have hO0 := hO w (Turns.refl _ _)
  obtain ⟨pb, nb, cb, pl, nl, cl, hlen, h0, h1, h2, h3, h36, hid, _, hI0⟩ := hO0.row
  have g0 : cs[0]'(by omega) = .int .i64 o.kind := by rw [List.getElem?_eq_getElem (by omega)] at h0; exact Option.some.inj h0
  have g1 : cs[1]'(by omega) = .int .i64 o.a := by rw [List.getElem?_eq_getElem (by omega)] at h1; exact Option.some.inj h1
  have g2 : cs[2]'(by omega) = .int .u64 (o.n : Int) := by rw [List.getElem?_eq_getElem (by omega)] at h2; exact Option.some.inj h2
  have g3 : cs[3]'(by omega) = .slice pb nb cb := by rw [List.getElem?_eq_getElem (by omega)] at h3; exact Option.some.inj h3
  have g36 : cs[36]'(by omega) = .slice pl nl cl := by rw [List.getElem?_eq_getElem (by omega)] at h36; exact Option.some.inj h36
  have t0 : (o.kind == 0) = false := by rw [beq_eq_false_iff_ne]; omega
  have t1 : (o.kind == 1) = false := by rw [beq_eq_false_iff_ne]; omega
  have t2 : (o.kind == 2) = false := by rw [beq_eq_false_iff_ne]; omega
  have t3 : (o.kind == 3) = false := by rw [beq_eq_false_iff_ne]; omega
  have t4 : (o.kind == 4) = true := by rw [beq_iff_eq]; exact hk
  obtain ⟨aB1, aB2⟩ := hO0.aB
  have nB := hO0.nB
  have HID := Lib.hid hid
  have HIL := Lib.hid hO0.idlen
  have HW := Lib.hid hw
  have HB := Lib.hid hB
  have HP := Lib.hid hp
  have HO := Lib.hid hO
  have HLT := Lib.hid hw.lt
  have HS := Lib.hid (show stepS room l bad o = bytesR room l bad o.ids.flatten by rw [stepS, if_neg (by omega), if_neg (by omega), if_neg (by omega), if_neg (by omega), if_pos hk])
  have HFIT := Lib.hid hw.fits
  have HNI : Hid (o.ids.length = nl) := hI0.count
  have HROOM := Lib.hid hw.roomy
  have HNL : Hid (n = l.length) := hB.length.symm
  have hX := boxes_rows w room p n c bad cs
  have HX := Lib.hid hX
  have HWT : Hid (o.b.length ≤ 1073741824 ∧ o.ids.length ≤ 33554432) := by unfold OpD.weight at ho; show _ ∧ _; omega
  have HOX : Hid (∀ wk, Turns (foot wb v) (stepBoxes w room p n c bad cs) wk → OpAt wk cs o) := fun wk ht => HO.out wk ((Turns.of_below (S := foot wb v) HX.out.2.2.2.2).trans ht (fun _ _ h => h))
  have HWX : Hid (WAt (stepBoxes w room p n c bad cs) wb v room l bad) := hw.touch (Turns.of_below (S := fun _ => False) HX.out.2.2.2.2) (fun _ _ h => h)
  clear hX hw hB hp hO hO0 h0 h1 h2 h3 h36 hid ho hI0
  go_enter Try.func17, Try.ntmps17
  go_wp2_with fail
  generalize hW2 : ((w.alloc (.cells #[.int .i64 (room : Int), .slice p n c, .int .i64 bad] 48)).alloc (.cells cs.toArray 28)).alloc (.cells #[.int .i64 0, .slice none 0 0, .int .i64 0] 48) = W2
  have HW2 : Hid (stepBoxes w room p n c bad cs = W2) := hW2
  clear hW2
  rw [HW2.out] at HX HWX HOX
  refine (Wr.ids_any pl nl cl o.ids wb v room l bad W2 HWX.out (fun w' ht => by
    obtain ⟨_, _, _, _, _, _, _, _, _, _, _, q3, _, _, qb⟩ := (HOX.out w' ht).row
    have q : (Value.slice pl nl cl) = .slice _ _ _ := g36.symm.trans (by rw [List.getElem?_eq_getElem (by omega)] at q3; exact Option.some.inj q3)
    cases q
    exact qb) (by have := HWT.out.2; have := HNI.out; omega) (by omega)).mono ?_
  rintro e w1 ⟨rfl, hl1⟩
  have HL1 : Hid (Wr.Left wb v room (stepS room l bad o) W2 w1) := by
    show Wr.Left _ _ _ _ _ _
    rw [HS.out]; rw [← putS_bytesR _ _ _ _ HFIT.out]; exact hl1
  have ht1 : Turns (foot wb v) W2 w1 := by obtain ⟨_, _, h, _⟩ := hl1; exact h
  obtain ⟨r0, r1, r2⟩ := step_keep HLT.out (by rw [HW2.out]; exact ht1)
  obtain ⟨c00, c01, c02, _, _, _⟩ := rw_cells r0
  obtain ⟨c20, c21, c22, f20, f21, f22⟩ := rw_cells r2
  obtain ⟨pb', nb', cb', pl', nl', cl', k0, k1, k2, k3, k36, kid, _, _, hBs, hIs⟩ := op_cells (HOX.out _ ht1) r1
  have hnb := hBs.length
  have hnl := hIs.count
  have HBs := Lib.hid hBs
  have HIs := Lib.hid hIs
  have HKID := Lib.hid kid
  have HT1 := Lib.hid ht1
  have HR2 := Lib.hid r2
  have HBB : Hid (Bs w1 p n c l) := (HB.out.below HX.out.2.2.2.2).touch ht1 (fun a ha _ => (HP.out a ha).2)
  have HPP : Hid (∀ a, p = some a → a.block < w1.heap.size) := fun a ha => by have h1 := (HP.out a ha).1; have h2 := ht1.size; have h3 := HX.out.2.2.2.1; omega
  clear hl1 ht1 r0 r1 r2 hBs hIs kid
  go_wp2_with fail
  refine (RW.ids_any room p _ n c _ _ l o.ids bad _ HBB.out HIs.out HROOM.out (by have h1 := HNL.out; have h2 := HWT.out; omega) HPP.out).mono ?_
  rintro e w2 ⟨⟨p2, n2, c2, rfl, hs2, hf2⟩, hb2⟩
  have e1 := Below.keepOld hb2 HR2.out
  obtain ⟨d20, d21, d22, f20', f21', f22'⟩ := rw_cells e1
  have e2 := heap_setCell_same _ (w.heap.size + 2) 2 _ _ (.int .i64 (bytesR room l bad o.ids.flatten).2) (heap_setCell_same _ (w.heap.size + 2) 1 _ _ (.slice p2 n2 c2) (heap_setCell_same _ (w.heap.size + 2) 0 _ _ (.int .i64 (room : Int)) e1))
  have E2 := Lib.hid e2
  have HB2 := Lib.hid hb2
  have HS2 := Lib.hid hs2
  have HF2 := Lib.hid hf2
  clear e1 e2 hb2 hs2 hf2
  go_wp2_with fail
  refine bodyPost_ret (results_cell_row rfl _ _ _ _ _ _ _ rfl E2.out Try.underlying48 rfl (by kernel_rfl)) rfl ?_
  obtain ⟨v', hv'⟩ := step_end HX.out.2.2.2.1 HX.out.2.2.2.2 HW.out HP.out HL1.out HB2.out (by rw [HS.out]; exact HS2.out) HF2.out ((((Turns.refl (fun k => k = w.heap.size + 2) w2).setCell (p := ⟨w.heap.size + 2, 0, none⟩) (fun _ => rfl) (.int .i64 (room : Int))).setCell (p := ⟨w.heap.size + 2, 1, none⟩) (fun _ => rfl) (.slice p2 n2 c2)).setCell (p := ⟨w.heap.size + 2, 2, none⟩) (fun _ => rfl) (.int .i64 (bytesR room l bad o.ids.flatten).2))
  exact ⟨v', p2, n2, c2, by rw [HS.out]; rfl, hv'⟩

set_option maxRecDepth 100000 in
set_option maxHeartbeats 1000000 in
theorem step_num (room : Nat) (p : Option Addr) (n c : Nat) (l : List UInt8) (bad : Int) (cs : List Value) (o : OpD) (wb : Nat) (v : Value) (w : World) (hw : WAt w wb v room l bad) (hB : Bs w p n c l)
    (hp : ∀ a, p = some a → a.block < w.heap.size ∧ ¬ foot wb v a.block) (hO : ∀ w', Turns (foot wb v) w w' → OpAt w' cs o) (hl : l.length ≤ 1073741824) (ho : o.weight ≤ 1073741824) (hk : o.kind = 0) :
    Calls Try.prog 17 #[.pointer (some ⟨wb, 0, none⟩), rv (room : Int) p n c bad, .agg cs.toArray] w fun e wf => ∃ v' p2 n2 c2, e = .returned (rv (room : Int) p2 n2 c2 (stepS room l bad o).2) ∧ StepLeft wb v room p (stepS room l bad o) w wf v' p2 n2 c2 := by
  have hO0 := hO w (Turns.refl _ _)
  obtain ⟨pb, nb, cb, pl, nl, cl, hlen, h0, h1, h2, h3, h36, hid, _, hI0⟩ := hO0.row
  have g0 : cs[0]'(by omega) = .int .i64 o.kind := by rw [List.getElem?_eq_getElem (by omega)] at h0; exact Option.some.inj h0
  have g1 : cs[1]'(by omega) = .int .i64 o.a := by rw [List.getElem?_eq_getElem (by omega)] at h1; exact Option.some.inj h1
  have g2 : cs[2]'(by omega) = .int .u64 (o.n : Int) := by rw [List.getElem?_eq_getElem (by omega)] at h2; exact Option.some.inj h2
  have g3 : cs[3]'(by omega) = .slice pb nb cb := by rw [List.getElem?_eq_getElem (by omega)] at h3; exact Option.some.inj h3
  have g36 : cs[36]'(by omega) = .slice pl nl cl := by rw [List.getElem?_eq_getElem (by omega)] at h36; exact Option.some.inj h36
  have t0 : (o.kind == 0) = true := by rw [beq_iff_eq]; exact hk
  obtain ⟨aB1, aB2⟩ := hO0.aB
  have nB := hO0.nB
  have HID := Lib.hid hid
  have HIL := Lib.hid hO0.idlen
  have HW := Lib.hid hw
  have HB := Lib.hid hB
  have HP := Lib.hid hp
  have HO := Lib.hid hO
  have HLT := Lib.hid hw.lt
  have HS := Lib.hid (show stepS room l bad o = numR room l bad o.n o.a by rw [stepS, if_pos hk])
  have HFIT := Lib.hid hw.fits
  have HNI : Hid (o.ids.length = nl) := hI0.count
  have HROOM := Lib.hid hw.roomy
  have HNL : Hid (n = l.length) := hB.length.symm
  have hX := boxes_rows w room p n c bad cs
  have HX := Lib.hid hX
  have HWT : Hid (o.b.length ≤ 1073741824 ∧ o.ids.length ≤ 33554432) := by unfold OpD.weight at ho; show _ ∧ _; omega
  have HOX : Hid (∀ wk, Turns (foot wb v) (stepBoxes w room p n c bad cs) wk → OpAt wk cs o) := fun wk ht => HO.out wk ((Turns.of_below (S := foot wb v) HX.out.2.2.2.2).trans ht (fun _ _ h => h))
  have HWX : Hid (WAt (stepBoxes w room p n c bad cs) wb v room l bad) := hw.touch (Turns.of_below (S := fun _ => False) HX.out.2.2.2.2) (fun _ _ h => h)
  clear hX hw hB hp hO hO0 h0 h1 h2 h3 h36 hid ho hI0
  go_enter Try.func17, Try.ntmps17
  go_wp2_with fail
  generalize hW2 : ((w.alloc (.cells #[.int .i64 (room : Int), .slice p n c, .int .i64 bad] 48)).alloc (.cells cs.toArray 28)).alloc (.cells #[.int .i64 0, .slice none 0 0, .int .i64 0] 48) = W2
  have HW2 : Hid (stepBoxes w room p n c bad cs = W2) := hW2
  clear hW2
  rw [HW2.out] at HX HWX HOX
  refine (Wr.num_any o.n o.a wb v room l bad W2 HWX.out nB aB1 aB2 (by omega)).mono ?_
  rintro e w1 ⟨rfl, hl1⟩
  have HL1 : Hid (Wr.Left wb v room (stepS room l bad o) W2 w1) := by
    show Wr.Left _ _ _ _ _ _
    rw [HS.out]; rw [← numS_numR _ _ _ _ _ HFIT.out]; exact hl1
  have ht1 : Turns (foot wb v) W2 w1 := by obtain ⟨_, _, h, _⟩ := hl1; exact h
  obtain ⟨r0, r1, r2⟩ := step_keep HLT.out (by rw [HW2.out]; exact ht1)
  obtain ⟨c00, c01, c02, _, _, _⟩ := rw_cells r0
  obtain ⟨c20, c21, c22, f20, f21, f22⟩ := rw_cells r2
  obtain ⟨pb', nb', cb', pl', nl', cl', k0, k1, k2, k3, k36, kid, _, _, hBs, hIs⟩ := op_cells (HOX.out _ ht1) r1
  have hnb := hBs.length
  have hnl := hIs.count
  have HBs := Lib.hid hBs
  have HIs := Lib.hid hIs
  have HKID := Lib.hid kid
  have HT1 := Lib.hid ht1
  have HR2 := Lib.hid r2
  have HBB : Hid (Bs w1 p n c l) := (HB.out.below HX.out.2.2.2.2).touch ht1 (fun a ha _ => (HP.out a ha).2)
  have HPP : Hid (∀ a, p = some a → a.block < w1.heap.size) := fun a ha => by have h1 := (HP.out a ha).1; have h2 := ht1.size; have h3 := HX.out.2.2.2.1; omega
  clear hl1 ht1 r0 r1 r2 hBs hIs kid
  go_wp2_with fail
  refine (num_all room p n c l bad o.n o.a _ HBB.out HROOM.out (by have h1 := HNL.out; omega) nB aB1 aB2 HPP.out).mono ?_
  rintro e w2 ⟨⟨p2, n2, c2, rfl, hs2, hf2⟩, hb2⟩
  have e1 := Below.keepOld hb2 HR2.out
  obtain ⟨d20, d21, d22, f20', f21', f22'⟩ := rw_cells e1
  have e2 := heap_setCell_same _ (w.heap.size + 2) 2 _ _ (.int .i64 (numR room l bad o.n o.a).2) (heap_setCell_same _ (w.heap.size + 2) 1 _ _ (.slice p2 n2 c2) (heap_setCell_same _ (w.heap.size + 2) 0 _ _ (.int .i64 (room : Int)) e1))
  have E2 := Lib.hid e2
  have HB2 := Lib.hid hb2
  have HS2 := Lib.hid hs2
  have HF2 := Lib.hid hf2
  clear e1 e2 hb2 hs2 hf2
  go_wp2_with fail
  refine bodyPost_ret (results_cell_row rfl _ _ _ _ _ _ _ rfl E2.out Try.underlying48 rfl (by kernel_rfl)) rfl ?_
  obtain ⟨v', hv'⟩ := step_end HX.out.2.2.2.1 HX.out.2.2.2.2 HW.out HP.out HL1.out HB2.out (by rw [HS.out]; exact HS2.out) HF2.out ((((Turns.refl (fun k => k = w.heap.size + 2) w2).setCell (p := ⟨w.heap.size + 2, 0, none⟩) (fun _ => rfl) (.int .i64 (room : Int))).setCell (p := ⟨w.heap.size + 2, 1, none⟩) (fun _ => rfl) (.slice p2 n2 c2)).setCell (p := ⟨w.heap.size + 2, 2, none⟩) (fun _ => rfl) (.int .i64 (numR room l bad o.n o.a).2))
  exact ⟨v', p2, n2, c2, by rw [HS.out]; rfl, hv'⟩

set_option maxRecDepth 100000 in
set_option maxHeartbeats 1000000 in
theorem step_fail (room : Nat) (p : Option Addr) (n c : Nat) (l : List UInt8) (bad : Int) (cs : List Value) (o : OpD) (wb : Nat) (v : Value) (w : World) (hw : WAt w wb v room l bad) (hB : Bs w p n c l)
    (hp : ∀ a, p = some a → a.block < w.heap.size ∧ ¬ foot wb v a.block) (hO : ∀ w', Turns (foot wb v) w w' → OpAt w' cs o) (hl : l.length ≤ 1073741824) (ho : o.weight ≤ 1073741824) (hk : o.kind ≠ 0 ∧ o.kind ≠ 1 ∧ o.kind ≠ 2 ∧ o.kind ≠ 3 ∧ o.kind ≠ 4) :
    Calls Try.prog 17 #[.pointer (some ⟨wb, 0, none⟩), rv (room : Int) p n c bad, .agg cs.toArray] w fun e wf => ∃ v' p2 n2 c2, e = .returned (rv (room : Int) p2 n2 c2 (stepS room l bad o).2) ∧ StepLeft wb v room p (stepS room l bad o) w wf v' p2 n2 c2 := by
  have hO0 := hO w (Turns.refl _ _)
  obtain ⟨pb, nb, cb, pl, nl, cl, hlen, h0, h1, h2, h3, h36, hid, _, hI0⟩ := hO0.row
  have g0 : cs[0]'(by omega) = .int .i64 o.kind := by rw [List.getElem?_eq_getElem (by omega)] at h0; exact Option.some.inj h0
  have g1 : cs[1]'(by omega) = .int .i64 o.a := by rw [List.getElem?_eq_getElem (by omega)] at h1; exact Option.some.inj h1
  have g2 : cs[2]'(by omega) = .int .u64 (o.n : Int) := by rw [List.getElem?_eq_getElem (by omega)] at h2; exact Option.some.inj h2
  have g3 : cs[3]'(by omega) = .slice pb nb cb := by rw [List.getElem?_eq_getElem (by omega)] at h3; exact Option.some.inj h3
  have g36 : cs[36]'(by omega) = .slice pl nl cl := by rw [List.getElem?_eq_getElem (by omega)] at h36; exact Option.some.inj h36
  have t0 : (o.kind == 0) = false := by rw [beq_eq_false_iff_ne]; omega
  have t1 : (o.kind == 1) = false := by rw [beq_eq_false_iff_ne]; omega
  have t2 : (o.kind == 2) = false := by rw [beq_eq_false_iff_ne]; omega
  have t3 : (o.kind == 3) = false := by rw [beq_eq_false_iff_ne]; omega
  have t4 : (o.kind == 4) = false := by rw [beq_eq_false_iff_ne]; omega
  obtain ⟨aB1, aB2⟩ := hO0.aB
  have nB := hO0.nB
  have HID := Lib.hid hid
  have HIL := Lib.hid hO0.idlen
  have HW := Lib.hid hw
  have HB := Lib.hid hB
  have HP := Lib.hid hp
  have HO := Lib.hid hO
  have HLT := Lib.hid hw.lt
  have HS := Lib.hid (show stepS room l bad o = (l, if bad = 0 then o.a else bad) by rw [stepS, if_neg (by omega), if_neg (by omega), if_neg (by omega), if_neg (by omega), if_neg (by omega)])
  have HFIT := Lib.hid hw.fits
  have HNI : Hid (o.ids.length = nl) := hI0.count
  have HROOM := Lib.hid hw.roomy
  have HNL : Hid (n = l.length) := hB.length.symm
  have hX := boxes_rows w room p n c bad cs
  have HX := Lib.hid hX
  have HWT : Hid (o.b.length ≤ 1073741824 ∧ o.ids.length ≤ 33554432) := by unfold OpD.weight at ho; show _ ∧ _; omega
  have HOX : Hid (∀ wk, Turns (foot wb v) (stepBoxes w room p n c bad cs) wk → OpAt wk cs o) := fun wk ht => HO.out wk ((Turns.of_below (S := foot wb v) HX.out.2.2.2.2).trans ht (fun _ _ h => h))
  have HWX : Hid (WAt (stepBoxes w room p n c bad cs) wb v room l bad) := hw.touch (Turns.of_below (S := fun _ => False) HX.out.2.2.2.2) (fun _ _ h => h)
  clear hX hw hB hp hO hO0 h0 h1 h2 h3 h36 hid ho hI0
  go_enter Try.func17, Try.ntmps17
  go_wp2_with fail
  generalize hW2 : ((w.alloc (.cells #[.int .i64 (room : Int), .slice p n c, .int .i64 bad] 48)).alloc (.cells cs.toArray 28)).alloc (.cells #[.int .i64 0, .slice none 0 0, .int .i64 0] 48) = W2
  have HW2 : Hid (stepBoxes w room p n c bad cs = W2) := hW2
  clear hW2
  rw [HW2.out] at HX HWX HOX
  refine (Wr.fail_any wb v room l bad o.a W2 HWX.out).mono ?_
  intro e w1 hfl
  have hl1 : Wr.Left wb v room (l, if bad = 0 then o.a else bad) W2 w1 := ⟨v, hfl.2.1, hfl.2.2, fun _ hk _ => hk⟩
  obtain rfl := hfl.1
  clear hfl
  have HL1 : Hid (Wr.Left wb v room (stepS room l bad o) W2 w1) := by
    show Wr.Left _ _ _ _ _ _
    rw [HS.out]; exact hl1
  have ht1 : Turns (foot wb v) W2 w1 := by obtain ⟨_, _, h, _⟩ := hl1; exact h
  obtain ⟨r0, r1, r2⟩ := step_keep HLT.out (by rw [HW2.out]; exact ht1)
  obtain ⟨c00, c01, c02, _, _, _⟩ := rw_cells r0
  obtain ⟨c20, c21, c22, f20, f21, f22⟩ := rw_cells r2
  obtain ⟨pb', nb', cb', pl', nl', cl', k0, k1, k2, k3, k36, kid, _, _, hBs, hIs⟩ := op_cells (HOX.out _ ht1) r1
  have hnb := hBs.length
  have hnl := hIs.count
  have HBs := Lib.hid hBs
  have HIs := Lib.hid hIs
  have HKID := Lib.hid kid
  have HT1 := Lib.hid ht1
  have HR2 := Lib.hid r2
  have HBB : Hid (Bs w1 p n c l) := (HB.out.below HX.out.2.2.2.2).touch ht1 (fun a ha _ => (HP.out a ha).2)
  have HPP : Hid (∀ a, p = some a → a.block < w1.heap.size) := fun a ha => by have h1 := (HP.out a ha).1; have h2 := ht1.size; have h3 := HX.out.2.2.2.1; omega
  clear hl1 ht1 r0 r1 r2 hBs hIs kid
  go_wp2_with fail
  generalize hbad : (if bad = 0 then o.a else bad) = bad' at *
  refine ((RW.fail_any (room : Int) p n c bad o.a w1).mono (fun e w' h => (⟨⟨p, n, c, by rw [h.1, hbad], HBB.out.below h.2, fun a ha => ⟨.inl ha, by have h1 := HPP.out a ha; have h2 := h.2.size; omega⟩⟩, h.2⟩ : RLeft room p (l, bad') e w1 w' ∧ Below w1.heap.size w1 w'))).mono ?_
  clear hbad
  rintro e w2 ⟨⟨p2, n2, c2, rfl, hs2, hf2⟩, hb2⟩
  have e1 := Below.keepOld hb2 HR2.out
  obtain ⟨d20, d21, d22, f20', f21', f22'⟩ := rw_cells e1
  have e2 := heap_setCell_same _ (w.heap.size + 2) 2 _ _ (.int .i64 bad') (heap_setCell_same _ (w.heap.size + 2) 1 _ _ (.slice p2 n2 c2) (heap_setCell_same _ (w.heap.size + 2) 0 _ _ (.int .i64 (room : Int)) e1))
  have E2 := Lib.hid e2
  have HB2 := Lib.hid hb2
  have HS2 := Lib.hid hs2
  have HF2 := Lib.hid hf2
  clear e1 e2 hb2 hs2 hf2
  go_wp2_with fail
  refine bodyPost_ret (results_cell_row rfl _ _ _ _ _ _ _ rfl E2.out Try.underlying48 rfl (by kernel_rfl)) rfl ?_
  obtain ⟨v', hv'⟩ := step_end HX.out.2.2.2.1 HX.out.2.2.2.2 HW.out HP.out HL1.out HB2.out (by rw [HS.out]; exact HS2.out) HF2.out ((((Turns.refl (fun k => k = w.heap.size + 2) w2).setCell (p := ⟨w.heap.size + 2, 0, none⟩) (fun _ => rfl) (.int .i64 (room : Int))).setCell (p := ⟨w.heap.size + 2, 1, none⟩) (fun _ => rfl) (.slice p2 n2 c2)).setCell (p := ⟨w.heap.size + 2, 2, none⟩) (fun _ => rfl) (.int .i64 bad'))
  exact ⟨v', p2, n2, c2, by rw [HS.out]; rfl, hv'⟩

set_option maxRecDepth 100000 in
set_option maxHeartbeats 1000000 in
theorem step_id (room : Nat) (p : Option Addr) (n c : Nat) (l : List UInt8) (bad : Int) (cs : List Value) (o : OpD) (wb : Nat) (v : Value) (w : World) (hw : WAt w wb v room l bad) (hB : Bs w p n c l)
    (hp : ∀ a, p = some a → a.block < w.heap.size ∧ ¬ foot wb v a.block) (hO : ∀ w', Turns (foot wb v) w w' → OpAt w' cs o) (hl : l.length ≤ 1073741824) (ho : o.weight ≤ 1073741824) (hk : o.kind = 2) :
    Calls Try.prog 17 #[.pointer (some ⟨wb, 0, none⟩), rv (room : Int) p n c bad, .agg cs.toArray] w fun e wf => ∃ v' p2 n2 c2, e = .returned (rv (room : Int) p2 n2 c2 (stepS room l bad o).2) ∧ StepLeft wb v room p (stepS room l bad o) w wf v' p2 n2 c2 := by
  have hO0 := hO w (Turns.refl _ _)
  obtain ⟨pb, nb, cb, pl, nl, cl, hlen, h0, h1, h2, h3, h36, hid, _, hI0⟩ := hO0.row
  have g0 : cs[0]'(by omega) = .int .i64 o.kind := by rw [List.getElem?_eq_getElem (by omega)] at h0; exact Option.some.inj h0
  have g1 : cs[1]'(by omega) = .int .i64 o.a := by rw [List.getElem?_eq_getElem (by omega)] at h1; exact Option.some.inj h1
  have g2 : cs[2]'(by omega) = .int .u64 (o.n : Int) := by rw [List.getElem?_eq_getElem (by omega)] at h2; exact Option.some.inj h2
  have g3 : cs[3]'(by omega) = .slice pb nb cb := by rw [List.getElem?_eq_getElem (by omega)] at h3; exact Option.some.inj h3
  have g36 : cs[36]'(by omega) = .slice pl nl cl := by rw [List.getElem?_eq_getElem (by omega)] at h36; exact Option.some.inj h36
  have t0 : (o.kind == 0) = false := by rw [beq_eq_false_iff_ne]; omega
  have t1 : (o.kind == 1) = false := by rw [beq_eq_false_iff_ne]; omega
  have t2 : (o.kind == 2) = true := by rw [beq_iff_eq]; exact hk
  obtain ⟨aB1, aB2⟩ := hO0.aB
  have nB := hO0.nB
  have HID := Lib.hid hid
  have HIL := Lib.hid hO0.idlen
  have HW := Lib.hid hw
  have HB := Lib.hid hB
  have HP := Lib.hid hp
  have HO := Lib.hid hO
  have HLT := Lib.hid hw.lt
  have HS := Lib.hid (show stepS room l bad o = bytesR room l bad o.id by rw [stepS, if_neg (by omega), if_neg (by omega), if_pos hk])
  have HFIT := Lib.hid hw.fits
  have HNI : Hid (o.ids.length = nl) := hI0.count
  have HROOM := Lib.hid hw.roomy
  have HNL : Hid (n = l.length) := hB.length.symm
  have hX := boxes_rows w room p n c bad cs
  have HX := Lib.hid hX
  have HWT : Hid (o.b.length ≤ 1073741824 ∧ o.ids.length ≤ 33554432) := by unfold OpD.weight at ho; show _ ∧ _; omega
  have HOX : Hid (∀ wk, Turns (foot wb v) (stepBoxes w room p n c bad cs) wk → OpAt wk cs o) := fun wk ht => HO.out wk ((Turns.of_below (S := foot wb v) HX.out.2.2.2.2).trans ht (fun _ _ h => h))
  have HWX : Hid (WAt (stepBoxes w room p n c bad cs) wb v room l bad) := hw.touch (Turns.of_below (S := fun _ => False) HX.out.2.2.2.2) (fun _ _ h => h)
  clear hX hw hB hp hO hO0 h0 h1 h2 h3 h36 hid ho hI0
  have HKX : Hid ((stepBoxes w room p n c bad cs).rangeAt (w.heap.size + 1) 4 (bytesV o.id)) := by
    obtain ⟨_, _, _, _, _, _, _, _, _, _, _, kid, _, _, _, _⟩ := op_cells (HOX.out _ (Turns.refl _ _)) HX.out.2.1
    exact kid
  have HLW : Hid (o.id.length = 32) := by
    have := HIL.out
    show _ = _
    simp [this]
  go_enter Try.func17, Try.ntmps17
  go_wp2_with (refine wpList_load_mid rfl 25 _ rfl (w.heap.size + 1) 4 rfl _ _ HKX.out Try.underlying25 rfl (by rw [bytesV_length, HLW.out]; kernel_rfl) ?_)
  generalize hW2 : ((w.alloc (.cells #[.int .i64 (room : Int), .slice p n c, .int .i64 bad] 48)).alloc (.cells cs.toArray 28)).alloc (.cells #[.int .i64 0, .slice none 0 0, .int .i64 0] 48) = W2
  have HW2 : Hid (stepBoxes w room p n c bad cs = W2) := hW2
  clear hW2
  rw [HW2.out] at HX HWX HOX
  refine (Wr.id_any (bytesV o.id).toArray o.id rfl HLW.out wb v room l bad W2 HWX.out (by omega)).mono ?_
  rintro e w1 ⟨rfl, hl1⟩
  have HL1 : Hid (Wr.Left wb v room (stepS room l bad o) W2 w1) := by
    show Wr.Left _ _ _ _ _ _
    rw [HS.out]; rw [← show putS room l bad true [o.id] = bytesR room l bad o.id by rw [putS_bytesR _ _ _ _ HFIT.out]; simp]; exact hl1
  have ht1 : Turns (foot wb v) W2 w1 := by obtain ⟨_, _, h, _⟩ := hl1; exact h
  obtain ⟨r0, r1, r2⟩ := step_keep HLT.out (by rw [HW2.out]; exact ht1)
  obtain ⟨c00, c01, c02, _, _, _⟩ := rw_cells r0
  obtain ⟨c20, c21, c22, f20, f21, f22⟩ := rw_cells r2
  obtain ⟨pb', nb', cb', pl', nl', cl', k0, k1, k2, k3, k36, kid, _, _, hBs, hIs⟩ := op_cells (HOX.out _ ht1) r1
  have hnb := hBs.length
  have hnl := hIs.count
  have HBs := Lib.hid hBs
  have HIs := Lib.hid hIs
  have HKID := Lib.hid kid
  have HT1 := Lib.hid ht1
  have HR2 := Lib.hid r2
  have HBB : Hid (Bs w1 p n c l) := (HB.out.below HX.out.2.2.2.2).touch ht1 (fun a ha _ => (HP.out a ha).2)
  have HPP : Hid (∀ a, p = some a → a.block < w1.heap.size) := fun a ha => by have h1 := (HP.out a ha).1; have h2 := ht1.size; have h3 := HX.out.2.2.2.1; omega
  clear hl1 ht1 r0 r1 r2 hBs hIs kid
  go_wp2_with fail
  have HKW : Hid (w1.rangeAt (w.heap.size + 1) 4 (bytesV o.id)) := by
    exact HKID.out
  have r0 : w1.heap[w.heap.size]? = some (.cells #[.int .i64 (room : Int), .slice p n c, .int .i64 bad] 48 (0, 0)) := (step_keep HLT.out (by rw [HW2.out]; exact HT1.out)).1
  have HR0 := Lib.hid r0
  clear r0
  have KA : Hid (∀ w', Below w1.heap.size w1 w' → w'.cell? ⟨w.heap.size, 0, none⟩ = some (.int .i64 (room : Int)) ∧ w'.cell? ⟨w.heap.size, 1, none⟩ = some (.slice p n c) ∧ w'.cell? ⟨w.heap.size, 2, none⟩ = some (.int .i64 bad) ∧ w'.cell? ⟨w.heap.size + 2, 0, none⟩ = some (cellOr w' ⟨w.heap.size + 2, 0, none⟩) ∧ w'.cell? ⟨w.heap.size + 2, 1, none⟩ = some (cellOr w' ⟨w.heap.size + 2, 1, none⟩) ∧ w'.cell? ⟨w.heap.size + 2, 2, none⟩ = some (cellOr w' ⟨w.heap.size + 2, 2, none⟩) ∧ w'.frozen? ⟨w.heap.size + 2, 0, none⟩ = false ∧ w'.frozen? ⟨w.heap.size + 2, 1, none⟩ = false ∧ w'.frozen? ⟨w.heap.size + 2, 2, none⟩ = false) := by
    intro w' hb
    obtain ⟨a0, a1, a2, _, _, _⟩ := rw_cells (Below.keepOld hb HR0.out)
    obtain ⟨b0, b1, b2, f0, f1, f2⟩ := rw_cells (Below.keepOld hb HR2.out)
    exact ⟨a0, a1, a2, cellOr_eq (by rw [b0]; rfl), cellOr_eq (by rw [b1]; rfl), cellOr_eq (by rw [b2]; rfl), f0, f1, f2⟩
  have KB : Hid (∀ w' x y z, Below w1.heap.size w1 w' → (((w'.setCell ⟨w.heap.size + 2, 0, none⟩ x).setCell ⟨w.heap.size + 2, 1, none⟩ y).setCell ⟨w.heap.size + 2, 2, none⟩ z).cell? ⟨w.heap.size, 0, none⟩ = some (.int .i64 (room : Int)) ∧ (((w'.setCell ⟨w.heap.size + 2, 0, none⟩ x).setCell ⟨w.heap.size + 2, 1, none⟩ y).setCell ⟨w.heap.size + 2, 2, none⟩ z).cell? ⟨w.heap.size, 1, none⟩ = some (.slice p n c) ∧ (((w'.setCell ⟨w.heap.size + 2, 0, none⟩ x).setCell ⟨w.heap.size + 2, 1, none⟩ y).setCell ⟨w.heap.size + 2, 2, none⟩ z).cell? ⟨w.heap.size, 2, none⟩ = some (.int .i64 bad) ∧ (((w'.setCell ⟨w.heap.size + 2, 0, none⟩ x).setCell ⟨w.heap.size + 2, 1, none⟩ y).setCell ⟨w.heap.size + 2, 2, none⟩ z).cell? ⟨w.heap.size + 2, 0, none⟩ = some (cellOr (((w'.setCell ⟨w.heap.size + 2, 0, none⟩ x).setCell ⟨w.heap.size + 2, 1, none⟩ y).setCell ⟨w.heap.size + 2, 2, none⟩ z) ⟨w.heap.size + 2, 0, none⟩) ∧ (((w'.setCell ⟨w.heap.size + 2, 0, none⟩ x).setCell ⟨w.heap.size + 2, 1, none⟩ y).setCell ⟨w.heap.size + 2, 2, none⟩ z).cell? ⟨w.heap.size + 2, 1, none⟩ = some (cellOr (((w'.setCell ⟨w.heap.size + 2, 0, none⟩ x).setCell ⟨w.heap.size + 2, 1, none⟩ y).setCell ⟨w.heap.size + 2, 2, none⟩ z) ⟨w.heap.size + 2, 1, none⟩) ∧ (((w'.setCell ⟨w.heap.size + 2, 0, none⟩ x).setCell ⟨w.heap.size + 2, 1, none⟩ y).setCell ⟨w.heap.size + 2, 2, none⟩ z).cell? ⟨w.heap.size + 2, 2, none⟩ = some (cellOr (((w'.setCell ⟨w.heap.size + 2, 0, none⟩ x).setCell ⟨w.heap.size + 2, 1, none⟩ y).setCell ⟨w.heap.size + 2, 2, none⟩ z) ⟨w.heap.size + 2, 2, none⟩) ∧ (((w'.setCell ⟨w.heap.size + 2, 0, none⟩ x).setCell ⟨w.heap.size + 2, 1, none⟩ y).setCell ⟨w.heap.size + 2, 2, none⟩ z).frozen? ⟨w.heap.size + 2, 0, none⟩ = false ∧ (((w'.setCell ⟨w.heap.size + 2, 0, none⟩ x).setCell ⟨w.heap.size + 2, 1, none⟩ y).setCell ⟨w.heap.size + 2, 2, none⟩ z).frozen? ⟨w.heap.size + 2, 1, none⟩ = false ∧ (((w'.setCell ⟨w.heap.size + 2, 0, none⟩ x).setCell ⟨w.heap.size + 2, 1, none⟩ y).setCell ⟨w.heap.size + 2, 2, none⟩ z).frozen? ⟨w.heap.size + 2, 2, none⟩ = false) := by
    intro w' x y z hb
    have e0 := Below.keepOld hb HR0.out
    have e0' : (((w'.setCell ⟨w.heap.size + 2, 0, none⟩ x).setCell ⟨w.heap.size + 2, 1, none⟩ y).setCell ⟨w.heap.size + 2, 2, none⟩ z).heap[w.heap.size]? = some (.cells #[.int .i64 (room : Int), .slice p n c, .int .i64 bad] 48) := by
      rw [heap_setCell_other _ _ _ _ (by simp), heap_setCell_other _ _ _ _ (by simp), heap_setCell_other _ _ _ _ (by simp)]; exact e0
    have e1' := heap_setCell_same _ (w.heap.size + 2) 2 _ _ z (heap_setCell_same _ (w.heap.size + 2) 1 _ _ y (heap_setCell_same _ (w.heap.size + 2) 0 _ _ x (Below.keepOld hb HR2.out)))
    obtain ⟨a0, a1, a2, _, _, _⟩ := rw_cells e0'
    obtain ⟨b0, b1, b2, f0, f1, f2⟩ := rw_cells e1'
    exact ⟨a0, a1, a2, cellOr_eq (by rw [b0]; rfl), cellOr_eq (by rw [b1]; rfl), cellOr_eq (by rw [b2]; rfl), f0, f1, f2⟩
  go_region_held3 (fun w' => w'.cell? ⟨w.heap.size, 0, none⟩ = some (.int .i64 (room : Int)) ∧ w'.cell? ⟨w.heap.size, 1, none⟩ = some (.slice p n c) ∧ w'.cell? ⟨w.heap.size, 2, none⟩ = some (.int .i64 bad) ∧ w'.cell? ⟨w.heap.size + 2, 0, none⟩ = some (cellOr w' ⟨w.heap.size + 2, 0, none⟩) ∧ w'.cell? ⟨w.heap.size + 2, 1, none⟩ = some (cellOr w' ⟨w.heap.size + 2, 1, none⟩) ∧ w'.cell? ⟨w.heap.size + 2, 2, none⟩ = some (cellOr w' ⟨w.heap.size + 2, 2, none⟩) ∧ w'.frozen? ⟨w.heap.size + 2, 0, none⟩ = false ∧ w'.frozen? ⟨w.heap.size + 2, 1, none⟩ = false ∧ w'.frozen? ⟨w.heap.size + 2, 2, none⟩ = false) (first | exact KA.out _ (Below.refl _ _).drew | exact KB.out _ _ _ _ hbx | exact KA.out _ hbx | go_keep)
    ((go_at_call 22; refine (RW.bytes_any room p _ n c 32 32 l o.id bad _ (HBB.out.below (Below.refl _ _).drew) ((bs_of_range HKW.out HLW.out (by omega) (by omega)).below (Below.refl _ _).drew) HROOM.out (by have h1 := HNL.out; omega) (fun a ha => HPP.out a ha)).mono ?_; rintro e w2 ⟨⟨p2, n2, c2, rfl, hs2, hf2⟩, hb2⟩; have hbx := below_of_drew hb2))
  have e1 := Below.keepOld hbx HR2.out
  have e2 := heap_setCell_same _ (w.heap.size + 2) 2 _ _ (.int .i64 (bytesR room l bad o.id).2) (heap_setCell_same _ (w.heap.size + 2) 1 _ _ (.slice p2 n2 c2) (heap_setCell_same _ (w.heap.size + 2) 0 _ _ (.int .i64 (room : Int)) e1))
  have E2 := Lib.hid e2
  have HB2 := Lib.hid hbx
  have HS2 := Lib.hid hs2
  have HF2 := Lib.hid hf2
  clear e1 e2 hb2 hbx hs2 hf2
  go_wp2
  refine bodyPost_ret (results_cell_row rfl _ _ _ _ _ _ _ rfl E2.out Try.underlying48 rfl (by kernel_rfl)) rfl ?_
  obtain ⟨v', hv'⟩ := step_end HX.out.2.2.2.1 HX.out.2.2.2.2 HW.out HP.out HL1.out HB2.out (by rw [HS.out]; exact HS2.out) HF2.out ((((Turns.refl (fun k => k = w.heap.size + 2) w2).setCell (p := ⟨w.heap.size + 2, 0, none⟩) (fun _ => rfl) (.int .i64 (room : Int))).setCell (p := ⟨w.heap.size + 2, 1, none⟩) (fun _ => rfl) (.slice p2 n2 c2)).setCell (p := ⟨w.heap.size + 2, 2, none⟩) (fun _ => rfl) (.int .i64 (bytesR room l bad o.id).2))
  exact ⟨v', p2, n2, c2, by rw [HS.out]; rfl, hv'⟩

set_option maxRecDepth 100000 in
set_option maxHeartbeats 1000000 in
theorem step_hint (room : Nat) (p : Option Addr) (n c : Nat) (l : List UInt8) (bad : Int) (cs : List Value) (o : OpD) (wb : Nat) (v : Value) (w : World) (hw : WAt w wb v room l bad) (hB : Bs w p n c l)
    (hp : ∀ a, p = some a → a.block < w.heap.size ∧ ¬ foot wb v a.block) (hO : ∀ w', Turns (foot wb v) w w' → OpAt w' cs o) (hl : l.length ≤ 1073741824) (ho : o.weight ≤ 1073741824) (hk : o.kind = 3) :
    Calls Try.prog 17 #[.pointer (some ⟨wb, 0, none⟩), rv (room : Int) p n c bad, .agg cs.toArray] w fun e wf => ∃ v' p2 n2 c2, e = .returned (rv (room : Int) p2 n2 c2 (stepS room l bad o).2) ∧ StepLeft wb v room p (stepS room l bad o) w wf v' p2 n2 c2 := by
  have hO0 := hO w (Turns.refl _ _)
  obtain ⟨pb, nb, cb, pl, nl, cl, hlen, h0, h1, h2, h3, h36, hid, _, hI0⟩ := hO0.row
  have g0 : cs[0]'(by omega) = .int .i64 o.kind := by rw [List.getElem?_eq_getElem (by omega)] at h0; exact Option.some.inj h0
  have g1 : cs[1]'(by omega) = .int .i64 o.a := by rw [List.getElem?_eq_getElem (by omega)] at h1; exact Option.some.inj h1
  have g2 : cs[2]'(by omega) = .int .u64 (o.n : Int) := by rw [List.getElem?_eq_getElem (by omega)] at h2; exact Option.some.inj h2
  have g3 : cs[3]'(by omega) = .slice pb nb cb := by rw [List.getElem?_eq_getElem (by omega)] at h3; exact Option.some.inj h3
  have g36 : cs[36]'(by omega) = .slice pl nl cl := by rw [List.getElem?_eq_getElem (by omega)] at h36; exact Option.some.inj h36
  have t0 : (o.kind == 0) = false := by rw [beq_eq_false_iff_ne]; omega
  have t1 : (o.kind == 1) = false := by rw [beq_eq_false_iff_ne]; omega
  have t2 : (o.kind == 2) = false := by rw [beq_eq_false_iff_ne]; omega
  have t3 : (o.kind == 3) = true := by rw [beq_iff_eq]; exact hk
  obtain ⟨aB1, aB2⟩ := hO0.aB
  have nB := hO0.nB
  have HID := Lib.hid hid
  have HIL := Lib.hid hO0.idlen
  have HW := Lib.hid hw
  have HB := Lib.hid hB
  have HP := Lib.hid hp
  have HO := Lib.hid hO
  have HLT := Lib.hid hw.lt
  have HS := Lib.hid (show stepS room l bad o = bytesR room l bad (o.id.take 16) by rw [stepS, if_neg (by omega), if_neg (by omega), if_neg (by omega), if_pos hk])
  have HFIT := Lib.hid hw.fits
  have HNI : Hid (o.ids.length = nl) := hI0.count
  have HROOM := Lib.hid hw.roomy
  have HNL : Hid (n = l.length) := hB.length.symm
  have hX := boxes_rows w room p n c bad cs
  have HX := Lib.hid hX
  have HWT : Hid (o.b.length ≤ 1073741824 ∧ o.ids.length ≤ 33554432) := by unfold OpD.weight at ho; show _ ∧ _; omega
  have HOX : Hid (∀ wk, Turns (foot wb v) (stepBoxes w room p n c bad cs) wk → OpAt wk cs o) := fun wk ht => HO.out wk ((Turns.of_below (S := foot wb v) HX.out.2.2.2.2).trans ht (fun _ _ h => h))
  have HWX : Hid (WAt (stepBoxes w room p n c bad cs) wb v room l bad) := hw.touch (Turns.of_below (S := fun _ => False) HX.out.2.2.2.2) (fun _ _ h => h)
  clear hX hw hB hp hO hO0 h0 h1 h2 h3 h36 hid ho hI0
  have HKX : Hid ((stepBoxes w room p n c bad cs).rangeAt (w.heap.size + 1) 4 (bytesV (o.id.take 16))) := by
    obtain ⟨_, _, _, _, _, _, _, _, _, _, _, kid, _, _, _, _⟩ := op_cells (HOX.out _ (Turns.refl _ _)) HX.out.2.1
    exact range_take kid 16
  have HLW : Hid ((o.id.take 16).length = 16) := by
    have := HIL.out
    show _ = _
    simp [this]
  have hat : ∀ w b (q : Nat), (Instr.arrayAt 60 (.slice (some ⟨b, q, none⟩) 16 32)).run Try.prog w = .ok (.pointer (some ⟨b, q, none⟩)) w := fun w b q => run_arrayAt w _ _ 16 _ 16 32 Try.underlying60 (by omega)
  go_enter Try.func17, Try.ntmps17
  go_wp2_with (refine wpList_load_mid rfl 60 _ rfl (w.heap.size + 1) 4 rfl _ _ HKX.out Try.underlying60 rfl (by rw [bytesV_length, HLW.out]; kernel_rfl) ?_)
  generalize hW2 : ((w.alloc (.cells #[.int .i64 (room : Int), .slice p n c, .int .i64 bad] 48)).alloc (.cells cs.toArray 28)).alloc (.cells #[.int .i64 0, .slice none 0 0, .int .i64 0] 48) = W2
  have HW2 : Hid (stepBoxes w room p n c bad cs = W2) := hW2
  clear hW2
  rw [HW2.out] at HX HWX HOX
  refine (Wr.hint_any (bytesV (o.id.take 16)).toArray (o.id.take 16) rfl HLW.out wb v room l bad W2 HWX.out (by omega)).mono ?_
  rintro e w1 ⟨rfl, hl1⟩
  have HL1 : Hid (Wr.Left wb v room (stepS room l bad o) W2 w1) := by
    show Wr.Left _ _ _ _ _ _
    rw [HS.out]; rw [← show putS room l bad true [(o.id.take 16)] = bytesR room l bad (o.id.take 16) by rw [putS_bytesR _ _ _ _ HFIT.out]; simp]; exact hl1
  have ht1 : Turns (foot wb v) W2 w1 := by obtain ⟨_, _, h, _⟩ := hl1; exact h
  obtain ⟨r0, r1, r2⟩ := step_keep HLT.out (by rw [HW2.out]; exact ht1)
  obtain ⟨c00, c01, c02, _, _, _⟩ := rw_cells r0
  obtain ⟨c20, c21, c22, f20, f21, f22⟩ := rw_cells r2
  obtain ⟨pb', nb', cb', pl', nl', cl', k0, k1, k2, k3, k36, kid, _, _, hBs, hIs⟩ := op_cells (HOX.out _ ht1) r1
  have hnb := hBs.length
  have hnl := hIs.count
  have HBs := Lib.hid hBs
  have HIs := Lib.hid hIs
  have HKID := Lib.hid kid
  have HT1 := Lib.hid ht1
  have HR2 := Lib.hid r2
  have HBB : Hid (Bs w1 p n c l) := (HB.out.below HX.out.2.2.2.2).touch ht1 (fun a ha _ => (HP.out a ha).2)
  have HPP : Hid (∀ a, p = some a → a.block < w1.heap.size) := fun a ha => by have h1 := (HP.out a ha).1; have h2 := ht1.size; have h3 := HX.out.2.2.2.1; omega
  clear hl1 ht1 r0 r1 r2 hBs hIs kid
  go_wp2_with fail
  have HKW : Hid (w1.rangeAt (w.heap.size + 1) 4 (bytesV (o.id.take 16))) := by
    exact range_take HKID.out 16
  have r0 : w1.heap[w.heap.size]? = some (.cells #[.int .i64 (room : Int), .slice p n c, .int .i64 bad] 48 (0, 0)) := (step_keep HLT.out (by rw [HW2.out]; exact HT1.out)).1
  have HR0 := Lib.hid r0
  clear r0
  have KA : Hid (∀ w', Below w1.heap.size w1 w' → w'.cell? ⟨w.heap.size, 0, none⟩ = some (.int .i64 (room : Int)) ∧ w'.cell? ⟨w.heap.size, 1, none⟩ = some (.slice p n c) ∧ w'.cell? ⟨w.heap.size, 2, none⟩ = some (.int .i64 bad) ∧ w'.cell? ⟨w.heap.size + 2, 0, none⟩ = some (cellOr w' ⟨w.heap.size + 2, 0, none⟩) ∧ w'.cell? ⟨w.heap.size + 2, 1, none⟩ = some (cellOr w' ⟨w.heap.size + 2, 1, none⟩) ∧ w'.cell? ⟨w.heap.size + 2, 2, none⟩ = some (cellOr w' ⟨w.heap.size + 2, 2, none⟩) ∧ w'.frozen? ⟨w.heap.size + 2, 0, none⟩ = false ∧ w'.frozen? ⟨w.heap.size + 2, 1, none⟩ = false ∧ w'.frozen? ⟨w.heap.size + 2, 2, none⟩ = false) := by
    intro w' hb
    obtain ⟨a0, a1, a2, _, _, _⟩ := rw_cells (Below.keepOld hb HR0.out)
    obtain ⟨b0, b1, b2, f0, f1, f2⟩ := rw_cells (Below.keepOld hb HR2.out)
    exact ⟨a0, a1, a2, cellOr_eq (by rw [b0]; rfl), cellOr_eq (by rw [b1]; rfl), cellOr_eq (by rw [b2]; rfl), f0, f1, f2⟩
  have KB : Hid (∀ w' x y z, Below w1.heap.size w1 w' → (((w'.setCell ⟨w.heap.size + 2, 0, none⟩ x).setCell ⟨w.heap.size + 2, 1, none⟩ y).setCell ⟨w.heap.size + 2, 2, none⟩ z).cell? ⟨w.heap.size, 0, none⟩ = some (.int .i64 (room : Int)) ∧ (((w'.setCell ⟨w.heap.size + 2, 0, none⟩ x).setCell ⟨w.heap.size + 2, 1, none⟩ y).setCell ⟨w.heap.size + 2, 2, none⟩ z).cell? ⟨w.heap.size, 1, none⟩ = some (.slice p n c) ∧ (((w'.setCell ⟨w.heap.size + 2, 0, none⟩ x).setCell ⟨w.heap.size + 2, 1, none⟩ y).setCell ⟨w.heap.size + 2, 2, none⟩ z).cell? ⟨w.heap.size, 2, none⟩ = some (.int .i64 bad) ∧ (((w'.setCell ⟨w.heap.size + 2, 0, none⟩ x).setCell ⟨w.heap.size + 2, 1, none⟩ y).setCell ⟨w.heap.size + 2, 2, none⟩ z).cell? ⟨w.heap.size + 2, 0, none⟩ = some (cellOr (((w'.setCell ⟨w.heap.size + 2, 0, none⟩ x).setCell ⟨w.heap.size + 2, 1, none⟩ y).setCell ⟨w.heap.size + 2, 2, none⟩ z) ⟨w.heap.size + 2, 0, none⟩) ∧ (((w'.setCell ⟨w.heap.size + 2, 0, none⟩ x).setCell ⟨w.heap.size + 2, 1, none⟩ y).setCell ⟨w.heap.size + 2, 2, none⟩ z).cell? ⟨w.heap.size + 2, 1, none⟩ = some (cellOr (((w'.setCell ⟨w.heap.size + 2, 0, none⟩ x).setCell ⟨w.heap.size + 2, 1, none⟩ y).setCell ⟨w.heap.size + 2, 2, none⟩ z) ⟨w.heap.size + 2, 1, none⟩) ∧ (((w'.setCell ⟨w.heap.size + 2, 0, none⟩ x).setCell ⟨w.heap.size + 2, 1, none⟩ y).setCell ⟨w.heap.size + 2, 2, none⟩ z).cell? ⟨w.heap.size + 2, 2, none⟩ = some (cellOr (((w'.setCell ⟨w.heap.size + 2, 0, none⟩ x).setCell ⟨w.heap.size + 2, 1, none⟩ y).setCell ⟨w.heap.size + 2, 2, none⟩ z) ⟨w.heap.size + 2, 2, none⟩) ∧ (((w'.setCell ⟨w.heap.size + 2, 0, none⟩ x).setCell ⟨w.heap.size + 2, 1, none⟩ y).setCell ⟨w.heap.size + 2, 2, none⟩ z).frozen? ⟨w.heap.size + 2, 0, none⟩ = false ∧ (((w'.setCell ⟨w.heap.size + 2, 0, none⟩ x).setCell ⟨w.heap.size + 2, 1, none⟩ y).setCell ⟨w.heap.size + 2, 2, none⟩ z).frozen? ⟨w.heap.size + 2, 1, none⟩ = false ∧ (((w'.setCell ⟨w.heap.size + 2, 0, none⟩ x).setCell ⟨w.heap.size + 2, 1, none⟩ y).setCell ⟨w.heap.size + 2, 2, none⟩ z).frozen? ⟨w.heap.size + 2, 2, none⟩ = false) := by
    intro w' x y z hb
    have e0 := Below.keepOld hb HR0.out
    have e0' : (((w'.setCell ⟨w.heap.size + 2, 0, none⟩ x).setCell ⟨w.heap.size + 2, 1, none⟩ y).setCell ⟨w.heap.size + 2, 2, none⟩ z).heap[w.heap.size]? = some (.cells #[.int .i64 (room : Int), .slice p n c, .int .i64 bad] 48) := by
      rw [heap_setCell_other _ _ _ _ (by simp), heap_setCell_other _ _ _ _ (by simp), heap_setCell_other _ _ _ _ (by simp)]; exact e0
    have e1' := heap_setCell_same _ (w.heap.size + 2) 2 _ _ z (heap_setCell_same _ (w.heap.size + 2) 1 _ _ y (heap_setCell_same _ (w.heap.size + 2) 0 _ _ x (Below.keepOld hb HR2.out)))
    obtain ⟨a0, a1, a2, _, _, _⟩ := rw_cells e0'
    obtain ⟨b0, b1, b2, f0, f1, f2⟩ := rw_cells e1'
    exact ⟨a0, a1, a2, cellOr_eq (by rw [b0]; rfl), cellOr_eq (by rw [b1]; rfl), cellOr_eq (by rw [b2]; rfl), f0, f1, f2⟩
  go_region_held3 (fun w' => w'.cell? ⟨w.heap.size, 0, none⟩ = some (.int .i64 (room : Int)) ∧ w'.cell? ⟨w.heap.size, 1, none⟩ = some (.slice p n c) ∧ w'.cell? ⟨w.heap.size, 2, none⟩ = some (.int .i64 bad) ∧ w'.cell? ⟨w.heap.size + 2, 0, none⟩ = some (cellOr w' ⟨w.heap.size + 2, 0, none⟩) ∧ w'.cell? ⟨w.heap.size + 2, 1, none⟩ = some (cellOr w' ⟨w.heap.size + 2, 1, none⟩) ∧ w'.cell? ⟨w.heap.size + 2, 2, none⟩ = some (cellOr w' ⟨w.heap.size + 2, 2, none⟩) ∧ w'.frozen? ⟨w.heap.size + 2, 0, none⟩ = false ∧ w'.frozen? ⟨w.heap.size + 2, 1, none⟩ = false ∧ w'.frozen? ⟨w.heap.size + 2, 2, none⟩ = false) (first | exact KA.out _ (Below.refl _ _).drew | exact KB.out _ _ _ _ hbx | exact KA.out _ hbx | go_keep)
    ((go_at_call 22; refine (RW.bytes_any room p _ n c 16 32 l (o.id.take 16) bad _ (HBB.out.below (Below.refl _ _).drew) ((bs_of_range HKW.out HLW.out (by omega) (by omega)).below (Below.refl _ _).drew) HROOM.out (by have h1 := HNL.out; omega) (fun a ha => HPP.out a ha)).mono ?_; rintro e w2 ⟨⟨p2, n2, c2, rfl, hs2, hf2⟩, hb2⟩; have hbx := below_of_drew hb2))
  have e1 := Below.keepOld hbx HR2.out
  have e2 := heap_setCell_same _ (w.heap.size + 2) 2 _ _ (.int .i64 (bytesR room l bad (o.id.take 16)).2) (heap_setCell_same _ (w.heap.size + 2) 1 _ _ (.slice p2 n2 c2) (heap_setCell_same _ (w.heap.size + 2) 0 _ _ (.int .i64 (room : Int)) e1))
  have E2 := Lib.hid e2
  have HB2 := Lib.hid hbx
  have HS2 := Lib.hid hs2
  have HF2 := Lib.hid hf2
  clear e1 e2 hb2 hbx hs2 hf2
  go_wp2
  refine bodyPost_ret (results_cell_row rfl _ _ _ _ _ _ _ rfl E2.out Try.underlying48 rfl (by kernel_rfl)) rfl ?_
  obtain ⟨v', hv'⟩ := step_end HX.out.2.2.2.1 HX.out.2.2.2.2 HW.out HP.out HL1.out HB2.out (by rw [HS.out]; exact HS2.out) HF2.out ((((Turns.refl (fun k => k = w.heap.size + 2) w2).setCell (p := ⟨w.heap.size + 2, 0, none⟩) (fun _ => rfl) (.int .i64 (room : Int))).setCell (p := ⟨w.heap.size + 2, 1, none⟩) (fun _ => rfl) (.slice p2 n2 c2)).setCell (p := ⟨w.heap.size + 2, 2, none⟩) (fun _ => rfl) (.int .i64 (bytesR room l bad (o.id.take 16)).2))
  exact ⟨v', p2, n2, c2, by rw [HS.out]; rfl, hv'⟩

theorem step_any (room : Nat) (p : Option Addr) (n c : Nat) (l : List UInt8) (bad : Int) (cs : List Value) (o : OpD) (wb : Nat) (v : Value) (w : World) (hw : WAt w wb v room l bad) (hB : Bs w p n c l)
    (hp : ∀ a, p = some a → a.block < w.heap.size ∧ ¬ foot wb v a.block) (hO : ∀ w', Turns (foot wb v) w w' → OpAt w' cs o) (hl : l.length ≤ 1073741824) (ho : o.weight ≤ 1073741824) :
    Calls Try.prog 17 #[.pointer (some ⟨wb, 0, none⟩), rv (room : Int) p n c bad, .agg cs.toArray] w fun e wf => ∃ v' p2 n2 c2, e = .returned (rv (room : Int) p2 n2 c2 (stepS room l bad o).2) ∧ StepLeft wb v room p (stepS room l bad o) w wf v' p2 n2 c2 := by
  by_cases h0 : o.kind = 0
  · exact step_num room p n c l bad cs o wb v w hw hB hp hO hl ho h0
  by_cases h1 : o.kind = 1
  · exact step_bytes room p n c l bad cs o wb v w hw hB hp hO hl ho h1
  by_cases h2 : o.kind = 2
  · exact step_id room p n c l bad cs o wb v w hw hB hp hO hl ho h2
  by_cases h3 : o.kind = 3
  · exact step_hint room p n c l bad cs o wb v w hw hB hp hO hl ho h3
  by_cases h4 : o.kind = 4
  · exact step_ids room p n c l bad cs o wb v w hw hB hp hO hl ho h4
  exact step_fail room p n c l bad cs o wb v w hw hB hp hO hl ho ⟨h0, h1, h2, h3, h4⟩

theorem bytesR_len (room : Nat) (l : List UInt8) (bad : Int) (b : List UInt8) : (bytesR room l bad b).1.length ≤ l.length + b.length := by
  unfold bytesR
  split
  · split
    · simp
    · simp
  · simp
theorem flat32 : ∀ (ids : List (List UInt8)), (∀ x ∈ ids, x.length = 32) → ids.flatten.length = 32 * ids.length
  | [], _ => rfl
  | x :: r, h => by
    have h1 := h x (by simp)
    have h2 := flat32 r (fun y hy => h y (by simp [hy]))
    simp only [List.flatten_cons, List.length_append, List.length_cons]; omega
theorem stepS_len {w : World} {cs : List Value} (room : Nat) (l : List UInt8) (bad : Int) (o : OpD) (h : OpAt w cs o) : (stepS room l bad o).1.length ≤ l.length + o.weight + 32 := by
  obtain ⟨_, _, _, _, _, _, _, _, _, _, _, _, _, _, hI⟩ := h.row
  have hf := flat32 o.ids hI.each
  have hid := h.idlen
  unfold stepS OpD.weight
  split
  · unfold numR
    split
    · have := bytesR_len room l bad (be o.n o.a.toNat)
      rw [be_length] at this
      omega
    · simp; omega
  split
  · have := bytesR_len room l bad o.b; omega
  split
  · have := bytesR_len room l bad o.id; omega
  split
  · have := bytesR_len room l bad (o.id.take 16); rw [List.length_take] at this; omega
  split
  · have := bytesR_len room l bad o.ids.flatten; omega
  · simp; omega

end Go.Proofs.Ythgaadnbmiekkaa.W10
