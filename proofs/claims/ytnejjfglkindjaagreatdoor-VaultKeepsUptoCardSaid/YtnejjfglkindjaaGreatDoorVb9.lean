/- PARTS, JOINED: SLOTS: Put. Conditions: sizes and steps that fit. -/
import Derived.Test.YtnejjfglkindjaaGreatDoorVb1
import Derived.Test.YtnejjfglkindjaaGreatDoorVb2
import Derived.Test.YtnejjfglkindjaaGreatDoorVb3
import Derived.Test.YtnejjfglkindjaaGreatDoorVb4
import Derived.Test.YtnejjfglkindjaaGreatDoorVb5
import Derived.Test.YtnejjfglkindjaaGreatDoorVb6
import Derived.Test.YtnejjfglkindjaaGreatDoorVb7
import Derived.Test.YtnejjfglkindjaaGreatDoorVb8
namespace Go.Proofs.YtnejjfglkindjaaGreatDoor.Slt
open Go.RowKit Go.Mir Go.Mir.Parts Dk Rol Wr
open Frm (frame)

def SPutP (base sb db a b : Nat) (d : DD) (s : SS) (x : List UInt8) (w : World) (e : Ending) (w' : World) : Prop := e = .returned (.int .i64 (putSE d s a b x)) ∧ SX base sb db a b (putSD d s a b x) (putSS d s a b x) w' ∧ KS base w w'
/-- slots stay where one cell of another kind is stored -/
theorem SX.off {base sb db a b z : Nat} {d : DD} {s : SS} {w w' : World} {M : Array Value} {t : TypeId} {fr : Nat × Nat} (h : SX base sb db a b d s w) (hT : Turns (fun k => k = z) w w') (hz : w.heap[z]? = some (.cells M t fr)) (h1 : t ≠ 105) (h2 : t ≠ 165) (h3 : t ≠ 133) (h4 : t ≠ 5) (h5 : t ≠ 23) : SX base sb db a b d s w' := by
  obtain ⟨pb, cb, bx, r1, r2, r3⟩ := h.row
  have ne : ∀ k M' t' fr', w.heap[k]? = some (.cells M' t' fr') → t' ≠ t → k ≠ z := fun k M' t' fr' hk ht e => by
    rw [e, hz] at hk
    injection hk with q1
    injection q1 with _ q2
    exact ht q2.symm
  refine ⟨dx_turn h.dx hT (fun k M' t' fr' hk hm => ?_), h.low, ⟨pb, cb, bx, hT.keep r1 (ne _ _ _ _ r1 (Ne.symm h3)), r2.touch hT (fun k M' fr' hm hk => ne k _ _ _ hm (Ne.symm h4) hk), hT.keep r3 (ne _ _ _ _ r3 (Ne.symm h5))⟩, h.turn, h.now⟩
  have hk : k = z := hk
  subst hk
  rw [hz] at hm
  injection hm with q1
  injection q1 with _ q2
  subst q2
  exact ⟨h1, h2, h4⟩
theorem put_eqs {d : DD} {s : SS} {a b FI : Nat} {x FR : List UInt8} {L : List LA} (hf : fits s x = true) (hn : nxt s a b = FI) (hw : wrapB s x = FR) (hl : acts d FI FR = L) : putSE d s a b x = layE FI L d ∧ putSD d s a b x = layD FI L d ∧ putSS d s a b x = if layE FI L d = 0 then ⟨(FI : Int), s.turn + 1, x⟩ else s := by
  unfold putSE putSD putSS
  rw [hn, hw, hl, if_pos hf, if_pos hf]
  refine ⟨rfl, rfl, ?_⟩
  by_cases h : layE FI L d = 0
  · rw [if_pos h, if_pos ⟨hf, h⟩]
  · rw [if_neg h, if_neg (fun hh => h hh.2)]
set_option maxRecDepth 100000 in
set_option maxHeartbeats 25600000 in
theorem sput_any {base sb db a b N : Nat} {d : DD} {s : SS} (w : World) (h : SX base sb db a b d s w) (ha : a < 3) (hb : b < 3) (p : Option Addr) (c : Nat) (x : List UInt8) (hK : ∀ w', KT base w w' → Bs w' p x.length c x) (hx : x.length ≤ 3000) (hN : N ≤ 4398046000000) (hfew : ∀ j, (fD d j).steps.length ≤ N) :
    Calls Tryz.prog 42 #[.pointer (some ⟨sb, 0, none⟩), .slice p x.length c] w (SPutP base sb db a b d s x w) := by
  have hal := Below.allocs w (.cells #[.pointer (some ⟨sb, 0, none⟩)] 29)
  have hr1 := heap_alloc_last w (.cells #[.pointer (some ⟨sb, 0, none⟩)] 29)
  have HS1 := Lib.hid (h.below hal)
  have HBB : Hid (base ≤ w.heap.size) := h.dx.1
  have HR1 := Lib.hid hr1
  have HK := Lib.hid hK
  have HB1 := Lib.hid hal
  have HXL := Lib.hid hx
  have HNN := Lib.hid hN
  have HFW := Lib.hid hfew
  have HA := Lib.hid ha
  have HB := Lib.hid hb
  have hcs : (w.alloc (.cells #[.pointer (some ⟨sb, 0, none⟩)] 29)).cell? ⟨w.heap.size, 0, none⟩ = some (.pointer (some ⟨sb, 0, none⟩)) := by rw [cell_of_row _ _ _ _ _ _ hr1]; rfl
  clear h hK hal hr1 hx hN hfew ha hb
  go_enter Tryz.func42, Tryz.ntmps42
  go_upto_region 1 with fail
  generalize w.alloc (.cells #[.pointer (some ⟨sb, 0, none⟩)] 29) = w1 at *
  have HN1 := Lib.hid (none_any w1 HS1.out)
  go_wp2_with fail
  refine HN1.out.mono ?_
  rintro e w' ⟨rfl, rfl⟩
  obtain ⟨pb, cb, bx, hrd, hbx, hrow⟩ := HS1.out.cells
  obtain ⟨c0, c1, c2, c3, c4, c5, c6⟩ := slA_cells hrow
  have HROW := Lib.hid hrow
  clear hrd hbx hrow HN1 c5 c6
  by_cases ht : s.turn + 1 < 18446744073709551616
  · have hw : IntKind.u64.wrap ((s.turn : Int) + 1) = ((s.turn + 1 : Nat) : Int) := by rw [IntKind.wrap_u64]; omega
    have HWR := Lib.hid (wrap_any (s.turn + 1) ht p c x w1 (HK.out w1 (KT.of_below HB1.out)) HXL.out)
    have hne : (((s.turn + 1 : Nat) : Int) == 0) = false := by rw [beq_eq_false_iff_ne]; omega
    have HT := Lib.hid ht
    clear ht
    obtain ⟨TN, hTN⟩ : ∃ TN, s.turn + 1 = TN := ⟨_, rfl⟩
    rw [hTN] at hw hne HWR HT
    have HTN := Lib.hid hTN
    clear hTN
    obtain ⟨FR, hFR⟩ : ∃ FR, frame (be TN 8 ++ x) = FR := ⟨_, rfl⟩
    rw [hFR] at HWR
    have HWB : Hid (wrapB s x = FR) := by show _ = _; unfold wrapB; rw [HTN.out]; exact hFR
    have HFIT : Hid (fits s x = true) := by show _ = _; unfold fits; rw [decide_eq_true (show x.length ≤ 65528 by have := HXL.out; omega), decide_eq_true (show s.turn + 1 < 18446744073709551616 by have := HTN.out; have := HT.out; omega)]; rfl
    have HFL : Hid (FR.length ≤ 140737488355328) := by show _ ≤ _; rw [← hFR, Frm.frame_length, List.length_append, be_length]; have := HXL.out; omega
    clear hFR
    go_wp2_with fail
    refine HWR.out.mono ?_
    rintro e w2 ⟨p2, cw, rfl, ho2, hb2⟩
    have HO2 := Lib.hid ho2
    have HB2 := Lib.hid hb2
    clear ho2 hb2 HWR
    clear c0 c1 c2 c3 c4 hcs
    go_upto_region 4 with fail
    have hal := Below.allocs w2 (.cells #[.slice p2 FR.length cw] 22)
    have hb13 := HB2.out.trans (hal.mono HB2.out.size)
    have HBX3 := Lib.hid (heap_alloc_last w2 (.cells #[.slice p2 FR.length cw] 22))
    have HRD3 : Hid (Rd (w2.alloc (.cells #[.slice p2 FR.length cw] 22)) base (.slice p2 FR.length cw) FR) := ((Rd.of_own HO2.out).base (Nat.le_trans HBB.out HB1.out.size)).below hal
    have HS3 := Lib.hid (HS1.out.below hb13)
    have HR3 := Lib.hid (Below.keepOld hb13 HROW.out)
    have HE3 := Lib.hid (Below.keepOld hb13 HR1.out)
    have HB3 := Lib.hid (HB1.out.trans (hb13.mono HB1.out.size))
    have HG3 : Hid (w.heap.size ≤ w2.heap.size) := Nat.le_trans HB1.out.size HB2.out.size
    clear hal hb13 HO2 HB2 HS1 HROW HR1 HB1
    generalize w2.alloc (.cells #[.slice p2 FR.length cw] 22) = w3 at *
    generalize w2.heap.size = bb at *
    obtain ⟨c0, c1, c2', c3, c4, c5, c6⟩ := slA_cells HR3.out
    clear c5 c6
    have hcs : w3.cell? ⟨w.heap.size, 0, none⟩ = some (.pointer (some ⟨sb, 0, none⟩)) := by rw [cell_of_row _ _ _ _ _ _ HE3.out]; rfl
    go_upto_region 7 with fail
    have hal := Below.allocs w3 (.cells #[.int .i64 (a : Int)] 3)
    have HBF4 := Lib.hid (heap_alloc_last w3 (.cells #[.int .i64 (a : Int)] 3))
    have HBX4 := Lib.hid (Below.keepOld hal HBX3.out)
    have HRD4 := Lib.hid (HRD3.out.below hal)
    have HS4 := Lib.hid (HS3.out.below hal)
    have HR4 := Lib.hid (Below.keepOld hal HR3.out)
    have HE4 := Lib.hid (Below.keepOld hal HE3.out)
    have HB4 := Lib.hid (HB3.out.trans (hal.mono HB3.out.size))
    have HG4 : Hid (w.heap.size ≤ w3.heap.size) := HB3.out.size
    have HSB4 : Hid (sb < w3.heap.size) := (Array.getElem?_eq_some_iff.1 HR3.out).1
    have HBB4 : Hid (bb < w3.heap.size) := (Array.getElem?_eq_some_iff.1 HBX3.out).1
    have HBS4 : Hid (w.heap.size < w3.heap.size) := (Array.getElem?_eq_some_iff.1 HE3.out).1
    clear hal c0 c1 c2' c3 c4 hcs HBX3 HRD3 HS3 HR3 HE3 HB3 HG3
    generalize w3.alloc (.cells #[.int .i64 (a : Int)] 3) = w4 at *
    generalize w3.heap.size = bf at *
    obtain ⟨c0, c1, c2', c3, c4, c5, c6⟩ := slA_cells HR4.out
    clear c5 c6
    have hcs : w4.cell? ⟨w.heap.size, 0, none⟩ = some (.pointer (some ⟨sb, 0, none⟩)) := by rw [cell_of_row _ _ _ _ _ _ HE4.out]; rfl
    have hcf : w4.cell? ⟨bf, 0, none⟩ = some (.int .i64 (a : Int)) := by rw [cell_of_row _ _ _ _ _ _ HBF4.out]; rfl
    have HC3 : Hid (∀ w', Below w4.heap.size w4 w' → w'.cell? ⟨sb, 3, none⟩ = some (.int .i64 s.now)) := fun w' hk => (slA_cells (Below.keepOld hk HR4.out)).2.2.2.1
    have HCS : Hid (∀ w', Below w4.heap.size w4 w' → w'.cell? ⟨w.heap.size, 0, none⟩ = some (.pointer (some ⟨sb, 0, none⟩))) := fun w' hk => by rw [cell_of_row _ _ _ _ _ _ (Below.keepOld hk HE4.out)]; rfl
    have HCF : Hid (∀ w', Below w4.heap.size w4 w' → w'.cell? ⟨bf, 0, none⟩ = some (.int .i64 (a : Int))) := fun w' hk => by rw [cell_of_row _ _ _ _ _ _ (Below.keepOld hk HBF4.out)]; rfl
    by_cases hnow : s.now = (a : Int)
    · have hq : (s.now == (a : Int)) = true := beq_iff_eq.2 hnow
      have HNX : Hid (nxt s a b = b) := if_pos hnow
      clear hnow
      refine wp_region_eager [(0, true), (1, true), (2, true), (3, true), (4, true), (5, true)] (by kernel_rfl) (by kernel_rfl) (eagerOpen rfl ?_)
      have hy0 : Below w4.heap.size w4 w4.drew := below_drew1 _ _
      repeat (first
        | (first | (apply wpEager_take; (· rfl); (· (intro w' hb'; go_simp; try with_reducible rfl)); (try simp only [Act.put, List.setIfInBounds_toArray, List.set_cons_zero, List.set_cons_succ]); (try refine eagerOpen rfl ?_)) | (refine wpEager_skip (by rfl) ?_; (try simp only [Act.put, List.setIfInBounds_toArray, List.set_cons_zero, List.set_cons_succ]); (try refine eagerOpen rfl ?_)) | (refine wpEager_off (by rfl) ?_; (try simp only [Act.put, List.setIfInBounds_toArray, List.set_cons_zero, List.set_cons_succ]); (try refine eagerOpen rfl ?_)))
        | (apply wpEager_take; (· rfl); (· (intro w' hb'; have hk' := (fun w' hb => HC3.out w' hb) w' hb'; go_split_ands; go_simp; try with_reducible rfl)); (try simp only [Act.put, List.setIfInBounds_toArray, List.set_cons_zero, List.set_cons_succ]); (try refine eagerOpen rfl ?_))
        | (apply wpEager_take; (· rfl); (· (intro w' hb'; have hk' := (fun w' hb => HCS.out w' hb) w' hb'; go_split_ands; go_simp; try with_reducible rfl)); (try simp only [Act.put, List.setIfInBounds_toArray, List.set_cons_zero, List.set_cons_succ]); (try refine eagerOpen rfl ?_))
        | (apply wpEager_take; (· rfl); (· (intro w' hb'; have hk' := (fun w' hb => HCF.out w' hb) w' hb'; go_split_ands; go_simp; try with_reducible rfl)); (try simp only [Act.put, List.setIfInBounds_toArray, List.set_cons_zero, List.set_cons_succ]); (try refine eagerOpen rfl ?_)))
      refine eagerEnd ?_
      have HE5 := Lib.hid (Below.keepOld hy0 HE4.out)
      have HBF5 := Lib.hid (Below.keepOld hy0 HBF4.out)
      have HBX5 := Lib.hid (Below.keepOld hy0 HBX4.out)
      have HRD5 := Lib.hid (HRD4.out.below hy0)
      have HS5 := Lib.hid (HS4.out.below hy0)
      have HR5 := Lib.hid (Below.keepOld hy0 HR4.out)
      have HB5 := Lib.hid (HB4.out.trans (hy0.mono HB4.out.size))
      clear hy0 c0 c1 c2' c3 c4 hcs hcf HC3 HCS HCF HE4 HBF4 HBX4 HRD4 HS4 HR4 HB4
      generalize w4.drew = w5 at *
      obtain ⟨c0, c1, c2', c3, c4, c5, c6⟩ := slA_cells HR5.out
      have hcs : w5.cell? ⟨w.heap.size, 0, none⟩ = some (.pointer (some ⟨sb, 0, none⟩)) := by rw [cell_of_row _ _ _ _ _ _ HE5.out]; rfl
      have hcf : w5.cell? ⟨bf, 0, none⟩ = some (.int .i64 (a : Int)) := by rw [cell_of_row _ _ _ _ _ _ HBF5.out]; rfl
      have hfz : ∀ j, w5.frozen? ⟨bf, j, none⟩ = false := fun j => frozen_of_row _ _ _ _ _ HBF5.out
      clear c5 c6
      go_upto_region 9 with fail
      have hT : Turns (fun k => k = bf) w5 (w5.setCell ⟨bf, 0, none⟩ (.int .i64 (b : Int))) := Turns.setCell (S := fun k => k = bf) (p := ⟨bf, 0, none⟩) (Turns.refl _ w5) (fun _ => rfl) _
      have HBF6 : Hid ((w5.setCell ⟨bf, 0, none⟩ (.int .i64 (b : Int))).heap[bf]? = some (.cells #[.int .i64 (b : Int)] 3 (0, 0))) := Dk.cell_put (off := 0) (.int .i64 (b : Int)) HBF5.out
      have HS6 := Lib.hid (HS5.out.off hT HBF5.out (by decide) (by decide) (by decide) (by decide) (by decide))
      have HE6 := Lib.hid (hT.keep HE5.out (by have := HBS4.out; show ¬ w.heap.size = bf; omega))
      have HBX6 := Lib.hid (hT.keep HBX5.out (by have := HBB4.out; show ¬ bb = bf; omega))
      have HR6 := Lib.hid (hT.keep HR5.out (by have := HSB4.out; show ¬ sb = bf; omega))
      have HRD6 : Hid (Rd (w5.setCell ⟨bf, 0, none⟩ (.int .i64 (b : Int))) base (.slice p2 FR.length cw) FR) := HRD5.out.touch hT (fun k M fr hm hk => by
        have hk : k = bf := hk
        rw [hk, HBF5.out] at hm
        injection hm with q1
        injection q1 with _ q2
        exact absurd q2 (by decide))
      have HB6 := Lib.hid (HB5.out.trans (hT.below HB5.out.size (fun i hi => by have hi : i = bf := hi; have := HG4.out; omega)))
      have HFI := Lib.hid HB.out
      clear hT HBF5 HS5 HE5 HBX5 HR5 HRD5 HB5 c0 c1 c2' c3 c4 hcs hcf hfz
      generalize w5.setCell ⟨bf, 0, none⟩ (.int .i64 (b : Int)) = w6 at *
      skip
      -- the functions are made, and it is asked whether the file is to be cut first: world w6, file b
      have HSZ := Lib.hid (fun y (hy : Below w6.heap.size w6 y) => xsize y (HS6.out.dx.below hy) b HFI.out)
      have HUN := Lib.hid (fun y (hy : Below w6.heap.size w6 y) => xunits y (HS6.out.dx.below hy) b HFI.out)
      have HC0 : Hid (∀ w', Below w6.heap.size w6 w' → w'.cell? ⟨sb, 0, none⟩ = some (.pointer (some ⟨db, 0, none⟩))) := fun w' hk => (slA_cells (Below.keepOld hk HR6.out)).1
      have HCS : Hid (∀ w', Below w6.heap.size w6 w' → w'.cell? ⟨w.heap.size, 0, none⟩ = some (.pointer (some ⟨sb, 0, none⟩))) := fun w' hk => by rw [cell_of_row _ _ _ _ _ _ (Below.keepOld hk HE6.out)]; rfl
      have HCF : Hid (∀ w', Below w6.heap.size w6 w' → w'.cell? ⟨bf, 0, none⟩ = some (.int .i64 (b : Int))) := fun w' hk => by rw [cell_of_row _ _ _ _ _ _ (Below.keepOld hk HBF6.out)]; rfl
      have hmf : ∀ (fn : Fn) (first cap : Array Value) (w : World), (Instr.makeFunc fn first cap).run Tryz.prog w = .ok (.func fn first cap) w := fun _ _ _ _ => rfl
      by_cases hlen : 0 < (fD d b).now.length
      · have hd1 : decide ((0 : Int) < ((fD d b).now.length : Int)) = true := decide_eq_true (by omega)
        have hd2 : decide (0 < (fD d b).now.length) = true := decide_eq_true hlen
        have HFU : Hid (full d b = true) := by show _ = _; unfold full; rw [hd2]; rfl
        clear hlen
        go_upto_region 12 with fail
        refine wp_region_eager [(0, true), (1, true), (2, true), (3, true), (4, true), (5, false), (6, true), (7, true), (8, true), (9, true), (10, true), (11, true), (12, true), (13, false), (14, true), (15, true)] (by kernel_rfl) (by kernel_rfl) (eagerOpen rfl ?_)
        have hy0 : Below w6.heap.size w6 w6.drew := below_drew1 _ _
        repeat (first
          | (first | (apply wpEager_take; (· rfl); (· (intro w' hb'; go_simp; try with_reducible rfl)); (try simp only [Act.put, List.setIfInBounds_toArray, List.set_cons_zero, List.set_cons_succ]); (try refine eagerOpen rfl ?_)) | (refine wpEager_skip (by rfl) ?_; (try simp only [Act.put, List.setIfInBounds_toArray, List.set_cons_zero, List.set_cons_succ]); (try refine eagerOpen rfl ?_)) | (refine wpEager_off (by rfl) ?_; (try simp only [Act.put, List.setIfInBounds_toArray, List.set_cons_zero, List.set_cons_succ]); (try refine eagerOpen rfl ?_)))
          | (apply wpEager_take; (· rfl); (· (intro w' hb'; have hk' := (fun w' hb => HC0.out w' hb) w' hb'; go_split_ands; go_simp; try with_reducible rfl)); (try simp only [Act.put, List.setIfInBounds_toArray, List.set_cons_zero, List.set_cons_succ]); (try refine eagerOpen rfl ?_))
          | (apply wpEager_take; (· rfl); (· (intro w' hb'; have hk' := (fun w' hb => HCS.out w' hb) w' hb'; go_split_ands; go_simp; try with_reducible rfl)); (try simp only [Act.put, List.setIfInBounds_toArray, List.set_cons_zero, List.set_cons_succ]); (try refine eagerOpen rfl ?_))
          | (apply wpEager_take; (· rfl); (· (intro w' hb'; have hk' := (fun w' hb => HCF.out w' hb) w' hb'; go_split_ands; go_simp; try with_reducible rfl)); (try simp only [Act.put, List.setIfInBounds_toArray, List.set_cons_zero, List.set_cons_succ]); (try refine eagerOpen rfl ?_)))
        (refine wpEager_op (by rfl) (fun K hK => ?_); go_simp; (refine (HSZ.out _ hy0).mono ?_; rintro e y ⟨rfl, hb⟩; have hy1 := hy0.trans hb); refine Shut.out hK _ _ (by assumption) ?_; clear hK K; (try simp only [Act.put, List.setIfInBounds_toArray, List.set_cons_zero, List.set_cons_succ]); (try refine eagerOpen rfl ?_))
        repeat (first
          | (first | (apply wpEager_take; (· rfl); (· (intro w' hb'; go_simp; try with_reducible rfl)); (try simp only [Act.put, List.setIfInBounds_toArray, List.set_cons_zero, List.set_cons_succ]); (try refine eagerOpen rfl ?_)) | (refine wpEager_skip (by rfl) ?_; (try simp only [Act.put, List.setIfInBounds_toArray, List.set_cons_zero, List.set_cons_succ]); (try refine eagerOpen rfl ?_)) | (refine wpEager_off (by rfl) ?_; (try simp only [Act.put, List.setIfInBounds_toArray, List.set_cons_zero, List.set_cons_succ]); (try refine eagerOpen rfl ?_))))
        refine eagerEnd ?_
        have HY := Lib.hid hy1
        have HLQ : Hid (acts d b FR = [.cut, .sync, .put FR, .sync]) := by show _ = _; unfold acts; rw [if_pos HFU.out]
        clear hb hy0 hy1 hd1 hd2 HFU
        skip
        -- what was asked is known: world y, Below w6 y (HY), the calls ([.cut, .sync, .put FR, .sync] : List LA), HLL : acts d b FR = ([.cut, .sync, .put FR, .sync] : List LA)
        have hrw := heap_alloc_last y (.cells (([.cut, .sync, .put FR, .sync] : List LA).map (fnV w.heap.size bf bb)).toArray 99)
        have hal := Below.allocs y (.cells (([.cut, .sync, .put FR, .sync] : List LA).map (fnV w.heap.size bf bb)).toArray 99)
        have hb8 := HY.out.trans (hal.mono HY.out.size)
        have HS8 := Lib.hid (HS6.out.below hb8)
        have HB8 := Lib.hid (HB6.out.trans (hb8.mono HB6.out.size))
        have hev : Env base sb db w.heap.size bf bb b FR (y.alloc (.cells (([.cut, .sync, .put FR, .sync] : List LA).map (fnV w.heap.size bf bb)).toArray 99)) := ⟨Below.keepOld hb8 HE6.out, Below.keepOld hb8 HBF6.out, ⟨p2, cw, Below.keepOld hb8 HBX6.out, HRD6.out.below hb8⟩, ⟨_, Below.keepOld hb8 HR6.out, rfl⟩⟩
        have HEV8 := Lib.hid hev
        have HLY := Lib.hid (lay_any (gl := y.heap.size) (N := N) ([.cut, .sync, .put FR, .sync] : List LA) _ HFI.out hev HS8.out.dx (by simp) (by simp) HFL.out HNN.out HFW.out hrw)
        clear hrw hal hb8 hev HY HC0 HCS HCF HSZ HUN HE6 HBF6 HBX6 HRD6 HR6 HS6 HB6
        go_wp2_with fail
        refine HLY.out.mono ?_
        rintro e w9 ⟨rfl, hdx, hkt⟩
        obtain ⟨PE, PD, PS⟩ := put_eqs HFIT.out HNX.out HWB.out HLQ.out
        have HPE := Lib.hid PE
        have HPD := Lib.hid PD
        have HPS := Lib.hid PS
        have HS9 := Lib.hid (HS8.out.kt hkt hdx)
        have HK9 := Lib.hid ((KS.of_below HB8.out).trans (KS.of_kt hkt))
        have HKT9 := Lib.hid ((KT.of_below HB8.out).trans hkt)
        have HEV9 := Lib.hid (HEV8.out.kt hkt)
        clear PE PD PS hdx hkt HLY HS8 HB8 HEV8
        by_cases hE : layE b ([.cut, .sync, .put FR, .sync] : List LA) d = 0
        · have hq0 : (layE b ([.cut, .sync, .put FR, .sync] : List LA) d == 0) = true := beq_iff_eq.2 hE
          skip
          obtain ⟨pb9, cb9, bx9, hrd9, hbx9, hrow9⟩ := HS9.out.cells
          have hn1 : ¬ w.heap.size = sb := fun e => by
            have h9 := HEV9.out.hs
            rw [e, hrow9] at h9
            injection h9 with q1
            injection q1 with _ q2
            exact absurd q2 (by decide)
          have hn2 : ¬ bf = sb := fun e => by
            have h9 := HEV9.out.hf
            rw [e, hrow9] at h9
            injection h9 with q1
            injection q1 with _ q2
            exact absurd q2 (by decide)
          have HT0 : Hid (∀ w', Turns (fun k => k = sb) w9 w' → w'.cell? ⟨w.heap.size, 0, none⟩ = some (.pointer (some ⟨sb, 0, none⟩))) := fun w' ht => by rw [cell_of_row _ _ _ _ _ _ (ht.keep HEV9.out.hs hn1)]; rfl
          have HT1 : Hid (∀ w', Turns (fun k => k = sb) w9 w' → w'.cell? ⟨bf, 0, none⟩ = some (.int .i64 (b : Int))) := fun w' ht => by rw [cell_of_row _ _ _ _ _ _ (ht.keep HEV9.out.hf hn2)]; rfl
          have HROW9 := Lib.hid hrow9
          have HBS9 := Lib.hid (HK.out w9 HKT9.out)
          have HXB : Hid (x.length ≤ 3000) := HXL.out
          have hle9 := HBS9.out.le
          have hmax9 := HBS9.out.max
          have HB9 : Hid (base ≤ w9.heap.size) := HS9.out.dx.1
          have HF9 : Hid (∀ (y : World) (p' : Option Addr) (c' : Nat), SX base sb db a b (layD b ([.cut, .sync, .put FR, .sync] : List LA) d) ⟨(b : Int), TN, x⟩ y → KS base w9 y → SPutP base sb db a b d s x w (.returned (.int .i64 (layE b ([.cut, .sync, .put FR, .sync] : List LA) d))) y) := fun y p' c' h1 h2 => ⟨by rw [HPE.out], by rw [HPD.out, HPS.out, if_pos hE, HTN.out]; exact h1, HK9.out.trans h2⟩
          clear hrd9 hbx9 hrow9 hE HPE HPD HPS
          generalize layE b ([.cut, .sync, .put FR, .sync] : List LA) d = EV at *
          generalize layD b ([.cut, .sync, .put FR, .sync] : List LA) d = DV at *
          go_upto_region 16 with fail
          refine wp_region_tree (Turns (fun k => k = sb) w9) (.take 0 (.take 1 (.take 2 (.take 3 (.take 4 (.take 5 (.take 6 (.take 9 (.two 7 10 (.take 8 (.one 10 (.take 11 (.take 12 (.one 13 (.take 14 (.take 15 (.one 16 (.take 17 (.take 18 (.one 19 .nil))))))))))) (.one 7 (.take 8 (.take 11 (.take 12 (.one 13 (.take 14 (.take 15 (.one 16 (.take 17 (.take 18 (.one 19 .nil)))))))))))))))))))) (by kernel_rfl) (by kernel_rfl) (Turns.of_below (below_drew1 _ _)) ?_
          have hy0 : Below w9.heap.size w9 w9.drew := below_drew1 _ _
          repeat (first
            | (apply tree_take; (· rfl); (· rfl); (· (intro w' hb'; go_simp; try with_reducible rfl)); try simp only [Act.put, List.setIfInBounds_toArray, List.set_cons_zero, List.set_cons_succ])
            | (apply tree_take; (· rfl); (· rfl); (· (intro w' hb'; have hk' := (HT0.out) w' hb'; go_simp; try with_reducible rfl)); try simp only [Act.put, List.setIfInBounds_toArray, List.set_cons_zero, List.set_cons_succ])
            | (apply tree_take; (· rfl); (· rfl); (· (intro w' hb'; have hk' := (HT1.out) w' hb'; go_simp; try with_reducible rfl)); try simp only [Act.put, List.setIfInBounds_toArray, List.set_cons_zero, List.set_cons_succ]))
          have hkb := HBS9.out.below hy0
          refine tree_two ?_ ?_
          · have z7 : w9.drew.cell? ⟨sb, 4, none⟩ = some (.int .u64 (s.turn : Int)) := (slA_cells (Below.keepOld hy0 HROW9.out)).2.2.2.2.1
            refine tree_one rfl (by rfl) (fun K hK => ?_)
            go_simp
            refine Shut.out hK _ _ (Turns.of_below hy0) ?_
            clear hK K z7
            try simp only [Act.put, List.setIfInBounds_toArray, List.set_cons_zero, List.set_cons_succ]
            repeat (apply tree_take; (· rfl); (· rfl); (· (intro w' hb'; go_simp; try with_reducible rfl)); try simp only [Act.put, List.setIfInBounds_toArray, List.set_cons_zero, List.set_cons_succ])
            refine tree_one rfl (by rfl) (fun K hK => oper_of_list rfl ?_)
            refine wpList_append_nx rfl _ _ 22 rfl (base := w9.heap.size) Tryz.underlying22 info8 rfl (by omega) rfl (World.ownsRow_nil _ _ _ _) rfl hkb (bytesV_one _) ⟨by omega, by have := HXB.out; omega⟩ hy0.size ?_
            intro p8 c8 wz ho8 hg8 _ _
            have hbz : Below w9.heap.size w9 wz := hy0.grown hg8 hy0.size (fun k hk => by
              have hk : (Value.slice none 0 0).ownBlock = some k := hk
              simp [Value.ownBlock] at hk)
            refine only_end (Shut.out hK _ _ (Turns.of_below hbz) ?_)
            clear hK K
            try simp only [Act.put, List.setIfInBounds_toArray, List.set_cons_zero, List.set_cons_succ]
            have HOZ : Hid (wz.ownsRow w9.heap.size 5 1 (.slice p8 x.length c8) x.length (bytesV x)) := by
              have h9 := ho8
              rw [Nat.zero_add, List.nil_append] at h9
              exact h9
            clear ho8 hg8
            try rw [Nat.zero_add]
            repeat (apply tree_take; (· rfl); (· rfl); (· (intro w' hb'; go_simp; try with_reducible rfl)); try simp only [Act.put, List.setIfInBounds_toArray, List.set_cons_zero, List.set_cons_succ])
            skip
            have hrz := Below.keepOld hbz HROW9.out
            have hfz : ∀ j, wz.frozen? ⟨sb, j, none⟩ = false := fun j => frozen_of_row _ _ _ _ _ hrz
            obtain ⟨_, _, _, z3, _, _, _⟩ := slA_cells hrz
            have r1 := Dk.cell_put (off := 3) (.int .i64 (b : Int)) hrz
            have r2 := Dk.cell_put (off := 4) (.int .u64 (TN : Int)) r1
            have hfz1 : ∀ j, (wz.setCell ⟨sb, 3, none⟩ (.int .i64 (b : Int))).frozen? ⟨sb, j, none⟩ = false := fun j => frozen_of_row _ _ _ _ _ r1
            have hfz2 : ∀ j, ((wz.setCell ⟨sb, 3, none⟩ (.int .i64 (b : Int))).setCell ⟨sb, 4, none⟩ (.int .u64 (TN : Int))).frozen? ⟨sb, j, none⟩ = false := fun j => frozen_of_row _ _ _ _ _ r2
            have z4 : (wz.setCell ⟨sb, 3, none⟩ (.int .i64 (b : Int))).cell? ⟨sb, 4, none⟩ = some (.int .u64 (s.turn : Int)) := by rw [cell_of_row _ _ _ _ _ _ r1]; rfl
            have z5 : ((wz.setCell ⟨sb, 3, none⟩ (.int .i64 (b : Int))).setCell ⟨sb, 4, none⟩ (.int .u64 (TN : Int))).cell? ⟨sb, 5, none⟩ = some (.slice pb9 s.body.length cb9) := by rw [cell_of_row _ _ _ _ _ _ r2]; rfl
            have t0 : Turns (fun k => k = sb) w9 wz := Turns.of_below hbz
            have t1 : Turns (fun k => k = sb) w9 (wz.setCell ⟨sb, 3, none⟩ (.int .i64 (b : Int))) := Turns.setCell (S := fun k => k = sb) (p := ⟨sb, 3, none⟩) t0 (fun _ => rfl) _
            have t2 : Turns (fun k => k = sb) w9 ((wz.setCell ⟨sb, 3, none⟩ (.int .i64 (b : Int))).setCell ⟨sb, 4, none⟩ (.int .u64 (TN : Int))) := Turns.setCell (S := fun k => k = sb) (p := ⟨sb, 4, none⟩) t1 (fun _ => rfl) _
            have t3 : Turns (fun k => k = sb) w9 (((wz.setCell ⟨sb, 3, none⟩ (.int .i64 (b : Int))).setCell ⟨sb, 4, none⟩ (.int .u64 (TN : Int))).setCell ⟨sb, 5, none⟩ (.slice p8 x.length c8)) := Turns.setCell (S := fun k => k = sb) (p := ⟨sb, 5, none⟩) t2 (fun _ => rfl) _
            have hst := (HS9.out.below hbz).set3 (b : Int) (by have := HFI.out; omega) TN HT.out p8 c8 x ((Rd.of_own HOZ.out).base HB9.out)
            have HEND := Lib.hid (HF9.out _ p8 c8 hst.1 ((KS.of_below hbz).trans hst.2.1))
            clear hst r1 r2 hrz
            refine tree_one rfl (by rfl) (fun K hK => ?_)
            go_simp
            refine Shut.out hK _ _ t1 ?_
            clear hK K
            try simp only [Act.put, List.setIfInBounds_toArray, List.set_cons_zero, List.set_cons_succ]
            (apply tree_take; (· rfl); (· rfl); (· (intro w' hb'; go_simp; try with_reducible rfl)); try simp only [Act.put, List.setIfInBounds_toArray, List.set_cons_zero, List.set_cons_succ])
            (apply tree_take; (· rfl); (· rfl); (· (intro w' hb'; go_simp; try with_reducible rfl)); try simp only [Act.put, List.setIfInBounds_toArray, List.set_cons_zero, List.set_cons_succ])
            refine tree_one rfl (by rfl) (fun K hK => ?_)
            go_simp
            refine Shut.out hK _ _ t2 ?_
            clear hK K
            try simp only [Act.put, List.setIfInBounds_toArray, List.set_cons_zero, List.set_cons_succ]
            (apply tree_take; (· rfl); (· rfl); (· (intro w' hb'; go_simp; try with_reducible rfl)); try simp only [Act.put, List.setIfInBounds_toArray, List.set_cons_zero, List.set_cons_succ])
            (apply tree_take; (· rfl); (· rfl); (· (intro w' hb'; go_simp; try with_reducible rfl)); try simp only [Act.put, List.setIfInBounds_toArray, List.set_cons_zero, List.set_cons_succ])
            refine tree_one rfl (by rfl) (fun K hK => ?_)
            go_simp
            refine Shut.out hK _ _ t3 ?_
            clear hK K
            try simp only [Act.put, List.setIfInBounds_toArray, List.set_cons_zero, List.set_cons_succ]
            refine tree_nil ?_
            clear t0 t1 t2 t3
            go_wp2_with fail
            go_ret
            exact HEND.out
          · refine tree_one rfl (by rfl) (fun K hK => oper_of_list rfl ?_)
            refine wpList_append_nx rfl _ _ 22 rfl (base := w9.heap.size) Tryz.underlying22 info8 rfl (by omega) rfl (World.ownsRow_nil _ _ _ _) rfl hkb (bytesV_one _) ⟨by omega, by have := HXB.out; omega⟩ hy0.size ?_
            intro p8 c8 wz ho8 hg8 _ _
            have hbz : Below w9.heap.size w9 wz := hy0.grown hg8 hy0.size (fun k hk => by
              have hk : (Value.slice none 0 0).ownBlock = some k := hk
              simp [Value.ownBlock] at hk)
            refine only_end (Shut.out hK _ _ (Turns.of_below hbz) ?_)
            clear hK K
            try simp only [Act.put, List.setIfInBounds_toArray, List.set_cons_zero, List.set_cons_succ]
            have HOZ : Hid (wz.ownsRow w9.heap.size 5 1 (.slice p8 x.length c8) x.length (bytesV x)) := by
              have h9 := ho8
              rw [Nat.zero_add, List.nil_append] at h9
              exact h9
            clear ho8 hg8
            try rw [Nat.zero_add]
            have z7 : wz.cell? ⟨sb, 4, none⟩ = some (.int .u64 (s.turn : Int)) := (slA_cells (Below.keepOld hbz HROW9.out)).2.2.2.2.1
            refine tree_one rfl (by rfl) (fun K hK => ?_)
            go_simp
            refine Shut.out hK _ _ (Turns.of_below hbz) ?_
            clear hK K z7
            try simp only [Act.put, List.setIfInBounds_toArray, List.set_cons_zero, List.set_cons_succ]
            repeat (apply tree_take; (· rfl); (· rfl); (· (intro w' hb'; go_simp; try with_reducible rfl)); try simp only [Act.put, List.setIfInBounds_toArray, List.set_cons_zero, List.set_cons_succ])
            skip
            have hrz := Below.keepOld hbz HROW9.out
            have hfz : ∀ j, wz.frozen? ⟨sb, j, none⟩ = false := fun j => frozen_of_row _ _ _ _ _ hrz
            obtain ⟨_, _, _, z3, _, _, _⟩ := slA_cells hrz
            have r1 := Dk.cell_put (off := 3) (.int .i64 (b : Int)) hrz
            have r2 := Dk.cell_put (off := 4) (.int .u64 (TN : Int)) r1
            have hfz1 : ∀ j, (wz.setCell ⟨sb, 3, none⟩ (.int .i64 (b : Int))).frozen? ⟨sb, j, none⟩ = false := fun j => frozen_of_row _ _ _ _ _ r1
            have hfz2 : ∀ j, ((wz.setCell ⟨sb, 3, none⟩ (.int .i64 (b : Int))).setCell ⟨sb, 4, none⟩ (.int .u64 (TN : Int))).frozen? ⟨sb, j, none⟩ = false := fun j => frozen_of_row _ _ _ _ _ r2
            have z4 : (wz.setCell ⟨sb, 3, none⟩ (.int .i64 (b : Int))).cell? ⟨sb, 4, none⟩ = some (.int .u64 (s.turn : Int)) := by rw [cell_of_row _ _ _ _ _ _ r1]; rfl
            have z5 : ((wz.setCell ⟨sb, 3, none⟩ (.int .i64 (b : Int))).setCell ⟨sb, 4, none⟩ (.int .u64 (TN : Int))).cell? ⟨sb, 5, none⟩ = some (.slice pb9 s.body.length cb9) := by rw [cell_of_row _ _ _ _ _ _ r2]; rfl
            have t0 : Turns (fun k => k = sb) w9 wz := Turns.of_below hbz
            have t1 : Turns (fun k => k = sb) w9 (wz.setCell ⟨sb, 3, none⟩ (.int .i64 (b : Int))) := Turns.setCell (S := fun k => k = sb) (p := ⟨sb, 3, none⟩) t0 (fun _ => rfl) _
            have t2 : Turns (fun k => k = sb) w9 ((wz.setCell ⟨sb, 3, none⟩ (.int .i64 (b : Int))).setCell ⟨sb, 4, none⟩ (.int .u64 (TN : Int))) := Turns.setCell (S := fun k => k = sb) (p := ⟨sb, 4, none⟩) t1 (fun _ => rfl) _
            have t3 : Turns (fun k => k = sb) w9 (((wz.setCell ⟨sb, 3, none⟩ (.int .i64 (b : Int))).setCell ⟨sb, 4, none⟩ (.int .u64 (TN : Int))).setCell ⟨sb, 5, none⟩ (.slice p8 x.length c8)) := Turns.setCell (S := fun k => k = sb) (p := ⟨sb, 5, none⟩) t2 (fun _ => rfl) _
            have hst := (HS9.out.below hbz).set3 (b : Int) (by have := HFI.out; omega) TN HT.out p8 c8 x ((Rd.of_own HOZ.out).base HB9.out)
            have HEND := Lib.hid (HF9.out _ p8 c8 hst.1 ((KS.of_below hbz).trans hst.2.1))
            clear hst r1 r2 hrz
            refine tree_one rfl (by rfl) (fun K hK => ?_)
            go_simp
            refine Shut.out hK _ _ t1 ?_
            clear hK K
            try simp only [Act.put, List.setIfInBounds_toArray, List.set_cons_zero, List.set_cons_succ]
            (apply tree_take; (· rfl); (· rfl); (· (intro w' hb'; go_simp; try with_reducible rfl)); try simp only [Act.put, List.setIfInBounds_toArray, List.set_cons_zero, List.set_cons_succ])
            (apply tree_take; (· rfl); (· rfl); (· (intro w' hb'; go_simp; try with_reducible rfl)); try simp only [Act.put, List.setIfInBounds_toArray, List.set_cons_zero, List.set_cons_succ])
            refine tree_one rfl (by rfl) (fun K hK => ?_)
            go_simp
            refine Shut.out hK _ _ t2 ?_
            clear hK K
            try simp only [Act.put, List.setIfInBounds_toArray, List.set_cons_zero, List.set_cons_succ]
            (apply tree_take; (· rfl); (· rfl); (· (intro w' hb'; go_simp; try with_reducible rfl)); try simp only [Act.put, List.setIfInBounds_toArray, List.set_cons_zero, List.set_cons_succ])
            (apply tree_take; (· rfl); (· rfl); (· (intro w' hb'; go_simp; try with_reducible rfl)); try simp only [Act.put, List.setIfInBounds_toArray, List.set_cons_zero, List.set_cons_succ])
            refine tree_one rfl (by rfl) (fun K hK => ?_)
            go_simp
            refine Shut.out hK _ _ t3 ?_
            clear hK K
            try simp only [Act.put, List.setIfInBounds_toArray, List.set_cons_zero, List.set_cons_succ]
            refine tree_nil ?_
            clear t0 t1 t2 t3
            go_wp2_with fail
            go_ret
            exact HEND.out
        · have hq0 : (layE b ([.cut, .sync, .put FR, .sync] : List LA) d == 0) = false := beq_eq_false_iff_ne.2 hE
          have HF1 : Hid (SPutP base sb db a b d s x w (.returned (.int .i64 (layE b ([.cut, .sync, .put FR, .sync] : List LA) d))) w9) := ⟨by rw [HPE.out], by rw [HPD.out, HPS.out, if_neg hE]; exact HS9.out, HK9.out⟩
          clear hE HPE HPD HPS HS9 HK9
          generalize layE b ([.cut, .sync, .put FR, .sync] : List LA) d = EV at *
          go_wp2_with fail
          go_ret
          exact HF1.out
      · have hd1 : decide ((0 : Int) < ((fD d b).now.length : Int)) = false := decide_eq_false (by omega)
        have hd2 : decide (0 < (fD d b).now.length) = false := decide_eq_false hlen
        by_cases hun : 0 < unitsAll (fD d b).steps
        · have hd3 : decide ((0 : Int) < (unitsAll (fD d b).steps : Int)) = true := decide_eq_true (by omega)
          have hd4 : decide (0 < unitsAll (fD d b).steps) = true := decide_eq_true hun
          have HFU : Hid (full d b = true) := by show _ = _; unfold full; rw [hd4, Bool.or_true]
          clear hlen hun
          go_upto_region 12 with fail
          skip
          refine wp_region_eager [(0, true), (1, true), (2, true), (3, true), (4, true), (5, false), (6, true), (7, true), (8, true), (9, true), (10, true), (11, true), (12, true), (13, false), (14, true), (15, true)] (by kernel_rfl) (by kernel_rfl) (eagerOpen rfl ?_)
          have hy0 : Below w6.heap.size w6 w6.drew := below_drew1 _ _
          repeat (first
            | (first | (apply wpEager_take; (· rfl); (· (intro w' hb'; go_simp; try with_reducible rfl)); (try simp only [Act.put, List.setIfInBounds_toArray, List.set_cons_zero, List.set_cons_succ]); (try refine eagerOpen rfl ?_)) | (refine wpEager_skip (by rfl) ?_; (try simp only [Act.put, List.setIfInBounds_toArray, List.set_cons_zero, List.set_cons_succ]); (try refine eagerOpen rfl ?_)) | (refine wpEager_off (by rfl) ?_; (try simp only [Act.put, List.setIfInBounds_toArray, List.set_cons_zero, List.set_cons_succ]); (try refine eagerOpen rfl ?_)))
            | (apply wpEager_take; (· rfl); (· (intro w' hb'; have hk' := (fun w' hb => HC0.out w' hb) w' hb'; go_split_ands; go_simp; try with_reducible rfl)); (try simp only [Act.put, List.setIfInBounds_toArray, List.set_cons_zero, List.set_cons_succ]); (try refine eagerOpen rfl ?_))
            | (apply wpEager_take; (· rfl); (· (intro w' hb'; have hk' := (fun w' hb => HCS.out w' hb) w' hb'; go_split_ands; go_simp; try with_reducible rfl)); (try simp only [Act.put, List.setIfInBounds_toArray, List.set_cons_zero, List.set_cons_succ]); (try refine eagerOpen rfl ?_))
            | (apply wpEager_take; (· rfl); (· (intro w' hb'; have hk' := (fun w' hb => HCF.out w' hb) w' hb'; go_split_ands; go_simp; try with_reducible rfl)); (try simp only [Act.put, List.setIfInBounds_toArray, List.set_cons_zero, List.set_cons_succ]); (try refine eagerOpen rfl ?_)))
          (refine wpEager_op (by rfl) (fun K hK => ?_); go_simp; (refine (HSZ.out _ hy0).mono ?_; rintro e y0 ⟨rfl, hb⟩; have hy1 := hy0.trans hb); refine Shut.out hK _ _ (by assumption) ?_; clear hK K; (try simp only [Act.put, List.setIfInBounds_toArray, List.set_cons_zero, List.set_cons_succ]); (try refine eagerOpen rfl ?_))
          repeat (first
            | (first | (apply wpEager_take; (· rfl); (· (intro w' hb'; go_simp; try with_reducible rfl)); (try simp only [Act.put, List.setIfInBounds_toArray, List.set_cons_zero, List.set_cons_succ]); (try refine eagerOpen rfl ?_)) | (refine wpEager_skip (by rfl) ?_; (try simp only [Act.put, List.setIfInBounds_toArray, List.set_cons_zero, List.set_cons_succ]); (try refine eagerOpen rfl ?_)) | (refine wpEager_off (by rfl) ?_; (try simp only [Act.put, List.setIfInBounds_toArray, List.set_cons_zero, List.set_cons_succ]); (try refine eagerOpen rfl ?_)))
            | (apply wpEager_take; (· rfl); (· (intro w' hb'; have hk' := (fun w' hb => HC0.out w' hb) w' hb'; go_split_ands; go_simp; try with_reducible rfl)); (try simp only [Act.put, List.setIfInBounds_toArray, List.set_cons_zero, List.set_cons_succ]); (try refine eagerOpen rfl ?_))
            | (apply wpEager_take; (· rfl); (· (intro w' hb'; have hk' := (fun w' hb => HCS.out w' hb) w' hb'; go_split_ands; go_simp; try with_reducible rfl)); (try simp only [Act.put, List.setIfInBounds_toArray, List.set_cons_zero, List.set_cons_succ]); (try refine eagerOpen rfl ?_))
            | (apply wpEager_take; (· rfl); (· (intro w' hb'; have hk' := (fun w' hb => HCF.out w' hb) w' hb'; go_split_ands; go_simp; try with_reducible rfl)); (try simp only [Act.put, List.setIfInBounds_toArray, List.set_cons_zero, List.set_cons_succ]); (try refine eagerOpen rfl ?_)))
          (refine wpEager_op (by rfl) (fun K hK => ?_); go_simp; (refine (HUN.out _ hy1).mono ?_; rintro e y ⟨rfl, hb2⟩; have hy2 := hy1.trans (hb2.mono hy1.size)); refine Shut.out hK _ _ (by assumption) ?_; clear hK K; (try simp only [Act.put, List.setIfInBounds_toArray, List.set_cons_zero, List.set_cons_succ]); (try refine eagerOpen rfl ?_))
          repeat (first
            | (first | (apply wpEager_take; (· rfl); (· (intro w' hb'; go_simp; try with_reducible rfl)); (try simp only [Act.put, List.setIfInBounds_toArray, List.set_cons_zero, List.set_cons_succ]); (try refine eagerOpen rfl ?_)) | (refine wpEager_skip (by rfl) ?_; (try simp only [Act.put, List.setIfInBounds_toArray, List.set_cons_zero, List.set_cons_succ]); (try refine eagerOpen rfl ?_)) | (refine wpEager_off (by rfl) ?_; (try simp only [Act.put, List.setIfInBounds_toArray, List.set_cons_zero, List.set_cons_succ]); (try refine eagerOpen rfl ?_))))
          refine eagerEnd ?_
          have HY := Lib.hid hy2
          have HLQ : Hid (acts d b FR = [.cut, .sync, .put FR, .sync]) := by show _ = _; unfold acts; rw [if_pos HFU.out]
          clear hb hb2 hy0 hy1 hy2 hd1 hd2 hd3 hd4 HFU
          skip
          -- what was asked is known: world y, Below w6 y (HY), the calls ([.cut, .sync, .put FR, .sync] : List LA), HLL : acts d b FR = ([.cut, .sync, .put FR, .sync] : List LA)
          have hrw := heap_alloc_last y (.cells (([.cut, .sync, .put FR, .sync] : List LA).map (fnV w.heap.size bf bb)).toArray 99)
          have hal := Below.allocs y (.cells (([.cut, .sync, .put FR, .sync] : List LA).map (fnV w.heap.size bf bb)).toArray 99)
          have hb8 := HY.out.trans (hal.mono HY.out.size)
          have HS8 := Lib.hid (HS6.out.below hb8)
          have HB8 := Lib.hid (HB6.out.trans (hb8.mono HB6.out.size))
          have hev : Env base sb db w.heap.size bf bb b FR (y.alloc (.cells (([.cut, .sync, .put FR, .sync] : List LA).map (fnV w.heap.size bf bb)).toArray 99)) := ⟨Below.keepOld hb8 HE6.out, Below.keepOld hb8 HBF6.out, ⟨p2, cw, Below.keepOld hb8 HBX6.out, HRD6.out.below hb8⟩, ⟨_, Below.keepOld hb8 HR6.out, rfl⟩⟩
          have HEV8 := Lib.hid hev
          have HLY := Lib.hid (lay_any (gl := y.heap.size) (N := N) ([.cut, .sync, .put FR, .sync] : List LA) _ HFI.out hev HS8.out.dx (by simp) (by simp) HFL.out HNN.out HFW.out hrw)
          clear hrw hal hb8 hev HY HC0 HCS HCF HSZ HUN HE6 HBF6 HBX6 HRD6 HR6 HS6 HB6
          go_wp2_with fail
          refine HLY.out.mono ?_
          rintro e w9 ⟨rfl, hdx, hkt⟩
          obtain ⟨PE, PD, PS⟩ := put_eqs HFIT.out HNX.out HWB.out HLQ.out
          have HPE := Lib.hid PE
          have HPD := Lib.hid PD
          have HPS := Lib.hid PS
          have HS9 := Lib.hid (HS8.out.kt hkt hdx)
          have HK9 := Lib.hid ((KS.of_below HB8.out).trans (KS.of_kt hkt))
          have HKT9 := Lib.hid ((KT.of_below HB8.out).trans hkt)
          have HEV9 := Lib.hid (HEV8.out.kt hkt)
          clear PE PD PS hdx hkt HLY HS8 HB8 HEV8
          by_cases hE : layE b ([.cut, .sync, .put FR, .sync] : List LA) d = 0
          · have hq0 : (layE b ([.cut, .sync, .put FR, .sync] : List LA) d == 0) = true := beq_iff_eq.2 hE
            skip
            obtain ⟨pb9, cb9, bx9, hrd9, hbx9, hrow9⟩ := HS9.out.cells
            have hn1 : ¬ w.heap.size = sb := fun e => by
              have h9 := HEV9.out.hs
              rw [e, hrow9] at h9
              injection h9 with q1
              injection q1 with _ q2
              exact absurd q2 (by decide)
            have hn2 : ¬ bf = sb := fun e => by
              have h9 := HEV9.out.hf
              rw [e, hrow9] at h9
              injection h9 with q1
              injection q1 with _ q2
              exact absurd q2 (by decide)
            have HT0 : Hid (∀ w', Turns (fun k => k = sb) w9 w' → w'.cell? ⟨w.heap.size, 0, none⟩ = some (.pointer (some ⟨sb, 0, none⟩))) := fun w' ht => by rw [cell_of_row _ _ _ _ _ _ (ht.keep HEV9.out.hs hn1)]; rfl
            have HT1 : Hid (∀ w', Turns (fun k => k = sb) w9 w' → w'.cell? ⟨bf, 0, none⟩ = some (.int .i64 (b : Int))) := fun w' ht => by rw [cell_of_row _ _ _ _ _ _ (ht.keep HEV9.out.hf hn2)]; rfl
            have HROW9 := Lib.hid hrow9
            have HBS9 := Lib.hid (HK.out w9 HKT9.out)
            have HXB : Hid (x.length ≤ 3000) := HXL.out
            have hle9 := HBS9.out.le
            have hmax9 := HBS9.out.max
            have HB9 : Hid (base ≤ w9.heap.size) := HS9.out.dx.1
            have HF9 : Hid (∀ (y : World) (p' : Option Addr) (c' : Nat), SX base sb db a b (layD b ([.cut, .sync, .put FR, .sync] : List LA) d) ⟨(b : Int), TN, x⟩ y → KS base w9 y → SPutP base sb db a b d s x w (.returned (.int .i64 (layE b ([.cut, .sync, .put FR, .sync] : List LA) d))) y) := fun y p' c' h1 h2 => ⟨by rw [HPE.out], by rw [HPD.out, HPS.out, if_pos hE, HTN.out]; exact h1, HK9.out.trans h2⟩
            clear hrd9 hbx9 hrow9 hE HPE HPD HPS
            generalize layE b ([.cut, .sync, .put FR, .sync] : List LA) d = EV at *
            generalize layD b ([.cut, .sync, .put FR, .sync] : List LA) d = DV at *
            go_upto_region 16 with fail
            refine wp_region_tree (Turns (fun k => k = sb) w9) (.take 0 (.take 1 (.take 2 (.take 3 (.take 4 (.take 5 (.take 6 (.take 9 (.two 7 10 (.take 8 (.one 10 (.take 11 (.take 12 (.one 13 (.take 14 (.take 15 (.one 16 (.take 17 (.take 18 (.one 19 .nil))))))))))) (.one 7 (.take 8 (.take 11 (.take 12 (.one 13 (.take 14 (.take 15 (.one 16 (.take 17 (.take 18 (.one 19 .nil)))))))))))))))))))) (by kernel_rfl) (by kernel_rfl) (Turns.of_below (below_drew1 _ _)) ?_
            have hy0 : Below w9.heap.size w9 w9.drew := below_drew1 _ _
            repeat (first
              | (apply tree_take; (· rfl); (· rfl); (· (intro w' hb'; go_simp; try with_reducible rfl)); try simp only [Act.put, List.setIfInBounds_toArray, List.set_cons_zero, List.set_cons_succ])
              | (apply tree_take; (· rfl); (· rfl); (· (intro w' hb'; have hk' := (HT0.out) w' hb'; go_simp; try with_reducible rfl)); try simp only [Act.put, List.setIfInBounds_toArray, List.set_cons_zero, List.set_cons_succ])
              | (apply tree_take; (· rfl); (· rfl); (· (intro w' hb'; have hk' := (HT1.out) w' hb'; go_simp; try with_reducible rfl)); try simp only [Act.put, List.setIfInBounds_toArray, List.set_cons_zero, List.set_cons_succ]))
            have hkb := HBS9.out.below hy0
            refine tree_two ?_ ?_
            · have z7 : w9.drew.cell? ⟨sb, 4, none⟩ = some (.int .u64 (s.turn : Int)) := (slA_cells (Below.keepOld hy0 HROW9.out)).2.2.2.2.1
              refine tree_one rfl (by rfl) (fun K hK => ?_)
              go_simp
              refine Shut.out hK _ _ (Turns.of_below hy0) ?_
              clear hK K z7
              try simp only [Act.put, List.setIfInBounds_toArray, List.set_cons_zero, List.set_cons_succ]
              repeat (apply tree_take; (· rfl); (· rfl); (· (intro w' hb'; go_simp; try with_reducible rfl)); try simp only [Act.put, List.setIfInBounds_toArray, List.set_cons_zero, List.set_cons_succ])
              refine tree_one rfl (by rfl) (fun K hK => oper_of_list rfl ?_)
              refine wpList_append_nx rfl _ _ 22 rfl (base := w9.heap.size) Tryz.underlying22 info8 rfl (by omega) rfl (World.ownsRow_nil _ _ _ _) rfl hkb (bytesV_one _) ⟨by omega, by have := HXB.out; omega⟩ hy0.size ?_
              intro p8 c8 wz ho8 hg8 _ _
              have hbz : Below w9.heap.size w9 wz := hy0.grown hg8 hy0.size (fun k hk => by
                have hk : (Value.slice none 0 0).ownBlock = some k := hk
                simp [Value.ownBlock] at hk)
              refine only_end (Shut.out hK _ _ (Turns.of_below hbz) ?_)
              clear hK K
              try simp only [Act.put, List.setIfInBounds_toArray, List.set_cons_zero, List.set_cons_succ]
              have HOZ : Hid (wz.ownsRow w9.heap.size 5 1 (.slice p8 x.length c8) x.length (bytesV x)) := by
                have h9 := ho8
                rw [Nat.zero_add, List.nil_append] at h9
                exact h9
              clear ho8 hg8
              try rw [Nat.zero_add]
              repeat (apply tree_take; (· rfl); (· rfl); (· (intro w' hb'; go_simp; try with_reducible rfl)); try simp only [Act.put, List.setIfInBounds_toArray, List.set_cons_zero, List.set_cons_succ])
              skip
              have hrz := Below.keepOld hbz HROW9.out
              have hfz : ∀ j, wz.frozen? ⟨sb, j, none⟩ = false := fun j => frozen_of_row _ _ _ _ _ hrz
              obtain ⟨_, _, _, z3, _, _, _⟩ := slA_cells hrz
              have r1 := Dk.cell_put (off := 3) (.int .i64 (b : Int)) hrz
              have r2 := Dk.cell_put (off := 4) (.int .u64 (TN : Int)) r1
              have hfz1 : ∀ j, (wz.setCell ⟨sb, 3, none⟩ (.int .i64 (b : Int))).frozen? ⟨sb, j, none⟩ = false := fun j => frozen_of_row _ _ _ _ _ r1
              have hfz2 : ∀ j, ((wz.setCell ⟨sb, 3, none⟩ (.int .i64 (b : Int))).setCell ⟨sb, 4, none⟩ (.int .u64 (TN : Int))).frozen? ⟨sb, j, none⟩ = false := fun j => frozen_of_row _ _ _ _ _ r2
              have z4 : (wz.setCell ⟨sb, 3, none⟩ (.int .i64 (b : Int))).cell? ⟨sb, 4, none⟩ = some (.int .u64 (s.turn : Int)) := by rw [cell_of_row _ _ _ _ _ _ r1]; rfl
              have z5 : ((wz.setCell ⟨sb, 3, none⟩ (.int .i64 (b : Int))).setCell ⟨sb, 4, none⟩ (.int .u64 (TN : Int))).cell? ⟨sb, 5, none⟩ = some (.slice pb9 s.body.length cb9) := by rw [cell_of_row _ _ _ _ _ _ r2]; rfl
              have t0 : Turns (fun k => k = sb) w9 wz := Turns.of_below hbz
              have t1 : Turns (fun k => k = sb) w9 (wz.setCell ⟨sb, 3, none⟩ (.int .i64 (b : Int))) := Turns.setCell (S := fun k => k = sb) (p := ⟨sb, 3, none⟩) t0 (fun _ => rfl) _
              have t2 : Turns (fun k => k = sb) w9 ((wz.setCell ⟨sb, 3, none⟩ (.int .i64 (b : Int))).setCell ⟨sb, 4, none⟩ (.int .u64 (TN : Int))) := Turns.setCell (S := fun k => k = sb) (p := ⟨sb, 4, none⟩) t1 (fun _ => rfl) _
              have t3 : Turns (fun k => k = sb) w9 (((wz.setCell ⟨sb, 3, none⟩ (.int .i64 (b : Int))).setCell ⟨sb, 4, none⟩ (.int .u64 (TN : Int))).setCell ⟨sb, 5, none⟩ (.slice p8 x.length c8)) := Turns.setCell (S := fun k => k = sb) (p := ⟨sb, 5, none⟩) t2 (fun _ => rfl) _
              have hst := (HS9.out.below hbz).set3 (b : Int) (by have := HFI.out; omega) TN HT.out p8 c8 x ((Rd.of_own HOZ.out).base HB9.out)
              have HEND := Lib.hid (HF9.out _ p8 c8 hst.1 ((KS.of_below hbz).trans hst.2.1))
              clear hst r1 r2 hrz
              refine tree_one rfl (by rfl) (fun K hK => ?_)
              go_simp
              refine Shut.out hK _ _ t1 ?_
              clear hK K
              try simp only [Act.put, List.setIfInBounds_toArray, List.set_cons_zero, List.set_cons_succ]
              (apply tree_take; (· rfl); (· rfl); (· (intro w' hb'; go_simp; try with_reducible rfl)); try simp only [Act.put, List.setIfInBounds_toArray, List.set_cons_zero, List.set_cons_succ])
              (apply tree_take; (· rfl); (· rfl); (· (intro w' hb'; go_simp; try with_reducible rfl)); try simp only [Act.put, List.setIfInBounds_toArray, List.set_cons_zero, List.set_cons_succ])
              refine tree_one rfl (by rfl) (fun K hK => ?_)
              go_simp
              refine Shut.out hK _ _ t2 ?_
              clear hK K
              try simp only [Act.put, List.setIfInBounds_toArray, List.set_cons_zero, List.set_cons_succ]
              (apply tree_take; (· rfl); (· rfl); (· (intro w' hb'; go_simp; try with_reducible rfl)); try simp only [Act.put, List.setIfInBounds_toArray, List.set_cons_zero, List.set_cons_succ])
              (apply tree_take; (· rfl); (· rfl); (· (intro w' hb'; go_simp; try with_reducible rfl)); try simp only [Act.put, List.setIfInBounds_toArray, List.set_cons_zero, List.set_cons_succ])
              refine tree_one rfl (by rfl) (fun K hK => ?_)
              go_simp
              refine Shut.out hK _ _ t3 ?_
              clear hK K
              try simp only [Act.put, List.setIfInBounds_toArray, List.set_cons_zero, List.set_cons_succ]
              refine tree_nil ?_
              clear t0 t1 t2 t3
              go_wp2_with fail
              go_ret
              exact HEND.out
            · refine tree_one rfl (by rfl) (fun K hK => oper_of_list rfl ?_)
              refine wpList_append_nx rfl _ _ 22 rfl (base := w9.heap.size) Tryz.underlying22 info8 rfl (by omega) rfl (World.ownsRow_nil _ _ _ _) rfl hkb (bytesV_one _) ⟨by omega, by have := HXB.out; omega⟩ hy0.size ?_
              intro p8 c8 wz ho8 hg8 _ _
              have hbz : Below w9.heap.size w9 wz := hy0.grown hg8 hy0.size (fun k hk => by
                have hk : (Value.slice none 0 0).ownBlock = some k := hk
                simp [Value.ownBlock] at hk)
              refine only_end (Shut.out hK _ _ (Turns.of_below hbz) ?_)
              clear hK K
              try simp only [Act.put, List.setIfInBounds_toArray, List.set_cons_zero, List.set_cons_succ]
              have HOZ : Hid (wz.ownsRow w9.heap.size 5 1 (.slice p8 x.length c8) x.length (bytesV x)) := by
                have h9 := ho8
                rw [Nat.zero_add, List.nil_append] at h9
                exact h9
              clear ho8 hg8
              try rw [Nat.zero_add]
              have z7 : wz.cell? ⟨sb, 4, none⟩ = some (.int .u64 (s.turn : Int)) := (slA_cells (Below.keepOld hbz HROW9.out)).2.2.2.2.1
              refine tree_one rfl (by rfl) (fun K hK => ?_)
              go_simp
              refine Shut.out hK _ _ (Turns.of_below hbz) ?_
              clear hK K z7
              try simp only [Act.put, List.setIfInBounds_toArray, List.set_cons_zero, List.set_cons_succ]
              repeat (apply tree_take; (· rfl); (· rfl); (· (intro w' hb'; go_simp; try with_reducible rfl)); try simp only [Act.put, List.setIfInBounds_toArray, List.set_cons_zero, List.set_cons_succ])
              skip
              have hrz := Below.keepOld hbz HROW9.out
              have hfz : ∀ j, wz.frozen? ⟨sb, j, none⟩ = false := fun j => frozen_of_row _ _ _ _ _ hrz
              obtain ⟨_, _, _, z3, _, _, _⟩ := slA_cells hrz
              have r1 := Dk.cell_put (off := 3) (.int .i64 (b : Int)) hrz
              have r2 := Dk.cell_put (off := 4) (.int .u64 (TN : Int)) r1
              have hfz1 : ∀ j, (wz.setCell ⟨sb, 3, none⟩ (.int .i64 (b : Int))).frozen? ⟨sb, j, none⟩ = false := fun j => frozen_of_row _ _ _ _ _ r1
              have hfz2 : ∀ j, ((wz.setCell ⟨sb, 3, none⟩ (.int .i64 (b : Int))).setCell ⟨sb, 4, none⟩ (.int .u64 (TN : Int))).frozen? ⟨sb, j, none⟩ = false := fun j => frozen_of_row _ _ _ _ _ r2
              have z4 : (wz.setCell ⟨sb, 3, none⟩ (.int .i64 (b : Int))).cell? ⟨sb, 4, none⟩ = some (.int .u64 (s.turn : Int)) := by rw [cell_of_row _ _ _ _ _ _ r1]; rfl
              have z5 : ((wz.setCell ⟨sb, 3, none⟩ (.int .i64 (b : Int))).setCell ⟨sb, 4, none⟩ (.int .u64 (TN : Int))).cell? ⟨sb, 5, none⟩ = some (.slice pb9 s.body.length cb9) := by rw [cell_of_row _ _ _ _ _ _ r2]; rfl
              have t0 : Turns (fun k => k = sb) w9 wz := Turns.of_below hbz
              have t1 : Turns (fun k => k = sb) w9 (wz.setCell ⟨sb, 3, none⟩ (.int .i64 (b : Int))) := Turns.setCell (S := fun k => k = sb) (p := ⟨sb, 3, none⟩) t0 (fun _ => rfl) _
              have t2 : Turns (fun k => k = sb) w9 ((wz.setCell ⟨sb, 3, none⟩ (.int .i64 (b : Int))).setCell ⟨sb, 4, none⟩ (.int .u64 (TN : Int))) := Turns.setCell (S := fun k => k = sb) (p := ⟨sb, 4, none⟩) t1 (fun _ => rfl) _
              have t3 : Turns (fun k => k = sb) w9 (((wz.setCell ⟨sb, 3, none⟩ (.int .i64 (b : Int))).setCell ⟨sb, 4, none⟩ (.int .u64 (TN : Int))).setCell ⟨sb, 5, none⟩ (.slice p8 x.length c8)) := Turns.setCell (S := fun k => k = sb) (p := ⟨sb, 5, none⟩) t2 (fun _ => rfl) _
              have hst := (HS9.out.below hbz).set3 (b : Int) (by have := HFI.out; omega) TN HT.out p8 c8 x ((Rd.of_own HOZ.out).base HB9.out)
              have HEND := Lib.hid (HF9.out _ p8 c8 hst.1 ((KS.of_below hbz).trans hst.2.1))
              clear hst r1 r2 hrz
              refine tree_one rfl (by rfl) (fun K hK => ?_)
              go_simp
              refine Shut.out hK _ _ t1 ?_
              clear hK K
              try simp only [Act.put, List.setIfInBounds_toArray, List.set_cons_zero, List.set_cons_succ]
              (apply tree_take; (· rfl); (· rfl); (· (intro w' hb'; go_simp; try with_reducible rfl)); try simp only [Act.put, List.setIfInBounds_toArray, List.set_cons_zero, List.set_cons_succ])
              (apply tree_take; (· rfl); (· rfl); (· (intro w' hb'; go_simp; try with_reducible rfl)); try simp only [Act.put, List.setIfInBounds_toArray, List.set_cons_zero, List.set_cons_succ])
              refine tree_one rfl (by rfl) (fun K hK => ?_)
              go_simp
              refine Shut.out hK _ _ t2 ?_
              clear hK K
              try simp only [Act.put, List.setIfInBounds_toArray, List.set_cons_zero, List.set_cons_succ]
              (apply tree_take; (· rfl); (· rfl); (· (intro w' hb'; go_simp; try with_reducible rfl)); try simp only [Act.put, List.setIfInBounds_toArray, List.set_cons_zero, List.set_cons_succ])
              (apply tree_take; (· rfl); (· rfl); (· (intro w' hb'; go_simp; try with_reducible rfl)); try simp only [Act.put, List.setIfInBounds_toArray, List.set_cons_zero, List.set_cons_succ])
              refine tree_one rfl (by rfl) (fun K hK => ?_)
              go_simp
              refine Shut.out hK _ _ t3 ?_
              clear hK K
              try simp only [Act.put, List.setIfInBounds_toArray, List.set_cons_zero, List.set_cons_succ]
              refine tree_nil ?_
              clear t0 t1 t2 t3
              go_wp2_with fail
              go_ret
              exact HEND.out
          · have hq0 : (layE b ([.cut, .sync, .put FR, .sync] : List LA) d == 0) = false := beq_eq_false_iff_ne.2 hE
            have HF1 : Hid (SPutP base sb db a b d s x w (.returned (.int .i64 (layE b ([.cut, .sync, .put FR, .sync] : List LA) d))) w9) := ⟨by rw [HPE.out], by rw [HPD.out, HPS.out, if_neg hE]; exact HS9.out, HK9.out⟩
            clear hE HPE HPD HPS HS9 HK9
            generalize layE b ([.cut, .sync, .put FR, .sync] : List LA) d = EV at *
            go_wp2_with fail
            go_ret
            exact HF1.out
        · have hd3 : decide ((0 : Int) < (unitsAll (fD d b).steps : Int)) = false := decide_eq_false (by omega)
          have hd4 : decide (0 < unitsAll (fD d b).steps) = false := decide_eq_false hun
          have HFU : Hid (¬ full d b = true) := by show ¬ _; unfold full; rw [hd2, hd4]; decide
          clear hlen hun
          go_upto_region 12 with fail
          skip
          refine wp_region_eager [(0, true), (1, true), (2, true), (3, true), (4, true), (5, false), (6, true), (7, true), (8, true), (9, true), (10, true), (11, true), (12, true), (13, false), (14, true), (15, true)] (by kernel_rfl) (by kernel_rfl) (eagerOpen rfl ?_)
          have hy0 : Below w6.heap.size w6 w6.drew := below_drew1 _ _
          repeat (first
            | (first | (apply wpEager_take; (· rfl); (· (intro w' hb'; go_simp; try with_reducible rfl)); (try simp only [Act.put, List.setIfInBounds_toArray, List.set_cons_zero, List.set_cons_succ]); (try refine eagerOpen rfl ?_)) | (refine wpEager_skip (by rfl) ?_; (try simp only [Act.put, List.setIfInBounds_toArray, List.set_cons_zero, List.set_cons_succ]); (try refine eagerOpen rfl ?_)) | (refine wpEager_off (by rfl) ?_; (try simp only [Act.put, List.setIfInBounds_toArray, List.set_cons_zero, List.set_cons_succ]); (try refine eagerOpen rfl ?_)))
            | (apply wpEager_take; (· rfl); (· (intro w' hb'; have hk' := (fun w' hb => HC0.out w' hb) w' hb'; go_split_ands; go_simp; try with_reducible rfl)); (try simp only [Act.put, List.setIfInBounds_toArray, List.set_cons_zero, List.set_cons_succ]); (try refine eagerOpen rfl ?_))
            | (apply wpEager_take; (· rfl); (· (intro w' hb'; have hk' := (fun w' hb => HCS.out w' hb) w' hb'; go_split_ands; go_simp; try with_reducible rfl)); (try simp only [Act.put, List.setIfInBounds_toArray, List.set_cons_zero, List.set_cons_succ]); (try refine eagerOpen rfl ?_))
            | (apply wpEager_take; (· rfl); (· (intro w' hb'; have hk' := (fun w' hb => HCF.out w' hb) w' hb'; go_split_ands; go_simp; try with_reducible rfl)); (try simp only [Act.put, List.setIfInBounds_toArray, List.set_cons_zero, List.set_cons_succ]); (try refine eagerOpen rfl ?_)))
          (refine wpEager_op (by rfl) (fun K hK => ?_); go_simp; (refine (HSZ.out _ hy0).mono ?_; rintro e y0 ⟨rfl, hb⟩; have hy1 := hy0.trans hb); refine Shut.out hK _ _ (by assumption) ?_; clear hK K; (try simp only [Act.put, List.setIfInBounds_toArray, List.set_cons_zero, List.set_cons_succ]); (try refine eagerOpen rfl ?_))
          repeat (first
            | (first | (apply wpEager_take; (· rfl); (· (intro w' hb'; go_simp; try with_reducible rfl)); (try simp only [Act.put, List.setIfInBounds_toArray, List.set_cons_zero, List.set_cons_succ]); (try refine eagerOpen rfl ?_)) | (refine wpEager_skip (by rfl) ?_; (try simp only [Act.put, List.setIfInBounds_toArray, List.set_cons_zero, List.set_cons_succ]); (try refine eagerOpen rfl ?_)) | (refine wpEager_off (by rfl) ?_; (try simp only [Act.put, List.setIfInBounds_toArray, List.set_cons_zero, List.set_cons_succ]); (try refine eagerOpen rfl ?_)))
            | (apply wpEager_take; (· rfl); (· (intro w' hb'; have hk' := (fun w' hb => HC0.out w' hb) w' hb'; go_split_ands; go_simp; try with_reducible rfl)); (try simp only [Act.put, List.setIfInBounds_toArray, List.set_cons_zero, List.set_cons_succ]); (try refine eagerOpen rfl ?_))
            | (apply wpEager_take; (· rfl); (· (intro w' hb'; have hk' := (fun w' hb => HCS.out w' hb) w' hb'; go_split_ands; go_simp; try with_reducible rfl)); (try simp only [Act.put, List.setIfInBounds_toArray, List.set_cons_zero, List.set_cons_succ]); (try refine eagerOpen rfl ?_))
            | (apply wpEager_take; (· rfl); (· (intro w' hb'; have hk' := (fun w' hb => HCF.out w' hb) w' hb'; go_split_ands; go_simp; try with_reducible rfl)); (try simp only [Act.put, List.setIfInBounds_toArray, List.set_cons_zero, List.set_cons_succ]); (try refine eagerOpen rfl ?_)))
          (refine wpEager_op (by rfl) (fun K hK => ?_); go_simp; (refine (HUN.out _ hy1).mono ?_; rintro e y ⟨rfl, hb2⟩; have hy2 := hy1.trans (hb2.mono hy1.size)); refine Shut.out hK _ _ (by assumption) ?_; clear hK K; (try simp only [Act.put, List.setIfInBounds_toArray, List.set_cons_zero, List.set_cons_succ]); (try refine eagerOpen rfl ?_))
          repeat (first
            | (first | (apply wpEager_take; (· rfl); (· (intro w' hb'; go_simp; try with_reducible rfl)); (try simp only [Act.put, List.setIfInBounds_toArray, List.set_cons_zero, List.set_cons_succ]); (try refine eagerOpen rfl ?_)) | (refine wpEager_skip (by rfl) ?_; (try simp only [Act.put, List.setIfInBounds_toArray, List.set_cons_zero, List.set_cons_succ]); (try refine eagerOpen rfl ?_)) | (refine wpEager_off (by rfl) ?_; (try simp only [Act.put, List.setIfInBounds_toArray, List.set_cons_zero, List.set_cons_succ]); (try refine eagerOpen rfl ?_))))
          refine eagerEnd ?_
          have HY := Lib.hid hy2
          have HLQ : Hid (acts d b FR = [.put FR, .sync]) := by show _ = _; unfold acts; rw [if_neg HFU.out]
          clear hb hb2 hy0 hy1 hy2 hd1 hd2 hd3 hd4 HFU
          skip
          -- what was asked is known: world y, Below w6 y (HY), the calls ([.put FR, .sync] : List LA), HLL : acts d b FR = ([.put FR, .sync] : List LA)
          have hrw := heap_alloc_last y (.cells (([.put FR, .sync] : List LA).map (fnV w.heap.size bf bb)).toArray 99)
          have hal := Below.allocs y (.cells (([.put FR, .sync] : List LA).map (fnV w.heap.size bf bb)).toArray 99)
          have hb8 := HY.out.trans (hal.mono HY.out.size)
          have HS8 := Lib.hid (HS6.out.below hb8)
          have HB8 := Lib.hid (HB6.out.trans (hb8.mono HB6.out.size))
          have hev : Env base sb db w.heap.size bf bb b FR (y.alloc (.cells (([.put FR, .sync] : List LA).map (fnV w.heap.size bf bb)).toArray 99)) := ⟨Below.keepOld hb8 HE6.out, Below.keepOld hb8 HBF6.out, ⟨p2, cw, Below.keepOld hb8 HBX6.out, HRD6.out.below hb8⟩, ⟨_, Below.keepOld hb8 HR6.out, rfl⟩⟩
          have HEV8 := Lib.hid hev
          have HLY := Lib.hid (lay_any (gl := y.heap.size) (N := N) ([.put FR, .sync] : List LA) _ HFI.out hev HS8.out.dx (by simp) (by simp) HFL.out HNN.out HFW.out hrw)
          clear hrw hal hb8 hev HY HC0 HCS HCF HSZ HUN HE6 HBF6 HBX6 HRD6 HR6 HS6 HB6
          go_wp2_with fail
          refine HLY.out.mono ?_
          rintro e w9 ⟨rfl, hdx, hkt⟩
          obtain ⟨PE, PD, PS⟩ := put_eqs HFIT.out HNX.out HWB.out HLQ.out
          have HPE := Lib.hid PE
          have HPD := Lib.hid PD
          have HPS := Lib.hid PS
          have HS9 := Lib.hid (HS8.out.kt hkt hdx)
          have HK9 := Lib.hid ((KS.of_below HB8.out).trans (KS.of_kt hkt))
          have HKT9 := Lib.hid ((KT.of_below HB8.out).trans hkt)
          have HEV9 := Lib.hid (HEV8.out.kt hkt)
          clear PE PD PS hdx hkt HLY HS8 HB8 HEV8
          by_cases hE : layE b ([.put FR, .sync] : List LA) d = 0
          · have hq0 : (layE b ([.put FR, .sync] : List LA) d == 0) = true := beq_iff_eq.2 hE
            skip
            obtain ⟨pb9, cb9, bx9, hrd9, hbx9, hrow9⟩ := HS9.out.cells
            have hn1 : ¬ w.heap.size = sb := fun e => by
              have h9 := HEV9.out.hs
              rw [e, hrow9] at h9
              injection h9 with q1
              injection q1 with _ q2
              exact absurd q2 (by decide)
            have hn2 : ¬ bf = sb := fun e => by
              have h9 := HEV9.out.hf
              rw [e, hrow9] at h9
              injection h9 with q1
              injection q1 with _ q2
              exact absurd q2 (by decide)
            have HT0 : Hid (∀ w', Turns (fun k => k = sb) w9 w' → w'.cell? ⟨w.heap.size, 0, none⟩ = some (.pointer (some ⟨sb, 0, none⟩))) := fun w' ht => by rw [cell_of_row _ _ _ _ _ _ (ht.keep HEV9.out.hs hn1)]; rfl
            have HT1 : Hid (∀ w', Turns (fun k => k = sb) w9 w' → w'.cell? ⟨bf, 0, none⟩ = some (.int .i64 (b : Int))) := fun w' ht => by rw [cell_of_row _ _ _ _ _ _ (ht.keep HEV9.out.hf hn2)]; rfl
            have HROW9 := Lib.hid hrow9
            have HBS9 := Lib.hid (HK.out w9 HKT9.out)
            have HXB : Hid (x.length ≤ 3000) := HXL.out
            have hle9 := HBS9.out.le
            have hmax9 := HBS9.out.max
            have HB9 : Hid (base ≤ w9.heap.size) := HS9.out.dx.1
            have HF9 : Hid (∀ (y : World) (p' : Option Addr) (c' : Nat), SX base sb db a b (layD b ([.put FR, .sync] : List LA) d) ⟨(b : Int), TN, x⟩ y → KS base w9 y → SPutP base sb db a b d s x w (.returned (.int .i64 (layE b ([.put FR, .sync] : List LA) d))) y) := fun y p' c' h1 h2 => ⟨by rw [HPE.out], by rw [HPD.out, HPS.out, if_pos hE, HTN.out]; exact h1, HK9.out.trans h2⟩
            clear hrd9 hbx9 hrow9 hE HPE HPD HPS
            generalize layE b ([.put FR, .sync] : List LA) d = EV at *
            generalize layD b ([.put FR, .sync] : List LA) d = DV at *
            go_upto_region 16 with fail
            refine wp_region_tree (Turns (fun k => k = sb) w9) (.take 0 (.take 1 (.take 2 (.take 3 (.take 4 (.take 5 (.take 6 (.take 9 (.two 7 10 (.take 8 (.one 10 (.take 11 (.take 12 (.one 13 (.take 14 (.take 15 (.one 16 (.take 17 (.take 18 (.one 19 .nil))))))))))) (.one 7 (.take 8 (.take 11 (.take 12 (.one 13 (.take 14 (.take 15 (.one 16 (.take 17 (.take 18 (.one 19 .nil)))))))))))))))))))) (by kernel_rfl) (by kernel_rfl) (Turns.of_below (below_drew1 _ _)) ?_
            have hy0 : Below w9.heap.size w9 w9.drew := below_drew1 _ _
            repeat (first
              | (apply tree_take; (· rfl); (· rfl); (· (intro w' hb'; go_simp; try with_reducible rfl)); try simp only [Act.put, List.setIfInBounds_toArray, List.set_cons_zero, List.set_cons_succ])
              | (apply tree_take; (· rfl); (· rfl); (· (intro w' hb'; have hk' := (HT0.out) w' hb'; go_simp; try with_reducible rfl)); try simp only [Act.put, List.setIfInBounds_toArray, List.set_cons_zero, List.set_cons_succ])
              | (apply tree_take; (· rfl); (· rfl); (· (intro w' hb'; have hk' := (HT1.out) w' hb'; go_simp; try with_reducible rfl)); try simp only [Act.put, List.setIfInBounds_toArray, List.set_cons_zero, List.set_cons_succ]))
            have hkb := HBS9.out.below hy0
            refine tree_two ?_ ?_
            · have z7 : w9.drew.cell? ⟨sb, 4, none⟩ = some (.int .u64 (s.turn : Int)) := (slA_cells (Below.keepOld hy0 HROW9.out)).2.2.2.2.1
              refine tree_one rfl (by rfl) (fun K hK => ?_)
              go_simp
              refine Shut.out hK _ _ (Turns.of_below hy0) ?_
              clear hK K z7
              try simp only [Act.put, List.setIfInBounds_toArray, List.set_cons_zero, List.set_cons_succ]
              repeat (apply tree_take; (· rfl); (· rfl); (· (intro w' hb'; go_simp; try with_reducible rfl)); try simp only [Act.put, List.setIfInBounds_toArray, List.set_cons_zero, List.set_cons_succ])
              refine tree_one rfl (by rfl) (fun K hK => oper_of_list rfl ?_)
              refine wpList_append_nx rfl _ _ 22 rfl (base := w9.heap.size) Tryz.underlying22 info8 rfl (by omega) rfl (World.ownsRow_nil _ _ _ _) rfl hkb (bytesV_one _) ⟨by omega, by have := HXB.out; omega⟩ hy0.size ?_
              intro p8 c8 wz ho8 hg8 _ _
              have hbz : Below w9.heap.size w9 wz := hy0.grown hg8 hy0.size (fun k hk => by
                have hk : (Value.slice none 0 0).ownBlock = some k := hk
                simp [Value.ownBlock] at hk)
              refine only_end (Shut.out hK _ _ (Turns.of_below hbz) ?_)
              clear hK K
              try simp only [Act.put, List.setIfInBounds_toArray, List.set_cons_zero, List.set_cons_succ]
              have HOZ : Hid (wz.ownsRow w9.heap.size 5 1 (.slice p8 x.length c8) x.length (bytesV x)) := by
                have h9 := ho8
                rw [Nat.zero_add, List.nil_append] at h9
                exact h9
              clear ho8 hg8
              try rw [Nat.zero_add]
              repeat (apply tree_take; (· rfl); (· rfl); (· (intro w' hb'; go_simp; try with_reducible rfl)); try simp only [Act.put, List.setIfInBounds_toArray, List.set_cons_zero, List.set_cons_succ])
              skip
              have hrz := Below.keepOld hbz HROW9.out
              have hfz : ∀ j, wz.frozen? ⟨sb, j, none⟩ = false := fun j => frozen_of_row _ _ _ _ _ hrz
              obtain ⟨_, _, _, z3, _, _, _⟩ := slA_cells hrz
              have r1 := Dk.cell_put (off := 3) (.int .i64 (b : Int)) hrz
              have r2 := Dk.cell_put (off := 4) (.int .u64 (TN : Int)) r1
              have hfz1 : ∀ j, (wz.setCell ⟨sb, 3, none⟩ (.int .i64 (b : Int))).frozen? ⟨sb, j, none⟩ = false := fun j => frozen_of_row _ _ _ _ _ r1
              have hfz2 : ∀ j, ((wz.setCell ⟨sb, 3, none⟩ (.int .i64 (b : Int))).setCell ⟨sb, 4, none⟩ (.int .u64 (TN : Int))).frozen? ⟨sb, j, none⟩ = false := fun j => frozen_of_row _ _ _ _ _ r2
              have z4 : (wz.setCell ⟨sb, 3, none⟩ (.int .i64 (b : Int))).cell? ⟨sb, 4, none⟩ = some (.int .u64 (s.turn : Int)) := by rw [cell_of_row _ _ _ _ _ _ r1]; rfl
              have z5 : ((wz.setCell ⟨sb, 3, none⟩ (.int .i64 (b : Int))).setCell ⟨sb, 4, none⟩ (.int .u64 (TN : Int))).cell? ⟨sb, 5, none⟩ = some (.slice pb9 s.body.length cb9) := by rw [cell_of_row _ _ _ _ _ _ r2]; rfl
              have t0 : Turns (fun k => k = sb) w9 wz := Turns.of_below hbz
              have t1 : Turns (fun k => k = sb) w9 (wz.setCell ⟨sb, 3, none⟩ (.int .i64 (b : Int))) := Turns.setCell (S := fun k => k = sb) (p := ⟨sb, 3, none⟩) t0 (fun _ => rfl) _
              have t2 : Turns (fun k => k = sb) w9 ((wz.setCell ⟨sb, 3, none⟩ (.int .i64 (b : Int))).setCell ⟨sb, 4, none⟩ (.int .u64 (TN : Int))) := Turns.setCell (S := fun k => k = sb) (p := ⟨sb, 4, none⟩) t1 (fun _ => rfl) _
              have t3 : Turns (fun k => k = sb) w9 (((wz.setCell ⟨sb, 3, none⟩ (.int .i64 (b : Int))).setCell ⟨sb, 4, none⟩ (.int .u64 (TN : Int))).setCell ⟨sb, 5, none⟩ (.slice p8 x.length c8)) := Turns.setCell (S := fun k => k = sb) (p := ⟨sb, 5, none⟩) t2 (fun _ => rfl) _
              have hst := (HS9.out.below hbz).set3 (b : Int) (by have := HFI.out; omega) TN HT.out p8 c8 x ((Rd.of_own HOZ.out).base HB9.out)
              have HEND := Lib.hid (HF9.out _ p8 c8 hst.1 ((KS.of_below hbz).trans hst.2.1))
              clear hst r1 r2 hrz
              refine tree_one rfl (by rfl) (fun K hK => ?_)
              go_simp
              refine Shut.out hK _ _ t1 ?_
              clear hK K
              try simp only [Act.put, List.setIfInBounds_toArray, List.set_cons_zero, List.set_cons_succ]
              (apply tree_take; (· rfl); (· rfl); (· (intro w' hb'; go_simp; try with_reducible rfl)); try simp only [Act.put, List.setIfInBounds_toArray, List.set_cons_zero, List.set_cons_succ])
              (apply tree_take; (· rfl); (· rfl); (· (intro w' hb'; go_simp; try with_reducible rfl)); try simp only [Act.put, List.setIfInBounds_toArray, List.set_cons_zero, List.set_cons_succ])
              refine tree_one rfl (by rfl) (fun K hK => ?_)
              go_simp
              refine Shut.out hK _ _ t2 ?_
              clear hK K
              try simp only [Act.put, List.setIfInBounds_toArray, List.set_cons_zero, List.set_cons_succ]
              (apply tree_take; (· rfl); (· rfl); (· (intro w' hb'; go_simp; try with_reducible rfl)); try simp only [Act.put, List.setIfInBounds_toArray, List.set_cons_zero, List.set_cons_succ])
              (apply tree_take; (· rfl); (· rfl); (· (intro w' hb'; go_simp; try with_reducible rfl)); try simp only [Act.put, List.setIfInBounds_toArray, List.set_cons_zero, List.set_cons_succ])
              refine tree_one rfl (by rfl) (fun K hK => ?_)
              go_simp
              refine Shut.out hK _ _ t3 ?_
              clear hK K
              try simp only [Act.put, List.setIfInBounds_toArray, List.set_cons_zero, List.set_cons_succ]
              refine tree_nil ?_
              clear t0 t1 t2 t3
              go_wp2_with fail
              go_ret
              exact HEND.out
            · refine tree_one rfl (by rfl) (fun K hK => oper_of_list rfl ?_)
              refine wpList_append_nx rfl _ _ 22 rfl (base := w9.heap.size) Tryz.underlying22 info8 rfl (by omega) rfl (World.ownsRow_nil _ _ _ _) rfl hkb (bytesV_one _) ⟨by omega, by have := HXB.out; omega⟩ hy0.size ?_
              intro p8 c8 wz ho8 hg8 _ _
              have hbz : Below w9.heap.size w9 wz := hy0.grown hg8 hy0.size (fun k hk => by
                have hk : (Value.slice none 0 0).ownBlock = some k := hk
                simp [Value.ownBlock] at hk)
              refine only_end (Shut.out hK _ _ (Turns.of_below hbz) ?_)
              clear hK K
              try simp only [Act.put, List.setIfInBounds_toArray, List.set_cons_zero, List.set_cons_succ]
              have HOZ : Hid (wz.ownsRow w9.heap.size 5 1 (.slice p8 x.length c8) x.length (bytesV x)) := by
                have h9 := ho8
                rw [Nat.zero_add, List.nil_append] at h9
                exact h9
              clear ho8 hg8
              try rw [Nat.zero_add]
              have z7 : wz.cell? ⟨sb, 4, none⟩ = some (.int .u64 (s.turn : Int)) := (slA_cells (Below.keepOld hbz HROW9.out)).2.2.2.2.1
              refine tree_one rfl (by rfl) (fun K hK => ?_)
              go_simp
              refine Shut.out hK _ _ (Turns.of_below hbz) ?_
              clear hK K z7
              try simp only [Act.put, List.setIfInBounds_toArray, List.set_cons_zero, List.set_cons_succ]
              repeat (apply tree_take; (· rfl); (· rfl); (· (intro w' hb'; go_simp; try with_reducible rfl)); try simp only [Act.put, List.setIfInBounds_toArray, List.set_cons_zero, List.set_cons_succ])
              skip
              have hrz := Below.keepOld hbz HROW9.out
              have hfz : ∀ j, wz.frozen? ⟨sb, j, none⟩ = false := fun j => frozen_of_row _ _ _ _ _ hrz
              obtain ⟨_, _, _, z3, _, _, _⟩ := slA_cells hrz
              have r1 := Dk.cell_put (off := 3) (.int .i64 (b : Int)) hrz
              have r2 := Dk.cell_put (off := 4) (.int .u64 (TN : Int)) r1
              have hfz1 : ∀ j, (wz.setCell ⟨sb, 3, none⟩ (.int .i64 (b : Int))).frozen? ⟨sb, j, none⟩ = false := fun j => frozen_of_row _ _ _ _ _ r1
              have hfz2 : ∀ j, ((wz.setCell ⟨sb, 3, none⟩ (.int .i64 (b : Int))).setCell ⟨sb, 4, none⟩ (.int .u64 (TN : Int))).frozen? ⟨sb, j, none⟩ = false := fun j => frozen_of_row _ _ _ _ _ r2
              have z4 : (wz.setCell ⟨sb, 3, none⟩ (.int .i64 (b : Int))).cell? ⟨sb, 4, none⟩ = some (.int .u64 (s.turn : Int)) := by rw [cell_of_row _ _ _ _ _ _ r1]; rfl
              have z5 : ((wz.setCell ⟨sb, 3, none⟩ (.int .i64 (b : Int))).setCell ⟨sb, 4, none⟩ (.int .u64 (TN : Int))).cell? ⟨sb, 5, none⟩ = some (.slice pb9 s.body.length cb9) := by rw [cell_of_row _ _ _ _ _ _ r2]; rfl
              have t0 : Turns (fun k => k = sb) w9 wz := Turns.of_below hbz
              have t1 : Turns (fun k => k = sb) w9 (wz.setCell ⟨sb, 3, none⟩ (.int .i64 (b : Int))) := Turns.setCell (S := fun k => k = sb) (p := ⟨sb, 3, none⟩) t0 (fun _ => rfl) _
              have t2 : Turns (fun k => k = sb) w9 ((wz.setCell ⟨sb, 3, none⟩ (.int .i64 (b : Int))).setCell ⟨sb, 4, none⟩ (.int .u64 (TN : Int))) := Turns.setCell (S := fun k => k = sb) (p := ⟨sb, 4, none⟩) t1 (fun _ => rfl) _
              have t3 : Turns (fun k => k = sb) w9 (((wz.setCell ⟨sb, 3, none⟩ (.int .i64 (b : Int))).setCell ⟨sb, 4, none⟩ (.int .u64 (TN : Int))).setCell ⟨sb, 5, none⟩ (.slice p8 x.length c8)) := Turns.setCell (S := fun k => k = sb) (p := ⟨sb, 5, none⟩) t2 (fun _ => rfl) _
              have hst := (HS9.out.below hbz).set3 (b : Int) (by have := HFI.out; omega) TN HT.out p8 c8 x ((Rd.of_own HOZ.out).base HB9.out)
              have HEND := Lib.hid (HF9.out _ p8 c8 hst.1 ((KS.of_below hbz).trans hst.2.1))
              clear hst r1 r2 hrz
              refine tree_one rfl (by rfl) (fun K hK => ?_)
              go_simp
              refine Shut.out hK _ _ t1 ?_
              clear hK K
              try simp only [Act.put, List.setIfInBounds_toArray, List.set_cons_zero, List.set_cons_succ]
              (apply tree_take; (· rfl); (· rfl); (· (intro w' hb'; go_simp; try with_reducible rfl)); try simp only [Act.put, List.setIfInBounds_toArray, List.set_cons_zero, List.set_cons_succ])
              (apply tree_take; (· rfl); (· rfl); (· (intro w' hb'; go_simp; try with_reducible rfl)); try simp only [Act.put, List.setIfInBounds_toArray, List.set_cons_zero, List.set_cons_succ])
              refine tree_one rfl (by rfl) (fun K hK => ?_)
              go_simp
              refine Shut.out hK _ _ t2 ?_
              clear hK K
              try simp only [Act.put, List.setIfInBounds_toArray, List.set_cons_zero, List.set_cons_succ]
              (apply tree_take; (· rfl); (· rfl); (· (intro w' hb'; go_simp; try with_reducible rfl)); try simp only [Act.put, List.setIfInBounds_toArray, List.set_cons_zero, List.set_cons_succ])
              (apply tree_take; (· rfl); (· rfl); (· (intro w' hb'; go_simp; try with_reducible rfl)); try simp only [Act.put, List.setIfInBounds_toArray, List.set_cons_zero, List.set_cons_succ])
              refine tree_one rfl (by rfl) (fun K hK => ?_)
              go_simp
              refine Shut.out hK _ _ t3 ?_
              clear hK K
              try simp only [Act.put, List.setIfInBounds_toArray, List.set_cons_zero, List.set_cons_succ]
              refine tree_nil ?_
              clear t0 t1 t2 t3
              go_wp2_with fail
              go_ret
              exact HEND.out
          · have hq0 : (layE b ([.put FR, .sync] : List LA) d == 0) = false := beq_eq_false_iff_ne.2 hE
            have HF1 : Hid (SPutP base sb db a b d s x w (.returned (.int .i64 (layE b ([.put FR, .sync] : List LA) d))) w9) := ⟨by rw [HPE.out], by rw [HPD.out, HPS.out, if_neg hE]; exact HS9.out, HK9.out⟩
            clear hE HPE HPD HPS HS9 HK9
            generalize layE b ([.put FR, .sync] : List LA) d = EV at *
            go_wp2_with fail
            go_ret
            exact HF1.out
    · have hq : (s.now == (a : Int)) = false := beq_eq_false_iff_ne.2 hnow
      have HNX : Hid (nxt s a b = a) := if_neg hnow
      clear hnow
      refine wp_region_eager [(0, true), (1, true), (2, true), (3, true), (4, true), (5, true)] (by kernel_rfl) (by kernel_rfl) (eagerOpen rfl ?_)
      have hy0 : Below w4.heap.size w4 w4.drew := below_drew1 _ _
      repeat (first
        | (first | (apply wpEager_take; (· rfl); (· (intro w' hb'; go_simp; try with_reducible rfl)); (try simp only [Act.put, List.setIfInBounds_toArray, List.set_cons_zero, List.set_cons_succ]); (try refine eagerOpen rfl ?_)) | (refine wpEager_skip (by rfl) ?_; (try simp only [Act.put, List.setIfInBounds_toArray, List.set_cons_zero, List.set_cons_succ]); (try refine eagerOpen rfl ?_)) | (refine wpEager_off (by rfl) ?_; (try simp only [Act.put, List.setIfInBounds_toArray, List.set_cons_zero, List.set_cons_succ]); (try refine eagerOpen rfl ?_)))
        | (apply wpEager_take; (· rfl); (· (intro w' hb'; have hk' := (fun w' hb => HC3.out w' hb) w' hb'; go_split_ands; go_simp; try with_reducible rfl)); (try simp only [Act.put, List.setIfInBounds_toArray, List.set_cons_zero, List.set_cons_succ]); (try refine eagerOpen rfl ?_))
        | (apply wpEager_take; (· rfl); (· (intro w' hb'; have hk' := (fun w' hb => HCS.out w' hb) w' hb'; go_split_ands; go_simp; try with_reducible rfl)); (try simp only [Act.put, List.setIfInBounds_toArray, List.set_cons_zero, List.set_cons_succ]); (try refine eagerOpen rfl ?_))
        | (apply wpEager_take; (· rfl); (· (intro w' hb'; have hk' := (fun w' hb => HCF.out w' hb) w' hb'; go_split_ands; go_simp; try with_reducible rfl)); (try simp only [Act.put, List.setIfInBounds_toArray, List.set_cons_zero, List.set_cons_succ]); (try refine eagerOpen rfl ?_)))
      refine eagerEnd ?_
      have HE6 := Lib.hid (Below.keepOld hy0 HE4.out)
      have HBF6 := Lib.hid (Below.keepOld hy0 HBF4.out)
      have HBX6 := Lib.hid (Below.keepOld hy0 HBX4.out)
      have HRD6 := Lib.hid (HRD4.out.below hy0)
      have HS6 := Lib.hid (HS4.out.below hy0)
      have HR6 := Lib.hid (Below.keepOld hy0 HR4.out)
      have HB6 := Lib.hid (HB4.out.trans (hy0.mono HB4.out.size))
      have HFI := Lib.hid HA.out
      clear hy0 c0 c1 c2' c3 c4 hcs hcf HC3 HCS HCF HE4 HBF4 HBX4 HRD4 HS4 HR4 HB4
      generalize w4.drew = w6 at *
      go_upto_region 9 with fail
      skip
      -- the functions are made, and it is asked whether the file is to be cut first: world w6, file a
      have HSZ := Lib.hid (fun y (hy : Below w6.heap.size w6 y) => xsize y (HS6.out.dx.below hy) a HFI.out)
      have HUN := Lib.hid (fun y (hy : Below w6.heap.size w6 y) => xunits y (HS6.out.dx.below hy) a HFI.out)
      have HC0 : Hid (∀ w', Below w6.heap.size w6 w' → w'.cell? ⟨sb, 0, none⟩ = some (.pointer (some ⟨db, 0, none⟩))) := fun w' hk => (slA_cells (Below.keepOld hk HR6.out)).1
      have HCS : Hid (∀ w', Below w6.heap.size w6 w' → w'.cell? ⟨w.heap.size, 0, none⟩ = some (.pointer (some ⟨sb, 0, none⟩))) := fun w' hk => by rw [cell_of_row _ _ _ _ _ _ (Below.keepOld hk HE6.out)]; rfl
      have HCF : Hid (∀ w', Below w6.heap.size w6 w' → w'.cell? ⟨bf, 0, none⟩ = some (.int .i64 (a : Int))) := fun w' hk => by rw [cell_of_row _ _ _ _ _ _ (Below.keepOld hk HBF6.out)]; rfl
      have hmf : ∀ (fn : Fn) (first cap : Array Value) (w : World), (Instr.makeFunc fn first cap).run Tryz.prog w = .ok (.func fn first cap) w := fun _ _ _ _ => rfl
      by_cases hlen : 0 < (fD d a).now.length
      · have hd1 : decide ((0 : Int) < ((fD d a).now.length : Int)) = true := decide_eq_true (by omega)
        have hd2 : decide (0 < (fD d a).now.length) = true := decide_eq_true hlen
        have HFU : Hid (full d a = true) := by show _ = _; unfold full; rw [hd2]; rfl
        clear hlen
        go_upto_region 12 with fail
        refine wp_region_eager [(0, true), (1, true), (2, true), (3, true), (4, true), (5, false), (6, true), (7, true), (8, true), (9, true), (10, true), (11, true), (12, true), (13, false), (14, true), (15, true)] (by kernel_rfl) (by kernel_rfl) (eagerOpen rfl ?_)
        have hy0 : Below w6.heap.size w6 w6.drew := below_drew1 _ _
        repeat (first
          | (first | (apply wpEager_take; (· rfl); (· (intro w' hb'; go_simp; try with_reducible rfl)); (try simp only [Act.put, List.setIfInBounds_toArray, List.set_cons_zero, List.set_cons_succ]); (try refine eagerOpen rfl ?_)) | (refine wpEager_skip (by rfl) ?_; (try simp only [Act.put, List.setIfInBounds_toArray, List.set_cons_zero, List.set_cons_succ]); (try refine eagerOpen rfl ?_)) | (refine wpEager_off (by rfl) ?_; (try simp only [Act.put, List.setIfInBounds_toArray, List.set_cons_zero, List.set_cons_succ]); (try refine eagerOpen rfl ?_)))
          | (apply wpEager_take; (· rfl); (· (intro w' hb'; have hk' := (fun w' hb => HC0.out w' hb) w' hb'; go_split_ands; go_simp; try with_reducible rfl)); (try simp only [Act.put, List.setIfInBounds_toArray, List.set_cons_zero, List.set_cons_succ]); (try refine eagerOpen rfl ?_))
          | (apply wpEager_take; (· rfl); (· (intro w' hb'; have hk' := (fun w' hb => HCS.out w' hb) w' hb'; go_split_ands; go_simp; try with_reducible rfl)); (try simp only [Act.put, List.setIfInBounds_toArray, List.set_cons_zero, List.set_cons_succ]); (try refine eagerOpen rfl ?_))
          | (apply wpEager_take; (· rfl); (· (intro w' hb'; have hk' := (fun w' hb => HCF.out w' hb) w' hb'; go_split_ands; go_simp; try with_reducible rfl)); (try simp only [Act.put, List.setIfInBounds_toArray, List.set_cons_zero, List.set_cons_succ]); (try refine eagerOpen rfl ?_)))
        (refine wpEager_op (by rfl) (fun K hK => ?_); go_simp; (refine (HSZ.out _ hy0).mono ?_; rintro e y ⟨rfl, hb⟩; have hy1 := hy0.trans hb); refine Shut.out hK _ _ (by assumption) ?_; clear hK K; (try simp only [Act.put, List.setIfInBounds_toArray, List.set_cons_zero, List.set_cons_succ]); (try refine eagerOpen rfl ?_))
        repeat (first
          | (first | (apply wpEager_take; (· rfl); (· (intro w' hb'; go_simp; try with_reducible rfl)); (try simp only [Act.put, List.setIfInBounds_toArray, List.set_cons_zero, List.set_cons_succ]); (try refine eagerOpen rfl ?_)) | (refine wpEager_skip (by rfl) ?_; (try simp only [Act.put, List.setIfInBounds_toArray, List.set_cons_zero, List.set_cons_succ]); (try refine eagerOpen rfl ?_)) | (refine wpEager_off (by rfl) ?_; (try simp only [Act.put, List.setIfInBounds_toArray, List.set_cons_zero, List.set_cons_succ]); (try refine eagerOpen rfl ?_))))
        refine eagerEnd ?_
        have HY := Lib.hid hy1
        have HLQ : Hid (acts d a FR = [.cut, .sync, .put FR, .sync]) := by show _ = _; unfold acts; rw [if_pos HFU.out]
        clear hb hy0 hy1 hd1 hd2 HFU
        skip
        -- what was asked is known: world y, Below w6 y (HY), the calls ([.cut, .sync, .put FR, .sync] : List LA), HLL : acts d a FR = ([.cut, .sync, .put FR, .sync] : List LA)
        have hrw := heap_alloc_last y (.cells (([.cut, .sync, .put FR, .sync] : List LA).map (fnV w.heap.size bf bb)).toArray 99)
        have hal := Below.allocs y (.cells (([.cut, .sync, .put FR, .sync] : List LA).map (fnV w.heap.size bf bb)).toArray 99)
        have hb8 := HY.out.trans (hal.mono HY.out.size)
        have HS8 := Lib.hid (HS6.out.below hb8)
        have HB8 := Lib.hid (HB6.out.trans (hb8.mono HB6.out.size))
        have hev : Env base sb db w.heap.size bf bb a FR (y.alloc (.cells (([.cut, .sync, .put FR, .sync] : List LA).map (fnV w.heap.size bf bb)).toArray 99)) := ⟨Below.keepOld hb8 HE6.out, Below.keepOld hb8 HBF6.out, ⟨p2, cw, Below.keepOld hb8 HBX6.out, HRD6.out.below hb8⟩, ⟨_, Below.keepOld hb8 HR6.out, rfl⟩⟩
        have HEV8 := Lib.hid hev
        have HLY := Lib.hid (lay_any (gl := y.heap.size) (N := N) ([.cut, .sync, .put FR, .sync] : List LA) _ HFI.out hev HS8.out.dx (by simp) (by simp) HFL.out HNN.out HFW.out hrw)
        clear hrw hal hb8 hev HY HC0 HCS HCF HSZ HUN HE6 HBF6 HBX6 HRD6 HR6 HS6 HB6
        go_wp2_with fail
        refine HLY.out.mono ?_
        rintro e w9 ⟨rfl, hdx, hkt⟩
        obtain ⟨PE, PD, PS⟩ := put_eqs HFIT.out HNX.out HWB.out HLQ.out
        have HPE := Lib.hid PE
        have HPD := Lib.hid PD
        have HPS := Lib.hid PS
        have HS9 := Lib.hid (HS8.out.kt hkt hdx)
        have HK9 := Lib.hid ((KS.of_below HB8.out).trans (KS.of_kt hkt))
        have HKT9 := Lib.hid ((KT.of_below HB8.out).trans hkt)
        have HEV9 := Lib.hid (HEV8.out.kt hkt)
        clear PE PD PS hdx hkt HLY HS8 HB8 HEV8
        by_cases hE : layE a ([.cut, .sync, .put FR, .sync] : List LA) d = 0
        · have hq0 : (layE a ([.cut, .sync, .put FR, .sync] : List LA) d == 0) = true := beq_iff_eq.2 hE
          skip
          obtain ⟨pb9, cb9, bx9, hrd9, hbx9, hrow9⟩ := HS9.out.cells
          have hn1 : ¬ w.heap.size = sb := fun e => by
            have h9 := HEV9.out.hs
            rw [e, hrow9] at h9
            injection h9 with q1
            injection q1 with _ q2
            exact absurd q2 (by decide)
          have hn2 : ¬ bf = sb := fun e => by
            have h9 := HEV9.out.hf
            rw [e, hrow9] at h9
            injection h9 with q1
            injection q1 with _ q2
            exact absurd q2 (by decide)
          have HT0 : Hid (∀ w', Turns (fun k => k = sb) w9 w' → w'.cell? ⟨w.heap.size, 0, none⟩ = some (.pointer (some ⟨sb, 0, none⟩))) := fun w' ht => by rw [cell_of_row _ _ _ _ _ _ (ht.keep HEV9.out.hs hn1)]; rfl
          have HT1 : Hid (∀ w', Turns (fun k => k = sb) w9 w' → w'.cell? ⟨bf, 0, none⟩ = some (.int .i64 (a : Int))) := fun w' ht => by rw [cell_of_row _ _ _ _ _ _ (ht.keep HEV9.out.hf hn2)]; rfl
          have HROW9 := Lib.hid hrow9
          have HBS9 := Lib.hid (HK.out w9 HKT9.out)
          have HXB : Hid (x.length ≤ 3000) := HXL.out
          have hle9 := HBS9.out.le
          have hmax9 := HBS9.out.max
          have HB9 : Hid (base ≤ w9.heap.size) := HS9.out.dx.1
          have HF9 : Hid (∀ (y : World) (p' : Option Addr) (c' : Nat), SX base sb db a b (layD a ([.cut, .sync, .put FR, .sync] : List LA) d) ⟨(a : Int), TN, x⟩ y → KS base w9 y → SPutP base sb db a b d s x w (.returned (.int .i64 (layE a ([.cut, .sync, .put FR, .sync] : List LA) d))) y) := fun y p' c' h1 h2 => ⟨by rw [HPE.out], by rw [HPD.out, HPS.out, if_pos hE, HTN.out]; exact h1, HK9.out.trans h2⟩
          clear hrd9 hbx9 hrow9 hE HPE HPD HPS
          generalize layE a ([.cut, .sync, .put FR, .sync] : List LA) d = EV at *
          generalize layD a ([.cut, .sync, .put FR, .sync] : List LA) d = DV at *
          go_upto_region 16 with fail
          refine wp_region_tree (Turns (fun k => k = sb) w9) (.take 0 (.take 1 (.take 2 (.take 3 (.take 4 (.take 5 (.take 6 (.take 9 (.two 7 10 (.take 8 (.one 10 (.take 11 (.take 12 (.one 13 (.take 14 (.take 15 (.one 16 (.take 17 (.take 18 (.one 19 .nil))))))))))) (.one 7 (.take 8 (.take 11 (.take 12 (.one 13 (.take 14 (.take 15 (.one 16 (.take 17 (.take 18 (.one 19 .nil)))))))))))))))))))) (by kernel_rfl) (by kernel_rfl) (Turns.of_below (below_drew1 _ _)) ?_
          have hy0 : Below w9.heap.size w9 w9.drew := below_drew1 _ _
          repeat (first
            | (apply tree_take; (· rfl); (· rfl); (· (intro w' hb'; go_simp; try with_reducible rfl)); try simp only [Act.put, List.setIfInBounds_toArray, List.set_cons_zero, List.set_cons_succ])
            | (apply tree_take; (· rfl); (· rfl); (· (intro w' hb'; have hk' := (HT0.out) w' hb'; go_simp; try with_reducible rfl)); try simp only [Act.put, List.setIfInBounds_toArray, List.set_cons_zero, List.set_cons_succ])
            | (apply tree_take; (· rfl); (· rfl); (· (intro w' hb'; have hk' := (HT1.out) w' hb'; go_simp; try with_reducible rfl)); try simp only [Act.put, List.setIfInBounds_toArray, List.set_cons_zero, List.set_cons_succ]))
          have hkb := HBS9.out.below hy0
          refine tree_two ?_ ?_
          · have z7 : w9.drew.cell? ⟨sb, 4, none⟩ = some (.int .u64 (s.turn : Int)) := (slA_cells (Below.keepOld hy0 HROW9.out)).2.2.2.2.1
            refine tree_one rfl (by rfl) (fun K hK => ?_)
            go_simp
            refine Shut.out hK _ _ (Turns.of_below hy0) ?_
            clear hK K z7
            try simp only [Act.put, List.setIfInBounds_toArray, List.set_cons_zero, List.set_cons_succ]
            repeat (apply tree_take; (· rfl); (· rfl); (· (intro w' hb'; go_simp; try with_reducible rfl)); try simp only [Act.put, List.setIfInBounds_toArray, List.set_cons_zero, List.set_cons_succ])
            refine tree_one rfl (by rfl) (fun K hK => oper_of_list rfl ?_)
            refine wpList_append_nx rfl _ _ 22 rfl (base := w9.heap.size) Tryz.underlying22 info8 rfl (by omega) rfl (World.ownsRow_nil _ _ _ _) rfl hkb (bytesV_one _) ⟨by omega, by have := HXB.out; omega⟩ hy0.size ?_
            intro p8 c8 wz ho8 hg8 _ _
            have hbz : Below w9.heap.size w9 wz := hy0.grown hg8 hy0.size (fun k hk => by
              have hk : (Value.slice none 0 0).ownBlock = some k := hk
              simp [Value.ownBlock] at hk)
            refine only_end (Shut.out hK _ _ (Turns.of_below hbz) ?_)
            clear hK K
            try simp only [Act.put, List.setIfInBounds_toArray, List.set_cons_zero, List.set_cons_succ]
            have HOZ : Hid (wz.ownsRow w9.heap.size 5 1 (.slice p8 x.length c8) x.length (bytesV x)) := by
              have h9 := ho8
              rw [Nat.zero_add, List.nil_append] at h9
              exact h9
            clear ho8 hg8
            try rw [Nat.zero_add]
            repeat (apply tree_take; (· rfl); (· rfl); (· (intro w' hb'; go_simp; try with_reducible rfl)); try simp only [Act.put, List.setIfInBounds_toArray, List.set_cons_zero, List.set_cons_succ])
            skip
            have hrz := Below.keepOld hbz HROW9.out
            have hfz : ∀ j, wz.frozen? ⟨sb, j, none⟩ = false := fun j => frozen_of_row _ _ _ _ _ hrz
            obtain ⟨_, _, _, z3, _, _, _⟩ := slA_cells hrz
            have r1 := Dk.cell_put (off := 3) (.int .i64 (a : Int)) hrz
            have r2 := Dk.cell_put (off := 4) (.int .u64 (TN : Int)) r1
            have hfz1 : ∀ j, (wz.setCell ⟨sb, 3, none⟩ (.int .i64 (a : Int))).frozen? ⟨sb, j, none⟩ = false := fun j => frozen_of_row _ _ _ _ _ r1
            have hfz2 : ∀ j, ((wz.setCell ⟨sb, 3, none⟩ (.int .i64 (a : Int))).setCell ⟨sb, 4, none⟩ (.int .u64 (TN : Int))).frozen? ⟨sb, j, none⟩ = false := fun j => frozen_of_row _ _ _ _ _ r2
            have z4 : (wz.setCell ⟨sb, 3, none⟩ (.int .i64 (a : Int))).cell? ⟨sb, 4, none⟩ = some (.int .u64 (s.turn : Int)) := by rw [cell_of_row _ _ _ _ _ _ r1]; rfl
            have z5 : ((wz.setCell ⟨sb, 3, none⟩ (.int .i64 (a : Int))).setCell ⟨sb, 4, none⟩ (.int .u64 (TN : Int))).cell? ⟨sb, 5, none⟩ = some (.slice pb9 s.body.length cb9) := by rw [cell_of_row _ _ _ _ _ _ r2]; rfl
            have t0 : Turns (fun k => k = sb) w9 wz := Turns.of_below hbz
            have t1 : Turns (fun k => k = sb) w9 (wz.setCell ⟨sb, 3, none⟩ (.int .i64 (a : Int))) := Turns.setCell (S := fun k => k = sb) (p := ⟨sb, 3, none⟩) t0 (fun _ => rfl) _
            have t2 : Turns (fun k => k = sb) w9 ((wz.setCell ⟨sb, 3, none⟩ (.int .i64 (a : Int))).setCell ⟨sb, 4, none⟩ (.int .u64 (TN : Int))) := Turns.setCell (S := fun k => k = sb) (p := ⟨sb, 4, none⟩) t1 (fun _ => rfl) _
            have t3 : Turns (fun k => k = sb) w9 (((wz.setCell ⟨sb, 3, none⟩ (.int .i64 (a : Int))).setCell ⟨sb, 4, none⟩ (.int .u64 (TN : Int))).setCell ⟨sb, 5, none⟩ (.slice p8 x.length c8)) := Turns.setCell (S := fun k => k = sb) (p := ⟨sb, 5, none⟩) t2 (fun _ => rfl) _
            have hst := (HS9.out.below hbz).set3 (a : Int) (by have := HFI.out; omega) TN HT.out p8 c8 x ((Rd.of_own HOZ.out).base HB9.out)
            have HEND := Lib.hid (HF9.out _ p8 c8 hst.1 ((KS.of_below hbz).trans hst.2.1))
            clear hst r1 r2 hrz
            refine tree_one rfl (by rfl) (fun K hK => ?_)
            go_simp
            refine Shut.out hK _ _ t1 ?_
            clear hK K
            try simp only [Act.put, List.setIfInBounds_toArray, List.set_cons_zero, List.set_cons_succ]
            (apply tree_take; (· rfl); (· rfl); (· (intro w' hb'; go_simp; try with_reducible rfl)); try simp only [Act.put, List.setIfInBounds_toArray, List.set_cons_zero, List.set_cons_succ])
            (apply tree_take; (· rfl); (· rfl); (· (intro w' hb'; go_simp; try with_reducible rfl)); try simp only [Act.put, List.setIfInBounds_toArray, List.set_cons_zero, List.set_cons_succ])
            refine tree_one rfl (by rfl) (fun K hK => ?_)
            go_simp
            refine Shut.out hK _ _ t2 ?_
            clear hK K
            try simp only [Act.put, List.setIfInBounds_toArray, List.set_cons_zero, List.set_cons_succ]
            (apply tree_take; (· rfl); (· rfl); (· (intro w' hb'; go_simp; try with_reducible rfl)); try simp only [Act.put, List.setIfInBounds_toArray, List.set_cons_zero, List.set_cons_succ])
            (apply tree_take; (· rfl); (· rfl); (· (intro w' hb'; go_simp; try with_reducible rfl)); try simp only [Act.put, List.setIfInBounds_toArray, List.set_cons_zero, List.set_cons_succ])
            refine tree_one rfl (by rfl) (fun K hK => ?_)
            go_simp
            refine Shut.out hK _ _ t3 ?_
            clear hK K
            try simp only [Act.put, List.setIfInBounds_toArray, List.set_cons_zero, List.set_cons_succ]
            refine tree_nil ?_
            clear t0 t1 t2 t3
            go_wp2_with fail
            go_ret
            exact HEND.out
          · refine tree_one rfl (by rfl) (fun K hK => oper_of_list rfl ?_)
            refine wpList_append_nx rfl _ _ 22 rfl (base := w9.heap.size) Tryz.underlying22 info8 rfl (by omega) rfl (World.ownsRow_nil _ _ _ _) rfl hkb (bytesV_one _) ⟨by omega, by have := HXB.out; omega⟩ hy0.size ?_
            intro p8 c8 wz ho8 hg8 _ _
            have hbz : Below w9.heap.size w9 wz := hy0.grown hg8 hy0.size (fun k hk => by
              have hk : (Value.slice none 0 0).ownBlock = some k := hk
              simp [Value.ownBlock] at hk)
            refine only_end (Shut.out hK _ _ (Turns.of_below hbz) ?_)
            clear hK K
            try simp only [Act.put, List.setIfInBounds_toArray, List.set_cons_zero, List.set_cons_succ]
            have HOZ : Hid (wz.ownsRow w9.heap.size 5 1 (.slice p8 x.length c8) x.length (bytesV x)) := by
              have h9 := ho8
              rw [Nat.zero_add, List.nil_append] at h9
              exact h9
            clear ho8 hg8
            try rw [Nat.zero_add]
            have z7 : wz.cell? ⟨sb, 4, none⟩ = some (.int .u64 (s.turn : Int)) := (slA_cells (Below.keepOld hbz HROW9.out)).2.2.2.2.1
            refine tree_one rfl (by rfl) (fun K hK => ?_)
            go_simp
            refine Shut.out hK _ _ (Turns.of_below hbz) ?_
            clear hK K z7
            try simp only [Act.put, List.setIfInBounds_toArray, List.set_cons_zero, List.set_cons_succ]
            repeat (apply tree_take; (· rfl); (· rfl); (· (intro w' hb'; go_simp; try with_reducible rfl)); try simp only [Act.put, List.setIfInBounds_toArray, List.set_cons_zero, List.set_cons_succ])
            skip
            have hrz := Below.keepOld hbz HROW9.out
            have hfz : ∀ j, wz.frozen? ⟨sb, j, none⟩ = false := fun j => frozen_of_row _ _ _ _ _ hrz
            obtain ⟨_, _, _, z3, _, _, _⟩ := slA_cells hrz
            have r1 := Dk.cell_put (off := 3) (.int .i64 (a : Int)) hrz
            have r2 := Dk.cell_put (off := 4) (.int .u64 (TN : Int)) r1
            have hfz1 : ∀ j, (wz.setCell ⟨sb, 3, none⟩ (.int .i64 (a : Int))).frozen? ⟨sb, j, none⟩ = false := fun j => frozen_of_row _ _ _ _ _ r1
            have hfz2 : ∀ j, ((wz.setCell ⟨sb, 3, none⟩ (.int .i64 (a : Int))).setCell ⟨sb, 4, none⟩ (.int .u64 (TN : Int))).frozen? ⟨sb, j, none⟩ = false := fun j => frozen_of_row _ _ _ _ _ r2
            have z4 : (wz.setCell ⟨sb, 3, none⟩ (.int .i64 (a : Int))).cell? ⟨sb, 4, none⟩ = some (.int .u64 (s.turn : Int)) := by rw [cell_of_row _ _ _ _ _ _ r1]; rfl
            have z5 : ((wz.setCell ⟨sb, 3, none⟩ (.int .i64 (a : Int))).setCell ⟨sb, 4, none⟩ (.int .u64 (TN : Int))).cell? ⟨sb, 5, none⟩ = some (.slice pb9 s.body.length cb9) := by rw [cell_of_row _ _ _ _ _ _ r2]; rfl
            have t0 : Turns (fun k => k = sb) w9 wz := Turns.of_below hbz
            have t1 : Turns (fun k => k = sb) w9 (wz.setCell ⟨sb, 3, none⟩ (.int .i64 (a : Int))) := Turns.setCell (S := fun k => k = sb) (p := ⟨sb, 3, none⟩) t0 (fun _ => rfl) _
            have t2 : Turns (fun k => k = sb) w9 ((wz.setCell ⟨sb, 3, none⟩ (.int .i64 (a : Int))).setCell ⟨sb, 4, none⟩ (.int .u64 (TN : Int))) := Turns.setCell (S := fun k => k = sb) (p := ⟨sb, 4, none⟩) t1 (fun _ => rfl) _
            have t3 : Turns (fun k => k = sb) w9 (((wz.setCell ⟨sb, 3, none⟩ (.int .i64 (a : Int))).setCell ⟨sb, 4, none⟩ (.int .u64 (TN : Int))).setCell ⟨sb, 5, none⟩ (.slice p8 x.length c8)) := Turns.setCell (S := fun k => k = sb) (p := ⟨sb, 5, none⟩) t2 (fun _ => rfl) _
            have hst := (HS9.out.below hbz).set3 (a : Int) (by have := HFI.out; omega) TN HT.out p8 c8 x ((Rd.of_own HOZ.out).base HB9.out)
            have HEND := Lib.hid (HF9.out _ p8 c8 hst.1 ((KS.of_below hbz).trans hst.2.1))
            clear hst r1 r2 hrz
            refine tree_one rfl (by rfl) (fun K hK => ?_)
            go_simp
            refine Shut.out hK _ _ t1 ?_
            clear hK K
            try simp only [Act.put, List.setIfInBounds_toArray, List.set_cons_zero, List.set_cons_succ]
            (apply tree_take; (· rfl); (· rfl); (· (intro w' hb'; go_simp; try with_reducible rfl)); try simp only [Act.put, List.setIfInBounds_toArray, List.set_cons_zero, List.set_cons_succ])
            (apply tree_take; (· rfl); (· rfl); (· (intro w' hb'; go_simp; try with_reducible rfl)); try simp only [Act.put, List.setIfInBounds_toArray, List.set_cons_zero, List.set_cons_succ])
            refine tree_one rfl (by rfl) (fun K hK => ?_)
            go_simp
            refine Shut.out hK _ _ t2 ?_
            clear hK K
            try simp only [Act.put, List.setIfInBounds_toArray, List.set_cons_zero, List.set_cons_succ]
            (apply tree_take; (· rfl); (· rfl); (· (intro w' hb'; go_simp; try with_reducible rfl)); try simp only [Act.put, List.setIfInBounds_toArray, List.set_cons_zero, List.set_cons_succ])
            (apply tree_take; (· rfl); (· rfl); (· (intro w' hb'; go_simp; try with_reducible rfl)); try simp only [Act.put, List.setIfInBounds_toArray, List.set_cons_zero, List.set_cons_succ])
            refine tree_one rfl (by rfl) (fun K hK => ?_)
            go_simp
            refine Shut.out hK _ _ t3 ?_
            clear hK K
            try simp only [Act.put, List.setIfInBounds_toArray, List.set_cons_zero, List.set_cons_succ]
            refine tree_nil ?_
            clear t0 t1 t2 t3
            go_wp2_with fail
            go_ret
            exact HEND.out
        · have hq0 : (layE a ([.cut, .sync, .put FR, .sync] : List LA) d == 0) = false := beq_eq_false_iff_ne.2 hE
          have HF1 : Hid (SPutP base sb db a b d s x w (.returned (.int .i64 (layE a ([.cut, .sync, .put FR, .sync] : List LA) d))) w9) := ⟨by rw [HPE.out], by rw [HPD.out, HPS.out, if_neg hE]; exact HS9.out, HK9.out⟩
          clear hE HPE HPD HPS HS9 HK9
          generalize layE a ([.cut, .sync, .put FR, .sync] : List LA) d = EV at *
          go_wp2_with fail
          go_ret
          exact HF1.out
      · have hd1 : decide ((0 : Int) < ((fD d a).now.length : Int)) = false := decide_eq_false (by omega)
        have hd2 : decide (0 < (fD d a).now.length) = false := decide_eq_false hlen
        by_cases hun : 0 < unitsAll (fD d a).steps
        · have hd3 : decide ((0 : Int) < (unitsAll (fD d a).steps : Int)) = true := decide_eq_true (by omega)
          have hd4 : decide (0 < unitsAll (fD d a).steps) = true := decide_eq_true hun
          have HFU : Hid (full d a = true) := by show _ = _; unfold full; rw [hd4, Bool.or_true]
          clear hlen hun
          go_upto_region 12 with fail
          skip
          refine wp_region_eager [(0, true), (1, true), (2, true), (3, true), (4, true), (5, false), (6, true), (7, true), (8, true), (9, true), (10, true), (11, true), (12, true), (13, false), (14, true), (15, true)] (by kernel_rfl) (by kernel_rfl) (eagerOpen rfl ?_)
          have hy0 : Below w6.heap.size w6 w6.drew := below_drew1 _ _
          repeat (first
            | (first | (apply wpEager_take; (· rfl); (· (intro w' hb'; go_simp; try with_reducible rfl)); (try simp only [Act.put, List.setIfInBounds_toArray, List.set_cons_zero, List.set_cons_succ]); (try refine eagerOpen rfl ?_)) | (refine wpEager_skip (by rfl) ?_; (try simp only [Act.put, List.setIfInBounds_toArray, List.set_cons_zero, List.set_cons_succ]); (try refine eagerOpen rfl ?_)) | (refine wpEager_off (by rfl) ?_; (try simp only [Act.put, List.setIfInBounds_toArray, List.set_cons_zero, List.set_cons_succ]); (try refine eagerOpen rfl ?_)))
            | (apply wpEager_take; (· rfl); (· (intro w' hb'; have hk' := (fun w' hb => HC0.out w' hb) w' hb'; go_split_ands; go_simp; try with_reducible rfl)); (try simp only [Act.put, List.setIfInBounds_toArray, List.set_cons_zero, List.set_cons_succ]); (try refine eagerOpen rfl ?_))
            | (apply wpEager_take; (· rfl); (· (intro w' hb'; have hk' := (fun w' hb => HCS.out w' hb) w' hb'; go_split_ands; go_simp; try with_reducible rfl)); (try simp only [Act.put, List.setIfInBounds_toArray, List.set_cons_zero, List.set_cons_succ]); (try refine eagerOpen rfl ?_))
            | (apply wpEager_take; (· rfl); (· (intro w' hb'; have hk' := (fun w' hb => HCF.out w' hb) w' hb'; go_split_ands; go_simp; try with_reducible rfl)); (try simp only [Act.put, List.setIfInBounds_toArray, List.set_cons_zero, List.set_cons_succ]); (try refine eagerOpen rfl ?_)))
          (refine wpEager_op (by rfl) (fun K hK => ?_); go_simp; (refine (HSZ.out _ hy0).mono ?_; rintro e y0 ⟨rfl, hb⟩; have hy1 := hy0.trans hb); refine Shut.out hK _ _ (by assumption) ?_; clear hK K; (try simp only [Act.put, List.setIfInBounds_toArray, List.set_cons_zero, List.set_cons_succ]); (try refine eagerOpen rfl ?_))
          repeat (first
            | (first | (apply wpEager_take; (· rfl); (· (intro w' hb'; go_simp; try with_reducible rfl)); (try simp only [Act.put, List.setIfInBounds_toArray, List.set_cons_zero, List.set_cons_succ]); (try refine eagerOpen rfl ?_)) | (refine wpEager_skip (by rfl) ?_; (try simp only [Act.put, List.setIfInBounds_toArray, List.set_cons_zero, List.set_cons_succ]); (try refine eagerOpen rfl ?_)) | (refine wpEager_off (by rfl) ?_; (try simp only [Act.put, List.setIfInBounds_toArray, List.set_cons_zero, List.set_cons_succ]); (try refine eagerOpen rfl ?_)))
            | (apply wpEager_take; (· rfl); (· (intro w' hb'; have hk' := (fun w' hb => HC0.out w' hb) w' hb'; go_split_ands; go_simp; try with_reducible rfl)); (try simp only [Act.put, List.setIfInBounds_toArray, List.set_cons_zero, List.set_cons_succ]); (try refine eagerOpen rfl ?_))
            | (apply wpEager_take; (· rfl); (· (intro w' hb'; have hk' := (fun w' hb => HCS.out w' hb) w' hb'; go_split_ands; go_simp; try with_reducible rfl)); (try simp only [Act.put, List.setIfInBounds_toArray, List.set_cons_zero, List.set_cons_succ]); (try refine eagerOpen rfl ?_))
            | (apply wpEager_take; (· rfl); (· (intro w' hb'; have hk' := (fun w' hb => HCF.out w' hb) w' hb'; go_split_ands; go_simp; try with_reducible rfl)); (try simp only [Act.put, List.setIfInBounds_toArray, List.set_cons_zero, List.set_cons_succ]); (try refine eagerOpen rfl ?_)))
          (refine wpEager_op (by rfl) (fun K hK => ?_); go_simp; (refine (HUN.out _ hy1).mono ?_; rintro e y ⟨rfl, hb2⟩; have hy2 := hy1.trans (hb2.mono hy1.size)); refine Shut.out hK _ _ (by assumption) ?_; clear hK K; (try simp only [Act.put, List.setIfInBounds_toArray, List.set_cons_zero, List.set_cons_succ]); (try refine eagerOpen rfl ?_))
          repeat (first
            | (first | (apply wpEager_take; (· rfl); (· (intro w' hb'; go_simp; try with_reducible rfl)); (try simp only [Act.put, List.setIfInBounds_toArray, List.set_cons_zero, List.set_cons_succ]); (try refine eagerOpen rfl ?_)) | (refine wpEager_skip (by rfl) ?_; (try simp only [Act.put, List.setIfInBounds_toArray, List.set_cons_zero, List.set_cons_succ]); (try refine eagerOpen rfl ?_)) | (refine wpEager_off (by rfl) ?_; (try simp only [Act.put, List.setIfInBounds_toArray, List.set_cons_zero, List.set_cons_succ]); (try refine eagerOpen rfl ?_))))
          refine eagerEnd ?_
          have HY := Lib.hid hy2
          have HLQ : Hid (acts d a FR = [.cut, .sync, .put FR, .sync]) := by show _ = _; unfold acts; rw [if_pos HFU.out]
          clear hb hb2 hy0 hy1 hy2 hd1 hd2 hd3 hd4 HFU
          skip
          -- what was asked is known: world y, Below w6 y (HY), the calls ([.cut, .sync, .put FR, .sync] : List LA), HLL : acts d a FR = ([.cut, .sync, .put FR, .sync] : List LA)
          have hrw := heap_alloc_last y (.cells (([.cut, .sync, .put FR, .sync] : List LA).map (fnV w.heap.size bf bb)).toArray 99)
          have hal := Below.allocs y (.cells (([.cut, .sync, .put FR, .sync] : List LA).map (fnV w.heap.size bf bb)).toArray 99)
          have hb8 := HY.out.trans (hal.mono HY.out.size)
          have HS8 := Lib.hid (HS6.out.below hb8)
          have HB8 := Lib.hid (HB6.out.trans (hb8.mono HB6.out.size))
          have hev : Env base sb db w.heap.size bf bb a FR (y.alloc (.cells (([.cut, .sync, .put FR, .sync] : List LA).map (fnV w.heap.size bf bb)).toArray 99)) := ⟨Below.keepOld hb8 HE6.out, Below.keepOld hb8 HBF6.out, ⟨p2, cw, Below.keepOld hb8 HBX6.out, HRD6.out.below hb8⟩, ⟨_, Below.keepOld hb8 HR6.out, rfl⟩⟩
          have HEV8 := Lib.hid hev
          have HLY := Lib.hid (lay_any (gl := y.heap.size) (N := N) ([.cut, .sync, .put FR, .sync] : List LA) _ HFI.out hev HS8.out.dx (by simp) (by simp) HFL.out HNN.out HFW.out hrw)
          clear hrw hal hb8 hev HY HC0 HCS HCF HSZ HUN HE6 HBF6 HBX6 HRD6 HR6 HS6 HB6
          go_wp2_with fail
          refine HLY.out.mono ?_
          rintro e w9 ⟨rfl, hdx, hkt⟩
          obtain ⟨PE, PD, PS⟩ := put_eqs HFIT.out HNX.out HWB.out HLQ.out
          have HPE := Lib.hid PE
          have HPD := Lib.hid PD
          have HPS := Lib.hid PS
          have HS9 := Lib.hid (HS8.out.kt hkt hdx)
          have HK9 := Lib.hid ((KS.of_below HB8.out).trans (KS.of_kt hkt))
          have HKT9 := Lib.hid ((KT.of_below HB8.out).trans hkt)
          have HEV9 := Lib.hid (HEV8.out.kt hkt)
          clear PE PD PS hdx hkt HLY HS8 HB8 HEV8
          by_cases hE : layE a ([.cut, .sync, .put FR, .sync] : List LA) d = 0
          · have hq0 : (layE a ([.cut, .sync, .put FR, .sync] : List LA) d == 0) = true := beq_iff_eq.2 hE
            skip
            obtain ⟨pb9, cb9, bx9, hrd9, hbx9, hrow9⟩ := HS9.out.cells
            have hn1 : ¬ w.heap.size = sb := fun e => by
              have h9 := HEV9.out.hs
              rw [e, hrow9] at h9
              injection h9 with q1
              injection q1 with _ q2
              exact absurd q2 (by decide)
            have hn2 : ¬ bf = sb := fun e => by
              have h9 := HEV9.out.hf
              rw [e, hrow9] at h9
              injection h9 with q1
              injection q1 with _ q2
              exact absurd q2 (by decide)
            have HT0 : Hid (∀ w', Turns (fun k => k = sb) w9 w' → w'.cell? ⟨w.heap.size, 0, none⟩ = some (.pointer (some ⟨sb, 0, none⟩))) := fun w' ht => by rw [cell_of_row _ _ _ _ _ _ (ht.keep HEV9.out.hs hn1)]; rfl
            have HT1 : Hid (∀ w', Turns (fun k => k = sb) w9 w' → w'.cell? ⟨bf, 0, none⟩ = some (.int .i64 (a : Int))) := fun w' ht => by rw [cell_of_row _ _ _ _ _ _ (ht.keep HEV9.out.hf hn2)]; rfl
            have HROW9 := Lib.hid hrow9
            have HBS9 := Lib.hid (HK.out w9 HKT9.out)
            have HXB : Hid (x.length ≤ 3000) := HXL.out
            have hle9 := HBS9.out.le
            have hmax9 := HBS9.out.max
            have HB9 : Hid (base ≤ w9.heap.size) := HS9.out.dx.1
            have HF9 : Hid (∀ (y : World) (p' : Option Addr) (c' : Nat), SX base sb db a b (layD a ([.cut, .sync, .put FR, .sync] : List LA) d) ⟨(a : Int), TN, x⟩ y → KS base w9 y → SPutP base sb db a b d s x w (.returned (.int .i64 (layE a ([.cut, .sync, .put FR, .sync] : List LA) d))) y) := fun y p' c' h1 h2 => ⟨by rw [HPE.out], by rw [HPD.out, HPS.out, if_pos hE, HTN.out]; exact h1, HK9.out.trans h2⟩
            clear hrd9 hbx9 hrow9 hE HPE HPD HPS
            generalize layE a ([.cut, .sync, .put FR, .sync] : List LA) d = EV at *
            generalize layD a ([.cut, .sync, .put FR, .sync] : List LA) d = DV at *
            go_upto_region 16 with fail
            refine wp_region_tree (Turns (fun k => k = sb) w9) (.take 0 (.take 1 (.take 2 (.take 3 (.take 4 (.take 5 (.take 6 (.take 9 (.two 7 10 (.take 8 (.one 10 (.take 11 (.take 12 (.one 13 (.take 14 (.take 15 (.one 16 (.take 17 (.take 18 (.one 19 .nil))))))))))) (.one 7 (.take 8 (.take 11 (.take 12 (.one 13 (.take 14 (.take 15 (.one 16 (.take 17 (.take 18 (.one 19 .nil)))))))))))))))))))) (by kernel_rfl) (by kernel_rfl) (Turns.of_below (below_drew1 _ _)) ?_
            have hy0 : Below w9.heap.size w9 w9.drew := below_drew1 _ _
            repeat (first
              | (apply tree_take; (· rfl); (· rfl); (· (intro w' hb'; go_simp; try with_reducible rfl)); try simp only [Act.put, List.setIfInBounds_toArray, List.set_cons_zero, List.set_cons_succ])
              | (apply tree_take; (· rfl); (· rfl); (· (intro w' hb'; have hk' := (HT0.out) w' hb'; go_simp; try with_reducible rfl)); try simp only [Act.put, List.setIfInBounds_toArray, List.set_cons_zero, List.set_cons_succ])
              | (apply tree_take; (· rfl); (· rfl); (· (intro w' hb'; have hk' := (HT1.out) w' hb'; go_simp; try with_reducible rfl)); try simp only [Act.put, List.setIfInBounds_toArray, List.set_cons_zero, List.set_cons_succ]))
            have hkb := HBS9.out.below hy0
            refine tree_two ?_ ?_
            · have z7 : w9.drew.cell? ⟨sb, 4, none⟩ = some (.int .u64 (s.turn : Int)) := (slA_cells (Below.keepOld hy0 HROW9.out)).2.2.2.2.1
              refine tree_one rfl (by rfl) (fun K hK => ?_)
              go_simp
              refine Shut.out hK _ _ (Turns.of_below hy0) ?_
              clear hK K z7
              try simp only [Act.put, List.setIfInBounds_toArray, List.set_cons_zero, List.set_cons_succ]
              repeat (apply tree_take; (· rfl); (· rfl); (· (intro w' hb'; go_simp; try with_reducible rfl)); try simp only [Act.put, List.setIfInBounds_toArray, List.set_cons_zero, List.set_cons_succ])
              refine tree_one rfl (by rfl) (fun K hK => oper_of_list rfl ?_)
              refine wpList_append_nx rfl _ _ 22 rfl (base := w9.heap.size) Tryz.underlying22 info8 rfl (by omega) rfl (World.ownsRow_nil _ _ _ _) rfl hkb (bytesV_one _) ⟨by omega, by have := HXB.out; omega⟩ hy0.size ?_
              intro p8 c8 wz ho8 hg8 _ _
              have hbz : Below w9.heap.size w9 wz := hy0.grown hg8 hy0.size (fun k hk => by
                have hk : (Value.slice none 0 0).ownBlock = some k := hk
                simp [Value.ownBlock] at hk)
              refine only_end (Shut.out hK _ _ (Turns.of_below hbz) ?_)
              clear hK K
              try simp only [Act.put, List.setIfInBounds_toArray, List.set_cons_zero, List.set_cons_succ]
              have HOZ : Hid (wz.ownsRow w9.heap.size 5 1 (.slice p8 x.length c8) x.length (bytesV x)) := by
                have h9 := ho8
                rw [Nat.zero_add, List.nil_append] at h9
                exact h9
              clear ho8 hg8
              try rw [Nat.zero_add]
              repeat (apply tree_take; (· rfl); (· rfl); (· (intro w' hb'; go_simp; try with_reducible rfl)); try simp only [Act.put, List.setIfInBounds_toArray, List.set_cons_zero, List.set_cons_succ])
              skip
              have hrz := Below.keepOld hbz HROW9.out
              have hfz : ∀ j, wz.frozen? ⟨sb, j, none⟩ = false := fun j => frozen_of_row _ _ _ _ _ hrz
              obtain ⟨_, _, _, z3, _, _, _⟩ := slA_cells hrz
              have r1 := Dk.cell_put (off := 3) (.int .i64 (a : Int)) hrz
              have r2 := Dk.cell_put (off := 4) (.int .u64 (TN : Int)) r1
              have hfz1 : ∀ j, (wz.setCell ⟨sb, 3, none⟩ (.int .i64 (a : Int))).frozen? ⟨sb, j, none⟩ = false := fun j => frozen_of_row _ _ _ _ _ r1
              have hfz2 : ∀ j, ((wz.setCell ⟨sb, 3, none⟩ (.int .i64 (a : Int))).setCell ⟨sb, 4, none⟩ (.int .u64 (TN : Int))).frozen? ⟨sb, j, none⟩ = false := fun j => frozen_of_row _ _ _ _ _ r2
              have z4 : (wz.setCell ⟨sb, 3, none⟩ (.int .i64 (a : Int))).cell? ⟨sb, 4, none⟩ = some (.int .u64 (s.turn : Int)) := by rw [cell_of_row _ _ _ _ _ _ r1]; rfl
              have z5 : ((wz.setCell ⟨sb, 3, none⟩ (.int .i64 (a : Int))).setCell ⟨sb, 4, none⟩ (.int .u64 (TN : Int))).cell? ⟨sb, 5, none⟩ = some (.slice pb9 s.body.length cb9) := by rw [cell_of_row _ _ _ _ _ _ r2]; rfl
              have t0 : Turns (fun k => k = sb) w9 wz := Turns.of_below hbz
              have t1 : Turns (fun k => k = sb) w9 (wz.setCell ⟨sb, 3, none⟩ (.int .i64 (a : Int))) := Turns.setCell (S := fun k => k = sb) (p := ⟨sb, 3, none⟩) t0 (fun _ => rfl) _
              have t2 : Turns (fun k => k = sb) w9 ((wz.setCell ⟨sb, 3, none⟩ (.int .i64 (a : Int))).setCell ⟨sb, 4, none⟩ (.int .u64 (TN : Int))) := Turns.setCell (S := fun k => k = sb) (p := ⟨sb, 4, none⟩) t1 (fun _ => rfl) _
              have t3 : Turns (fun k => k = sb) w9 (((wz.setCell ⟨sb, 3, none⟩ (.int .i64 (a : Int))).setCell ⟨sb, 4, none⟩ (.int .u64 (TN : Int))).setCell ⟨sb, 5, none⟩ (.slice p8 x.length c8)) := Turns.setCell (S := fun k => k = sb) (p := ⟨sb, 5, none⟩) t2 (fun _ => rfl) _
              have hst := (HS9.out.below hbz).set3 (a : Int) (by have := HFI.out; omega) TN HT.out p8 c8 x ((Rd.of_own HOZ.out).base HB9.out)
              have HEND := Lib.hid (HF9.out _ p8 c8 hst.1 ((KS.of_below hbz).trans hst.2.1))
              clear hst r1 r2 hrz
              refine tree_one rfl (by rfl) (fun K hK => ?_)
              go_simp
              refine Shut.out hK _ _ t1 ?_
              clear hK K
              try simp only [Act.put, List.setIfInBounds_toArray, List.set_cons_zero, List.set_cons_succ]
              (apply tree_take; (· rfl); (· rfl); (· (intro w' hb'; go_simp; try with_reducible rfl)); try simp only [Act.put, List.setIfInBounds_toArray, List.set_cons_zero, List.set_cons_succ])
              (apply tree_take; (· rfl); (· rfl); (· (intro w' hb'; go_simp; try with_reducible rfl)); try simp only [Act.put, List.setIfInBounds_toArray, List.set_cons_zero, List.set_cons_succ])
              refine tree_one rfl (by rfl) (fun K hK => ?_)
              go_simp
              refine Shut.out hK _ _ t2 ?_
              clear hK K
              try simp only [Act.put, List.setIfInBounds_toArray, List.set_cons_zero, List.set_cons_succ]
              (apply tree_take; (· rfl); (· rfl); (· (intro w' hb'; go_simp; try with_reducible rfl)); try simp only [Act.put, List.setIfInBounds_toArray, List.set_cons_zero, List.set_cons_succ])
              (apply tree_take; (· rfl); (· rfl); (· (intro w' hb'; go_simp; try with_reducible rfl)); try simp only [Act.put, List.setIfInBounds_toArray, List.set_cons_zero, List.set_cons_succ])
              refine tree_one rfl (by rfl) (fun K hK => ?_)
              go_simp
              refine Shut.out hK _ _ t3 ?_
              clear hK K
              try simp only [Act.put, List.setIfInBounds_toArray, List.set_cons_zero, List.set_cons_succ]
              refine tree_nil ?_
              clear t0 t1 t2 t3
              go_wp2_with fail
              go_ret
              exact HEND.out
            · refine tree_one rfl (by rfl) (fun K hK => oper_of_list rfl ?_)
              refine wpList_append_nx rfl _ _ 22 rfl (base := w9.heap.size) Tryz.underlying22 info8 rfl (by omega) rfl (World.ownsRow_nil _ _ _ _) rfl hkb (bytesV_one _) ⟨by omega, by have := HXB.out; omega⟩ hy0.size ?_
              intro p8 c8 wz ho8 hg8 _ _
              have hbz : Below w9.heap.size w9 wz := hy0.grown hg8 hy0.size (fun k hk => by
                have hk : (Value.slice none 0 0).ownBlock = some k := hk
                simp [Value.ownBlock] at hk)
              refine only_end (Shut.out hK _ _ (Turns.of_below hbz) ?_)
              clear hK K
              try simp only [Act.put, List.setIfInBounds_toArray, List.set_cons_zero, List.set_cons_succ]
              have HOZ : Hid (wz.ownsRow w9.heap.size 5 1 (.slice p8 x.length c8) x.length (bytesV x)) := by
                have h9 := ho8
                rw [Nat.zero_add, List.nil_append] at h9
                exact h9
              clear ho8 hg8
              try rw [Nat.zero_add]
              have z7 : wz.cell? ⟨sb, 4, none⟩ = some (.int .u64 (s.turn : Int)) := (slA_cells (Below.keepOld hbz HROW9.out)).2.2.2.2.1
              refine tree_one rfl (by rfl) (fun K hK => ?_)
              go_simp
              refine Shut.out hK _ _ (Turns.of_below hbz) ?_
              clear hK K z7
              try simp only [Act.put, List.setIfInBounds_toArray, List.set_cons_zero, List.set_cons_succ]
              repeat (apply tree_take; (· rfl); (· rfl); (· (intro w' hb'; go_simp; try with_reducible rfl)); try simp only [Act.put, List.setIfInBounds_toArray, List.set_cons_zero, List.set_cons_succ])
              skip
              have hrz := Below.keepOld hbz HROW9.out
              have hfz : ∀ j, wz.frozen? ⟨sb, j, none⟩ = false := fun j => frozen_of_row _ _ _ _ _ hrz
              obtain ⟨_, _, _, z3, _, _, _⟩ := slA_cells hrz
              have r1 := Dk.cell_put (off := 3) (.int .i64 (a : Int)) hrz
              have r2 := Dk.cell_put (off := 4) (.int .u64 (TN : Int)) r1
              have hfz1 : ∀ j, (wz.setCell ⟨sb, 3, none⟩ (.int .i64 (a : Int))).frozen? ⟨sb, j, none⟩ = false := fun j => frozen_of_row _ _ _ _ _ r1
              have hfz2 : ∀ j, ((wz.setCell ⟨sb, 3, none⟩ (.int .i64 (a : Int))).setCell ⟨sb, 4, none⟩ (.int .u64 (TN : Int))).frozen? ⟨sb, j, none⟩ = false := fun j => frozen_of_row _ _ _ _ _ r2
              have z4 : (wz.setCell ⟨sb, 3, none⟩ (.int .i64 (a : Int))).cell? ⟨sb, 4, none⟩ = some (.int .u64 (s.turn : Int)) := by rw [cell_of_row _ _ _ _ _ _ r1]; rfl
              have z5 : ((wz.setCell ⟨sb, 3, none⟩ (.int .i64 (a : Int))).setCell ⟨sb, 4, none⟩ (.int .u64 (TN : Int))).cell? ⟨sb, 5, none⟩ = some (.slice pb9 s.body.length cb9) := by rw [cell_of_row _ _ _ _ _ _ r2]; rfl
              have t0 : Turns (fun k => k = sb) w9 wz := Turns.of_below hbz
              have t1 : Turns (fun k => k = sb) w9 (wz.setCell ⟨sb, 3, none⟩ (.int .i64 (a : Int))) := Turns.setCell (S := fun k => k = sb) (p := ⟨sb, 3, none⟩) t0 (fun _ => rfl) _
              have t2 : Turns (fun k => k = sb) w9 ((wz.setCell ⟨sb, 3, none⟩ (.int .i64 (a : Int))).setCell ⟨sb, 4, none⟩ (.int .u64 (TN : Int))) := Turns.setCell (S := fun k => k = sb) (p := ⟨sb, 4, none⟩) t1 (fun _ => rfl) _
              have t3 : Turns (fun k => k = sb) w9 (((wz.setCell ⟨sb, 3, none⟩ (.int .i64 (a : Int))).setCell ⟨sb, 4, none⟩ (.int .u64 (TN : Int))).setCell ⟨sb, 5, none⟩ (.slice p8 x.length c8)) := Turns.setCell (S := fun k => k = sb) (p := ⟨sb, 5, none⟩) t2 (fun _ => rfl) _
              have hst := (HS9.out.below hbz).set3 (a : Int) (by have := HFI.out; omega) TN HT.out p8 c8 x ((Rd.of_own HOZ.out).base HB9.out)
              have HEND := Lib.hid (HF9.out _ p8 c8 hst.1 ((KS.of_below hbz).trans hst.2.1))
              clear hst r1 r2 hrz
              refine tree_one rfl (by rfl) (fun K hK => ?_)
              go_simp
              refine Shut.out hK _ _ t1 ?_
              clear hK K
              try simp only [Act.put, List.setIfInBounds_toArray, List.set_cons_zero, List.set_cons_succ]
              (apply tree_take; (· rfl); (· rfl); (· (intro w' hb'; go_simp; try with_reducible rfl)); try simp only [Act.put, List.setIfInBounds_toArray, List.set_cons_zero, List.set_cons_succ])
              (apply tree_take; (· rfl); (· rfl); (· (intro w' hb'; go_simp; try with_reducible rfl)); try simp only [Act.put, List.setIfInBounds_toArray, List.set_cons_zero, List.set_cons_succ])
              refine tree_one rfl (by rfl) (fun K hK => ?_)
              go_simp
              refine Shut.out hK _ _ t2 ?_
              clear hK K
              try simp only [Act.put, List.setIfInBounds_toArray, List.set_cons_zero, List.set_cons_succ]
              (apply tree_take; (· rfl); (· rfl); (· (intro w' hb'; go_simp; try with_reducible rfl)); try simp only [Act.put, List.setIfInBounds_toArray, List.set_cons_zero, List.set_cons_succ])
              (apply tree_take; (· rfl); (· rfl); (· (intro w' hb'; go_simp; try with_reducible rfl)); try simp only [Act.put, List.setIfInBounds_toArray, List.set_cons_zero, List.set_cons_succ])
              refine tree_one rfl (by rfl) (fun K hK => ?_)
              go_simp
              refine Shut.out hK _ _ t3 ?_
              clear hK K
              try simp only [Act.put, List.setIfInBounds_toArray, List.set_cons_zero, List.set_cons_succ]
              refine tree_nil ?_
              clear t0 t1 t2 t3
              go_wp2_with fail
              go_ret
              exact HEND.out
          · have hq0 : (layE a ([.cut, .sync, .put FR, .sync] : List LA) d == 0) = false := beq_eq_false_iff_ne.2 hE
            have HF1 : Hid (SPutP base sb db a b d s x w (.returned (.int .i64 (layE a ([.cut, .sync, .put FR, .sync] : List LA) d))) w9) := ⟨by rw [HPE.out], by rw [HPD.out, HPS.out, if_neg hE]; exact HS9.out, HK9.out⟩
            clear hE HPE HPD HPS HS9 HK9
            generalize layE a ([.cut, .sync, .put FR, .sync] : List LA) d = EV at *
            go_wp2_with fail
            go_ret
            exact HF1.out
        · have hd3 : decide ((0 : Int) < (unitsAll (fD d a).steps : Int)) = false := decide_eq_false (by omega)
          have hd4 : decide (0 < unitsAll (fD d a).steps) = false := decide_eq_false hun
          have HFU : Hid (¬ full d a = true) := by show ¬ _; unfold full; rw [hd2, hd4]; decide
          clear hlen hun
          go_upto_region 12 with fail
          skip
          refine wp_region_eager [(0, true), (1, true), (2, true), (3, true), (4, true), (5, false), (6, true), (7, true), (8, true), (9, true), (10, true), (11, true), (12, true), (13, false), (14, true), (15, true)] (by kernel_rfl) (by kernel_rfl) (eagerOpen rfl ?_)
          have hy0 : Below w6.heap.size w6 w6.drew := below_drew1 _ _
          repeat (first
            | (first | (apply wpEager_take; (· rfl); (· (intro w' hb'; go_simp; try with_reducible rfl)); (try simp only [Act.put, List.setIfInBounds_toArray, List.set_cons_zero, List.set_cons_succ]); (try refine eagerOpen rfl ?_)) | (refine wpEager_skip (by rfl) ?_; (try simp only [Act.put, List.setIfInBounds_toArray, List.set_cons_zero, List.set_cons_succ]); (try refine eagerOpen rfl ?_)) | (refine wpEager_off (by rfl) ?_; (try simp only [Act.put, List.setIfInBounds_toArray, List.set_cons_zero, List.set_cons_succ]); (try refine eagerOpen rfl ?_)))
            | (apply wpEager_take; (· rfl); (· (intro w' hb'; have hk' := (fun w' hb => HC0.out w' hb) w' hb'; go_split_ands; go_simp; try with_reducible rfl)); (try simp only [Act.put, List.setIfInBounds_toArray, List.set_cons_zero, List.set_cons_succ]); (try refine eagerOpen rfl ?_))
            | (apply wpEager_take; (· rfl); (· (intro w' hb'; have hk' := (fun w' hb => HCS.out w' hb) w' hb'; go_split_ands; go_simp; try with_reducible rfl)); (try simp only [Act.put, List.setIfInBounds_toArray, List.set_cons_zero, List.set_cons_succ]); (try refine eagerOpen rfl ?_))
            | (apply wpEager_take; (· rfl); (· (intro w' hb'; have hk' := (fun w' hb => HCF.out w' hb) w' hb'; go_split_ands; go_simp; try with_reducible rfl)); (try simp only [Act.put, List.setIfInBounds_toArray, List.set_cons_zero, List.set_cons_succ]); (try refine eagerOpen rfl ?_)))
          (refine wpEager_op (by rfl) (fun K hK => ?_); go_simp; (refine (HSZ.out _ hy0).mono ?_; rintro e y0 ⟨rfl, hb⟩; have hy1 := hy0.trans hb); refine Shut.out hK _ _ (by assumption) ?_; clear hK K; (try simp only [Act.put, List.setIfInBounds_toArray, List.set_cons_zero, List.set_cons_succ]); (try refine eagerOpen rfl ?_))
          repeat (first
            | (first | (apply wpEager_take; (· rfl); (· (intro w' hb'; go_simp; try with_reducible rfl)); (try simp only [Act.put, List.setIfInBounds_toArray, List.set_cons_zero, List.set_cons_succ]); (try refine eagerOpen rfl ?_)) | (refine wpEager_skip (by rfl) ?_; (try simp only [Act.put, List.setIfInBounds_toArray, List.set_cons_zero, List.set_cons_succ]); (try refine eagerOpen rfl ?_)) | (refine wpEager_off (by rfl) ?_; (try simp only [Act.put, List.setIfInBounds_toArray, List.set_cons_zero, List.set_cons_succ]); (try refine eagerOpen rfl ?_)))
            | (apply wpEager_take; (· rfl); (· (intro w' hb'; have hk' := (fun w' hb => HC0.out w' hb) w' hb'; go_split_ands; go_simp; try with_reducible rfl)); (try simp only [Act.put, List.setIfInBounds_toArray, List.set_cons_zero, List.set_cons_succ]); (try refine eagerOpen rfl ?_))
            | (apply wpEager_take; (· rfl); (· (intro w' hb'; have hk' := (fun w' hb => HCS.out w' hb) w' hb'; go_split_ands; go_simp; try with_reducible rfl)); (try simp only [Act.put, List.setIfInBounds_toArray, List.set_cons_zero, List.set_cons_succ]); (try refine eagerOpen rfl ?_))
            | (apply wpEager_take; (· rfl); (· (intro w' hb'; have hk' := (fun w' hb => HCF.out w' hb) w' hb'; go_split_ands; go_simp; try with_reducible rfl)); (try simp only [Act.put, List.setIfInBounds_toArray, List.set_cons_zero, List.set_cons_succ]); (try refine eagerOpen rfl ?_)))
          (refine wpEager_op (by rfl) (fun K hK => ?_); go_simp; (refine (HUN.out _ hy1).mono ?_; rintro e y ⟨rfl, hb2⟩; have hy2 := hy1.trans (hb2.mono hy1.size)); refine Shut.out hK _ _ (by assumption) ?_; clear hK K; (try simp only [Act.put, List.setIfInBounds_toArray, List.set_cons_zero, List.set_cons_succ]); (try refine eagerOpen rfl ?_))
          repeat (first
            | (first | (apply wpEager_take; (· rfl); (· (intro w' hb'; go_simp; try with_reducible rfl)); (try simp only [Act.put, List.setIfInBounds_toArray, List.set_cons_zero, List.set_cons_succ]); (try refine eagerOpen rfl ?_)) | (refine wpEager_skip (by rfl) ?_; (try simp only [Act.put, List.setIfInBounds_toArray, List.set_cons_zero, List.set_cons_succ]); (try refine eagerOpen rfl ?_)) | (refine wpEager_off (by rfl) ?_; (try simp only [Act.put, List.setIfInBounds_toArray, List.set_cons_zero, List.set_cons_succ]); (try refine eagerOpen rfl ?_))))
          refine eagerEnd ?_
          have HY := Lib.hid hy2
          have HLQ : Hid (acts d a FR = [.put FR, .sync]) := by show _ = _; unfold acts; rw [if_neg HFU.out]
          clear hb hb2 hy0 hy1 hy2 hd1 hd2 hd3 hd4 HFU
          skip
          -- what was asked is known: world y, Below w6 y (HY), the calls ([.put FR, .sync] : List LA), HLL : acts d a FR = ([.put FR, .sync] : List LA)
          have hrw := heap_alloc_last y (.cells (([.put FR, .sync] : List LA).map (fnV w.heap.size bf bb)).toArray 99)
          have hal := Below.allocs y (.cells (([.put FR, .sync] : List LA).map (fnV w.heap.size bf bb)).toArray 99)
          have hb8 := HY.out.trans (hal.mono HY.out.size)
          have HS8 := Lib.hid (HS6.out.below hb8)
          have HB8 := Lib.hid (HB6.out.trans (hb8.mono HB6.out.size))
          have hev : Env base sb db w.heap.size bf bb a FR (y.alloc (.cells (([.put FR, .sync] : List LA).map (fnV w.heap.size bf bb)).toArray 99)) := ⟨Below.keepOld hb8 HE6.out, Below.keepOld hb8 HBF6.out, ⟨p2, cw, Below.keepOld hb8 HBX6.out, HRD6.out.below hb8⟩, ⟨_, Below.keepOld hb8 HR6.out, rfl⟩⟩
          have HEV8 := Lib.hid hev
          have HLY := Lib.hid (lay_any (gl := y.heap.size) (N := N) ([.put FR, .sync] : List LA) _ HFI.out hev HS8.out.dx (by simp) (by simp) HFL.out HNN.out HFW.out hrw)
          clear hrw hal hb8 hev HY HC0 HCS HCF HSZ HUN HE6 HBF6 HBX6 HRD6 HR6 HS6 HB6
          go_wp2_with fail
          refine HLY.out.mono ?_
          rintro e w9 ⟨rfl, hdx, hkt⟩
          obtain ⟨PE, PD, PS⟩ := put_eqs HFIT.out HNX.out HWB.out HLQ.out
          have HPE := Lib.hid PE
          have HPD := Lib.hid PD
          have HPS := Lib.hid PS
          have HS9 := Lib.hid (HS8.out.kt hkt hdx)
          have HK9 := Lib.hid ((KS.of_below HB8.out).trans (KS.of_kt hkt))
          have HKT9 := Lib.hid ((KT.of_below HB8.out).trans hkt)
          have HEV9 := Lib.hid (HEV8.out.kt hkt)
          clear PE PD PS hdx hkt HLY HS8 HB8 HEV8
          by_cases hE : layE a ([.put FR, .sync] : List LA) d = 0
          · have hq0 : (layE a ([.put FR, .sync] : List LA) d == 0) = true := beq_iff_eq.2 hE
            skip
            obtain ⟨pb9, cb9, bx9, hrd9, hbx9, hrow9⟩ := HS9.out.cells
            have hn1 : ¬ w.heap.size = sb := fun e => by
              have h9 := HEV9.out.hs
              rw [e, hrow9] at h9
              injection h9 with q1
              injection q1 with _ q2
              exact absurd q2 (by decide)
            have hn2 : ¬ bf = sb := fun e => by
              have h9 := HEV9.out.hf
              rw [e, hrow9] at h9
              injection h9 with q1
              injection q1 with _ q2
              exact absurd q2 (by decide)
            have HT0 : Hid (∀ w', Turns (fun k => k = sb) w9 w' → w'.cell? ⟨w.heap.size, 0, none⟩ = some (.pointer (some ⟨sb, 0, none⟩))) := fun w' ht => by rw [cell_of_row _ _ _ _ _ _ (ht.keep HEV9.out.hs hn1)]; rfl
            have HT1 : Hid (∀ w', Turns (fun k => k = sb) w9 w' → w'.cell? ⟨bf, 0, none⟩ = some (.int .i64 (a : Int))) := fun w' ht => by rw [cell_of_row _ _ _ _ _ _ (ht.keep HEV9.out.hf hn2)]; rfl
            have HROW9 := Lib.hid hrow9
            have HBS9 := Lib.hid (HK.out w9 HKT9.out)
            have HXB : Hid (x.length ≤ 3000) := HXL.out
            have hle9 := HBS9.out.le
            have hmax9 := HBS9.out.max
            have HB9 : Hid (base ≤ w9.heap.size) := HS9.out.dx.1
            have HF9 : Hid (∀ (y : World) (p' : Option Addr) (c' : Nat), SX base sb db a b (layD a ([.put FR, .sync] : List LA) d) ⟨(a : Int), TN, x⟩ y → KS base w9 y → SPutP base sb db a b d s x w (.returned (.int .i64 (layE a ([.put FR, .sync] : List LA) d))) y) := fun y p' c' h1 h2 => ⟨by rw [HPE.out], by rw [HPD.out, HPS.out, if_pos hE, HTN.out]; exact h1, HK9.out.trans h2⟩
            clear hrd9 hbx9 hrow9 hE HPE HPD HPS
            generalize layE a ([.put FR, .sync] : List LA) d = EV at *
            generalize layD a ([.put FR, .sync] : List LA) d = DV at *
            go_upto_region 16 with fail
            refine wp_region_tree (Turns (fun k => k = sb) w9) (.take 0 (.take 1 (.take 2 (.take 3 (.take 4 (.take 5 (.take 6 (.take 9 (.two 7 10 (.take 8 (.one 10 (.take 11 (.take 12 (.one 13 (.take 14 (.take 15 (.one 16 (.take 17 (.take 18 (.one 19 .nil))))))))))) (.one 7 (.take 8 (.take 11 (.take 12 (.one 13 (.take 14 (.take 15 (.one 16 (.take 17 (.take 18 (.one 19 .nil)))))))))))))))))))) (by kernel_rfl) (by kernel_rfl) (Turns.of_below (below_drew1 _ _)) ?_
            have hy0 : Below w9.heap.size w9 w9.drew := below_drew1 _ _
            repeat (first
              | (apply tree_take; (· rfl); (· rfl); (· (intro w' hb'; go_simp; try with_reducible rfl)); try simp only [Act.put, List.setIfInBounds_toArray, List.set_cons_zero, List.set_cons_succ])
              | (apply tree_take; (· rfl); (· rfl); (· (intro w' hb'; have hk' := (HT0.out) w' hb'; go_simp; try with_reducible rfl)); try simp only [Act.put, List.setIfInBounds_toArray, List.set_cons_zero, List.set_cons_succ])
              | (apply tree_take; (· rfl); (· rfl); (· (intro w' hb'; have hk' := (HT1.out) w' hb'; go_simp; try with_reducible rfl)); try simp only [Act.put, List.setIfInBounds_toArray, List.set_cons_zero, List.set_cons_succ]))
            have hkb := HBS9.out.below hy0
            refine tree_two ?_ ?_
            · have z7 : w9.drew.cell? ⟨sb, 4, none⟩ = some (.int .u64 (s.turn : Int)) := (slA_cells (Below.keepOld hy0 HROW9.out)).2.2.2.2.1
              refine tree_one rfl (by rfl) (fun K hK => ?_)
              go_simp
              refine Shut.out hK _ _ (Turns.of_below hy0) ?_
              clear hK K z7
              try simp only [Act.put, List.setIfInBounds_toArray, List.set_cons_zero, List.set_cons_succ]
              repeat (apply tree_take; (· rfl); (· rfl); (· (intro w' hb'; go_simp; try with_reducible rfl)); try simp only [Act.put, List.setIfInBounds_toArray, List.set_cons_zero, List.set_cons_succ])
              refine tree_one rfl (by rfl) (fun K hK => oper_of_list rfl ?_)
              refine wpList_append_nx rfl _ _ 22 rfl (base := w9.heap.size) Tryz.underlying22 info8 rfl (by omega) rfl (World.ownsRow_nil _ _ _ _) rfl hkb (bytesV_one _) ⟨by omega, by have := HXB.out; omega⟩ hy0.size ?_
              intro p8 c8 wz ho8 hg8 _ _
              have hbz : Below w9.heap.size w9 wz := hy0.grown hg8 hy0.size (fun k hk => by
                have hk : (Value.slice none 0 0).ownBlock = some k := hk
                simp [Value.ownBlock] at hk)
              refine only_end (Shut.out hK _ _ (Turns.of_below hbz) ?_)
              clear hK K
              try simp only [Act.put, List.setIfInBounds_toArray, List.set_cons_zero, List.set_cons_succ]
              have HOZ : Hid (wz.ownsRow w9.heap.size 5 1 (.slice p8 x.length c8) x.length (bytesV x)) := by
                have h9 := ho8
                rw [Nat.zero_add, List.nil_append] at h9
                exact h9
              clear ho8 hg8
              try rw [Nat.zero_add]
              repeat (apply tree_take; (· rfl); (· rfl); (· (intro w' hb'; go_simp; try with_reducible rfl)); try simp only [Act.put, List.setIfInBounds_toArray, List.set_cons_zero, List.set_cons_succ])
              skip
              have hrz := Below.keepOld hbz HROW9.out
              have hfz : ∀ j, wz.frozen? ⟨sb, j, none⟩ = false := fun j => frozen_of_row _ _ _ _ _ hrz
              obtain ⟨_, _, _, z3, _, _, _⟩ := slA_cells hrz
              have r1 := Dk.cell_put (off := 3) (.int .i64 (a : Int)) hrz
              have r2 := Dk.cell_put (off := 4) (.int .u64 (TN : Int)) r1
              have hfz1 : ∀ j, (wz.setCell ⟨sb, 3, none⟩ (.int .i64 (a : Int))).frozen? ⟨sb, j, none⟩ = false := fun j => frozen_of_row _ _ _ _ _ r1
              have hfz2 : ∀ j, ((wz.setCell ⟨sb, 3, none⟩ (.int .i64 (a : Int))).setCell ⟨sb, 4, none⟩ (.int .u64 (TN : Int))).frozen? ⟨sb, j, none⟩ = false := fun j => frozen_of_row _ _ _ _ _ r2
              have z4 : (wz.setCell ⟨sb, 3, none⟩ (.int .i64 (a : Int))).cell? ⟨sb, 4, none⟩ = some (.int .u64 (s.turn : Int)) := by rw [cell_of_row _ _ _ _ _ _ r1]; rfl
              have z5 : ((wz.setCell ⟨sb, 3, none⟩ (.int .i64 (a : Int))).setCell ⟨sb, 4, none⟩ (.int .u64 (TN : Int))).cell? ⟨sb, 5, none⟩ = some (.slice pb9 s.body.length cb9) := by rw [cell_of_row _ _ _ _ _ _ r2]; rfl
              have t0 : Turns (fun k => k = sb) w9 wz := Turns.of_below hbz
              have t1 : Turns (fun k => k = sb) w9 (wz.setCell ⟨sb, 3, none⟩ (.int .i64 (a : Int))) := Turns.setCell (S := fun k => k = sb) (p := ⟨sb, 3, none⟩) t0 (fun _ => rfl) _
              have t2 : Turns (fun k => k = sb) w9 ((wz.setCell ⟨sb, 3, none⟩ (.int .i64 (a : Int))).setCell ⟨sb, 4, none⟩ (.int .u64 (TN : Int))) := Turns.setCell (S := fun k => k = sb) (p := ⟨sb, 4, none⟩) t1 (fun _ => rfl) _
              have t3 : Turns (fun k => k = sb) w9 (((wz.setCell ⟨sb, 3, none⟩ (.int .i64 (a : Int))).setCell ⟨sb, 4, none⟩ (.int .u64 (TN : Int))).setCell ⟨sb, 5, none⟩ (.slice p8 x.length c8)) := Turns.setCell (S := fun k => k = sb) (p := ⟨sb, 5, none⟩) t2 (fun _ => rfl) _
              have hst := (HS9.out.below hbz).set3 (a : Int) (by have := HFI.out; omega) TN HT.out p8 c8 x ((Rd.of_own HOZ.out).base HB9.out)
              have HEND := Lib.hid (HF9.out _ p8 c8 hst.1 ((KS.of_below hbz).trans hst.2.1))
              clear hst r1 r2 hrz
              refine tree_one rfl (by rfl) (fun K hK => ?_)
              go_simp
              refine Shut.out hK _ _ t1 ?_
              clear hK K
              try simp only [Act.put, List.setIfInBounds_toArray, List.set_cons_zero, List.set_cons_succ]
              (apply tree_take; (· rfl); (· rfl); (· (intro w' hb'; go_simp; try with_reducible rfl)); try simp only [Act.put, List.setIfInBounds_toArray, List.set_cons_zero, List.set_cons_succ])
              (apply tree_take; (· rfl); (· rfl); (· (intro w' hb'; go_simp; try with_reducible rfl)); try simp only [Act.put, List.setIfInBounds_toArray, List.set_cons_zero, List.set_cons_succ])
              refine tree_one rfl (by rfl) (fun K hK => ?_)
              go_simp
              refine Shut.out hK _ _ t2 ?_
              clear hK K
              try simp only [Act.put, List.setIfInBounds_toArray, List.set_cons_zero, List.set_cons_succ]
              (apply tree_take; (· rfl); (· rfl); (· (intro w' hb'; go_simp; try with_reducible rfl)); try simp only [Act.put, List.setIfInBounds_toArray, List.set_cons_zero, List.set_cons_succ])
              (apply tree_take; (· rfl); (· rfl); (· (intro w' hb'; go_simp; try with_reducible rfl)); try simp only [Act.put, List.setIfInBounds_toArray, List.set_cons_zero, List.set_cons_succ])
              refine tree_one rfl (by rfl) (fun K hK => ?_)
              go_simp
              refine Shut.out hK _ _ t3 ?_
              clear hK K
              try simp only [Act.put, List.setIfInBounds_toArray, List.set_cons_zero, List.set_cons_succ]
              refine tree_nil ?_
              clear t0 t1 t2 t3
              go_wp2_with fail
              go_ret
              exact HEND.out
            · refine tree_one rfl (by rfl) (fun K hK => oper_of_list rfl ?_)
              refine wpList_append_nx rfl _ _ 22 rfl (base := w9.heap.size) Tryz.underlying22 info8 rfl (by omega) rfl (World.ownsRow_nil _ _ _ _) rfl hkb (bytesV_one _) ⟨by omega, by have := HXB.out; omega⟩ hy0.size ?_
              intro p8 c8 wz ho8 hg8 _ _
              have hbz : Below w9.heap.size w9 wz := hy0.grown hg8 hy0.size (fun k hk => by
                have hk : (Value.slice none 0 0).ownBlock = some k := hk
                simp [Value.ownBlock] at hk)
              refine only_end (Shut.out hK _ _ (Turns.of_below hbz) ?_)
              clear hK K
              try simp only [Act.put, List.setIfInBounds_toArray, List.set_cons_zero, List.set_cons_succ]
              have HOZ : Hid (wz.ownsRow w9.heap.size 5 1 (.slice p8 x.length c8) x.length (bytesV x)) := by
                have h9 := ho8
                rw [Nat.zero_add, List.nil_append] at h9
                exact h9
              clear ho8 hg8
              try rw [Nat.zero_add]
              have z7 : wz.cell? ⟨sb, 4, none⟩ = some (.int .u64 (s.turn : Int)) := (slA_cells (Below.keepOld hbz HROW9.out)).2.2.2.2.1
              refine tree_one rfl (by rfl) (fun K hK => ?_)
              go_simp
              refine Shut.out hK _ _ (Turns.of_below hbz) ?_
              clear hK K z7
              try simp only [Act.put, List.setIfInBounds_toArray, List.set_cons_zero, List.set_cons_succ]
              repeat (apply tree_take; (· rfl); (· rfl); (· (intro w' hb'; go_simp; try with_reducible rfl)); try simp only [Act.put, List.setIfInBounds_toArray, List.set_cons_zero, List.set_cons_succ])
              skip
              have hrz := Below.keepOld hbz HROW9.out
              have hfz : ∀ j, wz.frozen? ⟨sb, j, none⟩ = false := fun j => frozen_of_row _ _ _ _ _ hrz
              obtain ⟨_, _, _, z3, _, _, _⟩ := slA_cells hrz
              have r1 := Dk.cell_put (off := 3) (.int .i64 (a : Int)) hrz
              have r2 := Dk.cell_put (off := 4) (.int .u64 (TN : Int)) r1
              have hfz1 : ∀ j, (wz.setCell ⟨sb, 3, none⟩ (.int .i64 (a : Int))).frozen? ⟨sb, j, none⟩ = false := fun j => frozen_of_row _ _ _ _ _ r1
              have hfz2 : ∀ j, ((wz.setCell ⟨sb, 3, none⟩ (.int .i64 (a : Int))).setCell ⟨sb, 4, none⟩ (.int .u64 (TN : Int))).frozen? ⟨sb, j, none⟩ = false := fun j => frozen_of_row _ _ _ _ _ r2
              have z4 : (wz.setCell ⟨sb, 3, none⟩ (.int .i64 (a : Int))).cell? ⟨sb, 4, none⟩ = some (.int .u64 (s.turn : Int)) := by rw [cell_of_row _ _ _ _ _ _ r1]; rfl
              have z5 : ((wz.setCell ⟨sb, 3, none⟩ (.int .i64 (a : Int))).setCell ⟨sb, 4, none⟩ (.int .u64 (TN : Int))).cell? ⟨sb, 5, none⟩ = some (.slice pb9 s.body.length cb9) := by rw [cell_of_row _ _ _ _ _ _ r2]; rfl
              have t0 : Turns (fun k => k = sb) w9 wz := Turns.of_below hbz
              have t1 : Turns (fun k => k = sb) w9 (wz.setCell ⟨sb, 3, none⟩ (.int .i64 (a : Int))) := Turns.setCell (S := fun k => k = sb) (p := ⟨sb, 3, none⟩) t0 (fun _ => rfl) _
              have t2 : Turns (fun k => k = sb) w9 ((wz.setCell ⟨sb, 3, none⟩ (.int .i64 (a : Int))).setCell ⟨sb, 4, none⟩ (.int .u64 (TN : Int))) := Turns.setCell (S := fun k => k = sb) (p := ⟨sb, 4, none⟩) t1 (fun _ => rfl) _
              have t3 : Turns (fun k => k = sb) w9 (((wz.setCell ⟨sb, 3, none⟩ (.int .i64 (a : Int))).setCell ⟨sb, 4, none⟩ (.int .u64 (TN : Int))).setCell ⟨sb, 5, none⟩ (.slice p8 x.length c8)) := Turns.setCell (S := fun k => k = sb) (p := ⟨sb, 5, none⟩) t2 (fun _ => rfl) _
              have hst := (HS9.out.below hbz).set3 (a : Int) (by have := HFI.out; omega) TN HT.out p8 c8 x ((Rd.of_own HOZ.out).base HB9.out)
              have HEND := Lib.hid (HF9.out _ p8 c8 hst.1 ((KS.of_below hbz).trans hst.2.1))
              clear hst r1 r2 hrz
              refine tree_one rfl (by rfl) (fun K hK => ?_)
              go_simp
              refine Shut.out hK _ _ t1 ?_
              clear hK K
              try simp only [Act.put, List.setIfInBounds_toArray, List.set_cons_zero, List.set_cons_succ]
              (apply tree_take; (· rfl); (· rfl); (· (intro w' hb'; go_simp; try with_reducible rfl)); try simp only [Act.put, List.setIfInBounds_toArray, List.set_cons_zero, List.set_cons_succ])
              (apply tree_take; (· rfl); (· rfl); (· (intro w' hb'; go_simp; try with_reducible rfl)); try simp only [Act.put, List.setIfInBounds_toArray, List.set_cons_zero, List.set_cons_succ])
              refine tree_one rfl (by rfl) (fun K hK => ?_)
              go_simp
              refine Shut.out hK _ _ t2 ?_
              clear hK K
              try simp only [Act.put, List.setIfInBounds_toArray, List.set_cons_zero, List.set_cons_succ]
              (apply tree_take; (· rfl); (· rfl); (· (intro w' hb'; go_simp; try with_reducible rfl)); try simp only [Act.put, List.setIfInBounds_toArray, List.set_cons_zero, List.set_cons_succ])
              (apply tree_take; (· rfl); (· rfl); (· (intro w' hb'; go_simp; try with_reducible rfl)); try simp only [Act.put, List.setIfInBounds_toArray, List.set_cons_zero, List.set_cons_succ])
              refine tree_one rfl (by rfl) (fun K hK => ?_)
              go_simp
              refine Shut.out hK _ _ t3 ?_
              clear hK K
              try simp only [Act.put, List.setIfInBounds_toArray, List.set_cons_zero, List.set_cons_succ]
              refine tree_nil ?_
              clear t0 t1 t2 t3
              go_wp2_with fail
              go_ret
              exact HEND.out
          · have hq0 : (layE a ([.put FR, .sync] : List LA) d == 0) = false := beq_eq_false_iff_ne.2 hE
            have HF1 : Hid (SPutP base sb db a b d s x w (.returned (.int .i64 (layE a ([.put FR, .sync] : List LA) d))) w9) := ⟨by rw [HPE.out], by rw [HPD.out, HPS.out, if_neg hE]; exact HS9.out, HK9.out⟩
            clear hE HPE HPD HPS HS9 HK9
            generalize layE a ([.put FR, .sync] : List LA) d = EV at *
            go_wp2_with fail
            go_ret
            exact HF1.out
  · have hw : IntKind.u64.wrap ((s.turn : Int) + 1) = ((0 : Nat) : Int) := by
      have := HS1.out.turn
      rw [IntKind.wrap_u64]; omega
    have HWR := Lib.hid (wrap_any 0 (by omega) p c x w1 (HK.out w1 (KT.of_below HB1.out)) HXL.out)
    have HNF : Hid (¬ fits s x = true) := by show ¬ _; unfold fits; rw [decide_eq_false ht, Bool.and_false]; decide
    clear ht
    obtain ⟨FR, hFR⟩ : ∃ FR, frame (be 0 8 ++ x) = FR := ⟨_, rfl⟩
    rw [hFR] at HWR
    clear hFR
    go_wp2_with fail
    refine HWR.out.mono ?_
    rintro e w2 ⟨p2, cw, rfl, ho2, hb2⟩
    have HB2 := Lib.hid hb2
    clear ho2 hb2 HWR c0 c1 c2 c3 c4 hcs
    go_upto_region 4 with fail
    have hal := Below.allocs w2 (.cells #[.slice p2 FR.length cw] 22)
    have hb13 := HB2.out.trans (hal.mono HB2.out.size)
    have HS3 := Lib.hid (HS1.out.below hb13)
    have HR3 := Lib.hid (Below.keepOld hb13 HROW.out)
    have HE3 := Lib.hid (Below.keepOld hb13 HR1.out)
    have HB3 := Lib.hid (HB1.out.trans (hb13.mono HB1.out.size))
    clear hal hb13 HB2 HS1 HROW HR1 HB1
    generalize w2.alloc (.cells #[.slice p2 FR.length cw] 22) = w3 at *
    obtain ⟨c0, c1, c2', c3, c4, c5, c6⟩ := slA_cells HR3.out
    have hcs : w3.cell? ⟨w.heap.size, 0, none⟩ = some (.pointer (some ⟨sb, 0, none⟩)) := by rw [cell_of_row _ _ _ _ _ _ HE3.out]; rfl
    have HF1 : Hid (SPutP base sb db a b d s x w (.returned (.int .i64 1)) w3) := by
      show _ ∧ _ ∧ _
      unfold putSE putSD putSS
      rw [if_neg HNF.out, if_neg HNF.out, if_neg (fun hh => HNF.out hh.1)]
      exact ⟨rfl, HS3.out, KS.of_below HB3.out⟩
    clear c5 c6 HS3 HR3 HE3 HB3
    go_wp2_with fail
    go_ret
    exact HF1.out
end Go.Proofs.YtnejjfglkindjaaGreatDoor.Slt
