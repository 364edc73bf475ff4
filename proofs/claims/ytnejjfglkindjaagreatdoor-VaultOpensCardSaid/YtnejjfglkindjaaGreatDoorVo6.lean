/- PARTS, JOINED: SLOTS: Put. Conditions: sizes and steps that fit. THE WALKS OF A ROLL: Append, Clear, Bodies, Len, Size. Conditions: the laid cell of errors.errorType where frames are scanned; bodies of at most 4000 bytes. THE WALKS OF A ROLL, on: Bodies, Len, Size, mend, Open. Conditions: the laid cell of errors.errorType. VAULTS BESIDE OTHER MEMORY: their row, what their calls leave; plain: what is read. Conditions: none. -/
import Derived.Test.YtnejjfglkindjaaGreatDoorVo1
import Derived.Test.YtnejjfglkindjaaGreatDoorVo2
import Derived.Test.YtnejjfglkindjaaGreatDoorVo3
import Derived.Test.YtnejjfglkindjaaGreatDoorVo4
import Derived.Test.YtnejjfglkindjaaGreatDoorVo5
import Derived.BigQuiet
namespace Go.Proofs.YtnejjfglkindjaaGreatDoor.Slt
open Go.RowKit Go.Mir Go.Mir.Parts Dk Rol Wr
open Frm (frame)
def SPutP (base sb db a b : Nat) (d : DD) (s : SS) (x : List UInt8) (w : World) (e : Ending) (w' : World) : Prop := e = .returned (.int .i64 (putSE d s a b x)) ∧ SX base sb db a b (putSD d s a b x) (putSS d s a b x) w' ∧ KS base w w'
theorem SX.off {base sb db a b z : Nat} {d : DD} {s : SS} {w w' : World} {M : Array Value} {t : TypeId} {fr : Nat × Nat} (h : SX base sb db a b d s w) (hT : Turns (fun k => k = z) w w') (hz : w.heap[z]? = some (.cells M t fr)) (h1 : t ≠ 105) (h2 : t ≠ 165) (h3 : t ≠ 133) (h4 : t ≠ 5) (h5 : t ≠ 23) : SX base sb db a b d s w' := by
 obtain ⟨pb, cb, bx, r1, r2, r3⟩ := h.row
 have ne : ∀ k M' t' fr', w.heap[k]? = some (.cells M' t' fr') → t' ≠ t → k ≠ z := fun k M' t' fr' hk ht e => by
  rw [e, hz] at hk
  injection hk with q1
  injection q1 with _ q2
  exact ht q2.symm
 refine ⟨dx_turn h.dx hT (fun k M' t' fr' hk hm => ?_), h.low, ⟨pb, cb, bx, hT.keep r1 (ne _ _ _ _ r1 (Ne.symm h3)), r2.touch hT (fun k M' fr' hm hk => ne k _ _ _ hm (Ne.symm h4) hk), hT.keep r3 (ne _ _ _ _ r3 (Ne.symm h5))⟩, h.turn, h.now⟩
 have hk : k = z := hk
 subst hk
 rw [hz] at hm
 injection hm with q1
 injection q1 with _ q2
 subst q2
 exact ⟨h1, h2, h4⟩
theorem put_eqs {d : DD} {s : SS} {a b FI : Nat} {x FR : List UInt8} {L : List LA} (hf : fits s x = true) (hn : nxt s a b = FI) (hw : wrapB s x = FR) (hl : acts d FI FR = L) : putSE d s a b x = layE FI L d ∧ putSD d s a b x = layD FI L d ∧ putSS d s a b x = if layE FI L d = 0 then ⟨(FI : Int), s.turn + 1, x⟩ else s := by
 unfold putSE putSD putSS
 rw [hn, hw, hl, if_pos hf, if_pos hf]
 refine ⟨rfl, rfl, ?_⟩
 by_cases h : layE FI L d = 0
 ·rw [if_pos h, if_pos ⟨hf, h⟩]
 ·rw [if_neg h, if_neg (fun hh => h hh.2)]
structure P12F (base sb db bb bf a b : Nat) (d : DD) (s : SS) (p2 : Option Addr) (cw : Nat) (FR : List UInt8) (pb : Option Addr) (cb bx : Nat) (w : World) (FI : Nat) (y : World) : Prop where
 fi : FI < 3
 nx : nxt s a b = FI
 e6 : y.heap[w.heap.size]? = some (.cells #[.pointer (some ⟨sb, 0, none⟩)] 29 (0, 0))
 f6 : y.heap[bf]? = some (.cells #[.int .i64 (FI : Int)] 3 (0, 0))
 x6 : y.heap[bb]? = some (.cells #[.slice p2 FR.length cw] 22 (0, 0))
 rd6 : Rd y base (.slice p2 FR.length cw) FR
 s6 : SX base sb db a b d s y
 r6 : y.heap[sb]? = some (.cells (slA db a b s pb cb bx) 133 (0, 0))
 b6 : Below w.heap.size w y
set_option maxRecDepth 100000 in
set_option maxHeartbeats 25600000 in
theorem sput_any {base sb db a b N : Nat} {d : DD} {s : SS} (w : World) (h : SX base sb db a b d s w) (ha : a < 3) (hb : b < 3) (p : Option Addr) (c : Nat) (x : List UInt8) (hK : ∀ w', KT base w w' → Bs w' p x.length c x) (hx : x.length ≤ 3000) (hN : N ≤ 4398046000000) (hfew : ∀ j, (fD d j).steps.length ≤ N) :
  Calls Tryz.prog 42 #[.pointer (some ⟨sb, 0, none⟩), .slice p x.length c] w (SPutP base sb db a b d s x w) := by
 have hal := Below.allocs w (.cells #[.pointer (some ⟨sb, 0, none⟩)] 29)
 have hr1 := heap_alloc_last w (.cells #[.pointer (some ⟨sb, 0, none⟩)] 29)
 have HS1 := Lib.hid (h.below hal)
 have HBB : Hid (base ≤ w.heap.size) := h.dx.1
 have HR1 := Lib.hid hr1
 have HK := Lib.hid hK
 have HB1 := Lib.hid hal
 have HXL := Lib.hid hx
 have HNN := Lib.hid hN
 have HFW := Lib.hid hfew
 have HA := Lib.hid ha
 have HB := Lib.hid hb
 have hcs : (w.alloc (.cells #[.pointer (some ⟨sb, 0, none⟩)] 29)).cell? ⟨w.heap.size, 0, none⟩ = some (.pointer (some ⟨sb, 0, none⟩)) := by rw [cell_of_row _ _ _ _ _ _ hr1]; rfl
 clear h hK hal hr1 hx hN hfew ha hb
 go_enter Tryz.func42, Tryz.ntmps42
 go_upto_region 1 with fail
 generalize w.alloc (.cells #[.pointer (some ⟨sb, 0, none⟩)] 29) = w1 at *
 have HN1 := Lib.hid (none_any w1 HS1.out)
 go_wp2_with fail
 refine HN1.out.mono ?_
 rintro e w' ⟨rfl, rfl⟩
 obtain ⟨pb, cb, bx, hrd, hbx, hrow⟩ := HS1.out.cells
 obtain ⟨c0, c1, c2, c3, c4, c5, c6⟩ := slA_cells hrow
 have HROW := Lib.hid hrow
 clear hrd hbx hrow HN1 c5 c6
 by_cases ht : s.turn + 1 < 18446744073709551616
 ·have hw : IntKind.u64.wrap ((s.turn : Int) + 1) = ((s.turn + 1 : Nat) : Int) := by rw [IntKind.wrap_u64]; omega
  have HWR := Lib.hid (wrap_any (s.turn + 1) ht p c x w1 (HK.out w1 (KT.of_below HB1.out)) HXL.out)
  have hne : (((s.turn + 1 : Nat) : Int) == 0) = false := by rw [beq_eq_false_iff_ne]; omega
  have HT := Lib.hid ht
  clear ht
  obtain ⟨TN, hTN⟩ : ∃ TN, s.turn + 1 = TN := ⟨_, rfl⟩
  rw [hTN] at hw hne HWR HT
  have HTN := Lib.hid hTN
  clear hTN
  obtain ⟨FR, hFR⟩ : ∃ FR, frame (be TN 8 ++ x) = FR := ⟨_, rfl⟩
  rw [hFR] at HWR
  have HWB : Hid (wrapB s x = FR) := by show _ = _; unfold wrapB; rw [HTN.out]; exact hFR
  have HFIT : Hid (fits s x = true) := by show _ = _; unfold fits; rw [decide_eq_true (show x.length ≤ 65528 by have := HXL.out; omega), decide_eq_true (show s.turn + 1 < 18446744073709551616 by have := HTN.out; have := HT.out; omega)]; rfl
  have HFL : Hid (FR.length ≤ 140737488355328) := by show _ ≤ _; rw [← hFR, Frm.frame_length, List.length_append, be_length]; have := HXL.out; omega
  clear hFR
  go_wp2_with fail
  refine HWR.out.mono ?_
  rintro e w2 ⟨p2, cw, rfl, ho2, hb2⟩
  have HO2 := Lib.hid ho2
  have HB2 := Lib.hid hb2
  clear ho2 hb2 HWR
  clear c0 c1 c2 c3 c4 hcs
  go_upto_region 4 with fail
  have hal := Below.allocs w2 (.cells #[.slice p2 FR.length cw] 22)
  have hb13 := HB2.out.trans (hal.mono HB2.out.size)
  have HBX3 := Lib.hid (heap_alloc_last w2 (.cells #[.slice p2 FR.length cw] 22))
  have HRD3 : Hid (Rd (w2.alloc (.cells #[.slice p2 FR.length cw] 22)) base (.slice p2 FR.length cw) FR) := ((Rd.of_own HO2.out).base (Nat.le_trans HBB.out HB1.out.size)).below hal
  have HS3 := Lib.hid (HS1.out.below hb13)
  have HR3 := Lib.hid (Below.keepOld hb13 HROW.out)
  have HE3 := Lib.hid (Below.keepOld hb13 HR1.out)
  have HB3 := Lib.hid (HB1.out.trans (hb13.mono HB1.out.size))
  have HG3 : Hid (w.heap.size ≤ w2.heap.size) := Nat.le_trans HB1.out.size HB2.out.size
  clear hal hb13 HO2 HB2 HS1 HROW HR1 HB1
  generalize w2.alloc (.cells #[.slice p2 FR.length cw] 22) = w3 at *
  generalize w2.heap.size = bb at *
  obtain ⟨c0, c1, c2', c3, c4, c5, c6⟩ := slA_cells HR3.out
  clear c5 c6
  have hcs : w3.cell? ⟨w.heap.size, 0, none⟩ = some (.pointer (some ⟨sb, 0, none⟩)) := by rw [cell_of_row _ _ _ _ _ _ HE3.out]; rfl
  go_upto_region 7 with fail
  have hal := Below.allocs w3 (.cells #[.int .i64 (a : Int)] 3)
  have HBF4 := Lib.hid (heap_alloc_last w3 (.cells #[.int .i64 (a : Int)] 3))
  have HBX4 := Lib.hid (Below.keepOld hal HBX3.out)
  have HRD4 := Lib.hid (HRD3.out.below hal)
  have HS4 := Lib.hid (HS3.out.below hal)
  have HR4 := Lib.hid (Below.keepOld hal HR3.out)
  have HE4 := Lib.hid (Below.keepOld hal HE3.out)
  have HB4 := Lib.hid (HB3.out.trans (hal.mono HB3.out.size))
  have HG4 : Hid (w.heap.size ≤ w3.heap.size) := HB3.out.size
  have HSB4 : Hid (sb < w3.heap.size) := (Array.getElem?_eq_some_iff.1 HR3.out).1
  have HBB4 : Hid (bb < w3.heap.size) := (Array.getElem?_eq_some_iff.1 HBX3.out).1
  have HBS4 : Hid (w.heap.size < w3.heap.size) := (Array.getElem?_eq_some_iff.1 HE3.out).1
  clear hal c0 c1 c2' c3 c4 hcs HBX3 HRD3 HS3 HR3 HE3 HB3 HG3
  generalize w3.alloc (.cells #[.int .i64 (a : Int)] 3) = w4 at *
  generalize w3.heap.size = bf at *
  obtain ⟨c0, c1, c2', c3, c4, c5, c6⟩ := slA_cells HR4.out
  clear c5 c6
  have hcs : w4.cell? ⟨w.heap.size, 0, none⟩ = some (.pointer (some ⟨sb, 0, none⟩)) := by rw [cell_of_row _ _ _ _ _ _ HE4.out]; rfl
  have hcf : w4.cell? ⟨bf, 0, none⟩ = some (.int .i64 (a : Int)) := by rw [cell_of_row _ _ _ _ _ _ HBF4.out]; rfl
  have HC3 : Hid (∀ w', Below w4.heap.size w4 w' → w'.cell? ⟨sb, 3, none⟩ = some (.int .i64 s.now)) := fun w' hk => (slA_cells (Below.keepOld hk HR4.out)).2.2.2.1
  have HCS : Hid (∀ w', Below w4.heap.size w4 w' → w'.cell? ⟨w.heap.size, 0, none⟩ = some (.pointer (some ⟨sb, 0, none⟩))) := fun w' hk => by rw [cell_of_row _ _ _ _ _ _ (Below.keepOld hk HE4.out)]; rfl
  have HCF : Hid (∀ w', Below w4.heap.size w4 w' → w'.cell? ⟨bf, 0, none⟩ = some (.int .i64 (a : Int))) := fun w' hk => by rw [cell_of_row _ _ _ _ _ _ (Below.keepOld hk HBF4.out)]; rfl
  rename_i K1 h1 K2 h2
  refine wp_key (K1 := K1) (fun a0 a' y => ∃ (FI : Nat) (v38 v39 v40 v41 v42 v43 v44 v45 v46 v47 v48 : Value), a' = (((((((((((a0.put (some 38) v38).put (some 39) v39).put (some 40) v40).put (some 41) v41).put (some 42) v42).put (some 43) v43).put (some 44) v44).put (some 45) v45).put (some 46) v46).put (some 47) v47).put (some 48) v48) ∧ P12F base sb db bb bf a b d s p2 cw FR pb cb bx w FI y) ?_ ?_
  rotate_left
  ·intro KEY
   clear h1
   by_cases hnow : s.now = (a : Int)
   ·have hq : (s.now == (a : Int)) = true := beq_iff_eq.2 hnow
    have HNX : Hid (nxt s a b = b) := if_pos hnow
    clear hnow
    refine wp_region_eager [(0, true), (1, true), (2, true), (3, true), (4, true), (5, true)] (by kernel_rfl) (by kernel_rfl) (eagerOpen rfl ?_)
    have hy0 : Below w4.heap.size w4 w4.drew := below_drew1 _ _
    repeat (first
     | ((first | (apply wpEager_take; (· rfl); (· (intro w' hb'; go_simp; try with_reducible rfl))) | refine wpEager_skip (by rfl) ?_ | refine wpEager_off (by rfl) ?_); (try simp only [Act.put, zA, zB, zC]); (try refine eagerOpen rfl ?_))
     | (apply wpEager_take; (· rfl); (· (intro w' hb'; have hk' := (fun w' hb => HC3.out w' hb) w' hb'; go_split_ands; go_simp; try with_reducible rfl)); (try simp only [Act.put, zA, zB, zC]); (try refine eagerOpen rfl ?_))
     | (apply wpEager_take; (· rfl); (· (intro w' hb'; have hk' := (fun w' hb => HCS.out w' hb) w' hb'; go_split_ands; go_simp; try with_reducible rfl)); (try simp only [Act.put, zA, zB, zC]); (try refine eagerOpen rfl ?_))
     | (apply wpEager_take; (· rfl); (· (intro w' hb'; have hk' := (fun w' hb => HCF.out w' hb) w' hb'; go_split_ands; go_simp; try with_reducible rfl)); (try simp only [Act.put, zA, zB, zC]); (try refine eagerOpen rfl ?_)))
    refine eagerEnd ?_
    have HE5 := Lib.hid (Below.keepOld hy0 HE4.out)
    have HBF5 := Lib.hid (Below.keepOld hy0 HBF4.out)
    have HBX5 := Lib.hid (Below.keepOld hy0 HBX4.out)
    have HRD5 := Lib.hid (HRD4.out.below hy0)
    have HS5 := Lib.hid (HS4.out.below hy0)
    have HR5 := Lib.hid (Below.keepOld hy0 HR4.out)
    have HB5 := Lib.hid (HB4.out.trans (hy0.mono HB4.out.size))
    clear hy0 c0 c1 c2' c3 c4 hcs hcf HC3 HCS HCF HE4 HBF4 HBX4 HRD4 HS4 HR4 HB4
    generalize w4.drew = w5 at *
    obtain ⟨c0, c1, c2', c3, c4, c5, c6⟩ := slA_cells HR5.out
    have hcs : w5.cell? ⟨w.heap.size, 0, none⟩ = some (.pointer (some ⟨sb, 0, none⟩)) := by rw [cell_of_row _ _ _ _ _ _ HE5.out]; rfl
    have hcf : w5.cell? ⟨bf, 0, none⟩ = some (.int .i64 (a : Int)) := by rw [cell_of_row _ _ _ _ _ _ HBF5.out]; rfl
    have hfz : ∀ j, w5.frozen? ⟨bf, j, none⟩ = false := fun j => frozen_of_row _ _ _ _ _ HBF5.out
    clear c5 c6
    go_wp2_with fail
    have hT : Turns (fun k => k = bf) w5 (w5.setCell ⟨bf, 0, none⟩ (.int .i64 (b : Int))) := Turns.setCell (S := fun k => k = bf) (p := ⟨bf, 0, none⟩) (Turns.refl _ w5) (fun _ => rfl) _
    have HBF6 : Hid ((w5.setCell ⟨bf, 0, none⟩ (.int .i64 (b : Int))).heap[bf]? = some (.cells #[.int .i64 (b : Int)] 3 (0, 0))) := Dk.cell_put (off := 0) (.int .i64 (b : Int)) HBF5.out
    have HS6 := Lib.hid (HS5.out.off hT HBF5.out (by decide) (by decide) (by decide) (by decide) (by decide))
    have HE6 := Lib.hid (hT.keep HE5.out (by have := HBS4.out; show ¬ w.heap.size = bf; omega))
    have HBX6 := Lib.hid (hT.keep HBX5.out (by have := HBB4.out; show ¬ bb = bf; omega))
    have HR6 := Lib.hid (hT.keep HR5.out (by have := HSB4.out; show ¬ sb = bf; omega))
    have HRD6 : Hid (Rd (w5.setCell ⟨bf, 0, none⟩ (.int .i64 (b : Int))) base (.slice p2 FR.length cw) FR) := HRD5.out.touch hT (fun k M fr hm hk => by
     have hk : k = bf := hk
     rw [hk, HBF5.out] at hm
     injection hm with q1
     injection q1 with _ q2
     exact absurd q2 (by decide))
    have HB6 := Lib.hid (HB5.out.trans (hT.below HB5.out.size (fun i hi => by have hi : i = bf := hi; have := HG4.out; omega)))
    have HFI := Lib.hid HB.out
    clear hT HBF5 HS5 HE5 HBX5 HR5 HRD5 HB5 c0 c1 c2' c3 c4 hcs hcf hfz
    generalize w5.setCell ⟨bf, 0, none⟩ (.int .i64 (b : Int)) = w6 at *
    simp only [Act.put, zA, zB, zC]
    exact ⟨b, _, _, _, _, _, _, _, _, _, _, _, rfl, HFI.out, HNX.out, HE6.out, HBF6.out, HBX6.out, HRD6.out, HS6.out, HR6.out, HB6.out⟩
   ·have hq : (s.now == (a : Int)) = false := beq_eq_false_iff_ne.2 hnow
    have HNX : Hid (nxt s a b = a) := if_neg hnow
    clear hnow
    refine wp_region_eager [(0, true), (1, true), (2, true), (3, true), (4, true), (5, true)] (by kernel_rfl) (by kernel_rfl) (eagerOpen rfl ?_)
    have hy0 : Below w4.heap.size w4 w4.drew := below_drew1 _ _
    repeat (first
     | ((first | (apply wpEager_take; (· rfl); (· (intro w' hb'; go_simp; try with_reducible rfl))) | refine wpEager_skip (by rfl) ?_ | refine wpEager_off (by rfl) ?_); (try simp only [Act.put, zA, zB, zC]); (try refine eagerOpen rfl ?_))
     | (apply wpEager_take; (· rfl); (· (intro w' hb'; have hk' := (fun w' hb => HC3.out w' hb) w' hb'; go_split_ands; go_simp; try with_reducible rfl)); (try simp only [Act.put, zA, zB, zC]); (try refine eagerOpen rfl ?_))
     | (apply wpEager_take; (· rfl); (· (intro w' hb'; have hk' := (fun w' hb => HCS.out w' hb) w' hb'; go_split_ands; go_simp; try with_reducible rfl)); (try simp only [Act.put, zA, zB, zC]); (try refine eagerOpen rfl ?_))
     | (apply wpEager_take; (· rfl); (· (intro w' hb'; have hk' := (fun w' hb => HCF.out w' hb) w' hb'; go_split_ands; go_simp; try with_reducible rfl)); (try simp only [Act.put, zA, zB, zC]); (try refine eagerOpen rfl ?_)))
    refine eagerEnd ?_
    have HE6 := Lib.hid (Below.keepOld hy0 HE4.out)
    have HBF6 := Lib.hid (Below.keepOld hy0 HBF4.out)
    have HBX6 := Lib.hid (Below.keepOld hy0 HBX4.out)
    have HRD6 := Lib.hid (HRD4.out.below hy0)
    have HS6 := Lib.hid (HS4.out.below hy0)
    have HR6 := Lib.hid (Below.keepOld hy0 HR4.out)
    have HB6 := Lib.hid (HB4.out.trans (hy0.mono HB4.out.size))
    have HFI := Lib.hid HA.out
    clear hy0 c0 c1 c2' c3 c4 hcs hcf HC3 HCS HCF HE4 HBF4 HBX4 HRD4 HS4 HR4 HB4
    generalize w4.drew = w6 at *
    go_wp2_with fail
    simp only [Act.put, zA, zB, zC]
    exact ⟨a, _, _, _, _, _, _, _, _, _, _, _, rfl, HFI.out, HNX.out, HE6.out, HBF6.out, HBX6.out, HRD6.out, HS6.out, HR6.out, HB6.out⟩
  ·rintro a' w6 ⟨FI, v38, v39, v40, v41, v42, v43, v44, v45, v46, v47, v48, rfl, hp⟩
   have HFI := Lib.hid hp.fi
   have HNX := Lib.hid hp.nx
   have HE6 := Lib.hid hp.e6
   have HBF6 := Lib.hid hp.f6
   have HBX6 := Lib.hid hp.x6
   have HRD6 := Lib.hid hp.rd6
   have HS6 := Lib.hid hp.s6
   have HR6 := Lib.hid hp.r6
   have HB6 := Lib.hid hp.b6
   clear hp h2 c0 c1 c2' c3 c4 hcs hcf HC3 HCS HCF HE4 HBF4 HBX4 HRD4 HS4 HR4 HB4
   refine h1 _ _ ?_
   clear h1
   simp only [Act.put, zA, zB, zC]
   skip
   have HSZ := Lib.hid (fun y (hy : Below w6.heap.size w6 y) => xsize y (HS6.out.dx.below hy) FI HFI.out)
   have HUN := Lib.hid (fun y (hy : Below w6.heap.size w6 y) => xunits y (HS6.out.dx.below hy) FI HFI.out)
   have HC0 : Hid (∀ w', Below w6.heap.size w6 w' → w'.cell? ⟨sb, 0, none⟩ = some (.pointer (some ⟨db, 0, none⟩))) := fun w' hk => (slA_cells (Below.keepOld hk HR6.out)).1
   have HCS : Hid (∀ w', Below w6.heap.size w6 w' → w'.cell? ⟨w.heap.size, 0, none⟩ = some (.pointer (some ⟨sb, 0, none⟩))) := fun w' hk => by rw [cell_of_row _ _ _ _ _ _ (Below.keepOld hk HE6.out)]; rfl
   have HCF : Hid (∀ w', Below w6.heap.size w6 w' → w'.cell? ⟨bf, 0, none⟩ = some (.int .i64 (FI : Int))) := fun w' hk => by rw [cell_of_row _ _ _ _ _ _ (Below.keepOld hk HBF6.out)]; rfl
   have hmf : ∀ (fn : Fn) (first cap : Array Value) (w : World), (Instr.makeFunc fn first cap).run Tryz.prog w = .ok (.func fn first cap) w := fun _ _ _ _ => rfl
   go_upto_region 12 with fail
   refine wp_mid (fun a0 a' y => ∃ (v52 v53 v54 v55 v56 v57 v58 v59 v60 v61 v62 v63 v64 v65 v66 : Value), a' = ((((((((((((((((a0.put (some 52) v52).put (some 53) v53).put (some 54) v54).put (some 55) v55).put (some 56) v56).put (some 57) v57).put (some 58) v58).put (some 59) v59).put (some 60) v60).put (some 61) v61).put (some 62) v62).put (some 63) v63).put (some 64) v64).put (some 65) v65).put (some 66) v66).put (some 67) (.bool (full d FI))) ∧ Below w6.heap.size w6 y) ?_ ?_
   ·obtain ⟨FL, hFL⟩ : ∃ FL, FL = full d FI := ⟨_, rfl⟩
    by_cases hlen : 0 < (fD d FI).now.length
    ·have hd1 : decide ((0 : Int) < ((fD d FI).now.length : Int)) = true := decide_eq_true (by omega)
     have hd2 : decide (0 < (fD d FI).now.length) = true := decide_eq_true hlen
     have HFU : Hid (full d FI = true) := by show _ = _; unfold full; rw [hd2]; rfl
     clear hlen hFL
     refine wp_region_eager [(0, true), (1, true), (2, true), (3, true), (4, true), (5, false), (6, true), (7, true), (8, true), (9, true), (10, true), (11, true), (12, true), (13, false), (14, true), (15, true)] (by kernel_rfl) (by kernel_rfl) (eagerOpen rfl ?_)
     have hy0 : Below w6.heap.size w6 w6.drew := below_drew1 _ _
     repeat (first
      | ((first | (apply wpEager_take; (· rfl); (· (intro w' hb'; go_simp; try with_reducible rfl))) | refine wpEager_skip (by rfl) ?_ | refine wpEager_off (by rfl) ?_); (try simp only [Act.put, zA, zB, zC]); (try refine eagerOpen rfl ?_))
      | (apply wpEager_take; (· rfl); (· (intro w' hb'; have hk' := (fun w' hb => HC0.out w' hb) w' hb'; go_split_ands; go_simp; try with_reducible rfl)); (try simp only [Act.put, zA, zB, zC]); (try refine eagerOpen rfl ?_))
      | (apply wpEager_take; (· rfl); (· (intro w' hb'; have hk' := (fun w' hb => HCS.out w' hb) w' hb'; go_split_ands; go_simp; try with_reducible rfl)); (try simp only [Act.put, zA, zB, zC]); (try refine eagerOpen rfl ?_))
      | (apply wpEager_take; (· rfl); (· (intro w' hb'; have hk' := (fun w' hb => HCF.out w' hb) w' hb'; go_split_ands; go_simp; try with_reducible rfl)); (try simp only [Act.put, zA, zB, zC]); (try refine eagerOpen rfl ?_)))
     (refine wpEager_op (by rfl) (fun K hK => ?_); go_simp; (refine (HSZ.out _ hy0).mono ?_; rintro e y ⟨rfl, hb⟩; have hy1 := hy0.trans hb); refine Shut.out hK _ _ (by assumption) ?_; clear hK K; (try simp only [Act.put, zA, zB, zC]); (try refine eagerOpen rfl ?_))
     repeat (first
      | ((first | (apply wpEager_take; (· rfl); (· (intro w' hb'; go_simp; try with_reducible rfl))) | refine wpEager_skip (by rfl) ?_ | refine wpEager_off (by rfl) ?_); (try simp only [Act.put, zA, zB, zC]); (try refine eagerOpen rfl ?_)))
     refine eagerEnd ?_
     rw [HFU.out]
     exact ⟨rfl, _, _, _, _, _, _, _, _, _, _, _, _, _, _, _, rfl, hy1⟩
    ·have hd1 : decide ((0 : Int) < ((fD d FI).now.length : Int)) = false := decide_eq_false (by omega)
     have hd2 : decide (0 < (fD d FI).now.length) = false := decide_eq_false hlen
     have hd3 : decide ((0 : Int) < (unitsAll (fD d FI).steps : Int)) = FL := by
      rw [hFL]
      unfold full
      rw [hd2, Bool.false_or, decide_eq_decide]; omega
     have hd4 : decide (0 < unitsAll (fD d FI).steps) = FL := by
      rw [hFL]
      unfold full
      rw [hd2, Bool.false_or]
     have HFE := Lib.hid hFL
     clear hlen hFL
     skip
     refine wp_region_eager [(0, true), (1, true), (2, true), (3, true), (4, true), (5, false), (6, true), (7, true), (8, true), (9, true), (10, true), (11, true), (12, true), (13, false), (14, true), (15, true)] (by kernel_rfl) (by kernel_rfl) (eagerOpen rfl ?_)
     have hy0 : Below w6.heap.size w6 w6.drew := below_drew1 _ _
     repeat (first
      | ((first | (apply wpEager_take; (· rfl); (· (intro w' hb'; go_simp; try with_reducible rfl))) | refine wpEager_skip (by rfl) ?_ | refine wpEager_off (by rfl) ?_); (try simp only [Act.put, zA, zB, zC]); (try refine eagerOpen rfl ?_))
      | (apply wpEager_take; (· rfl); (· (intro w' hb'; have hk' := (fun w' hb => HC0.out w' hb) w' hb'; go_split_ands; go_simp; try with_reducible rfl)); (try simp only [Act.put, zA, zB, zC]); (try refine eagerOpen rfl ?_))
      | (apply wpEager_take; (· rfl); (· (intro w' hb'; have hk' := (fun w' hb => HCS.out w' hb) w' hb'; go_split_ands; go_simp; try with_reducible rfl)); (try simp only [Act.put, zA, zB, zC]); (try refine eagerOpen rfl ?_))
      | (apply wpEager_take; (· rfl); (· (intro w' hb'; have hk' := (fun w' hb => HCF.out w' hb) w' hb'; go_split_ands; go_simp; try with_reducible rfl)); (try simp only [Act.put, zA, zB, zC]); (try refine eagerOpen rfl ?_)))
     (refine wpEager_op (by rfl) (fun K hK => ?_); go_simp; (refine (HSZ.out _ hy0).mono ?_; rintro e y0 ⟨rfl, hb⟩; have hy1 := hy0.trans hb); refine Shut.out hK _ _ (by assumption) ?_; clear hK K; (try simp only [Act.put, zA, zB, zC]); (try refine eagerOpen rfl ?_))
     repeat (first
      | ((first | (apply wpEager_take; (· rfl); (· (intro w' hb'; go_simp; try with_reducible rfl))) | refine wpEager_skip (by rfl) ?_ | refine wpEager_off (by rfl) ?_); (try simp only [Act.put, zA, zB, zC]); (try refine eagerOpen rfl ?_))
      | (apply wpEager_take; (· rfl); (· (intro w' hb'; have hk' := (fun w' hb => HC0.out w' hb) w' hb'; go_split_ands; go_simp; try with_reducible rfl)); (try simp only [Act.put, zA, zB, zC]); (try refine eagerOpen rfl ?_))
      | (apply wpEager_take; (· rfl); (· (intro w' hb'; have hk' := (fun w' hb => HCS.out w' hb) w' hb'; go_split_ands; go_simp; try with_reducible rfl)); (try simp only [Act.put, zA, zB, zC]); (try refine eagerOpen rfl ?_))
      | (apply wpEager_take; (· rfl); (· (intro w' hb'; have hk' := (fun w' hb => HCF.out w' hb) w' hb'; go_split_ands; go_simp; try with_reducible rfl)); (try simp only [Act.put, zA, zB, zC]); (try refine eagerOpen rfl ?_)))
     (refine wpEager_op (by rfl) (fun K hK => ?_); go_simp; (refine (HUN.out _ hy1).mono ?_; rintro e y ⟨rfl, hb2⟩; have hy2 := hy1.trans (hb2.mono hy1.size)); refine Shut.out hK _ _ (by assumption) ?_; clear hK K; (try simp only [Act.put, zA, zB, zC]); (try refine eagerOpen rfl ?_))
     repeat (first
      | ((first | (apply wpEager_take; (· rfl); (· (intro w' hb'; go_simp; try with_reducible rfl))) | refine wpEager_skip (by rfl) ?_ | refine wpEager_off (by rfl) ?_); (try simp only [Act.put, zA, zB, zC]); (try refine eagerOpen rfl ?_)))
     refine eagerEnd ?_
     have HY := Lib.hid hy2
     rw [← HFE.out]
     exact ⟨rfl, _, _, _, _, _, _, _, _, _, _, _, _, _, _, _, rfl, HY.out⟩
   rintro a' y ⟨v52, v53, v54, v55, v56, v57, v58, v59, v60, v61, v62, v63, v64, v65, v66, rfl, hy⟩
   have HY := Lib.hid hy
   clear hy
   simp only [Act.put, zA, zB, zC]
   obtain ⟨FL, hFL⟩ : ∃ FL, full d FI = FL := ⟨_, rfl⟩
   rw [hFL]
   cases FL with
   | true =>
    have HLQ : Hid (acts d FI FR = [.cut, .sync, .put FR, .sync]) := by show _ = _; unfold acts; rw [if_pos hFL]
    clear hFL
    skip
    have hrw := heap_alloc_last y (.cells (([.cut, .sync, .put FR, .sync] : List LA).map (fnV w.heap.size bf bb)).toArray 99)
    have hal := Below.allocs y (.cells (([.cut, .sync, .put FR, .sync] : List LA).map (fnV w.heap.size bf bb)).toArray 99)
    have hb8 := HY.out.trans (hal.mono HY.out.size)
    have HS8 := Lib.hid (HS6.out.below hb8)
    have HB8 := Lib.hid (HB6.out.trans (hb8.mono HB6.out.size))
    have hev : Env base sb db w.heap.size bf bb FI FR (y.alloc (.cells (([.cut, .sync, .put FR, .sync] : List LA).map (fnV w.heap.size bf bb)).toArray 99)) := ⟨Below.keepOld hb8 HE6.out, Below.keepOld hb8 HBF6.out, ⟨p2, cw, Below.keepOld hb8 HBX6.out, HRD6.out.below hb8⟩, ⟨_, Below.keepOld hb8 HR6.out, rfl⟩⟩
    have HEV8 := Lib.hid hev
    have HLY := Lib.hid (lay_any (gl := y.heap.size) (N := N) ([.cut, .sync, .put FR, .sync] : List LA) _ HFI.out hev HS8.out.dx (by simp) (by simp) HFL.out HNN.out HFW.out hrw)
    clear hrw hal hb8 hev HY HC0 HCS HCF HSZ HUN HE6 HBF6 HBX6 HRD6 HR6 HS6 HB6
    go_wp2_with fail
    refine HLY.out.mono ?_
    rintro e w9 ⟨rfl, hdx, hkt⟩
    obtain ⟨PE, PD, PS⟩ := put_eqs HFIT.out HNX.out HWB.out HLQ.out
    have HPE := Lib.hid PE
    have HPD := Lib.hid PD
    have HPS := Lib.hid PS
    have HS9 := Lib.hid (HS8.out.kt hkt hdx)
    have HK9 := Lib.hid ((KS.of_below HB8.out).trans (KS.of_kt hkt))
    have HKT9 := Lib.hid ((KT.of_below HB8.out).trans hkt)
    have HEV9 := Lib.hid (HEV8.out.kt hkt)
    clear PE PD PS hdx hkt HLY HS8 HB8 HEV8
    by_cases hE : layE FI ([.cut, .sync, .put FR, .sync] : List LA) d = 0
    ·have hq0 : (layE FI ([.cut, .sync, .put FR, .sync] : List LA) d == 0) = true := beq_iff_eq.2 hE
     skip
     obtain ⟨pb9, cb9, bx9, hrd9, hbx9, hrow9⟩ := HS9.out.cells
     have hn1 : ¬ w.heap.size = sb := fun e => by
      have h9 := HEV9.out.hs
      rw [e, hrow9] at h9
      injection h9 with q1
      injection q1 with _ q2
      exact absurd q2 (by decide)
     have hn2 : ¬ bf = sb := fun e => by
      have h9 := HEV9.out.hf
      rw [e, hrow9] at h9
      injection h9 with q1
      injection q1 with _ q2
      exact absurd q2 (by decide)
     have HT0 : Hid (∀ w', Turns (fun k => k = sb) w9 w' → w'.cell? ⟨w.heap.size, 0, none⟩ = some (.pointer (some ⟨sb, 0, none⟩))) := fun w' ht => by rw [cell_of_row _ _ _ _ _ _ (ht.keep HEV9.out.hs hn1)]; rfl
     have HT1 : Hid (∀ w', Turns (fun k => k = sb) w9 w' → w'.cell? ⟨bf, 0, none⟩ = some (.int .i64 (FI : Int))) := fun w' ht => by rw [cell_of_row _ _ _ _ _ _ (ht.keep HEV9.out.hf hn2)]; rfl
     have HROW9 := Lib.hid hrow9
     have HBS9 := Lib.hid (HK.out w9 HKT9.out)
     have HXB : Hid (x.length ≤ 3000) := HXL.out
     have hle9 := HBS9.out.le
     have hmax9 := HBS9.out.max
     have HB9 : Hid (base ≤ w9.heap.size) := HS9.out.dx.1
     have HF9 : Hid (∀ (y : World) (p' : Option Addr) (c' : Nat), SX base sb db a b (layD FI ([.cut, .sync, .put FR, .sync] : List LA) d) ⟨(FI : Int), TN, x⟩ y → KS base w9 y → SPutP base sb db a b d s x w (.returned (.int .i64 (layE FI ([.cut, .sync, .put FR, .sync] : List LA) d))) y) := fun y p' c' h1 h2 => ⟨by rw [HPE.out], by rw [HPD.out, HPS.out, if_pos hE, HTN.out]; exact h1, HK9.out.trans h2⟩
     clear hrd9 hbx9 hrow9 hE HPE HPD HPS
     generalize layE FI ([.cut, .sync, .put FR, .sync] : List LA) d = EV at *
     generalize layD FI ([.cut, .sync, .put FR, .sync] : List LA) d = DV at *
     go_upto_region 16 with fail
     refine wp_region_tree (Turns (fun k => k = sb) w9) (.take 0 (.take 1 (.take 2 (.take 3 (.take 4 (.take 5 (.take 6 (.take 9 (.two 7 10 (.take 8 (.one 10 (.take 11 (.take 12 (.one 13 (.take 14 (.take 15 (.one 16 (.take 17 (.take 18 (.one 19 .nil))))))))))) (.one 7 (.take 8 (.take 11 (.take 12 (.one 13 (.take 14 (.take 15 (.one 16 (.take 17 (.take 18 (.one 19 .nil)))))))))))))))))))) (by kernel_rfl) (by kernel_rfl) (Turns.of_below (below_drew1 _ _)) ?_
     have hy0 : Below w9.heap.size w9 w9.drew := below_drew1 _ _
     repeat (first
      | (apply tree_take; (· rfl); (· rfl); (· (intro w' hb'; go_simp; try with_reducible rfl)); try simp only [Act.put, zA, zB, zC])
      | (apply tree_take; (· rfl); (· rfl); (· (intro w' hb'; have hk' := (HT0.out) w' hb'; go_simp; try with_reducible rfl)); try simp only [Act.put, zA, zB, zC])
      | (apply tree_take; (· rfl); (· rfl); (· (intro w' hb'; have hk' := (HT1.out) w' hb'; go_simp; try with_reducible rfl)); try simp only [Act.put, zA, zB, zC]))
     have hkb := HBS9.out.below hy0
     refine tree_two ?_ ?_
     ·have z7 : w9.drew.cell? ⟨sb, 4, none⟩ = some (.int .u64 (s.turn : Int)) := (slA_cells (Below.keepOld hy0 HROW9.out)).2.2.2.2.1
      refine tree_one rfl (by rfl) (fun K hK => ?_)
      go_simp
      refine Shut.out hK _ _ (Turns.of_below hy0) ?_
      clear hK K z7
      try simp only [Act.put, zA, zB, zC]
      repeat (apply tree_take; (· rfl); (· rfl); (· (intro w' hb'; go_simp; try with_reducible rfl)); try simp only [Act.put, zA, zB, zC])
      refine tree_one rfl (by rfl) (fun K hK => oper_of_list rfl ?_)
      refine wpList_append_nx rfl _ _ 22 rfl (base := w9.heap.size) Tryz.underlying22 info8 rfl (by omega) rfl (World.ownsRow_nil _ _ _ _) rfl hkb (bytesV_one _) ⟨by omega, by have := HXB.out; omega⟩ hy0.size ?_
      intro p8 c8 wz ho8 hg8 _ _
      have hbz : Below w9.heap.size w9 wz := hy0.grown hg8 hy0.size (fun k hk => by
       have hk : (Value.slice none 0 0).ownBlock = some k := hk
       simp [Value.ownBlock] at hk)
      refine only_end (Shut.out hK _ _ (Turns.of_below hbz) ?_)
      clear hK K
      try simp only [Act.put, zA, zB, zC]
      have HOZ : Hid (wz.ownsRow w9.heap.size 5 1 (.slice p8 x.length c8) x.length (bytesV x)) := by
       have h9 := ho8
       rw [Nat.zero_add, List.nil_append] at h9
       exact h9
      clear ho8 hg8
      try rw [Nat.zero_add]
      repeat (apply tree_take; (· rfl); (· rfl); (· (intro w' hb'; go_simp; try with_reducible rfl)); try simp only [Act.put, zA, zB, zC])
      skip
      have hrz := Below.keepOld hbz HROW9.out
      have hfz : ∀ j, wz.frozen? ⟨sb, j, none⟩ = false := fun j => frozen_of_row _ _ _ _ _ hrz
      obtain ⟨_, _, _, z3, _, _, _⟩ := slA_cells hrz
      have r1 := Dk.cell_put (off := 3) (.int .i64 (FI : Int)) hrz
      have r2 := Dk.cell_put (off := 4) (.int .u64 (TN : Int)) r1
      have hfz1 : ∀ j, (wz.setCell ⟨sb, 3, none⟩ (.int .i64 (FI : Int))).frozen? ⟨sb, j, none⟩ = false := fun j => frozen_of_row _ _ _ _ _ r1
      have hfz2 : ∀ j, ((wz.setCell ⟨sb, 3, none⟩ (.int .i64 (FI : Int))).setCell ⟨sb, 4, none⟩ (.int .u64 (TN : Int))).frozen? ⟨sb, j, none⟩ = false := fun j => frozen_of_row _ _ _ _ _ r2
      have z4 : (wz.setCell ⟨sb, 3, none⟩ (.int .i64 (FI : Int))).cell? ⟨sb, 4, none⟩ = some (.int .u64 (s.turn : Int)) := by rw [cell_of_row _ _ _ _ _ _ r1]; rfl
      have z5 : ((wz.setCell ⟨sb, 3, none⟩ (.int .i64 (FI : Int))).setCell ⟨sb, 4, none⟩ (.int .u64 (TN : Int))).cell? ⟨sb, 5, none⟩ = some (.slice pb9 s.body.length cb9) := by rw [cell_of_row _ _ _ _ _ _ r2]; rfl
      have t0 : Turns (fun k => k = sb) w9 wz := Turns.of_below hbz
      have t1 : Turns (fun k => k = sb) w9 (wz.setCell ⟨sb, 3, none⟩ (.int .i64 (FI : Int))) := Turns.setCell (S := fun k => k = sb) (p := ⟨sb, 3, none⟩) t0 (fun _ => rfl) _
      have t2 : Turns (fun k => k = sb) w9 ((wz.setCell ⟨sb, 3, none⟩ (.int .i64 (FI : Int))).setCell ⟨sb, 4, none⟩ (.int .u64 (TN : Int))) := Turns.setCell (S := fun k => k = sb) (p := ⟨sb, 4, none⟩) t1 (fun _ => rfl) _
      have t3 : Turns (fun k => k = sb) w9 (((wz.setCell ⟨sb, 3, none⟩ (.int .i64 (FI : Int))).setCell ⟨sb, 4, none⟩ (.int .u64 (TN : Int))).setCell ⟨sb, 5, none⟩ (.slice p8 x.length c8)) := Turns.setCell (S := fun k => k = sb) (p := ⟨sb, 5, none⟩) t2 (fun _ => rfl) _
      have hst := (HS9.out.below hbz).set3 (FI : Int) (by have := HFI.out; omega) TN HT.out p8 c8 x ((Rd.of_own HOZ.out).base HB9.out)
      have HEND := Lib.hid (HF9.out _ p8 c8 hst.1 ((KS.of_below hbz).trans hst.2.1))
      clear hst r1 r2 hrz
      refine tree_one rfl (by rfl) (fun K hK => ?_)
      go_simp
      refine Shut.out hK _ _ t1 ?_
      clear hK K
      try simp only [Act.put, zA, zB, zC]
      (apply tree_take; (· rfl); (· rfl); (· (intro w' hb'; go_simp; try with_reducible rfl)); try simp only [Act.put, zA, zB, zC])
      (apply tree_take; (· rfl); (· rfl); (· (intro w' hb'; go_simp; try with_reducible rfl)); try simp only [Act.put, zA, zB, zC])
      refine tree_one rfl (by rfl) (fun K hK => ?_)
      go_simp
      refine Shut.out hK _ _ t2 ?_
      clear hK K
      try simp only [Act.put, zA, zB, zC]
      (apply tree_take; (· rfl); (· rfl); (· (intro w' hb'; go_simp; try with_reducible rfl)); try simp only [Act.put, zA, zB, zC])
      (apply tree_take; (· rfl); (· rfl); (· (intro w' hb'; go_simp; try with_reducible rfl)); try simp only [Act.put, zA, zB, zC])
      refine tree_one rfl (by rfl) (fun K hK => ?_)
      go_simp
      refine Shut.out hK _ _ t3 ?_
      clear hK K
      try simp only [Act.put, zA, zB, zC]
      refine tree_nil ?_
      clear t0 t1 t2 t3
      go_wp2_with fail
      go_ret
      exact HEND.out
     ·refine tree_one rfl (by rfl) (fun K hK => oper_of_list rfl ?_)
      refine wpList_append_nx rfl _ _ 22 rfl (base := w9.heap.size) Tryz.underlying22 info8 rfl (by omega) rfl (World.ownsRow_nil _ _ _ _) rfl hkb (bytesV_one _) ⟨by omega, by have := HXB.out; omega⟩ hy0.size ?_
      intro p8 c8 wz ho8 hg8 _ _
      have hbz : Below w9.heap.size w9 wz := hy0.grown hg8 hy0.size (fun k hk => by
       have hk : (Value.slice none 0 0).ownBlock = some k := hk
       simp [Value.ownBlock] at hk)
      refine only_end (Shut.out hK _ _ (Turns.of_below hbz) ?_)
      clear hK K
      try simp only [Act.put, zA, zB, zC]
      have HOZ : Hid (wz.ownsRow w9.heap.size 5 1 (.slice p8 x.length c8) x.length (bytesV x)) := by
       have h9 := ho8
       rw [Nat.zero_add, List.nil_append] at h9
       exact h9
      clear ho8 hg8
      try rw [Nat.zero_add]
      have z7 : wz.cell? ⟨sb, 4, none⟩ = some (.int .u64 (s.turn : Int)) := (slA_cells (Below.keepOld hbz HROW9.out)).2.2.2.2.1
      refine tree_one rfl (by rfl) (fun K hK => ?_)
      go_simp
      refine Shut.out hK _ _ (Turns.of_below hbz) ?_
      clear hK K z7
      try simp only [Act.put, zA, zB, zC]
      repeat (apply tree_take; (· rfl); (· rfl); (· (intro w' hb'; go_simp; try with_reducible rfl)); try simp only [Act.put, zA, zB, zC])
      skip
      have hrz := Below.keepOld hbz HROW9.out
      have hfz : ∀ j, wz.frozen? ⟨sb, j, none⟩ = false := fun j => frozen_of_row _ _ _ _ _ hrz
      obtain ⟨_, _, _, z3, _, _, _⟩ := slA_cells hrz
      have r1 := Dk.cell_put (off := 3) (.int .i64 (FI : Int)) hrz
      have r2 := Dk.cell_put (off := 4) (.int .u64 (TN : Int)) r1
      have hfz1 : ∀ j, (wz.setCell ⟨sb, 3, none⟩ (.int .i64 (FI : Int))).frozen? ⟨sb, j, none⟩ = false := fun j => frozen_of_row _ _ _ _ _ r1
      have hfz2 : ∀ j, ((wz.setCell ⟨sb, 3, none⟩ (.int .i64 (FI : Int))).setCell ⟨sb, 4, none⟩ (.int .u64 (TN : Int))).frozen? ⟨sb, j, none⟩ = false := fun j => frozen_of_row _ _ _ _ _ r2
      have z4 : (wz.setCell ⟨sb, 3, none⟩ (.int .i64 (FI : Int))).cell? ⟨sb, 4, none⟩ = some (.int .u64 (s.turn : Int)) := by rw [cell_of_row _ _ _ _ _ _ r1]; rfl
      have z5 : ((wz.setCell ⟨sb, 3, none⟩ (.int .i64 (FI : Int))).setCell ⟨sb, 4, none⟩ (.int .u64 (TN : Int))).cell? ⟨sb, 5, none⟩ = some (.slice pb9 s.body.length cb9) := by rw [cell_of_row _ _ _ _ _ _ r2]; rfl
      have t0 : Turns (fun k => k = sb) w9 wz := Turns.of_below hbz
      have t1 : Turns (fun k => k = sb) w9 (wz.setCell ⟨sb, 3, none⟩ (.int .i64 (FI : Int))) := Turns.setCell (S := fun k => k = sb) (p := ⟨sb, 3, none⟩) t0 (fun _ => rfl) _
      have t2 : Turns (fun k => k = sb) w9 ((wz.setCell ⟨sb, 3, none⟩ (.int .i64 (FI : Int))).setCell ⟨sb, 4, none⟩ (.int .u64 (TN : Int))) := Turns.setCell (S := fun k => k = sb) (p := ⟨sb, 4, none⟩) t1 (fun _ => rfl) _
      have t3 : Turns (fun k => k = sb) w9 (((wz.setCell ⟨sb, 3, none⟩ (.int .i64 (FI : Int))).setCell ⟨sb, 4, none⟩ (.int .u64 (TN : Int))).setCell ⟨sb, 5, none⟩ (.slice p8 x.length c8)) := Turns.setCell (S := fun k => k = sb) (p := ⟨sb, 5, none⟩) t2 (fun _ => rfl) _
      have hst := (HS9.out.below hbz).set3 (FI : Int) (by have := HFI.out; omega) TN HT.out p8 c8 x ((Rd.of_own HOZ.out).base HB9.out)
      have HEND := Lib.hid (HF9.out _ p8 c8 hst.1 ((KS.of_below hbz).trans hst.2.1))
      clear hst r1 r2 hrz
      refine tree_one rfl (by rfl) (fun K hK => ?_)
      go_simp
      refine Shut.out hK _ _ t1 ?_
      clear hK K
      try simp only [Act.put, zA, zB, zC]
      (apply tree_take; (· rfl); (· rfl); (· (intro w' hb'; go_simp; try with_reducible rfl)); try simp only [Act.put, zA, zB, zC])
      (apply tree_take; (· rfl); (· rfl); (· (intro w' hb'; go_simp; try with_reducible rfl)); try simp only [Act.put, zA, zB, zC])
      refine tree_one rfl (by rfl) (fun K hK => ?_)
      go_simp
      refine Shut.out hK _ _ t2 ?_
      clear hK K
      try simp only [Act.put, zA, zB, zC]
      (apply tree_take; (· rfl); (· rfl); (· (intro w' hb'; go_simp; try with_reducible rfl)); try simp only [Act.put, zA, zB, zC])
      (apply tree_take; (· rfl); (· rfl); (· (intro w' hb'; go_simp; try with_reducible rfl)); try simp only [Act.put, zA, zB, zC])
      refine tree_one rfl (by rfl) (fun K hK => ?_)
      go_simp
      refine Shut.out hK _ _ t3 ?_
      clear hK K
      try simp only [Act.put, zA, zB, zC]
      refine tree_nil ?_
      clear t0 t1 t2 t3
      go_wp2_with fail
      go_ret
      exact HEND.out
    ·have hq0 : (layE FI ([.cut, .sync, .put FR, .sync] : List LA) d == 0) = false := beq_eq_false_iff_ne.2 hE
     have HF1 : Hid (SPutP base sb db a b d s x w (.returned (.int .i64 (layE FI ([.cut, .sync, .put FR, .sync] : List LA) d))) w9) := ⟨by rw [HPE.out], by rw [HPD.out, HPS.out, if_neg hE]; exact HS9.out, HK9.out⟩
     clear hE HPE HPD HPS HS9 HK9
     generalize layE FI ([.cut, .sync, .put FR, .sync] : List LA) d = EV at *
     go_wp2_with fail
     go_ret
     exact HF1.out
   | false =>
    have HLQ : Hid (acts d FI FR = [.put FR, .sync]) := by show _ = _; unfold acts; rw [if_neg (by rw [hFL]; decide)]
    clear hFL
    skip
    have hrw := heap_alloc_last y (.cells (([.put FR, .sync] : List LA).map (fnV w.heap.size bf bb)).toArray 99)
    have hal := Below.allocs y (.cells (([.put FR, .sync] : List LA).map (fnV w.heap.size bf bb)).toArray 99)
    have hb8 := HY.out.trans (hal.mono HY.out.size)
    have HS8 := Lib.hid (HS6.out.below hb8)
    have HB8 := Lib.hid (HB6.out.trans (hb8.mono HB6.out.size))
    have hev : Env base sb db w.heap.size bf bb FI FR (y.alloc (.cells (([.put FR, .sync] : List LA).map (fnV w.heap.size bf bb)).toArray 99)) := ⟨Below.keepOld hb8 HE6.out, Below.keepOld hb8 HBF6.out, ⟨p2, cw, Below.keepOld hb8 HBX6.out, HRD6.out.below hb8⟩, ⟨_, Below.keepOld hb8 HR6.out, rfl⟩⟩
    have HEV8 := Lib.hid hev
    have HLY := Lib.hid (lay_any (gl := y.heap.size) (N := N) ([.put FR, .sync] : List LA) _ HFI.out hev HS8.out.dx (by simp) (by simp) HFL.out HNN.out HFW.out hrw)
    clear hrw hal hb8 hev HY HC0 HCS HCF HSZ HUN HE6 HBF6 HBX6 HRD6 HR6 HS6 HB6
    go_wp2_with fail
    refine HLY.out.mono ?_
    rintro e w9 ⟨rfl, hdx, hkt⟩
    obtain ⟨PE, PD, PS⟩ := put_eqs HFIT.out HNX.out HWB.out HLQ.out
    have HPE := Lib.hid PE
    have HPD := Lib.hid PD
    have HPS := Lib.hid PS
    have HS9 := Lib.hid (HS8.out.kt hkt hdx)
    have HK9 := Lib.hid ((KS.of_below HB8.out).trans (KS.of_kt hkt))
    have HKT9 := Lib.hid ((KT.of_below HB8.out).trans hkt)
    have HEV9 := Lib.hid (HEV8.out.kt hkt)
    clear PE PD PS hdx hkt HLY HS8 HB8 HEV8
    by_cases hE : layE FI ([.put FR, .sync] : List LA) d = 0
    ·have hq0 : (layE FI ([.put FR, .sync] : List LA) d == 0) = true := beq_iff_eq.2 hE
     skip
     obtain ⟨pb9, cb9, bx9, hrd9, hbx9, hrow9⟩ := HS9.out.cells
     have hn1 : ¬ w.heap.size = sb := fun e => by
      have h9 := HEV9.out.hs
      rw [e, hrow9] at h9
      injection h9 with q1
      injection q1 with _ q2
      exact absurd q2 (by decide)
     have hn2 : ¬ bf = sb := fun e => by
      have h9 := HEV9.out.hf
      rw [e, hrow9] at h9
      injection h9 with q1
      injection q1 with _ q2
      exact absurd q2 (by decide)
     have HT0 : Hid (∀ w', Turns (fun k => k = sb) w9 w' → w'.cell? ⟨w.heap.size, 0, none⟩ = some (.pointer (some ⟨sb, 0, none⟩))) := fun w' ht => by rw [cell_of_row _ _ _ _ _ _ (ht.keep HEV9.out.hs hn1)]; rfl
     have HT1 : Hid (∀ w', Turns (fun k => k = sb) w9 w' → w'.cell? ⟨bf, 0, none⟩ = some (.int .i64 (FI : Int))) := fun w' ht => by rw [cell_of_row _ _ _ _ _ _ (ht.keep HEV9.out.hf hn2)]; rfl
     have HROW9 := Lib.hid hrow9
     have HBS9 := Lib.hid (HK.out w9 HKT9.out)
     have HXB : Hid (x.length ≤ 3000) := HXL.out
     have hle9 := HBS9.out.le
     have hmax9 := HBS9.out.max
     have HB9 : Hid (base ≤ w9.heap.size) := HS9.out.dx.1
     have HF9 : Hid (∀ (y : World) (p' : Option Addr) (c' : Nat), SX base sb db a b (layD FI ([.put FR, .sync] : List LA) d) ⟨(FI : Int), TN, x⟩ y → KS base w9 y → SPutP base sb db a b d s x w (.returned (.int .i64 (layE FI ([.put FR, .sync] : List LA) d))) y) := fun y p' c' h1 h2 => ⟨by rw [HPE.out], by rw [HPD.out, HPS.out, if_pos hE, HTN.out]; exact h1, HK9.out.trans h2⟩
     clear hrd9 hbx9 hrow9 hE HPE HPD HPS
     generalize layE FI ([.put FR, .sync] : List LA) d = EV at *
     generalize layD FI ([.put FR, .sync] : List LA) d = DV at *
     go_upto_region 16 with fail
     refine wp_region_tree (Turns (fun k => k = sb) w9) (.take 0 (.take 1 (.take 2 (.take 3 (.take 4 (.take 5 (.take 6 (.take 9 (.two 7 10 (.take 8 (.one 10 (.take 11 (.take 12 (.one 13 (.take 14 (.take 15 (.one 16 (.take 17 (.take 18 (.one 19 .nil))))))))))) (.one 7 (.take 8 (.take 11 (.take 12 (.one 13 (.take 14 (.take 15 (.one 16 (.take 17 (.take 18 (.one 19 .nil)))))))))))))))))))) (by kernel_rfl) (by kernel_rfl) (Turns.of_below (below_drew1 _ _)) ?_
     have hy0 : Below w9.heap.size w9 w9.drew := below_drew1 _ _
     repeat (first
      | (apply tree_take; (· rfl); (· rfl); (· (intro w' hb'; go_simp; try with_reducible rfl)); try simp only [Act.put, zA, zB, zC])
      | (apply tree_take; (· rfl); (· rfl); (· (intro w' hb'; have hk' := (HT0.out) w' hb'; go_simp; try with_reducible rfl)); try simp only [Act.put, zA, zB, zC])
      | (apply tree_take; (· rfl); (· rfl); (· (intro w' hb'; have hk' := (HT1.out) w' hb'; go_simp; try with_reducible rfl)); try simp only [Act.put, zA, zB, zC]))
     have hkb := HBS9.out.below hy0
     refine tree_two ?_ ?_
     ·have z7 : w9.drew.cell? ⟨sb, 4, none⟩ = some (.int .u64 (s.turn : Int)) := (slA_cells (Below.keepOld hy0 HROW9.out)).2.2.2.2.1
      refine tree_one rfl (by rfl) (fun K hK => ?_)
      go_simp
      refine Shut.out hK _ _ (Turns.of_below hy0) ?_
      clear hK K z7
      try simp only [Act.put, zA, zB, zC]
      repeat (apply tree_take; (· rfl); (· rfl); (· (intro w' hb'; go_simp; try with_reducible rfl)); try simp only [Act.put, zA, zB, zC])
      refine tree_one rfl (by rfl) (fun K hK => oper_of_list rfl ?_)
      refine wpList_append_nx rfl _ _ 22 rfl (base := w9.heap.size) Tryz.underlying22 info8 rfl (by omega) rfl (World.ownsRow_nil _ _ _ _) rfl hkb (bytesV_one _) ⟨by omega, by have := HXB.out; omega⟩ hy0.size ?_
      intro p8 c8 wz ho8 hg8 _ _
      have hbz : Below w9.heap.size w9 wz := hy0.grown hg8 hy0.size (fun k hk => by
       have hk : (Value.slice none 0 0).ownBlock = some k := hk
       simp [Value.ownBlock] at hk)
      refine only_end (Shut.out hK _ _ (Turns.of_below hbz) ?_)
      clear hK K
      try simp only [Act.put, zA, zB, zC]
      have HOZ : Hid (wz.ownsRow w9.heap.size 5 1 (.slice p8 x.length c8) x.length (bytesV x)) := by
       have h9 := ho8
       rw [Nat.zero_add, List.nil_append] at h9
       exact h9
      clear ho8 hg8
      try rw [Nat.zero_add]
      repeat (apply tree_take; (· rfl); (· rfl); (· (intro w' hb'; go_simp; try with_reducible rfl)); try simp only [Act.put, zA, zB, zC])
      skip
      have hrz := Below.keepOld hbz HROW9.out
      have hfz : ∀ j, wz.frozen? ⟨sb, j, none⟩ = false := fun j => frozen_of_row _ _ _ _ _ hrz
      obtain ⟨_, _, _, z3, _, _, _⟩ := slA_cells hrz
      have r1 := Dk.cell_put (off := 3) (.int .i64 (FI : Int)) hrz
      have r2 := Dk.cell_put (off := 4) (.int .u64 (TN : Int)) r1
      have hfz1 : ∀ j, (wz.setCell ⟨sb, 3, none⟩ (.int .i64 (FI : Int))).frozen? ⟨sb, j, none⟩ = false := fun j => frozen_of_row _ _ _ _ _ r1
      have hfz2 : ∀ j, ((wz.setCell ⟨sb, 3, none⟩ (.int .i64 (FI : Int))).setCell ⟨sb, 4, none⟩ (.int .u64 (TN : Int))).frozen? ⟨sb, j, none⟩ = false := fun j => frozen_of_row _ _ _ _ _ r2
      have z4 : (wz.setCell ⟨sb, 3, none⟩ (.int .i64 (FI : Int))).cell? ⟨sb, 4, none⟩ = some (.int .u64 (s.turn : Int)) := by rw [cell_of_row _ _ _ _ _ _ r1]; rfl
      have z5 : ((wz.setCell ⟨sb, 3, none⟩ (.int .i64 (FI : Int))).setCell ⟨sb, 4, none⟩ (.int .u64 (TN : Int))).cell? ⟨sb, 5, none⟩ = some (.slice pb9 s.body.length cb9) := by rw [cell_of_row _ _ _ _ _ _ r2]; rfl
      have t0 : Turns (fun k => k = sb) w9 wz := Turns.of_below hbz
      have t1 : Turns (fun k => k = sb) w9 (wz.setCell ⟨sb, 3, none⟩ (.int .i64 (FI : Int))) := Turns.setCell (S := fun k => k = sb) (p := ⟨sb, 3, none⟩) t0 (fun _ => rfl) _
      have t2 : Turns (fun k => k = sb) w9 ((wz.setCell ⟨sb, 3, none⟩ (.int .i64 (FI : Int))).setCell ⟨sb, 4, none⟩ (.int .u64 (TN : Int))) := Turns.setCell (S := fun k => k = sb) (p := ⟨sb, 4, none⟩) t1 (fun _ => rfl) _
      have t3 : Turns (fun k => k = sb) w9 (((wz.setCell ⟨sb, 3, none⟩ (.int .i64 (FI : Int))).setCell ⟨sb, 4, none⟩ (.int .u64 (TN : Int))).setCell ⟨sb, 5, none⟩ (.slice p8 x.length c8)) := Turns.setCell (S := fun k => k = sb) (p := ⟨sb, 5, none⟩) t2 (fun _ => rfl) _
      have hst := (HS9.out.below hbz).set3 (FI : Int) (by have := HFI.out; omega) TN HT.out p8 c8 x ((Rd.of_own HOZ.out).base HB9.out)
      have HEND := Lib.hid (HF9.out _ p8 c8 hst.1 ((KS.of_below hbz).trans hst.2.1))
      clear hst r1 r2 hrz
      refine tree_one rfl (by rfl) (fun K hK => ?_)
      go_simp
      refine Shut.out hK _ _ t1 ?_
      clear hK K
      try simp only [Act.put, zA, zB, zC]
      (apply tree_take; (· rfl); (· rfl); (· (intro w' hb'; go_simp; try with_reducible rfl)); try simp only [Act.put, zA, zB, zC])
      (apply tree_take; (· rfl); (· rfl); (· (intro w' hb'; go_simp; try with_reducible rfl)); try simp only [Act.put, zA, zB, zC])
      refine tree_one rfl (by rfl) (fun K hK => ?_)
      go_simp
      refine Shut.out hK _ _ t2 ?_
      clear hK K
      try simp only [Act.put, zA, zB, zC]
      (apply tree_take; (· rfl); (· rfl); (· (intro w' hb'; go_simp; try with_reducible rfl)); try simp only [Act.put, zA, zB, zC])
      (apply tree_take; (· rfl); (· rfl); (· (intro w' hb'; go_simp; try with_reducible rfl)); try simp only [Act.put, zA, zB, zC])
      refine tree_one rfl (by rfl) (fun K hK => ?_)
      go_simp
      refine Shut.out hK _ _ t3 ?_
      clear hK K
      try simp only [Act.put, zA, zB, zC]
      refine tree_nil ?_
      clear t0 t1 t2 t3
      go_wp2_with fail
      go_ret
      exact HEND.out
     ·refine tree_one rfl (by rfl) (fun K hK => oper_of_list rfl ?_)
      refine wpList_append_nx rfl _ _ 22 rfl (base := w9.heap.size) Tryz.underlying22 info8 rfl (by omega) rfl (World.ownsRow_nil _ _ _ _) rfl hkb (bytesV_one _) ⟨by omega, by have := HXB.out; omega⟩ hy0.size ?_
      intro p8 c8 wz ho8 hg8 _ _
      have hbz : Below w9.heap.size w9 wz := hy0.grown hg8 hy0.size (fun k hk => by
       have hk : (Value.slice none 0 0).ownBlock = some k := hk
       simp [Value.ownBlock] at hk)
      refine only_end (Shut.out hK _ _ (Turns.of_below hbz) ?_)
      clear hK K
      try simp only [Act.put, zA, zB, zC]
      have HOZ : Hid (wz.ownsRow w9.heap.size 5 1 (.slice p8 x.length c8) x.length (bytesV x)) := by
       have h9 := ho8
       rw [Nat.zero_add, List.nil_append] at h9
       exact h9
      clear ho8 hg8
      try rw [Nat.zero_add]
      have z7 : wz.cell? ⟨sb, 4, none⟩ = some (.int .u64 (s.turn : Int)) := (slA_cells (Below.keepOld hbz HROW9.out)).2.2.2.2.1
      refine tree_one rfl (by rfl) (fun K hK => ?_)
      go_simp
      refine Shut.out hK _ _ (Turns.of_below hbz) ?_
      clear hK K z7
      try simp only [Act.put, zA, zB, zC]
      repeat (apply tree_take; (· rfl); (· rfl); (· (intro w' hb'; go_simp; try with_reducible rfl)); try simp only [Act.put, zA, zB, zC])
      skip
      have hrz := Below.keepOld hbz HROW9.out
      have hfz : ∀ j, wz.frozen? ⟨sb, j, none⟩ = false := fun j => frozen_of_row _ _ _ _ _ hrz
      obtain ⟨_, _, _, z3, _, _, _⟩ := slA_cells hrz
      have r1 := Dk.cell_put (off := 3) (.int .i64 (FI : Int)) hrz
      have r2 := Dk.cell_put (off := 4) (.int .u64 (TN : Int)) r1
      have hfz1 : ∀ j, (wz.setCell ⟨sb, 3, none⟩ (.int .i64 (FI : Int))).frozen? ⟨sb, j, none⟩ = false := fun j => frozen_of_row _ _ _ _ _ r1
      have hfz2 : ∀ j, ((wz.setCell ⟨sb, 3, none⟩ (.int .i64 (FI : Int))).setCell ⟨sb, 4, none⟩ (.int .u64 (TN : Int))).frozen? ⟨sb, j, none⟩ = false := fun j => frozen_of_row _ _ _ _ _ r2
      have z4 : (wz.setCell ⟨sb, 3, none⟩ (.int .i64 (FI : Int))).cell? ⟨sb, 4, none⟩ = some (.int .u64 (s.turn : Int)) := by rw [cell_of_row _ _ _ _ _ _ r1]; rfl
      have z5 : ((wz.setCell ⟨sb, 3, none⟩ (.int .i64 (FI : Int))).setCell ⟨sb, 4, none⟩ (.int .u64 (TN : Int))).cell? ⟨sb, 5, none⟩ = some (.slice pb9 s.body.length cb9) := by rw [cell_of_row _ _ _ _ _ _ r2]; rfl
      have t0 : Turns (fun k => k = sb) w9 wz := Turns.of_below hbz
      have t1 : Turns (fun k => k = sb) w9 (wz.setCell ⟨sb, 3, none⟩ (.int .i64 (FI : Int))) := Turns.setCell (S := fun k => k = sb) (p := ⟨sb, 3, none⟩) t0 (fun _ => rfl) _
      have t2 : Turns (fun k => k = sb) w9 ((wz.setCell ⟨sb, 3, none⟩ (.int .i64 (FI : Int))).setCell ⟨sb, 4, none⟩ (.int .u64 (TN : Int))) := Turns.setCell (S := fun k => k = sb) (p := ⟨sb, 4, none⟩) t1 (fun _ => rfl) _
      have t3 : Turns (fun k => k = sb) w9 (((wz.setCell ⟨sb, 3, none⟩ (.int .i64 (FI : Int))).setCell ⟨sb, 4, none⟩ (.int .u64 (TN : Int))).setCell ⟨sb, 5, none⟩ (.slice p8 x.length c8)) := Turns.setCell (S := fun k => k = sb) (p := ⟨sb, 5, none⟩) t2 (fun _ => rfl) _
      have hst := (HS9.out.below hbz).set3 (FI : Int) (by have := HFI.out; omega) TN HT.out p8 c8 x ((Rd.of_own HOZ.out).base HB9.out)
      have HEND := Lib.hid (HF9.out _ p8 c8 hst.1 ((KS.of_below hbz).trans hst.2.1))
      clear hst r1 r2 hrz
      refine tree_one rfl (by rfl) (fun K hK => ?_)
      go_simp
      refine Shut.out hK _ _ t1 ?_
      clear hK K
      try simp only [Act.put, zA, zB, zC]
      (apply tree_take; (· rfl); (· rfl); (· (intro w' hb'; go_simp; try with_reducible rfl)); try simp only [Act.put, zA, zB, zC])
      (apply tree_take; (· rfl); (· rfl); (· (intro w' hb'; go_simp; try with_reducible rfl)); try simp only [Act.put, zA, zB, zC])
      refine tree_one rfl (by rfl) (fun K hK => ?_)
      go_simp
      refine Shut.out hK _ _ t2 ?_
      clear hK K
      try simp only [Act.put, zA, zB, zC]
      (apply tree_take; (· rfl); (· rfl); (· (intro w' hb'; go_simp; try with_reducible rfl)); try simp only [Act.put, zA, zB, zC])
      (apply tree_take; (· rfl); (· rfl); (· (intro w' hb'; go_simp; try with_reducible rfl)); try simp only [Act.put, zA, zB, zC])
      refine tree_one rfl (by rfl) (fun K hK => ?_)
      go_simp
      refine Shut.out hK _ _ t3 ?_
      clear hK K
      try simp only [Act.put, zA, zB, zC]
      refine tree_nil ?_
      clear t0 t1 t2 t3
      go_wp2_with fail
      go_ret
      exact HEND.out
    ·have hq0 : (layE FI ([.put FR, .sync] : List LA) d == 0) = false := beq_eq_false_iff_ne.2 hE
     have HF1 : Hid (SPutP base sb db a b d s x w (.returned (.int .i64 (layE FI ([.put FR, .sync] : List LA) d))) w9) := ⟨by rw [HPE.out], by rw [HPD.out, HPS.out, if_neg hE]; exact HS9.out, HK9.out⟩
     clear hE HPE HPD HPS HS9 HK9
     generalize layE FI ([.put FR, .sync] : List LA) d = EV at *
     go_wp2_with fail
     go_ret
     exact HF1.out
 ·have hw : IntKind.u64.wrap ((s.turn : Int) + 1) = ((0 : Nat) : Int) := by
   have := HS1.out.turn
   rw [IntKind.wrap_u64]; omega
  have HWR := Lib.hid (wrap_any 0 (by omega) p c x w1 (HK.out w1 (KT.of_below HB1.out)) HXL.out)
  have HNF : Hid (¬ fits s x = true) := by show ¬ _; unfold fits; rw [decide_eq_false ht, Bool.and_false]; decide
  clear ht
  obtain ⟨FR, hFR⟩ : ∃ FR, frame (be 0 8 ++ x) = FR := ⟨_, rfl⟩
  rw [hFR] at HWR
  clear hFR
  go_wp2_with fail
  refine HWR.out.mono ?_
  rintro e w2 ⟨p2, cw, rfl, ho2, hb2⟩
  have HB2 := Lib.hid hb2
  clear ho2 hb2 HWR c0 c1 c2 c3 c4 hcs
  go_upto_region 4 with fail
  have hal := Below.allocs w2 (.cells #[.slice p2 FR.length cw] 22)
  have hb13 := HB2.out.trans (hal.mono HB2.out.size)
  have HS3 := Lib.hid (HS1.out.below hb13)
  have HR3 := Lib.hid (Below.keepOld hb13 HROW.out)
  have HE3 := Lib.hid (Below.keepOld hb13 HR1.out)
  have HB3 := Lib.hid (HB1.out.trans (hb13.mono HB1.out.size))
  clear hal hb13 HB2 HS1 HROW HR1 HB1
  generalize w2.alloc (.cells #[.slice p2 FR.length cw] 22) = w3 at *
  obtain ⟨c0, c1, c2', c3, c4, c5, c6⟩ := slA_cells HR3.out
  have hcs : w3.cell? ⟨w.heap.size, 0, none⟩ = some (.pointer (some ⟨sb, 0, none⟩)) := by rw [cell_of_row _ _ _ _ _ _ HE3.out]; rfl
  have HF1 : Hid (SPutP base sb db a b d s x w (.returned (.int .i64 1)) w3) := by
   show _ ∧ _ ∧ _
   unfold putSE putSD putSS
   rw [if_neg HNF.out, if_neg HNF.out, if_neg (fun hh => HNF.out hh.1)]
   exact ⟨rfl, HS3.out, KS.of_below HB3.out⟩
  clear c5 c6 HS3 HR3 HE3 HB3
  go_wp2_with fail
  go_ret
  exact HF1.out
end Go.Proofs.YtnejjfglkindjaaGreatDoor.Slt
namespace Go.Proofs.YtnejjfglkindjaaGreatDoor.Rol
open Go.RowKit Go.Mir Go.Mir.Parts Dk
open Frm (frame scan)
open Cut (Ls LsO)
theorem enc_ok {l : List UInt8} (h : 1 ≤ l.length) : Frm.enc l = (frame l, 0) := by unfold Frm.enc; rw [if_neg (by omega)]
theorem enc_no {l : List UInt8} (h : l.length = 0) : Frm.enc l = ([], 1) := by unfold Frm.enc; rw [if_pos h]
def rolA (db i : Nat) : Array Value := #[.pointer (some ⟨db, 0, none⟩), .int .i64 (i : Int)]
def RolAt (w : World) (rb db i : Nat) : Prop := w.heap[rb]? = some (.cells (rolA db i) 136 (0, 0))
theorem RolAt.below {w w' : World} {rb db i : Nat} (h : RolAt w rb db i) (hb : Below w.heap.size w w') : RolAt w' rb db i := Below.keepOld hb h
theorem RolAt.lt {w : World} {rb db i : Nat} (h : RolAt w rb db i) : rb < w.heap.size := (Array.getElem?_eq_some_iff.1 h).1
theorem RolAt.c0 {w : World} {rb db i : Nat} (h : RolAt w rb db i) : w.cell? ⟨rb, 0, none⟩ = some (.pointer (some ⟨db, 0, none⟩)) := by rw [cell_of_row _ _ _ _ _ _ h]; rfl
theorem RolAt.c1 {w : World} {rb db i : Nat} (h : RolAt w rb db i) : w.cell? ⟨rb, 1, none⟩ = some (.int .i64 (i : Int)) := by rw [cell_of_row _ _ _ _ _ _ h]; rfl
theorem RolAt.kt {w w' : World} {base rb db i : Nat} (h : RolAt w rb db i) (hk : KT base w w') : RolAt w' rb db i := hk.row h (by decide) (by decide)
theorem rnone_any {rb db i : Nat} (w : World) (h : RolAt w rb db i) : Calls Tryz.prog 77 #[.pointer (some ⟨rb, 0, none⟩)] w fun e w' => e = .returned (.bool false) ∧ w = w' := by
 have hc := h.c0
 clear h
 go_enter Tryz.func77, Tryz.ntmps77
 go_wp2_with fail
 go_ret
 exact ⟨rfl, rfl⟩
set_option maxRecDepth 100000 in
set_option maxHeartbeats 1600000 in
theorem append_any {base db rb i : Nat} {d : DD} (w : World) (h : DX base db d w) (hr : RolAt w rb db i) (hi : i < 3) (p : Option Addr) (n c : Nat) (b : List UInt8) (hb : Bs w p n c b) (hn : n ≤ 4000) (hfew : (fD d i).steps.length + 1 ≤ 4398046511104) :
  Calls Tryz.prog 40 #[.pointer (some ⟨rb, 0, none⟩), .slice p n c] w (StP base db (appE d i b) (appD d i b) w) := by
 have H := Lib.hid h
 have HR := Lib.hid hr
 have HI := Lib.hid hi
 have HN := Lib.hid hb.length
 have HNN := Lib.hid hn
 have HEN := Lib.hid (Frm.encode_any p n c b w hb hn)
 have HRN := Lib.hid (rnone_any w hr)
 clear h hr hb hi
 by_cases h0 : b.length = 0
 ·rw [enc_no h0] at HEN
  obtain ⟨a1, a2⟩ := app_nil d i b h0
  have HA1 := Lib.hid a1
  have HA2 := Lib.hid a2
  clear a1 a2 h0
  go_enter Tryz.func40, Tryz.ntmps40
  go_wp2_with fail
  refine HRN.out.mono ?_
  rintro e w' ⟨rfl, rfl⟩
  go_wp2_with fail
  refine HEN.out.mono ?_
  rintro e w1 ⟨p1, c1, rfl, ho1, hb1⟩
  have HB1 := Lib.hid hb1
  clear ho1 hb1
  go_wp2_with fail
  go_ret
  exact ⟨by rw [HA1.out]; rfl, by rw [HA2.out]; exact H.out.below HB1.out, .of_below HB1.out⟩
 ·rw [enc_ok (by omega)] at HEN
  have HFL : Hid ((frame b).length ≤ 140737488355328) := by show _ ≤ _; rw [Frm.frame_length]; have := HN.out; omega
  have HFEW := Lib.hid hfew
  have HAE : Hid (appE d i b = if doE d i (fD d i) (.put (frame b)) = 0 then syncE (doD d i (fD d i) (.put (frame b))) else doE d i (fD d i) (.put (frame b))) := by show _ = _; unfold appE; rw [if_neg h0]
  have HAD : Hid (appD d i b = if doE d i (fD d i) (.put (frame b)) = 0 then syncD (doD d i (fD d i) (.put (frame b))) i (fD (doD d i (fD d i) (.put (frame b))) i) else doD d i (fD d i) (.put (frame b))) := by show _ = _; unfold appD; rw [if_neg h0]
  clear h0
  go_enter Tryz.func40, Tryz.ntmps40
  go_wp2_with fail
  refine HRN.out.mono ?_
  rintro e w' ⟨rfl, rfl⟩
  go_wp2_with fail
  refine HEN.out.mono ?_
  rintro e w1 ⟨p1, c1, rfl, ho1, hb1⟩
  have HO1 := Lib.hid (Cut.own_bs ho1)
  have HX := Lib.hid (H.out.below hb1)
  have HRX := Lib.hid (HR.out.below hb1)
  have HKX : Hid (KT base w w1) := KT.of_below hb1
  clear ho1 hb1
  dsimp only
  go_upto_region 6 with fail
  have HC0 : Hid (∀ w', Below w1.heap.size w1 w' → w'.cell? ⟨rb, 0, none⟩ = some (.pointer (some ⟨db, 0, none⟩))) := fun w' hb => (HRX.out.below hb).c0
  have HC1 : Hid (∀ w', Below w1.heap.size w1 w' → w'.cell? ⟨rb, 1, none⟩ = some (.int .i64 (i : Int))) := fun w' hb => (HRX.out.below hb).c1
  refine wp_region_eager_t (Below w1.heap.size w1) [0, 1, 2, 3, 4, 5, 6, 7, 8] [(0, true), (1, true), (2, true), (3, true), (4, true), (5, true), (6, true), (7, true), (8, true)] [9, 10] (by kernel_rfl) (by kernel_rfl) ?_ (eagerTOpen rfl ?_)
  ·exact below_drew1 _ _
  repeat (first
   | ((first | (apply wpEagerT_take; (· rfl); (· (intro w' hb'; go_simp; try with_reducible rfl))) | refine wpEagerT_skip (by rfl) ?_); (try simp only [Act.put, zA, zB, zC]); (try refine eagerTOpen rfl ?_))
   | (apply wpEagerT_take; (· rfl); (· (intro w' hb'; have hk' := (HC0.out) w' hb'; go_split_ands; go_simp; try with_reducible rfl)); (try simp only [Act.put, zA, zB, zC]); (try refine eagerTOpen rfl ?_))
   | (apply wpEagerT_take; (· rfl); (· (intro w' hb'; have hk' := (HC1.out) w' hb'; go_split_ands; go_simp; try with_reducible rfl)); (try simp only [Act.put, zA, zB, zC]); (try refine eagerTOpen rfl ?_)))
  refine eagerTEnd (tail2 rfl rfl ?_)
  clear HC0 HC1
  have HO2 := Lib.hid (HO1.out.below (below_drew1 _ _))
  skip
  have HY := Lib.hid (HX.out.below (below_drew1 _ _))
  have HRY := Lib.hid (HRX.out.below (below_drew1 _ _))
  have HKY := Lib.hid (HKX.out.next (below_drew1 _ _))
  generalize w1.drew = w2 at *
  clear HX HRX HKX
  have HAP := Lib.hid (xappend w2 HY.out i HI.out p1 _ c1 (frame b) HO2.out HFL.out HFEW.out)
  generalize doE d i (fD d i) (.put (frame b)) = x at *
  generalize doD d i (fD d i) (.put (frame b)) = d1 at *
  go_wp2_with fail
  refine HAP.out.mono ?_
  rintro e w3 ⟨rfl, hd3, hk3⟩
  have HX := Lib.hid hd3
  have HKX := Lib.hid (HKY.out.trans hk3)
  have HRX := Lib.hid (HRY.out.kt hk3)
  clear hd3 hk3 HKY HRY HY HAP HO1 HO2
  go_wp2_with fail
  refine noPanic_end ?_
  by_cases hx : x = 0
  ·have z1 : (x != 0) = false := by simp [hx]
   rw [if_pos hx] at HAE HAD
   clear hx
   go_upto_region 9 with fail
   have HC0 : Hid (∀ w', Below w3.heap.size w3 w' → w'.cell? ⟨rb, 0, none⟩ = some (.pointer (some ⟨db, 0, none⟩))) := fun w' hb => (HRX.out.below hb).c0
   have HC1 : Hid (∀ w', Below w3.heap.size w3 w' → w'.cell? ⟨rb, 1, none⟩ = some (.int .i64 (i : Int))) := fun w' hb => (HRX.out.below hb).c1
   refine wp_region_eager_t (Below w3.heap.size w3) [0, 1, 2, 3, 4, 5, 6, 7] [(0, true), (1, true), (2, true), (3, true), (4, true), (5, true), (6, true), (7, true)] [8, 9] (by kernel_rfl) (by kernel_rfl) ?_ (eagerTOpen rfl ?_)
   ·exact below_drew1 _ _
   repeat (first
    | ((first | (apply wpEagerT_take; (· rfl); (· (intro w' hb'; go_simp; try with_reducible rfl))) | refine wpEagerT_skip (by rfl) ?_); (try simp only [Act.put, zA, zB, zC]); (try refine eagerTOpen rfl ?_))
    | (apply wpEagerT_take; (· rfl); (· (intro w' hb'; have hk' := (HC0.out) w' hb'; go_split_ands; go_simp; try with_reducible rfl)); (try simp only [Act.put, zA, zB, zC]); (try refine eagerTOpen rfl ?_))
    | (apply wpEagerT_take; (· rfl); (· (intro w' hb'; have hk' := (HC1.out) w' hb'; go_split_ands; go_simp; try with_reducible rfl)); (try simp only [Act.put, zA, zB, zC]); (try refine eagerTOpen rfl ?_)))
   refine eagerTEnd (tail2 rfl rfl ?_)
   clear HC0 HC1
   have HY := Lib.hid (HX.out.below (below_drew1 _ _))
   have HRY := Lib.hid (HRX.out.below (below_drew1 _ _))
   have HKY := Lib.hid (HKX.out.next (below_drew1 _ _))
   generalize w3.drew = w4 at *
   clear HX HRX HKX
   have HSY := Lib.hid (xsync w4 HY.out i HI.out)
   go_wp2_with fail
   refine HSY.out.mono ?_
   rintro e w5 ⟨rfl, hd5, hk5⟩
   have HD5 := Lib.hid hd5
   have HK5 := Lib.hid (HKY.out.trans hk5)
   clear hd5 hk5
   go_wp2_with fail
   refine noPanic_end ?_
   go_wp2_with fail
   go_ret
   exact ⟨by rw [HAE.out]; rfl, by rw [HAD.out]; exact HD5.out, HK5.out⟩
  ·have z1 : (x != 0) = true := by simp [hx]
   rw [if_neg hx] at HAE HAD
   clear hx
   go_wp2_with fail
   go_ret
   exact ⟨by rw [HAE.out]; rfl, by rw [HAD.out]; exact HX.out, HKX.out⟩
set_option maxRecDepth 100000 in
set_option maxHeartbeats 1600000 in
theorem clear_any {base db rb i : Nat} {d : DD} (w : World) (h : DX base db d w) (hr : RolAt w rb db i) (hi : i < 3) (hfew : (fD d i).steps.length + 1 ≤ 4398046511104) :
  Calls Tryz.prog 43 #[.pointer (some ⟨rb, 0, none⟩)] w (StP base db (clrE d i 0) (clrD d i 0) w) := by
 have HX := Lib.hid h
 have HRX := Lib.hid hr
 have HKX : Hid (KT base w w) := KT.refl _ _
 have HI := Lib.hid hi
 have HRN := Lib.hid (rnone_any w hr)
 have HFEW := Lib.hid hfew
 have HAE : Hid (clrE d i 0 = if doE d i (fD d i) (.cut 0) = 0 then syncE (doD d i (fD d i) (.cut 0)) else doE d i (fD d i) (.cut 0)) := rfl
 have HAD : Hid (clrD d i 0 = if doE d i (fD d i) (.cut 0) = 0 then syncD (doD d i (fD d i) (.cut 0)) i (fD (doD d i (fD d i) (.cut 0)) i) else doD d i (fD d i) (.cut 0)) := rfl
 clear h hr hi hfew
 go_enter Tryz.func43, Tryz.ntmps43
 go_wp2_with fail
 refine HRN.out.mono ?_
 rintro e w' ⟨rfl, rfl⟩
 go_upto_region 3 with fail
 have HC0 : Hid (∀ w', Below w.heap.size w w' → w'.cell? ⟨rb, 0, none⟩ = some (.pointer (some ⟨db, 0, none⟩))) := fun w' hb => (HRX.out.below hb).c0
 have HC1 : Hid (∀ w', Below w.heap.size w w' → w'.cell? ⟨rb, 1, none⟩ = some (.int .i64 (i : Int))) := fun w' hb => (HRX.out.below hb).c1
 refine wp_region_eager_t (Below w.heap.size w) [0, 1, 2, 3, 4, 5, 6, 7] [(0, true), (1, true), (2, true), (3, true), (4, true), (5, true), (6, true), (7, true)] [8, 9] (by kernel_rfl) (by kernel_rfl) ?_ (eagerTOpen rfl ?_)
 ·exact below_drew1 _ _
 repeat (first
  | ((first | (apply wpEagerT_take; (· rfl); (· (intro w' hb'; go_simp; try with_reducible rfl))) | refine wpEagerT_skip (by rfl) ?_); (try simp only [Act.put, zA, zB, zC]); (try refine eagerTOpen rfl ?_))
  | (apply wpEagerT_take; (· rfl); (· (intro w' hb'; have hk' := (HC0.out) w' hb'; go_split_ands; go_simp; try with_reducible rfl)); (try simp only [Act.put, zA, zB, zC]); (try refine eagerTOpen rfl ?_))
  | (apply wpEagerT_take; (· rfl); (· (intro w' hb'; have hk' := (HC1.out) w' hb'; go_split_ands; go_simp; try with_reducible rfl)); (try simp only [Act.put, zA, zB, zC]); (try refine eagerTOpen rfl ?_)))
 refine eagerTEnd (tail2 rfl rfl ?_)
 clear HC0 HC1
 have HY := Lib.hid (HX.out.below (below_drew1 _ _))
 have HRY := Lib.hid (HRX.out.below (below_drew1 _ _))
 have HKY := Lib.hid (HKX.out.next (below_drew1 _ _))
 generalize w.drew = w2 at *
 clear HX HRX HKX
 have HAP : Hid (Calls Tryz.prog 87 #[.pointer (some ⟨db, 0, none⟩), .int .i64 (i : Int), .int .i64 0] w2 (StP base db (doE d i (fD d i) (.cut 0)) (doD d i (fD d i) (.cut 0)) w2)) := xcut w2 HY.out i HI.out 0 (Nat.zero_le _) HFEW.out
 generalize doE d i (fD d i) (.cut 0) = x at *
 generalize doD d i (fD d i) (.cut 0) = d1 at *
 go_wp2_with fail
 refine HAP.out.mono ?_
 rintro e w3 ⟨rfl, hd3, hk3⟩
 have HX := Lib.hid hd3
 have HKX := Lib.hid (HKY.out.trans hk3)
 have HRX := Lib.hid (HRY.out.kt hk3)
 clear hd3 hk3 HKY HRY HY HAP
 go_wp2_with fail
 refine noPanic_end ?_
 by_cases hx : x = 0
 ·have z1 : (x != 0) = false := by simp [hx]
  rw [if_pos hx] at HAE HAD
  clear hx
  go_upto_region 6 with fail
  have HC0 : Hid (∀ w', Below w3.heap.size w3 w' → w'.cell? ⟨rb, 0, none⟩ = some (.pointer (some ⟨db, 0, none⟩))) := fun w' hb => (HRX.out.below hb).c0
  have HC1 : Hid (∀ w', Below w3.heap.size w3 w' → w'.cell? ⟨rb, 1, none⟩ = some (.int .i64 (i : Int))) := fun w' hb => (HRX.out.below hb).c1
  refine wp_region_eager_t (Below w3.heap.size w3) [0, 1, 2, 3, 4, 5, 6, 7] [(0, true), (1, true), (2, true), (3, true), (4, true), (5, true), (6, true), (7, true)] [8, 9] (by kernel_rfl) (by kernel_rfl) ?_ (eagerTOpen rfl ?_)
  ·exact below_drew1 _ _
  repeat (first
   | ((first | (apply wpEagerT_take; (· rfl); (· (intro w' hb'; go_simp; try with_reducible rfl))) | refine wpEagerT_skip (by rfl) ?_); (try simp only [Act.put, zA, zB, zC]); (try refine eagerTOpen rfl ?_))
   | (apply wpEagerT_take; (· rfl); (· (intro w' hb'; have hk' := (HC0.out) w' hb'; go_split_ands; go_simp; try with_reducible rfl)); (try simp only [Act.put, zA, zB, zC]); (try refine eagerTOpen rfl ?_))
   | (apply wpEagerT_take; (· rfl); (· (intro w' hb'; have hk' := (HC1.out) w' hb'; go_split_ands; go_simp; try with_reducible rfl)); (try simp only [Act.put, zA, zB, zC]); (try refine eagerTOpen rfl ?_)))
  refine eagerTEnd (tail2 rfl rfl ?_)
  clear HC0 HC1
  have HY := Lib.hid (HX.out.below (below_drew1 _ _))
  have HRY := Lib.hid (HRX.out.below (below_drew1 _ _))
  have HKY := Lib.hid (HKX.out.next (below_drew1 _ _))
  generalize w3.drew = w4 at *
  clear HX HRX HKX
  have HSY := Lib.hid (xsync w4 HY.out i HI.out)
  go_wp2_with fail
  refine HSY.out.mono ?_
  rintro e w5 ⟨rfl, hd5, hk5⟩
  have HD5 := Lib.hid hd5
  have HK5 := Lib.hid (HKY.out.trans hk5)
  clear hd5 hk5
  go_wp2_with fail
  refine noPanic_end ?_
  go_wp2_with fail
  go_ret
  exact ⟨by rw [HAE.out]; rfl, by rw [HAD.out]; exact HD5.out, HK5.out⟩
 ·have z1 : (x != 0) = true := by simp [hx]
  rw [if_neg hx] at HAE HAD
  clear hx
  go_wp2_with fail
  go_ret
  exact ⟨by rw [HAE.out]; rfl, by rw [HAD.out]; exact HX.out, HKX.out⟩
end Go.Proofs.YtnejjfglkindjaaGreatDoor.Rol
namespace Go.Proofs.YtnejjfglkindjaaGreatDoor.Rol
open Go.RowKit Go.Mir Go.Mir.Parts Dk
open Frm (frame scan)
open Cut (Ls LsO)
def BodP (l : List UInt8) (w : World) (e : Ending) (w' : World) : Prop := ∃ p c, e = .returned (.slice p (scan l).1.length c) ∧ LsO w' w.heap.size (.slice p (scan l).1.length c) (scan l).1 ∧ Below w.heap.size w w'
set_option maxRecDepth 100000 in
set_option maxHeartbeats 1600000 in
theorem bodies_any {base db rb i : Nat} {d : DD} (w : World) (hE : Rdr.EType w) (h : DX base db d w) (hr : RolAt w rb db i) (hi : i < 3) :
  Calls Tryz.prog 70 #[.pointer (some ⟨rb, 0, none⟩)] w (BodP (fD d i).now w) := by
 have HX := Lib.hid h
 have HRX := Lib.hid hr
 have HKX : Hid (Below w.heap.size w w) := Below.refl _ _
 have HI := Lib.hid hi
 have HRN := Lib.hid (rnone_any w hr)
 have HE := Lib.hid hE
 have HLE := Lib.hid (h.le hi)
 clear h hr hi hE
 go_enter Tryz.func70, Tryz.ntmps70
 go_wp2_with fail
 refine HRN.out.mono ?_
 rintro e w' ⟨rfl, rfl⟩
 go_upto_region 3 with fail
 have HC0 : Hid (∀ w', Below w.heap.size w w' → w'.cell? ⟨rb, 0, none⟩ = some (.pointer (some ⟨db, 0, none⟩))) := fun w' hb => (HRX.out.below hb).c0
 have HC1 : Hid (∀ w', Below w.heap.size w w' → w'.cell? ⟨rb, 1, none⟩ = some (.int .i64 (i : Int))) := fun w' hb => (HRX.out.below hb).c1
 refine wp_region_eager [(0, true), (1, true), (2, true), (3, true), (4, true), (5, true), (6, true), (7, true), (8, false), (9, false), (10, true), (11, true), (12, true), (13, true), (14, true)] (by kernel_rfl) (by kernel_rfl) (eagerOpen rfl ?_)
 have hy0 : Below w.heap.size w w.drew := below_drew1 _ _
 repeat (first
  | ((first | (apply wpEager_take; (· rfl); (· (intro w' hb'; go_simp; try with_reducible rfl))) | refine wpEager_skip (by rfl) ?_ | refine wpEager_off (by rfl) ?_); (try simp only [Act.put, zA, zB, zC]); (try refine eagerOpen rfl ?_))
  | (apply wpEager_take; (· rfl); (· (intro w' hb'; have hk' := (HC0.out) w' hb'; go_split_ands; go_simp; try with_reducible rfl)); (try simp only [Act.put, zA, zB, zC]); (try refine eagerOpen rfl ?_))
  | (apply wpEager_take; (· rfl); (· (intro w' hb'; have hk' := (HC1.out) w' hb'; go_split_ands; go_simp; try with_reducible rfl)); (try simp only [Act.put, zA, zB, zC]); (try refine eagerOpen rfl ?_)))
 (refine wpEager_op (by rfl) (fun K hK => ?_); go_simp; (refine (xread w.drew (HX.out.below hy0) i HI.out).mono ?_; rintro e w3 ⟨p3, c3, rfl, hs3, hb3⟩; have hy3 := hy0.trans (hb3.mono hy0.size); clear hb3); refine Shut.out hK _ _ (by assumption) ?_; clear hK K; (try simp only [Act.put, zA, zB, zC]); (try refine eagerOpen rfl ?_))
 generalize (fD d i).now = L at *
 (refine wpEager_op (by rfl) (fun K hK => ?_); go_simp; (refine (Frm.scanO_any p3 _ c3 _ w3 (HE.out.below hy3 HE.out.lt) hs3 (Frm.bs_block hs3) (by have := HLE.out; omega)).mono ?_; rintro e w4 ⟨v, rfl, hl4, hb4⟩; obtain ⟨p4, c4, rfl, -⟩ := hl4.ls.sl; have HL4 := Lib.hid (Frm.LsO.low hl4 hy3.size); have hy4 := hy3.trans (hb4.mono hy3.size); clear hl4 hb4); refine Shut.out hK _ _ (by assumption) ?_; clear hK K; (try simp only [Act.put, zA, zB, zC]); (try refine eagerOpen rfl ?_))
 repeat (first
  | ((first | (apply wpEager_take; (· rfl); (· (intro w' hb'; go_simp; try with_reducible rfl))) | refine wpEager_skip (by rfl) ?_ | refine wpEager_off (by rfl) ?_); (try simp only [Act.put, zA, zB, zC]); (try refine eagerOpen rfl ?_)))
 refine eagerEnd ?_
 have HB4 := Lib.hid hy4
 clear hy0 hy3 hy4 hs3 HC0 HC1
 go_wp2_with fail
 go_ret
 exact ⟨_, _, rfl, HL4.out, HB4.out⟩
set_option maxRecDepth 100000 in
set_option maxHeartbeats 1600000 in
theorem size_any {base db rb i : Nat} {d : DD} (w : World) (h : DX base db d w) (hr : RolAt w rb db i) (hi : i < 3) :
  Calls Tryz.prog 39 #[.pointer (some ⟨rb, 0, none⟩)] w fun e w' => e = .returned (.int .i64 ((fD d i).now.length : Int)) ∧ Below w.heap.size w w' := by
 have HX := Lib.hid h
 have HRX := Lib.hid hr
 have HI := Lib.hid hi
 have HRN := Lib.hid (rnone_any w hr)
 clear h hr hi
 go_enter Tryz.func39, Tryz.ntmps39
 go_wp2_with fail
 refine HRN.out.mono ?_
 rintro e w' ⟨rfl, rfl⟩
 go_upto_region 3 with fail
 have HC0 : Hid (∀ w', Below w.heap.size w w' → w'.cell? ⟨rb, 0, none⟩ = some (.pointer (some ⟨db, 0, none⟩))) := fun w' hb => (HRX.out.below hb).c0
 have HC1 : Hid (∀ w', Below w.heap.size w w' → w'.cell? ⟨rb, 1, none⟩ = some (.int .i64 (i : Int))) := fun w' hb => (HRX.out.below hb).c1
 refine wp_region_eager_t (Below w.heap.size w) [0, 1, 2, 3, 4, 5, 6, 7] [(0, true), (1, true), (2, true), (3, true), (4, true), (5, true), (6, true), (7, true)] [8, 9] (by kernel_rfl) (by kernel_rfl) ?_ (eagerTOpen rfl ?_)
 ·exact below_drew1 _ _
 repeat (first
  | ((first | (apply wpEagerT_take; (· rfl); (· (intro w' hb'; go_simp; try with_reducible rfl))) | refine wpEagerT_skip (by rfl) ?_); (try simp only [Act.put, zA, zB, zC]); (try refine eagerTOpen rfl ?_))
  | (apply wpEagerT_take; (· rfl); (· (intro w' hb'; have hk' := (HC0.out) w' hb'; go_split_ands; go_simp; try with_reducible rfl)); (try simp only [Act.put, zA, zB, zC]); (try refine eagerTOpen rfl ?_))
  | (apply wpEagerT_take; (· rfl); (· (intro w' hb'; have hk' := (HC1.out) w' hb'; go_split_ands; go_simp; try with_reducible rfl)); (try simp only [Act.put, zA, zB, zC]); (try refine eagerTOpen rfl ?_)))
 refine eagerTEnd (tail2 rfl rfl ?_)
 clear HC0 HC1
 have HY := Lib.hid (HX.out.below (below_drew1 _ _))
 have HKY : Hid (Below w.heap.size w w.drew) := below_drew1 _ _
 have HRD := Lib.hid (xsize w.drew HY.out i HI.out)
 go_wp2_with fail
 refine HRD.out.mono ?_
 rintro e w3 ⟨rfl, hb3⟩
 have HB3 := Lib.hid (HKY.out.trans (hb3.mono HKY.out.size))
 clear hb3
 go_wp2_with fail
 refine noPanic_end ?_
 go_wp2_with fail
 go_ret
 exact ⟨rfl, HB3.out⟩
set_option maxRecDepth 100000 in
set_option maxHeartbeats 3200000 in
theorem mend_any {base db rb i : Nat} {d : DD} (w : World) (hE : Rdr.EType w) (h : DX base db d w) (hr : RolAt w rb db i) (hi : i < 3) (hfew : (fD d i).steps.length + 1 ≤ 4398046511104) :
  Calls Tryz.prog 67 #[.pointer (some ⟨rb, 0, none⟩)] w (StP base db (mendE d i) (mendD d i) w) := by
 have HX := Lib.hid h
 have HRX := Lib.hid hr
 have HKX : Hid (KT base w w) := KT.refl _ _
 have HI := Lib.hid hi
 have HE := Lib.hid hE
 have HLE := Lib.hid (h.le hi)
 have HFEW := Lib.hid hfew
 have HSL := Lib.hid (scan_le (fD d i).now)
 have HME : Hid (mendE d i = if (scan (fD d i).now).2 < (fD d i).now.length then (if doE d i (fD d i) (.cut (scan (fD d i).now).2) = 0 then endE (doD d i (fD d i) (.cut (scan (fD d i).now).2)) i else doE d i (fD d i) (.cut (scan (fD d i).now).2)) else endE d i) := rfl
 have HMD : Hid (mendD d i = if (scan (fD d i).now).2 < (fD d i).now.length then (if doE d i (fD d i) (.cut (scan (fD d i).now).2) = 0 then endD (doD d i (fD d i) (.cut (scan (fD d i).now).2)) i else doD d i (fD d i) (.cut (scan (fD d i).now).2)) else endD d i) := rfl
 have HCUT := fun w (h : DX base db d w) => xcut w h i hi (scan (fD d i).now).2 (scan_le _) hfew
 have HCT := Lib.hid HCUT
 clear h hr hi hE hfew HCUT
 obtain ⟨L, hL⟩ : ∃ L, (fD d i).now = L := ⟨_, rfl⟩
 rw [hL] at HLE HSL HME HMD HCT
 have HLL := Lib.hid hL
 obtain ⟨G, hG⟩ : ∃ G, (scan L).2 = G := ⟨_, rfl⟩
 rw [hG] at HSL HME HMD HCT
 have HGG := Lib.hid hG
 clear hL hG
 have hlx := HLE.out
 have hsx := HSL.out
 go_enter Tryz.func67, Tryz.ntmps67
 go_upto_region 1 with fail
 have HC0 : Hid (∀ w', Below w.heap.size w w' → w'.cell? ⟨rb, 0, none⟩ = some (.pointer (some ⟨db, 0, none⟩))) := fun w' hb => (HRX.out.below hb).c0
 have HC1 : Hid (∀ w', Below w.heap.size w w' → w'.cell? ⟨rb, 1, none⟩ = some (.int .i64 (i : Int))) := fun w' hb => (HRX.out.below hb).c1
 refine wp_region_eager_t (Below w.heap.size w) [0, 1, 2, 3, 4, 5, 6, 7] [(0, true), (1, true), (2, true), (3, true), (4, true), (5, true), (6, true), (7, true)] [8, 9] (by kernel_rfl) (by kernel_rfl) ?_ (eagerTOpen rfl ?_)
 ·exact below_drew1 _ _
 repeat (first
  | ((first | (apply wpEagerT_take; (· rfl); (· (intro w' hb'; go_simp; try with_reducible rfl))) | refine wpEagerT_skip (by rfl) ?_); (try simp only [Act.put, zA, zB, zC]); (try refine eagerTOpen rfl ?_))
  | (apply wpEagerT_take; (· rfl); (· (intro w' hb'; have hk' := (HC0.out) w' hb'; go_split_ands; go_simp; try with_reducible rfl)); (try simp only [Act.put, zA, zB, zC]); (try refine eagerTOpen rfl ?_))
  | (apply wpEagerT_take; (· rfl); (· (intro w' hb'; have hk' := (HC1.out) w' hb'; go_split_ands; go_simp; try with_reducible rfl)); (try simp only [Act.put, zA, zB, zC]); (try refine eagerTOpen rfl ?_)))
 refine eagerTEnd (tail2 rfl rfl ?_)
 clear HC0 HC1
 have HB1 := Lib.hid (below_drew1 w.heap.size w)
 skip
 have HY := Lib.hid (HX.out.below (below_drew1 _ _))
 have HRY := Lib.hid (HRX.out.below (below_drew1 _ _))
 have HKY := Lib.hid (HKX.out.next (below_drew1 _ _))
 generalize w.drew = w1 at *
 clear HX HRX HKX
 have hrd := xread w1 HY.out i HI.out
 rw [HLL.out] at hrd
 have HRD := Lib.hid hrd
 clear hrd
 go_wp2_with fail
 refine HRD.out.mono ?_
 rintro e w3 ⟨p3, c3, rfl, hs3, hb3⟩
 have HX := Lib.hid (HY.out.below hb3)
 have HRX := Lib.hid (HRY.out.below hb3)
 have HKX := Lib.hid (HKY.out.next hb3)
 have HE3 := Lib.hid (HE.out.below (HB1.out.trans (hb3.mono HB1.out.size)) HE.out.lt)
 have hsc := Frm.scanO_any p3 _ c3 _ w3 HE3.out hs3 (Frm.bs_block hs3) (by omega)
 unfold Frm.ScanO at hsc
 rw [HGG.out] at hsc
 have HSC := Lib.hid hsc
 clear HY HRY HKY hsc hs3 hb3 HRD HE3 HB1
 go_wp2_with fail
 refine noPanic_end ?_
 go_wp2_with fail
 refine HSC.out.mono ?_
 rintro e w4 ⟨v4, rfl, hl4, hb4⟩
 have HX4 := Lib.hid (HX.out.below hb4)
 have HRX4 := Lib.hid (HRX.out.below hb4)
 have HKX4 := Lib.hid (HKX.out.next hb4)
 clear HX HRX HKX hl4 hb4 HSC
 have HX := HX4
 have HRX := HRX4
 have HKX := HKX4
 clear HX4 HRX4 HKX4
 by_cases hg : G < L.length
 ·have z3 : decide ((G : Int) < (L.length : Int)) = true := decide_eq_true (by omega)
  have z4 : decide (G < L.length) = true := decide_eq_true hg
  rw [if_pos hg] at HME HMD
  clear hg
  go_upto_region 4 with fail
  have HC0 : Hid (∀ w', Below w4.heap.size w4 w' → w'.cell? ⟨rb, 0, none⟩ = some (.pointer (some ⟨db, 0, none⟩))) := fun w' hb => (HRX.out.below hb).c0
  have HC1 : Hid (∀ w', Below w4.heap.size w4 w' → w'.cell? ⟨rb, 1, none⟩ = some (.int .i64 (i : Int))) := fun w' hb => (HRX.out.below hb).c1
  refine wp_region_eager_t (Below w4.heap.size w4) [0, 1, 2, 3, 4, 5, 6, 7, 8] [(0, true), (1, true), (2, true), (3, true), (4, true), (5, true), (6, true), (7, true), (8, true)] [9, 10] (by kernel_rfl) (by kernel_rfl) ?_ (eagerTOpen rfl ?_)
  ·exact below_drew1 _ _
  repeat (first
   | ((first | (apply wpEagerT_take; (· rfl); (· (intro w' hb'; go_simp; try with_reducible rfl))) | refine wpEagerT_skip (by rfl) ?_); (try simp only [Act.put, zA, zB, zC]); (try refine eagerTOpen rfl ?_))
   | (apply wpEagerT_take; (· rfl); (· (intro w' hb'; have hk' := (HC0.out) w' hb'; go_split_ands; go_simp; try with_reducible rfl)); (try simp only [Act.put, zA, zB, zC]); (try refine eagerTOpen rfl ?_))
   | (apply wpEagerT_take; (· rfl); (· (intro w' hb'; have hk' := (HC1.out) w' hb'; go_split_ands; go_simp; try with_reducible rfl)); (try simp only [Act.put, zA, zB, zC]); (try refine eagerTOpen rfl ?_)))
  refine eagerTEnd (tail2 rfl rfl ?_)
  clear HC0 HC1
  have HY := Lib.hid (HX.out.below (below_drew1 _ _))
  have HRY := Lib.hid (HRX.out.below (below_drew1 _ _))
  have HKY := Lib.hid (HKX.out.next (below_drew1 _ _))
  generalize w4.drew = w5 at *
  clear HX HRX HKX
  have HCC := Lib.hid (HCT.out w5 HY.out)
  generalize doE d i (fD d i) (.cut G) = x at *
  generalize doD d i (fD d i) (.cut G) = d1 at *
  go_wp2_with fail
  refine HCC.out.mono ?_
  rintro e w6 ⟨rfl, hd6, hk6⟩
  have HX := Lib.hid hd6
  have HKX := Lib.hid (HKY.out.trans hk6)
  have HRX := Lib.hid (HRY.out.kt hk6)
  clear hd6 hk6 HKY HRY HY HCC HCT
  by_cases hx : x = 0
  ·have z1 : (x != 0) = false := by simp [hx]
   rw [if_pos hx] at HME HMD
   clear hx
   go_wp2_with fail
   refine noPanic_end ?_
   skip
   go_upto_region 7 with fail
   have HC0 : Hid (∀ w', Below w6.heap.size w6 w' → w'.cell? ⟨rb, 0, none⟩ = some (.pointer (some ⟨db, 0, none⟩))) := fun w' hb => (HRX.out.below hb).c0
   have HC1 : Hid (∀ w', Below w6.heap.size w6 w' → w'.cell? ⟨rb, 1, none⟩ = some (.int .i64 (i : Int))) := fun w' hb => (HRX.out.below hb).c1
   refine wp_region_eager_t (Below w6.heap.size w6) [0, 1, 2, 3, 4, 5, 6, 7] [(0, true), (1, true), (2, true), (3, true), (4, true), (5, true), (6, true), (7, true)] [8, 9] (by kernel_rfl) (by kernel_rfl) ?_ (eagerTOpen rfl ?_)
   ·exact below_drew1 _ _
   repeat (first
    | ((first | (apply wpEagerT_take; (· rfl); (· (intro w' hb'; go_simp; try with_reducible rfl))) | refine wpEagerT_skip (by rfl) ?_); (try simp only [Act.put, zA, zB, zC]); (try refine eagerTOpen rfl ?_))
    | (apply wpEagerT_take; (· rfl); (· (intro w' hb'; have hk' := (HC0.out) w' hb'; go_split_ands; go_simp; try with_reducible rfl)); (try simp only [Act.put, zA, zB, zC]); (try refine eagerTOpen rfl ?_))
    | (apply wpEagerT_take; (· rfl); (· (intro w' hb'; have hk' := (HC1.out) w' hb'; go_split_ands; go_simp; try with_reducible rfl)); (try simp only [Act.put, zA, zB, zC]); (try refine eagerTOpen rfl ?_)))
   refine eagerTEnd (tail2 rfl rfl ?_)
   clear HC0 HC1
   have HY := Lib.hid (HX.out.below (below_drew1 _ _))
   have HRY := Lib.hid (HRX.out.below (below_drew1 _ _))
   have HKY := Lib.hid (HKX.out.next (below_drew1 _ _))
   generalize w6.drew = w7 at *
   clear HX HRX HKX
   have HUN := Lib.hid (xunits w7 HY.out i HI.out)
   have HEE : Hid (endE d1 i = if unitsAll (fD d1 i).steps = 0 then 0 else syncE d1) := rfl
   have HED : Hid (endD d1 i = if unitsAll (fD d1 i).steps = 0 then d1 else syncD d1 i (fD d1 i)) := rfl
   obtain ⟨un, hun⟩ : ∃ un, unitsAll (fD d1 i).steps = un := ⟨_, rfl⟩
   rw [hun] at HUN HEE HED
   clear hun
   go_wp2_with fail
   refine HUN.out.mono ?_
   rintro e w8 ⟨rfl, hb8⟩
   have HX := Lib.hid (HY.out.below hb8)
   have HRX := Lib.hid (HRY.out.below hb8)
   have HKX := Lib.hid (HKY.out.next hb8)
   clear hb8 HY HRY HKY HUN
   by_cases hu : un = 0
   ·have z1 : ((un : Int) == 0) = true := by rw [beq_iff_eq]; omega
    have z2 : (un == 0) = true := by rw [beq_iff_eq]; omega
    rw [if_pos hu] at HEE HED
    clear hu
    go_wp2_with fail
    refine noPanic_end ?_
    go_wp2_with fail
    go_ret
    exact ⟨by rw [HME.out, HEE.out]; rfl, by rw [HMD.out, HED.out]; exact HX.out, HKX.out⟩
   ·have z1 : ((un : Int) == 0) = false := by rw [beq_eq_false_iff_ne]; omega
    have z2 : (un == 0) = false := by rw [beq_eq_false_iff_ne]; omega
    rw [if_neg hu] at HEE HED
    clear hu
    go_wp2_with fail
    refine noPanic_end ?_
    go_upto_region 9 with fail
    have HC0 : Hid (∀ w', Below w8.heap.size w8 w' → w'.cell? ⟨rb, 0, none⟩ = some (.pointer (some ⟨db, 0, none⟩))) := fun w' hb => (HRX.out.below hb).c0
    have HC1 : Hid (∀ w', Below w8.heap.size w8 w' → w'.cell? ⟨rb, 1, none⟩ = some (.int .i64 (i : Int))) := fun w' hb => (HRX.out.below hb).c1
    refine wp_region_eager_t (Below w8.heap.size w8) [0, 1, 2, 3, 4, 5, 6, 7] [(0, true), (1, true), (2, true), (3, true), (4, true), (5, true), (6, true), (7, true)] [8, 9] (by kernel_rfl) (by kernel_rfl) ?_ (eagerTOpen rfl ?_)
    ·exact below_drew1 _ _
    repeat (first
     | ((first | (apply wpEagerT_take; (· rfl); (· (intro w' hb'; go_simp; try with_reducible rfl))) | refine wpEagerT_skip (by rfl) ?_); (try simp only [Act.put, zA, zB, zC]); (try refine eagerTOpen rfl ?_))
     | (apply wpEagerT_take; (· rfl); (· (intro w' hb'; have hk' := (HC0.out) w' hb'; go_split_ands; go_simp; try with_reducible rfl)); (try simp only [Act.put, zA, zB, zC]); (try refine eagerTOpen rfl ?_))
     | (apply wpEagerT_take; (· rfl); (· (intro w' hb'; have hk' := (HC1.out) w' hb'; go_split_ands; go_simp; try with_reducible rfl)); (try simp only [Act.put, zA, zB, zC]); (try refine eagerTOpen rfl ?_)))
    refine eagerTEnd (tail2 rfl rfl ?_)
    clear HC0 HC1
    have HY := Lib.hid (HX.out.below (below_drew1 _ _))
    have HRY := Lib.hid (HRX.out.below (below_drew1 _ _))
    have HKY := Lib.hid (HKX.out.next (below_drew1 _ _))
    generalize w8.drew = w9 at *
    clear HX HRX HKX
    have HSY := Lib.hid (xsync w9 HY.out i HI.out)
    go_wp2_with fail
    refine HSY.out.mono ?_
    rintro e w10 ⟨rfl, hd10, hk10⟩
    have HD10 := Lib.hid hd10
    have HK10 := Lib.hid (HKY.out.trans hk10)
    clear hd10 hk10
    go_wp2_with fail
    refine noPanic_end ?_
    go_wp2_with fail
    go_ret
    exact ⟨by rw [HME.out, HEE.out]; rfl, by rw [HMD.out, HED.out]; exact HD10.out, HK10.out⟩
  ·have z1 : (x != 0) = true := by simp [hx]
   rw [if_neg hx] at HME HMD
   clear hx
   go_wp2_with fail
   refine noPanic_end ?_
   go_wp2_with fail
   go_ret
   exact ⟨by rw [HME.out]; rfl, by rw [HMD.out]; exact HX.out, HKX.out⟩
 ·have z3 : decide ((G : Int) < (L.length : Int)) = false := decide_eq_false (by omega)
  have z4 : decide (G < L.length) = false := decide_eq_false hg
  rw [if_neg hg] at HME HMD
  clear hg HCT
  skip
  go_upto_region 7 with fail
  have HC0 : Hid (∀ w', Below w4.heap.size w4 w' → w'.cell? ⟨rb, 0, none⟩ = some (.pointer (some ⟨db, 0, none⟩))) := fun w' hb => (HRX.out.below hb).c0
  have HC1 : Hid (∀ w', Below w4.heap.size w4 w' → w'.cell? ⟨rb, 1, none⟩ = some (.int .i64 (i : Int))) := fun w' hb => (HRX.out.below hb).c1
  refine wp_region_eager_t (Below w4.heap.size w4) [0, 1, 2, 3, 4, 5, 6, 7] [(0, true), (1, true), (2, true), (3, true), (4, true), (5, true), (6, true), (7, true)] [8, 9] (by kernel_rfl) (by kernel_rfl) ?_ (eagerTOpen rfl ?_)
  ·exact below_drew1 _ _
  repeat (first
   | ((first | (apply wpEagerT_take; (· rfl); (· (intro w' hb'; go_simp; try with_reducible rfl))) | refine wpEagerT_skip (by rfl) ?_); (try simp only [Act.put, zA, zB, zC]); (try refine eagerTOpen rfl ?_))
   | (apply wpEagerT_take; (· rfl); (· (intro w' hb'; have hk' := (HC0.out) w' hb'; go_split_ands; go_simp; try with_reducible rfl)); (try simp only [Act.put, zA, zB, zC]); (try refine eagerTOpen rfl ?_))
   | (apply wpEagerT_take; (· rfl); (· (intro w' hb'; have hk' := (HC1.out) w' hb'; go_split_ands; go_simp; try with_reducible rfl)); (try simp only [Act.put, zA, zB, zC]); (try refine eagerTOpen rfl ?_)))
  refine eagerTEnd (tail2 rfl rfl ?_)
  clear HC0 HC1
  have HY := Lib.hid (HX.out.below (below_drew1 _ _))
  have HRY := Lib.hid (HRX.out.below (below_drew1 _ _))
  have HKY := Lib.hid (HKX.out.next (below_drew1 _ _))
  generalize w4.drew = w7 at *
  clear HX HRX HKX
  have HUN := Lib.hid (xunits w7 HY.out i HI.out)
  have HEE : Hid (endE d i = if unitsAll (fD d i).steps = 0 then 0 else syncE d) := rfl
  have HED : Hid (endD d i = if unitsAll (fD d i).steps = 0 then d else syncD d i (fD d i)) := rfl
  obtain ⟨un, hun⟩ : ∃ un, unitsAll (fD d i).steps = un := ⟨_, rfl⟩
  rw [hun] at HUN HEE HED
  clear hun
  go_wp2_with fail
  refine HUN.out.mono ?_
  rintro e w8 ⟨rfl, hb8⟩
  have HX := Lib.hid (HY.out.below hb8)
  have HRX := Lib.hid (HRY.out.below hb8)
  have HKX := Lib.hid (HKY.out.next hb8)
  clear hb8 HY HRY HKY HUN
  by_cases hu : un = 0
  ·have z1 : ((un : Int) == 0) = true := by rw [beq_iff_eq]; omega
   have z2 : (un == 0) = true := by rw [beq_iff_eq]; omega
   rw [if_pos hu] at HEE HED
   clear hu
   go_wp2_with fail
   refine noPanic_end ?_
   go_wp2_with fail
   go_ret
   exact ⟨by rw [HME.out, HEE.out]; rfl, by rw [HMD.out, HED.out]; exact HX.out, HKX.out⟩
  ·have z1 : ((un : Int) == 0) = false := by rw [beq_eq_false_iff_ne]; omega
   have z2 : (un == 0) = false := by rw [beq_eq_false_iff_ne]; omega
   rw [if_neg hu] at HEE HED
   clear hu
   go_wp2_with fail
   refine noPanic_end ?_
   go_upto_region 9 with fail
   have HC0 : Hid (∀ w', Below w8.heap.size w8 w' → w'.cell? ⟨rb, 0, none⟩ = some (.pointer (some ⟨db, 0, none⟩))) := fun w' hb => (HRX.out.below hb).c0
   have HC1 : Hid (∀ w', Below w8.heap.size w8 w' → w'.cell? ⟨rb, 1, none⟩ = some (.int .i64 (i : Int))) := fun w' hb => (HRX.out.below hb).c1
   refine wp_region_eager_t (Below w8.heap.size w8) [0, 1, 2, 3, 4, 5, 6, 7] [(0, true), (1, true), (2, true), (3, true), (4, true), (5, true), (6, true), (7, true)] [8, 9] (by kernel_rfl) (by kernel_rfl) ?_ (eagerTOpen rfl ?_)
   ·exact below_drew1 _ _
   repeat (first
    | ((first | (apply wpEagerT_take; (· rfl); (· (intro w' hb'; go_simp; try with_reducible rfl))) | refine wpEagerT_skip (by rfl) ?_); (try simp only [Act.put, zA, zB, zC]); (try refine eagerTOpen rfl ?_))
    | (apply wpEagerT_take; (· rfl); (· (intro w' hb'; have hk' := (HC0.out) w' hb'; go_split_ands; go_simp; try with_reducible rfl)); (try simp only [Act.put, zA, zB, zC]); (try refine eagerTOpen rfl ?_))
    | (apply wpEagerT_take; (· rfl); (· (intro w' hb'; have hk' := (HC1.out) w' hb'; go_split_ands; go_simp; try with_reducible rfl)); (try simp only [Act.put, zA, zB, zC]); (try refine eagerTOpen rfl ?_)))
   refine eagerTEnd (tail2 rfl rfl ?_)
   clear HC0 HC1
   have HY := Lib.hid (HX.out.below (below_drew1 _ _))
   have HRY := Lib.hid (HRX.out.below (below_drew1 _ _))
   have HKY := Lib.hid (HKX.out.next (below_drew1 _ _))
   generalize w8.drew = w9 at *
   clear HX HRX HKX
   have HSY := Lib.hid (xsync w9 HY.out i HI.out)
   go_wp2_with fail
   refine HSY.out.mono ?_
   rintro e w10 ⟨rfl, hd10, hk10⟩
   have HD10 := Lib.hid hd10
   have HK10 := Lib.hid (HKY.out.trans hk10)
   clear hd10 hk10
   go_wp2_with fail
   refine noPanic_end ?_
   go_wp2_with fail
   go_ret
   exact ⟨by rw [HME.out, HEE.out]; rfl, by rw [HMD.out, HED.out]; exact HD10.out, HK10.out⟩
def opnE (d : DD) (i : Nat) : Int := if d.down = true then 18 else mendE d i
def opnD (d : DD) (i : Nat) : DD := if d.down = true then d else mendD d i
structure OpnP (base db : Nat) (d : DD) (i : Nat) (w : World) (e : Ending) (w' : World) : Prop where
 dx : DX base db (opnD d i) w'
 kt : KT base w w'
 say : (opnE d i = 0 ∧ ∃ rb, e = .returned (.tuple #[.pointer (some ⟨rb, 0, none⟩), .int .i64 0]) ∧ RolAt w' rb db i) ∨ (opnE d i ≠ 0 ∧ e = .returned (.tuple #[.pointer none, .int .i64 (opnE d i)]))
theorem xroom {base db : Nat} {d : DD} (w : World) (h : DX base db d w) : Calls Tryz.prog 64 #[.pointer (some ⟨db, 0, none⟩)] w fun e w' => e = .returned (.int .i64 (d.room : Int)) ∧ w = w' := by
 obtain ⟨h0, vs, h1⟩ := h
 exact room_any w h1
theorem xdown {base db : Nat} {d : DD} (w : World) (h : DX base db d w) : Calls Tryz.prog 19 #[.pointer (some ⟨db, 0, none⟩)] w fun e w' => e = .returned (.bool d.down) ∧ w = w' := by
 obtain ⟨h0, vs, h1⟩ := h
 exact down_any w h1
theorem built_rol (db i : Nat) : Tryz.prog.built 136 [(0, .pointer (some ⟨db, 0, none⟩)), (1, .int .i64 (i : Int))] = some (rolA db i) := by kernel_rfl
set_option maxRecDepth 100000 in
set_option maxHeartbeats 1600000 in
theorem open_any {base db i : Nat} {d : DD} (w : World) (hE : Rdr.EType w) (h : DX base db d w) (hi : i < 3) (hfew : (fD d i).steps.length + 1 ≤ 4398046511104) :
  Calls Tryz.prog 34 #[.pointer (some ⟨db, 0, none⟩), .int .i64 (i : Int)] w (OpnP base db d i w) := by
 have HRM := Lib.hid (xroom w h)
 have HDN := Lib.hid (xdown w h)
 have hr := h.room.1
 have e1 : ((d.room : Int) == 0) = false := by rw [beq_eq_false_iff_ne]; omega
 have e2 : (d.room == 0) = false := by rw [beq_eq_false_iff_ne]; omega
 have d1 : decide ((i : Int) < 0) = false := decide_eq_false (by omega)
 have d2 : decide ((3 : Int) ≤ (i : Int)) = false := decide_eq_false (by omega)
 have d2b : decide (3 ≤ i) = false := decide_eq_false (by omega)
 have H := Lib.hid h
 have HI := Lib.hid hi
 have HE := Lib.hid hE
 have HFEW := Lib.hid hfew
 clear h hi hE hfew
 obtain ⟨dn, hdn⟩ : ∃ dn, d.down = dn := ⟨_, rfl⟩
 rw [hdn] at HDN
 cases dn with
 | true =>
  have HOE : Hid (opnE d i = 18) := by show _ = _; unfold opnE; rw [if_pos hdn]
  have HOD : Hid (opnD d i = d) := by show _ = _; unfold opnD; rw [if_pos hdn]
  clear hdn
  go_enter Tryz.func34, Tryz.ntmps34
  go_wp2_with fail
  refine HRM.out.mono ?_
  rintro e w' ⟨rfl, rfl⟩
  go_wp2_with fail
  refine HDN.out.mono ?_
  rintro e w' ⟨rfl, rfl⟩
  go_wp2_with fail
  go_ret2
  exact ⟨by rw [HOD.out]; exact H.out, KT.refl _ _, .inr ⟨by rw [HOE.out]; decide, by rw [HOE.out]; rfl⟩⟩
 | false =>
  have HOE : Hid (opnE d i = mendE d i) := by show _ = _; unfold opnE; rw [if_neg (by rw [hdn]; decide)]
  have HOD : Hid (opnD d i = mendD d i) := by show _ = _; unfold opnD; rw [if_neg (by rw [hdn]; decide)]
  have HB1 : Hid (Below w.heap.size w (w.alloc (.cells (rolA db i) 136))) := Below.allocs _ _
  have HR1 : Hid (RolAt (w.alloc (.cells (rolA db i) 136)) w.heap.size db i) := heap_alloc_last _ _
  have HME := Lib.hid (mend_any _ (HE.out.below HB1.out HE.out.lt) (H.out.below HB1.out) HR1.out HI.out HFEW.out)
  clear hdn
  rw [← HOE.out, ← HOD.out] at HME
  clear HOE HOD
  generalize hoe : opnE d i = x at *
  have HOE := Lib.hid hoe
  clear hoe
  go_enter Tryz.func34, Tryz.ntmps34
  go_wp2_with fail
  refine HRM.out.mono ?_
  rintro e w' ⟨rfl, rfl⟩
  go_wp2_with fail
  refine HDN.out.mono ?_
  rintro e w' ⟨rfl, rfl⟩
  go_upto_region 8 with (refine Rdr.wpList_build rfl 136 _ rfl [(0, .pointer (some ⟨db, 0, none⟩)), (1, .int .i64 (i : Int))] rfl _ (built_rol _ _) ?_)
  generalize w.alloc (.cells (rolA db i) 136) = w1 at *
  go_wp2_with fail
  refine HME.out.mono ?_
  rintro e w2 ⟨rfl, hd2, hk2⟩
  have HD2 := Lib.hid hd2
  have HR2 := Lib.hid (HR1.out.kt hk2)
  have HK2 : Hid (KT base w w2) := (KT.of_below HB1.out).trans hk2
  clear hd2 hk2 HME
  by_cases hx : x = 0
  ·have z1 : (x != 0) = false := by simp [hx]
   have HX0 := Lib.hid hx
   clear hx
   go_wp2_with fail
   go_ret2
   exact ⟨HD2.out, HK2.out, .inl ⟨HOE.out.trans HX0.out, _, rfl, HR2.out⟩⟩
  ·have z1 : (x != 0) = true := by simp [hx]
   have HX0 : Hid (x ≠ 0) := hx
   clear hx
   go_wp2_with fail
   go_ret2
   exact ⟨HD2.out, HK2.out, .inr ⟨by rw [HOE.out]; exact HX0.out, by rw [HOE.out]; rfl⟩⟩
end Go.Proofs.YtnejjfglkindjaaGreatDoor.Rol
namespace Go.Proofs.YtnejjfglkindjaaGreatDoor.Vlt
open Go.RowKit Go.Mir Go.Mir.Parts Dk Rol Wr Slt Cut
open Frm (frame scan)
structure VS where
 last : Nat
 some : Bool
 body : List UInt8
 after : List (List UInt8)
def VS.zero : VS := ⟨0, false, [], []⟩
def stepV (v : VS) (b : List UInt8) : Option VS :=
 if b.length < 9 then none else if Rdr.beN (b.take 8) ≤ v.last then some v else if Rdr.beN (b.take 8) = v.last + 1 then some ⟨Rdr.beN (b.take 8), v.some, v.body, v.after ++ [b.drop 8]⟩ else none
def runV : VS → List (List UInt8) → Option VS
 | v, [] => some v
 | v, b :: r => (stepV v b).bind fun v' => runV v' r
def startV (s : SS) : Option VS := if s.turn = 0 then some VS.zero else if s.body.length < 8 then none else some ⟨Rdr.beN (s.body.take 8), true, s.body.drop 8, []⟩
def fillV (s : SS) (bs : List (List UInt8)) : Option VS := (startV s).bind fun v => runV v bs
theorem runV_snoc : ∀ (l : List (List UInt8)) (v : VS) (b : List UInt8), runV v (l ++ [b]) = (runV v l).bind fun v' => stepV v' b
 | [], v, b => by simp [runV]
 | x :: l, v, b => by
  rw [List.cons_append, runV, runV]
  cases stepV v x with
  | none => rfl
  | some v' => simp only [Option.bind_some]; exact runV_snoc l v' b
theorem runV_none : ∀ (l r : List (List UInt8)) (v : VS), runV v l = none → runV v (l ++ r) = none
 | [], r, v, h => by cases h
 | x :: l, r, v, h => by
  rw [runV] at h
  rw [List.cons_append, runV]
  cases hs : stepV v x with
  | none => rfl
  | some v' =>
   rw [hs] at h
   exact runV_none l r v' h
def vA (rb sb : Nat) (v : VS) (pb : Option Addr) (cb : Nat) (pa : Option Addr) (ca : Nat) : Array Value := #[.pointer (some ⟨rb, 0, none⟩), .pointer (some ⟨sb, 0, none⟩), .int .u64 (v.last : Int), .bool v.some, .slice pb v.body.length cb, .slice pa v.after.length ca]
theorem built_v (rb sb : Nat) : Tryz.prog.built 33 [(0, .pointer (some ⟨rb, 0, none⟩)), (1, .pointer (some ⟨sb, 0, none⟩))] = some (vA rb sb VS.zero none 0 none 0) := by kernel_rfl
theorem vA_cells {w : World} {vb rb sb : Nat} {v : VS} {pb pa : Option Addr} {cb ca : Nat} {t : TypeId} {fr : Nat × Nat} (h : w.heap[vb]? = some (.cells (vA rb sb v pb cb pa ca) t fr)) :
  w.cell? ⟨vb, 0, none⟩ = some (.pointer (some ⟨rb, 0, none⟩)) ∧ w.cell? ⟨vb, 1, none⟩ = some (.pointer (some ⟨sb, 0, none⟩)) ∧ w.cell? ⟨vb, 2, none⟩ = some (.int .u64 (v.last : Int)) ∧ w.cell? ⟨vb, 3, none⟩ = some (.bool v.some) ∧ w.cell? ⟨vb, 4, none⟩ = some (.slice pb v.body.length cb) ∧ w.cell? ⟨vb, 5, none⟩ = some (.slice pa v.after.length ca) := by
 refine ⟨?_, ?_, ?_, ?_, ?_, ?_⟩ <;> (rw [cell_of_row _ _ _ _ _ _ h]; rfl)
def VTy (base : Nat) (w : World) (k : Nat) : Prop := base ≤ k ∧ ∃ M t fr, w.heap[k]? = some (.cells M t fr) ∧ (t = 105 ∨ t = 165 ∨ t = 133 ∨ t = 33 ∨ t = 22)
def KV (base : Nat) (w w' : World) : Prop := Turns (VTy base w) w w'
theorem KV.refl (base : Nat) (w : World) : KV base w w := Turns.refl _ _
theorem KV.of_ks {base : Nat} {a b : World} (h : KS base a b) : KV base a b := h.imp (fun _k _ ⟨h1, M, t, fr, hm, ht⟩ => ⟨h1, M, t, fr, hm, ht.imp id (fun h => h.imp id .inl)⟩)
theorem KV.of_kt {base : Nat} {a b : World} (h : KT base a b) : KV base a b := KV.of_ks (KS.of_kt h)
theorem KV.trans {base : Nat} {a b c : World} (h : KV base a b) (k : KV base b c) : KV base a c :=
 ⟨k.os.trans h.os, k.tape.trans h.tape, k.output.trans h.output, Nat.le_trans h.size k.size, fun i hi hS => by
  have e1 := h.block i hi hS
  have hS2 : ¬ VTy base b i := fun h' => hS (by
   obtain ⟨h1, M, t, fr, h2, h3⟩ := h'
   exact ⟨h1, M, t, fr, by rw [← e1]; exact h2, h3⟩)
  rw [k.block i (Nat.lt_of_lt_of_le hi h.size) hS2]; exact e1⟩
theorem KV.of_below {base : Nat} {a b : World} (h : Below a.heap.size a b) : KV base a b := Turns.of_below h
theorem KV.next {base : Nat} {a b c : World} (h : KV base a b) (k : Below b.heap.size b c) : KV base a c := h.trans (.of_below k)
theorem KV.below {base : Nat} {a b : World} (h : KV base a b) (hb : base ≤ a.heap.size) : Below base a b := Turns.below h hb (fun _ hi => hi.1)
theorem KV.row {base : Nat} {a b : World} (h : KV base a b) {k : Nat} {M : Array Value} {t : TypeId} {fr : Nat × Nat} (hr : a.heap[k]? = some (.cells M t fr)) (h1 : t ≠ 105) (h2 : t ≠ 165) (h3 : t ≠ 133) (h4 : t ≠ 33) (h5 : t ≠ 22) : b.heap[k]? = some (.cells M t fr) :=
 Turns.keep h hr (fun ⟨_, M', t', fr', e, ht⟩ => by
  rw [hr] at e
  injection e with e1
  injection e1 with _ e2
  subst e2
  rcases ht with ht | ht | ht | ht | ht
  ·exact h1 ht
  ·exact h2 ht
  ·exact h3 ht
  ·exact h4 ht
  ·exact h5 ht)
theorem KV.etype {base : Nat} {a b : World} (h : KV base a b) (hE : Rdr.EType a) (hb : 0 < base) : Rdr.EType b := by
 have hlt := hE.lt
 have h1 : a.heap[0]? = some (a.heap[0]'hlt) := Array.getElem?_eq_getElem hlt
 have h2 := Turns.keep h h1 (fun hs => by have := hs.1; omega)
 unfold Rdr.EType at hE ⊢
 rw [World.cell?] at hE ⊢
 rw [h1] at hE
 rw [h2]
 exact hE
theorem kv_no8 {base : Nat} {w : World} : ∀ k M fr, w.heap[k]? = some (.cells M 5 fr) → ¬ VTy base w k := fun k M fr hm ⟨_, M', t', fr', e, ht⟩ => by
 rw [hm] at e
 injection e with e1
 injection e1 with _ e2
 subst e2
 rcases ht with ht | ht | ht | ht | ht
 ·exact absurd ht (by decide)
 ·exact absurd ht (by decide)
 ·exact absurd ht (by decide)
 ·exact absurd ht (by decide)
 ·exact absurd ht (by decide)
theorem KV.bs {base : Nat} {a b : World} (h : KV base a b) {p : Option Addr} {n c : Nat} {l : List UInt8} (hb : Rd a base (.slice p n c) l) : Rd b base (.slice p n c) l := hb.touch h kv_no8
theorem lsO_turn {S : Nat → Prop} {w w' : World} {c : Nat} {v : Value} {ls : List (List UInt8)} (h : LsO w c v ls) (ht : Turns S w w') (hS : ∀ k M t fr, S k → w.heap[k]? = some (.cells M t fr) → t ≠ 22 ∧ t ≠ 5) : LsO w' c v ls := by
 have ne : ∀ {e size n : Nat} {x : Value} {vs : List Value}, w.ownsRow c e size x n vs → (e = 22 ∨ e = 5) → ∀ i, x.ownBlock = some i → ¬ S i := fun {e size n x vs} ho he i hi hs => by
  rcases ho.2 with ⟨rfl, _⟩ | ⟨g, cap, cur, rfl, _, hg, _⟩
  ·cases hi
  ·simp only [Value.ownBlock, Option.some.injEq] at hi
   subst hi
   have := hS _ _ _ _ hs hg
   rcases he with he | he
   ·exact this.1 he
   ·exact this.2 he
 obtain ⟨hs, a, b⟩ := h.all
 exact ⟨hs, own_touch a ht (ne a (.inl rfl)), fun j hj => by
  obtain ⟨q, k, c1, d⟩ := b j hj
  exact ⟨q, k, c1, own_touch d ht (ne d (.inr rfl))⟩⟩
theorem KS.lsO {base : Nat} {a b : World} (h : KS base a b) {c : Nat} {v : Value} {ls : List (List UInt8)} (ho : LsO a c v ls) : LsO b c v ls :=
 lsO_turn ho h (fun k M t fr ⟨_, M', t', fr', e, ht⟩ hm => by
  rw [hm] at e
  injection e with e1
  injection e1 with _ e2
  subst e2
  rcases ht with rfl | rfl | rfl <;> exact ⟨by decide, by decide⟩)
theorem sx_turn {S : Nat → Prop} {base sb db a b : Nat} {d : DD} {s : SS} {w w' : World} (h : SX base sb db a b d s w) (ht : Turns S w w') (hS : ∀ k M t fr, S k → w.heap[k]? = some (.cells M t fr) → t ≠ 105 ∧ t ≠ 165 ∧ t ≠ 133 ∧ t ≠ 5 ∧ t ≠ 23) : SX base sb db a b d s w' := by
 obtain ⟨pb, cb, bx, r1, r2, r3⟩ := h.row
 refine ⟨dx_turn h.dx ht (fun k M t fr hs hm => ⟨(hS k M t fr hs hm).1, (hS k M t fr hs hm).2.1, (hS k M t fr hs hm).2.2.2.1⟩), h.low, ⟨pb, cb, bx, ht.keep r1 (fun hs => (hS _ _ _ _ hs r1).2.2.1 rfl), r2.touch ht (fun k M fr hm hs => (hS k M _ fr hs hm).2.2.2.1 rfl), ht.keep r3 (fun hs => (hS _ _ _ _ hs r3).2.2.2.2 rfl)⟩, h.turn, h.now⟩
structure XW (base rb sb db vb : Nat) (d : DD) (s : SS) (v : VS) (pb : Option Addr) (cb : Nat) (pa : Option Addr) (ca : Nat) (w : World) : Prop where
 sx : SX base sb db 1 2 d s w
 rol : RolAt w rb db 0
 low : base ≤ vb
 last : v.last < 18446744073709551616
 row : w.heap[vb]? = some (.cells (vA rb sb v pb cb pa ca) 33 (0, 0))
 rd : Rd w base (.slice pb v.body.length cb) v.body
 ls : LsO w base (.slice pa v.after.length ca) v.after
def XV (base rb sb db vb : Nat) (d : DD) (s : SS) (v : VS) (w : World) : Prop := ∃ pb cb pa ca, XW base rb sb db vb d s v pb cb pa ca w
variable {base rb sb db vb : Nat} {d : DD} {s : SS} {v : VS} {pb pa : Option Addr} {cb ca : Nat} {w : World}
theorem XW.kt {d' : DD} {w' : World} (h : XW base rb sb db vb d s v pb cb pa ca w) (hk : KT base w w') (hd : DX base db d' w') : XW base rb sb db vb d' s v pb cb pa ca w' :=
 ⟨h.sx.kt hk hd, h.rol.kt hk, h.low, h.last, hk.row h.row (by decide) (by decide), h.rd.touch hk kt_no8, hk.lsO h.ls⟩
theorem XW.ks {d' : DD} {s' : SS} {w' : World} (h : XW base rb sb db vb d s v pb cb pa ca w) (hk : KS base w w') (hd : SX base sb db 1 2 d' s' w') : XW base rb sb db vb d' s' v pb cb pa ca w' :=
 ⟨hd, hk.row h.rol (by decide) (by decide) (by decide), h.low, h.last, hk.row h.row (by decide) (by decide) (by decide), h.rd.touch hk ks_no8, KS.lsO hk h.ls⟩
theorem XW.below {w' : World} (h : XW base rb sb db vb d s v pb cb pa ca w) (hb : Below w.heap.size w w') : XW base rb sb db vb d s v pb cb pa ca w' := h.kt (KT.of_below hb) (h.sx.dx.below hb)
theorem XW.put {S : Nat → Prop} {v' : VS} {pb' pa' : Option Addr} {cb' ca' : Nat} {w' : World} (h : XW base rb sb db vb d s v pb cb pa ca w) (ht : Turns S w w') (hS : ∀ k, S k → k = vb ∨ (Value.slice pa v.after.length ca).ownBlock = some k)
  (hl : v'.last < 18446744073709551616) (row : w'.heap[vb]? = some (.cells (vA rb sb v' pb' cb' pa' ca') 33 (0, 0))) (rd : Rd w' base (.slice pb' v'.body.length cb') v'.body) (ls : LsO w' base (.slice pa' v'.after.length ca') v'.after) : XW base rb sb db vb d s v' pb' cb' pa' ca' w' := by
 obtain ⟨hs, h1, h2⟩ := h.ls.all
 have ty : ∀ k M t fr, S k → w.heap[k]? = some (.cells M t fr) → t = 33 ∨ t = 22 := fun k M t fr hk hm => by
  rcases hS k hk with rfl | hk
  ·have := h.row
   rw [hm] at this
   injection this with e1
   injection e1 with _ e2
   exact .inl e2
  ·rcases h1.2 with ⟨e, _⟩ | ⟨g, cap, cur, e, _, hg, _⟩
   ·rw [e] at hk; cases hk
   ·rw [e] at hk
    simp only [Value.ownBlock, Option.some.injEq] at hk
    subst hk
    rw [hm] at hg
    injection hg with e1
    injection e1 with _ e2
    exact .inr e2
 refine ⟨sx_turn h.sx ht (fun k M t fr hk hm => ?_), ht.keep h.rol (fun hk => ?_), h.low, hl, row, rd, ls⟩
 ·rcases ty k M t fr hk hm with rfl | rfl
  ·exact ⟨by decide, by decide, by decide, by decide, by decide⟩
  ·exact ⟨by decide, by decide, by decide, by decide, by decide⟩
 ·rcases ty _ _ _ _ hk h.rol with e | e
  ·exact absurd e (by decide)
  ·exact absurd e (by decide)
theorem XW.kv {S : Nat → Prop} {w' : World} (h : XW base rb sb db vb d s v pb cb pa ca w) (ht : Turns S w w') (hS : ∀ k, S k → k = vb ∨ (Value.slice pa v.after.length ca).ownBlock = some k) : KV base w w' :=
 Turns.imp ht (fun k _ hk => by
  obtain ⟨hs, h1, h2⟩ := h.ls.all
  rcases hS k hk with rfl | hk
  ·exact ⟨h.low, _, _, _, h.row, .inr (.inr (.inr (.inl rfl)))⟩
  ·refine ⟨(h1.lt k hk).1, ?_⟩
   rcases h1.2 with ⟨e, _⟩ | ⟨g, cap, cur, e, _, hg, _⟩
   ·rw [e] at hk; cases hk
   ·rw [e] at hk
    simp only [Value.ownBlock, Option.some.injEq] at hk
    subst hk
    exact ⟨_, _, _, hg, .inr (.inr (.inr (.inr rfl)))⟩)
end Go.Proofs.YtnejjfglkindjaaGreatDoor.Vlt
