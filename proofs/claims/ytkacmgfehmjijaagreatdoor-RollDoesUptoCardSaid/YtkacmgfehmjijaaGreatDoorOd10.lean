/- PARTS, JOINED: THE WALKS OF A ROLL, on: Bodies, Len, Size, mend, Open. Conditions: the laid cell of errors.errorType. THE REFERENCE OF ROLLS: Open. Conditions: sizes that fit. THE LAW OF ROLLS: like: a disk stands as the reference's. Conditions: none. THE CALLS OF A STATEMENT ON ROLLS, as they lie in memory; are there not too many? Conditions: a sum that fits. WHAT THE BOUND OF AN '..UptoSaid' GIVES: sizes of what came in. Conditions: the bound. CALLS OF A STATEMENT ON ROLLS, that came in. Conditions: none. ROLLS, plain: a call of the statement; how many steps wait; an Open behind a crash. Conditions: none. LAYER 20: the statement's own words: alive; a disk made, armed, crashed. Conditions: the laid cell of errors.errorType. THE WALKS OF THE REFERENCE's SMALL WORDS ON PARTS: Few, Join. Conditions: sizes that fit. PLAIN PART OF RollKeeps: what was told, what was last, and the disk. Conditions: none. -/
import Derived.Test.YtkacmgfehmjijaaGreatDoorOd1
import Derived.Test.YtkacmgfehmjijaaGreatDoorOd2
import Derived.Test.YtkacmgfehmjijaaGreatDoorOd3
import Derived.Test.YtkacmgfehmjijaaGreatDoorOd4
import Derived.Test.YtkacmgfehmjijaaGreatDoorOd5
import Derived.Test.YtkacmgfehmjijaaGreatDoorOd6
import Derived.Test.YtkacmgfehmjijaaGreatDoorOd7
import Derived.Test.YtkacmgfehmjijaaGreatDoorOd8
import Derived.Test.YtkacmgfehmjijaaGreatDoorOd9
import Derived.Test.YtkacmgfehmjijaaGreatDoorRows
import Derived.SizedLaws
import Derived.Test.YtkacmgfehmjijaaGreatDoorProg
namespace Go.Proofs.YtkacmgfehmjijaaGreatDoor.Rol
open Go.RowKit Go.Mir Go.Mir.Parts Dk
open Frm (frame scan)
open Cut (Ls LsO)

def BodP (l : List UInt8) (w : World) (e : Ending) (w' : World) : Prop := ∃ p c, e = .returned (.slice p (scan l).1.length c) ∧ LsO w' w.heap.size (.slice p (scan l).1.length c) (scan l).1 ∧ Below w.heap.size w w'
set_option maxRecDepth 100000 in
set_option maxHeartbeats 1600000 in
theorem bodies_any {base db rb i : Nat} {d : DD} (w : World) (hE : Rdr.EType w) (h : DX base db d w) (hr : RolAt w rb db i) (hi : i < 3) :
    Calls Tryz.prog 21 #[.pointer (some ⟨rb, 0, none⟩)] w (BodP (fD d i).now w) := by
  have HX := Lib.hid h
  have HRX := Lib.hid hr
  have HKX : Hid (Below w.heap.size w w) := Below.refl _ _
  have HI := Lib.hid hi
  have HRN := Lib.hid (rnone_any w hr)
  have HE := Lib.hid hE
  have HLE := Lib.hid (h.le hi)
  clear h hr hi hE
  go_enter Tryz.func21, Tryz.ntmps21
  go_wp2_with fail
  refine HRN.out.mono ?_
  rintro e w' ⟨rfl, rfl⟩
  go_upto_region 3 with fail
  have HC0 : Hid (∀ w', Below w.heap.size w w' → w'.cell? ⟨rb, 0, none⟩ = some (.pointer (some ⟨db, 0, none⟩))) := fun w' hb => (HRX.out.below hb).c0
  have HC1 : Hid (∀ w', Below w.heap.size w w' → w'.cell? ⟨rb, 1, none⟩ = some (.int .i64 (i : Int))) := fun w' hb => (HRX.out.below hb).c1
  refine wp_region_eager [(0, true), (1, true), (2, true), (3, true), (4, true), (5, true), (6, true), (7, true), (8, false), (9, false), (10, true), (11, true), (12, true), (13, true), (14, true)] (by kernel_rfl) (by kernel_rfl) (eagerOpen rfl ?_)
  have hy0 : Below w.heap.size w w.drew := below_drew1 _ _
  repeat (first
    | (first | (apply wpEager_take; (· rfl); (· (intro w' hb'; go_simp; try with_reducible rfl)); (try simp only [Act.put, List.setIfInBounds_toArray, List.set_cons_zero, List.set_cons_succ]); (try refine eagerOpen rfl ?_)) | (refine wpEager_skip (by rfl) ?_; (try simp only [Act.put, List.setIfInBounds_toArray, List.set_cons_zero, List.set_cons_succ]); (try refine eagerOpen rfl ?_)) | (refine wpEager_off (by rfl) ?_; (try simp only [Act.put, List.setIfInBounds_toArray, List.set_cons_zero, List.set_cons_succ]); (try refine eagerOpen rfl ?_)))
    | (apply wpEager_take; (· rfl); (· (intro w' hb'; have hk' := (HC0.out) w' hb'; go_split_ands; go_simp; try with_reducible rfl)); (try simp only [Act.put, List.setIfInBounds_toArray, List.set_cons_zero, List.set_cons_succ]); (try refine eagerOpen rfl ?_))
    | (apply wpEager_take; (· rfl); (· (intro w' hb'; have hk' := (HC1.out) w' hb'; go_split_ands; go_simp; try with_reducible rfl)); (try simp only [Act.put, List.setIfInBounds_toArray, List.set_cons_zero, List.set_cons_succ]); (try refine eagerOpen rfl ?_)))
  (refine wpEager_op (by rfl) (fun K hK => ?_); go_simp; (refine (xread w.drew (HX.out.below hy0) i HI.out).mono ?_; rintro e w3 ⟨p3, c3, rfl, hs3, hb3⟩; have hy3 := hy0.trans (hb3.mono hy0.size); clear hb3); refine Shut.out hK _ _ (by assumption) ?_; clear hK K; (try simp only [Act.put, List.setIfInBounds_toArray, List.set_cons_zero, List.set_cons_succ]); (try refine eagerOpen rfl ?_))
  generalize (fD d i).now = L at *
  (refine wpEager_op (by rfl) (fun K hK => ?_); go_simp; (refine (Frm.scanO_any p3 _ c3 _ w3 (HE.out.below hy3 HE.out.lt) hs3 (Frm.bs_block hs3) (by have := HLE.out; omega)).mono ?_; rintro e w4 ⟨v, rfl, hl4, hb4⟩; obtain ⟨p4, c4, rfl, -⟩ := hl4.ls.sl; have HL4 := Lib.hid (Frm.LsO.low hl4 hy3.size); have hy4 := hy3.trans (hb4.mono hy3.size); clear hl4 hb4); refine Shut.out hK _ _ (by assumption) ?_; clear hK K; (try simp only [Act.put, List.setIfInBounds_toArray, List.set_cons_zero, List.set_cons_succ]); (try refine eagerOpen rfl ?_))
  repeat (first
    | (first | (apply wpEager_take; (· rfl); (· (intro w' hb'; go_simp; try with_reducible rfl)); (try simp only [Act.put, List.setIfInBounds_toArray, List.set_cons_zero, List.set_cons_succ]); (try refine eagerOpen rfl ?_)) | (refine wpEager_skip (by rfl) ?_; (try simp only [Act.put, List.setIfInBounds_toArray, List.set_cons_zero, List.set_cons_succ]); (try refine eagerOpen rfl ?_)) | (refine wpEager_off (by rfl) ?_; (try simp only [Act.put, List.setIfInBounds_toArray, List.set_cons_zero, List.set_cons_succ]); (try refine eagerOpen rfl ?_))))
  refine eagerEnd ?_
  have HB4 := Lib.hid hy4
  clear hy0 hy3 hy4 hs3 HC0 HC1
  go_wp2_with fail
  go_ret
  exact ⟨_, _, rfl, HL4.out, HB4.out⟩
theorem len_any {base db rb i : Nat} {d : DD} (w : World) (hE : Rdr.EType w) (h : DX base db d w) (hr : RolAt w rb db i) (hi : i < 3) :
    Calls Tryz.prog 23 #[.pointer (some ⟨rb, 0, none⟩)] w fun e w' => e = .returned (.int .i64 ((scan (fD d i).now).1.length : Int)) ∧ Below w.heap.size w w' := by
  have HB := Lib.hid (bodies_any w hE h hr hi)
  clear hE h hr
  go_enter Tryz.func23, Tryz.ntmps23
  go_wp2_with fail
  refine HB.out.mono ?_
  rintro e w' ⟨p, c, rfl, hl, hb⟩
  have HBB := Lib.hid hb
  clear hb hl
  go_wp2_with fail
  go_ret
  exact ⟨rfl, HBB.out⟩
set_option maxRecDepth 100000 in
set_option maxHeartbeats 1600000 in
theorem size_any {base db rb i : Nat} {d : DD} (w : World) (h : DX base db d w) (hr : RolAt w rb db i) (hi : i < 3) :
    Calls Tryz.prog 24 #[.pointer (some ⟨rb, 0, none⟩)] w fun e w' => e = .returned (.int .i64 ((fD d i).now.length : Int)) ∧ Below w.heap.size w w' := by
  have HX := Lib.hid h
  have HRX := Lib.hid hr
  have HI := Lib.hid hi
  have HRN := Lib.hid (rnone_any w hr)
  clear h hr hi
  go_enter Tryz.func24, Tryz.ntmps24
  go_wp2_with fail
  refine HRN.out.mono ?_
  rintro e w' ⟨rfl, rfl⟩
  go_upto_region 3 with fail
  have HC0 : Hid (∀ w', Below w.heap.size w w' → w'.cell? ⟨rb, 0, none⟩ = some (.pointer (some ⟨db, 0, none⟩))) := fun w' hb => (HRX.out.below hb).c0
  have HC1 : Hid (∀ w', Below w.heap.size w w' → w'.cell? ⟨rb, 1, none⟩ = some (.int .i64 (i : Int))) := fun w' hb => (HRX.out.below hb).c1
  refine wp_region_eager_t (Below w.heap.size w) [0, 1, 2, 3, 4, 5, 6, 7] [(0, true), (1, true), (2, true), (3, true), (4, true), (5, true), (6, true), (7, true)] [8, 9] (by kernel_rfl) (by kernel_rfl) ?_ (eagerTOpen rfl ?_)
  · exact below_drew1 _ _
  repeat (first
    | (first | (apply wpEagerT_take; (· rfl); (· (intro w' hb'; go_simp; try with_reducible rfl)); (try simp only [Act.put, List.setIfInBounds_toArray, List.set_cons_zero, List.set_cons_succ]); (try refine eagerTOpen rfl ?_)) | (refine wpEagerT_skip (by rfl) ?_; (try simp only [Act.put, List.setIfInBounds_toArray, List.set_cons_zero, List.set_cons_succ]); (try refine eagerTOpen rfl ?_)))
    | (apply wpEagerT_take; (· rfl); (· (intro w' hb'; have hk' := (HC0.out) w' hb'; go_split_ands; go_simp; try with_reducible rfl)); (try simp only [Act.put, List.setIfInBounds_toArray, List.set_cons_zero, List.set_cons_succ]); (try refine eagerTOpen rfl ?_))
    | (apply wpEagerT_take; (· rfl); (· (intro w' hb'; have hk' := (HC1.out) w' hb'; go_split_ands; go_simp; try with_reducible rfl)); (try simp only [Act.put, List.setIfInBounds_toArray, List.set_cons_zero, List.set_cons_succ]); (try refine eagerTOpen rfl ?_)))
  refine eagerTEnd (tail2 rfl rfl ?_)
  clear HC0 HC1
  have HY := Lib.hid (HX.out.below (below_drew1 _ _))
  have HKY : Hid (Below w.heap.size w w.drew) := below_drew1 _ _
  have HRD := Lib.hid (xsize w.drew HY.out i HI.out)
  go_wp2_with fail
  refine HRD.out.mono ?_
  rintro e w3 ⟨rfl, hb3⟩
  have HB3 := Lib.hid (HKY.out.trans (hb3.mono HKY.out.size))
  clear hb3
  go_wp2_with fail
  refine noPanic_end ?_
  go_wp2_with fail
  go_ret
  exact ⟨rfl, HB3.out⟩
set_option maxRecDepth 100000 in
set_option maxHeartbeats 3200000 in
theorem mend_any {base db rb i : Nat} {d : DD} (w : World) (hE : Rdr.EType w) (h : DX base db d w) (hr : RolAt w rb db i) (hi : i < 3) (hfew : (fD d i).steps.length + 1 ≤ 4398046511104) :
    Calls Tryz.prog 28 #[.pointer (some ⟨rb, 0, none⟩)] w (StP base db (mendE d i) (mendD d i) w) := by
  have HX := Lib.hid h
  have HRX := Lib.hid hr
  have HKX : Hid (KT base w w) := KT.refl _ _
  have HI := Lib.hid hi
  have HE := Lib.hid hE
  have HLE := Lib.hid (h.le hi)
  have HFEW := Lib.hid hfew
  have HSL := Lib.hid (scan_le (fD d i).now)
  have HME : Hid (mendE d i = if (scan (fD d i).now).2 < (fD d i).now.length then (if doE d i (fD d i) (.cut (scan (fD d i).now).2) = 0 then endE (doD d i (fD d i) (.cut (scan (fD d i).now).2)) i else doE d i (fD d i) (.cut (scan (fD d i).now).2)) else endE d i) := rfl
  have HMD : Hid (mendD d i = if (scan (fD d i).now).2 < (fD d i).now.length then (if doE d i (fD d i) (.cut (scan (fD d i).now).2) = 0 then endD (doD d i (fD d i) (.cut (scan (fD d i).now).2)) i else doD d i (fD d i) (.cut (scan (fD d i).now).2)) else endD d i) := rfl
  have HCUT := fun w (h : DX base db d w) => xcut w h i hi (scan (fD d i).now).2 (scan_le _) hfew
  have HCT := Lib.hid HCUT
  clear h hr hi hE hfew HCUT
  obtain ⟨L, hL⟩ : ∃ L, (fD d i).now = L := ⟨_, rfl⟩
  rw [hL] at HLE HSL HME HMD HCT
  have HLL := Lib.hid hL
  obtain ⟨G, hG⟩ : ∃ G, (scan L).2 = G := ⟨_, rfl⟩
  rw [hG] at HSL HME HMD HCT
  have HGG := Lib.hid hG
  clear hL hG
  have hlx := HLE.out
  have hsx := HSL.out
  go_enter Tryz.func28, Tryz.ntmps28
  go_upto_region 1 with fail
  have HC0 : Hid (∀ w', Below w.heap.size w w' → w'.cell? ⟨rb, 0, none⟩ = some (.pointer (some ⟨db, 0, none⟩))) := fun w' hb => (HRX.out.below hb).c0
  have HC1 : Hid (∀ w', Below w.heap.size w w' → w'.cell? ⟨rb, 1, none⟩ = some (.int .i64 (i : Int))) := fun w' hb => (HRX.out.below hb).c1
  refine wp_region_eager_t (Below w.heap.size w) [0, 1, 2, 3, 4, 5, 6, 7] [(0, true), (1, true), (2, true), (3, true), (4, true), (5, true), (6, true), (7, true)] [8, 9] (by kernel_rfl) (by kernel_rfl) ?_ (eagerTOpen rfl ?_)
  · exact below_drew1 _ _
  repeat (first
    | (first | (apply wpEagerT_take; (· rfl); (· (intro w' hb'; go_simp; try with_reducible rfl)); (try simp only [Act.put, List.setIfInBounds_toArray, List.set_cons_zero, List.set_cons_succ]); (try refine eagerTOpen rfl ?_)) | (refine wpEagerT_skip (by rfl) ?_; (try simp only [Act.put, List.setIfInBounds_toArray, List.set_cons_zero, List.set_cons_succ]); (try refine eagerTOpen rfl ?_)))
    | (apply wpEagerT_take; (· rfl); (· (intro w' hb'; have hk' := (HC0.out) w' hb'; go_split_ands; go_simp; try with_reducible rfl)); (try simp only [Act.put, List.setIfInBounds_toArray, List.set_cons_zero, List.set_cons_succ]); (try refine eagerTOpen rfl ?_))
    | (apply wpEagerT_take; (· rfl); (· (intro w' hb'; have hk' := (HC1.out) w' hb'; go_split_ands; go_simp; try with_reducible rfl)); (try simp only [Act.put, List.setIfInBounds_toArray, List.set_cons_zero, List.set_cons_succ]); (try refine eagerTOpen rfl ?_)))
  refine eagerTEnd (tail2 rfl rfl ?_)
  clear HC0 HC1
  have HB1 := Lib.hid (below_drew1 w.heap.size w)
  skip
  have HY := Lib.hid (HX.out.below (below_drew1 _ _))
  have HRY := Lib.hid (HRX.out.below (below_drew1 _ _))
  have HKY := Lib.hid (HKX.out.next (below_drew1 _ _))
  generalize w.drew = w1 at *
  clear HX HRX HKX
  have hrd := xread w1 HY.out i HI.out
  rw [HLL.out] at hrd
  have HRD := Lib.hid hrd
  clear hrd
  go_wp2_with fail
  refine HRD.out.mono ?_
  rintro e w3 ⟨p3, c3, rfl, hs3, hb3⟩
  have HX := Lib.hid (HY.out.below hb3)
  have HRX := Lib.hid (HRY.out.below hb3)
  have HKX := Lib.hid (HKY.out.next hb3)
  have HE3 := Lib.hid (HE.out.below (HB1.out.trans (hb3.mono HB1.out.size)) HE.out.lt)
  have hsc := Frm.scanO_any p3 _ c3 _ w3 HE3.out hs3 (Frm.bs_block hs3) (by omega)
  unfold Frm.ScanO at hsc
  rw [HGG.out] at hsc
  have HSC := Lib.hid hsc
  clear HY HRY HKY hsc hs3 hb3 HRD HE3 HB1
  go_wp2_with fail
  refine noPanic_end ?_
  go_wp2_with fail
  refine HSC.out.mono ?_
  rintro e w4 ⟨v4, rfl, hl4, hb4⟩
  have HX4 := Lib.hid (HX.out.below hb4)
  have HRX4 := Lib.hid (HRX.out.below hb4)
  have HKX4 := Lib.hid (HKX.out.next hb4)
  clear HX HRX HKX hl4 hb4 HSC
  have HX := HX4
  have HRX := HRX4
  have HKX := HKX4
  clear HX4 HRX4 HKX4
  by_cases hg : G < L.length
  · have z3 : decide ((G : Int) < (L.length : Int)) = true := decide_eq_true (by omega)
    have z4 : decide (G < L.length) = true := decide_eq_true hg
    rw [if_pos hg] at HME HMD
    clear hg
    go_upto_region 4 with fail
    have HC0 : Hid (∀ w', Below w4.heap.size w4 w' → w'.cell? ⟨rb, 0, none⟩ = some (.pointer (some ⟨db, 0, none⟩))) := fun w' hb => (HRX.out.below hb).c0
    have HC1 : Hid (∀ w', Below w4.heap.size w4 w' → w'.cell? ⟨rb, 1, none⟩ = some (.int .i64 (i : Int))) := fun w' hb => (HRX.out.below hb).c1
    refine wp_region_eager_t (Below w4.heap.size w4) [0, 1, 2, 3, 4, 5, 6, 7, 8] [(0, true), (1, true), (2, true), (3, true), (4, true), (5, true), (6, true), (7, true), (8, true)] [9, 10] (by kernel_rfl) (by kernel_rfl) ?_ (eagerTOpen rfl ?_)
    · exact below_drew1 _ _
    repeat (first
      | (first | (apply wpEagerT_take; (· rfl); (· (intro w' hb'; go_simp; try with_reducible rfl)); (try simp only [Act.put, List.setIfInBounds_toArray, List.set_cons_zero, List.set_cons_succ]); (try refine eagerTOpen rfl ?_)) | (refine wpEagerT_skip (by rfl) ?_; (try simp only [Act.put, List.setIfInBounds_toArray, List.set_cons_zero, List.set_cons_succ]); (try refine eagerTOpen rfl ?_)))
      | (apply wpEagerT_take; (· rfl); (· (intro w' hb'; have hk' := (HC0.out) w' hb'; go_split_ands; go_simp; try with_reducible rfl)); (try simp only [Act.put, List.setIfInBounds_toArray, List.set_cons_zero, List.set_cons_succ]); (try refine eagerTOpen rfl ?_))
      | (apply wpEagerT_take; (· rfl); (· (intro w' hb'; have hk' := (HC1.out) w' hb'; go_split_ands; go_simp; try with_reducible rfl)); (try simp only [Act.put, List.setIfInBounds_toArray, List.set_cons_zero, List.set_cons_succ]); (try refine eagerTOpen rfl ?_)))
    refine eagerTEnd (tail2 rfl rfl ?_)
    clear HC0 HC1
    have HY := Lib.hid (HX.out.below (below_drew1 _ _))
    have HRY := Lib.hid (HRX.out.below (below_drew1 _ _))
    have HKY := Lib.hid (HKX.out.next (below_drew1 _ _))
    generalize w4.drew = w5 at *
    clear HX HRX HKX
    have HCC := Lib.hid (HCT.out w5 HY.out)
    generalize doE d i (fD d i) (.cut G) = x at *
    generalize doD d i (fD d i) (.cut G) = d1 at *
    go_wp2_with fail
    refine HCC.out.mono ?_
    rintro e w6 ⟨rfl, hd6, hk6⟩
    have HX := Lib.hid hd6
    have HKX := Lib.hid (HKY.out.trans hk6)
    have HRX := Lib.hid (HRY.out.kt hk6)
    clear hd6 hk6 HKY HRY HY HCC HCT
    by_cases hx : x = 0
    · have z1 : (x != 0) = false := by simp [hx]
      rw [if_pos hx] at HME HMD
      clear hx
      go_wp2_with fail
      refine noPanic_end ?_
      skip
      go_upto_region 7 with fail
      have HC0 : Hid (∀ w', Below w6.heap.size w6 w' → w'.cell? ⟨rb, 0, none⟩ = some (.pointer (some ⟨db, 0, none⟩))) := fun w' hb => (HRX.out.below hb).c0
      have HC1 : Hid (∀ w', Below w6.heap.size w6 w' → w'.cell? ⟨rb, 1, none⟩ = some (.int .i64 (i : Int))) := fun w' hb => (HRX.out.below hb).c1
      refine wp_region_eager_t (Below w6.heap.size w6) [0, 1, 2, 3, 4, 5, 6, 7] [(0, true), (1, true), (2, true), (3, true), (4, true), (5, true), (6, true), (7, true)] [8, 9] (by kernel_rfl) (by kernel_rfl) ?_ (eagerTOpen rfl ?_)
      · exact below_drew1 _ _
      repeat (first
        | (first | (apply wpEagerT_take; (· rfl); (· (intro w' hb'; go_simp; try with_reducible rfl)); (try simp only [Act.put, List.setIfInBounds_toArray, List.set_cons_zero, List.set_cons_succ]); (try refine eagerTOpen rfl ?_)) | (refine wpEagerT_skip (by rfl) ?_; (try simp only [Act.put, List.setIfInBounds_toArray, List.set_cons_zero, List.set_cons_succ]); (try refine eagerTOpen rfl ?_)))
        | (apply wpEagerT_take; (· rfl); (· (intro w' hb'; have hk' := (HC0.out) w' hb'; go_split_ands; go_simp; try with_reducible rfl)); (try simp only [Act.put, List.setIfInBounds_toArray, List.set_cons_zero, List.set_cons_succ]); (try refine eagerTOpen rfl ?_))
        | (apply wpEagerT_take; (· rfl); (· (intro w' hb'; have hk' := (HC1.out) w' hb'; go_split_ands; go_simp; try with_reducible rfl)); (try simp only [Act.put, List.setIfInBounds_toArray, List.set_cons_zero, List.set_cons_succ]); (try refine eagerTOpen rfl ?_)))
      refine eagerTEnd (tail2 rfl rfl ?_)
      clear HC0 HC1
      have HY := Lib.hid (HX.out.below (below_drew1 _ _))
      have HRY := Lib.hid (HRX.out.below (below_drew1 _ _))
      have HKY := Lib.hid (HKX.out.next (below_drew1 _ _))
      generalize w6.drew = w7 at *
      clear HX HRX HKX
      have HUN := Lib.hid (xunits w7 HY.out i HI.out)
      have HEE : Hid (endE d1 i = if unitsAll (fD d1 i).steps = 0 then 0 else syncE d1) := rfl
      have HED : Hid (endD d1 i = if unitsAll (fD d1 i).steps = 0 then d1 else syncD d1 i (fD d1 i)) := rfl
      obtain ⟨un, hun⟩ : ∃ un, unitsAll (fD d1 i).steps = un := ⟨_, rfl⟩
      rw [hun] at HUN HEE HED
      clear hun
      go_wp2_with fail
      refine HUN.out.mono ?_
      rintro e w8 ⟨rfl, hb8⟩
      have HX := Lib.hid (HY.out.below hb8)
      have HRX := Lib.hid (HRY.out.below hb8)
      have HKX := Lib.hid (HKY.out.next hb8)
      clear hb8 HY HRY HKY HUN
      by_cases hu : un = 0
      · have z1 : ((un : Int) == 0) = true := by rw [beq_iff_eq]; omega
        have z2 : (un == 0) = true := by rw [beq_iff_eq]; omega
        rw [if_pos hu] at HEE HED
        clear hu
        go_wp2_with fail
        refine noPanic_end ?_
        go_wp2_with fail
        go_ret
        exact ⟨by rw [HME.out, HEE.out]; rfl, by rw [HMD.out, HED.out]; exact HX.out, HKX.out⟩
      · have z1 : ((un : Int) == 0) = false := by rw [beq_eq_false_iff_ne]; omega
        have z2 : (un == 0) = false := by rw [beq_eq_false_iff_ne]; omega
        rw [if_neg hu] at HEE HED
        clear hu
        go_wp2_with fail
        refine noPanic_end ?_
        go_upto_region 9 with fail
        have HC0 : Hid (∀ w', Below w8.heap.size w8 w' → w'.cell? ⟨rb, 0, none⟩ = some (.pointer (some ⟨db, 0, none⟩))) := fun w' hb => (HRX.out.below hb).c0
        have HC1 : Hid (∀ w', Below w8.heap.size w8 w' → w'.cell? ⟨rb, 1, none⟩ = some (.int .i64 (i : Int))) := fun w' hb => (HRX.out.below hb).c1
        refine wp_region_eager_t (Below w8.heap.size w8) [0, 1, 2, 3, 4, 5, 6, 7] [(0, true), (1, true), (2, true), (3, true), (4, true), (5, true), (6, true), (7, true)] [8, 9] (by kernel_rfl) (by kernel_rfl) ?_ (eagerTOpen rfl ?_)
        · exact below_drew1 _ _
        repeat (first
          | (first | (apply wpEagerT_take; (· rfl); (· (intro w' hb'; go_simp; try with_reducible rfl)); (try simp only [Act.put, List.setIfInBounds_toArray, List.set_cons_zero, List.set_cons_succ]); (try refine eagerTOpen rfl ?_)) | (refine wpEagerT_skip (by rfl) ?_; (try simp only [Act.put, List.setIfInBounds_toArray, List.set_cons_zero, List.set_cons_succ]); (try refine eagerTOpen rfl ?_)))
          | (apply wpEagerT_take; (· rfl); (· (intro w' hb'; have hk' := (HC0.out) w' hb'; go_split_ands; go_simp; try with_reducible rfl)); (try simp only [Act.put, List.setIfInBounds_toArray, List.set_cons_zero, List.set_cons_succ]); (try refine eagerTOpen rfl ?_))
          | (apply wpEagerT_take; (· rfl); (· (intro w' hb'; have hk' := (HC1.out) w' hb'; go_split_ands; go_simp; try with_reducible rfl)); (try simp only [Act.put, List.setIfInBounds_toArray, List.set_cons_zero, List.set_cons_succ]); (try refine eagerTOpen rfl ?_)))
        refine eagerTEnd (tail2 rfl rfl ?_)
        clear HC0 HC1
        have HY := Lib.hid (HX.out.below (below_drew1 _ _))
        have HRY := Lib.hid (HRX.out.below (below_drew1 _ _))
        have HKY := Lib.hid (HKX.out.next (below_drew1 _ _))
        generalize w8.drew = w9 at *
        clear HX HRX HKX
        have HSY := Lib.hid (xsync w9 HY.out i HI.out)
        go_wp2_with fail
        refine HSY.out.mono ?_
        rintro e w10 ⟨rfl, hd10, hk10⟩
        have HD10 := Lib.hid hd10
        have HK10 := Lib.hid (HKY.out.trans hk10)
        clear hd10 hk10
        go_wp2_with fail
        refine noPanic_end ?_
        go_wp2_with fail
        go_ret
        exact ⟨by rw [HME.out, HEE.out]; rfl, by rw [HMD.out, HED.out]; exact HD10.out, HK10.out⟩
    · have z1 : (x != 0) = true := by simp [hx]
      rw [if_neg hx] at HME HMD
      clear hx
      go_wp2_with fail
      refine noPanic_end ?_
      go_wp2_with fail
      go_ret
      exact ⟨by rw [HME.out]; rfl, by rw [HMD.out]; exact HX.out, HKX.out⟩
  · have z3 : decide ((G : Int) < (L.length : Int)) = false := decide_eq_false (by omega)
    have z4 : decide (G < L.length) = false := decide_eq_false hg
    rw [if_neg hg] at HME HMD
    clear hg HCT
    skip
    go_upto_region 7 with fail
    have HC0 : Hid (∀ w', Below w4.heap.size w4 w' → w'.cell? ⟨rb, 0, none⟩ = some (.pointer (some ⟨db, 0, none⟩))) := fun w' hb => (HRX.out.below hb).c0
    have HC1 : Hid (∀ w', Below w4.heap.size w4 w' → w'.cell? ⟨rb, 1, none⟩ = some (.int .i64 (i : Int))) := fun w' hb => (HRX.out.below hb).c1
    refine wp_region_eager_t (Below w4.heap.size w4) [0, 1, 2, 3, 4, 5, 6, 7] [(0, true), (1, true), (2, true), (3, true), (4, true), (5, true), (6, true), (7, true)] [8, 9] (by kernel_rfl) (by kernel_rfl) ?_ (eagerTOpen rfl ?_)
    · exact below_drew1 _ _
    repeat (first
      | (first | (apply wpEagerT_take; (· rfl); (· (intro w' hb'; go_simp; try with_reducible rfl)); (try simp only [Act.put, List.setIfInBounds_toArray, List.set_cons_zero, List.set_cons_succ]); (try refine eagerTOpen rfl ?_)) | (refine wpEagerT_skip (by rfl) ?_; (try simp only [Act.put, List.setIfInBounds_toArray, List.set_cons_zero, List.set_cons_succ]); (try refine eagerTOpen rfl ?_)))
      | (apply wpEagerT_take; (· rfl); (· (intro w' hb'; have hk' := (HC0.out) w' hb'; go_split_ands; go_simp; try with_reducible rfl)); (try simp only [Act.put, List.setIfInBounds_toArray, List.set_cons_zero, List.set_cons_succ]); (try refine eagerTOpen rfl ?_))
      | (apply wpEagerT_take; (· rfl); (· (intro w' hb'; have hk' := (HC1.out) w' hb'; go_split_ands; go_simp; try with_reducible rfl)); (try simp only [Act.put, List.setIfInBounds_toArray, List.set_cons_zero, List.set_cons_succ]); (try refine eagerTOpen rfl ?_)))
    refine eagerTEnd (tail2 rfl rfl ?_)
    clear HC0 HC1
    have HY := Lib.hid (HX.out.below (below_drew1 _ _))
    have HRY := Lib.hid (HRX.out.below (below_drew1 _ _))
    have HKY := Lib.hid (HKX.out.next (below_drew1 _ _))
    generalize w4.drew = w7 at *
    clear HX HRX HKX
    have HUN := Lib.hid (xunits w7 HY.out i HI.out)
    have HEE : Hid (endE d i = if unitsAll (fD d i).steps = 0 then 0 else syncE d) := rfl
    have HED : Hid (endD d i = if unitsAll (fD d i).steps = 0 then d else syncD d i (fD d i)) := rfl
    obtain ⟨un, hun⟩ : ∃ un, unitsAll (fD d i).steps = un := ⟨_, rfl⟩
    rw [hun] at HUN HEE HED
    clear hun
    go_wp2_with fail
    refine HUN.out.mono ?_
    rintro e w8 ⟨rfl, hb8⟩
    have HX := Lib.hid (HY.out.below hb8)
    have HRX := Lib.hid (HRY.out.below hb8)
    have HKX := Lib.hid (HKY.out.next hb8)
    clear hb8 HY HRY HKY HUN
    by_cases hu : un = 0
    · have z1 : ((un : Int) == 0) = true := by rw [beq_iff_eq]; omega
      have z2 : (un == 0) = true := by rw [beq_iff_eq]; omega
      rw [if_pos hu] at HEE HED
      clear hu
      go_wp2_with fail
      refine noPanic_end ?_
      go_wp2_with fail
      go_ret
      exact ⟨by rw [HME.out, HEE.out]; rfl, by rw [HMD.out, HED.out]; exact HX.out, HKX.out⟩
    · have z1 : ((un : Int) == 0) = false := by rw [beq_eq_false_iff_ne]; omega
      have z2 : (un == 0) = false := by rw [beq_eq_false_iff_ne]; omega
      rw [if_neg hu] at HEE HED
      clear hu
      go_wp2_with fail
      refine noPanic_end ?_
      go_upto_region 9 with fail
      have HC0 : Hid (∀ w', Below w8.heap.size w8 w' → w'.cell? ⟨rb, 0, none⟩ = some (.pointer (some ⟨db, 0, none⟩))) := fun w' hb => (HRX.out.below hb).c0
      have HC1 : Hid (∀ w', Below w8.heap.size w8 w' → w'.cell? ⟨rb, 1, none⟩ = some (.int .i64 (i : Int))) := fun w' hb => (HRX.out.below hb).c1
      refine wp_region_eager_t (Below w8.heap.size w8) [0, 1, 2, 3, 4, 5, 6, 7] [(0, true), (1, true), (2, true), (3, true), (4, true), (5, true), (6, true), (7, true)] [8, 9] (by kernel_rfl) (by kernel_rfl) ?_ (eagerTOpen rfl ?_)
      · exact below_drew1 _ _
      repeat (first
        | (first | (apply wpEagerT_take; (· rfl); (· (intro w' hb'; go_simp; try with_reducible rfl)); (try simp only [Act.put, List.setIfInBounds_toArray, List.set_cons_zero, List.set_cons_succ]); (try refine eagerTOpen rfl ?_)) | (refine wpEagerT_skip (by rfl) ?_; (try simp only [Act.put, List.setIfInBounds_toArray, List.set_cons_zero, List.set_cons_succ]); (try refine eagerTOpen rfl ?_)))
        | (apply wpEagerT_take; (· rfl); (· (intro w' hb'; have hk' := (HC0.out) w' hb'; go_split_ands; go_simp; try with_reducible rfl)); (try simp only [Act.put, List.setIfInBounds_toArray, List.set_cons_zero, List.set_cons_succ]); (try refine eagerTOpen rfl ?_))
        | (apply wpEagerT_take; (· rfl); (· (intro w' hb'; have hk' := (HC1.out) w' hb'; go_split_ands; go_simp; try with_reducible rfl)); (try simp only [Act.put, List.setIfInBounds_toArray, List.set_cons_zero, List.set_cons_succ]); (try refine eagerTOpen rfl ?_)))
      refine eagerTEnd (tail2 rfl rfl ?_)
      clear HC0 HC1
      have HY := Lib.hid (HX.out.below (below_drew1 _ _))
      have HRY := Lib.hid (HRX.out.below (below_drew1 _ _))
      have HKY := Lib.hid (HKX.out.next (below_drew1 _ _))
      generalize w8.drew = w9 at *
      clear HX HRX HKX
      have HSY := Lib.hid (xsync w9 HY.out i HI.out)
      go_wp2_with fail
      refine HSY.out.mono ?_
      rintro e w10 ⟨rfl, hd10, hk10⟩
      have HD10 := Lib.hid hd10
      have HK10 := Lib.hid (HKY.out.trans hk10)
      clear hd10 hk10
      go_wp2_with fail
      refine noPanic_end ?_
      go_wp2_with fail
      go_ret
      exact ⟨by rw [HME.out, HEE.out]; rfl, by rw [HMD.out, HED.out]; exact HD10.out, HK10.out⟩
/-! ### Open -/
def opnE (d : DD) (i : Nat) : Int := if d.down = true then 18 else mendE d i
def opnD (d : DD) (i : Nat) : DD := if d.down = true then d else mendD d i
structure OpnP (base db : Nat) (d : DD) (i : Nat) (w : World) (e : Ending) (w' : World) : Prop where
  dx : DX base db (opnD d i) w'
  kt : KT base w w'
  say : (opnE d i = 0 ∧ ∃ rb, e = .returned (.tuple #[.pointer (some ⟨rb, 0, none⟩), .int .i64 0]) ∧ RolAt w' rb db i) ∨ (opnE d i ≠ 0 ∧ e = .returned (.tuple #[.pointer none, .int .i64 (opnE d i)]))
theorem xroom {base db : Nat} {d : DD} (w : World) (h : DX base db d w) : Calls Tryz.prog 26 #[.pointer (some ⟨db, 0, none⟩)] w fun e w' => e = .returned (.int .i64 (d.room : Int)) ∧ w = w' := by
  obtain ⟨h0, vs, h1⟩ := h
  exact room_any w h1
theorem xdown {base db : Nat} {d : DD} (w : World) (h : DX base db d w) : Calls Tryz.prog 27 #[.pointer (some ⟨db, 0, none⟩)] w fun e w' => e = .returned (.bool d.down) ∧ w = w' := by
  obtain ⟨h0, vs, h1⟩ := h
  exact down_any w h1
theorem open_bad {base db : Nat} {d : DD} (w : World) (h : DX base db d w) (i : Int) (hi : i < 0 ∨ 3 ≤ i) :
    Calls Tryz.prog 7 #[.pointer (some ⟨db, 0, none⟩), .int .i64 i] w fun e w' => e = .returned (.tuple #[.pointer none, .int .i64 1]) ∧ w = w' := by
  have HRM := Lib.hid (xroom w h)
  have hr := h.room.1
  have e1 : ((d.room : Int) == 0) = false := by rw [beq_eq_false_iff_ne]; omega
  have e2 : (d.room == 0) = false := by rw [beq_eq_false_iff_ne]; omega
  clear h
  by_cases h0 : i < 0
  · have d1 : decide (i < 0) = true := decide_eq_true h0
    clear hi h0
    go_enter Tryz.func7, Tryz.ntmps7
    go_wp2_with fail
    refine HRM.out.mono ?_
    rintro e w' ⟨rfl, rfl⟩
    go_wp2_with fail
    go_ret2
    exact ⟨rfl, rfl⟩
  · have d1 : decide (i < 0) = false := decide_eq_false h0
    have d2 : decide ((3 : Int) ≤ i) = true := decide_eq_true (by omega)
    clear hi h0
    go_enter Tryz.func7, Tryz.ntmps7
    go_wp2_with fail
    refine HRM.out.mono ?_
    rintro e w' ⟨rfl, rfl⟩
    go_wp2_with fail
    go_ret2
    exact ⟨rfl, rfl⟩
theorem built_rol (db i : Nat) : Tryz.prog.built 69 [(0, .pointer (some ⟨db, 0, none⟩)), (1, .int .i64 (i : Int))] = some (rolA db i) := by kernel_rfl
set_option maxRecDepth 100000 in
set_option maxHeartbeats 1600000 in
theorem open_any {base db i : Nat} {d : DD} (w : World) (hE : Rdr.EType w) (h : DX base db d w) (hi : i < 3) (hfew : (fD d i).steps.length + 1 ≤ 4398046511104) :
    Calls Tryz.prog 7 #[.pointer (some ⟨db, 0, none⟩), .int .i64 (i : Int)] w (OpnP base db d i w) := by
  have HRM := Lib.hid (xroom w h)
  have HDN := Lib.hid (xdown w h)
  have hr := h.room.1
  have e1 : ((d.room : Int) == 0) = false := by rw [beq_eq_false_iff_ne]; omega
  have e2 : (d.room == 0) = false := by rw [beq_eq_false_iff_ne]; omega
  have d1 : decide ((i : Int) < 0) = false := decide_eq_false (by omega)
  have d2 : decide ((3 : Int) ≤ (i : Int)) = false := decide_eq_false (by omega)
  have d2b : decide (3 ≤ i) = false := decide_eq_false (by omega)
  have H := Lib.hid h
  have HI := Lib.hid hi
  have HE := Lib.hid hE
  have HFEW := Lib.hid hfew
  clear h hi hE hfew
  obtain ⟨dn, hdn⟩ : ∃ dn, d.down = dn := ⟨_, rfl⟩
  rw [hdn] at HDN
  cases dn with
  | true =>
    have HOE : Hid (opnE d i = 18) := by show _ = _; unfold opnE; rw [if_pos hdn]
    have HOD : Hid (opnD d i = d) := by show _ = _; unfold opnD; rw [if_pos hdn]
    clear hdn
    go_enter Tryz.func7, Tryz.ntmps7
    go_wp2_with fail
    refine HRM.out.mono ?_
    rintro e w' ⟨rfl, rfl⟩
    go_wp2_with fail
    refine HDN.out.mono ?_
    rintro e w' ⟨rfl, rfl⟩
    go_wp2_with fail
    go_ret2
    exact ⟨by rw [HOD.out]; exact H.out, KT.refl _ _, .inr ⟨by rw [HOE.out]; decide, by rw [HOE.out]; rfl⟩⟩
  | false =>
    have HOE : Hid (opnE d i = mendE d i) := by show _ = _; unfold opnE; rw [if_neg (by rw [hdn]; decide)]
    have HOD : Hid (opnD d i = mendD d i) := by show _ = _; unfold opnD; rw [if_neg (by rw [hdn]; decide)]
    have HB1 : Hid (Below w.heap.size w (w.alloc (.cells (rolA db i) 69))) := Below.allocs _ _
    have HR1 : Hid (RolAt (w.alloc (.cells (rolA db i) 69)) w.heap.size db i) := heap_alloc_last _ _
    have HME := Lib.hid (mend_any _ (HE.out.below HB1.out HE.out.lt) (H.out.below HB1.out) HR1.out HI.out HFEW.out)
    clear hdn
    rw [← HOE.out, ← HOD.out] at HME
    clear HOE HOD
    generalize hoe : opnE d i = x at *
    have HOE := Lib.hid hoe
    clear hoe
    go_enter Tryz.func7, Tryz.ntmps7
    go_wp2_with fail
    refine HRM.out.mono ?_
    rintro e w' ⟨rfl, rfl⟩
    go_wp2_with fail
    refine HDN.out.mono ?_
    rintro e w' ⟨rfl, rfl⟩
    go_upto_region 8 with (refine Rdr.wpList_build rfl 69 _ rfl [(0, .pointer (some ⟨db, 0, none⟩)), (1, .int .i64 (i : Int))] rfl _ (built_rol _ _) ?_)
    generalize w.alloc (.cells (rolA db i) 69) = w1 at *
    go_wp2_with fail
    refine HME.out.mono ?_
    rintro e w2 ⟨rfl, hd2, hk2⟩
    have HD2 := Lib.hid hd2
    have HR2 := Lib.hid (HR1.out.kt hk2)
    have HK2 : Hid (KT base w w2) := (KT.of_below HB1.out).trans hk2
    clear hd2 hk2 HME
    by_cases hx : x = 0
    · have z1 : (x != 0) = false := by simp [hx]
      have HX0 := Lib.hid hx
      clear hx
      go_wp2_with fail
      go_ret2
      exact ⟨HD2.out, HK2.out, .inl ⟨HOE.out.trans HX0.out, _, rfl, HR2.out⟩⟩
    · have z1 : (x != 0) = true := by simp [hx]
      have HX0 : Hid (x ≠ 0) := hx
      clear hx
      go_wp2_with fail
      go_ret2
      exact ⟨HD2.out, HK2.out, .inr ⟨by rw [HOE.out]; exact HX0.out, by rw [HOE.out]; rfl⟩⟩
end Go.Proofs.YtkacmgfehmjijaaGreatDoor.Rol

namespace Go.Proofs.YtkacmgfehmjijaaGreatDoor.Rk
open Go.RowKit Go.Mir Go.Mir.Parts Dk Rol
open Frm (frame scan)
open Cut (Ls LsO)

theorem wpList_load_mid_g {P : Program} {ops : Array Oper} {rest : List Oper} {op : Oper} {a : Act} {w : World} {Q : Exit → Act → World → Prop} (hw : Region.wanted op (yielded ops a.tmps) = true) (ty : TypeId) (x : Operand) (ho : op.op = .load ty x)
    (b o : Nat) (hx : a.eval x = .pointer (some ⟨b, o, none⟩)) (M : Array Value) (d : TypeDesc) (hc : w.rangeAt b o M.toList)
    (hu : P.underlying ty = some d) (hd : d.isRow = true) (hi : (P.info? ty).map (·.size) = some M.size)
    (h : wpList P ops Q rest (a.put op.dst (.agg M)) w) : wpList P ops Q (op :: rest) a w :=
  wpList_unguard hw (wpList_load_mid rfl ty x ho b o hx M.toList d hc hu hd (by rw [Array.length_toList]; exact hi) (by rw [Array.toArray_toList]; exact h))
set_option maxRecDepth 100000 in
set_option maxHeartbeats 6400000 in
theorem ropen_any (ts : List RF) (d : DD) (i : Nat) (hi : i < 3) (w : World) (h : RDB w ts d) (hur : usedL d.fs ≤ d.room) (hfew : (fD d i).steps.length + 1 ≤ 2199023255552) :
    Calls Tryz.prog 8 #[.agg (rdA ts d), .int .i64 (i : Int)] w (ROut (opnD d i) (opnE d i) w) := by
  have hz := zeroD
  obtain ⟨q1, q2, q3, q4⟩ := boxes w ts d
  have HROW := Lib.hid q1
  have HZX := Lib.hid q2
  have HLOW := Lib.hid q4
  have HR := Lib.hid (h.below q4)
  have HI := Lib.hid hi
  have HUR := Lib.hid hur
  have HFEW := Lib.hid hfew
  obtain ⟨hc6, _, hc8, hfz⟩ := (RQ.of (base := 0) h q4 (Nat.zero_le _) q1).cells
  have hrm := h.room1.1
  have e1 : ((d.room : Int) == 0) = false := by rw [beq_eq_false_iff_ne]; omega
  have d1 : decide ((i : Int) < 0) = false := decide_eq_false (by omega)
  have d2 : decide ((2 : Int) < (i : Int)) = false := decide_eq_false (by omega)
  have d3 : decide (2 < i) = false := decide_eq_false (by omega)
  have hi3i : (i : Int) < 3 := by omega
  clear q1 q2 q3 q4 h hi hur hfew hrm
  obtain ⟨MD, hMD⟩ : ∃ MD, opnD d i = MD := ⟨_, rfl⟩
  obtain ⟨ME, hME⟩ : ∃ ME, opnE d i = ME := ⟨_, rfl⟩
  rw [hMD, hME]
  unfold opnD at hMD
  unfold opnE at hME
  go_enter Tryz.func8, Tryz.ntmps8
  go_upto_region 1 with fail
  generalize (w.alloc (.cells (rdA ts d) 37)).alloc (.cells zD 37) = w2 at *
  go_upto_region 5 with fail
  clear hc6
  cases hdn : d.down with
  | true =>
    rw [if_pos hdn] at hMD hME
    rw [hdn] at hc8
    clear hdn
    subst MD ME
    go_upto_region 6 with fail
    clear hc8 hfz
    skip
    -- the box's disk and the error are told: world WX, HROW (ts d), HR, HZX, HLOW, EX
    go_wp2_with (first
      | refine wpList_load_row rfl 37 _ rfl w.heap.size rfl 37 (rdA ts d) (0, 0) _ HROW.out Tryz.underlying37 rfl (infoRD _ (rdA_size HR.out.n3 HR.out.m3)) ?_
      | refine wpList_store_row rfl 37 _ _ rfl (w.heap.size + 1) (rdA ts d) rfl rfl 37 zD HZX.out (infoRD _ (rdA_size HR.out.n3 HR.out.m3)) (by rw [rdA_size HR.out.n3 HR.out.m3]; rfl) (rdA_one HR.out.n3 HR.out.m3) ?_)
    have HS := Lib.hid (setRow_heap _ _ _ (rdA ts d) _ _ HZX.out)
    refine bodyPost_ret (results_cell_tmp2 rfl _ _ _ _ _ _ _ rfl HS.out Tryz.underlying37 rfl (infoRD _ (rdA_size HR.out.n3 HR.out.m3))) rfl ?_
    exact ⟨ts, rfl, HR.out.put HZX.out, below_setRow HLOW.out (by omega) _⟩
  | false =>
    rw [if_neg (by rw [hdn]; decide)] at hMD hME
    rw [hdn] at hc8
    clear hdn
    go_upto_region 7 with fail
    clear hc8 hfz
    unfold mendD at hMD
    unfold mendE at hME
    have hti : i < ts.length := by rw [HR.out.n3]; exact HI.out
    have ht : ts[i]? = some (ts[i]'hti) := List.getElem?_eq_getElem hti
    generalize ts[i]'hti = t at *
    have HT := Lib.hid ht
    have HF := Lib.hid (HR.out.fd HI.out)
    have HRF := Lib.hid (HR.out.each i t _ HT.out HF.out).1.now
    have HNB : Hid ((fD d i).need ≤ 1000000) := by
      obtain ⟨t', f', _, a, _, _, b⟩ := HR.out.at.file i HI.out
      rw [HF.out] at a
      cases a; exact b
    have HRG := Lib.hid (rd_range HR.out.n3 HR.out.m3 HROW.out i HT.out HF.out)
    have HHO := Lib.hid (rholds_any t (fD d i) w2 HRF.out HNB.out)
    have HLE : Hid ((fD d i).now.length ≤ 1000000) := Nat.le_trans HRF.out.ok.le HNB.out
    have HCT : Hid (∀ y m, m ≤ (fD d i).now.length → RDB y ts d → Calls Tryz.prog 31 #[.agg (rdA ts d), .int .i64 (i : Int), .int .i64 (m : Int)] y (ROut (doD d i (fD d i) (.cut m)) (doE d i (fD d i) (.cut m)) y)) := fun y m hm hy => rcut_in ts d i HI.out m hm y hy HUR.out HFEW.out
    clear ht hti
    have HSL : Hid ((scan (fD d i).now).2 ≤ (fD d i).now.length) := Rol.scan_le _
    generalize (fD d i).now = L at *
    go_wp2_with ((with_reducible refine wpAt 27 ?_); refine wpList_load_mid rfl 34 _ rfl w.heap.size (i * 2) rfl (fA t (fD d i)).toList _ HRG.out Tryz.underlying34 rfl (infoFi (fA t (fD d i)) rfl) ?_)
    try rw [Array.toArray_toList]
    refine HHO.out.mono ?_
    rintro e y1 ⟨p5, c5, rfl, ho5, hy1⟩
    have HSC := Lib.hid (Frm.rscanO_any p5 L.length c5 L y1 (Cut.own_bs ho5) HLE.out)
    have hl1 := HLOW.out.trans (hy1.mono HLOW.out.size)
    have hz1 := Below.keepOld hy1 HZX.out
    have hr1 := Below.keepOld hy1 HROW.out
    have hd1 := HR.out.below hy1
    clear HLOW HZX HROW HR hy1 ho5 HRG HHO HRF HT HF
    have HLOW := Lib.hid hl1
    have HZX := Lib.hid hz1
    have HROW := Lib.hid hr1
    have HR := Lib.hid hd1
    clear hl1 hz1 hr1 hd1
    go_upto_region 8 with fail
    go_wp2_with fail
    refine HSC.out.mono ?_
    rintro e y2 ⟨v, rfl, _, hy2⟩
    have hl1 := HLOW.out.trans (hy2.mono HLOW.out.size)
    have hz1 := Below.keepOld hy2 HZX.out
    have hr1 := Below.keepOld hy2 HROW.out
    have hd1 := HR.out.below hy2
    clear HLOW HZX HROW HR hy2 HSC
    have HLOW := Lib.hid hl1
    have HZX := Lib.hid hz1
    have HROW := Lib.hid hr1
    have HR := Lib.hid hd1
    clear hl1 hz1 hr1 hd1
    generalize (scan L).2 = G at *
    by_cases hg : G < L.length
    · rw [if_pos hg] at hMD hME
      have g1 : decide ((G : Int) < (L.length : Int)) = true := decide_eq_true (by omega)
      have g2 : decide (G < L.length) = true := decide_eq_true hg
      have HCL := Lib.hid (HCT.out y2 G HSL.out HR.out)
      obtain ⟨D1, hD1⟩ : ∃ D1, doD d i (fD d i) (.cut G) = D1 := ⟨_, rfl⟩
      obtain ⟨E1, hE1⟩ : ∃ E1, doE d i (fD d i) (.cut G) = E1 := ⟨_, rfl⟩
      rw [hD1, hE1] at hMD HCL
      rw [hD1, hE1] at hME
      have HMD := Lib.hid hMD.symm
      have HME := Lib.hid hME.symm
      clear hD1 hE1 hMD hME HCT hg
      go_upto_region 11 with fail
      go_wp2_with (refine wpList_load_row rfl 37 _ rfl w.heap.size rfl 37 (rdA ts d) (0, 0) _ HROW.out Tryz.underlying37 rfl (infoRD _ (rdA_size HR.out.n3 HR.out.m3)) ?_)
      refine HCL.out.mono ?_
      rintro e y3 ⟨TS, rfl, hrd, hy3⟩
      have HLY := Lib.hid (HLOW.out.trans (hy3.mono HLOW.out.size))
      have HZY := Lib.hid (Below.keepOld hy3 HZX.out)
      have HRY := Lib.hid (Below.keepOld hy3 HROW.out)
      have HRD := Lib.hid hrd
      have HN3 := Lib.hid HR.out.n3
      have HM3 := Lib.hid HR.out.m3
      clear HLOW HZX HROW HR hy3 hrd HCL
      go_upto_region 12 with (refine wpList_store_row rfl 37 _ _ rfl w.heap.size (rdA TS D1) rfl rfl 37 (rdA ts d) HRY.out (infoRD _ (rdA_size HRD.out.n3 HRD.out.m3)) (by rw [rdA_size HRD.out.n3 HRD.out.m3, rdA_size HN3.out HM3.out]) (rdA_one HRD.out.n3 HRD.out.m3) ?_)
      try simp only [Act.put, List.setIfInBounds_toArray, List.set_cons_zero, List.set_cons_succ]
      have HR := Lib.hid (HRD.out.put (A := rdA TS D1) HRY.out)
      have HROW := Lib.hid (setRow_heap _ _ _ (rdA TS D1) _ _ HRY.out)
      have HZX : Hid ((y3.setRow w.heap.size (rdA TS D1)).heap[w.heap.size + 1]? = some (.cells zD 37 (0, 0))) := by show _ = _; rw [setRow_other _ _ _ _ (by omega)]; exact HZY.out
      have HLOW : Hid (Below w.heap.size w (y3.setRow w.heap.size (rdA TS D1))) := below_setRow HLY.out (Nat.le_refl _) _
      clear HRY HZY HLY HRD HN3 HM3
      generalize y3.setRow w.heap.size (rdA TS D1) = w7 at *
      skip
      -- from region 12 on: world w7, the box's TS D1, the error E1 (E1 = 0 or not)
      by_cases he : E1 = 0
      · rw [if_pos he] at HME HMD
        have hb0 : (E1 == 0) = true := by rw [he]; rfl
        subst he
        skip
        have hti : i < TS.length := by rw [HR.out.n3]; exact HI.out
        have ht : TS[i]? = some (TS[i]'hti) := List.getElem?_eq_getElem hti
        generalize TS[i]'hti = tt at *
        have HT := Lib.hid ht
        have HF := Lib.hid (HR.out.fd HI.out)
        have HRG := Lib.hid (rd_range HR.out.n3 HR.out.m3 HROW.out i HT.out HF.out)
        have HUN := Lib.hid (runits_any tt (fD D1 i) w7 (HR.out.each i tt _ HT.out HF.out).1.now)
        clear ht hti
        have HEN : Hid (MD = (if unitsAll (fD D1 i).steps = 0 then D1 else syncD D1 i (fD D1 i)) ∧ ME = (if unitsAll (fD D1 i).steps = 0 then 0 else syncE D1)) := ⟨HMD.out, HME.out⟩
        clear HMD HME
        by_cases hu : unitsAll (fD D1 i).steps = 0
        · obtain ⟨f1, f2⟩ := HEN.out
          rw [if_pos hu] at f1 f2
          rw [hu] at HUN
          clear HEN hu
          subst MD ME
          go_upto_region 12 with fail
          go_wp2_with ((with_reducible refine wpAt 51 ?_); refine wpList_load_mid_g rfl 34 _ rfl w.heap.size (i * 2) rfl (fA tt (fD D1 i)) _ HRG.out Tryz.underlying34 rfl (infoFi (fA tt (fD D1 i)) rfl) ?_)
          try rw [Array.toArray_toList]
          refine HUN.out.mono ?_
          rintro e y1 ⟨rfl, hy1⟩
          have hl1 := HLOW.out.trans (hy1.mono HLOW.out.size)
          have hz1 := Below.keepOld hy1 HZX.out
          have hr1 := Below.keepOld hy1 HROW.out
          have hd1 := HR.out.below hy1
          clear HLOW HZX HROW HR hy1 HUN HRG
          have HLOW := Lib.hid hl1
          have HZX := Lib.hid hz1
          have HROW := Lib.hid hr1
          have HR := Lib.hid hd1
          clear hl1 hz1 hr1 hd1
          have hun1 : decide ((0 : Int) < ((0 : Nat) : Int)) = false := by decide
          have hun2 : decide ((0 : Nat) < 0) = false := by decide
          go_upto_region 14 with fail
          skip
          -- the box's disk and the error are told: world w7, HROW (TS D1), HR, HZX, HLOW, E1
          go_wp2_with (first
            | refine wpList_load_row rfl 37 _ rfl w.heap.size rfl 37 (rdA TS D1) (0, 0) _ HROW.out Tryz.underlying37 rfl (infoRD _ (rdA_size HR.out.n3 HR.out.m3)) ?_
            | refine wpList_store_row rfl 37 _ _ rfl (w.heap.size + 1) (rdA TS D1) rfl rfl 37 zD HZX.out (infoRD _ (rdA_size HR.out.n3 HR.out.m3)) (by rw [rdA_size HR.out.n3 HR.out.m3]; rfl) (rdA_one HR.out.n3 HR.out.m3) ?_)
          have HS := Lib.hid (setRow_heap _ _ _ (rdA TS D1) _ _ HZX.out)
          refine bodyPost_ret (results_cell_tmp2 rfl _ _ _ _ _ _ _ rfl HS.out Tryz.underlying37 rfl (infoRD _ (rdA_size HR.out.n3 HR.out.m3))) rfl ?_
          exact ⟨TS, rfl, HR.out.put HZX.out, below_setRow HLOW.out (by omega) _⟩
        · obtain ⟨f1, f2⟩ := HEN.out
          rw [if_neg hu] at f1 f2
          have hun1 : decide ((0 : Int) < ((unitsAll (fD D1 i).steps : Nat) : Int)) = true := decide_eq_true (by omega)
          have hun2 : decide ((0 : Nat) < unitsAll (fD D1 i).steps) = true := decide_eq_true (by omega)
          generalize unitsAll (fD D1 i).steps = UU at *
          clear HEN hu
          have HSY : Hid (∀ y, RDB y TS D1 → Calls Tryz.prog 33 #[.agg (rdA TS D1), .int .i64 (i : Int)] y (ROut MD ME y)) := fun y hy => by
            rw [f1, f2]
            exact rsync_in TS D1 i HI.out (fD D1 i) HF.out y hy
          clear f1 f2
          go_upto_region 12 with fail
          go_wp2_with ((with_reducible refine wpAt 51 ?_); refine wpList_load_mid_g rfl 34 _ rfl w.heap.size (i * 2) rfl (fA tt (fD D1 i)) _ HRG.out Tryz.underlying34 rfl (infoFi (fA tt (fD D1 i)) rfl) ?_)
          try rw [Array.toArray_toList]
          refine HUN.out.mono ?_
          rintro e y1 ⟨rfl, hy1⟩
          have hl1 := HLOW.out.trans (hy1.mono HLOW.out.size)
          have hz1 := Below.keepOld hy1 HZX.out
          have hr1 := Below.keepOld hy1 HROW.out
          have hd1 := HR.out.below hy1
          clear HLOW HZX HROW HR hy1 HUN HRG
          have HLOW := Lib.hid hl1
          have HZX := Lib.hid hz1
          have HROW := Lib.hid hr1
          have HR := Lib.hid hd1
          clear hl1 hz1 hr1 hd1
          go_upto_region 13 with fail
          go_wp2_with (refine wpList_load_row rfl 37 _ rfl w.heap.size rfl 37 (rdA TS D1) (0, 0) _ HROW.out Tryz.underlying37 rfl (infoRD _ (rdA_size HR.out.n3 HR.out.m3)) ?_)
          refine (HSY.out y1 HR.out).mono ?_
          rintro e y2 ⟨T2, rfl, hr2, hy2⟩
          have HLY := Lib.hid (HLOW.out.trans (hy2.mono HLOW.out.size))
          have HZY := Lib.hid (Below.keepOld hy2 HZX.out)
          have HRY := Lib.hid (Below.keepOld hy2 HROW.out)
          have HRD := Lib.hid hr2
          have HN3 := Lib.hid HR.out.n3
          have HM3 := Lib.hid HR.out.m3
          clear HLOW HZX HROW HR hy2 hr2 HSY HT HF
          go_upto_region 14 with (refine wpList_store_row rfl 37 _ _ rfl w.heap.size (rdA T2 MD) rfl rfl 37 (rdA TS D1) HRY.out (infoRD _ (rdA_size HRD.out.n3 HRD.out.m3)) (by rw [rdA_size HRD.out.n3 HRD.out.m3, rdA_size HN3.out HM3.out]) (rdA_one HRD.out.n3 HRD.out.m3) ?_)
          try simp only [Act.put, List.setIfInBounds_toArray, List.set_cons_zero, List.set_cons_succ]
          have HR := Lib.hid (HRD.out.put (A := rdA T2 MD) HRY.out)
          have HROW := Lib.hid (setRow_heap _ _ _ (rdA T2 MD) _ _ HRY.out)
          have HZX : Hid ((y2.setRow w.heap.size (rdA T2 MD)).heap[w.heap.size + 1]? = some (.cells zD 37 (0, 0))) := by show _ = _; rw [setRow_other _ _ _ _ (by omega)]; exact HZY.out
          have HLOW : Hid (Below w.heap.size w (y2.setRow w.heap.size (rdA T2 MD))) := below_setRow HLY.out (Nat.le_refl _) _
          clear HRY HZY HLY HRD HN3 HM3
          generalize y2.setRow w.heap.size (rdA T2 MD) = w8 at *
          skip
          -- the box's disk and the error are told: world w7, HROW (T2 MD), HR, HZX, HLOW, E1
          go_wp2_with (first
            | refine wpList_load_row rfl 37 _ rfl w.heap.size rfl 37 (rdA T2 MD) (0, 0) _ HROW.out Tryz.underlying37 rfl (infoRD _ (rdA_size HR.out.n3 HR.out.m3)) ?_
            | refine wpList_store_row rfl 37 _ _ rfl (w.heap.size + 1) (rdA T2 MD) rfl rfl 37 zD HZX.out (infoRD _ (rdA_size HR.out.n3 HR.out.m3)) (by rw [rdA_size HR.out.n3 HR.out.m3]; rfl) (rdA_one HR.out.n3 HR.out.m3) ?_)
          have HS := Lib.hid (setRow_heap _ _ _ (rdA T2 MD) _ _ HZX.out)
          refine bodyPost_ret (results_cell_tmp2 rfl _ _ _ _ _ _ _ rfl HS.out Tryz.underlying37 rfl (infoRD _ (rdA_size HR.out.n3 HR.out.m3))) rfl ?_
          exact ⟨T2, rfl, HR.out.put HZX.out, below_setRow HLOW.out (by omega) _⟩
      · rw [if_neg he] at HME HMD
        have hb0 : (E1 == 0) = false := beq_eq_false_iff_ne.2 he
        have f1 := HMD.out
        have f2 := HME.out
        clear HMD HME
        subst MD ME
        go_upto_region 14 with fail
        skip
        -- the box's disk and the error are told: world w7, HROW (TS D1), HR, HZX, HLOW, E1
        go_wp2_with (first
          | refine wpList_load_row rfl 37 _ rfl w.heap.size rfl 37 (rdA TS D1) (0, 0) _ HROW.out Tryz.underlying37 rfl (infoRD _ (rdA_size HR.out.n3 HR.out.m3)) ?_
          | refine wpList_store_row rfl 37 _ _ rfl (w.heap.size + 1) (rdA TS D1) rfl rfl 37 zD HZX.out (infoRD _ (rdA_size HR.out.n3 HR.out.m3)) (by rw [rdA_size HR.out.n3 HR.out.m3]; rfl) (rdA_one HR.out.n3 HR.out.m3) ?_)
        have HS := Lib.hid (setRow_heap _ _ _ (rdA TS D1) _ _ HZX.out)
        refine bodyPost_ret (results_cell_tmp2 rfl _ _ _ _ _ _ _ rfl HS.out Tryz.underlying37 rfl (infoRD _ (rdA_size HR.out.n3 HR.out.m3))) rfl ?_
        exact ⟨TS, rfl, HR.out.put HZX.out, below_setRow HLOW.out (by omega) _⟩
    · rw [if_neg hg] at hMD hME
      have g1 : decide ((G : Int) < (L.length : Int)) = false := decide_eq_false (by omega)
      have g2 : decide (G < L.length) = false := decide_eq_false hg
      have HMD := Lib.hid hMD.symm
      have HME := Lib.hid hME.symm
      have hb0 : ((0 : Int) == 0) = true := rfl
      clear hMD hME HCT hg
      go_upto_region 12 with fail
      skip
      have hti : i < ts.length := by rw [HR.out.n3]; exact HI.out
      have ht : ts[i]? = some (ts[i]'hti) := List.getElem?_eq_getElem hti
      generalize ts[i]'hti = tt at *
      have HT := Lib.hid ht
      have HF := Lib.hid (HR.out.fd HI.out)
      have HRG := Lib.hid (rd_range HR.out.n3 HR.out.m3 HROW.out i HT.out HF.out)
      have HUN := Lib.hid (runits_any tt (fD d i) y2 (HR.out.each i tt _ HT.out HF.out).1.now)
      clear ht hti
      have HEN : Hid (MD = (if unitsAll (fD d i).steps = 0 then d else syncD d i (fD d i)) ∧ ME = (if unitsAll (fD d i).steps = 0 then 0 else syncE d)) := ⟨HMD.out, HME.out⟩
      clear HMD HME
      by_cases hu : unitsAll (fD d i).steps = 0
      · obtain ⟨f1, f2⟩ := HEN.out
        rw [if_pos hu] at f1 f2
        rw [hu] at HUN
        clear HEN hu
        subst MD ME
        go_upto_region 12 with fail
        go_wp2_with ((with_reducible refine wpAt 51 ?_); refine wpList_load_mid_g rfl 34 _ rfl w.heap.size (i * 2) rfl (fA tt (fD d i)) _ HRG.out Tryz.underlying34 rfl (infoFi (fA tt (fD d i)) rfl) ?_)
        try rw [Array.toArray_toList]
        refine HUN.out.mono ?_
        rintro e y1 ⟨rfl, hy1⟩
        have hl1 := HLOW.out.trans (hy1.mono HLOW.out.size)
        have hz1 := Below.keepOld hy1 HZX.out
        have hr1 := Below.keepOld hy1 HROW.out
        have hd1 := HR.out.below hy1
        clear HLOW HZX HROW HR hy1 HUN HRG
        have HLOW := Lib.hid hl1
        have HZX := Lib.hid hz1
        have HROW := Lib.hid hr1
        have HR := Lib.hid hd1
        clear hl1 hz1 hr1 hd1
        have hun1 : decide ((0 : Int) < ((0 : Nat) : Int)) = false := by decide
        have hun2 : decide ((0 : Nat) < 0) = false := by decide
        go_upto_region 14 with fail
        skip
        -- the box's disk and the error are told: world y2, HROW (ts d), HR, HZX, HLOW, EX
        go_wp2_with (first
          | refine wpList_load_row rfl 37 _ rfl w.heap.size rfl 37 (rdA ts d) (0, 0) _ HROW.out Tryz.underlying37 rfl (infoRD _ (rdA_size HR.out.n3 HR.out.m3)) ?_
          | refine wpList_store_row rfl 37 _ _ rfl (w.heap.size + 1) (rdA ts d) rfl rfl 37 zD HZX.out (infoRD _ (rdA_size HR.out.n3 HR.out.m3)) (by rw [rdA_size HR.out.n3 HR.out.m3]; rfl) (rdA_one HR.out.n3 HR.out.m3) ?_)
        have HS := Lib.hid (setRow_heap _ _ _ (rdA ts d) _ _ HZX.out)
        refine bodyPost_ret (results_cell_tmp2 rfl _ _ _ _ _ _ _ rfl HS.out Tryz.underlying37 rfl (infoRD _ (rdA_size HR.out.n3 HR.out.m3))) rfl ?_
        exact ⟨ts, rfl, HR.out.put HZX.out, below_setRow HLOW.out (by omega) _⟩
      · obtain ⟨f1, f2⟩ := HEN.out
        rw [if_neg hu] at f1 f2
        have hun1 : decide ((0 : Int) < ((unitsAll (fD d i).steps : Nat) : Int)) = true := decide_eq_true (by omega)
        have hun2 : decide ((0 : Nat) < unitsAll (fD d i).steps) = true := decide_eq_true (by omega)
        generalize unitsAll (fD d i).steps = UU at *
        clear HEN hu
        have HSY : Hid (∀ y, RDB y ts d → Calls Tryz.prog 33 #[.agg (rdA ts d), .int .i64 (i : Int)] y (ROut MD ME y)) := fun y hy => by
          rw [f1, f2]
          exact rsync_in ts d i HI.out (fD d i) HF.out y hy
        clear f1 f2
        go_upto_region 12 with fail
        go_wp2_with ((with_reducible refine wpAt 51 ?_); refine wpList_load_mid_g rfl 34 _ rfl w.heap.size (i * 2) rfl (fA tt (fD d i)) _ HRG.out Tryz.underlying34 rfl (infoFi (fA tt (fD d i)) rfl) ?_)
        try rw [Array.toArray_toList]
        refine HUN.out.mono ?_
        rintro e y1 ⟨rfl, hy1⟩
        have hl1 := HLOW.out.trans (hy1.mono HLOW.out.size)
        have hz1 := Below.keepOld hy1 HZX.out
        have hr1 := Below.keepOld hy1 HROW.out
        have hd1 := HR.out.below hy1
        clear HLOW HZX HROW HR hy1 HUN HRG
        have HLOW := Lib.hid hl1
        have HZX := Lib.hid hz1
        have HROW := Lib.hid hr1
        have HR := Lib.hid hd1
        clear hl1 hz1 hr1 hd1
        go_upto_region 13 with fail
        go_wp2_with (refine wpList_load_row rfl 37 _ rfl w.heap.size rfl 37 (rdA ts d) (0, 0) _ HROW.out Tryz.underlying37 rfl (infoRD _ (rdA_size HR.out.n3 HR.out.m3)) ?_)
        refine (HSY.out y1 HR.out).mono ?_
        rintro e y2 ⟨T2, rfl, hr2, hy2⟩
        have HLY := Lib.hid (HLOW.out.trans (hy2.mono HLOW.out.size))
        have HZY := Lib.hid (Below.keepOld hy2 HZX.out)
        have HRY := Lib.hid (Below.keepOld hy2 HROW.out)
        have HRD := Lib.hid hr2
        have HN3 := Lib.hid HR.out.n3
        have HM3 := Lib.hid HR.out.m3
        clear HLOW HZX HROW HR hy2 hr2 HSY HT HF
        go_upto_region 14 with (refine wpList_store_row rfl 37 _ _ rfl w.heap.size (rdA T2 MD) rfl rfl 37 (rdA ts d) HRY.out (infoRD _ (rdA_size HRD.out.n3 HRD.out.m3)) (by rw [rdA_size HRD.out.n3 HRD.out.m3, rdA_size HN3.out HM3.out]) (rdA_one HRD.out.n3 HRD.out.m3) ?_)
        try simp only [Act.put, List.setIfInBounds_toArray, List.set_cons_zero, List.set_cons_succ]
        have HR := Lib.hid (HRD.out.put (A := rdA T2 MD) HRY.out)
        have HROW := Lib.hid (setRow_heap _ _ _ (rdA T2 MD) _ _ HRY.out)
        have HZX : Hid ((y2.setRow w.heap.size (rdA T2 MD)).heap[w.heap.size + 1]? = some (.cells zD 37 (0, 0))) := by show _ = _; rw [setRow_other _ _ _ _ (by omega)]; exact HZY.out
        have HLOW : Hid (Below w.heap.size w (y2.setRow w.heap.size (rdA T2 MD))) := below_setRow HLY.out (Nat.le_refl _) _
        clear HRY HZY HLY HRD HN3 HM3
        generalize y2.setRow w.heap.size (rdA T2 MD) = w8 at *
        skip
        -- the box's disk and the error are told: world y2, HROW (T2 MD), HR, HZX, HLOW, EX
        go_wp2_with (first
          | refine wpList_load_row rfl 37 _ rfl w.heap.size rfl 37 (rdA T2 MD) (0, 0) _ HROW.out Tryz.underlying37 rfl (infoRD _ (rdA_size HR.out.n3 HR.out.m3)) ?_
          | refine wpList_store_row rfl 37 _ _ rfl (w.heap.size + 1) (rdA T2 MD) rfl rfl 37 zD HZX.out (infoRD _ (rdA_size HR.out.n3 HR.out.m3)) (by rw [rdA_size HR.out.n3 HR.out.m3]; rfl) (rdA_one HR.out.n3 HR.out.m3) ?_)
        have HS := Lib.hid (setRow_heap _ _ _ (rdA T2 MD) _ _ HZX.out)
        refine bodyPost_ret (results_cell_tmp2 rfl _ _ _ _ _ _ _ rfl HS.out Tryz.underlying37 rfl (infoRD _ (rdA_size HR.out.n3 HR.out.m3))) rfl ?_
        exact ⟨T2, rfl, HR.out.put HZX.out, below_setRow HLOW.out (by omega) _⟩
end Go.Proofs.YtkacmgfehmjijaaGreatDoor.Rk

namespace Go.Proofs.YtkacmgfehmjijaaGreatDoor.Rk
open Go.RowKit Go.Mir Go.Mir.Parts Dk Rol
open Cut

theorem xkept {base db : Nat} {d : DD} (w : World) (h : DX base db d w) (i : Nat) (hi : i < 3) :
    Calls Tryz.prog 46 #[.pointer (some ⟨db, 0, none⟩), .int .i64 (i : Int)] w fun e w' => ∃ p c, e = .returned (.slice p (fD d i).kept.length c) ∧ Bs w' p (fD d i).kept.length c (fD d i).kept ∧ Below w.heap.size w w' := by
  obtain ⟨h0, vs, h1⟩ := h
  have := kept_in w h1 i (fD_lt h1 hi)
  rw [fD_eq (fD_lt h1 hi)] at this
  refine this.mono ?_
  rintro e w' ⟨p, c, he, hr, hb⟩
  obtain ⟨p', c', e1, hs⟩ := hr.bs
  cases e1
  exact ⟨p, c, he, hs, hb⟩
theorem xused {base db : Nat} {d : DD} (w : World) (h : DX base db d w) : Calls Tryz.prog 47 #[.pointer (some ⟨db, 0, none⟩)] w fun e w' => e = .returned (.int .i64 (usedL d.fs : Int)) ∧ w = w' := by
  obtain ⟨_, vs, h1⟩ := h
  exact used_any w h1
theorem xfuse {base db : Nat} {d : DD} (w : World) (h : DX base db d w) : Calls Tryz.prog 49 #[.pointer (some ⟨db, 0, none⟩)] w fun e w' => e = .returned (.int .i64 (d.fuse : Int)) ∧ w = w' := by
  obtain ⟨_, vs, h1⟩ := h
  exact fuse_any w h1
set_option maxRecDepth 100000 in
set_option maxHeartbeats 6400000 in
theorem like20_any {base db : Nat} {d : DD} {ts : List RF} (w : World) (h : DX base db d w) (hr : RDB w ts d) :
    Calls Tryz.prog 19 #[.pointer (some ⟨db, 0, none⟩), .agg (rdA ts d)] w fun e w' => e = .returned (.bool true) ∧ Below w.heap.size w w' := by
  have HB1 := Lib.hid (Below.allocs w (.cells (rdA ts d) 37))
  have HROW : Hid ((w.alloc (.cells (rdA ts d) 37)).heap[w.heap.size]? = some (.cells (rdA ts d) 37 (0, 0))) := heap_alloc_last _ _
  have HX := Lib.hid (h.below HB1.out)
  have HR := Lib.hid (hr.below HB1.out)
  clear h hr
  go_enter Tryz.func19, Tryz.ntmps19
  go_upto_region 1 with fail
  generalize w.alloc (.cells (rdA ts d) 37) = w1 at *
  go_wp2_with fail
  go_loopw [5] (fun j wr => ∃ k : Nat, k ≤ 3 ∧ j = .int .i64 k ∧ Below w1.heap.size w1 wr) (fun j _ => 3 - (intOf j).toNat)
  case atStart => exact ⟨0, by omega, rfl, Below.refl _ _⟩
  case round =>
    obtain ⟨k, hk, rfl, hbw⟩ := hrel
    have HBW := Lib.hid hbw
    clear hbw
    by_cases hlt : k < 3
    · have hd : decide ((k : Int) < (3 : Int)) = true := decide_eq_true (by omega)
      have hd2 : decide (k < 3) = true := decide_eq_true hlt
      have hk1 : (k : Int) < 3 := by omega
      have HXR := Lib.hid (HX.out.below HBW.out)
      have HRR := Lib.hid (HR.out.below HBW.out)
      have HRW := Lib.hid (Below.keepOld HBW.out HROW.out)
      have hti : k < ts.length := by rw [HRR.out.n3]; exact hlt
      have ht : ts[k]? = some (ts[k]'hti) := List.getElem?_eq_getElem hti
      generalize ts[k]'hti = t at *
      have HT := Lib.hid ht
      have HF := Lib.hid (HRR.out.fd hlt)
      have HFA := Lib.hid (HRR.out.each k t _ HT.out HF.out).1.now
      have HNB : Hid ((fD d k).need ≤ 1000000) := by
        obtain ⟨t', f', _, a, _, _, b⟩ := HRR.out.at.file k hlt
        rw [HF.out] at a
        cases a; exact b
      have HLF : Hid (∀ w', Below wr.heap.size wr w' → w'.rangeAt w.heap.size (k * 2) (fA t (fD d k)).toList) := fun w' hb => rd_range HRR.out.n3 HRR.out.m3 (Below.keepOld hb HRW.out) k HT.out HF.out
      have HKP : Hid (∀ w', Below wr.heap.size wr w' → w'.cell? ⟨w.heap.size, k * 2, none⟩ = some (.slice t.kp (fD d k).kept.length t.kc)) := fun w' hb => by
        rw [cell_of_row _ _ _ _ _ _ (Below.keepOld hb HRW.out)]; exact (rdA_file HRR.out.n3 HRR.out.m3 k HT.out HF.out).1
      have HC4 : Hid (∀ w', Below wr.heap.size wr w' → (convert 31 9 (.slice t.kp (fD d k).kept.length t.kc)).run Tryz.prog w' = .ok (.string (S (fD d k).kept)) w') := fun w' hb => bconv (HFA.out.kept.below hb)
      clear ht hti HRW
      go_upto_region 4 with fail
      refine wp_region_eager_x (Below wr.heap.size wr) [(0, true), (1, true), (4, true), (5, true), (6, true), (7, true), (2, false), (3, true), (8, false), (9, true), (10, true), (11, true), (12, true), (13, true), (16, true), (17, true), (18, true), (19, true), (20, true), (21, true), (14, false), (15, true), (22, true), (23, true)] (by kernel_rfl) (by kernel_rfl) ?_ (eagerXOpen rfl ?_)
      · exact below_drew1 _ _
      have hy0 : Below wr.heap.size wr wr.drew := below_drew1 _ _
      repeat (first
        | ((with_reducible refine eagerXLoadAt 16 ?_); refine wpEagerX_load (by rfl) 34 _ rfl w.heap.size (k * 2) rfl (fA t (fD d k)) _ (fun w' hb => HLF.out w' hb) Tryz.underlying34 rfl (infoFi _ rfl) ?_; (try simp only [Act.put, List.setIfInBounds_toArray, List.set_cons_zero, List.set_cons_succ]); (try refine eagerXOpen rfl ?_))
        | (first | (apply wpEagerX_take; (· rfl); (· (intro w' hb'; go_simp; try with_reducible rfl)); (try simp only [Act.put, List.setIfInBounds_toArray, List.set_cons_zero, List.set_cons_succ]); (try refine eagerXOpen rfl ?_)) | (refine wpEagerX_skip (by rfl) ?_; (try simp only [Act.put, List.setIfInBounds_toArray, List.set_cons_zero, List.set_cons_succ]); (try refine eagerXOpen rfl ?_)) | (refine wpEager_off (by rfl) ?_; (try simp only [Act.put, List.setIfInBounds_toArray, List.set_cons_zero, List.set_cons_succ]); (try refine eagerXOpen rfl ?_))))
      (refine wpEagerX_op (by rfl) (fun K hK => ?_); go_simp; (refine (xread wr.drew (HXR.out.below hy0) k hlt).mono ?_; rintro e y ⟨p1, c1, rfl, ho, hb⟩; have HO1 := Lib.hid ho; have HY1 := Lib.hid (hy0.trans hb); have hsub : ∀ x, Below y.heap.size y x → Below wr.heap.size wr x := fun x hx => HY1.out.trans (hx.mono HY1.out.size); have hy1 : Below y.heap.size y y := Below.refl _ _; clear hb ho); refine Shut.out hK _ _ _ hsub (by assumption) ?_; clear hK K hsub; (try simp only [Act.put, List.setIfInBounds_toArray, List.set_cons_zero, List.set_cons_succ]); (try refine eagerXOpen rfl ?_))
      have HC1 : Hid (∀ w', Below y.heap.size y w' → (convert 31 9 (.slice p1 (fD d k).now.length c1)).run Tryz.prog w' = .ok (.string (S (fD d k).now)) w') := fun w' hb => bconv (HO1.out.below hb)
      repeat (first
        | (apply wpEagerX_take; (· rfl); (· (intro w' hb'; have hk' := (fun w' hb => HC1.out w' hb) w' hb'; go_split_ands; go_simp; try with_reducible rfl)); (try simp only [Act.put, List.setIfInBounds_toArray, List.set_cons_zero, List.set_cons_succ]); (try refine eagerXOpen rfl ?_))
        | (first | (apply wpEagerX_take; (· rfl); (· (intro w' hb'; go_simp; try with_reducible rfl)); (try simp only [Act.put, List.setIfInBounds_toArray, List.set_cons_zero, List.set_cons_succ]); (try refine eagerXOpen rfl ?_)) | (refine wpEagerX_skip (by rfl) ?_; (try simp only [Act.put, List.setIfInBounds_toArray, List.set_cons_zero, List.set_cons_succ]); (try refine eagerXOpen rfl ?_)) | (refine wpEager_off (by rfl) ?_; (try simp only [Act.put, List.setIfInBounds_toArray, List.set_cons_zero, List.set_cons_succ]); (try refine eagerXOpen rfl ?_))))
      (refine wpEagerX_op (by rfl) (fun K hK => ?_); go_simp; (refine (rholds_any t (fD d k) y (HFA.out.below HY1.out) HNB.out).mono ?_; rintro e y2 ⟨p2, c2, rfl, ho, hb⟩; have HO2 := Lib.hid (own_bs ho); have HY2 := Lib.hid (HY1.out.trans (hb.mono HY1.out.size)); have hsub : ∀ x, Below y2.heap.size y2 x → Below y.heap.size y x := fun x hx => hb.trans (hx.mono hb.size); have hy2 : Below y2.heap.size y2 y2 := Below.refl _ _; clear ho); refine Shut.out hK _ _ _ hsub (by assumption) ?_; clear hK K hsub; (try simp only [Act.put, List.setIfInBounds_toArray, List.set_cons_zero, List.set_cons_succ]); (try refine eagerXOpen rfl ?_))
      have HC2 : Hid (∀ w', Below y2.heap.size y2 w' → (convert 31 9 (.slice p2 (fD d k).now.length c2)).run Tryz.prog w' = .ok (.string (S (fD d k).now)) w') := fun w' hb => bconv (HO2.out.below hb)
      have HKP2 : Hid (∀ w', Below y2.heap.size y2 w' → w'.cell? ⟨w.heap.size, k * 2, none⟩ = some (.slice t.kp (fD d k).kept.length t.kc)) := fun w' hb => HKP.out w' (HY2.out.trans (hb.mono HY2.out.size))
      have HC42 : Hid (∀ w', Below y2.heap.size y2 w' → (convert 31 9 (.slice t.kp (fD d k).kept.length t.kc)).run Tryz.prog w' = .ok (.string (S (fD d k).kept)) w') := fun w' hb => HC4.out w' (HY2.out.trans (hb.mono HY2.out.size))
      repeat (first
        | (apply wpEagerX_take; (· rfl); (· (intro w' hb'; have hk' := (fun w' hb => HC2.out w' hb) w' hb'; go_split_ands; go_simp; try with_reducible rfl)); (try simp only [Act.put, List.setIfInBounds_toArray, List.set_cons_zero, List.set_cons_succ]); (try refine eagerXOpen rfl ?_))
        | (apply wpEagerX_take; (· rfl); (· (intro w' hb'; have hk' := (fun w' hb => HKP2.out w' hb) w' hb'; go_split_ands; go_simp; try with_reducible rfl)); (try simp only [Act.put, List.setIfInBounds_toArray, List.set_cons_zero, List.set_cons_succ]); (try refine eagerXOpen rfl ?_))
        | (apply wpEagerX_take; (· rfl); (· (intro w' hb'; have hk' := (fun w' hb => HC42.out w' hb) w' hb'; go_split_ands; go_simp; try with_reducible rfl)); (try simp only [Act.put, List.setIfInBounds_toArray, List.set_cons_zero, List.set_cons_succ]); (try refine eagerXOpen rfl ?_))
        | (first | (apply wpEagerX_take; (· rfl); (· (intro w' hb'; go_simp; try with_reducible rfl)); (try simp only [Act.put, List.setIfInBounds_toArray, List.set_cons_zero, List.set_cons_succ]); (try refine eagerXOpen rfl ?_)) | (refine wpEagerX_skip (by rfl) ?_; (try simp only [Act.put, List.setIfInBounds_toArray, List.set_cons_zero, List.set_cons_succ]); (try refine eagerXOpen rfl ?_)) | (refine wpEager_off (by rfl) ?_; (try simp only [Act.put, List.setIfInBounds_toArray, List.set_cons_zero, List.set_cons_succ]); (try refine eagerXOpen rfl ?_))))
      (refine wpEagerX_op (by rfl) (fun K hK => ?_); go_simp; (refine (xkept y2 (HXR.out.below HY2.out) k hlt).mono ?_; rintro e y3 ⟨p3, c3, rfl, ho, hb3⟩; have HO3 := Lib.hid ho; have HY3 := Lib.hid (HY2.out.trans (hb3.mono HY2.out.size)); have hsub : ∀ x, Below y3.heap.size y3 x → Below y2.heap.size y2 x := fun x hx => hb3.trans (hx.mono hb3.size); have hy3 : Below y3.heap.size y3 y3 := Below.refl _ _; clear ho); refine Shut.out hK _ _ _ hsub (by assumption) ?_; clear hK K hsub; (try simp only [Act.put, List.setIfInBounds_toArray, List.set_cons_zero, List.set_cons_succ]); (try refine eagerXOpen rfl ?_))
      have HC3 : Hid (∀ w', Below y3.heap.size y3 w' → (convert 31 9 (.slice p3 (fD d k).kept.length c3)).run Tryz.prog w' = .ok (.string (S (fD d k).kept)) w') := fun w' hb => bconv (HO3.out.below hb)
      repeat (first
        | (apply wpEagerX_take; (· rfl); (· (intro w' hb'; have hk' := (fun w' hb => HC3.out w' hb) w' hb'; go_split_ands; go_simp; try with_reducible rfl)); (try simp only [Act.put, List.setIfInBounds_toArray, List.set_cons_zero, List.set_cons_succ]); (try refine eagerXOpen rfl ?_))
        | (first | (apply wpEagerX_take; (· rfl); (· (intro w' hb'; go_simp; try with_reducible rfl)); (try simp only [Act.put, List.setIfInBounds_toArray, List.set_cons_zero, List.set_cons_succ]); (try refine eagerXOpen rfl ?_)) | (refine wpEagerX_skip (by rfl) ?_; (try simp only [Act.put, List.setIfInBounds_toArray, List.set_cons_zero, List.set_cons_succ]); (try refine eagerXOpen rfl ?_)) | (refine wpEager_off (by rfl) ?_; (try simp only [Act.put, List.setIfInBounds_toArray, List.set_cons_zero, List.set_cons_succ]); (try refine eagerXOpen rfl ?_))))
      refine eagerXEnd ?_
      clear HC1 HC2 HC3 HC4 HC42 HKP HKP2 hy0 hy1 hy2 hy3 HO1 HO2 HO3 HLF HFA HNB HT HF HXR HRR
      have HBW2 := Lib.hid (HBW.out.trans (HY3.out.mono HBW.out.size))
      clear HY1 HY2 HY3 HBW
      go_wp2_with fail
      go_roundw
      case rel => exact ⟨k + 1, by omega, by go_num, HBW2.out⟩
      case measure => simp [intOf]; omega
    · obtain rfl : k = 3 := by omega
      have hd : decide ((3 : Int) < (3 : Int)) = false := by decide
      have HXR := Lib.hid (HX.out.below HBW.out)
      have HRR := Lib.hid (HR.out.below HBW.out)
      have HRW := Lib.hid (Below.keepOld HBW.out HROW.out)
      have HB2 := Lib.hid (HB1.out.trans (HBW.out.mono HB1.out.size))
      have HLA : Hid (∀ w', Below wr.heap.size wr w' → w'.rangeAt w.heap.size 0 (rdA ts d).toList) := fun w' hb => row_rangeR (Below.keepOld hb HRW.out)
      have HC7 : Hid (∀ w', Below wr.heap.size wr w' → w'.cell? ⟨w.heap.size, 7, none⟩ = some (.int .i64 (d.fuse : Int))) := fun w' hb => (rd_cells HRR.out.n3 HRR.out.m3 (Below.keepOld hb HRW.out)).2.1
      have HC8 : Hid (∀ w', Below wr.heap.size wr w' → w'.cell? ⟨w.heap.size, 8, none⟩ = some (.bool d.down)) := fun w' hb => (rd_cells HRR.out.n3 HRR.out.m3 (Below.keepOld hb HRW.out)).2.2.1
      clear HX HR HROW HB1 HBW
      have hq1 : ((usedL d.fs : Int) == (usedL d.fs : Int)) = true := beq_self_eq_true _
      have hq2 : ((d.fuse : Int) == (d.fuse : Int)) = true := beq_self_eq_true _
      have hq3 : (d.down == d.down) = true := beq_self_eq_true _
      go_upto_region 6 with fail
      refine wp_region_eager [(0, true), (2, true), (1, false), (3, false), (4, true), (5, true), (6, true), (8, true), (9, true), (7, false), (10, true), (11, true), (12, true), (13, true), (15, true), (16, true), (14, false), (17, true), (18, true), (19, true)] (by kernel_rfl) (by kernel_rfl) (eagerOpen rfl ?_)
      have hy0 : Below wr.heap.size wr wr.drew := below_drew1 _ _
      repeat (first
        | ((with_reducible refine eagerLoadAt 3 ?_); refine wpEager_load (by rfl) 37 _ rfl w.heap.size 0 rfl (rdA ts d) _ (fun w' hb => HLA.out w' hb) Tryz.underlying37 rfl (infoRD _ (rdA_size HRR.out.n3 HRR.out.m3)) ?_; (try simp only [Act.put, List.setIfInBounds_toArray, List.set_cons_zero, List.set_cons_succ]); (try refine eagerOpen rfl ?_))
        | (first | (apply wpEager_take; (· rfl); (· (intro w' hb'; go_simp; try with_reducible rfl)); (try simp only [Act.put, List.setIfInBounds_toArray, List.set_cons_zero, List.set_cons_succ]); (try refine eagerOpen rfl ?_)) | (refine wpEager_skip (by rfl) ?_; (try simp only [Act.put, List.setIfInBounds_toArray, List.set_cons_zero, List.set_cons_succ]); (try refine eagerOpen rfl ?_)) | (refine wpEager_off (by rfl) ?_; (try simp only [Act.put, List.setIfInBounds_toArray, List.set_cons_zero, List.set_cons_succ]); (try refine eagerOpen rfl ?_))))
      (refine wpEager_op (by rfl) (fun K hK => ?_); go_simp; (refine (xused _ (HXR.out.below hy0)).mono ?_; rintro e y ⟨rfl, rfl⟩); refine Shut.out hK _ _ (by assumption) ?_; clear hK K; (try simp only [Act.put, List.setIfInBounds_toArray, List.set_cons_zero, List.set_cons_succ]); (try refine eagerOpen rfl ?_))
      (refine wpEager_op (by rfl) (fun K hK => ?_); go_simp; (refine (rused_any ts d _ (HRR.out.below hy0).at).mono ?_; rintro e y2 ⟨rfl, hb⟩; have hy2 := hy0.trans hb; clear hb); refine Shut.out hK _ _ (by assumption) ?_; clear hK K; (try simp only [Act.put, List.setIfInBounds_toArray, List.set_cons_zero, List.set_cons_succ]); (try refine eagerOpen rfl ?_))
      repeat (first
        | (first | (apply wpEager_take; (· rfl); (· (intro w' hb'; go_simp; try with_reducible rfl)); (try simp only [Act.put, List.setIfInBounds_toArray, List.set_cons_zero, List.set_cons_succ]); (try refine eagerOpen rfl ?_)) | (refine wpEager_skip (by rfl) ?_; (try simp only [Act.put, List.setIfInBounds_toArray, List.set_cons_zero, List.set_cons_succ]); (try refine eagerOpen rfl ?_)) | (refine wpEager_off (by rfl) ?_; (try simp only [Act.put, List.setIfInBounds_toArray, List.set_cons_zero, List.set_cons_succ]); (try refine eagerOpen rfl ?_)))
        | (apply wpEager_take; (· rfl); (· (intro w' hb'; have hk' := (fun w' hb => HC7.out w' hb) w' hb'; go_split_ands; go_simp; try with_reducible rfl)); (try simp only [Act.put, List.setIfInBounds_toArray, List.set_cons_zero, List.set_cons_succ]); (try refine eagerOpen rfl ?_)))
      (refine wpEager_op (by rfl) (fun K hK => ?_); go_simp; (refine (xfuse _ (HXR.out.below hy2)).mono ?_; rintro e y ⟨rfl, rfl⟩); refine Shut.out hK _ _ (by assumption) ?_; clear hK K; (try simp only [Act.put, List.setIfInBounds_toArray, List.set_cons_zero, List.set_cons_succ]); (try refine eagerOpen rfl ?_))
      repeat (first
        | (first | (apply wpEager_take; (· rfl); (· (intro w' hb'; go_simp; try with_reducible rfl)); (try simp only [Act.put, List.setIfInBounds_toArray, List.set_cons_zero, List.set_cons_succ]); (try refine eagerOpen rfl ?_)) | (refine wpEager_skip (by rfl) ?_; (try simp only [Act.put, List.setIfInBounds_toArray, List.set_cons_zero, List.set_cons_succ]); (try refine eagerOpen rfl ?_)) | (refine wpEager_off (by rfl) ?_; (try simp only [Act.put, List.setIfInBounds_toArray, List.set_cons_zero, List.set_cons_succ]); (try refine eagerOpen rfl ?_)))
        | (apply wpEager_take; (· rfl); (· (intro w' hb'; have hk' := (fun w' hb => HC8.out w' hb) w' hb'; go_split_ands; go_simp; try with_reducible rfl)); (try simp only [Act.put, List.setIfInBounds_toArray, List.set_cons_zero, List.set_cons_succ]); (try refine eagerOpen rfl ?_)))
      (refine wpEager_op (by rfl) (fun K hK => ?_); go_simp; (refine (xdown _ (HXR.out.below hy2)).mono ?_; rintro e y ⟨rfl, rfl⟩); refine Shut.out hK _ _ (by assumption) ?_; clear hK K; (try simp only [Act.put, List.setIfInBounds_toArray, List.set_cons_zero, List.set_cons_succ]); (try refine eagerOpen rfl ?_))
      repeat (first
        | (first | (apply wpEager_take; (· rfl); (· (intro w' hb'; go_simp; try with_reducible rfl)); (try simp only [Act.put, List.setIfInBounds_toArray, List.set_cons_zero, List.set_cons_succ]); (try refine eagerOpen rfl ?_)) | (refine wpEager_skip (by rfl) ?_; (try simp only [Act.put, List.setIfInBounds_toArray, List.set_cons_zero, List.set_cons_succ]); (try refine eagerOpen rfl ?_)) | (refine wpEager_off (by rfl) ?_; (try simp only [Act.put, List.setIfInBounds_toArray, List.set_cons_zero, List.set_cons_succ]); (try refine eagerOpen rfl ?_))))
      refine eagerEnd ?_
      have HB3 := Lib.hid (HB2.out.trans (hy2.mono HB2.out.size))
      clear hy0 hy2
      go_wp2_with fail
      go_ret
      exact ⟨rfl, HB3.out⟩
end Go.Proofs.YtkacmgfehmjijaaGreatDoor.Rk

namespace Go.Proofs.YtkacmgfehmjijaaGreatDoor.Rol
open Go.RowKit Go.Mir Go.Mir.Parts

/-- what a call of the statement is -/
structure ROp where
  kind : Int
  n : Int
  b : List UInt8
def ropA (o : ROp) (pb : Option Addr) (cb : Nat) : Array Value := #[.int .i64 o.kind, .int .i64 o.n, .slice pb o.b.length cb]
structure ROpAt (w : World) (cs : List Value) (o : ROp) : Prop where
  form : ∃ pb cb, cs = (ropA o pb cb).toList ∧ Bs w pb o.b.length cb o.b
  kindB : -9223372036854775808 ≤ o.kind ∧ o.kind ≤ 9223372036854775807
  nB : -9223372036854775808 ≤ o.n ∧ o.n ≤ 9223372036854775807
theorem ROpAt.below {w w' : World} {cs : List Value} {o : ROp} (h : ROpAt w cs o) (hb : Below w.heap.size w w') : ROpAt w' cs o := by
  obtain ⟨pb, cb, h1, h2⟩ := h.form
  exact ⟨⟨pb, cb, h1, h2.below hb⟩, h.kindB, h.nB⟩
structure ROps (w : World) (p : Option Addr) (n c : Nat) (os : List ROp) (rows : List (List Value)) : Prop where
  rs : Rs w p n c 3 rows
  count : os.length = n
  each : ∀ (i : Nat) r o, rows[i]? = some r → os[i]? = some o → ROpAt w r o
theorem ROps.below {w w' : World} {p : Option Addr} {n c : Nat} {os : List ROp} {rows : List (List Value)} (h : ROps w p n c os rows) (hb : Below w.heap.size w w') : ROps w' p n c os rows :=
  ⟨h.rs.below hb, h.count, fun i r o h1 h2 => (h.each i r o h1 h2).below hb⟩
theorem ROps.at {w : World} {b o n c : Nat} {os : List ROp} {rows : List (List Value)} (h : ROps w (some ⟨b, o, none⟩) n c os rows) (k : Nat) (hk : k < os.length) : ∃ pb cb, Bs w pb os[k].b.length cb os[k].b ∧ w.rangeAt b (o + k * 3) (ropA os[k] pb cb).toList := by
  have hkr : k < rows.length := by rw [h.rs.count, ← h.count]; exact hk
  obtain ⟨pb, cb, e, h1⟩ := (h.each k _ os[k] (List.getElem?_eq_getElem hkr) (List.getElem?_eq_getElem hk)).form
  refine ⟨pb, cb, h1, ?_⟩
  rw [← e]
  exact h.rs.row k hkr
theorem ropA_cell {w : World} {b : Nat} {o : ROp} {pb : Option Addr} {cb : Nat} {t : TypeId} {fr : Nat × Nat} (h : w.heap[b]? = some (.cells (ropA o pb cb) t fr)) :
    w.cell? ⟨b, 0, none⟩ = some (.int .i64 o.kind) ∧ w.cell? ⟨b, 1, none⟩ = some (.int .i64 o.n) ∧ w.cell? ⟨b, 2, none⟩ = some (.slice pb o.b.length cb) := by
  refine ⟨?_, ?_, ?_⟩ <;> (rw [cell_of_row _ _ _ _ _ _ h]; rfl)
theorem ropA_one (o : ROp) (pb : Option Addr) (cb : Nat) : (ropA o pb cb).all (·.oneCell') = true := by
  unfold ropA
  simp [Value.oneCell']
theorem infoROp (n : Nat) (h : n = 3) : (Tryz.prog.info? 44).map (·.size) = some n := by subst h; kernel_rfl
theorem zROp : ∃ Z : Array Value, (∀ w0, (zeroValue 44).run Tryz.prog w0 = .ok (.agg Z) w0) ∧ Z.size = 3 := ⟨#[.int .i64 0, .int .i64 0, .slice none 0 0], fun w0 => by kernel_rfl, by kernel_rfl⟩
/-- how many bytes the calls hold -/
def bsum : List ROp → Nat
  | [] => 0
  | o :: r => o.b.length + bsum r
theorem bsum_take_succ : ∀ (l : List ROp) (k : Nat) (h : k < l.length), bsum (l.take (k + 1)) = bsum (l.take k) + (l[k]).b.length
  | o :: r, 0, _ => by simp [bsum]
  | o :: r, k + 1, h => by
    have := bsum_take_succ r k (by simpa using h)
    simp only [List.take_succ_cons, bsum, List.getElem_cons_succ, this]; omega
theorem bsum_take_le : ∀ (l : List ROp) (k : Nat), bsum (l.take k) ≤ bsum l
  | [], _ => by simp [bsum]
  | o :: r, 0 => by simp [bsum]
  | o :: r, k + 1 => by
    have := bsum_take_le r k
    simp only [List.take_succ_cons, bsum]; omega
theorem bsum_mem : ∀ {l : List ROp} {o : ROp}, o ∈ l → o.b.length ≤ bsum l
  | x :: r, o, h => by
    rcases List.mem_cons.1 h with rfl | h
    · simp [bsum]
    · have := bsum_mem h
      simp only [bsum]; omega
set_option maxRecDepth 100000 in
set_option maxHeartbeats 800000 in
theorem small20_any (os : List ROp) (p : Option Addr) (c : Nat) (rows : List (List Value)) (w : World) (h : ROps w p os.length c os rows) (hbl : os.length + bsum os ≤ 4611686018427387904) :
    Calls Tryz.prog 5 #[.slice p os.length c] w fun e w' => e = .returned (.bool (decide (os.length + bsum os ≤ 1000))) ∧ Below w.heap.size w w' := by
  obtain ⟨Z, hz, hZ⟩ := zROp
  have HZZ := Lib.hid hZ
  have H := Lib.hid h
  have HBL := Lib.hid hbl
  have hle := h.rs.sl.le
  have hmax := h.rs.sl.max
  clear h hZ hbl
  go_enter Tryz.func5, Tryz.ntmps5
  go_wp2_with fail
  go_loopw [3, 10] (fun a j wr => ∃ k : Nat, k ≤ os.length ∧ j = .int .i64 k ∧ a = .int .i64 ((os.length + bsum (os.take k) : Nat) : Int) ∧ Below w.heap.size w wr) (fun _ j _ => os.length - (intOf j).toNat)
  case atStart => exact ⟨0, by omega, rfl, by simp [bsum], Below.refl _ _⟩
  case round =>
    obtain ⟨k, hk, rfl, rfl, hb0⟩ := hrel
    have HB0 := Lib.hid hb0
    clear hb0
    by_cases hlt : k < os.length
    · have hd : decide ((k : Int) < (os.length : Int)) = true := decide_eq_true (by omega)
      have hd2 : decide (k < os.length) = true := decide_eq_true hlt
      obtain ⟨b, o, rfl⟩ := H.out.rs.sl.addr (by omega) (by omega)
      obtain ⟨pb, cb, hbs, hrg⟩ := H.out.at k hlt
      have HRG := Lib.hid (range_below hrg HB0.out)
      have hts := bsum_take_succ os k hlt
      have hx1 := bsum_take_le os (k + 1)
      have hx2 := HBL.out
      have HTS := Lib.hid hts
      generalize hoo : os[k] = oo at *
      have HOB : Hid (os[k].b.length = oo.b.length) := by show _ = _; rw [hoo]
      clear hoo
      generalize hS : bsum (os.take k) = SS at *
      have hw1 : IntKind.i64.wrap (((os.length + SS : Nat) : Int) + (oo.b.length : Int)) = ((os.length + bsum (os.take (k + 1)) : Nat) : Int) := by rw [IntWalk.i64_in _ (by omega)]; omega
      have hw2 : IntKind.i64.wrap (((os.length : Int) + (SS : Int)) + (oo.b.length : Int)) = ((os.length + bsum (os.take (k + 1)) : Nat) : Int) := by rw [IntWalk.i64_in _ (by omega)]; omega
      have HSS : Hid (bsum (os.take k) = SS) := hS
      clear hts hx1 hx2 hbs hrg hS
      generalize bsum (os.take (k + 1)) = S2 at *
      obtain ⟨A, hA⟩ : ∃ A, A = ropA oo pb cb := ⟨_, rfl⟩
      have HOS : Hid (A.size = 3) := by show _ = _; rw [hA]; rfl
      have HOO : Hid (A.all (·.oneCell') = true) := by show _ = _; rw [hA]; exact ropA_one _ _ _
      have HOL : Hid (A.toList.length = 3) := by show _ = _; rw [Array.length_toList]; exact HOS.out
      have HNW := Lib.hid (box_new wr Z 44)
      have hbr := box_row wr Z A 44
      have HBB := Lib.hid (box_below wr Z A 44)
      have HB3 := Lib.hid (HB0.out.trans (HBB.out.mono HB0.out.size))
      rw [hA] at hbr
      obtain ⟨_, _, hc2⟩ := ropA_cell hbr
      rw [← hA] at hc2 HRG
      clear hbr hA
      go_wp2_with (first
        | ((with_reducible refine wpAt 13 ?_); refine wpList_load_mid rfl 44 _ rfl b (o + k * 3) rfl A.toList _ HRG.out Tryz.underlying44 rfl (infoROp _ HOL.out) ?_)
        | ((with_reducible refine wpStoreAt 5 ?_); refine wpList_store_row rfl 44 _ _ rfl wr.heap.size A rfl rfl 44 Z HNW.out (infoROp _ HOS.out) (HZZ.out.trans HOS.out.symm) HOO.out ?_))
      go_roundw
      case rel => exact ⟨k + 1, by omega, by go_num, by rw [bsum_take_succ os k hlt, HSS.out, HOB.out]; first | rfl | (refine congrArg (Value.int IntKind.i64) ?_; have e1 := HTS.out; omega), HB3.out⟩
      case measure => simp [intOf]; omega
    · have hd : decide ((k : Int) < (os.length : Int)) = false := decide_eq_false (by omega)
      have hd2 : decide (k < os.length) = false := decide_eq_false hlt
      obtain rfl : k = os.length := by omega
      rw [List.take_length]
      have hq : decide (((os.length + bsum os : Nat) : Int) ≤ 1000) = decide (os.length + bsum os ≤ 1000) := by rw [decide_eq_decide]; omega
      have hq2 : decide ((os.length : Int) + (bsum os : Int) ≤ 1000) = decide (os.length + bsum os ≤ 1000) := by rw [decide_eq_decide]; omega
      go_wp2_with fail
      go_ret
      exact ⟨by first | rfl | simp [hq, hq2], HB0.out⟩
end Go.Proofs.YtkacmgfehmjijaaGreatDoor.Rol

namespace Go.Proofs.YtkacmgfehmjijaaGreatDoor.bulks
open Go.Mir

theorem one_le {H : Type} (d : DataW H) : 1 ≤ Rows.uptoBulk d := by
  cases d with
  | lit l => cases l <;> simp [Rows.uptoBulk]
  | nil => simp [Rows.uptoBulk]
  | ptr d => simp [Rows.uptoBulk]
  | slice elems spare => simp [Rows.uptoBulk]
  | agg parts => simp [Rows.uptoBulk]
  | iface t d => simp [Rows.uptoBulk]
  | map entries => simp [Rows.uptoBulk]
  | held h => simp [Rows.uptoBulk]
theorem bulkAll_cons {H : Type} (d : DataW H) (r : List (DataW H)) : Rows.uptoBulkAll (d :: r) = Rows.uptoBulk d + Rows.uptoBulkAll r := by simp only [Rows.uptoBulkAll]
theorem bulkAll_nil {H : Type} : Rows.uptoBulkAll ([] : List (DataW H)) = 0 := by simp only [Rows.uptoBulkAll]
theorem length_le {H : Type} (l : List (DataW H)) : l.length ≤ Rows.uptoBulkAll l := by
  induction l with
  | nil => simp [Rows.uptoBulkAll]
  | cons x r ih => have := one_le x; simp only [Rows.uptoBulkAll, List.length_cons]; omega
theorem slice_eq {H : Type} (elems spare : List (DataW H)) : Rows.uptoBulk (.slice elems spare) = Rows.uptoBulkAll elems + Rows.uptoBulkAll spare + 1 := by
  simp only [Rows.uptoBulk]
theorem agg_eq {H : Type} (ds : List (DataW H)) : Rows.uptoBulk (.agg ds) = Rows.uptoBulkAll ds + 1 := by
  simp only [Rows.uptoBulk]
theorem dlen_le {H : Type} (d : DataW H) : dlen d + 1 ≤ Rows.uptoBulk d := by
  cases d with
  | slice elems spare => have := length_le elems; rw [slice_eq]; simp only [dlen]; omega
  | _ => exact one_le _
theorem dlens_le {H : Type} (l : List (DataW H)) : (l.map dlen).sum + l.length ≤ Rows.uptoBulkAll l := by
  induction l with
  | nil => simp [Rows.uptoBulkAll]
  | cons x r ih => have := dlen_le x; simp only [Rows.uptoBulkAll, List.length_cons, List.map_cons, List.sum_cons]; omega
theorem bound {H : Type} {l : List (DataW H)} (hk : Rows.uptoSmall H l = true) : Rows.uptoBulkAll l ≤ 1048576 := of_decide_eq_true hk
end Go.Proofs.YtkacmgfehmjijaaGreatDoor.bulks

namespace Go.Proofs.YtkacmgfehmjijaaGreatDoor.Rol
open Go.ChangeShapes Go.WideShapes Go.ChangeAt Go.RowKit Go.Mir

theorem split3 {cs : List Value} (h : cs.length = 3) : cs = (cs.drop 0).take 1 ++ (cs.drop 1).take 1 ++ (cs.drop 2).take 1 := by
  match cs, h with
  | [a, b, c], _ => rfl
set_option maxRecDepth 100000 in
theorem trod_rop {W : World} {H : Type} {enc : TypeId × Value → H} {base fuel : Nat} {held : Bool} {cs : List Value} {x : DataW H × List MemPlace}
    (h : DataW.trod enc Tryz.prog W base (fun _ => true) held fuel 44 cs = some x) :
    ∃ o : ROp, ROpAt W cs o ∧ ∃ d0 d1 d2, x.1 = .agg [d0, d1, d2] ∧ dlen d2 = o.b.length := by
  obtain ⟨xs, m, rfl, rfl, hl, hxl, hx⟩ := DataW.trod_struct Tryz.underlying44 h
  have hl' : cs.length = 3 := by rw [hl]; kernel_rfl
  have hxl' : xs.length = 3 := by rw [hxl]; rfl
  match xs, hxl' with
  | [x0, x1, x2], _ =>
    have h0 := hx 0 _ rfl
    have h1 := hx 1 _ rfl
    have h2 := hx 2 _ rfl
    obtain ⟨z0, e0, _, w0⟩ := DataW.trod_int Tryz.underlying3 h0
    obtain ⟨z1, e1, _, w1⟩ := DataW.trod_int Tryz.underlying3 h1
    obtain ⟨p3, n3, c3, l3, e3, b3, dl3⟩ := trod_bs Tryz.underlying31 Tryz.underlying5 (by kernel_rfl) h2
    obtain rfl := b3.length
    refine ⟨⟨z0, z1, l3⟩, ⟨⟨p3, c3, ?_, b3⟩, i64_bd w0, i64_bd w1⟩, x0.1, x1.1, x2.1, rfl, dl3⟩
    have hs := split3 hl'
    have e0' : (cs.drop 0).take 1 = [.int .i64 z0] := e0
    have e1' : (cs.drop 1).take 1 = [.int .i64 z1] := e1
    have e3' : (cs.drop 2).take 1 = [.slice p3 l3.length c3] := e3
    rw [e0', e1', e3'] at hs
    rw [hs]
    rfl
/-- what an op holds, and how long -/
def RopR (W : World) {H : Type} (o : ROp) (cs : List Value) (d : DataW H) : Prop := ROpAt W cs o ∧ ∃ d0 d1 d2, d = .agg [d0, d1, d2] ∧ dlen d2 = o.b.length
theorem rbulk_le {H : Type} (W : World) : ∀ (L : List (List Value × ROp)) (elems : List (DataW H)), elems.length = L.length → (∀ i (h1 : i < elems.length) (h2 : i < L.length), RopR W L[i].2 L[i].1 elems[i]) → L.length + bsum (L.map (·.2)) ≤ Rows.uptoBulkAll elems
  | [], elems, _, _ => by simp [bsum]
  | x :: L, [], h, _ => by simp at h
  | x :: L, d :: elems, h, hR => by
    obtain ⟨_, d0, d1, d2, hd, h3⟩ := hR 0 (by simp) (by simp)
    have ih := rbulk_le W L elems (by simpa using h) (fun i h1 h2 => hR (i + 1) (by simpa using h1) (by simpa using h2))
    have hd' : d = .agg [d0, d1, d2] := hd
    have h3' : dlen d2 = x.2.b.length := h3
    have b3 := bulks.dlen_le d2
    have b0 := bulks.one_le d0
    rw [bulks.bulkAll_cons, hd', bulks.agg_eq, List.length_cons]
    simp only [bulks.bulkAll_cons, bulks.bulkAll_nil, List.map_cons, bsum]
    omega
set_option maxRecDepth 100000 in
theorem trod_rops {W : World} {H : Type} {enc : TypeId × Value → H} {base fuel : Nat} {held : Bool} {cs : List Value} {x : DataW H × List MemPlace}
    (h : DataW.trod enc Tryz.prog W base (fun _ => true) held fuel 22 cs = some x) :
    ∃ p c os rows, cs = [.slice p os.length c] ∧ ROps W p os.length c os rows ∧ os.length + bsum os ≤ Rows.uptoBulk x.1 := by
  obtain ⟨p, n, c, L, hcs, hr, hdl, hL⟩ := trod_rows (size := 3) (R := fun (o : ROp) cs' d => RopR W o cs' d) Tryz.underlying22 (by kernel_rfl) (by omega) (fun m cs' y hy => by
    obtain ⟨o, ho, x0, x1, x2, hy1, hy2⟩ := trod_rop hy
    exact ⟨o, ho, x0, x1, x2, hy1, hy2⟩) h
  have hc : (L.map (·.2)).length = n := by
    have := hr.count
    simpa using this
  refine ⟨p, c, L.map (·.2), L.map (·.1), by rw [hc]; exact hcs, ⟨by rw [hc]; exact hr, rfl, fun i r o h1 h2 => ?_⟩, ?_⟩
  · simp only [List.getElem?_map, Option.map_eq_some_iff] at h1 h2
    obtain ⟨x1, hx1, rfl⟩ := h1
    obtain ⟨x2, hx2, rfl⟩ := h2
    rw [hx1] at hx2
    cases hx2
    have hlt := (List.getElem?_eq_some_iff.1 hx1).1
    rcases hL with ⟨_, hL⟩ | ⟨elems, spare, hd, hlen, hall⟩
    · subst hL; simp at hlt
    · have := hall i (by omega) hlt
      rw [List.getElem?_eq_getElem hlt] at hx1
      cases hx1
      exact this.1
  · rcases hL with ⟨_, hL⟩ | ⟨elems, spare, hd, hlen, hall⟩
    · subst hL; simp [bsum]
    · have h1 := rbulk_le W L elems hlen hall
      rw [hd, bulks.slice_eq, List.length_map]
      omega
theorem split2 {cs : List Value} (h : cs.length = 2) : cs = (cs.drop 0).take 1 ++ (cs.drop 1).take 1 := by
  match cs, h with
  | [a, b], _ => rfl
/-- a Case, that came in -/
def caseA (room : Int) (p : Option Addr) (n c : Nat) : Array Value := #[.int .i64 room, .slice p n c]
set_option maxRecDepth 100000 in
theorem open_case20 {W : World} {H : Type} {enc : TypeId × Value → H} {base : Nat} {v : Value} {d : DataW H} {ps : List MemPlace} (hval : Value.okWide Tryz.prog W .any base 24 v) (h : DataW.Trod enc Tryz.prog W 0 (fun _ => true) true 24 v d ps) :
    ∃ room p c os rows, v = .agg (caseA room p os.length c) ∧ (-9223372036854775808 ≤ room ∧ room ≤ 9223372036854775807) ∧ ROps W p os.length c os rows ∧ os.length + bsum os ≤ Rows.uptoBulk d := by
  obtain ⟨cs, rfl, hcs⟩ := okWide_struct Tryz.underlying24 hval
  obtain ⟨fuel, hf⟩ := h
  have hf' : DataW.trod enc Tryz.prog W 0 (fun _ => true) true fuel 24 cs.toList = some (d, ps) := hf
  obtain ⟨xs, m, rfl, hd, hl, hxl, hx⟩ := DataW.trod_struct Tryz.underlying24 hf'
  have hl' : cs.toList.length = 2 := by rw [hl]; kernel_rfl
  have hxl' : xs.length = 2 := by rw [hxl]; rfl
  match xs, hxl' with
  | [x0, x1], _ =>
    have h0 := hx 0 _ rfl
    have h1 := hx 1 _ rfl
    obtain ⟨z0, e0, _, w0⟩ := DataW.trod_int Tryz.underlying3 h0
    obtain ⟨p, c, os, rows, e1, hO, hb1⟩ := trod_rops h1
    have hs := split2 hl'
    have e0' : (cs.toList.drop 0).take 1 = [.int .i64 z0] := e0
    have e1' : (cs.toList.drop 1).take 1 = [.slice p os.length c] := e1
    rw [e0', e1'] at hs
    have hd' : d = .agg [x0.1, x1.1] := by
      have := congrArg Prod.fst hd
      exact this
    refine ⟨z0, p, c, os, rows, ?_, i64_bd w0, hO, ?_⟩
    · have : cs = [Value.int .i64 z0, Value.slice p os.length c].toArray := by rw [← Array.toArray_toList (xs := cs), hs]; rfl
      rw [this]; rfl
    · rw [hd', bulks.agg_eq]
      simp only [bulks.bulkAll_cons, bulks.bulkAll_nil]
      omega
end Go.Proofs.YtkacmgfehmjijaaGreatDoor.Rol

namespace Go.Proofs.YtkacmgfehmjijaaGreatDoor.Dk
open Go.RowKit Go.Mir Rol
open Frm (frame scan)

/-- a call of the statement -/
def stepD (d : DD) (o : ROp) : DD :=
  if o.kind = 0 then appD d 0 o.b else if o.kind = 1 then clrD d 0 0 else if o.kind = 2 then doD d 0 (fD d 0) (.put o.b) else if o.kind = 3 then ⟨d.fs, d.room, o.n.toNat, d.down⟩ else if o.kind = 4 then opnD (crashD [o.n] d) 0 else d
def stepE (d : DD) (o : ROp) : Int :=
  if o.kind = 0 then appE d 0 o.b else if o.kind = 1 then clrE d 0 0 else if o.kind = 2 then doE d 0 (fD d 0) (.put o.b) else if o.kind = 3 then 0 else if o.kind = 4 then opnE (crashD [o.n] d) 0 else 0
theorem FewD.fd {d : DD} {N i : Nat} (h : FewD d N) : (fD d i).steps.length ≤ N := by
  unfold fD
  cases he : d.fs[i]? with
  | none => exact Nat.zero_le _
  | some f => exact h f (List.mem_of_getElem? he)
theorem FewD.app {d : DD} {N : Nat} (h : FewD d N) (i : Nat) (b : List UInt8) : FewD (appD d i b) (N + 1) := by
  unfold appD
  split
  · exact h.mono (by omega)
  · split
    · exact (h.doD h.fd).syncD
    · exact h.doD h.fd
theorem FewD.clr {d : DD} {N : Nat} (h : FewD d N) (i m : Nat) : FewD (clrD d i m) (N + 1) := by
  unfold clrD
  split
  · exact (h.doD h.fd).syncD
  · exact h.doD h.fd
theorem FewD.end {d : DD} {N : Nat} (h : FewD d N) (i : Nat) : FewD (endD d i) N := by
  unfold endD
  split
  · exact h
  · exact h.syncD
theorem FewD.opn {d : DD} {N : Nat} (h : FewD d N) (i : Nat) : FewD (opnD d i) (N + 1) := by
  unfold opnD
  split
  · exact h.mono (by omega)
  · unfold mendD
    split
    · split
      · exact (h.doD h.fd).end i
      · exact h.doD h.fd
    · exact (h.end i).mono (by omega)
theorem FewD.crash {d : DD} (us : List Int) : FewD (crashD us d) 0 := fun f hf => by
  have := crF_few us d.fs 0 f hf
  omega
theorem FewD.step {d : DD} {N : Nat} (h : FewD d N) (o : ROp) : FewD (stepD d o) (N + 1) := by
  unfold stepD
  split
  · exact h.app 0 o.b
  · split
    · exact h.clr 0 0
    · split
      · exact h.doD h.fd
      · split
        · exact fun f hf => Nat.le_succ_of_le (h f hf)
        · split
          · exact ((FewD.crash [o.n]).opn 0).mono (by omega)
          · exact h.mono (by omega)
/-- an Open behind a crash is OK -/
theorem open_crash {us : List Int} {d : DD} {i : Nat} (hi : i < (crashD us d).fs.length) (hok : (fD (crashD us d) i).Ok) (hu : usedL (crashD us d).fs ≤ d.room) : opnE (crashD us d) i = 0 := by
  have hdn : (crashD us d).down = false := rfl
  have hfz : (crashD us d).fuse = 0 := rfl
  have hrm : (crashD us d).room = d.room := rfl
  have hst : (fD (crashD us d) i).steps.length ≤ 0 := (FewD.crash us).fd
  have hfe : (crashD us d).fs[i] = fD (crashD us d) i := fD_eq hi
  generalize crashD us d = D at *
  have hs0 : (fD D i).steps = [] := List.length_eq_zero_iff.1 (by omega)
  have hbn : ∀ E : DD, E.fuse = 0 → E.burn = E := fun E h => by unfold DD.burn; rw [if_neg (by omega)]
  have hsy : ∀ E : DD, E.fuse = 0 → E.down = false → syncE E = 0 := fun E h1 h2 => by
    unfold syncE
    rw [if_neg (by rw [h2]; decide), hbn E h1, if_neg (by rw [h2]; decide)]
  have hen : ∀ E : DD, E.fuse = 0 → E.down = false → endE E i = 0 := fun E h1 h2 => by
    unfold endE
    split
    · rfl
    · exact hsy E h1 h2
  unfold opnE
  rw [if_neg (by rw [hdn]; decide)]
  unfold mendE
  split
  · rename_i hg
    have hnd : ¬ D.room < usedL D.fs - (fD D i).need + max (fD D i).need ((St.cut (scan (fD D i).now).2).size (fD D i).now.length) := by
      have h1 : (St.cut (scan (fD D i).now).2).size (fD D i).now.length = (scan (fD D i).now).2 := rfl
      have h2 := hok.le
      have h3 := usedL_mem hi
      rw [hfe] at h3
      omega
    have hD : doD D i (fD D i) (.cut (scan (fD D i).now).2) = (setF D i ((fD D i).take (.cut (scan (fD D i).now).2))) := by
      unfold doD
      rw [if_neg (by rw [hdn]; decide), if_neg hnd, hbn _ (by exact hfz)]
    have hE : doE D i (fD D i) (.cut (scan (fD D i).now).2) = 0 := by
      unfold doE
      rw [if_neg (by rw [hdn]; decide), if_neg hnd, hbn _ (by exact hfz), if_neg (by show ¬ D.down = true; rw [hdn]; decide)]
    rw [if_pos hE, hD]
    exact hen _ hfz hdn
  · exact hen _ hfz hdn
end Go.Proofs.YtkacmgfehmjijaaGreatDoor.Dk

namespace Go.Proofs.YtkacmgfehmjijaaGreatDoor.Rol
open Go.RowKit Go.Mir Go.Mir.Parts Dk
open Frm (frame scan)
open Cut (Ls LsO LsA)

theorem xnew (room : Nat) (w : World) (h : 1 ≤ room ∧ room ≤ 65536) :
    Calls Tryz.prog 4 #[.int .i64 (room : Int)] w fun e w' => ∃ db, e = .returned (.tuple #[.pointer (some ⟨db, 0, none⟩), .int .i64 0]) ∧ DX w.heap.size db (DD.new room) w' ∧ Below w.heap.size w w' := by
  refine (new_any room w h).mono ?_
  rintro e w' ⟨db, vs, he, hd, hb⟩
  exact ⟨db, he, ⟨hb.size, vs, hd⟩, hb⟩
theorem xarm {base db : Nat} {d : DD} (w : World) (h : DX base db d w) (n : Int) (hn : n ≤ 9223372036854775807) :
    Calls Tryz.prog 15 #[.pointer (some ⟨db, 0, none⟩), .int .i64 n] w fun e w' => e = .returned (.tuple #[]) ∧ DX base db ⟨d.fs, d.room, n.toNat, d.down⟩ w' ∧ KT base w w' := by
  obtain ⟨h0, vs, h1⟩ := h
  refine (arm_any w h1 n hn).mono ?_
  rintro e w' ⟨he, hd, ht⟩
  exact ⟨he, DX.left h1 h0 (LeftD.row h1 hd ht)⟩
theorem xcrash {base db : Nat} {d : DD} (w : World) (h : DX base db d w) (us : List Int) (p : Option Addr) (c : Nat) (hN : Ns w p us.length c us) (hap : ∀ a, p = some a → ¬ DTy base w a.block ∧ a.block < w.heap.size) :
    Calls Tryz.prog 17 #[.pointer (some ⟨db, 0, none⟩), .slice p us.length c] w fun e w' => e = .returned (.tuple #[]) ∧ DX base db (crashD us d) w' ∧ KT base w w' := by
  obtain ⟨h0, vs, h1⟩ := h
  refine (crash_any w h1 h0 us p c hN (fun a ha => ⟨fun ho => (hap a ha).1 (dat_dty h1 _ ho), (hap a ha).2⟩)).mono ?_
  rintro e w' ⟨he, hl⟩
  exact ⟨he, DX.left h1 h0 hl⟩
theorem xcrash0 {base db : Nat} {d : DD} (w : World) (h : DX base db d w) :
    Calls Tryz.prog 17 #[.pointer (some ⟨db, 0, none⟩), .slice none 0 0] w fun e w' => e = .returned (.tuple #[]) ∧ DX base db (crashD [] d) w' ∧ KT base w w' :=
  xcrash w h [] none 0 ⟨Sl.nil _ _, rfl, fun x hx => (nomatch hx)⟩ (fun a ha => by cases ha)
/-! ### plain -/
theorem open_up (room : Nat) (i : Nat) (hi : i < 3) (x : List UInt8) (h : x.length ≤ room) : opnE (dI room 0 false i (fS x)) i = 0 ∧ opnD (dI room 0 false i (fS x)) i = dI room 0 false i (fS (x.take (scan x).2)) := by
  unfold opnE opnD
  rw [if_neg (show ¬ (dI room 0 false i (fS x)).down = true from Bool.false_ne_true), if_neg (show ¬ (dI room 0 false i (fS x)).down = true from Bool.false_ne_true)]
  rcases mend_up room 0 i hi x h with ⟨a, f', b, hf⟩ | ⟨_, _, hf⟩
  · rw [hf rfl] at b
    exact ⟨a, b⟩
  · exact absurd rfl hf
theorem app_zero (room : Nat) (i : Nat) (hi : i < 3) (x b : List UInt8) (hb : 1 ≤ b.length) (h : x.length + (8 + b.length) ≤ room) :
    appE (dI room 0 false i (fS x)) i b = 0 ∧ appD (dI room 0 false i (fS x)) i b = dI room 0 false i (fS (x ++ frame b)) := by
  rcases app_up room 0 i hi x b hb h with ⟨a, c, _, _⟩ | ⟨_, _, hf⟩
  · exact ⟨a, c⟩
  · omega
theorem few_dI (room fuse : Nat) (down : Bool) (i : Nat) (hi : i < 3) (x : List UInt8) : (fD (dI room fuse down i (fS x)) i).steps.length + 1 ≤ 4398046511104 := by
  rw [fD_dI _ _ _ _ hi]; show 0 + 1 ≤ _; omega
set_option maxRecDepth 100000 in
set_option maxHeartbeats 1600000 in
theorem alive20_any (w : World) (hE : Rdr.EType w) :
    Calls Tryz.prog 6 #[] w fun e w' => e = .returned (.bool true) ∧ Below w.heap.size w w' := by
  have HE := Lib.hid hE
  have HN : Hid (Calls Tryz.prog 4 #[.int .i64 100] w fun e w' => ∃ db, e = .returned (.tuple #[.pointer (some ⟨db, 0, none⟩), .int .i64 0]) ∧ DX w.heap.size db (DD.new 100) w' ∧ Below w.heap.size w w') := xnew 100 w (by omega)
  have HG : Hid (0 < w.heap.size) := hE.lt
  have hs7 : scan (frame [7]) = ([[7]], (frame [7]).length) := by
    have := scan_all [[7]] (fun x hx => by rw [List.mem_singleton] at hx; subst hx; exact ⟨by decide, by decide⟩)
    simpa using this
  have HS7 := Lib.hid hs7
  clear hE hs7
  go_enter Tryz.func6, Tryz.ntmps6
  go_wp2_with fail
  refine HN.out.mono ?_
  rintro e w1 ⟨db, rfl, hd1, hb1⟩
  rw [new_dI 100 0] at hd1
  have HD1 := Lib.hid hd1
  have HB1 := Lib.hid hb1
  have ho := open_any w1 (HE.out.below hb1 HE.out.lt) hd1 (i := 0) (by omega) (few_dI _ _ _ _ (by omega) _)
  obtain ⟨o1, o2⟩ := open_up 100 0 (by omega) [] (by decide)
  have HO := Lib.hid ho
  have HO1 := Lib.hid o1
  have HO2 := Lib.hid o2
  clear hd1 hb1 ho o1 o2 HN
  go_wp2_with fail
  refine HO.out.mono ?_
  rintro e w2 ⟨hd2, hk2, hs2⟩
  rw [HO1.out] at hs2
  rw [HO2.out, List.take_nil] at hd2
  rcases hs2 with ⟨_, rb, rfl, hr2⟩ | ⟨hc, _⟩
  rotate_left
  · exact absurd rfl hc
  have HD2 : Hid (DX w.heap.size db (dI 100 0 false 0 (fS [])) w2) := hd2
  have HR2 := Lib.hid hr2
  have HB2 := Lib.hid (HB1.out.trans (hk2.below HB1.out.size))
  clear hd2 hk2 hr2 HO HO1 HO2
  have hal : Below w2.heap.size w2 (w2.alloc (.cells #[.int .u8 7] 5)) := Below.allocs _ _
  have HA3 := Lib.hid (HB2.out.trans (hal.mono HB2.out.size))
  have hbs : Bs (w2.alloc (.cells #[.int .u8 7] 5)) (some ⟨w2.heap.size, 0, none⟩) 1 1 [7] := Bs.made _ _ _ _ _ _ rfl rfl (by omega)
  have hap := append_any _ (HD2.out.below hal) (HR2.out.below hal) (by omega) _ _ _ [7] hbs (by omega) (few_dI _ _ _ _ (by omega) _)
  obtain ⟨p1, p2⟩ := app_zero 100 0 (by omega) [] [7] (by decide) (by decide)
  rw [p1, p2] at hap
  have HAP := Lib.hid hap
  have HR3 := Lib.hid (HR2.out.below hal)
  clear hap p1 p2 hbs hal
  go_wp2_with fail
  refine HAP.out.mono ?_
  rintro e w4 ⟨rfl, hd4, hk4⟩
  have HD4 := Lib.hid hd4
  have HB4 := Lib.hid (HA3.out.trans (hk4.below HA3.out.size))
  clear hd4 hk4 HAP
  go_wp2_with fail
  refine (xcrash0 w4 HD4.out).mono ?_
  rintro e w5 ⟨rfl, hd5, hk5⟩
  rw [crash_up _ _ _ _ _ (by omega)] at hd5
  have HD5 := Lib.hid hd5
  have HB5 := Lib.hid (HB4.out.trans (hk5.below HB4.out.size))
  have ho := open_any w5 (HE.out.below HB5.out HE.out.lt) hd5 (i := 0) (by omega) (few_dI _ _ _ _ (by omega) _)
  obtain ⟨o1, o2⟩ := open_up 100 0 (by omega) ([] ++ frame [7]) (by rw [List.nil_append, Frm.frame_length]; decide)
  rw [List.nil_append, HS7.out, List.take_length] at o2
  rw [List.nil_append] at o1 ho
  have HO := Lib.hid ho
  have HO1 := Lib.hid o1
  have HO2 := Lib.hid o2
  clear hd5 hk5 ho o1 o2
  go_wp2_with fail
  refine HO.out.mono ?_
  rintro e w6 ⟨hd6, hk6, hs6⟩
  rw [HO1.out] at hs6
  rw [HO2.out] at hd6
  rcases hs6 with ⟨_, rb2, rfl, hr6⟩ | ⟨hc, _⟩
  rotate_left
  · exact absurd rfl hc
  have HB6 := Lib.hid (HB5.out.trans (hk6.below HB5.out.size))
  have hlen := len_any w6 (HE.out.below HB6.out HE.out.lt) hd6 hr6 (by omega)
  rw [fD_dI _ _ _ _ (by omega), show (fS (frame [7])).now = frame [7] from rfl, HS7.out] at hlen
  have HL := Lib.hid hlen
  clear hd6 hk6 hr6 hlen HO HO1 HO2 HS7
  go_wp2_with fail
  refine HL.out.mono ?_
  rintro e w7 ⟨rfl, hb7⟩
  have HB7 := Lib.hid (HB6.out.trans (hb7.mono HB6.out.size))
  clear hb7 HL
  go_wp2_with fail
  go_ret
  exact ⟨rfl, HB7.out⟩
end Go.Proofs.YtkacmgfehmjijaaGreatDoor.Rol

namespace Go.Proofs.YtkacmgfehmjijaaGreatDoor.R02
open Go.RowKit Go.Mir

theorem infoB : (Tryz.prog.info? 5).map (fun i => (i.zero, i.size, i.bytes)) = some (some (.int .u8 0), 1, 1) := by kernel_rfl
theorem take_snoc {α : Type} (l : List α) (k : Nat) (h : k < l.length) : l.take (k + 1) = l.take k ++ [l[k]] := by
  rw [List.take_succ_eq_append_getElem h]
def total (ls : List (List UInt8)) : Nat := (ls.map List.length).sum
theorem total_take (ls : List (List UInt8)) (k : Nat) (h : k < ls.length) : total (ls.take (k + 1)) = total (ls.take k) + ls[k].length := by
  rw [take_snoc ls k h]; simp only [total, List.map_append, List.sum_append, List.map_cons, List.map_nil, List.sum_cons, List.sum_nil, Nat.add_zero]
theorem total_le (ls : List (List UInt8)) (k : Nat) : total (ls.take k) ≤ total ls := by
  have := congrArg total (List.take_append_drop k ls)
  simp only [total, List.map_append, List.sum_append] at this ⊢
  omega
theorem total_flatten (ls : List (List UInt8)) : ls.flatten.length = total ls := by simp [total, List.length_flatten]

end Go.Proofs.YtkacmgfehmjijaaGreatDoor.R02

namespace Go.Proofs.YtkacmgfehmjijaaGreatDoor.Rol
open Go.RowKit Go.Mir Dk
open Frm (frame scan frame_length)

/-- the disk behind bodies of which those of T were answered OK, and L is that in which it went down (none: none) -/
structure KS (R i : Nat) (T : List (List UInt8)) (L : List UInt8) (D : DD) : Prop where
  st : (L = [] ∧ ∃ fz, D = dI R fz false i (fS (T.flatMap frame))) ∨ ((1 ≤ L.length ∧ L.length ≤ 65536) ∧ D = dI R 0 true i ⟨T.flatMap frame, T.flatMap frame ++ frame L, [.put (frame L)], (T.flatMap frame).length + (frame L).length⟩)
  ok : ∀ x ∈ T, 1 ≤ x.length ∧ x.length ≤ 65536
theorem KS.few {R i : Nat} {T : List (List UInt8)} {L : List UInt8} {D : DD} (h : KS R i T L D) (hi : i < 3) : (fD D i).steps.length + 1 ≤ 4398046511104 := by
  rcases h.st with ⟨_, fz, rfl⟩ | ⟨_, rfl⟩
  · rw [fD_dI _ _ _ _ hi]; show 0 + 1 ≤ _; omega
  · rw [fD_dI _ _ _ _ hi]; show 1 + 1 ≤ _; omega
theorem ks_step {R i : Nat} {T : List (List UInt8)} {L b : List UInt8} {D : DD} (hi : i < 3) (h : KS R i T L D) (h1 : 1 ≤ b.length) (h2 : b.length ≤ 65536) (hr : (T.flatMap frame).length + (8 + b.length) ≤ R) :
    (L = [] ∧ appE D i b = 0 ∧ KS R i (T ++ [b]) [] (appD D i b)) ∨ (L = [] ∧ appE D i b = 18 ∧ KS R i T b (appD D i b)) ∨ (1 ≤ L.length ∧ appE D i b = 18 ∧ appD D i b = D) := by
  rcases h.st with ⟨hL, fz, hD⟩ | ⟨hL, hD⟩
  · subst hD
    rcases app_up R fz i hi (T.flatMap frame) b h1 hr with ⟨a, c, _, _⟩ | ⟨a, c, _⟩
    · refine .inl ⟨hL, a, .inl ⟨rfl, fz - 2, ?_⟩, fun x hx => ?_⟩
      · rw [c, List.flatMap_append, List.flatMap_singleton]
      · rcases List.mem_append.1 hx with hx | hx
        · exact h.ok x hx
        · rw [List.mem_singleton] at hx; subst hx; exact ⟨h1, h2⟩
    · exact .inr (.inl ⟨hL, a, .inr ⟨⟨h1, h2⟩, c⟩, h.ok⟩)
  · have hd : D.down = true := by rw [hD]; rfl
    obtain ⟨a, c⟩ := app_down i b h1 hd
    exact .inr (.inr ⟨hL.1, a, c⟩)
theorem ks_crash {R i : Nat} {T : List (List UInt8)} {L : List UInt8} {D : DD} (us : List Int) (hi : i < 3) (h : KS R i T L D) :
    ∃ y, crashD us D = dI R 0 false i (fS y) ∧ y.length ≤ (T.flatMap frame).length + (8 + L.length) ∧ ((scan y).1 = T ∨ (1 ≤ L.length ∧ (scan y).1 = T ++ [L])) := by
  rcases h.st with ⟨hL, fz, hD⟩ | ⟨hL, hD⟩
  · subst hD
    refine ⟨T.flatMap frame, crash_up us _ _ _ _ hi _, by omega, .inl ?_⟩
    rw [scan_all T h.ok]
  · subst hD
    obtain ⟨u, hu, hc⟩ := crash_put us R 0 true i hi (T.flatMap frame) (frame L) ((T.flatMap frame).length + (frame L).length)
    refine ⟨_, hc, ?_, ?_⟩
    · rw [List.length_append, List.length_take]
      have := frame_length L
      omega
    · rcases scan_more T h.ok L hL.1 hL.2 u hu with h1 | h1
      · exact .inl h1
      · exact .inr ⟨hL.1, h1⟩
theorem tsum_snoc (T : List (List UInt8)) (b : List UInt8) : ((T ++ [b]).flatMap frame).length = (T.flatMap frame).length + (8 + b.length) := by
  rw [List.flatMap_append, List.length_append, List.flatMap_singleton, frame_length]
theorem total_take_succ (ls : List (List UInt8)) (k : Nat) (h : k < ls.length) : R02.total (ls.take (k + 1)) = R02.total (ls.take k) + (ls[k]).length := by
  unfold R02.total
  rw [List.take_succ_eq_append_getElem h, List.map_append, List.sum_append]
  simp
theorem slast_none (w : World) (g : Nat) : Bs w (some ⟨g, 0, none⟩) 0 0 [] := ⟨rfl, Nat.le_refl _, by omega, fun h => (by cases h), fun a ha j u hu => by simp [bytesV] at hu⟩
theorem own_type {w : World} {b e size n : Nat} {v : Value} {xs : List Value} (h : w.ownsRow b e size v n xs) : ∀ k M t fr, v.ownBlock = some k → w.heap[k]? = some (.cells M t fr) → t = e := by
  intro k M t fr hk hm
  rcases h.2 with ⟨rfl, _⟩ | ⟨g, cap, cur, rfl, _, hg, _⟩
  · simp [Value.ownBlock] at hk
  · simp [Value.ownBlock] at hk
    subst hk
    rw [hg] at hm
    injection hm with e1
    injection e1 with _ e2
    exact e2.symm
theorem DX.turn {base db : Nat} {d : DD} {S : Nat → Prop} {w w' : World} (h : DX base db d w) (ht : Turns S w w') (hS : ∀ k M t fr, S k → w.heap[k]? = some (.cells M t fr) → t ≠ 67 ∧ t ≠ 108 ∧ t ≠ 5) : DX base db d w' := by
  obtain ⟨h0, vs, h1⟩ := h
  have hno : ∀ k, DOwn db vs k → ¬ S k := fun k hk hs => by
    obtain ⟨_, M, t, fr, e1, e2⟩ := dat_dty h1 k hk
    have := hS k M t fr hs e1
    rcases e2 with e2 | e2
    · exact this.1 e2
    · exact this.2.1 e2
  refine ⟨Nat.le_trans h0 ht.size, vs, ht.keep h1.row (hno db (.inl rfl)), h1.low, h1.n3, h1.m3, fun i v f hv hf => ?_, h1.apart, h1.room1, h1.fuse1, h1.used, h1.few⟩
  exact (h1.each i v f hv hf).touch ht (fun k M fr hk hs => (hS k M _ fr hs hk).2.2 rfl) (fun k hk => hno k (.inr ⟨v, List.mem_of_getElem? hv, hk⟩))
theorem drop_last {T : List (List UInt8)} {L : List UInt8} : (T ++ [L]).take T.length = T := List.take_left
end Go.Proofs.YtkacmgfehmjijaaGreatDoor.Rol
