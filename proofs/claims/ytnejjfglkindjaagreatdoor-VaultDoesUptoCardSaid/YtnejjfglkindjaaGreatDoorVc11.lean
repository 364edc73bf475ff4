/- PARTS, JOINED: THE REFERENCE OF ROLLS: Open. Conditions: sizes that fit. THE REFERENCE'S VAULTS: a number's bytes; the row. Conditions: none. THE REFERENCE'S VAULTS: a part of the row loaded, and stored. Conditions: none. THE REFERENCE'S VAULTS: Put. Conditions: at most 3000 bytes in a record. PLAIN PART OF SlotKeeps: snapshots put while a fuse burns, and what a crash leaves. Conditions: none. PLAIN PART OF THE VAULT LAWS: no call takes more than there is room for. Conditions: none. LAYER 21: the statement's own words: alive; a disk made, armed, crashed. Conditions: the laid cell of errors.errorType. THE CALLS OF A STATEMENT ON SLOTS, as they lie in memory; are there not too many? Conditions: a sum that fits. THE LAW OF SLOTS: what a call leaves, and its boxes. Conditions: none. -/
import Derived.Test.YtnejjfglkindjaaGreatDoorVc1
import Derived.Test.YtnejjfglkindjaaGreatDoorVc2
import Derived.Test.YtnejjfglkindjaaGreatDoorVc3
import Derived.Test.YtnejjfglkindjaaGreatDoorVc4
import Derived.Test.YtnejjfglkindjaaGreatDoorVc5
import Derived.Test.YtnejjfglkindjaaGreatDoorVc6
import Derived.Test.YtnejjfglkindjaaGreatDoorVc7
import Derived.Test.YtnejjfglkindjaaGreatDoorVc8
import Derived.Test.YtnejjfglkindjaaGreatDoorVc9
import Derived.Test.YtnejjfglkindjaaGreatDoorVc10
namespace Go.Proofs.YtnejjfglkindjaaGreatDoor.Rk
open Go.RowKit Go.Mir Go.Mir.Parts Dk Rol
open Frm (frame scan)
open Cut (Ls LsO)
theorem wpList_load_mid_g {P : Program} {ops : Array Oper} {rest : List Oper} {op : Oper} {a : Act} {w : World} {Q : Exit → Act → World → Prop} (hw : Region.wanted op (yielded ops a.tmps) = true) (ty : TypeId) (x : Operand) (ho : op.op = .load ty x)
  (b o : Nat) (hx : a.eval x = .pointer (some ⟨b, o, none⟩)) (M : Array Value) (d : TypeDesc) (hc : w.rangeAt b o M.toList)
  (hu : P.underlying ty = some d) (hd : d.isRow = true) (hi : (P.info? ty).map (·.size) = some M.size)
  (h : wpList P ops Q rest (a.put op.dst (.agg M)) w) : wpList P ops Q (op :: rest) a w :=
 wpList_unguard hw (wpList_load_mid rfl ty x ho b o hx M.toList d hc hu hd (by rw [Array.length_toList]; exact hi) (by rw [Array.toArray_toList]; exact h))
set_option maxRecDepth 100000 in
set_option maxHeartbeats 6400000 in
theorem ropen_any (ts : List RF) (d : DD) (i : Nat) (hi : i < 3) (w : World) (h : RDB w ts d) (hur : usedL d.fs ≤ d.room) (hfew : (fD d i).steps.length + 1 ≤ 2199023255552) :
  Calls Tryz.prog 51 #[.agg (rdA ts d), .int .i64 (i : Int)] w (ROut (opnD d i) (opnE d i) w) := by
 have hz := zeroD
 obtain ⟨q1, q2, q3, q4⟩ := boxes w ts d
 have HROW := Lib.hid q1
 have HZX := Lib.hid q2
 have HLOW := Lib.hid q4
 have HR := Lib.hid (h.below q4)
 have HI := Lib.hid hi
 have HUR := Lib.hid hur
 have HFEW := Lib.hid hfew
 obtain ⟨hc6, _, hc8, hfz⟩ := (RQ.of (base := 0) h q4 (Nat.zero_le _) q1).cells
 have hrm := h.room1.1
 have e1 : ((d.room : Int) == 0) = false := by rw [beq_eq_false_iff_ne]; omega
 have d1 : decide ((i : Int) < 0) = false := decide_eq_false (by omega)
 have d2 : decide ((2 : Int) < (i : Int)) = false := decide_eq_false (by omega)
 have d3 : decide (2 < i) = false := decide_eq_false (by omega)
 have hi3i : (i : Int) < 3 := by omega
 clear q1 q2 q3 q4 h hi hur hfew hrm
 obtain ⟨MD, hMD⟩ : ∃ MD, opnD d i = MD := ⟨_, rfl⟩
 obtain ⟨ME, hME⟩ : ∃ ME, opnE d i = ME := ⟨_, rfl⟩
 rw [hMD, hME]
 unfold opnD at hMD
 unfold opnE at hME
 go_enter Tryz.func51, Tryz.ntmps51
 go_upto_region 1 with fail
 generalize (w.alloc (.cells (rdA ts d) 65)).alloc (.cells zD 65) = w2 at *
 go_upto_region 5 with fail
 clear hc6
 cases hdn : d.down with
 | true =>
  rw [if_pos hdn] at hMD hME
  rw [hdn] at hc8
  clear hdn
  subst MD ME
  go_upto_region 6 with fail
  clear hc8 hfz
  skip
  go_wp2_with (first
   | refine wpList_load_row rfl 65 _ rfl w.heap.size rfl 65 (rdA ts d) (0, 0) _ HROW.out Tryz.underlying65 rfl (infoRD _ (rdA_size HR.out.n3 HR.out.m3)) ?_
   | refine wpList_store_row rfl 65 _ _ rfl (w.heap.size + 1) (rdA ts d) rfl rfl 65 zD HZX.out (infoRD _ (rdA_size HR.out.n3 HR.out.m3)) (by rw [rdA_size HR.out.n3 HR.out.m3]; rfl) (rdA_one HR.out.n3 HR.out.m3) ?_)
  have HS := Lib.hid (setRow_heap _ _ _ (rdA ts d) _ _ HZX.out)
  refine bodyPost_ret (results_cell_tmp2 rfl _ _ _ _ _ _ _ rfl HS.out Tryz.underlying65 rfl (infoRD _ (rdA_size HR.out.n3 HR.out.m3))) rfl ?_
  exact ⟨ts, rfl, HR.out.put HZX.out, below_setRow HLOW.out (by omega) _⟩
 | false =>
  rw [if_neg (by rw [hdn]; decide)] at hMD hME
  rw [hdn] at hc8
  clear hdn
  go_upto_region 7 with fail
  clear hc8 hfz
  unfold mendD at hMD
  unfold mendE at hME
  have hti : i < ts.length := by rw [HR.out.n3]; exact HI.out
  have ht : ts[i]? = some (ts[i]'hti) := List.getElem?_eq_getElem hti
  generalize ts[i]'hti = t at *
  have HT := Lib.hid ht
  have HF := Lib.hid (HR.out.fd HI.out)
  have HRF := Lib.hid (HR.out.each i t _ HT.out HF.out).1.now
  have HNB : Hid ((fD d i).need ≤ 1000000) := by
   obtain ⟨t', f', _, a, _, _, b⟩ := HR.out.at.file i HI.out
   rw [HF.out] at a
   cases a; exact b
  have HRG := Lib.hid (rd_range HR.out.n3 HR.out.m3 HROW.out i HT.out HF.out)
  have HHO := Lib.hid (rholds_any t (fD d i) w2 HRF.out HNB.out)
  have HLE : Hid ((fD d i).now.length ≤ 1000000) := Nat.le_trans HRF.out.ok.le HNB.out
  have HCT : Hid (∀ y m, m ≤ (fD d i).now.length → RDB y ts d → Calls Tryz.prog 103 #[.agg (rdA ts d), .int .i64 (i : Int), .int .i64 (m : Int)] y (ROut (doD d i (fD d i) (.cut m)) (doE d i (fD d i) (.cut m)) y)) := fun y m hm hy => rcut_in ts d i HI.out m hm y hy HUR.out HFEW.out
  clear ht hti
  have HSL : Hid ((scan (fD d i).now).2 ≤ (fD d i).now.length) := Rol.scan_le _
  generalize (fD d i).now = L at *
  go_wp2_with ((with_reducible refine wpAt 27 ?_); refine wpList_load_mid rfl 62 _ rfl w.heap.size (i * 2) rfl (fA t (fD d i)).toList _ HRG.out Tryz.underlying62 rfl (infoFi (fA t (fD d i)) rfl) ?_)
  try rw [Array.toArray_toList]
  refine HHO.out.mono ?_
  rintro e y1 ⟨p5, c5, rfl, ho5, hy1⟩
  have HSC := Lib.hid (Frm.rscanO_any p5 L.length c5 L y1 (Cut.own_bs ho5) HLE.out)
  have hl1 := HLOW.out.trans (hy1.mono HLOW.out.size)
  have hz1 := Below.keepOld hy1 HZX.out
  have hr1 := Below.keepOld hy1 HROW.out
  have hd1 := HR.out.below hy1
  clear HLOW HZX HROW HR hy1 ho5 HRG HHO HRF HT HF
  have HLOW := Lib.hid hl1
  have HZX := Lib.hid hz1
  have HROW := Lib.hid hr1
  have HR := Lib.hid hd1
  clear hl1 hz1 hr1 hd1
  go_upto_region 8 with fail
  go_wp2_with fail
  refine HSC.out.mono ?_
  rintro e y2 ⟨v, rfl, _, hy2⟩
  have hl1 := HLOW.out.trans (hy2.mono HLOW.out.size)
  have hz1 := Below.keepOld hy2 HZX.out
  have hr1 := Below.keepOld hy2 HROW.out
  have hd1 := HR.out.below hy2
  clear HLOW HZX HROW HR hy2 HSC
  have HLOW := Lib.hid hl1
  have HZX := Lib.hid hz1
  have HROW := Lib.hid hr1
  have HR := Lib.hid hd1
  clear hl1 hz1 hr1 hd1
  generalize (scan L).2 = G at *
  by_cases hg : G < L.length
  ·rw [if_pos hg] at hMD hME
   have g1 : decide ((G : Int) < (L.length : Int)) = true := decide_eq_true (by omega)
   have g2 : decide (G < L.length) = true := decide_eq_true hg
   have HCL := Lib.hid (HCT.out y2 G HSL.out HR.out)
   obtain ⟨D1, hD1⟩ : ∃ D1, doD d i (fD d i) (.cut G) = D1 := ⟨_, rfl⟩
   obtain ⟨E1, hE1⟩ : ∃ E1, doE d i (fD d i) (.cut G) = E1 := ⟨_, rfl⟩
   rw [hD1, hE1] at hMD HCL
   rw [hD1, hE1] at hME
   have HMD := Lib.hid hMD.symm
   have HME := Lib.hid hME.symm
   clear hD1 hE1 hMD hME HCT hg
   go_upto_region 11 with fail
   go_wp2_with (refine wpList_load_row rfl 65 _ rfl w.heap.size rfl 65 (rdA ts d) (0, 0) _ HROW.out Tryz.underlying65 rfl (infoRD _ (rdA_size HR.out.n3 HR.out.m3)) ?_)
   refine HCL.out.mono ?_
   rintro e y3 ⟨TS, rfl, hrd, hy3⟩
   have HLY := Lib.hid (HLOW.out.trans (hy3.mono HLOW.out.size))
   have HZY := Lib.hid (Below.keepOld hy3 HZX.out)
   have HRY := Lib.hid (Below.keepOld hy3 HROW.out)
   have HRD := Lib.hid hrd
   have HN3 := Lib.hid HR.out.n3
   have HM3 := Lib.hid HR.out.m3
   clear HLOW HZX HROW HR hy3 hrd HCL
   go_upto_region 12 with (refine wpList_store_row rfl 65 _ _ rfl w.heap.size (rdA TS D1) rfl rfl 65 (rdA ts d) HRY.out (infoRD _ (rdA_size HRD.out.n3 HRD.out.m3)) (by rw [rdA_size HRD.out.n3 HRD.out.m3, rdA_size HN3.out HM3.out]) (rdA_one HRD.out.n3 HRD.out.m3) ?_)
   try simp only [Act.put, zA, zB, zC]
   have HR := Lib.hid (HRD.out.put (A := rdA TS D1) HRY.out)
   have HROW := Lib.hid (setRow_heap _ _ _ (rdA TS D1) _ _ HRY.out)
   have HZX : Hid ((y3.setRow w.heap.size (rdA TS D1)).heap[w.heap.size + 1]? = some (.cells zD 65 (0, 0))) := by show _ = _; rw [setRow_other _ _ _ _ (by omega)]; exact HZY.out
   have HLOW : Hid (Below w.heap.size w (y3.setRow w.heap.size (rdA TS D1))) := below_setRow HLY.out (Nat.le_refl _) _
   clear HRY HZY HLY HRD HN3 HM3
   generalize y3.setRow w.heap.size (rdA TS D1) = w7 at *
   skip
   by_cases he : E1 = 0
   ·rw [if_pos he] at HME HMD
    have hb0 : (E1 == 0) = true := by rw [he]; rfl
    subst he
    skip
    have hti : i < TS.length := by rw [HR.out.n3]; exact HI.out
    have ht : TS[i]? = some (TS[i]'hti) := List.getElem?_eq_getElem hti
    generalize TS[i]'hti = tt at *
    have HT := Lib.hid ht
    have HF := Lib.hid (HR.out.fd HI.out)
    have HRG := Lib.hid (rd_range HR.out.n3 HR.out.m3 HROW.out i HT.out HF.out)
    have HUN := Lib.hid (runits_any tt (fD D1 i) w7 (HR.out.each i tt _ HT.out HF.out).1.now)
    clear ht hti
    have HEN : Hid (MD = (if unitsAll (fD D1 i).steps = 0 then D1 else syncD D1 i (fD D1 i)) ∧ ME = (if unitsAll (fD D1 i).steps = 0 then 0 else syncE D1)) := ⟨HMD.out, HME.out⟩
    clear HMD HME
    by_cases hu : unitsAll (fD D1 i).steps = 0
    ·obtain ⟨f1, f2⟩ := HEN.out
     rw [if_pos hu] at f1 f2
     rw [hu] at HUN
     clear HEN hu
     subst MD ME
     go_upto_region 12 with fail
     go_wp2_with ((with_reducible refine wpAt 51 ?_); refine wpList_load_mid_g rfl 62 _ rfl w.heap.size (i * 2) rfl (fA tt (fD D1 i)) _ HRG.out Tryz.underlying62 rfl (infoFi (fA tt (fD D1 i)) rfl) ?_)
     try rw [Array.toArray_toList]
     refine HUN.out.mono ?_
     rintro e y1 ⟨rfl, hy1⟩
     have hl1 := HLOW.out.trans (hy1.mono HLOW.out.size)
     have hz1 := Below.keepOld hy1 HZX.out
     have hr1 := Below.keepOld hy1 HROW.out
     have hd1 := HR.out.below hy1
     clear HLOW HZX HROW HR hy1 HUN HRG
     have HLOW := Lib.hid hl1
     have HZX := Lib.hid hz1
     have HROW := Lib.hid hr1
     have HR := Lib.hid hd1
     clear hl1 hz1 hr1 hd1
     have hun1 : decide ((0 : Int) < ((0 : Nat) : Int)) = false := by decide
     have hun2 : decide ((0 : Nat) < 0) = false := by decide
     go_upto_region 14 with fail
     skip
     go_wp2_with (first
      | refine wpList_load_row rfl 65 _ rfl w.heap.size rfl 65 (rdA TS D1) (0, 0) _ HROW.out Tryz.underlying65 rfl (infoRD _ (rdA_size HR.out.n3 HR.out.m3)) ?_
      | refine wpList_store_row rfl 65 _ _ rfl (w.heap.size + 1) (rdA TS D1) rfl rfl 65 zD HZX.out (infoRD _ (rdA_size HR.out.n3 HR.out.m3)) (by rw [rdA_size HR.out.n3 HR.out.m3]; rfl) (rdA_one HR.out.n3 HR.out.m3) ?_)
     have HS := Lib.hid (setRow_heap _ _ _ (rdA TS D1) _ _ HZX.out)
     refine bodyPost_ret (results_cell_tmp2 rfl _ _ _ _ _ _ _ rfl HS.out Tryz.underlying65 rfl (infoRD _ (rdA_size HR.out.n3 HR.out.m3))) rfl ?_
     exact ⟨TS, rfl, HR.out.put HZX.out, below_setRow HLOW.out (by omega) _⟩
    ·obtain ⟨f1, f2⟩ := HEN.out
     rw [if_neg hu] at f1 f2
     have hun1 : decide ((0 : Int) < ((unitsAll (fD D1 i).steps : Nat) : Int)) = true := decide_eq_true (by omega)
     have hun2 : decide ((0 : Nat) < unitsAll (fD D1 i).steps) = true := decide_eq_true (by omega)
     generalize unitsAll (fD D1 i).steps = UU at *
     clear HEN hu
     have HSY : Hid (∀ y, RDB y TS D1 → Calls Tryz.prog 104 #[.agg (rdA TS D1), .int .i64 (i : Int)] y (ROut MD ME y)) := fun y hy => by
      rw [f1, f2]
      exact rsync_in TS D1 i HI.out (fD D1 i) HF.out y hy
     clear f1 f2
     go_upto_region 12 with fail
     go_wp2_with ((with_reducible refine wpAt 51 ?_); refine wpList_load_mid_g rfl 62 _ rfl w.heap.size (i * 2) rfl (fA tt (fD D1 i)) _ HRG.out Tryz.underlying62 rfl (infoFi (fA tt (fD D1 i)) rfl) ?_)
     try rw [Array.toArray_toList]
     refine HUN.out.mono ?_
     rintro e y1 ⟨rfl, hy1⟩
     have hl1 := HLOW.out.trans (hy1.mono HLOW.out.size)
     have hz1 := Below.keepOld hy1 HZX.out
     have hr1 := Below.keepOld hy1 HROW.out
     have hd1 := HR.out.below hy1
     clear HLOW HZX HROW HR hy1 HUN HRG
     have HLOW := Lib.hid hl1
     have HZX := Lib.hid hz1
     have HROW := Lib.hid hr1
     have HR := Lib.hid hd1
     clear hl1 hz1 hr1 hd1
     go_upto_region 13 with fail
     go_wp2_with (refine wpList_load_row rfl 65 _ rfl w.heap.size rfl 65 (rdA TS D1) (0, 0) _ HROW.out Tryz.underlying65 rfl (infoRD _ (rdA_size HR.out.n3 HR.out.m3)) ?_)
     refine (HSY.out y1 HR.out).mono ?_
     rintro e y2 ⟨T2, rfl, hr2, hy2⟩
     have HLY := Lib.hid (HLOW.out.trans (hy2.mono HLOW.out.size))
     have HZY := Lib.hid (Below.keepOld hy2 HZX.out)
     have HRY := Lib.hid (Below.keepOld hy2 HROW.out)
     have HRD := Lib.hid hr2
     have HN3 := Lib.hid HR.out.n3
     have HM3 := Lib.hid HR.out.m3
     clear HLOW HZX HROW HR hy2 hr2 HSY HT HF
     go_upto_region 14 with (refine wpList_store_row rfl 65 _ _ rfl w.heap.size (rdA T2 MD) rfl rfl 65 (rdA TS D1) HRY.out (infoRD _ (rdA_size HRD.out.n3 HRD.out.m3)) (by rw [rdA_size HRD.out.n3 HRD.out.m3, rdA_size HN3.out HM3.out]) (rdA_one HRD.out.n3 HRD.out.m3) ?_)
     try simp only [Act.put, zA, zB, zC]
     have HR := Lib.hid (HRD.out.put (A := rdA T2 MD) HRY.out)
     have HROW := Lib.hid (setRow_heap _ _ _ (rdA T2 MD) _ _ HRY.out)
     have HZX : Hid ((y2.setRow w.heap.size (rdA T2 MD)).heap[w.heap.size + 1]? = some (.cells zD 65 (0, 0))) := by show _ = _; rw [setRow_other _ _ _ _ (by omega)]; exact HZY.out
     have HLOW : Hid (Below w.heap.size w (y2.setRow w.heap.size (rdA T2 MD))) := below_setRow HLY.out (Nat.le_refl _) _
     clear HRY HZY HLY HRD HN3 HM3
     generalize y2.setRow w.heap.size (rdA T2 MD) = w8 at *
     skip
     go_wp2_with (first
      | refine wpList_load_row rfl 65 _ rfl w.heap.size rfl 65 (rdA T2 MD) (0, 0) _ HROW.out Tryz.underlying65 rfl (infoRD _ (rdA_size HR.out.n3 HR.out.m3)) ?_
      | refine wpList_store_row rfl 65 _ _ rfl (w.heap.size + 1) (rdA T2 MD) rfl rfl 65 zD HZX.out (infoRD _ (rdA_size HR.out.n3 HR.out.m3)) (by rw [rdA_size HR.out.n3 HR.out.m3]; rfl) (rdA_one HR.out.n3 HR.out.m3) ?_)
     have HS := Lib.hid (setRow_heap _ _ _ (rdA T2 MD) _ _ HZX.out)
     refine bodyPost_ret (results_cell_tmp2 rfl _ _ _ _ _ _ _ rfl HS.out Tryz.underlying65 rfl (infoRD _ (rdA_size HR.out.n3 HR.out.m3))) rfl ?_
     exact ⟨T2, rfl, HR.out.put HZX.out, below_setRow HLOW.out (by omega) _⟩
   ·rw [if_neg he] at HME HMD
    have hb0 : (E1 == 0) = false := beq_eq_false_iff_ne.2 he
    have f1 := HMD.out
    have f2 := HME.out
    clear HMD HME
    subst MD ME
    go_upto_region 14 with fail
    skip
    go_wp2_with (first
     | refine wpList_load_row rfl 65 _ rfl w.heap.size rfl 65 (rdA TS D1) (0, 0) _ HROW.out Tryz.underlying65 rfl (infoRD _ (rdA_size HR.out.n3 HR.out.m3)) ?_
     | refine wpList_store_row rfl 65 _ _ rfl (w.heap.size + 1) (rdA TS D1) rfl rfl 65 zD HZX.out (infoRD _ (rdA_size HR.out.n3 HR.out.m3)) (by rw [rdA_size HR.out.n3 HR.out.m3]; rfl) (rdA_one HR.out.n3 HR.out.m3) ?_)
    have HS := Lib.hid (setRow_heap _ _ _ (rdA TS D1) _ _ HZX.out)
    refine bodyPost_ret (results_cell_tmp2 rfl _ _ _ _ _ _ _ rfl HS.out Tryz.underlying65 rfl (infoRD _ (rdA_size HR.out.n3 HR.out.m3))) rfl ?_
    exact ⟨TS, rfl, HR.out.put HZX.out, below_setRow HLOW.out (by omega) _⟩
  ·rw [if_neg hg] at hMD hME
   have g1 : decide ((G : Int) < (L.length : Int)) = false := decide_eq_false (by omega)
   have g2 : decide (G < L.length) = false := decide_eq_false hg
   have HMD := Lib.hid hMD.symm
   have HME := Lib.hid hME.symm
   have hb0 : ((0 : Int) == 0) = true := rfl
   clear hMD hME HCT hg
   go_upto_region 12 with fail
   skip
   have hti : i < ts.length := by rw [HR.out.n3]; exact HI.out
   have ht : ts[i]? = some (ts[i]'hti) := List.getElem?_eq_getElem hti
   generalize ts[i]'hti = tt at *
   have HT := Lib.hid ht
   have HF := Lib.hid (HR.out.fd HI.out)
   have HRG := Lib.hid (rd_range HR.out.n3 HR.out.m3 HROW.out i HT.out HF.out)
   have HUN := Lib.hid (runits_any tt (fD d i) y2 (HR.out.each i tt _ HT.out HF.out).1.now)
   clear ht hti
   have HEN : Hid (MD = (if unitsAll (fD d i).steps = 0 then d else syncD d i (fD d i)) ∧ ME = (if unitsAll (fD d i).steps = 0 then 0 else syncE d)) := ⟨HMD.out, HME.out⟩
   clear HMD HME
   by_cases hu : unitsAll (fD d i).steps = 0
   ·obtain ⟨f1, f2⟩ := HEN.out
    rw [if_pos hu] at f1 f2
    rw [hu] at HUN
    clear HEN hu
    subst MD ME
    go_upto_region 12 with fail
    go_wp2_with ((with_reducible refine wpAt 51 ?_); refine wpList_load_mid_g rfl 62 _ rfl w.heap.size (i * 2) rfl (fA tt (fD d i)) _ HRG.out Tryz.underlying62 rfl (infoFi (fA tt (fD d i)) rfl) ?_)
    try rw [Array.toArray_toList]
    refine HUN.out.mono ?_
    rintro e y1 ⟨rfl, hy1⟩
    have hl1 := HLOW.out.trans (hy1.mono HLOW.out.size)
    have hz1 := Below.keepOld hy1 HZX.out
    have hr1 := Below.keepOld hy1 HROW.out
    have hd1 := HR.out.below hy1
    clear HLOW HZX HROW HR hy1 HUN HRG
    have HLOW := Lib.hid hl1
    have HZX := Lib.hid hz1
    have HROW := Lib.hid hr1
    have HR := Lib.hid hd1
    clear hl1 hz1 hr1 hd1
    have hun1 : decide ((0 : Int) < ((0 : Nat) : Int)) = false := by decide
    have hun2 : decide ((0 : Nat) < 0) = false := by decide
    go_upto_region 14 with fail
    skip
    go_wp2_with (first
     | refine wpList_load_row rfl 65 _ rfl w.heap.size rfl 65 (rdA ts d) (0, 0) _ HROW.out Tryz.underlying65 rfl (infoRD _ (rdA_size HR.out.n3 HR.out.m3)) ?_
     | refine wpList_store_row rfl 65 _ _ rfl (w.heap.size + 1) (rdA ts d) rfl rfl 65 zD HZX.out (infoRD _ (rdA_size HR.out.n3 HR.out.m3)) (by rw [rdA_size HR.out.n3 HR.out.m3]; rfl) (rdA_one HR.out.n3 HR.out.m3) ?_)
    have HS := Lib.hid (setRow_heap _ _ _ (rdA ts d) _ _ HZX.out)
    refine bodyPost_ret (results_cell_tmp2 rfl _ _ _ _ _ _ _ rfl HS.out Tryz.underlying65 rfl (infoRD _ (rdA_size HR.out.n3 HR.out.m3))) rfl ?_
    exact ⟨ts, rfl, HR.out.put HZX.out, below_setRow HLOW.out (by omega) _⟩
   ·obtain ⟨f1, f2⟩ := HEN.out
    rw [if_neg hu] at f1 f2
    have hun1 : decide ((0 : Int) < ((unitsAll (fD d i).steps : Nat) : Int)) = true := decide_eq_true (by omega)
    have hun2 : decide ((0 : Nat) < unitsAll (fD d i).steps) = true := decide_eq_true (by omega)
    generalize unitsAll (fD d i).steps = UU at *
    clear HEN hu
    have HSY : Hid (∀ y, RDB y ts d → Calls Tryz.prog 104 #[.agg (rdA ts d), .int .i64 (i : Int)] y (ROut MD ME y)) := fun y hy => by
     rw [f1, f2]
     exact rsync_in ts d i HI.out (fD d i) HF.out y hy
    clear f1 f2
    go_upto_region 12 with fail
    go_wp2_with ((with_reducible refine wpAt 51 ?_); refine wpList_load_mid_g rfl 62 _ rfl w.heap.size (i * 2) rfl (fA tt (fD d i)) _ HRG.out Tryz.underlying62 rfl (infoFi (fA tt (fD d i)) rfl) ?_)
    try rw [Array.toArray_toList]
    refine HUN.out.mono ?_
    rintro e y1 ⟨rfl, hy1⟩
    have hl1 := HLOW.out.trans (hy1.mono HLOW.out.size)
    have hz1 := Below.keepOld hy1 HZX.out
    have hr1 := Below.keepOld hy1 HROW.out
    have hd1 := HR.out.below hy1
    clear HLOW HZX HROW HR hy1 HUN HRG
    have HLOW := Lib.hid hl1
    have HZX := Lib.hid hz1
    have HROW := Lib.hid hr1
    have HR := Lib.hid hd1
    clear hl1 hz1 hr1 hd1
    go_upto_region 13 with fail
    go_wp2_with (refine wpList_load_row rfl 65 _ rfl w.heap.size rfl 65 (rdA ts d) (0, 0) _ HROW.out Tryz.underlying65 rfl (infoRD _ (rdA_size HR.out.n3 HR.out.m3)) ?_)
    refine (HSY.out y1 HR.out).mono ?_
    rintro e y2 ⟨T2, rfl, hr2, hy2⟩
    have HLY := Lib.hid (HLOW.out.trans (hy2.mono HLOW.out.size))
    have HZY := Lib.hid (Below.keepOld hy2 HZX.out)
    have HRY := Lib.hid (Below.keepOld hy2 HROW.out)
    have HRD := Lib.hid hr2
    have HN3 := Lib.hid HR.out.n3
    have HM3 := Lib.hid HR.out.m3
    clear HLOW HZX HROW HR hy2 hr2 HSY HT HF
    go_upto_region 14 with (refine wpList_store_row rfl 65 _ _ rfl w.heap.size (rdA T2 MD) rfl rfl 65 (rdA ts d) HRY.out (infoRD _ (rdA_size HRD.out.n3 HRD.out.m3)) (by rw [rdA_size HRD.out.n3 HRD.out.m3, rdA_size HN3.out HM3.out]) (rdA_one HRD.out.n3 HRD.out.m3) ?_)
    try simp only [Act.put, zA, zB, zC]
    have HR := Lib.hid (HRD.out.put (A := rdA T2 MD) HRY.out)
    have HROW := Lib.hid (setRow_heap _ _ _ (rdA T2 MD) _ _ HRY.out)
    have HZX : Hid ((y2.setRow w.heap.size (rdA T2 MD)).heap[w.heap.size + 1]? = some (.cells zD 65 (0, 0))) := by show _ = _; rw [setRow_other _ _ _ _ (by omega)]; exact HZY.out
    have HLOW : Hid (Below w.heap.size w (y2.setRow w.heap.size (rdA T2 MD))) := below_setRow HLY.out (Nat.le_refl _) _
    clear HRY HZY HLY HRD HN3 HM3
    generalize y2.setRow w.heap.size (rdA T2 MD) = w8 at *
    skip
    go_wp2_with (first
     | refine wpList_load_row rfl 65 _ rfl w.heap.size rfl 65 (rdA T2 MD) (0, 0) _ HROW.out Tryz.underlying65 rfl (infoRD _ (rdA_size HR.out.n3 HR.out.m3)) ?_
     | refine wpList_store_row rfl 65 _ _ rfl (w.heap.size + 1) (rdA T2 MD) rfl rfl 65 zD HZX.out (infoRD _ (rdA_size HR.out.n3 HR.out.m3)) (by rw [rdA_size HR.out.n3 HR.out.m3]; rfl) (rdA_one HR.out.n3 HR.out.m3) ?_)
    have HS := Lib.hid (setRow_heap _ _ _ (rdA T2 MD) _ _ HZX.out)
    refine bodyPost_ret (results_cell_tmp2 rfl _ _ _ _ _ _ _ rfl HS.out Tryz.underlying65 rfl (infoRD _ (rdA_size HR.out.n3 HR.out.m3))) rfl ?_
    exact ⟨T2, rfl, HR.out.put HZX.out, below_setRow HLOW.out (by omega) _⟩
end Go.Proofs.YtnejjfglkindjaaGreatDoor.Rk
namespace Go.Proofs.YtnejjfglkindjaaGreatDoor.Vlt
open Go.RowKit Go.Mir Go.Mir.Parts Dk Rol Wr Slt Cut Rk
open Frm (frame scan)
set_option maxRecDepth 100000 in
set_option maxHeartbeats 800000 in
theorem value22_any (X : List UInt8) (h8 : 8 ≤ X.length) (p : Option Addr) (c : Nat) (w : World) (h : Bs w p X.length c X) :
  Calls Tryz.prog 52 #[.slice p X.length c] w fun e w' => e = .returned (.int .u64 (Rdr.beN (X.take 8) : Nat)) ∧ w = w' := by
 have HBS := Lib.hid h
 have hle := h.le
 have hmax := h.max
 have hx9 : (X.length : Int) ≤ 9223372036854775807 := by omega
 clear h
 go_enter Tryz.func52, Tryz.ntmps52
 go_wp2_with fail
 go_loop [3, 4] (fun x j => ∃ k : Nat, k ≤ 8 ∧ j = .int .i64 k ∧ x = .int .u64 (Rdr.beN (X.take k) : Nat)) (fun _ j => 8 - (intOf j).toNat)
 case atStart => exact ⟨0, by omega, rfl, rfl⟩
 case round =>
  obtain ⟨k, hk, rfl, rfl⟩ := hrel
  by_cases hlt : k < 8
  ·have hd : decide ((k:Int) < 8) = true := decide_eq_true (by omega)
   have hd2 : decide (k < 8) = true := decide_eq_true hlt
   obtain ⟨b', o', rfl⟩ := HBS.out.addr (by omega) (by omega)
   have hkl : k < X.length := by omega
   have hc' := Bs.byte HBS.out (j := k) hkl
   have hbe := Rdr.beN_snoc (X.take k) (X[k]'hkl)
   rw [← take_snoc X k hkl] at hbe
   have hb1 := Rdr.beN_lt_pow (X.take (k + 1))
   have hb2 : 256 ^ (X.take (k + 1)).length ≤ 256 ^ 8 := Nat.pow_le_pow_right (by omega) (by rw [List.length_take]; omega)
   have hb4 : (256 : Nat) ^ 8 = 18446744073709551616 := by decide
   generalize X[k]'hkl = y at *
   have hll : y.toNat < 256 := y.toNat_lt
   generalize hB0 : Rdr.beN (X.take k) = B at *
   generalize hB2 : Rdr.beN (X.take (k + 1)) = B2 at *
   have HB2 := Lib.hid hB2
   have q1 : IntKind.u64.wrap ((256 : Int) * (B : Int)) = ((256 * B : Nat) : Int) := by rw [IntKind.wrap_u64]; omega
   have q2 : IntKind.u64.wrap (((256 * B : Nat) : Int) + (y.toNat : Int)) = (B2 : Int) := by rw [IntKind.wrap_u64]; omega
   have q3 : IntKind.u64.wrap ((256 : Int) * (B : Int) + (y.toNat : Int)) = (B2 : Int) := by rw [IntKind.wrap_u64]; omega
   have HW := Lib.hid q1
   have HW2 := Lib.hid q2
   have HW3 := Lib.hid q3
   clear hB0 hB2 hbe hb1 hb2 hb4
   go_wp2_with fail
   go_round
   case rel =>
    exact ⟨k + 1, by omega, by go_num, by first | rw [HB2.out] | (rw [HW.out, HW2.out, HB2.out]) | (rw [HW3.out, HB2.out])⟩
   case measure => simp [intOf]; omega
  ·obtain rfl : k = 8 := by omega
   have hd : decide ((8:Int) < 8) = false := by decide
   have HT : Hid (∃ TN : Nat, Rdr.beN (X.take 8) = TN) := ⟨_, rfl⟩
   obtain ⟨TN, hTN⟩ := HT.out
   have HTN := Lib.hid hTN
   rw [hTN]
   clear hTN HT
   go_wp2_with fail
   go_ret
   rw [HTN.out]
   exact ⟨rfl, rfl⟩
structure LsR (w : World) (v : Value) (ls : List (List UInt8)) : Prop where
 all : ∃ hs : List Value, w.ownsRow 0 22 1 v ls.length hs ∧ ∀ j (h : j < ls.length), ∃ q k, hs[j]? = some (.slice q ls[j].length k) ∧ RBs w q ls[j].length k ls[j]
theorem LsR.nil (w : World) : LsR w (.slice none 0 0) [] := ⟨[], World.ownsRow_nil _ _ _ _, fun j h => by simp at h⟩
theorem LsR.turn {S : Nat → Prop} {w w' : World} {v : Value} {ls : List (List UInt8)} (h : LsR w v ls) (hk : KR 0 w w') (ht : Turns S w w') (hn : ∀ k, v.ownBlock = some k → ¬ S k) : LsR w' v ls := by
 obtain ⟨hs, h1, h2⟩ := h.all
 exact ⟨hs, own_touch h1 ht hn, fun j hj => by
  obtain ⟨q, k, a, b⟩ := h2 j hj
  exact ⟨q, k, a, b.step hk⟩⟩
theorem LsR.below {w w' : World} {v : Value} {ls : List (List UInt8)} (h : LsR w v ls) (hb : Below w.heap.size w w') : LsR w' v ls :=
 h.turn (KR.of_below hb) (Turns.of_below (S := fun _ => False) hb) (fun _ _ h => h)
theorem LsR.of {w : World} {base : Nat} {v : Value} {ls : List (List UInt8)} (h : LsO w base v ls) : LsR w v ls := by
 obtain ⟨hs, h1, h2⟩ := h.all
 exact ⟨hs, own_base h1 (fun _ _ => Nat.zero_le _), fun j hj => by
  obtain ⟨q, k, a, b⟩ := h2 j hj
  exact ⟨q, k, a, RBs.own b⟩⟩
theorem LsR.sl {w : World} {v : Value} {ls : List (List UInt8)} (h : LsR w v ls) : ∃ p c, v = .slice p ls.length c ∧ Pts w p ls.length c ls := by
 obtain ⟨hs, h1, h2⟩ := h.all
 obtain ⟨p, c, rfl, hS⟩ := own_sl h1
 refine ⟨p, c, rfl, rfl, hS.le, hS.max, hS.nil0, fun a ha j hj => ?_⟩
 obtain ⟨q, k, e1, e2⟩ := h2 j hj
 exact ⟨q, _, k, hS.cell a ha j _ e1, e2.bs⟩
theorem LsR.ty {w : World} {v : Value} {ls : List (List UInt8)} (h : LsR w v ls) {k : Nat} (hk : v.ownBlock = some k) : k < w.heap.size ∧ ∀ M t fr, w.heap[k]? = some (.cells M t fr) → t = 22 := by
 obtain ⟨hs, h1, -⟩ := h.all
 exact ⟨(h1.lt k hk).2, fun M t fr hm => own_type h1 k M t fr hk hm⟩
theorem lsR_off {S : Nat → Prop} {w w' : World} {v : Value} {ls : List (List UInt8)} (h : LsR w v ls) (ht : Turns S w w') (hS : ∀ k M t fr, S k → w.heap[k]? = some (.cells M t fr) → t ≠ 22) (hk : KR 0 w w') : LsR w' v ls := by
 refine h.turn hk ht (fun k hk hs => ?_)
 obtain ⟨hs', h1, -⟩ := h.all
 rcases h1.2 with ⟨e, _⟩ | ⟨g, cap, cur, e, _, hg, _⟩
 ·rw [e] at hk; cases hk
 ·rw [e] at hk
  simp only [Value.ownBlock, Option.some.injEq] at hk
  subst hk
  exact hS _ _ _ _ hs hg rfl
theorem LsR.push {w w0 w1 : World} {v v' : Value} {ls : List (List UInt8)} {hs : List Value} {q : Option Addr} {k : Nat} {x : List UInt8}
  (h1 : w.ownsRow 0 22 1 v ls.length hs) (h2 : ∀ j (h : j < ls.length), ∃ q k, hs[j]? = some (.slice q ls[j].length k) ∧ RBs w q ls[j].length k ls[j])
  (hb : Below w.heap.size w w0) (hx : RBs w q x.length k x)
  (ho : w1.ownsRow 0 22 1 v' (ls.length + 1) (hs ++ [.slice q x.length k])) (hg : w0.grownBy w1 v.ownBlock) : LsR w1 v' (ls ++ [x]) := by
 have hl : hs.length = ls.length := by have := h1.1; simpa using this
 have h1' := own_touch h1 (Turns.of_below (S := fun _ => False) hb) (fun _ _ h => h)
 have hkr : KR 0 w w1 := (KR.of_below hb).trans (Turns.imp (Turns.grown (S := fun i => v.ownBlock = some i) hg (fun k hk => hk)) (fun i _ hi => by
  rcases h1'.2 with ⟨e, _⟩ | ⟨g, cap, cur, e, _, hg, _⟩
  ·rw [e] at hi; cases hi
  ·rw [e] at hi
   simp only [Value.ownBlock, Option.some.injEq] at hi
   subst hi
   exact ⟨_, _, _, hg, by decide, by decide⟩))
 refine ⟨_, by rw [List.length_append]; exact ho, fun j hj => ?_⟩
 rw [List.length_append, List.length_singleton] at hj
 by_cases hj2 : j < ls.length
 ·obtain ⟨q1, k1, e1, e2⟩ := h2 j hj2
  refine ⟨q1, k1, ?_, ?_⟩
  ·rw [List.getElem?_append_left (by omega), List.getElem_append_left hj2]; exact e1
  ·rw [List.getElem_append_left hj2]; exact e2.step hkr
 ·obtain rfl : j = ls.length := by omega
  refine ⟨q, k, ?_, ?_⟩
  ·rw [List.getElem?_append_right (by omega), hl, Nat.sub_self]
   simp
  ·simpa using hx.step hkr
def rvA (T : List RF) (d : DD) (s : SS) (ps : Option Addr) (cs : Nat) (v : VS) (pb : Option Addr) (cb : Nat) (pa : Option Addr) (ca : Nat) : Array Value := rdA T d ++ rsA 1 2 s ps cs ++ #[.int .u64 (v.last : Int), .bool v.some, .slice pb v.body.length cb, .slice pa v.after.length ca]
theorem rvA_size {T : List RF} {d : DD} (h1 : T.length = 3) (h2 : d.fs.length = 3) (s : SS) (ps : Option Addr) (cs : Nat) (v : VS) (pb : Option Addr) (cb : Nat) (pa : Option Addr) (ca : Nat) : (rvA T d s ps cs v pb cb pa ca).size = 18 := by
 unfold rvA
 rw [Array.size_append, Array.size_append, rdA_size h1 h2]
 rfl
theorem infoRV (n : Nat) (h : n = 18) : (Tryz.prog.info? 76).map (·.size) = some n := by subst h; kernel_rfl
end Go.Proofs.YtnejjfglkindjaaGreatDoor.Vlt
namespace Go.Proofs.YtnejjfglkindjaaGreatDoor.Vlt
open Go.RowKit Go.Mir Go.Mir.Parts Dk Rol Wr Slt Cut Rk
open Frm (frame scan)
theorem splice_cons (A : List Value) (o : Nat) (v : Value) (r : List Value) (h : o < A.length) : splice (A.set o v) (o + 1) r = splice A o (v :: r) := by
 unfold splice
 have e1 : (A.set o v).take (o + 1) = A.take o ++ [v] := by
  rw [List.take_succ_eq_append_getElem (by rw [List.length_set]; exact h), List.getElem_set_self, List.take_set_of_le (Nat.le_refl _)]
 have e2 : (A.set o v).drop (o + 1 + r.length) = A.drop (o + (v :: r).length) := by
  rw [List.drop_set_of_lt (by omega), List.length_cons]
  congr 1
  omega
 rw [e1, e2, List.append_assoc]
 rfl
theorem heap_setCells_row (b : Nat) (t : TypeId) : ∀ (vs : List Value) (o : Nat) (w : World) (A : List Value), w.heap[b]? = some (.cells A.toArray t (0, 0)) → o + vs.length ≤ A.length → (w.setCells b o vs).heap[b]? = some (.cells (splice A o vs).toArray t (0, 0))
 | [], o, w, A, h, _ => by
  have e : splice A o [] = A := by unfold splice; rw [List.nil_append, List.length_nil, Nat.add_zero, List.take_append_drop]
  rw [e]; exact h
 | v :: r, o, w, A, h, hl => by
  rw [List.length_cons] at hl
  rw [World.setCells, ← splice_cons A o v r (by omega)]
  refine heap_setCells_row b t r (o + 1) _ (A.set o v) ?_ (by rw [List.length_set]; omega)
  rw [Dk.cell_put (off := o) v h]
  simp
theorem turns_setCells (b : Nat) : ∀ (vs : List Value) (o : Nat) (w0 w : World), Turns (fun k => k = b) w0 w → Turns (fun k => k = b) w0 (w.setCells b o vs)
 | [], _, _, _, h => h
 | v :: r, o, w0, w, h => by
  rw [World.setCells]
  exact turns_setCells b r (o + 1) w0 _ (h.setCell (p := ⟨b, o, none⟩) (fun _ => rfl) v)
theorem rvA_list (T : List RF) (d : DD) (s : SS) (ps : Option Addr) (cs : Nat) (v : VS) (pb : Option Addr) (cb : Nat) (pa : Option Addr) (ca : Nat) : (rvA T d s ps cs v pb cb pa ca).toList = (rdA T d).toList ++ ((rsA 1 2 s ps cs).toList ++ [.int .u64 (v.last : Int), .bool v.some, .slice pb v.body.length cb, .slice pa v.after.length ca]) := by
 unfold rvA
 rw [Array.toList_append, Array.toList_append, List.append_assoc]
theorem rdA_len {T : List RF} {d : DD} (h1 : T.length = 3) (h2 : d.fs.length = 3) : (rdA T d).toList.length = 9 := by rw [Array.length_toList]; exact rdA_size h1 h2
theorem rv_disk {T T' : List RF} {d d' : DD} (h1 : T.length = 3) (h2 : d.fs.length = 3) (h3 : T'.length = 3) (h4 : d'.fs.length = 3) (s : SS) (ps : Option Addr) (cs : Nat) (v : VS) (pb : Option Addr) (cb : Nat) (pa : Option Addr) (ca : Nat) :
  splice (rvA T d s ps cs v pb cb pa ca).toList 0 (rdA T' d').toList = (rvA T' d' s ps cs v pb cb pa ca).toList := by
 unfold splice
 rw [List.take_zero, List.nil_append, Nat.zero_add, rdA_len h3 h4, rvA_list, List.drop_left' (rdA_len h1 h2), rvA_list]
theorem rv_slots {T : List RF} {d : DD} (h1 : T.length = 3) (h2 : d.fs.length = 3) (s s' : SS) (ps ps' : Option Addr) (cs cs' : Nat) (v : VS) (pb : Option Addr) (cb : Nat) (pa : Option Addr) (ca : Nat) :
  splice (rvA T d s ps cs v pb cb pa ca).toList 9 (rsA 1 2 s' ps' cs').toList = (rvA T d s' ps' cs' v pb cb pa ca).toList := by
 unfold splice
 have e5 : ∀ (s : SS) (p : Option Addr) (c : Nat), (rsA 1 2 s p c).toList.length = 5 := fun _ _ _ => rfl
 have e9 := rdA_len h1 h2
 have ed : ∀ X : List Value, ((rdA T d).toList ++ ((rsA 1 2 s ps cs).toList ++ X)).drop (9 + 5) = X := fun X => by
  rw [← List.append_assoc]
  exact List.drop_left' (by rw [List.length_append, e9, e5])
 rw [e5, rvA_list, List.take_left' e9, ed, rvA_list]
theorem rv_range0 {w : World} {g : Nat} {T : List RF} {d : DD} {s : SS} {ps : Option Addr} {cs : Nat} {v : VS} {pb : Option Addr} {cb : Nat} {pa : Option Addr} {ca : Nat} {t : TypeId} {fr : Nat × Nat} (h : w.heap[g]? = some (.cells (rvA T d s ps cs v pb cb pa ca) t fr)) : w.rangeAt g 0 (rdA T d).toList := fun j u hu => by
 rw [Nat.zero_add, cell_of_row _ _ _ _ _ _ h, ← Array.getElem?_toList, rvA_list, List.getElem?_append_left (List.getElem?_eq_some_iff.1 hu).1]
 exact hu
theorem rv_range9 {w : World} {g : Nat} {T : List RF} {d : DD} (h1 : T.length = 3) (h2 : d.fs.length = 3) {s : SS} {ps : Option Addr} {cs : Nat} {v : VS} {pb : Option Addr} {cb : Nat} {pa : Option Addr} {ca : Nat} {t : TypeId} {fr : Nat × Nat} (h : w.heap[g]? = some (.cells (rvA T d s ps cs v pb cb pa ca) t fr)) : w.rangeAt g 9 (rsA 1 2 s ps cs).toList := fun j u hu => by
 have e9 := rdA_len h1 h2
 rw [cell_of_row _ _ _ _ _ _ h, ← Array.getElem?_toList, rvA_list, List.getElem?_append_right (by rw [e9]; omega), e9, Nat.add_sub_cancel_left, List.getElem?_append_left (List.getElem?_eq_some_iff.1 hu).1]
 exact hu
theorem rvA_at {T : List RF} {d : DD} (h1 : T.length = 3) (h2 : d.fs.length = 3) (s : SS) (ps : Option Addr) (cs : Nat) (v : VS) (pb : Option Addr) (cb : Nat) (pa : Option Addr) (ca : Nat) (j : Nat) : (rvA T d s ps cs v pb cb pa ca)[14 + j]? = [Value.int .u64 (v.last : Int), .bool v.some, .slice pb v.body.length cb, .slice pa v.after.length ca][j]? := by
 have e5 : (rsA 1 2 s ps cs).toList.length = 5 := rfl
 have e9 := rdA_len h1 h2
 rw [← Array.getElem?_toList, rvA_list, ← List.append_assoc, List.getElem?_append_right (by rw [List.length_append, e9, e5]; omega), List.length_append, e9, e5]
 congr 1
 omega
theorem rv_cells {w : World} {g : Nat} {T : List RF} {d : DD} (h1 : T.length = 3) (h2 : d.fs.length = 3) {s : SS} {ps : Option Addr} {cs : Nat} {v : VS} {pb : Option Addr} {cb : Nat} {pa : Option Addr} {ca : Nat} {t : TypeId} {fr : Nat × Nat} (h : w.heap[g]? = some (.cells (rvA T d s ps cs v pb cb pa ca) t fr)) :
  w.cell? ⟨g, 14, none⟩ = some (.int .u64 (v.last : Int)) ∧ w.cell? ⟨g, 15, none⟩ = some (.bool v.some) ∧ w.cell? ⟨g, 16, none⟩ = some (.slice pb v.body.length cb) ∧ w.cell? ⟨g, 17, none⟩ = some (.slice pa v.after.length ca) :=
 ⟨by rw [cell_of_row _ _ _ _ _ _ h]; exact rvA_at h1 h2 s ps cs v pb cb pa ca 0, by rw [cell_of_row _ _ _ _ _ _ h]; exact rvA_at h1 h2 s ps cs v pb cb pa ca 1, by rw [cell_of_row _ _ _ _ _ _ h]; exact rvA_at h1 h2 s ps cs v pb cb pa ca 2, by rw [cell_of_row _ _ _ _ _ _ h]; exact rvA_at h1 h2 s ps cs v pb cb pa ca 3⟩
theorem rv_set {T : List RF} {d : DD} (h1 : T.length = 3) (h2 : d.fs.length = 3) (s : SS) (ps : Option Addr) (cs : Nat) (v : VS) (pb : Option Addr) (cb : Nat) (pa : Option Addr) (ca : Nat) (j : Nat) (u : Value) (v' : VS) (pb' : Option Addr) (cb' : Nat) (pa' : Option Addr) (ca' : Nat)
  (h : [Value.int .u64 (v.last : Int), .bool v.some, .slice pb v.body.length cb, .slice pa v.after.length ca].set j u = [Value.int .u64 (v'.last : Int), .bool v'.some, .slice pb' v'.body.length cb', .slice pa' v'.after.length ca']) :
  (rvA T d s ps cs v pb cb pa ca).setIfInBounds (14 + j) u = rvA T d s ps cs v' pb' cb' pa' ca' := by
 have e5 : (rsA 1 2 s ps cs).toList.length = 5 := rfl
 have e9 := rdA_len h1 h2
 apply Array.toList_inj.1
 rw [Array.toList_setIfInBounds, rvA_list, rvA_list, ← h, ← List.append_assoc, List.set_append_right _ _ (by rw [List.length_append, e9, e5]; omega), List.length_append, e9, e5, List.append_assoc]
 congr 3
 omega
def zRV : Array Value := zD ++ zS ++ #[.int .u64 0, .bool false, .slice none 0 0, .slice none 0 0]
theorem zeroRV (w : World) : (zeroValue 76).run Tryz.prog w = .ok (.agg zRV) w := by kernel_rfl
theorem rvA_one {T : List RF} {d : DD} (h1 : T.length = 3) (h2 : d.fs.length = 3) (s : SS) (ps : Option Addr) (cs : Nat) (v : VS) (pb : Option Addr) (cb : Nat) (pa : Option Addr) (ca : Nat) : (rvA T d s ps cs v pb cb pa ca).all (·.oneCell') = true := by
 unfold rvA
 rw [Array.all_append, Array.all_append, rdA_one h1 h2, rsA_one]
 simp [Value.oneCell']
structure RVR (w : World) (T : List RF) (d : DD) (s : SS) (ps : Option Addr) (cs : Nat) (v : VS) (pb : Option Addr) (cb : Nat) (pa : Option Addr) (ca : Nat) : Prop where
 rd : RDB w T d
 sb : RBs w ps s.body.length cs s.body
 vb : RBs w pb v.body.length cb v.body
 af : LsR w (.slice pa v.after.length ca) v.after
theorem RVR.below {w w' : World} {T : List RF} {d : DD} {s : SS} {ps : Option Addr} {cs : Nat} {v : VS} {pb : Option Addr} {cb : Nat} {pa : Option Addr} {ca : Nat} (h : RVR w T d s ps cs v pb cb pa ca) (hb : Below w.heap.size w w') : RVR w' T d s ps cs v pb cb pa ca :=
 ⟨h.rd.below hb, h.sb.below hb, h.vb.below hb, h.af.below hb⟩
theorem there_row {w : World} {g : Nat} {A : Array Value} {t : TypeId} (h : w.heap[g]? = some (.cells A t (0, 0))) (o n : Nat) (hn : o + n ≤ A.size) : w.there g o n := fun j hj => by
 refine ⟨?_, frozen_of_row _ _ _ _ _ h⟩
 rw [cell_of_row _ _ _ _ _ _ h, Array.getElem?_eq_getElem (by omega)]
 rfl
theorem rv_store0 {w : World} {g : Nat} {T T' : List RF} {d d' : DD} {s : SS} {ps : Option Addr} {cs : Nat} {v : VS} {pb : Option Addr} {cb : Nat} {pa : Option Addr} {ca : Nat} (h1 : T.length = 3) (h2 : d.fs.length = 3) (hr : w.heap[g]? = some (.cells (rvA T d s ps cs v pb cb pa ca) 76 (0, 0))) (hd : RDB w T' d') (h : RVR w T d s ps cs v pb cb pa ca) :
  (w.setCells g 0 (rdA T' d').toList).heap[g]? = some (.cells (rvA T' d' s ps cs v pb cb pa ca) 76 (0, 0)) ∧ RVR (w.setCells g 0 (rdA T' d').toList) T' d' s ps cs v pb cb pa ca ∧ Turns (fun k => k = g) w (w.setCells g 0 (rdA T' d').toList) := by
 have ht := turns_setCells g (rdA T' d').toList 0 w w (Turns.refl _ _)
 have hk := kr_turn (base := 0) ht hr (by decide) (by decide)
 refine ⟨?_, ⟨hd.step hk, h.sb.step hk, h.vb.step hk, lsR_off h.af ht (fun k M' t fr hkk hm => ?_) hk⟩, ht⟩
 ·have hr' : w.heap[g]? = some (.cells (rvA T d s ps cs v pb cb pa ca).toList.toArray 76 (0, 0)) := by rw [Array.toArray_toList]; exact hr
  have := heap_setCells_row g _ (rdA T' d').toList 0 w _ hr' (by rw [rdA_len hd.n3 hd.m3, Array.length_toList, rvA_size h1 h2]; omega)
  rw [rv_disk h1 h2 hd.n3 hd.m3, Array.toArray_toList] at this
  exact this
 ·subst hkk
  rw [hr] at hm
  injection hm with e1
  injection e1 with _ e2
  subst e2
  decide
end Go.Proofs.YtnejjfglkindjaaGreatDoor.Vlt
namespace Go.Proofs.YtnejjfglkindjaaGreatDoor.Vlt
open Go.RowKit Go.Mir Go.Mir.Parts Dk Rol Wr Slt Cut Rk
open Frm (frame scan)
def RVPutP (_T : List RF) (d : DD) (s : SS) (ps : Option Addr) (cs : Nat) (v : VS) (pb : Option Addr) (cb : Nat) (pa : Option Addr) (ca : Nat) (x : List UInt8) (w : World) (e : Ending) (w' : World) : Prop :=
 ∃ T' pa' ca', e = .returned (.tuple #[.agg (rvA T' (vputD d v x) s ps cs (vputV d v x) pb cb pa' ca'), .int .i64 (vputE d v x)]) ∧ RVR w' T' (vputD d v x) s ps cs (vputV d v x) pb cb pa' ca' ∧ Below w.heap.size w w' ∧ ∀ k, (Value.slice pa' (vputV d v x).after.length ca').ownBlock = some k → (Value.slice pa v.after.length ca).ownBlock = some k ∨ w.heap.size ≤ k
def MidP (b0 : Nat) (w1 : World) (D : DD) (E : Int) (a0 a : Act) (y : World) : Prop :=
 ∃ T' g6 p1 c1 n2 p2 c2 v24 v25 v26 v27 v28 v30, a = ((((((((((((((a0.put (some 24) v24).put (some 25) v25).put (some 26) v26).put (some 27) v27).put (some 28) v28).put (some 29) (.slice p1 8 c1)).put (some 30) v30).put (some 31) (.slice p2 n2 c2)).put (some 32) (.tuple #[.agg (rdA T' D), .int .i64 E])).put (some 23) (.tuple #[.agg (rdA T' D), .int .i64 E])).put (some 33) (.agg (rdA T' D))).put (some 34) (.int .i64 E)).put (some 6) (.pointer (some ⟨g6, 0, none⟩))).put (some 7) (.int .i64 E)) ∧
  Below b0 w1 y ∧ b0 ≤ g6 ∧ y.heap[g6]? = some (.cells (rdA T' D) 65 (0, 0)) ∧ RDB y T' D
theorem box_off {w : World} {g : Nat} {M A : Array Value} {T : List RF} {d : DD} {s : SS} {ps : Option Addr} {cs : Nat} {v : VS} {pb : Option Addr} {cb : Nat} {pa : Option Addr} {ca : Nat} (h : RVR w T d s ps cs v pb cb pa ca) (hz : w.heap[g]? = some (.cells M 76 (0, 0))) : RVR (w.setRow g A) T d s ps cs v pb cb pa ca := by
 have ht := turns_setRow w g A
 have hk := kr_turn (base := 0) ht hz (by decide) (by decide)
 refine ⟨h.rd.step hk, h.sb.step hk, h.vb.step hk, lsR_off h.af ht (fun k M' t fr hk hm => ?_) hk⟩
 subst hk
 rw [hz] at hm
 injection hm with e1
 injection e1 with _ e2
 subst e2
 decide
theorem box_offT {w w' : World} {g : Nat} {M : Array Value} {T : List RF} {d : DD} {s : SS} {ps : Option Addr} {cs : Nat} {v : VS} {pb : Option Addr} {cb : Nat} {pa : Option Addr} {ca : Nat} (h : RVR w T d s ps cs v pb cb pa ca) (hz : w.heap[g]? = some (.cells M 76 (0, 0))) (ht : Turns (fun k => k = g) w w') : RVR w' T d s ps cs v pb cb pa ca := by
 have hk := kr_turn (base := 0) ht hz (by decide) (by decide)
 refine ⟨h.rd.step hk, h.sb.step hk, h.vb.step hk, lsR_off h.af ht (fun k M' t fr hk hm => ?_) hk⟩
 subst hk
 rw [hz] at hm
 injection hm with e1
 injection e1 with _ e2
 subst e2
 decide
set_option maxRecDepth 100000 in
set_option maxHeartbeats 3200000 in
theorem rvput_bad (T : List RF) (d : DD) (s : SS) (ps : Option Addr) (cs : Nat) (v : VS) (pb : Option Addr) (cb : Nat) (pa : Option Addr) (ca : Nat) (p : Option Addr) (c : Nat) (x : List UInt8) (w : World) (h : RVR w T d s ps cs v pb cb pa ca) (hl : v.last < 18446744073709551616) (hB : Bs w p x.length c x) (hx : x.length ≤ 3000) (hno : ¬ vputOk v x) :
  Calls Tryz.prog 29 #[.agg (rvA T d s ps cs v pb cb pa ca), .slice p x.length c] w (RVPutP T d s ps cs v pb cb pa ca x w) := by
 have hz := zeroRV
 have h1 := h.rd.n3
 have h2 := h.rd.m3
 have HSZ := Lib.hid (rvA_size h1 h2 s ps cs v pb cb pa ca)
 have HONE := Lib.hid (rvA_one h1 h2 s ps cs v pb cb pa ca)
 have hal := Below.allocs w (.cells (rvA T d s ps cs v pb cb pa ca) 76)
 have hrow := heap_alloc_last w (.cells (rvA T d s ps cs v pb cb pa ca) 76)
 have hal2 := Below.allocs (w.alloc (.cells (rvA T d s ps cs v pb cb pa ca) 76)) (.cells zRV 76)
 have hrow2 := heap_alloc_last (w.alloc (.cells (rvA T d s ps cs v pb cb pa ca) 76)) (.cells zRV 76)
 have hsz : (w.alloc (.cells (rvA T d s ps cs v pb cb pa ca) 76)).heap.size = w.heap.size + 1 := by simp
 rw [hsz] at hrow2
 have hlow := hal.trans (hal2.mono hal.size)
 have HROW := Lib.hid (Below.keepOld hal2 hrow)
 have HZX := Lib.hid hrow2
 have HLOW := Lib.hid hlow
 have HRV := Lib.hid (h.below hlow)
 obtain ⟨hc14, -, -, -⟩ := rv_cells h1 h2 HROW.out
 have HEND : Hid (∀ w', RVR w' T d s ps cs v pb cb pa ca → Below w.heap.size w w' → RVPutP T d s ps cs v pb cb pa ca x w (.returned (.tuple #[.agg (rvA T d s ps cs v pb cb pa ca), .int .i64 1])) w') := fun w' a b => by
  have e1 : vputE d v x = 1 := by unfold vputE; rw [if_neg hno]
  have e2 : vputD d v x = d := by unfold vputD; rw [if_neg hno]
  have e3 : vputV d v x = v := by unfold vputV; rw [if_neg (fun hh => hno hh.1)]
  exact ⟨T, pa, ca, by rw [e1, e2, e3], by rw [e2, e3]; exact a, b, fun k hk => .inl (by rw [e3] at hk; exact hk)⟩
 have hle := hB.le
 have hmx := hB.max
 clear h hal hrow hal2 hrow2 hsz hlow hB
 by_cases q1 : x.length < 1
 ·have d1 : decide ((x.length : Int) < 1) = true := decide_eq_true (by omega)
  have d1' : decide (x.length < 1) = true := decide_eq_true q1
  clear q1 hno
  skip
  go_enter Tryz.func29, Tryz.ntmps29
  go_upto_region 1 with fail
  generalize (w.alloc (.cells (rvA T d s ps cs v pb cb pa ca) 76)).alloc (.cells zRV 76) = w1 at *
  go_wp2_with (first
   | refine wpList_load_row rfl 76 _ rfl w.heap.size rfl 76 (rvA T d s ps cs v pb cb pa ca) (0, 0) _ HROW.out Tryz.underlying76 rfl (infoRV _ HSZ.out) ?_
   | refine wpList_store_row rfl 76 _ _ rfl (w.heap.size + 1) (rvA T d s ps cs v pb cb pa ca) rfl rfl 76 zRV HZX.out (infoRV _ HSZ.out) (by rw [HSZ.out]; rfl) HONE.out ?_)
  have HS := Lib.hid (setRow_heap _ _ _ (rvA T d s ps cs v pb cb pa ca) _ _ HZX.out)
  refine bodyPost_ret (results_cell_tmp2 rfl _ _ _ _ _ _ _ rfl HS.out Tryz.underlying76 rfl (infoRV _ HSZ.out)) rfl ?_
  exact HEND.out _ (box_off HRV.out HZX.out) (below_setRow HLOW.out (by omega) _)
 ·have d1 : decide ((x.length : Int) < 1) = false := decide_eq_false (by omega)
  have d1' : decide (x.length < 1) = false := decide_eq_false q1
  have d2 : decide ((60000 : Int) < (x.length : Int)) = false := decide_eq_false (by omega)
  have d2' : decide (60000 < x.length) = false := decide_eq_false (by omega)
  have q2 : ¬ v.last + 2 < 18446744073709551616 := fun hh => hno ⟨by omega, by omega, hh⟩
  have hw : IntKind.u64.wrap ((v.last : Int) + 2) = (v.last : Int) + 2 - 18446744073709551616 := by rw [IntKind.wrap_u64]; omega
  have d3 : decide ((v.last : Int) + 2 - 18446744073709551616 < 2) = true := decide_eq_true (by omega)
  clear q1 q2 hno
  skip
  go_enter Tryz.func29, Tryz.ntmps29
  go_upto_region 1 with fail
  generalize (w.alloc (.cells (rvA T d s ps cs v pb cb pa ca) 76)).alloc (.cells zRV 76) = w1 at *
  go_wp2_with (first
   | refine wpList_load_row rfl 76 _ rfl w.heap.size rfl 76 (rvA T d s ps cs v pb cb pa ca) (0, 0) _ HROW.out Tryz.underlying76 rfl (infoRV _ HSZ.out) ?_
   | refine wpList_store_row rfl 76 _ _ rfl (w.heap.size + 1) (rvA T d s ps cs v pb cb pa ca) rfl rfl 76 zRV HZX.out (infoRV _ HSZ.out) (by rw [HSZ.out]; rfl) HONE.out ?_)
  have HS := Lib.hid (setRow_heap _ _ _ (rvA T d s ps cs v pb cb pa ca) _ _ HZX.out)
  refine bodyPost_ret (results_cell_tmp2 rfl _ _ _ _ _ _ _ rfl HS.out Tryz.underlying76 rfl (infoRV _ HSZ.out)) rfl ?_
  exact HEND.out _ (box_off HRV.out HZX.out) (below_setRow HLOW.out (by omega) _)
theorem own_neR {w : World} {base e size n : Nat} {x : Value} {xs : List Value} {kb : Nat} {M : Array Value} {t : TypeId} {fr : Nat × Nat} (h : w.ownsRow base e size x n xs) (hk : w.heap[kb]? = some (.cells M t fr)) (hte : t ≠ e) : ¬ x.ownBlock = some kb := fun hi => by
 rcases h.2 with ⟨rfl, _⟩ | ⟨g, cap, cur, rfl, _, hg, _⟩
 ·cases hi
 ·simp only [Value.ownBlock, Option.some.injEq] at hi
  subst hi
  rw [hk] at hg
  injection hg with e1
  injection e1 with _ e2
  exact hte e2
set_option maxRecDepth 100000 in
set_option maxHeartbeats 3200000 in
theorem rvput_ok (T : List RF) (d : DD) (s : SS) (ps : Option Addr) (cs : Nat) (v : VS) (pb : Option Addr) (cb : Nat) (pa : Option Addr) (ca : Nat) (p : Option Addr) (c : Nat) (x : List UInt8) (w : World) (h : RVR w T d s ps cs v pb cb pa ca) (hur : usedL d.fs ≤ d.room) (hfew : (fD d 0).steps.length + 1 ≤ 2199023255552) (hB : Bs w p x.length c x) (hx : x.length ≤ 3000) (hok : vputOk v x) (hal : v.after.length ≤ 100000) :
  Calls Tryz.prog 29 #[.agg (rvA T d s ps cs v pb cb pa ca), .slice p x.length c] w (RVPutP T d s ps cs v pb cb pa ca x w) := by
 have hz := zeroRV
 have hzd := zeroD
 have h1 := h.rd.n3
 have h2 := h.rd.m3
 have HN3 := Lib.hid h1
 have HM3 := Lib.hid h2
 have HSZ := Lib.hid (rvA_size h1 h2 s ps cs v pb cb pa ca)
 have HONE := Lib.hid (rvA_one h1 h2 s ps cs v pb cb pa ca)
 have hal1 := Below.allocs w (.cells (rvA T d s ps cs v pb cb pa ca) 76)
 have hrow := heap_alloc_last w (.cells (rvA T d s ps cs v pb cb pa ca) 76)
 have hal2 := Below.allocs (w.alloc (.cells (rvA T d s ps cs v pb cb pa ca) 76)) (.cells zRV 76)
 have hrow2 := heap_alloc_last (w.alloc (.cells (rvA T d s ps cs v pb cb pa ca) 76)) (.cells zRV 76)
 have hsz : (w.alloc (.cells (rvA T d s ps cs v pb cb pa ca) 76)).heap.size = w.heap.size + 1 := by simp
 rw [hsz] at hrow2
 have hlow := hal1.trans (hal2.mono hal1.size)
 have HROW := Lib.hid (Below.keepOld hal2 hrow)
 have HZX := Lib.hid hrow2
 have HLOW := Lib.hid hlow
 have HRV := Lib.hid (h.below hlow)
 have HBS := Lib.hid (hB.below hlow)
 have HBW0 := Lib.hid hB
 obtain ⟨hc14, -, -, -⟩ := rv_cells h1 h2 HROW.out
 have hle := hB.le
 have hmx := hB.max
 have HOK := Lib.hid hok
 obtain ⟨k1, k2, k3⟩ := hok
 have d1 : decide ((x.length : Int) < 1) = false := decide_eq_false (by omega)
 have d1' : decide (x.length < 1) = false := decide_eq_false (by omega)
 have d2 : decide ((60000 : Int) < (x.length : Int)) = false := decide_eq_false (by omega)
 have d2' : decide (60000 < x.length) = false := decide_eq_false (by omega)
 have hw : IntKind.u64.wrap ((v.last : Int) + 2) = (v.last : Int) + 2 := by rw [IntKind.wrap_u64]; omega
 have d3 : decide ((v.last : Int) + 2 < 2) = false := decide_eq_false (by omega)
 have hw1 : IntKind.u64.wrap ((v.last : Int) + 1) = (v.last : Int) + 1 := by rw [IntKind.wrap_u64]; omega
 have HUR := Lib.hid hur
 have HFW := Lib.hid hfew
 have HK3 : Hid (v.last + 1 < 18446744073709551616) := by show _ < _; omega
 clear h hal1 hrow hal2 hrow2 hsz hlow hB hur hfew h1 h2
 go_enter Tryz.func29, Tryz.ntmps29
 go_upto_region 1 with fail
 generalize (w.alloc (.cells (rvA T d s ps cs v pb cb pa ca) 76)).alloc (.cells zRV 76) = w1 at *
 go_upto_region 3 with fail
 clear hc14 d1 d1' d2 d2' d3 hw
 have HC14 : Hid (∀ y, Below w1.heap.size w1 y → y.cell? ⟨w.heap.size, 14, none⟩ = some (.int .u64 (v.last : Int))) := fun y hy => (rv_cells HN3.out HM3.out (Below.keepOld hy HROW.out)).1
 refine wp_mid (MidP w1.heap.size w1 (appD d 0 (vputR v x)) (appE d 0 (vputR v x))) ?_ ?_
 rotate_left
 ·rintro a wx0 ⟨T', g6, p1, c1, n2, p2, c2, v24, v25, v26, v27, v28, v30, rfl, hyE, hl6, hge, hre⟩
  have HG6L := Lib.hid hl6
  have HGE := Lib.hid hge
  have HRE := Lib.hid hre
  clear hl6 hge hre
  simp only [Act.put, zA, zB, zC]
  skip
  have HROWX := Lib.hid (Below.keepOld hyE HROW.out)
  have HZXX := Lib.hid (Below.keepOld hyE HZX.out)
  have HRVX := Lib.hid (HRV.out.below hyE)
  have HLOWX := Lib.hid (HLOW.out.trans (hyE.mono HLOW.out.size))
  have HT3 := Lib.hid HRE.out.n3
  have HTM := Lib.hid HRE.out.m3
  obtain ⟨q1, q2, q3⟩ := rv_store0 HN3.out HM3.out HROWX.out HRE.out HRVX.out
  have HRY := Lib.hid q1
  have HVY := Lib.hid q2
  have HTY := Lib.hid q3
  have HPE : Hid (vputE d v x = appE d 0 (vputR v x)) := by show _ = _; unfold vputE; rw [if_pos HOK.out]
  have HPD : Hid (vputD d v x = appD d 0 (vputR v x)) := by show _ = _; unfold vputD; rw [if_pos HOK.out]
  have HPV : Hid (vputV d v x = if appE d 0 (vputR v x) = 0 then ⟨v.last + 1, v.some, v.body, v.after ++ [x]⟩ else v) := by
   show _ = _
   unfold vputV
   by_cases he : appE d 0 (vputR v x) = 0
   ·rw [if_pos he, if_pos ⟨HOK.out, he⟩]
   ·rw [if_neg he, if_neg (fun hh => he hh.2)]
  have HTHR : Hid ((wx0).there w.heap.size 0 (rdA T' (appD d 0 (vputR v x))).size) := there_row HROWX.out 0 _ (by rw [rdA_size HT3.out HTM.out, HSZ.out]; omega)
  clear q1 q2 q3
  try clear hyA
  try clear hyB
  try clear hyC
  try clear hyD
  try clear hyL
  try clear hb1
  try clear hbC
  try clear hgw
  try clear hal6
  try clear hy0
  clear hyE HRE
  generalize (wx0) = wx at *
  generalize appD d 0 (vputR v x) = D9 at *
  generalize appE d 0 (vputR v x) = E9 at *
  go_upto_region 5 with (first
   | refine wpList_load_row rfl 65 _ rfl (g6) rfl 65 (rdA T' D9) (0, 0) _ HGE.out Tryz.underlying65 rfl (infoRD _ (rdA_size HT3.out HTM.out)) ?_
   | refine wpList_store_mid rfl 65 _ _ rfl w.heap.size 0 (rdA T' D9) rfl rfl HTHR.out (infoRD _ (rdA_size HT3.out HTM.out)) (rdA_one HT3.out HTM.out) ?_)
  try simp only [Act.put]
  have HZY := Lib.hid (HTY.out.keep HZXX.out (show ¬ w.heap.size + 1 = w.heap.size by omega))
  have HLOWY := Lib.hid (HLOWX.out.trans (HTY.out.below HLOWX.out.size (fun i hi => by have hi : i = w.heap.size := hi; omega)))
  clear HTY HZXX HLOWX HROWX HRVX HTHR HGE
  generalize wx.setCells w.heap.size 0 (rdA T' D9).toList = wy at *
  clear wx
  have HSZ9 := Lib.hid (fun (v' : VS) (pa' : Option Addr) (ca' : Nat) => rvA_size HT3.out HTM.out s ps cs v' pb cb pa' ca')
  have HON9 := Lib.hid (fun (v' : VS) (pa' : Option Addr) (ca' : Nat) => rvA_one HT3.out HTM.out s ps cs v' pb cb pa' ca')
  by_cases he : E9 = 0
  rotate_left
  ·have q1 : (E9 == 0) = false := beq_eq_false_iff_ne.2 he
   have q2 : (E9 != 0) = true := bne_iff_ne.2 he
   rw [if_neg he] at HPV
   clear he
   go_wp2_with (first
    | refine wpList_load_row rfl 76 _ rfl w.heap.size rfl 76 (rvA T' D9 s ps cs v pb cb pa ca) (0, 0) _ HRY.out Tryz.underlying76 rfl (infoRV _ (HSZ9.out v pa ca)) ?_
    | refine wpList_store_row rfl 76 _ _ rfl (w.heap.size + 1) (rvA T' D9 s ps cs v pb cb pa ca) rfl rfl 76 zRV HZY.out (infoRV _ (HSZ9.out v pa ca)) (by rw [HSZ9.out v pa ca]; rfl) (HON9.out v pa ca) ?_)
   have HS := Lib.hid (setRow_heap _ _ _ (rvA T' D9 s ps cs v pb cb pa ca) _ _ HZY.out)
   refine bodyPost_ret (results_cell_tmp2 rfl _ _ _ _ _ _ _ rfl HS.out Tryz.underlying76 rfl (infoRV _ (HSZ9.out v pa ca))) rfl ?_
   exact ⟨T', pa, ca, by rw [HPE.out, HPD.out, HPV.out]; rfl, by rw [HPD.out, HPV.out]; exact box_off HVY.out HZY.out, below_setRow HLOWY.out (by omega) _, fun k hk => .inl (by rw [HPV.out] at hk; exact hk)⟩
  have q1 : (E9 == 0) = true := beq_iff_eq.2 he
  have q2 : (E9 != 0) = false := by rw [bne_eq_false_iff_eq]; exact he
  rw [if_pos he] at HPV
  clear he
  obtain ⟨hc14, -, -, -⟩ := rv_cells HT3.out HTM.out HRY.out
  have hfz := frozen_of_row _ _ 14 _ _ HRY.out
  have hcN : ((v.last + 1 : Nat) : Int) = (v.last : Int) + 1 := by omega
  have hr6 := Dk.cell_put (off := 14) (.int .u64 ((v.last : Int) + 1)) HRY.out
  rw [rv_set HT3.out HTM.out s ps cs v pb cb pa ca 0 (.int .u64 ((v.last : Int) + 1)) ⟨v.last + 1, v.some, v.body, v.after⟩ pb cb pa ca (by rw [← hcN]; rfl)] at hr6
  have HR6 := Lib.hid hr6
  have HT6 : Hid (Turns (fun k => k = w.heap.size) wy (wy.setCell ⟨w.heap.size, 14, none⟩ (.int .u64 ((v.last : Int) + 1)))) := (Turns.refl (fun k => k = w.heap.size) wy).setCell (p := ⟨w.heap.size, 14, none⟩) (fun _ => rfl) _
  have HV6 := Lib.hid (box_offT HVY.out HRY.out HT6.out)
  have HZ6 := Lib.hid (HT6.out.keep HZY.out (show ¬ w.heap.size + 1 = w.heap.size by omega))
  have HL6 := Lib.hid (HLOWY.out.trans (HT6.out.below HLOWY.out.size (fun i hi => by have hi : i = w.heap.size := hi; omega)))
  clear hr6 HT6
  go_upto_region 7 with fail
  clear hc14 hfz HRY HVY HZY HLOWY
  generalize wy.setCell ⟨w.heap.size, 14, none⟩ (.int .u64 ((v.last : Int) + 1)) = wz at *
  clear wy
  have HBW : Hid (Below w1.heap.size w1 wz ∨ True) := .inr trivial
  clear HBW
  obtain ⟨hs', g1, g2⟩ := HV6.out.af.all
  obtain ⟨p', c', he', hsl⟩ := own_sl g1
  cases he'
  have HG2 := Lib.hid g2
  have HSL := Lib.hid hsl
  have HH1 : Hid (∀ u ∈ hs', u.oneCell' = true) := by
   show ∀ u ∈ hs', _
   intro u hu
   obtain ⟨j, hj⟩ := List.getElem?_of_mem hu
   have hjl := (List.getElem?_eq_some_iff.1 hj).1
   have hln := hsl.len
   obtain ⟨q, k, e1, _⟩ := g2 j (by omega)
   rw [hj] at e1
   cases e1
   rfl
  have hln := hsl.len
  have hple := hsl.le
  have hpmx := hsl.max
  obtain ⟨-, -, -, hc17⟩ := rv_cells HT3.out HTM.out HR6.out
  have hB0 := Below.allocs wz (.cells #[] 22)
  have hc17' := cell_below hc17 hB0
  have HO1 : Hid ((wz.alloc (.cells #[] 22)).ownsRow wz.heap.size 22 1 (.slice (some ⟨wz.heap.size, 0, none⟩) 0 0) 0 []) := own_made0 wz _ _ _ _ rfl (Nat.le_refl _)
  have HS1 := Lib.hid (HSL.out.below hB0)
  have HB0 := Lib.hid hB0
  have HSZ1 : Hid (wz.heap.size ≤ (wz.alloc (.cells #[] 22)).heap.size) := hB0.size
  clear g1 g2 hsl hB0 hc17
  go_wp2_with (at_builtin; refine wpList_append_nx rfl _ _ 31 rfl (base := wz.heap.size) Tryz.underlying31 infoS rfl (by omega) rfl HO1.out rfl HS1.out HH1.out ⟨by omega, by omega⟩ HSZ1.out ?_)
  intro p6 c6 w6 o6 hg6 hn6 _
  have hb6 : Below wz.heap.size wz w6 := HB0.out.grown hg6 HSZ1.out (fun k hk => (HO1.out.lt k hk).1)
  have HB6 := Lib.hid hb6
  have HO6 := Lib.hid o6
  have hal7 := Below.allocs w6 (.cells #[] 5)
  have HB7 := Lib.hid (hb6.trans (hal7.mono hb6.size))
  have HO7 : Hid ((w6.alloc (.cells #[] 5)).ownsRow wz.heap.size 5 1 (.slice (some ⟨w6.heap.size, 0, none⟩) 0 0) 0 []) := own_made0 w6 _ _ _ _ rfl hb6.size
  have HX7 := Lib.hid (HBW0.out.below (HL6.out.trans (HB7.out.mono HL6.out.size)))
  have HSZ7 : Hid (wz.heap.size ≤ (w6.alloc (.cells #[] 5)).heap.size) := HB7.out.size
  clear o6 hg6 hn6 hb6 hal7 hc17' HO1 HS1
  go_wp2_with (at_builtin; refine wpList_append_nx rfl _ _ 22 rfl (base := wz.heap.size) Tryz.underlying22 info8 rfl (by omega) rfl HO7.out rfl HX7.out (bytesV_one _) ⟨by omega, by omega⟩ HSZ7.out ?_)
  intro p8 c8 w8 o8 hg8 _ _
  have hb8 : Below wz.heap.size wz w8 := HB7.out.grown hg8 HSZ7.out (fun k hk => (HO7.out.lt k hk).1)
  have ht8 : Turns (fun k => k = w6.heap.size) (w6.alloc (.cells #[] 5)) w8 := Turns.grown hg8 (fun k hk => (Option.some.inj hk).symm)
  have ho68 := own_touch (own_touch HO6.out (Turns.of_below (S := fun _ => False) (Below.allocs w6 (.cells #[] 5))) (fun _ _ h => h)) ht8 (fun k hk e => by have h1 := (HO6.out.lt k hk).2; have e : k = w6.heap.size := e; omega)
  have HO8 := Lib.hid ho68
  have HR8 := Lib.hid o8
  have HB8 := Lib.hid hb8
  have hal9 := Below.allocs w8 (.cells #[.slice p8 x.length c8] 22)
  have HO9 := Lib.hid (own_touch ho68 (Turns.of_below (S := fun _ => False) hal9) (fun _ _ h => h))
  have HX9 := Lib.hid (hdr_sl w8 (.slice p8 x.length c8) 22 w8.heap.size rfl)
  have HB9 := Lib.hid (hb8.trans (hal9.mono hb8.size))
  have HSZ9 : Hid (wz.heap.size ≤ (w8.alloc (.cells #[.slice p8 x.length c8] 22)).heap.size) := HB9.out.size
  clear o8 hg8 hb8 ht8 ho68 hal9 HO7 HX7 HSZ7
  go_wp2_with (at_builtin; refine wpList_append_nx rfl _ _ 31 rfl (base := wz.heap.size) Tryz.underlying31 infoS rfl (by omega) rfl HO9.out rfl HX9.out (fun u hu => by rw [List.mem_singleton] at hu; subst hu; rfl) ⟨by omega, by omega⟩ HSZ9.out ?_)
  intro p9 c9 wf ho9 hg9 hnx9 _
  have hbf : Below wz.heap.size wz wf := HB9.out.grown hg9 HSZ9.out (fun k hk => (HO9.out.lt k hk).1)
  have hlsf : LsR wf (.slice p9 (v.after.length + 1) c9) (v.after ++ [x]) := LsR.push (own_base (base' := 0) HO8.out (fun _ _ => Nat.zero_le _)) (fun j hj => by
   obtain ⟨q, k, e1, e2⟩ := HG2.out j hj
   exact ⟨q, k, e1, e2.below HB8.out⟩) (Below.allocs w8 _) (RBs.own HR8.out) (own_base (base' := 0) ho9 (fun _ _ => Nat.zero_le _)) hg9
  have HLF := Lib.hid hlsf
  have HOW9 : Hid (∀ k, (Value.slice p9 (v.after.length + 1) c9).ownBlock = some k → wz.heap.size ≤ k) := fun k hk => (ho9.lt k hk).1
  have HRF := Lib.hid (Below.keepOld hbf HR6.out)
  have HZF := Lib.hid (Below.keepOld hbf HZ6.out)
  have HVF := Lib.hid (HV6.out.below hbf)
  have HLWF := Lib.hid (HL6.out.trans (hbf.mono HL6.out.size))
  have HSZF : Hid (w.heap.size ≤ wz.heap.size) := HL6.out.size
  obtain ⟨-, -, -, hc17⟩ := rv_cells HT3.out HTM.out HRF.out
  have hfz := frozen_of_row _ _ 17 _ _ HRF.out
  clear ho9 hg9 hnx9 hbf hlsf HB8 HB9 HO8 HO9 HR8 HX9 HSZ9 HB6 HB7 HO6 HG2 HSL HH1 HB0 HSZ1 HR6 HZ6 HV6 HL6
  go_upto_region 8 with fail
  have hlen : (v.after ++ [x]).length = v.after.length + 1 := by rw [List.length_append]; rfl
  have hrz := Dk.cell_put (off := 17) (.slice p9 (v.after.length + 1) c9) HRF.out
  rw [rv_set HT3.out HTM.out s ps cs ⟨v.last + 1, v.some, v.body, v.after⟩ pb cb pa ca 3 (.slice p9 (v.after.length + 1) c9) ⟨v.last + 1, v.some, v.body, v.after ++ [x]⟩ pb cb p9 c9 (by simp)] at hrz
  have htz : Turns (fun k => k = w.heap.size) wf (wf.setCell ⟨w.heap.size, 17, none⟩ (.slice p9 (v.after.length + 1) c9)) := (Turns.refl (fun k => k = w.heap.size) wf).setCell (p := ⟨w.heap.size, 17, none⟩) (fun _ => rfl) _
  have hvz := box_offT HVF.out HRF.out htz
  have hlz : LsR (wf.setCell ⟨w.heap.size, 17, none⟩ (.slice p9 (v.after.length + 1) c9)) (.slice p9 (v.after ++ [x]).length c9) (v.after ++ [x]) := by
   rw [hlen]
   refine lsR_off HLF.out htz (fun k M' t fr hk hm => ?_) (kr_turn htz HRF.out (by decide) (by decide))
   subst hk
   rw [HRF.out] at hm
   injection hm with e1
   injection e1 with _ e2
   subst e2
   decide
  have HVZ : Hid (RVR (wf.setCell ⟨w.heap.size, 17, none⟩ (.slice p9 (v.after.length + 1) c9)) T' D9 s ps cs ⟨v.last + 1, v.some, v.body, v.after ++ [x]⟩ pb cb p9 c9) := ⟨hvz.rd, hvz.sb, hvz.vb, hlz⟩
  have HRZ := Lib.hid hrz
  have HZZ := Lib.hid (htz.keep HZF.out (show ¬ w.heap.size + 1 = w.heap.size by omega))
  have HLZ := Lib.hid (HLWF.out.trans (htz.below HLWF.out.size (fun i hi => by have hi : i = w.heap.size := hi; omega)))
  have HLEN := Lib.hid hlen
  clear hlen hrz htz hvz hlz hc17 hfz HRF HZF HVF HLF HLWF
  generalize wf.setCell ⟨w.heap.size, 17, none⟩ (.slice p9 (v.after.length + 1) c9) = wg at *
  go_wp2_with (first
   | refine wpList_load_row rfl 76 _ rfl w.heap.size rfl 76 (rvA T' D9 s ps cs ⟨v.last + 1, v.some, v.body, v.after ++ [x]⟩ pb cb p9 c9) (0, 0) _ HRZ.out Tryz.underlying76 rfl (infoRV _ (HSZ9.out ⟨v.last + 1, v.some, v.body, v.after ++ [x]⟩ p9 c9)) ?_
   | refine wpList_store_row rfl 76 _ _ rfl (w.heap.size + 1) (rvA T' D9 s ps cs ⟨v.last + 1, v.some, v.body, v.after ++ [x]⟩ pb cb p9 c9) rfl rfl 76 zRV HZZ.out (infoRV _ (HSZ9.out ⟨v.last + 1, v.some, v.body, v.after ++ [x]⟩ p9 c9)) (by rw [HSZ9.out ⟨v.last + 1, v.some, v.body, v.after ++ [x]⟩ p9 c9]; rfl) (HON9.out ⟨v.last + 1, v.some, v.body, v.after ++ [x]⟩ p9 c9) ?_)
  have HS := Lib.hid (setRow_heap _ _ _ (rvA T' D9 s ps cs ⟨v.last + 1, v.some, v.body, v.after ++ [x]⟩ pb cb p9 c9) _ _ HZZ.out)
  refine bodyPost_ret (results_cell_tmp2 rfl _ _ _ _ _ _ _ rfl HS.out Tryz.underlying76 rfl (infoRV _ (HSZ9.out ⟨v.last + 1, v.some, v.body, v.after ++ [x]⟩ p9 c9))) rfl ?_
  exact ⟨T', p9, c9, by rw [HPE.out, HPD.out, HPV.out]; rfl, by rw [HPD.out, HPV.out]; exact box_off HVZ.out HZZ.out, below_setRow HLZ.out (by omega) _, fun k hk => .inr (by
   rw [HPV.out] at hk
   have h1 := HOW9.out k (by rw [← HLEN.out]; exact hk)
   have h2 := HSZF.out
   omega)⟩
 refine wp_region_tree (Below w1.heap.size w1) (.take 0 (.take 1 (.take 2 (.take 3 (.take 4 (.take 6 (.two 5 12 (.two 7 12 (.two 8 12 (.take 9 (.take 10 (.take 11 (.one 12 (.one 13 (.take 14 .nil)))))) (.one 8 (.take 9 (.take 10 (.take 11 (.one 13 (.take 14 .nil))))))) (.one 7 (.one 8 (.take 9 (.take 10 (.take 11 (.one 13 (.take 14 .nil)))))))) (.one 5 (.one 7 (.one 8 (.take 9 (.take 10 (.take 11 (.one 13 (.take 14 .nil))))))))))))))) (by kernel_rfl) (by kernel_rfl) (below_drew1 _ _) ?_
 have hy0 : Below w1.heap.size w1 w1.drew := below_drew1 _ _
 have HNUM : Hid (∀ y, Calls Tryz.prog 22 #[.int .u64 ((v.last : Int) + 1), .int .i64 8] y fun e w' => ∃ p c, e = .returned (.slice p 8 c) ∧ w'.ownsRow y.heap.size 5 1 (.slice p 8 c) 8 (bytesV (be (v.last + 1) 8)) ∧ Below y.heap.size y w') := fun y => by
  have := number8 y (v.last + 1) HK3.out
  rwa [show ((v.last + 1 : Nat) : Int) = (v.last : Int) + 1 by omega] at this
 (apply tree_take; (· rfl); (· rfl); (· (intro w' hb'; go_simp; try with_reducible rfl)); try simp only [Act.put, zA, zB, zC])
 refine tree_load rfl (by rfl) 65 _ rfl w.heap.size 0 rfl (rdA T d) _ (fun w' hb => rv_range0 (Below.keepOld hb HROW.out)) Tryz.underlying65 rfl (infoRD _ (rdA_size HN3.out HM3.out)) ?_
 try simp only [Act.put, zA, zB, zC]
 (apply tree_take; (· rfl); (· rfl); (· (intro w' hb'; go_simp; try with_reducible rfl)); try simp only [Act.put, zA, zB, zC])
 (apply tree_take; (· rfl); (· rfl); (· (intro w' hb'; have hk' := (HC14.out) w' hb'; go_simp; try with_reducible rfl)); try simp only [Act.put, zA, zB, zC])
 (apply tree_take; (· rfl); (· rfl); (· (intro w' hb'; go_simp; try with_reducible rfl)); try simp only [Act.put, zA, zB, zC])
 (apply tree_take; (· rfl); (· rfl); (· (intro w' hb'; go_simp; try with_reducible rfl)); try simp only [Act.put, zA, zB, zC])
 refine tree_two ?_ ?_
 ·skip
  refine tree_one rfl (by rfl) (fun K hK => ?_)
  go_simp
  refine (HNUM.out w1.drew).mono ?_
  rintro e yA ⟨p1, c1, rfl, ho1, hb1⟩
  have hyA := hy0.trans (hb1.mono hy0.size)
  have HO1 := Lib.hid (own_base (base' := w1.heap.size) ho1 (fun k hk => Nat.le_trans hy0.size (ho1.lt k hk).1))
  refine Shut.out hK _ _ hyA ?_
  clear hK K ho1
  try simp only [Act.put, zA, zB, zC]
  refine tree_two ?_ ?_
  ·skip
   refine tree_one rfl (by rfl) (fun K hK => oper_of_list rfl ?_)
   refine wpList_append_nx rfl _ _ 22 rfl (base := w1.heap.size) Tryz.underlying22 info8 rfl (by omega) rfl HO1.out rfl (HBS.out.below hyA) (bytesV_one _) ⟨by omega, by omega⟩ hyA.size ?_
   intro p2 c2 yB ho2 hg2 _ _
   have hyB : Below w1.heap.size w1 yB := hyA.grown hg2 hyA.size (fun k hk => (HO1.out.lt k hk).1)
   have hgw := Turns.grown (S := fun k => (Value.slice p1 8 c1).ownBlock = some k) hg2 (fun k h => h)
   have ho2 : yB.ownsRow w1.heap.size 5 1 (.slice p2 (8 + x.length) c2) (8 + x.length) (bytesV (be (v.last + 1) 8 ++ x)) := by rw [bytesV_append]; exact ho2
   have HO2 := Lib.hid ho2
   refine only_end (Shut.out hK _ _ hyB ?_)
   clear hK K ho2 hg2
   try simp only [Act.put, zA, zB, zC]
   refine tree_two ?_ ?_
   ·skip
    have hrl : (vputR v x).length = 8 + x.length := by unfold vputR; rw [List.length_append, be_length]
    have hca := rapp_any T d 0 (by omega) p2 (vputR v x) c2 yB (HRV.out.rd.below hyB) HUR.out (by rw [hrl]; exact Cut.own_bs HO2.out) (by omega) HFW.out
    rw [hrl] at hca
    have HCA := Lib.hid hca
    clear hca hrl
    refine tree_one rfl (by rfl) (fun K hK => ?_)
    go_simp
    refine HCA.out.mono ?_
    rintro e yC ⟨T', rfl, hrd, hbC⟩
    have hyC := hyB.trans (hbC.mono hyB.size)
    have HRD := Lib.hid hrd
    refine Shut.out hK _ _ hyC ?_
    clear hK K HCA hrd
    try simp only [Act.put, zA, zB, zC]
    (apply tree_take; (· rfl); (· rfl); (· (intro w' hb'; go_simp; try with_reducible rfl)); try simp only [Act.put, zA, zB, zC])
    (apply tree_take; (· rfl); (· rfl); (· (intro w' hb'; go_simp; try with_reducible rfl)); try simp only [Act.put, zA, zB, zC])
    (apply tree_take; (· rfl); (· rfl); (· (intro w' hb'; go_simp; try with_reducible rfl)); try simp only [Act.put, zA, zB, zC])
    skip
    refine tree_one rfl (by rfl) (fun K hK => ?_)
    go_simp
    have hyD := hyC.alloc hyC.size (.cells zD 65)
    have HG6 := Lib.hid (heap_alloc_last yC (.cells zD 65))
    have hal6 := Below.allocs yC (.cells zD 65)
    have HG6L : Hid (w1.heap.size ≤ yC.heap.size) := hyC.size
    refine Shut.out hK _ _ hyD ?_
    clear hK K
    try simp only [Act.put, zA, zB, zC]
    have HRL := Lib.hid (HRD.out.below hal6)
    have HGL := Lib.hid HG6.out
    have hyL := hyD
    skip
    refine tree_one rfl (by rfl) (fun K hK => oper_of_list rfl ?_)
    refine wpList_store_row rfl 65 _ _ rfl (yC.heap.size) (rdA T' (appD d 0 (vputR v x))) rfl rfl 65 zD HGL.out (infoRD _ (rdA_size HRL.out.n3 HRL.out.m3)) (by rw [rdA_size HRL.out.n3 HRL.out.m3]; rfl) (rdA_one HRL.out.n3 HRL.out.m3) ?_
    have hyE := below_setRow hyL HG6L.out (rdA T' (appD d 0 (vputR v x)))
    have HGE := Lib.hid (setRow_heap _ _ _ (rdA T' (appD d 0 (vputR v x))) _ _ HGL.out)
    have HRE := Lib.hid (RDB.put (A := rdA T' (appD d 0 (vputR v x))) HRL.out HGL.out)
    refine only_end (Shut.out hK _ _ hyE ?_)
    clear hK K
    try simp only [Act.put]
    (apply tree_take; (· rfl); (· rfl); (· (intro w' hb'; go_simp; try with_reducible rfl)); try simp only [Act.put, zA, zB, zC])
    refine tree_nil ?_
    skip
    refine ⟨rfl, ?_⟩
    unfold MidP
    simp only [Act.put, zA, zB, zC]
    exact ⟨T', yC.heap.size, p1, c1, 8 + x.length, p2, c2, _, _, _, _, _, _, rfl, hyE, HG6L.out, HGE.out, HRE.out⟩
   ·skip
    refine tree_one rfl (by rfl) (fun K hK => ?_)
    go_simp
    have hyD := hyB.alloc hyB.size (.cells zD 65)
    have HG6 := Lib.hid (heap_alloc_last yB (.cells zD 65))
    have hal6 := Below.allocs yB (.cells zD 65)
    have HG6L : Hid (w1.heap.size ≤ yB.heap.size) := hyB.size
    refine Shut.out hK _ _ hyD ?_
    clear hK K
    try simp only [Act.put, zA, zB, zC]
    have HO2' := Lib.hid (own_touch HO2.out (Turns.of_below (S := fun _ => False) hal6) (fun _ _ h => h))
    skip
    have hrl : (vputR v x).length = 8 + x.length := by unfold vputR; rw [List.length_append, be_length]
    have hca := rapp_any T d 0 (by omega) p2 (vputR v x) c2 (yB.alloc (.cells zD 65)) (HRV.out.rd.below hyD) HUR.out (by rw [hrl]; exact Cut.own_bs HO2'.out) (by omega) HFW.out
    rw [hrl] at hca
    have HCA := Lib.hid hca
    clear hca hrl
    refine tree_one rfl (by rfl) (fun K hK => ?_)
    go_simp
    refine HCA.out.mono ?_
    rintro e yC ⟨T', rfl, hrd, hbC⟩
    have hyC := hyD.trans (hbC.mono hyD.size)
    have HRD := Lib.hid hrd
    refine Shut.out hK _ _ hyC ?_
    clear hK K HCA hrd
    try simp only [Act.put, zA, zB, zC]
    (apply tree_take; (· rfl); (· rfl); (· (intro w' hb'; go_simp; try with_reducible rfl)); try simp only [Act.put, zA, zB, zC])
    (apply tree_take; (· rfl); (· rfl); (· (intro w' hb'; go_simp; try with_reducible rfl)); try simp only [Act.put, zA, zB, zC])
    (apply tree_take; (· rfl); (· rfl); (· (intro w' hb'; go_simp; try with_reducible rfl)); try simp only [Act.put, zA, zB, zC])
    have HRL := Lib.hid HRD.out
    have HGL := Lib.hid (Below.keepOld hbC HG6.out)
    have hyL := hyC
    skip
    refine tree_one rfl (by rfl) (fun K hK => oper_of_list rfl ?_)
    refine wpList_store_row rfl 65 _ _ rfl (yB.heap.size) (rdA T' (appD d 0 (vputR v x))) rfl rfl 65 zD HGL.out (infoRD _ (rdA_size HRL.out.n3 HRL.out.m3)) (by rw [rdA_size HRL.out.n3 HRL.out.m3]; rfl) (rdA_one HRL.out.n3 HRL.out.m3) ?_
    have hyE := below_setRow hyL HG6L.out (rdA T' (appD d 0 (vputR v x)))
    have HGE := Lib.hid (setRow_heap _ _ _ (rdA T' (appD d 0 (vputR v x))) _ _ HGL.out)
    have HRE := Lib.hid (RDB.put (A := rdA T' (appD d 0 (vputR v x))) HRL.out HGL.out)
    refine only_end (Shut.out hK _ _ hyE ?_)
    clear hK K
    try simp only [Act.put]
    (apply tree_take; (· rfl); (· rfl); (· (intro w' hb'; go_simp; try with_reducible rfl)); try simp only [Act.put, zA, zB, zC])
    refine tree_nil ?_
    skip
    refine ⟨rfl, ?_⟩
    unfold MidP
    simp only [Act.put, zA, zB, zC]
    exact ⟨T', yB.heap.size, p1, c1, 8 + x.length, p2, c2, _, _, _, _, _, _, rfl, hyE, HG6L.out, HGE.out, HRE.out⟩
  ·skip
   refine tree_one rfl (by rfl) (fun K hK => ?_)
   go_simp
   have hyD := hyA.alloc hyA.size (.cells zD 65)
   have HG6 := Lib.hid (heap_alloc_last yA (.cells zD 65))
   have hal6 := Below.allocs yA (.cells zD 65)
   have HG6L : Hid (w1.heap.size ≤ yA.heap.size) := hyA.size
   refine Shut.out hK _ _ hyD ?_
   clear hK K
   try simp only [Act.put, zA, zB, zC]
   have HO1' := Lib.hid (own_touch HO1.out (Turns.of_below (S := fun _ => False) hal6) (fun _ _ h => h))
   skip
   refine tree_one rfl (by rfl) (fun K hK => oper_of_list rfl ?_)
   refine wpList_append_nx rfl _ _ 22 rfl (base := w1.heap.size) Tryz.underlying22 info8 rfl (by omega) rfl HO1'.out rfl (HBS.out.below hyD) (bytesV_one _) ⟨by omega, by omega⟩ hyD.size ?_
   intro p2 c2 yB ho2 hg2 _ _
   have hyB : Below w1.heap.size w1 yB := hyD.grown hg2 hyD.size (fun k hk => (HO1'.out.lt k hk).1)
   have hgw := Turns.grown (S := fun k => (Value.slice p1 8 c1).ownBlock = some k) hg2 (fun k h => h)
   have ho2 : yB.ownsRow w1.heap.size 5 1 (.slice p2 (8 + x.length) c2) (8 + x.length) (bytesV (be (v.last + 1) 8 ++ x)) := by rw [bytesV_append]; exact ho2
   have HO2 := Lib.hid ho2
   refine only_end (Shut.out hK _ _ hyB ?_)
   clear hK K ho2 hg2
   try simp only [Act.put, zA, zB, zC]
   have HGM := Lib.hid (hgw.keep HG6.out (own_neR HO1'.out HG6.out (by decide)))
   skip
   have hrl : (vputR v x).length = 8 + x.length := by unfold vputR; rw [List.length_append, be_length]
   have hca := rapp_any T d 0 (by omega) p2 (vputR v x) c2 yB (HRV.out.rd.below hyB) HUR.out (by rw [hrl]; exact Cut.own_bs HO2.out) (by omega) HFW.out
   rw [hrl] at hca
   have HCA := Lib.hid hca
   clear hca hrl
   refine tree_one rfl (by rfl) (fun K hK => ?_)
   go_simp
   refine HCA.out.mono ?_
   rintro e yC ⟨T', rfl, hrd, hbC⟩
   have hyC := hyB.trans (hbC.mono hyB.size)
   have HRD := Lib.hid hrd
   refine Shut.out hK _ _ hyC ?_
   clear hK K HCA hrd
   try simp only [Act.put, zA, zB, zC]
   (apply tree_take; (· rfl); (· rfl); (· (intro w' hb'; go_simp; try with_reducible rfl)); try simp only [Act.put, zA, zB, zC])
   (apply tree_take; (· rfl); (· rfl); (· (intro w' hb'; go_simp; try with_reducible rfl)); try simp only [Act.put, zA, zB, zC])
   (apply tree_take; (· rfl); (· rfl); (· (intro w' hb'; go_simp; try with_reducible rfl)); try simp only [Act.put, zA, zB, zC])
   have HRL := Lib.hid HRD.out
   have HGL := Lib.hid (Below.keepOld hbC HGM.out)
   have hyL := hyC
   skip
   refine tree_one rfl (by rfl) (fun K hK => oper_of_list rfl ?_)
   refine wpList_store_row rfl 65 _ _ rfl (yA.heap.size) (rdA T' (appD d 0 (vputR v x))) rfl rfl 65 zD HGL.out (infoRD _ (rdA_size HRL.out.n3 HRL.out.m3)) (by rw [rdA_size HRL.out.n3 HRL.out.m3]; rfl) (rdA_one HRL.out.n3 HRL.out.m3) ?_
   have hyE := below_setRow hyL HG6L.out (rdA T' (appD d 0 (vputR v x)))
   have HGE := Lib.hid (setRow_heap _ _ _ (rdA T' (appD d 0 (vputR v x))) _ _ HGL.out)
   have HRE := Lib.hid (RDB.put (A := rdA T' (appD d 0 (vputR v x))) HRL.out HGL.out)
   refine only_end (Shut.out hK _ _ hyE ?_)
   clear hK K
   try simp only [Act.put]
   (apply tree_take; (· rfl); (· rfl); (· (intro w' hb'; go_simp; try with_reducible rfl)); try simp only [Act.put, zA, zB, zC])
   refine tree_nil ?_
   skip
   refine ⟨rfl, ?_⟩
   unfold MidP
   simp only [Act.put, zA, zB, zC]
   exact ⟨T', yA.heap.size, p1, c1, 8 + x.length, p2, c2, _, _, _, _, _, _, rfl, hyE, HG6L.out, HGE.out, HRE.out⟩
 ·skip
  refine tree_one rfl (by rfl) (fun K hK => ?_)
  go_simp
  have hyD := hy0.alloc hy0.size (.cells zD 65)
  have HG6 := Lib.hid (heap_alloc_last w1.drew (.cells zD 65))
  have hal6 := Below.allocs w1.drew (.cells zD 65)
  have HG6L : Hid (w1.heap.size ≤ w1.drew.heap.size) := hy0.size
  refine Shut.out hK _ _ hyD ?_
  clear hK K
  try simp only [Act.put, zA, zB, zC]
  skip
  refine tree_one rfl (by rfl) (fun K hK => ?_)
  go_simp
  refine (HNUM.out (w1.drew.alloc (.cells zD 65))).mono ?_
  rintro e yA ⟨p1, c1, rfl, ho1, hb1⟩
  have hyA := hyD.trans (hb1.mono hyD.size)
  have HO1 := Lib.hid (own_base (base' := w1.heap.size) ho1 (fun k hk => Nat.le_trans hyD.size (ho1.lt k hk).1))
  refine Shut.out hK _ _ hyA ?_
  clear hK K ho1
  try simp only [Act.put, zA, zB, zC]
  have HGK := Lib.hid (Below.keepOld hb1 HG6.out)
  skip
  refine tree_one rfl (by rfl) (fun K hK => oper_of_list rfl ?_)
  refine wpList_append_nx rfl _ _ 22 rfl (base := w1.heap.size) Tryz.underlying22 info8 rfl (by omega) rfl HO1.out rfl (HBS.out.below hyA) (bytesV_one _) ⟨by omega, by omega⟩ hyA.size ?_
  intro p2 c2 yB ho2 hg2 _ _
  have hyB : Below w1.heap.size w1 yB := hyA.grown hg2 hyA.size (fun k hk => (HO1.out.lt k hk).1)
  have hgw := Turns.grown (S := fun k => (Value.slice p1 8 c1).ownBlock = some k) hg2 (fun k h => h)
  have ho2 : yB.ownsRow w1.heap.size 5 1 (.slice p2 (8 + x.length) c2) (8 + x.length) (bytesV (be (v.last + 1) 8 ++ x)) := by rw [bytesV_append]; exact ho2
  have HO2 := Lib.hid ho2
  refine only_end (Shut.out hK _ _ hyB ?_)
  clear hK K ho2 hg2
  try simp only [Act.put, zA, zB, zC]
  have HGM := Lib.hid (hgw.keep HGK.out (own_neR HO1.out HGK.out (by decide)))
  skip
  have hrl : (vputR v x).length = 8 + x.length := by unfold vputR; rw [List.length_append, be_length]
  have hca := rapp_any T d 0 (by omega) p2 (vputR v x) c2 yB (HRV.out.rd.below hyB) HUR.out (by rw [hrl]; exact Cut.own_bs HO2.out) (by omega) HFW.out
  rw [hrl] at hca
  have HCA := Lib.hid hca
  clear hca hrl
  refine tree_one rfl (by rfl) (fun K hK => ?_)
  go_simp
  refine HCA.out.mono ?_
  rintro e yC ⟨T', rfl, hrd, hbC⟩
  have hyC := hyB.trans (hbC.mono hyB.size)
  have HRD := Lib.hid hrd
  refine Shut.out hK _ _ hyC ?_
  clear hK K HCA hrd
  try simp only [Act.put, zA, zB, zC]
  (apply tree_take; (· rfl); (· rfl); (· (intro w' hb'; go_simp; try with_reducible rfl)); try simp only [Act.put, zA, zB, zC])
  (apply tree_take; (· rfl); (· rfl); (· (intro w' hb'; go_simp; try with_reducible rfl)); try simp only [Act.put, zA, zB, zC])
  (apply tree_take; (· rfl); (· rfl); (· (intro w' hb'; go_simp; try with_reducible rfl)); try simp only [Act.put, zA, zB, zC])
  have HRL := Lib.hid HRD.out
  have HGL := Lib.hid (Below.keepOld hbC HGM.out)
  have hyL := hyC
  skip
  refine tree_one rfl (by rfl) (fun K hK => oper_of_list rfl ?_)
  refine wpList_store_row rfl 65 _ _ rfl (w1.drew.heap.size) (rdA T' (appD d 0 (vputR v x))) rfl rfl 65 zD HGL.out (infoRD _ (rdA_size HRL.out.n3 HRL.out.m3)) (by rw [rdA_size HRL.out.n3 HRL.out.m3]; rfl) (rdA_one HRL.out.n3 HRL.out.m3) ?_
  have hyE := below_setRow hyL HG6L.out (rdA T' (appD d 0 (vputR v x)))
  have HGE := Lib.hid (setRow_heap _ _ _ (rdA T' (appD d 0 (vputR v x))) _ _ HGL.out)
  have HRE := Lib.hid (RDB.put (A := rdA T' (appD d 0 (vputR v x))) HRL.out HGL.out)
  refine only_end (Shut.out hK _ _ hyE ?_)
  clear hK K
  try simp only [Act.put]
  (apply tree_take; (· rfl); (· rfl); (· (intro w' hb'; go_simp; try with_reducible rfl)); try simp only [Act.put, zA, zB, zC])
  refine tree_nil ?_
  skip
  refine ⟨rfl, ?_⟩
  unfold MidP
  simp only [Act.put, zA, zB, zC]
  exact ⟨T', w1.drew.heap.size, p1, c1, 8 + x.length, p2, c2, _, _, _, _, _, _, rfl, hyE, HG6L.out, HGE.out, HRE.out⟩
end Go.Proofs.YtnejjfglkindjaaGreatDoor.Vlt
namespace Go.Proofs.YtnejjfglkindjaaGreatDoor.Slt
open Go.RowKit Go.Mir Dk Rol Wr
open Frm (frame one frame_length one_frame0 one_torn)
def wF (d : DD) (fz : Nat) (dn : Bool) : DD := ⟨d.fs, d.room, fz, dn⟩
theorem do_fz {d : DD} {i : Nat} {f : FD} {s : St} (h1 : d.down = false) (h : usedL d.fs - f.need + max f.need (s.size f.now.length) ≤ d.room) :
  (doE d i f s = 0 ∧ doD d i f s = wF (setF d i (f.take s)) (d.fuse - 1) false) ∨ (doE d i f s = 18 ∧ doD d i f s = wF (setF d i (f.take s)) 0 true) := by
 obtain ⟨fs, room, fuse, down⟩ := d
 have h1 : down = false := h1
 subst h1
 unfold doE doD
 rw [if_neg (show ¬ (DD.mk fs room fuse false).down = true from Bool.false_ne_true), if_neg (Nat.not_lt.2 h), if_neg (show ¬ (DD.mk fs room fuse false).down = true from Bool.false_ne_true), if_neg (Nat.not_lt.2 h)]
 unfold DD.burn setF wF
 dsimp only
 by_cases h0 : 0 < fuse
 ·rw [if_pos h0]
  by_cases h2 : fuse = 1
  ·subst h2; exact .inr ⟨rfl, rfl⟩
  ·rw [decide_eq_false h2]; exact .inl ⟨rfl, rfl⟩
 ·obtain rfl : fuse = 0 := by omega
  exact .inl ⟨rfl, rfl⟩
theorem sync_fz {d : DD} {i : Nat} {f : FD} (h1 : d.down = false) :
  (syncE d = 0 ∧ syncD d i f = wF (setF d i (f.settle (unitsAll f.steps))) (d.fuse - 1) false) ∨ (syncE d = 18 ∧ syncD d i f = wF d 0 true) := by
 obtain ⟨fs, room, fuse, down⟩ := d
 have h1 : down = false := h1
 subst h1
 unfold syncE syncD
 rw [if_neg (show ¬ (DD.mk fs room fuse false).down = true from Bool.false_ne_true), if_neg (show ¬ (DD.mk fs room fuse false).down = true from Bool.false_ne_true)]
 unfold DD.burn setF wF
 dsimp only
 by_cases h0 : 0 < fuse
 ·rw [if_pos h0]
  by_cases h2 : fuse = 1
  ·subst h2; exact .inr ⟨rfl, rfl⟩
  ·rw [decide_eq_false h2]; exact .inl ⟨rfl, rfl⟩
 ·obtain rfl : fuse = 0 := by omega
  exact .inl ⟨rfl, rfl⟩
theorem lay_nil (i : Nat) (d : DD) : layD i [] d = d := rfl
theorem wF_wF (d : DD) (a b : Nat) (x y : Bool) : wF (wF d a x) b y = wF d b y := rfl
theorem setF_wF (d : DD) (a : Nat) (x : Bool) (i : Nat) (f : FD) : setF (wF d a x) i f = wF (setF d i f) a x := rfl
theorem fD_wF (d : DD) (a : Nat) (x : Bool) (i : Nat) : fD (wF d a x) i = fD d i := rfl
def Torn (y fr : List UInt8) (g : FD) : Prop := g = ⟨y, [], [.cut 0], y.length⟩ ∨ g = ⟨[], fr, [.put fr], fr.length⟩
theorem put2_fz {d : DD} {i : Nat} {fr : List UInt8} (hi : i < d.fs.length) (h1 : d.down = false) (hf : fD d i = fS []) (hr : usedL d.fs + fr.length ≤ d.room) :
  (∃ k, layE i [.put fr, .sync] d = 0 ∧ layD i [.put fr, .sync] d = wF (setF d i (fS fr)) k false) ∨ (layE i [.put fr, .sync] d = 18 ∧ layD i [.put fr, .sync] d = wF (setF d i ⟨[], fr, [.put fr], fr.length⟩) 0 true) := by
 have ht : (fS []).take (.put fr) = ⟨[], fr, [.put fr], fr.length⟩ := by rw [take_put, List.nil_append, List.length_nil, Nat.zero_add]
 have hst : (⟨[], fr, [.put fr], fr.length⟩ : FD).settle (unitsAll [.put fr]) = fS fr := by
  have := settle_put [] fr fr.length
  rwa [List.nil_append] at this
 rcases do_fz (i := i) (f := fD d i) (s := .put fr) h1 (by rw [hf]; show usedL d.fs - 0 + max 0 (0 + fr.length) ≤ _; omega) with ⟨e1, e2⟩ | ⟨e1, e2⟩
 ·rw [hf, ht] at e2
  have e1' : stpE d i (.put fr) = 0 := e1
  have e2' : stpD d i (.put fr) = wF (setF d i ⟨[], fr, [.put fr], fr.length⟩) (d.fuse - 1) false := by
   show doD d i (fD d i) (.put fr) = _
   rw [hf]; exact e2
  obtain ⟨c1, c2⟩ := lay_ok (r := [.sync]) e1'
  rw [c1, c2, e2']
  have hfd : fD (wF (setF d i ⟨[], fr, [.put fr], fr.length⟩) (d.fuse - 1) false) i = ⟨[], fr, [.put fr], fr.length⟩ := fD_set hi _
  rcases sync_fz (d := wF (setF d i ⟨[], fr, [.put fr], fr.length⟩) (d.fuse - 1) false) (i := i) (f := ⟨[], fr, [.put fr], fr.length⟩) rfl with ⟨g1, g2⟩ | ⟨g1, g2⟩
  ·rw [hst, setF_wF, setF_setF, wF_wF] at g2
   obtain ⟨k1, k2⟩ := lay_ok (i := i) (a := .sync) (r := []) (d := wF (setF d i ⟨[], fr, [.put fr], fr.length⟩) (d.fuse - 1) false) g1
   rw [k1, k2]
   refine .inl ⟨d.fuse - 1 - 1, rfl, ?_⟩
   rw [lay_nil]
   show syncD _ i (fD _ i) = _
   rw [hfd]; exact g2
  ·rw [wF_wF] at g2
   have hne : ¬ stpE (wF (setF d i ⟨[], fr, [.put fr], fr.length⟩) (d.fuse - 1) false) i .sync = 0 := by
    show ¬ syncE _ = 0
    rw [g1]; decide
   obtain ⟨k1, k2⟩ := lay_no (r := []) hne
   rw [k1, k2]
   refine .inr ⟨g1, ?_⟩
   show syncD _ i (fD _ i) = _
   rw [hfd]; exact g2
 ·rw [hf, ht] at e2
  have hne : ¬ stpE d i (.put fr) = 0 := by
   show ¬ doE d i (fD d i) (.put fr) = 0
   rw [e1]; decide
  obtain ⟨c1, c2⟩ := lay_no (r := [.sync]) hne
  rw [c1, c2]
  refine .inr ⟨e1, ?_⟩
  show doD d i (fD d i) (.put fr) = _
  rw [hf]; exact e2
theorem lay_fz {d : DD} {i : Nat} {y fr : List UInt8} (hi : i < d.fs.length) (h1 : d.down = false) (hf : fD d i = fS y) (hr : usedL d.fs + fr.length ≤ d.room) :
  (∃ k, layE i (acts d i fr) d = 0 ∧ layD i (acts d i fr) d = wF (setF d i (fS fr)) k false) ∨ (layE i (acts d i fr) d = 18 ∧ ∃ g, Torn y fr g ∧ layD i (acts d i fr) d = wF (setF d i g) 0 true) := by
 have hm := usedL_mem hi
 rw [fD_eq hi, hf] at hm
 have hm : y.length ≤ usedL d.fs := hm
 unfold acts
 by_cases hfu : full d i = true
 ·rw [if_pos hfu]
  have ht : (fS y).take (.cut 0) = ⟨y, [], [.cut 0], y.length⟩ := by rw [take_cut y 0 (Nat.zero_le _), List.take_zero]
  have hst : (⟨y, [], [.cut 0], y.length⟩ : FD).settle (unitsAll [.cut 0]) = fS [] := by
   have := settle_cut y 0 y.length
   rwa [List.take_zero] at this
  rcases do_fz (i := i) (f := fD d i) (s := .cut 0) h1 (by rw [hf]; show usedL d.fs - y.length + max y.length 0 ≤ _; omega) with ⟨e1, e2⟩ | ⟨e1, e2⟩
  ·rw [hf, ht] at e2
   have e1' : stpE d i .cut = 0 := e1
   have e2' : stpD d i .cut = wF (setF d i ⟨y, [], [.cut 0], y.length⟩) (d.fuse - 1) false := by
    show doD d i (fD d i) (.cut 0) = _
    rw [hf]; exact e2
   obtain ⟨c1, c2⟩ := lay_ok (r := [.sync, .put fr, .sync]) e1'
   rw [c1, c2, e2']
   have hfd : fD (wF (setF d i ⟨y, [], [.cut 0], y.length⟩) (d.fuse - 1) false) i = ⟨y, [], [.cut 0], y.length⟩ := fD_set hi _
   rcases sync_fz (d := wF (setF d i ⟨y, [], [.cut 0], y.length⟩) (d.fuse - 1) false) (i := i) (f := ⟨y, [], [.cut 0], y.length⟩) rfl with ⟨g1, g2⟩ | ⟨g1, g2⟩
   ·rw [hst, setF_wF, setF_setF, wF_wF] at g2
    have g2' : stpD (wF (setF d i ⟨y, [], [.cut 0], y.length⟩) (d.fuse - 1) false) i .sync = wF (setF d i (fS [])) (d.fuse - 1 - 1) false := by
     show syncD _ i (fD _ i) = _
     rw [hfd]; exact g2
    obtain ⟨k1, k2⟩ := lay_ok (i := i) (a := .sync) (r := [.put fr, .sync]) (d := wF (setF d i ⟨y, [], [.cut 0], y.length⟩) (d.fuse - 1) false) g1
    rw [k1, k2, g2']
    have hu := used_setF hi (fS [])
    have hz : (fS []).need = 0 := rfl
    have hl : (wF (setF d i (fS [])) (d.fuse - 1 - 1) false).fs.length = d.fs.length := List.length_set
    have := put2_fz (d := wF (setF d i (fS [])) (d.fuse - 1 - 1) false) (i := i) (fr := fr) (by rw [hl]; exact hi) rfl (fD_set hi _) (by show usedL (setF d i (fS [])).fs + _ ≤ d.room; omega)
    rw [setF_wF, setF_setF, setF_wF, setF_setF] at this
    rcases this with ⟨k, a, b⟩ | ⟨a, b⟩
    ·exact .inl ⟨k, a, b⟩
    ·exact .inr ⟨a, _, .inr rfl, b⟩
   ·rw [wF_wF] at g2
    have hne : ¬ stpE (wF (setF d i ⟨y, [], [.cut 0], y.length⟩) (d.fuse - 1) false) i .sync = 0 := by
     show ¬ syncE _ = 0
     rw [g1]; decide
    obtain ⟨k1, k2⟩ := lay_no (r := [.put fr, .sync]) hne
    rw [k1, k2]
    refine .inr ⟨g1, _, .inl rfl, ?_⟩
    show syncD _ i (fD _ i) = _
    rw [hfd]; exact g2
  ·rw [hf, ht] at e2
   have hne : ¬ stpE d i .cut = 0 := by
    show ¬ doE d i (fD d i) (.cut 0) = 0
    rw [e1]; decide
   obtain ⟨c1, c2⟩ := lay_no (r := [.sync, .put fr, .sync]) hne
   rw [c1, c2]
   refine .inr ⟨e1, _, .inl rfl, ?_⟩
   show doD d i (fD d i) (.cut 0) = _
   rw [hf]; exact e2
 ·rw [if_neg hfu]
  have hn0 : y = [] := by
   refine List.length_eq_zero_iff.1 (Nat.eq_zero_of_not_pos fun h => hfu ?_)
   unfold full
   rw [hf, decide_eq_true (show 0 < (fS y).now.length from h)]
   rfl
  subst hn0
  rcases put2_fz hi h1 hf hr with ⟨k, a, b⟩ | ⟨a, b⟩
  ·exact .inl ⟨k, a, b⟩
  ·exact .inr ⟨a, _, .inr rfl, b⟩
theorem lay_dn {d : DD} {i : Nat} {fr : List UInt8} (h1 : d.down = true) : layE i (acts d i fr) d = 18 ∧ layD i (acts d i fr) d = d := by
 have h18 : ¬ (18 : Int) = 0 := by decide
 unfold acts
 split
 ·obtain ⟨a, b⟩ := do_dn (i := i) (f := fD d i) (s := .cut 0) h1
  have hne : ¬ stpE d i .cut = 0 := by show ¬ doE _ _ _ _ = 0; rw [b]; exact h18
  obtain ⟨c1, c2⟩ := lay_no (r := [.sync, .put fr, .sync]) hne
  rw [c1, c2]; exact ⟨b, a⟩
 ·obtain ⟨a, b⟩ := do_dn (i := i) (f := fD d i) (s := .put fr) h1
  have hne : ¬ stpE d i (.put fr) = 0 := by show ¬ doE _ _ _ _ = 0; rw [b]; exact h18
  obtain ⟨c1, c2⟩ := lay_no (r := [.sync]) hne
  rw [c1, c2]; exact ⟨b, a⟩
def opS (y1 y2 : List UInt8) : SS := bet (bet ⟨-1, 0, []⟩ 1 y1) 2 y2
theorem opnS_is (d : DD) : opnS d 1 2 = opS (fD d 1).now (fD d 2).now := rfl
structure Cur (y1 y2 : List UInt8) (s : SS) : Prop where
 how : (s = ⟨-1, 0, []⟩ ∧ (loadP y1).1 = 0 ∧ (loadP y2).1 = 0) ∨ (s.now = 1 ∧ 1 ≤ s.turn ∧ loadP y1 = (s.turn, s.body) ∧ (loadP y2).1 < s.turn) ∨ (s.now = 2 ∧ 1 ≤ s.turn ∧ loadP y2 = (s.turn, s.body) ∧ (loadP y1).1 < s.turn)
theorem bet_no {s : SS} {f : Nat} {l : List UInt8} (h : (loadP l).1 ≤ s.turn) : bet s f l = s := if_neg (by omega)
theorem Cur.op {y1 y2 : List UInt8} {s : SS} (h : Cur y1 y2 s) : opS y1 y2 = s := by
 obtain ⟨now, turn, body⟩ := s
 unfold opS
 rcases h.how with ⟨e, a, b⟩ | ⟨e, h1, a, b⟩ | ⟨e, h1, a, b⟩
 ·rw [bet_no (s := ⟨-1, 0, []⟩) (f := 1) (l := y1) (by rw [a]; exact Nat.zero_le _), bet_no (by rw [b]; exact Nat.zero_le _), e]
 ·have e : now = 1 := e
  have a : loadP y1 = (turn, body) := a
  subst e
  have h2 : bet ⟨-1, 0, []⟩ 1 y1 = ⟨1, turn, body⟩ := by unfold bet; rw [a]; exact if_pos h1
  rw [h2]
  exact bet_no (Nat.le_of_lt b)
 ·have e : now = 2 := e
  have a : loadP y2 = (turn, body) := a
  have b : (loadP y1).1 < turn := b
  subst e
  have h2 : (bet ⟨-1, 0, []⟩ 1 y1).turn < turn := by
   unfold bet
   split
   ·exact b
   ·exact h1
  unfold bet at h2 ⊢
  rw [a]
  exact if_pos h2
theorem Cur.other {y1 y2 : List UInt8} {s : SS} (h : Cur y1 y2 s) (z : List UInt8) (hz : (loadP z).1 = 0) : (nxt s 1 2 = 1 ∧ Cur z y2 s) ∨ (nxt s 1 2 = 2 ∧ Cur y1 z s) := by
 obtain ⟨now, turn, body⟩ := s
 rcases h.how with ⟨e, a, b⟩ | ⟨e, h1, a, b⟩ | ⟨e, h1, a, b⟩
 ·refine .inl ⟨?_, ⟨.inl ⟨e, hz, b⟩⟩⟩
  rw [e]; rfl
 ·have e : now = 1 := e
  subst e
  exact .inr ⟨rfl, ⟨.inr (.inl ⟨rfl, h1, a, by rw [hz]; exact h1⟩)⟩⟩
 ·have e : now = 2 := e
  subst e
  exact .inl ⟨rfl, ⟨.inr (.inr ⟨rfl, h1, a, by rw [hz]; exact h1⟩)⟩⟩
theorem Cur.next {y1 y2 : List UInt8} {s : SS} (h : Cur y1 y2 s) (x : List UInt8) (hx : x.length ≤ 65528) (ht : s.turn + 1 < 18446744073709551616) :
  (nxt s 1 2 = 1 ∧ Cur (wrapB s x) y2 ⟨1, s.turn + 1, x⟩) ∨ (nxt s 1 2 = 2 ∧ Cur y1 (wrapB s x) ⟨2, s.turn + 1, x⟩) := by
 have hl : loadP (wrapB s x) = (s.turn + 1, x) := load_frame _ _ ht hx
 obtain ⟨now, turn, body⟩ := s
 rcases h.how with ⟨e, a, b⟩ | ⟨e, h1, a, b⟩ | ⟨e, h1, a, b⟩
 ·refine .inl ⟨by rw [e]; rfl, ⟨.inr (.inl ⟨rfl, by show 1 ≤ turn + 1; omega, hl, by show _ < turn + 1; omega⟩)⟩⟩
 ·have e : now = 1 := e
  subst e
  exact .inr ⟨rfl, ⟨.inr (.inr ⟨rfl, by show 1 ≤ turn + 1; omega, hl, by rw [a]; show turn < turn + 1; omega⟩)⟩⟩
 ·have e : now = 2 := e
  subst e
  exact .inl ⟨rfl, ⟨.inr (.inl ⟨rfl, by show 1 ≤ turn + 1; omega, hl, by rw [a]; show turn < turn + 1; omega⟩)⟩⟩
structure Up (d : DD) (y1 y2 : List UInt8) (s : SS) : Prop where
 m3 : d.fs.length = 3
 room : d.room = 65536
 f0 : fD d 0 = FD.none
 f1 : fD d 1 = fS y1
 f2 : fD d 2 = fS y2
 cur : Cur y1 y2 s
theorem used3 {d : DD} (h : d.fs.length = 3) : usedL d.fs = (fD d 0).need + (fD d 1).need + (fD d 2).need := by
 obtain ⟨fs, room, fuse, down⟩ := d
 obtain ⟨a, b, c, rfl⟩ := list3 h
 show a.need + (b.need + (c.need + 0)) = a.need + b.need + c.need
 omega
theorem Up.used {d : DD} {y1 y2 : List UInt8} {s : SS} (h : Up d y1 y2 s) : usedL d.fs = y1.length + y2.length := by
 rw [used3 h.m3, h.f0, h.f1, h.f2]
 show 0 + y1.length + y2.length = _
 omega
theorem Up.wF {d : DD} {y1 y2 : List UInt8} {s : SS} (h : Up d y1 y2 s) (k : Nat) (x : Bool) : Up (wF d k x) y1 y2 s := ⟨h.m3, h.room, h.f0, h.f1, h.f2, h.cur⟩
theorem wrapB_len (s : SS) (x : List UInt8) : (wrapB s x).length = 16 + x.length := by unfold wrapB; rw [frame_length, List.length_append, be_length]; omega
structure Dn (d : DD) (s : SS) (x : List UInt8) : Prop where
 down : d.down = true
 was : ∃ d0 y1 y2 g, Up d0 y1 y2 s ∧ d = Slt.wF (setF d0 (nxt s 1 2) g) 0 true ∧ Torn (if nxt s 1 2 = 1 then y1 else y2) (wrapB s x) g ∧ y1.length ≤ 2000 ∧ y2.length ≤ 2000
theorem nxt12 (s : SS) : nxt s 1 2 = 1 ∨ nxt s 1 2 = 2 := by unfold nxt; split; exact .inr rfl; exact .inl rfl
theorem fD_crash {us : List Int} {d : DD} (h : d.fs.length = 3) (k : Nat) (hk : k < 3) : fD (crashD us d) k = (fD d k).settle (crU us k (fD d k)) := by
 obtain ⟨fs, room, fuse, down⟩ := d
 obtain ⟨a, b, c, rfl⟩ := list3 h
 match k, hk with
 | 0, _ => rfl
 | 1, _ => rfl
 | 2, _ => rfl
theorem settle_fS (y : List UInt8) (u : Nat) : (fS y).settle u = fS y := rfl
theorem torn_settle {y fr : List UInt8} {g : FD} (h : Torn y fr g) (u : Nat) (hu : u ≤ unitsAll g.steps) : ∃ z, g.settle u = fS z ∧ (z = y ∨ z = [] ∨ ∃ k, k ≤ fr.length ∧ z = fr.take k) := by
 rcases h with rfl | rfl
 ·refine ⟨someU y [.cut 0] u, rfl, ?_⟩
  show (if min u 1 = 0 then y else y.take 0) = y ∨ (if min u 1 = 0 then y else y.take 0) = [] ∨ _
  split
  ·exact .inl rfl
  ·exact .inr (.inl List.take_zero)
 ·have hu : u ≤ fr.length + 0 := hu
  have e : someU [] [.put fr] u = fr.take u := by
   show (St.put fr).act [] (min u fr.length) = _
   rw [Nat.min_eq_left (by omega)]; rfl
  refine ⟨fr.take u, ?_, .inr (.inr ⟨u, by omega, rfl⟩)⟩
  show (⟨someU [] _ _, someU [] _ _, [], (someU [] _ _).length⟩ : FD) = _
  rw [e]; rfl
theorem Up.crash {d : DD} {y1 y2 : List UInt8} {s : SS} (h : Up d y1 y2 s) (us : List Int) : Up (crashD us d) y1 y2 s := by
 have e0 := fD_crash (us := us) h.m3 0 (by omega)
 have e1 := fD_crash (us := us) h.m3 1 (by omega)
 have e2 := fD_crash (us := us) h.m3 2 (by omega)
 rw [h.f0] at e0
 rw [h.f1, settle_fS] at e1
 rw [h.f2, settle_fS] at e2
 refine ⟨?_, h.room, e0, e1, e2, h.cur⟩
 obtain ⟨fs, room, fuse, down⟩ := d
 obtain ⟨a, b, c, rfl⟩ := list3 h.m3
 rfl
theorem Up.told {d : DD} {y1 y2 : List UInt8} {s : SS} (h : Up d y1 y2 s) : opnS d 1 2 = s := by
 rw [opnS_is, h.f1, h.f2]
 exact h.cur.op
theorem Dn.crash {d : DD} {s : SS} {x : List UInt8} (h : Dn d s x) (hx : x.length ≤ 1000) (ht : s.turn + 1 < 18446744073709551616) (us : List Int) :
  ∃ z1 z2 s', Up (crashD us d) z1 z2 s' ∧ z1.length ≤ 2000 ∧ z2.length ≤ 2000 ∧ (s' = s ∨ (s'.turn = s.turn + 1 ∧ s'.body = x)) := by
 obtain ⟨d0, y1, y2, g, hu, rfl, hg, l1, l2⟩ := h.was
 have hw := wrapB_len s x
 have hm : (Slt.wF (setF d0 (nxt s 1 2) g) 0 true).fs.length = 3 := by show (List.set _ _ _).length = 3; rw [List.length_set]; exact hu.m3
 have e0 := fD_crash (us := us) hm 0 (by omega)
 have e1 := fD_crash (us := us) hm 1 (by omega)
 have e2 := fD_crash (us := us) hm 2 (by omega)
 have hm3 : (crashD us (Slt.wF (setF d0 (nxt s 1 2) g) 0 true)).fs.length = 3 := by
  generalize Slt.wF (setF d0 (nxt s 1 2) g) 0 true = D at hm
  obtain ⟨fs, room, fuse, down⟩ := D
  obtain ⟨a, b, c, rfl⟩ := list3 hm
  rfl
 have hi : nxt s 1 2 < d0.fs.length := by rcases nxt12 s with e | e <;> rw [e, hu.m3] <;> omega
 have hroom : (crashD us (Slt.wF (setF d0 (nxt s 1 2) g) 0 true)).room = 65536 := hu.room
 have hz0 : ∀ k, k < (wrapB s x).length → (loadP ((wrapB s x).take k)).1 = 0 := fun k hk => by
  have := load_torn (s.turn + 1) x (by omega) k (by omega)
  unfold wrapB
  rw [this]
 rcases nxt12 s with e | e
 ·rw [e] at hi hg e0 e1 e2 hm3 hroom ⊢
  rw [fD_wF, fD_other (by omega), hu.f0] at e0
  rw [fD_wF, fD_other (by omega), hu.f2, settle_fS] at e2
  rw [fD_wF, fD_set hi] at e1
  obtain ⟨z, hz, hc⟩ := torn_settle hg _ (crU_le (us := us) (k := 1) (f := g))
  rw [hz] at e1
  rw [if_pos rfl] at hc
  have mk : ∀ s', Cur z y2 s' → Up (crashD us (Slt.wF (setF d0 1 g) 0 true)) z y2 s' := fun s' c => ⟨hm3, hroom, e0, e1, e2, c⟩
  rcases hc with rfl | rfl | ⟨k, hk, rfl⟩
  ·exact ⟨_, _, s, mk _ hu.cur, l1, l2, .inl rfl⟩
  ·rcases hu.cur.other [] rfl with ⟨_, c⟩ | ⟨q, _⟩
   ·exact ⟨_, _, s, mk _ c, by simp, l2, .inl rfl⟩
   ·rw [e] at q; exact absurd q (by decide)
  ·have hlk : ((wrapB s x).take k).length ≤ 2000 := by rw [List.length_take]; omega
   by_cases hkl : k < (wrapB s x).length
   ·rcases hu.cur.other _ (hz0 k hkl) with ⟨_, c⟩ | ⟨q, _⟩
    ·exact ⟨_, _, s, mk _ c, hlk, l2, .inl rfl⟩
    ·rw [e] at q; exact absurd q (by decide)
   ·have hall : (wrapB s x).take k = wrapB s x := List.take_of_length_le (by omega)
    rw [hall] at mk hlk
    rcases hu.cur.next x (by omega) ht with ⟨_, c⟩ | ⟨q, _⟩
    ·exact ⟨_, _, _, mk _ c, hlk, l2, .inr ⟨rfl, rfl⟩⟩
    ·rw [e] at q; exact absurd q (by decide)
 ·rw [e] at hi hg e0 e1 e2 hm3 hroom ⊢
  rw [fD_wF, fD_other (by omega), hu.f0] at e0
  rw [fD_wF, fD_other (by omega), hu.f1, settle_fS] at e1
  rw [fD_wF, fD_set hi] at e2
  obtain ⟨z, hz, hc⟩ := torn_settle hg _ (crU_le (us := us) (k := 2) (f := g))
  rw [hz] at e2
  rw [if_neg (by decide)] at hc
  have mk : ∀ s', Cur y1 z s' → Up (crashD us (Slt.wF (setF d0 2 g) 0 true)) y1 z s' := fun s' c => ⟨hm3, hroom, e0, e1, e2, c⟩
  rcases hc with rfl | rfl | ⟨k, hk, rfl⟩
  ·exact ⟨_, _, s, mk _ hu.cur, l1, l2, .inl rfl⟩
  ·rcases hu.cur.other [] rfl with ⟨q, _⟩ | ⟨_, c⟩
   ·rw [e] at q; exact absurd q (by decide)
   ·exact ⟨_, _, s, mk _ c, l1, by simp, .inl rfl⟩
  ·have hlk : ((wrapB s x).take k).length ≤ 2000 := by rw [List.length_take]; omega
   by_cases hkl : k < (wrapB s x).length
   ·rcases hu.cur.other _ (hz0 k hkl) with ⟨q, _⟩ | ⟨_, c⟩
    ·rw [e] at q; exact absurd q (by decide)
    ·exact ⟨_, _, s, mk _ c, l1, hlk, .inl rfl⟩
   ·have hall : (wrapB s x).take k = wrapB s x := List.take_of_length_le (by omega)
    rw [hall] at mk hlk
    rcases hu.cur.next x (by omega) ht with ⟨q, _⟩ | ⟨_, c⟩
    ·rw [e] at q; exact absurd q (by decide)
    ·exact ⟨_, _, _, mk _ c, l1, hlk, .inr ⟨rfl, rfl⟩⟩
end Go.Proofs.YtnejjfglkindjaaGreatDoor.Slt
namespace Go.Proofs.YtnejjfglkindjaaGreatDoor.Vlt
open Go.RowKit Go.Mir Dk Rol Wr Slt Rk
open Frm (frame scan frame_length)
theorem fDb (d : DD) (i : Nat) : fD d.burn i = fD d i := by unfold fD; rw [(Rk.burn_fs d).1]
theorem do_okF {d : DD} {i : Nat} {s : St} (hi : i < d.fs.length) (hok : (fD d i).Ok) (hs : s.ok (fD d i).now.length) (hu : s.units ≤ 65536) : (fD (doD d i (fD d i) s) i).Ok := by
 unfold doD
 split
 ·exact hok
 ·split
  ·exact hok
  ·rw [fDb, fD_set hi]; exact FD.take_ok hok hs hu
theorem sync_okF {d : DD} {i : Nat} (hi : i < d.fs.length) (hok : (fD d i).Ok) : (fD (syncD d i (fD d i)) i).Ok := by
 unfold syncD
 split
 ·exact hok
 ·split
  ·rw [fDb]; exact hok
  ·rw [fD_set (by rw [(Rk.burn_fs d).1]; exact hi)]; exact FD.settle_ok _ _
theorem do_lenF (d : DD) (i : Nat) (f : FD) (s : St) : (doD d i f s).fs.length = d.fs.length := by
 unfold doD
 split
 ·rfl
 ·split
  ·rfl
  ·rw [(Rk.burn_fs _).1]; show (d.fs.set i _).length = _; rw [List.length_set]
theorem sync_lenF (d : DD) (i : Nat) (f : FD) : (syncD d i f).fs.length = d.fs.length := by
 unfold syncD
 split
 ·rfl
 ·split
  ·rw [(Rk.burn_fs _).1]
  ·show (d.burn.fs.set i _).length = _; rw [List.length_set, (Rk.burn_fs _).1]
theorem lay_used (i : Nat) : ∀ (l : List LA) (d : DD), i < d.fs.length → (fD d i).Ok → usedL d.fs ≤ d.room → (∀ b, LA.put b ∈ l → b.length ≤ 65536) → usedL (layD i l d).fs ≤ (layD i l d).room
 | [], _, _, _, h, _ => h
 | a :: r, d, hi, hok, hu, hb => by
  have key : i < (stpD d i a).fs.length ∧ (fD (stpD d i a) i).Ok ∧ usedL (stpD d i a).fs ≤ (stpD d i a).room := by
   cases a with
   | cut => exact ⟨by show i < (doD _ _ _ _).fs.length; rw [do_lenF]; exact hi, do_okF hi hok (Nat.zero_le _) (by show 1 ≤ 65536; omega), used_doD hi hu⟩
   | sync => exact ⟨by show i < (syncD _ _ _).fs.length; rw [sync_lenF]; exact hi, sync_okF hi hok, used_synD hi hok hu⟩
   | put b => exact ⟨by show i < (doD _ _ _ _).fs.length; rw [do_lenF]; exact hi, do_okF hi hok trivial (hb b (List.mem_cons_self ..)), used_doD hi hu⟩
  unfold layD
  split
  ·exact lay_used i r _ key.1 key.2.1 key.2.2 (fun b h => hb b (List.mem_cons_of_mem _ h))
  ·exact key.2.2
theorem putS_used {d : DD} {s : SS} {x : List UInt8} (h3 : d.fs.length = 3) (hok : ∀ i, i < 3 → (fD d i).Ok) (hu : usedL d.fs ≤ d.room) (hx : x.length ≤ 60000) : usedL (putSD d s 1 2 x).fs ≤ (putSD d s 1 2 x).room := by
 unfold putSD
 split
 ·have h12 := nxt12 s
  refine lay_used _ _ d (by omega) (hok _ (by omega)) hu (fun b hb => ?_)
  have : b = wrapB s x := by
   unfold acts at hb
   split at hb
   ·simpa using hb
   ·simpa using hb
  rw [this, wrapB_len]
  omega
 ·exact hu
end Go.Proofs.YtnejjfglkindjaaGreatDoor.Vlt
namespace Go.Proofs.YtnejjfglkindjaaGreatDoor.Slt
open Go.RowKit Go.Mir Go.Mir.Parts Dk Rol Wr
open Frm (frame)
theorem snew (room : Nat) (w : World) (h : 1 ≤ room ∧ room ≤ 65536) :
  Calls Tryz.prog 16 #[.int .i64 (room : Int)] w fun e w' => ∃ db, e = .returned (.tuple #[.pointer (some ⟨db, 0, none⟩), .int .i64 0]) ∧ DX w.heap.size db (DD.new room) w' ∧ Below w.heap.size w w' := by
 refine (new_any room w h).mono ?_
 rintro e w' ⟨db, vs, he, hd, hb⟩
 exact ⟨db, he, ⟨hb.size, vs, hd⟩, hb⟩
theorem sarm {base db : Nat} {d : DD} (w : World) (h : DX base db d w) (n : Int) (hn : n ≤ 9223372036854775807) :
  Calls Tryz.prog 17 #[.pointer (some ⟨db, 0, none⟩), .int .i64 n] w fun e w' => e = .returned (.tuple #[]) ∧ DX base db ⟨d.fs, d.room, n.toNat, d.down⟩ w' ∧ KT base w w' := by
 obtain ⟨h0, vs, h1⟩ := h
 refine (arm_any w h1 n hn).mono ?_
 rintro e w' ⟨he, hd, ht⟩
 exact ⟨he, DX.left h1 h0 (LeftD.row h1 hd ht)⟩
theorem scrash {base db : Nat} {d : DD} (w : World) (h : DX base db d w) (us : List Int) (p : Option Addr) (c : Nat) (hN : Ns w p us.length c us) (hap : ∀ a, p = some a → ¬ DTy base w a.block ∧ a.block < w.heap.size) :
  Calls Tryz.prog 20 #[.pointer (some ⟨db, 0, none⟩), .slice p us.length c] w fun e w' => e = .returned (.tuple #[]) ∧ DX base db (crashD us d) w' ∧ KT base w w' := by
 obtain ⟨h0, vs, h1⟩ := h
 refine (crash_any w h1 h0 us p c hN (fun a ha => ⟨fun ho => (hap a ha).1 (dat_dty h1 _ ho), (hap a ha).2⟩)).mono ?_
 rintro e w' ⟨he, hl⟩
 exact ⟨he, DX.left h1 h0 hl⟩
theorem bs_row {w : World} {g : Nat} {cur : Array Value} {t : TypeId} {fr : Nat × Nat} {l : List UInt8} (hr : w.heap[g]? = some (.cells cur t fr)) (hc : cur.toList = bytesV l) (hm : l.length ≤ 9223372036854775807) : Bs w (some ⟨g, 0, none⟩) l.length l.length l :=
 ⟨by rw [bytesV_length, Nat.mul_one], Nat.le_refl _, hm, fun h => (by cases h), fun a ha j u hu => by
  obtain rfl := Option.some.inj ha
  rw [add_none, cell_of_row _ _ _ _ _ _ hr, ← Array.getElem?_toList, hc, Nat.zero_add]
  exact hu⟩
theorem few_new (room : Nat) : ∀ j, (fD (DD.new room) j).steps.length ≤ 0
 | 0 => Nat.le_refl _
 | 1 => Nat.le_refl _
 | 2 => Nat.le_refl _
 | _ + 3 => Nat.le_refl _
theorem opn_new (room a b : Nat) (ha : a < 3) (hb : b < 3) : opnS (DD.new room) a b = ⟨-1, 0, []⟩ := by
 have h : ∀ i, i < 3 → (fD (DD.new room) i).now = [] := fun i hi => by
  match i, hi with
  | 0, _ => rfl
  | 1, _ => rfl
  | 2, _ => rfl
 unfold opnS
 rw [h a ha, h b hb]
 rfl
end Go.Proofs.YtnejjfglkindjaaGreatDoor.Slt
namespace Go.Proofs.YtnejjfglkindjaaGreatDoor.Slt
open Go.RowKit Go.Mir Go.Mir.Parts
structure SOp where
 kind : Int
 n : Int
 m : Int
 b : List UInt8
def sopA (o : SOp) (pb : Option Addr) (cb : Nat) : Array Value := #[.int .i64 o.kind, .int .i64 o.n, .int .i64 o.m, .slice pb o.b.length cb]
structure SOpAt (w : World) (cs : List Value) (o : SOp) : Prop where
 form : ∃ pb cb, cs = (sopA o pb cb).toList ∧ Bs w pb o.b.length cb o.b
 kindB : -9223372036854775808 ≤ o.kind ∧ o.kind ≤ 9223372036854775807
 nB : -9223372036854775808 ≤ o.n ∧ o.n ≤ 9223372036854775807
 mB : -9223372036854775808 ≤ o.m ∧ o.m ≤ 9223372036854775807
theorem SOpAt.below {w w' : World} {cs : List Value} {o : SOp} (h : SOpAt w cs o) (hb : Below w.heap.size w w') : SOpAt w' cs o := by
 obtain ⟨pb, cb, h1, h2⟩ := h.form
 exact ⟨⟨pb, cb, h1, h2.below hb⟩, h.kindB, h.nB, h.mB⟩
structure SOps (w : World) (p : Option Addr) (n c : Nat) (os : List SOp) (rows : List (List Value)) : Prop where
 rs : Rs w p n c 4 rows
 count : os.length = n
 each : ∀ (i : Nat) r o, rows[i]? = some r → os[i]? = some o → SOpAt w r o
theorem SOps.below {w w' : World} {p : Option Addr} {n c : Nat} {os : List SOp} {rows : List (List Value)} (h : SOps w p n c os rows) (hb : Below w.heap.size w w') : SOps w' p n c os rows :=
 ⟨h.rs.below hb, h.count, fun i r o h1 h2 => (h.each i r o h1 h2).below hb⟩
theorem SOps.at {w : World} {b o n c : Nat} {os : List SOp} {rows : List (List Value)} (h : SOps w (some ⟨b, o, none⟩) n c os rows) (k : Nat) (hk : k < os.length) : ∃ pb cb, Bs w pb os[k].b.length cb os[k].b ∧ w.rangeAt b (o + k * 4) (sopA os[k] pb cb).toList := by
 have hkr : k < rows.length := by rw [h.rs.count, ← h.count]; exact hk
 obtain ⟨pb, cb, e, h1⟩ := (h.each k _ os[k] (List.getElem?_eq_getElem hkr) (List.getElem?_eq_getElem hk)).form
 refine ⟨pb, cb, h1, ?_⟩
 rw [← e]
 exact h.rs.row k hkr
def bsum : List SOp → Nat
 | [] => 0
 | o :: r => o.b.length + bsum r
theorem bsum_take_succ : ∀ (l : List SOp) (k : Nat) (h : k < l.length), bsum (l.take (k + 1)) = bsum (l.take k) + (l[k]).b.length
 | o :: r, 0, _ => by simp [bsum]
 | o :: r, k + 1, h => by
  have := bsum_take_succ r k (by simpa using h)
  simp only [List.take_succ_cons, bsum, List.getElem_cons_succ, this]; omega
theorem bsum_take_le : ∀ (l : List SOp) (k : Nat), bsum (l.take k) ≤ bsum l
 | [], _ => by simp [bsum]
 | o :: r, 0 => by simp [bsum]
 | o :: r, k + 1 => by
  have := bsum_take_le r k
  simp only [List.take_succ_cons, bsum]; omega
end Go.Proofs.YtnejjfglkindjaaGreatDoor.Slt
namespace Go.Proofs.YtnejjfglkindjaaGreatDoor.Slt
open Go.RowKit Go.Mir Go.Mir.Parts Dk Rol Rk Wr
open Frm (frame one)
structure BodyOk (s : SS) : Prop where
 no : s.turn = 0 → s.body = []
 len : s.body.length ≤ 100000
theorem BodyOk.put {d : DD} {s : SS} {a b : Nat} {x : List UInt8} (h : BodyOk s) (hx : x.length ≤ 1000) : BodyOk (putSS d s a b x) := by
 unfold putSS
 split
 ·exact ⟨fun h0 => absurd h0 (by show ¬ s.turn + 1 = 0; omega), by show x.length ≤ _; omega⟩
 ·exact h
theorem few_stpD {d : DD} {i N : Nat} {a : LA} (h : FewD d N) : FewD (stpD d i a) (N + 1) := by
 cases a with
 | cut => exact h.doD (fewfd h)
 | sync => exact (FewD.syncD h).mono (by omega)
 | put b => exact h.doD (fewfd h)
theorem few_layD : ∀ (i : Nat) (l : List LA) {d : DD} {N : Nat}, FewD d N → FewD (layD i l d) (N + l.length)
 | _, [], _, _, h => h
 | i, a :: r, d, N, h => by
  unfold layD
  split
  ·exact (few_layD i r (few_stpD h)).mono (by simp only [List.length_cons]; omega)
  ·exact (few_stpD h).mono (by simp only [List.length_cons]; omega)
theorem few_putSD {d : DD} {s : SS} {a b N : Nat} {x : List UInt8} (h : FewD d N) : FewD (putSD d s a b x) (N + 4) := by
 unfold putSD
 split
 ·refine (few_layD _ _ h).mono ?_
  unfold acts
  split
  ·exact Nat.le_refl _
  ·show N + 2 ≤ N + 4; omega
 ·exact h.mono (by omega)
theorem few_crash {d : DD} (us : List Int) : FewD (crashD us d) 0 := fun f hf => by
 have := crF_few us d.fs 0 f hf
 omega
def S2 (base n : Nat) (X w' : World) : Prop := Turns (fun k => STy base X k ∨ k = n + 3 ∨ k = n + 4) X w'
theorem S2.row {base n : Nat} {a b : World} (h : S2 base n a b) {k : Nat} {M : Array Value} {t : TypeId} {fr : Nat × Nat} (hr : a.heap[k]? = some (.cells M t fr)) (h1 : t ≠ 105) (h2 : t ≠ 165) (h3 : t ≠ 133) (hk : k ≠ n + 3 ∧ k ≠ n + 4) : b.heap[k]? = some (.cells M t fr) :=
 Turns.keep h hr (fun hs => by
  rcases hs with ⟨_, M', t', fr', e, ht⟩ | e | e
  ·rw [hr] at e
   injection e with e1
   injection e1 with _ e2
   subst e2
   rcases ht with ht | ht | ht
   ·exact h1 ht
   ·exact h2 ht
   ·exact h3 ht
  ·exact hk.1 e
  ·exact hk.2 e)
theorem S2.set {base n g : Nat} {X Y : World} {A : Array Value} (h : S2 base n X Y) (hg : g = n + 3 ∨ g = n + 4) : S2 base n X (Y.setRow g A) :=
 ⟨h.os, h.tape, h.output, by have := h.size; simpa [World.setRow] using this, fun i hi hS => by
  rw [setRow_other _ _ _ _ (fun e => hS (.inr (by rw [e]; exact hg)))]
  exact h.block i hi hS⟩
theorem rarm_ox (T : List RF) (d : DD) (n : Int) (w : World) (h : RDB w T d) (hn : n ≤ 9223372036854775807) :
  Calls Tryz.prog 31 #[.agg (rdA T d), .int .i64 n] w (CrOx ⟨d.fs, d.room, n.toNat, d.down⟩ w) :=
 (rarm_any T d n w h.n3 h.m3).mono fun e w' ⟨he, hb⟩ => ⟨T, he, (⟨h.n3, h.m3, h.each, h.room1, (show n.toNat ≤ _ by omega), h.used⟩ : RDB w T ⟨d.fs, d.room, n.toNat, d.down⟩).below hb, hb⟩
theorem ns3 (w : World) (x y z : Int) (hx : -9223372036854775808 ≤ x ∧ x ≤ 9223372036854775807) (hy : -9223372036854775808 ≤ y ∧ y ≤ 9223372036854775807) (hz : -9223372036854775808 ≤ z ∧ z ≤ 9223372036854775807) : Ns (w.alloc (.cells #[.int .i64 x, .int .i64 y, .int .i64 z] 3)) (some ⟨w.heap.size, 0, none⟩) [x, y, z].length 3 [x, y, z] :=
 ns_lit w 3 [x, y, z] (show 3 ≤ 65536 by decide) (fun u hu => by
  simp only [List.mem_cons, List.not_mem_nil, or_false] at hu
  rcases hu with rfl | rfl | rfl
  ·exact hx
  ·exact hy
  ·exact hz)
theorem own3 (base : Nat) (w : World) (x y z : Int) : ∀ a, some (⟨w.heap.size, 0, none⟩ : Addr) = some a → ¬ DTy base (w.alloc (.cells #[.int .i64 x, .int .i64 y, .int .i64 z] 3)) a.block ∧ a.block < (w.alloc (.cells #[.int .i64 x, .int .i64 y, .int .i64 z] 3)).heap.size := fun a ha => by
 obtain rfl := Option.some.inj ha
 refine ⟨fun hk => ?_, by simp⟩
 obtain ⟨_, M, t, fr, e, ht⟩ := hk
 have e0 := heap_alloc_last w (.cells #[.int .i64 x, .int .i64 y, .int .i64 z] 3)
 rw [e0] at e
 injection e with e1
 injection e1 with _ e2
 subst e2
 rcases ht with h | h <;> exact absurd h (by decide)
end Go.Proofs.YtnejjfglkindjaaGreatDoor.Slt
