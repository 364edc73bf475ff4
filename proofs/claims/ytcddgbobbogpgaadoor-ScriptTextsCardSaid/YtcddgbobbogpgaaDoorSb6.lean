/- PARTS, JOINED: SCRIPTS: what an event of a kind may have, both ways. Conditions: one of the six kinds. A REGION THAT DRAWS ITS ORDER, WALKED IN ONE ORDER, WHOSE LAST OPERATIONS MAY TURN WHAT THE EARLIER ONES READ. No program is named. Conditions: none. SCRIPTS: Line. Conditions: at most 100000 bytes, and ids. -/
import Derived.Test.YtcddgbobbogpgaaDoorSb1
import Derived.Test.YtcddgbobbogpgaaDoorSb2
import Derived.Test.YtcddgbobbogpgaaDoorSb3
import Derived.Test.YtcddgbobbogpgaaDoorSb4
import Derived.Test.YtcddgbobbogpgaaDoorSb5
namespace Go.Proofs.YtcddgbobbogpgaaDoor.Scr
open Go.RowKit Go.Mir Go.Mir.Hx Go.Mir.Parts HexW Rpl

theorem zero_i64 : i64B 0 := ⟨by decide, by decide⟩
set_option maxRecDepth 100000 in
set_option maxHeartbeats 1600000 in
theorem only1 (b hh p : List UInt8) (tx : List (List UInt8)) (id : List UInt8) (n u0 u1 u2 : Int) (pb : Option Addr) (cb : Nat) (q : Option Addr) (c : Nat) (w : World) (h : EvAt w ⟨1, b, hh, p, tx, id, n, u0, u1, u2⟩ pb cb q c) :
    Calls Tryd.prog 20 #[.agg (evA ⟨1, b, hh, p, tx, id, n, u0, u1, u2⟩ pb cb q c)] w (EvP ⟨1, b, zeros, zeros, [], zeros, 0, 0, 0, 0⟩ w) := by
  have HIN := Lib.hid h
  skip
  -- up to the switch; the new event's row HEW at world w3, its box g3; the kind 1
  have hz := zeroE
  obtain ⟨a1, a2, a3, a4⟩ := Go.Mir.two_allocs w (.cells (evA ⟨1, b, hh, p, tx, id, n, u0, u1, u2⟩ pb cb q c) 31) (.cells zE 31)
  have HC := Lib.hid (ev_row h.wf a1)
  have HB := Lib.hid a4
  have HZ := Lib.hid a2
  have HR1 := Lib.hid a1
  have HAT := Lib.hid (h.below a4)
  have hk : _ = some (Value.int .i64 1) := HC.out.k
  have HS3 := Lib.hid a3
  have HWF := Lib.hid h.wf
  obtain ⟨A, hA⟩ : ∃ A, A = evA ⟨1, b, hh, p, tx, id, n, u0, u1, u2⟩ pb cb q c := ⟨_, rfl⟩
  rw [← hA]
  rw [← hA] at HC HB HZ hk HAT HS3 HR1
  have HAE := Lib.hid hA
  clear a1 a2 a3 a4 h hA
  go_enter Tryd.func20, Tryd.ntmps20
  go_upto_region 1 with fail
  generalize (w.alloc (.cells A 31)).alloc (.cells zE 31) = w1 at *
  have hal := Below.allocs w1 (.cells zE 31)
  have hnew := heap_alloc_last w1 (.cells zE 31)
  have NEW := Lib.hid hnew
  have HK0 : Hid (i64B 1) := ⟨by decide, by decide⟩
  obtain ⟨Z3, hZ3⟩ : ∃ Z3, Z3 = evA (Ev.zero 1) none 0 none 0 := ⟨_, rfl⟩
  have hbl := below_setRow hal (Nat.le_refl _) Z3
  have HEW : Hid (EW ((w1.alloc (.cells zE 31)).setRow w1.heap.size Z3) w1.heap.size 31 (Ev.zero 1) none 0 none 0 ((w1.alloc (.cells zE 31)).setRow w1.heap.size Z3)) := ⟨by rw [← hZ3]; exact setRow_heap _ _ _ _ _ _ hnew, zero_wf HK0.out, Turns.refl _ _⟩
  have HZS : Hid (Z3.size = 103 ∧ Z3.all (·.oneCell') = true) := by show _ ∧ _; rw [hZ3]; exact ⟨evA_size (zero_wf HK0.out) _ _ _ _, evA_one _ _ _ _ _⟩
  have hbu := built_ek 1
  rw [← hZ3] at hbu
  have HBU := Lib.hid hbu
  have hkk := cell_below hk hbl
  have HR3 := Lib.hid (Below.keepOld hbl HR1.out)
  have HZ3 := Lib.hid (Below.keepOld hbl HZ.out)
  have HB3 := Lib.hid (HB.out.trans (hbl.mono HB.out.size))
  have HG3 : Hid (w.heap.size + 2 ≤ w1.heap.size) := by show _ ≤ _; rw [HS3.out]; exact Nat.le_refl _
  have HAT3 := Lib.hid (HAT.out.below hbl)
  clear hal hnew hbl hZ3 hbu
  go_upto_region 3 with (first
    | refine Rdr.wpList_build rfl 31 _ rfl [(0, .int .i64 1)] rfl _ HBU.out ?_
    | ((with_reducible refine wpStoreAt 3 ?_); refine wpList_store_row rfl 31 _ _ rfl w1.heap.size Z3 rfl rfl 31 zE NEW.out (infoE _ HZS.out.1) (by rw [HZS.out.1]; exact zE_size) HZS.out.2 ?_))
  try simp only [Act.put, List.setIfInBounds_toArray, List.set_cons_zero, List.set_cons_succ]
  clear hk hkk NEW HBU HZS HC HB HZ HR1 HAT HS3
  generalize (w1.alloc (.cells zE 31)).setRow w1.heap.size Z3 = w3 at *
  generalize w1.heap.size = g3 at *
  rw [HAE.out] at HR3
  have HC3 := Lib.hid (ev_row HWF.out HR3.out)
  have hfz : ∀ j, w3.frozen? ⟨g3, j, none⟩ = false := fun j => HEW.out.frozen j
  have hE1 : w3.cell? ⟨g3, 1, none⟩ = some (.slice none 0 0) := HEW.out.cells.b
  have hE99 : w3.cell? ⟨g3, 99, none⟩ = some (.int .i64 0) := HEW.out.cells.n
  have hP1 : w3.cell? ⟨w.heap.size, 1, none⟩ = some (.slice pb b.length cb) := HC3.out.b
  have hP99 : w3.cell? ⟨w.heap.size, 99, none⟩ = some (.int .i64 n) := HC3.out.n
  have HEX := Lib.hid (HEW.out.bytes b pb cb)
  go_upto_region 14 with fail
  clear hfz hE1 hE99 hP1 hP99
  generalize w3.setCell ⟨g3, 1, none⟩ (.slice pb b.length cb) = wX at *
  skip
  -- the event is told: world wX; HEX : Hid (EW w3 g3 .. ⟨1, b, zeros, zeros, [], zeros, 0, 0, 0, 0⟩ pb cb none 0 wX)
  have hbx := HEX.out.turn.below HB3.out.size (fun k hk => by have hk : k = g3 := hk; have := HG3.out; omega)
  have HBX := Lib.hid (HB3.out.trans hbx)
  have hzx := HEX.out.turn.keep HZ3.out (by show ¬ w.heap.size + 1 = g3; have := HG3.out; omega)
  have HZX := Lib.hid hzx
  have HRX : Hid ((wX).heap[g3]? = some (.cells (evA (⟨1, b, zeros, zeros, [], zeros, 0, 0, 0, 0⟩) pb cb none 0) 31 (0, 0))) := HEX.out.row
  have HWX : Hid (Ev.Wf (⟨1, b, zeros, zeros, [], zeros, 0, 0, 0, 0⟩)) := HEX.out.wf
  obtain ⟨X, hX⟩ : ∃ X, X = evA (⟨1, b, zeros, zeros, [], zeros, 0, 0, 0, 0⟩) pb cb none 0 := ⟨_, rfl⟩
  rw [← hX] at HRX
  have HXS : Hid (X.size = 103 ∧ X.all (·.oneCell') = true) := by show _ ∧ _; rw [hX]; exact ⟨evA_size HWX.out _ _ _ _, evA_one _ _ _ _ _⟩
  have HXE := Lib.hid hX
  clear hbx hzx hX
  go_wp2_with (first
    | refine wpList_load_row rfl 31 _ rfl g3 rfl 31 X (0, 0) _ HRX.out Tryd.underlying31 rfl (infoE _ HXS.out.1) ?_
    | refine wpList_store_row rfl 31 _ _ rfl (w.heap.size + 1) X rfl rfl 31 zE HZX.out (infoE _ HXS.out.1) (by rw [HXS.out.1]; exact zE_size) HXS.out.2 ?_)
  have HS := Lib.hid (setRow_heap _ _ _ X _ _ HZX.out)
  have hbe := below_setRow HBX.out (show w.heap.size ≤ w.heap.size + 1 by omega) X
  have HTT : Hid (Turns (fun k => k = g3 ∨ k = w.heap.size + 1) w3 ((wX).setRow (w.heap.size + 1) X)) := (HEX.out.turn.imp (fun k _ hk => .inl hk)).trans (turns_setRow _ _ _) (fun k _ hk => .inr hk)
  refine bodyPost_ret (results_cell_row rfl _ _ _ _ _ _ _ rfl HS.out Tryd.underlying31 rfl (infoE _ HXS.out.1)) rfl ?_
  refine ⟨pb, cb, none, 0, congrArg (fun z => Ending.returned (Value.agg z)) HXE.out, ⟨HWX.out, ?_, ?_⟩, hbe⟩
  · exact HIN.out.bs.below hbe
  · exact Is.nil _ _
set_option maxRecDepth 100000 in
set_option maxHeartbeats 1600000 in
theorem only2 (b hh p : List UInt8) (tx : List (List UInt8)) (id : List UInt8) (n u0 u1 u2 : Int) (pb : Option Addr) (cb : Nat) (q : Option Addr) (c : Nat) (w : World) (h : EvAt w ⟨2, b, hh, p, tx, id, n, u0, u1, u2⟩ pb cb q c) :
    Calls Tryd.prog 20 #[.agg (evA ⟨2, b, hh, p, tx, id, n, u0, u1, u2⟩ pb cb q c)] w (EvP ⟨2, [], hh, p, tx, zeros, 0, 0, 0, 0⟩ w) := by
  have HIN := Lib.hid h
  skip
  -- up to the switch; the new event's row HEW at world w3, its box g3; the kind 2
  have hz := zeroE
  obtain ⟨a1, a2, a3, a4⟩ := Go.Mir.two_allocs w (.cells (evA ⟨2, b, hh, p, tx, id, n, u0, u1, u2⟩ pb cb q c) 31) (.cells zE 31)
  have HC := Lib.hid (ev_row h.wf a1)
  have HB := Lib.hid a4
  have HZ := Lib.hid a2
  have HR1 := Lib.hid a1
  have HAT := Lib.hid (h.below a4)
  have hk : _ = some (Value.int .i64 2) := HC.out.k
  have HS3 := Lib.hid a3
  have HWF := Lib.hid h.wf
  obtain ⟨A, hA⟩ : ∃ A, A = evA ⟨2, b, hh, p, tx, id, n, u0, u1, u2⟩ pb cb q c := ⟨_, rfl⟩
  rw [← hA]
  rw [← hA] at HC HB HZ hk HAT HS3 HR1
  have HAE := Lib.hid hA
  clear a1 a2 a3 a4 h hA
  go_enter Tryd.func20, Tryd.ntmps20
  go_upto_region 1 with fail
  generalize (w.alloc (.cells A 31)).alloc (.cells zE 31) = w1 at *
  have hal := Below.allocs w1 (.cells zE 31)
  have hnew := heap_alloc_last w1 (.cells zE 31)
  have NEW := Lib.hid hnew
  have HK0 : Hid (i64B 2) := ⟨by decide, by decide⟩
  obtain ⟨Z3, hZ3⟩ : ∃ Z3, Z3 = evA (Ev.zero 2) none 0 none 0 := ⟨_, rfl⟩
  have hbl := below_setRow hal (Nat.le_refl _) Z3
  have HEW : Hid (EW ((w1.alloc (.cells zE 31)).setRow w1.heap.size Z3) w1.heap.size 31 (Ev.zero 2) none 0 none 0 ((w1.alloc (.cells zE 31)).setRow w1.heap.size Z3)) := ⟨by rw [← hZ3]; exact setRow_heap _ _ _ _ _ _ hnew, zero_wf HK0.out, Turns.refl _ _⟩
  have HZS : Hid (Z3.size = 103 ∧ Z3.all (·.oneCell') = true) := by show _ ∧ _; rw [hZ3]; exact ⟨evA_size (zero_wf HK0.out) _ _ _ _, evA_one _ _ _ _ _⟩
  have hbu := built_ek 2
  rw [← hZ3] at hbu
  have HBU := Lib.hid hbu
  have hkk := cell_below hk hbl
  have HR3 := Lib.hid (Below.keepOld hbl HR1.out)
  have HZ3 := Lib.hid (Below.keepOld hbl HZ.out)
  have HB3 := Lib.hid (HB.out.trans (hbl.mono HB.out.size))
  have HG3 : Hid (w.heap.size + 2 ≤ w1.heap.size) := by show _ ≤ _; rw [HS3.out]; exact Nat.le_refl _
  have HAT3 := Lib.hid (HAT.out.below hbl)
  clear hal hnew hbl hZ3 hbu
  go_upto_region 3 with (first
    | refine Rdr.wpList_build rfl 31 _ rfl [(0, .int .i64 2)] rfl _ HBU.out ?_
    | ((with_reducible refine wpStoreAt 3 ?_); refine wpList_store_row rfl 31 _ _ rfl w1.heap.size Z3 rfl rfl 31 zE NEW.out (infoE _ HZS.out.1) (by rw [HZS.out.1]; exact zE_size) HZS.out.2 ?_))
  try simp only [Act.put, List.setIfInBounds_toArray, List.set_cons_zero, List.set_cons_succ]
  clear hk hkk NEW HBU HZS HC HB HZ HR1 HAT HS3
  generalize (w1.alloc (.cells zE 31)).setRow w1.heap.size Z3 = w3 at *
  generalize w1.heap.size = g3 at *
  rw [HAE.out] at HR3
  have HC3 := Lib.hid (ev_row HWF.out HR3.out)
  have hfz : ∀ j, w3.frozen? ⟨g3, j, none⟩ = false := fun j => HEW.out.frozen j
  have hE1 : w3.cell? ⟨g3, 1, none⟩ = some (.slice none 0 0) := HEW.out.cells.b
  have hE99 : w3.cell? ⟨g3, 99, none⟩ = some (.int .i64 0) := HEW.out.cells.n
  have hP1 : w3.cell? ⟨w.heap.size, 1, none⟩ = some (.slice pb b.length cb) := HC3.out.b
  have hP99 : w3.cell? ⟨w.heap.size, 99, none⟩ = some (.int .i64 n) := HC3.out.n
  have HEX := Lib.hid (HEW.out.block hh p tx HWF.out.h HWF.out.p HWF.out.tx q c)
  have HTH := Lib.hid (HEW.out.there 2 65 (by omega))
  have HBS : Hid ((blkA hh p q tx.length c).size = 65) := blkA_size HWF.out.h HWF.out.p _ _ _
  go_upto_region 14 with (first
    | refine loadM (by rfl) 28 _ rfl w.heap.size 2 rfl (blkA hh p q tx.length c) _ HC3.out.blk Tryd.underlying28 rfl (infoBl _ HBS.out) ?_
    | refine wpList_store_mid rfl 28 _ _ rfl g3 2 (blkA hh p q tx.length c) rfl rfl (by rw [HBS.out]; exact HTH.out) (infoBl _ HBS.out) (blkA_one _ _ _ _ _) ?_)
  clear hfz hE1 hE99 hP1 hP99
  generalize w3.setCells g3 2 (blkA hh p q tx.length c).toList = wX at *
  skip
  -- the event is told: world wX; HEX : Hid (EW w3 g3 .. ⟨2, [], hh, p, tx, zeros, 0, 0, 0, 0⟩ none 0 q c wX)
  have hbx := HEX.out.turn.below HB3.out.size (fun k hk => by have hk : k = g3 := hk; have := HG3.out; omega)
  have HBX := Lib.hid (HB3.out.trans hbx)
  have hzx := HEX.out.turn.keep HZ3.out (by show ¬ w.heap.size + 1 = g3; have := HG3.out; omega)
  have HZX := Lib.hid hzx
  have HRX : Hid ((wX).heap[g3]? = some (.cells (evA (⟨2, [], hh, p, tx, zeros, 0, 0, 0, 0⟩) none 0 q c) 31 (0, 0))) := HEX.out.row
  have HWX : Hid (Ev.Wf (⟨2, [], hh, p, tx, zeros, 0, 0, 0, 0⟩)) := HEX.out.wf
  obtain ⟨X, hX⟩ : ∃ X, X = evA (⟨2, [], hh, p, tx, zeros, 0, 0, 0, 0⟩) none 0 q c := ⟨_, rfl⟩
  rw [← hX] at HRX
  have HXS : Hid (X.size = 103 ∧ X.all (·.oneCell') = true) := by show _ ∧ _; rw [hX]; exact ⟨evA_size HWX.out _ _ _ _, evA_one _ _ _ _ _⟩
  have HXE := Lib.hid hX
  clear hbx hzx hX
  go_wp2_with (first
    | refine wpList_load_row rfl 31 _ rfl g3 rfl 31 X (0, 0) _ HRX.out Tryd.underlying31 rfl (infoE _ HXS.out.1) ?_
    | refine wpList_store_row rfl 31 _ _ rfl (w.heap.size + 1) X rfl rfl 31 zE HZX.out (infoE _ HXS.out.1) (by rw [HXS.out.1]; exact zE_size) HXS.out.2 ?_)
  have HS := Lib.hid (setRow_heap _ _ _ X _ _ HZX.out)
  have hbe := below_setRow HBX.out (show w.heap.size ≤ w.heap.size + 1 by omega) X
  have HTT : Hid (Turns (fun k => k = g3 ∨ k = w.heap.size + 1) w3 ((wX).setRow (w.heap.size + 1) X)) := (HEX.out.turn.imp (fun k _ hk => .inl hk)).trans (turns_setRow _ _ _) (fun k _ hk => .inr hk)
  refine bodyPost_ret (results_cell_row rfl _ _ _ _ _ _ _ rfl HS.out Tryd.underlying31 rfl (infoE _ HXS.out.1)) rfl ?_
  refine ⟨none, 0, q, c, congrArg (fun z => Ending.returned (Value.agg z)) HXE.out, ⟨HWX.out, ?_, ?_⟩, hbe⟩
  · exact Sl.nil _ _
  · exact HIN.out.ids.below hbe
set_option maxRecDepth 100000 in
set_option maxHeartbeats 1600000 in
theorem only3 (b hh p : List UInt8) (tx : List (List UInt8)) (id : List UInt8) (n u0 u1 u2 : Int) (pb : Option Addr) (cb : Nat) (q : Option Addr) (c : Nat) (w : World) (h : EvAt w ⟨3, b, hh, p, tx, id, n, u0, u1, u2⟩ pb cb q c) :
    Calls Tryd.prog 20 #[.agg (evA ⟨3, b, hh, p, tx, id, n, u0, u1, u2⟩ pb cb q c)] w (EvP ⟨3, [], zeros, zeros, [], id, 0, 0, 0, 0⟩ w) := by
  have HIN := Lib.hid h
  skip
  -- up to the switch; the new event's row HEW at world w3, its box g3; the kind 3
  have hz := zeroE
  obtain ⟨a1, a2, a3, a4⟩ := Go.Mir.two_allocs w (.cells (evA ⟨3, b, hh, p, tx, id, n, u0, u1, u2⟩ pb cb q c) 31) (.cells zE 31)
  have HC := Lib.hid (ev_row h.wf a1)
  have HB := Lib.hid a4
  have HZ := Lib.hid a2
  have HR1 := Lib.hid a1
  have HAT := Lib.hid (h.below a4)
  have hk : _ = some (Value.int .i64 3) := HC.out.k
  have HS3 := Lib.hid a3
  have HWF := Lib.hid h.wf
  obtain ⟨A, hA⟩ : ∃ A, A = evA ⟨3, b, hh, p, tx, id, n, u0, u1, u2⟩ pb cb q c := ⟨_, rfl⟩
  rw [← hA]
  rw [← hA] at HC HB HZ hk HAT HS3 HR1
  have HAE := Lib.hid hA
  clear a1 a2 a3 a4 h hA
  go_enter Tryd.func20, Tryd.ntmps20
  go_upto_region 1 with fail
  generalize (w.alloc (.cells A 31)).alloc (.cells zE 31) = w1 at *
  have hal := Below.allocs w1 (.cells zE 31)
  have hnew := heap_alloc_last w1 (.cells zE 31)
  have NEW := Lib.hid hnew
  have HK0 : Hid (i64B 3) := ⟨by decide, by decide⟩
  obtain ⟨Z3, hZ3⟩ : ∃ Z3, Z3 = evA (Ev.zero 3) none 0 none 0 := ⟨_, rfl⟩
  have hbl := below_setRow hal (Nat.le_refl _) Z3
  have HEW : Hid (EW ((w1.alloc (.cells zE 31)).setRow w1.heap.size Z3) w1.heap.size 31 (Ev.zero 3) none 0 none 0 ((w1.alloc (.cells zE 31)).setRow w1.heap.size Z3)) := ⟨by rw [← hZ3]; exact setRow_heap _ _ _ _ _ _ hnew, zero_wf HK0.out, Turns.refl _ _⟩
  have HZS : Hid (Z3.size = 103 ∧ Z3.all (·.oneCell') = true) := by show _ ∧ _; rw [hZ3]; exact ⟨evA_size (zero_wf HK0.out) _ _ _ _, evA_one _ _ _ _ _⟩
  have hbu := built_ek 3
  rw [← hZ3] at hbu
  have HBU := Lib.hid hbu
  have hkk := cell_below hk hbl
  have HR3 := Lib.hid (Below.keepOld hbl HR1.out)
  have HZ3 := Lib.hid (Below.keepOld hbl HZ.out)
  have HB3 := Lib.hid (HB.out.trans (hbl.mono HB.out.size))
  have HG3 : Hid (w.heap.size + 2 ≤ w1.heap.size) := by show _ ≤ _; rw [HS3.out]; exact Nat.le_refl _
  have HAT3 := Lib.hid (HAT.out.below hbl)
  clear hal hnew hbl hZ3 hbu
  go_upto_region 3 with (first
    | refine Rdr.wpList_build rfl 31 _ rfl [(0, .int .i64 3)] rfl _ HBU.out ?_
    | ((with_reducible refine wpStoreAt 3 ?_); refine wpList_store_row rfl 31 _ _ rfl w1.heap.size Z3 rfl rfl 31 zE NEW.out (infoE _ HZS.out.1) (by rw [HZS.out.1]; exact zE_size) HZS.out.2 ?_))
  try simp only [Act.put, List.setIfInBounds_toArray, List.set_cons_zero, List.set_cons_succ]
  clear hk hkk NEW HBU HZS HC HB HZ HR1 HAT HS3
  generalize (w1.alloc (.cells zE 31)).setRow w1.heap.size Z3 = w3 at *
  generalize w1.heap.size = g3 at *
  rw [HAE.out] at HR3
  have HC3 := Lib.hid (ev_row HWF.out HR3.out)
  have hfz : ∀ j, w3.frozen? ⟨g3, j, none⟩ = false := fun j => HEW.out.frozen j
  have hE1 : w3.cell? ⟨g3, 1, none⟩ = some (.slice none 0 0) := HEW.out.cells.b
  have hE99 : w3.cell? ⟨g3, 99, none⟩ = some (.int .i64 0) := HEW.out.cells.n
  have hP1 : w3.cell? ⟨w.heap.size, 1, none⟩ = some (.slice pb b.length cb) := HC3.out.b
  have hP99 : w3.cell? ⟨w.heap.size, 99, none⟩ = some (.int .i64 n) := HC3.out.n
  have HEX := Lib.hid (HEW.out.ident id HWF.out.id)
  have HTH := Lib.hid (HEW.out.there 67 32 (by omega))
  have HBS : Hid ((idA id).size = 32) := by show _ = _; rw [idA_size]; exact HWF.out.id
  go_upto_region 14 with (first
    | refine loadM (by rfl) 25 _ rfl w.heap.size 67 rfl (idA id) _ HC3.out.id Tryd.underlying25 rfl (infoId _ HBS.out) ?_
    | refine wpList_store_mid rfl 25 _ _ rfl g3 67 (idA id) rfl rfl (by rw [HBS.out]; exact HTH.out) (infoId _ HBS.out) (idA_one _) ?_)
  clear hfz hE1 hE99 hP1 hP99
  generalize w3.setCells g3 67 (idA id).toList = wX at *
  skip
  -- the event is told: world wX; HEX : Hid (EW w3 g3 .. ⟨3, [], zeros, zeros, [], id, 0, 0, 0, 0⟩ none 0 none 0 wX)
  have hbx := HEX.out.turn.below HB3.out.size (fun k hk => by have hk : k = g3 := hk; have := HG3.out; omega)
  have HBX := Lib.hid (HB3.out.trans hbx)
  have hzx := HEX.out.turn.keep HZ3.out (by show ¬ w.heap.size + 1 = g3; have := HG3.out; omega)
  have HZX := Lib.hid hzx
  have HRX : Hid ((wX).heap[g3]? = some (.cells (evA (⟨3, [], zeros, zeros, [], id, 0, 0, 0, 0⟩) none 0 none 0) 31 (0, 0))) := HEX.out.row
  have HWX : Hid (Ev.Wf (⟨3, [], zeros, zeros, [], id, 0, 0, 0, 0⟩)) := HEX.out.wf
  obtain ⟨X, hX⟩ : ∃ X, X = evA (⟨3, [], zeros, zeros, [], id, 0, 0, 0, 0⟩) none 0 none 0 := ⟨_, rfl⟩
  rw [← hX] at HRX
  have HXS : Hid (X.size = 103 ∧ X.all (·.oneCell') = true) := by show _ ∧ _; rw [hX]; exact ⟨evA_size HWX.out _ _ _ _, evA_one _ _ _ _ _⟩
  have HXE := Lib.hid hX
  clear hbx hzx hX
  go_wp2_with (first
    | refine wpList_load_row rfl 31 _ rfl g3 rfl 31 X (0, 0) _ HRX.out Tryd.underlying31 rfl (infoE _ HXS.out.1) ?_
    | refine wpList_store_row rfl 31 _ _ rfl (w.heap.size + 1) X rfl rfl 31 zE HZX.out (infoE _ HXS.out.1) (by rw [HXS.out.1]; exact zE_size) HXS.out.2 ?_)
  have HS := Lib.hid (setRow_heap _ _ _ X _ _ HZX.out)
  have hbe := below_setRow HBX.out (show w.heap.size ≤ w.heap.size + 1 by omega) X
  have HTT : Hid (Turns (fun k => k = g3 ∨ k = w.heap.size + 1) w3 ((wX).setRow (w.heap.size + 1) X)) := (HEX.out.turn.imp (fun k _ hk => .inl hk)).trans (turns_setRow _ _ _) (fun k _ hk => .inr hk)
  refine bodyPost_ret (results_cell_row rfl _ _ _ _ _ _ _ rfl HS.out Tryd.underlying31 rfl (infoE _ HXS.out.1)) rfl ?_
  refine ⟨none, 0, none, 0, congrArg (fun z => Ending.returned (Value.agg z)) HXE.out, ⟨HWX.out, ?_, ?_⟩, hbe⟩
  · exact Sl.nil _ _
  · exact Is.nil _ _
set_option maxRecDepth 100000 in
set_option maxHeartbeats 1600000 in
theorem only4 (b hh p : List UInt8) (tx : List (List UInt8)) (id : List UInt8) (n u0 u1 u2 : Int) (pb : Option Addr) (cb : Nat) (q : Option Addr) (c : Nat) (w : World) (h : EvAt w ⟨4, b, hh, p, tx, id, n, u0, u1, u2⟩ pb cb q c) :
    Calls Tryd.prog 20 #[.agg (evA ⟨4, b, hh, p, tx, id, n, u0, u1, u2⟩ pb cb q c)] w (EvP ⟨4, [], zeros, zeros, [], id, 0, 0, 0, 0⟩ w) := by
  have HIN := Lib.hid h
  skip
  -- up to the switch; the new event's row HEW at world w3, its box g3; the kind 4
  have hz := zeroE
  obtain ⟨a1, a2, a3, a4⟩ := Go.Mir.two_allocs w (.cells (evA ⟨4, b, hh, p, tx, id, n, u0, u1, u2⟩ pb cb q c) 31) (.cells zE 31)
  have HC := Lib.hid (ev_row h.wf a1)
  have HB := Lib.hid a4
  have HZ := Lib.hid a2
  have HR1 := Lib.hid a1
  have HAT := Lib.hid (h.below a4)
  have hk : _ = some (Value.int .i64 4) := HC.out.k
  have HS3 := Lib.hid a3
  have HWF := Lib.hid h.wf
  obtain ⟨A, hA⟩ : ∃ A, A = evA ⟨4, b, hh, p, tx, id, n, u0, u1, u2⟩ pb cb q c := ⟨_, rfl⟩
  rw [← hA]
  rw [← hA] at HC HB HZ hk HAT HS3 HR1
  have HAE := Lib.hid hA
  clear a1 a2 a3 a4 h hA
  go_enter Tryd.func20, Tryd.ntmps20
  go_upto_region 1 with fail
  generalize (w.alloc (.cells A 31)).alloc (.cells zE 31) = w1 at *
  have hal := Below.allocs w1 (.cells zE 31)
  have hnew := heap_alloc_last w1 (.cells zE 31)
  have NEW := Lib.hid hnew
  have HK0 : Hid (i64B 4) := ⟨by decide, by decide⟩
  obtain ⟨Z3, hZ3⟩ : ∃ Z3, Z3 = evA (Ev.zero 4) none 0 none 0 := ⟨_, rfl⟩
  have hbl := below_setRow hal (Nat.le_refl _) Z3
  have HEW : Hid (EW ((w1.alloc (.cells zE 31)).setRow w1.heap.size Z3) w1.heap.size 31 (Ev.zero 4) none 0 none 0 ((w1.alloc (.cells zE 31)).setRow w1.heap.size Z3)) := ⟨by rw [← hZ3]; exact setRow_heap _ _ _ _ _ _ hnew, zero_wf HK0.out, Turns.refl _ _⟩
  have HZS : Hid (Z3.size = 103 ∧ Z3.all (·.oneCell') = true) := by show _ ∧ _; rw [hZ3]; exact ⟨evA_size (zero_wf HK0.out) _ _ _ _, evA_one _ _ _ _ _⟩
  have hbu := built_ek 4
  rw [← hZ3] at hbu
  have HBU := Lib.hid hbu
  have hkk := cell_below hk hbl
  have HR3 := Lib.hid (Below.keepOld hbl HR1.out)
  have HZ3 := Lib.hid (Below.keepOld hbl HZ.out)
  have HB3 := Lib.hid (HB.out.trans (hbl.mono HB.out.size))
  have HG3 : Hid (w.heap.size + 2 ≤ w1.heap.size) := by show _ ≤ _; rw [HS3.out]; exact Nat.le_refl _
  have HAT3 := Lib.hid (HAT.out.below hbl)
  clear hal hnew hbl hZ3 hbu
  go_upto_region 3 with (first
    | refine Rdr.wpList_build rfl 31 _ rfl [(0, .int .i64 4)] rfl _ HBU.out ?_
    | ((with_reducible refine wpStoreAt 3 ?_); refine wpList_store_row rfl 31 _ _ rfl w1.heap.size Z3 rfl rfl 31 zE NEW.out (infoE _ HZS.out.1) (by rw [HZS.out.1]; exact zE_size) HZS.out.2 ?_))
  try simp only [Act.put, List.setIfInBounds_toArray, List.set_cons_zero, List.set_cons_succ]
  clear hk hkk NEW HBU HZS HC HB HZ HR1 HAT HS3
  generalize (w1.alloc (.cells zE 31)).setRow w1.heap.size Z3 = w3 at *
  generalize w1.heap.size = g3 at *
  rw [HAE.out] at HR3
  have HC3 := Lib.hid (ev_row HWF.out HR3.out)
  have hfz : ∀ j, w3.frozen? ⟨g3, j, none⟩ = false := fun j => HEW.out.frozen j
  have hE1 : w3.cell? ⟨g3, 1, none⟩ = some (.slice none 0 0) := HEW.out.cells.b
  have hE99 : w3.cell? ⟨g3, 99, none⟩ = some (.int .i64 0) := HEW.out.cells.n
  have hP1 : w3.cell? ⟨w.heap.size, 1, none⟩ = some (.slice pb b.length cb) := HC3.out.b
  have hP99 : w3.cell? ⟨w.heap.size, 99, none⟩ = some (.int .i64 n) := HC3.out.n
  have HEX := Lib.hid (HEW.out.ident id HWF.out.id)
  have HTH := Lib.hid (HEW.out.there 67 32 (by omega))
  have HBS : Hid ((idA id).size = 32) := by show _ = _; rw [idA_size]; exact HWF.out.id
  go_upto_region 14 with (first
    | refine loadM (by rfl) 25 _ rfl w.heap.size 67 rfl (idA id) _ HC3.out.id Tryd.underlying25 rfl (infoId _ HBS.out) ?_
    | refine wpList_store_mid rfl 25 _ _ rfl g3 67 (idA id) rfl rfl (by rw [HBS.out]; exact HTH.out) (infoId _ HBS.out) (idA_one _) ?_)
  clear hfz hE1 hE99 hP1 hP99
  generalize w3.setCells g3 67 (idA id).toList = wX at *
  skip
  -- the event is told: world wX; HEX : Hid (EW w3 g3 .. ⟨4, [], zeros, zeros, [], id, 0, 0, 0, 0⟩ none 0 none 0 wX)
  have hbx := HEX.out.turn.below HB3.out.size (fun k hk => by have hk : k = g3 := hk; have := HG3.out; omega)
  have HBX := Lib.hid (HB3.out.trans hbx)
  have hzx := HEX.out.turn.keep HZ3.out (by show ¬ w.heap.size + 1 = g3; have := HG3.out; omega)
  have HZX := Lib.hid hzx
  have HRX : Hid ((wX).heap[g3]? = some (.cells (evA (⟨4, [], zeros, zeros, [], id, 0, 0, 0, 0⟩) none 0 none 0) 31 (0, 0))) := HEX.out.row
  have HWX : Hid (Ev.Wf (⟨4, [], zeros, zeros, [], id, 0, 0, 0, 0⟩)) := HEX.out.wf
  obtain ⟨X, hX⟩ : ∃ X, X = evA (⟨4, [], zeros, zeros, [], id, 0, 0, 0, 0⟩) none 0 none 0 := ⟨_, rfl⟩
  rw [← hX] at HRX
  have HXS : Hid (X.size = 103 ∧ X.all (·.oneCell') = true) := by show _ ∧ _; rw [hX]; exact ⟨evA_size HWX.out _ _ _ _, evA_one _ _ _ _ _⟩
  have HXE := Lib.hid hX
  clear hbx hzx hX
  go_wp2_with (first
    | refine wpList_load_row rfl 31 _ rfl g3 rfl 31 X (0, 0) _ HRX.out Tryd.underlying31 rfl (infoE _ HXS.out.1) ?_
    | refine wpList_store_row rfl 31 _ _ rfl (w.heap.size + 1) X rfl rfl 31 zE HZX.out (infoE _ HXS.out.1) (by rw [HXS.out.1]; exact zE_size) HXS.out.2 ?_)
  have HS := Lib.hid (setRow_heap _ _ _ X _ _ HZX.out)
  have hbe := below_setRow HBX.out (show w.heap.size ≤ w.heap.size + 1 by omega) X
  have HTT : Hid (Turns (fun k => k = g3 ∨ k = w.heap.size + 1) w3 ((wX).setRow (w.heap.size + 1) X)) := (HEX.out.turn.imp (fun k _ hk => .inl hk)).trans (turns_setRow _ _ _) (fun k _ hk => .inr hk)
  refine bodyPost_ret (results_cell_row rfl _ _ _ _ _ _ _ rfl HS.out Tryd.underlying31 rfl (infoE _ HXS.out.1)) rfl ?_
  refine ⟨none, 0, none, 0, congrArg (fun z => Ending.returned (Value.agg z)) HXE.out, ⟨HWX.out, ?_, ?_⟩, hbe⟩
  · exact Sl.nil _ _
  · exact Is.nil _ _
set_option maxRecDepth 100000 in
set_option maxHeartbeats 1600000 in
theorem only5 (b hh p : List UInt8) (tx : List (List UInt8)) (id : List UInt8) (n u0 u1 u2 : Int) (pb : Option Addr) (cb : Nat) (q : Option Addr) (c : Nat) (w : World) (h : EvAt w ⟨5, b, hh, p, tx, id, n, u0, u1, u2⟩ pb cb q c) :
    Calls Tryd.prog 20 #[.agg (evA ⟨5, b, hh, p, tx, id, n, u0, u1, u2⟩ pb cb q c)] w (EvP ⟨5, [], zeros, zeros, [], zeros, n, 0, 0, 0⟩ w) := by
  have HIN := Lib.hid h
  skip
  -- up to the switch; the new event's row HEW at world w3, its box g3; the kind 5
  have hz := zeroE
  obtain ⟨a1, a2, a3, a4⟩ := Go.Mir.two_allocs w (.cells (evA ⟨5, b, hh, p, tx, id, n, u0, u1, u2⟩ pb cb q c) 31) (.cells zE 31)
  have HC := Lib.hid (ev_row h.wf a1)
  have HB := Lib.hid a4
  have HZ := Lib.hid a2
  have HR1 := Lib.hid a1
  have HAT := Lib.hid (h.below a4)
  have hk : _ = some (Value.int .i64 5) := HC.out.k
  have HS3 := Lib.hid a3
  have HWF := Lib.hid h.wf
  obtain ⟨A, hA⟩ : ∃ A, A = evA ⟨5, b, hh, p, tx, id, n, u0, u1, u2⟩ pb cb q c := ⟨_, rfl⟩
  rw [← hA]
  rw [← hA] at HC HB HZ hk HAT HS3 HR1
  have HAE := Lib.hid hA
  clear a1 a2 a3 a4 h hA
  go_enter Tryd.func20, Tryd.ntmps20
  go_upto_region 1 with fail
  generalize (w.alloc (.cells A 31)).alloc (.cells zE 31) = w1 at *
  have hal := Below.allocs w1 (.cells zE 31)
  have hnew := heap_alloc_last w1 (.cells zE 31)
  have NEW := Lib.hid hnew
  have HK0 : Hid (i64B 5) := ⟨by decide, by decide⟩
  obtain ⟨Z3, hZ3⟩ : ∃ Z3, Z3 = evA (Ev.zero 5) none 0 none 0 := ⟨_, rfl⟩
  have hbl := below_setRow hal (Nat.le_refl _) Z3
  have HEW : Hid (EW ((w1.alloc (.cells zE 31)).setRow w1.heap.size Z3) w1.heap.size 31 (Ev.zero 5) none 0 none 0 ((w1.alloc (.cells zE 31)).setRow w1.heap.size Z3)) := ⟨by rw [← hZ3]; exact setRow_heap _ _ _ _ _ _ hnew, zero_wf HK0.out, Turns.refl _ _⟩
  have HZS : Hid (Z3.size = 103 ∧ Z3.all (·.oneCell') = true) := by show _ ∧ _; rw [hZ3]; exact ⟨evA_size (zero_wf HK0.out) _ _ _ _, evA_one _ _ _ _ _⟩
  have hbu := built_ek 5
  rw [← hZ3] at hbu
  have HBU := Lib.hid hbu
  have hkk := cell_below hk hbl
  have HR3 := Lib.hid (Below.keepOld hbl HR1.out)
  have HZ3 := Lib.hid (Below.keepOld hbl HZ.out)
  have HB3 := Lib.hid (HB.out.trans (hbl.mono HB.out.size))
  have HG3 : Hid (w.heap.size + 2 ≤ w1.heap.size) := by show _ ≤ _; rw [HS3.out]; exact Nat.le_refl _
  have HAT3 := Lib.hid (HAT.out.below hbl)
  clear hal hnew hbl hZ3 hbu
  go_upto_region 3 with (first
    | refine Rdr.wpList_build rfl 31 _ rfl [(0, .int .i64 5)] rfl _ HBU.out ?_
    | ((with_reducible refine wpStoreAt 3 ?_); refine wpList_store_row rfl 31 _ _ rfl w1.heap.size Z3 rfl rfl 31 zE NEW.out (infoE _ HZS.out.1) (by rw [HZS.out.1]; exact zE_size) HZS.out.2 ?_))
  try simp only [Act.put, List.setIfInBounds_toArray, List.set_cons_zero, List.set_cons_succ]
  clear hk hkk NEW HBU HZS HC HB HZ HR1 HAT HS3
  generalize (w1.alloc (.cells zE 31)).setRow w1.heap.size Z3 = w3 at *
  generalize w1.heap.size = g3 at *
  rw [HAE.out] at HR3
  have HC3 := Lib.hid (ev_row HWF.out HR3.out)
  have hfz : ∀ j, w3.frozen? ⟨g3, j, none⟩ = false := fun j => HEW.out.frozen j
  have hE1 : w3.cell? ⟨g3, 1, none⟩ = some (.slice none 0 0) := HEW.out.cells.b
  have hE99 : w3.cell? ⟨g3, 99, none⟩ = some (.int .i64 0) := HEW.out.cells.n
  have hP1 : w3.cell? ⟨w.heap.size, 1, none⟩ = some (.slice pb b.length cb) := HC3.out.b
  have hP99 : w3.cell? ⟨w.heap.size, 99, none⟩ = some (.int .i64 n) := HC3.out.n
  have HEX := Lib.hid (HEW.out.num n HWF.out.n)
  go_upto_region 14 with fail
  clear hfz hE1 hE99 hP1 hP99
  generalize w3.setCell ⟨g3, 99, none⟩ (.int .i64 n) = wX at *
  skip
  -- the event is told: world wX; HEX : Hid (EW w3 g3 .. ⟨5, [], zeros, zeros, [], zeros, n, 0, 0, 0⟩ none 0 none 0 wX)
  have hbx := HEX.out.turn.below HB3.out.size (fun k hk => by have hk : k = g3 := hk; have := HG3.out; omega)
  have HBX := Lib.hid (HB3.out.trans hbx)
  have hzx := HEX.out.turn.keep HZ3.out (by show ¬ w.heap.size + 1 = g3; have := HG3.out; omega)
  have HZX := Lib.hid hzx
  have HRX : Hid ((wX).heap[g3]? = some (.cells (evA (⟨5, [], zeros, zeros, [], zeros, n, 0, 0, 0⟩) none 0 none 0) 31 (0, 0))) := HEX.out.row
  have HWX : Hid (Ev.Wf (⟨5, [], zeros, zeros, [], zeros, n, 0, 0, 0⟩)) := HEX.out.wf
  obtain ⟨X, hX⟩ : ∃ X, X = evA (⟨5, [], zeros, zeros, [], zeros, n, 0, 0, 0⟩) none 0 none 0 := ⟨_, rfl⟩
  rw [← hX] at HRX
  have HXS : Hid (X.size = 103 ∧ X.all (·.oneCell') = true) := by show _ ∧ _; rw [hX]; exact ⟨evA_size HWX.out _ _ _ _, evA_one _ _ _ _ _⟩
  have HXE := Lib.hid hX
  clear hbx hzx hX
  go_wp2_with (first
    | refine wpList_load_row rfl 31 _ rfl g3 rfl 31 X (0, 0) _ HRX.out Tryd.underlying31 rfl (infoE _ HXS.out.1) ?_
    | refine wpList_store_row rfl 31 _ _ rfl (w.heap.size + 1) X rfl rfl 31 zE HZX.out (infoE _ HXS.out.1) (by rw [HXS.out.1]; exact zE_size) HXS.out.2 ?_)
  have HS := Lib.hid (setRow_heap _ _ _ X _ _ HZX.out)
  have hbe := below_setRow HBX.out (show w.heap.size ≤ w.heap.size + 1 by omega) X
  have HTT : Hid (Turns (fun k => k = g3 ∨ k = w.heap.size + 1) w3 ((wX).setRow (w.heap.size + 1) X)) := (HEX.out.turn.imp (fun k _ hk => .inl hk)).trans (turns_setRow _ _ _) (fun k _ hk => .inr hk)
  refine bodyPost_ret (results_cell_row rfl _ _ _ _ _ _ _ rfl HS.out Tryd.underlying31 rfl (infoE _ HXS.out.1)) rfl ?_
  refine ⟨none, 0, none, 0, congrArg (fun z => Ending.returned (Value.agg z)) HXE.out, ⟨HWX.out, ?_, ?_⟩, hbe⟩
  · exact Sl.nil _ _
  · exact Is.nil _ _
set_option maxRecDepth 100000 in
set_option maxHeartbeats 1600000 in
theorem only6 (b hh p : List UInt8) (tx : List (List UInt8)) (id : List UInt8) (n u0 u1 u2 : Int) (pb : Option Addr) (cb : Nat) (q : Option Addr) (c : Nat) (w : World) (h : EvAt w ⟨6, b, hh, p, tx, id, n, u0, u1, u2⟩ pb cb q c) :
    Calls Tryd.prog 20 #[.agg (evA ⟨6, b, hh, p, tx, id, n, u0, u1, u2⟩ pb cb q c)] w (EvP ⟨6, [], zeros, zeros, [], zeros, n, u0, u1, u2⟩ w) := by
  have HIN := Lib.hid h
  skip
  -- up to the switch; the new event's row HEW at world w3, its box g3; the kind 6
  have hz := zeroE
  obtain ⟨a1, a2, a3, a4⟩ := Go.Mir.two_allocs w (.cells (evA ⟨6, b, hh, p, tx, id, n, u0, u1, u2⟩ pb cb q c) 31) (.cells zE 31)
  have HC := Lib.hid (ev_row h.wf a1)
  have HB := Lib.hid a4
  have HZ := Lib.hid a2
  have HR1 := Lib.hid a1
  have HAT := Lib.hid (h.below a4)
  have hk : _ = some (Value.int .i64 6) := HC.out.k
  have HS3 := Lib.hid a3
  have HWF := Lib.hid h.wf
  obtain ⟨A, hA⟩ : ∃ A, A = evA ⟨6, b, hh, p, tx, id, n, u0, u1, u2⟩ pb cb q c := ⟨_, rfl⟩
  rw [← hA]
  rw [← hA] at HC HB HZ hk HAT HS3 HR1
  have HAE := Lib.hid hA
  clear a1 a2 a3 a4 h hA
  go_enter Tryd.func20, Tryd.ntmps20
  go_upto_region 1 with fail
  generalize (w.alloc (.cells A 31)).alloc (.cells zE 31) = w1 at *
  have hal := Below.allocs w1 (.cells zE 31)
  have hnew := heap_alloc_last w1 (.cells zE 31)
  have NEW := Lib.hid hnew
  have HK0 : Hid (i64B 6) := ⟨by decide, by decide⟩
  obtain ⟨Z3, hZ3⟩ : ∃ Z3, Z3 = evA (Ev.zero 6) none 0 none 0 := ⟨_, rfl⟩
  have hbl := below_setRow hal (Nat.le_refl _) Z3
  have HEW : Hid (EW ((w1.alloc (.cells zE 31)).setRow w1.heap.size Z3) w1.heap.size 31 (Ev.zero 6) none 0 none 0 ((w1.alloc (.cells zE 31)).setRow w1.heap.size Z3)) := ⟨by rw [← hZ3]; exact setRow_heap _ _ _ _ _ _ hnew, zero_wf HK0.out, Turns.refl _ _⟩
  have HZS : Hid (Z3.size = 103 ∧ Z3.all (·.oneCell') = true) := by show _ ∧ _; rw [hZ3]; exact ⟨evA_size (zero_wf HK0.out) _ _ _ _, evA_one _ _ _ _ _⟩
  have hbu := built_ek 6
  rw [← hZ3] at hbu
  have HBU := Lib.hid hbu
  have hkk := cell_below hk hbl
  have HR3 := Lib.hid (Below.keepOld hbl HR1.out)
  have HZ3 := Lib.hid (Below.keepOld hbl HZ.out)
  have HB3 := Lib.hid (HB.out.trans (hbl.mono HB.out.size))
  have HG3 : Hid (w.heap.size + 2 ≤ w1.heap.size) := by show _ ≤ _; rw [HS3.out]; exact Nat.le_refl _
  have HAT3 := Lib.hid (HAT.out.below hbl)
  clear hal hnew hbl hZ3 hbu
  go_upto_region 3 with (first
    | refine Rdr.wpList_build rfl 31 _ rfl [(0, .int .i64 6)] rfl _ HBU.out ?_
    | ((with_reducible refine wpStoreAt 3 ?_); refine wpList_store_row rfl 31 _ _ rfl w1.heap.size Z3 rfl rfl 31 zE NEW.out (infoE _ HZS.out.1) (by rw [HZS.out.1]; exact zE_size) HZS.out.2 ?_))
  try simp only [Act.put, List.setIfInBounds_toArray, List.set_cons_zero, List.set_cons_succ]
  clear hk hkk NEW HBU HZS HC HB HZ HR1 HAT HS3
  generalize (w1.alloc (.cells zE 31)).setRow w1.heap.size Z3 = w3 at *
  generalize w1.heap.size = g3 at *
  rw [HAE.out] at HR3
  have HC3 := Lib.hid (ev_row HWF.out HR3.out)
  have hfz : ∀ j, w3.frozen? ⟨g3, j, none⟩ = false := fun j => HEW.out.frozen j
  have hE1 : w3.cell? ⟨g3, 1, none⟩ = some (.slice none 0 0) := HEW.out.cells.b
  have hE99 : w3.cell? ⟨g3, 99, none⟩ = some (.int .i64 0) := HEW.out.cells.n
  have hP1 : w3.cell? ⟨w.heap.size, 1, none⟩ = some (.slice pb b.length cb) := HC3.out.b
  have hP99 : w3.cell? ⟨w.heap.size, 99, none⟩ = some (.int .i64 n) := HC3.out.n
  have hew := HEW.out.units u0 u1 u2 HWF.out.u0 HWF.out.u1 HWF.out.u2
  have HTH := Lib.hid (HEW.out.there 100 3 (by omega))
  go_upto_region 13 with (first
    | refine loadM (by rfl) 29 _ rfl w.heap.size 100 rfl #[.int .i64 u0, .int .i64 u1, .int .i64 u2] _ HC3.out.us Tryd.underlying29 rfl (infoU3 _ rfl) ?_
    | refine wpList_store_mid rfl 29 _ _ rfl g3 100 #[.int .i64 u0, .int .i64 u1, .int .i64 u2] rfl rfl HTH.out (infoU3 _ rfl) (by simp [Value.oneCell']) ?_)
  clear hfz hE1 hE99 hP1 hP99
  have hpn := hew.turn.keep HR3.out (by show ¬ w.heap.size = g3; have := HG3.out; omega)
  have hP99 : (w3.setCells g3 100 [.int .i64 u0, .int .i64 u1, .int .i64 u2]).cell? ⟨w.heap.size, 99, none⟩ = some (.int .i64 n) := (ev_row HWF.out hpn).n
  have hfz : ∀ j, (w3.setCells g3 100 [.int .i64 u0, .int .i64 u1, .int .i64 u2]).frozen? ⟨g3, j, none⟩ = false := fun j => hew.frozen j
  have hE99 : (w3.setCells g3 100 [.int .i64 u0, .int .i64 u1, .int .i64 u2]).cell? ⟨g3, 99, none⟩ = some (.int .i64 0) := hew.cells.n
  have HEX := Lib.hid (hew.num n HWF.out.n)
  clear hpn hew
  generalize w3.setCells g3 100 [.int .i64 u0, .int .i64 u1, .int .i64 u2] = w5 at *
  go_upto_region 14 with fail
  clear hfz hE99 hP99
  generalize w5.setCell ⟨g3, 99, none⟩ (.int .i64 n) = wX at *
  skip
  -- the event is told: world wX; HEX : Hid (EW w3 g3 .. ⟨6, [], zeros, zeros, [], zeros, n, u0, u1, u2⟩ none 0 none 0 wX)
  have hbx := HEX.out.turn.below HB3.out.size (fun k hk => by have hk : k = g3 := hk; have := HG3.out; omega)
  have HBX := Lib.hid (HB3.out.trans hbx)
  have hzx := HEX.out.turn.keep HZ3.out (by show ¬ w.heap.size + 1 = g3; have := HG3.out; omega)
  have HZX := Lib.hid hzx
  have HRX : Hid ((wX).heap[g3]? = some (.cells (evA (⟨6, [], zeros, zeros, [], zeros, n, u0, u1, u2⟩) none 0 none 0) 31 (0, 0))) := HEX.out.row
  have HWX : Hid (Ev.Wf (⟨6, [], zeros, zeros, [], zeros, n, u0, u1, u2⟩)) := HEX.out.wf
  obtain ⟨X, hX⟩ : ∃ X, X = evA (⟨6, [], zeros, zeros, [], zeros, n, u0, u1, u2⟩) none 0 none 0 := ⟨_, rfl⟩
  rw [← hX] at HRX
  have HXS : Hid (X.size = 103 ∧ X.all (·.oneCell') = true) := by show _ ∧ _; rw [hX]; exact ⟨evA_size HWX.out _ _ _ _, evA_one _ _ _ _ _⟩
  have HXE := Lib.hid hX
  clear hbx hzx hX
  go_wp2_with (first
    | refine wpList_load_row rfl 31 _ rfl g3 rfl 31 X (0, 0) _ HRX.out Tryd.underlying31 rfl (infoE _ HXS.out.1) ?_
    | refine wpList_store_row rfl 31 _ _ rfl (w.heap.size + 1) X rfl rfl 31 zE HZX.out (infoE _ HXS.out.1) (by rw [HXS.out.1]; exact zE_size) HXS.out.2 ?_)
  have HS := Lib.hid (setRow_heap _ _ _ X _ _ HZX.out)
  have hbe := below_setRow HBX.out (show w.heap.size ≤ w.heap.size + 1 by omega) X
  have HTT : Hid (Turns (fun k => k = g3 ∨ k = w.heap.size + 1) w3 ((wX).setRow (w.heap.size + 1) X)) := (HEX.out.turn.imp (fun k _ hk => .inl hk)).trans (turns_setRow _ _ _) (fun k _ hk => .inr hk)
  refine bodyPost_ret (results_cell_row rfl _ _ _ _ _ _ _ rfl HS.out Tryd.underlying31 rfl (infoE _ HXS.out.1)) rfl ?_
  refine ⟨none, 0, none, 0, congrArg (fun z => Ending.returned (Value.agg z)) HXE.out, ⟨HWX.out, ?_, ?_⟩, hbe⟩
  · exact Sl.nil _ _
  · exact Is.nil _ _
theorem only_any (e : Ev) (hk : 1 ≤ e.k ∧ e.k ≤ 6) (pb : Option Addr) (cb : Nat) (q : Option Addr) (c : Nat) (w : World) (h : EvAt w e pb cb q c) :
    Calls Tryd.prog 20 #[.agg (evA e pb cb q c)] w (EvP (only e) w) := by
  obtain ⟨k, b, hh, p, tx, id, n, u0, u1, u2⟩ := e
  have h1 : 1 ≤ k := hk.1
  have h2 : k ≤ 6 := hk.2
  have hc : k = 1 ∨ k = 2 ∨ k = 3 ∨ k = 4 ∨ k = 5 ∨ k = 6 := by omega
  rcases hc with rfl | rfl | rfl | rfl | rfl | rfl
  · exact only1 b hh p tx id n u0 u1 u2 pb cb q c w h
  · exact only2 b hh p tx id n u0 u1 u2 pb cb q c w h
  · exact only3 b hh p tx id n u0 u1 u2 pb cb q c w h
  · exact only4 b hh p tx id n u0 u1 u2 pb cb q c w h
  · exact only5 b hh p tx id n u0 u1 u2 pb cb q c w h
  · exact only6 b hh p tx id n u0 u1 u2 pb cb q c w h
end Go.Proofs.YtcddgbobbogpgaaDoor.Scr

namespace Go.Mir
open Go.RowKit

section
variable {P : Program} {ops : Array Oper} {S : World → Prop} {Q : Exit → Act → World → Prop} {marks : List Nat}
/-- it waits for i, by a path of edges -/
def waitsB (ops : Array Oper) : Nat → Nat → Nat → Bool
  | 0, _, _ => false
  | n + 1, j, i => match ops[j]? with
    | some o => o.after.any fun e => Region.binds .any e && (e.on == i || waitsB ops n e.on i)
    | none => false
/-- it waits for every marked operation -/
def lateB (ops : Array Oper) (marks : List Nat) (j : Nat) : Bool := marks.all fun i => waitsB ops 16 j i
/-- what is listed had all that it waits for listed -/
def closedL (ops : Array Oper) (listed : Array Bool) : Prop := ∀ (j : Nat) (o : Oper), ops[j]? = some o → listed.getD j false = true → ∀ e ∈ o.after, Region.binds .any e = true → listed.getD e.on false = true
theorem waits_listed {listed : Array Bool} (hc : closedL ops listed) {i : Nat} : ∀ (n j : Nat) (o : Oper), ops[j]? = some o → (∀ e ∈ o.after, Region.binds .any e = true → listed.getD e.on false = true) → waitsB ops n j i = true → listed.getD i false = true
  | 0, _, _, _, _, h => by cases h
  | n + 1, j, o, ho, hall, h => by
    simp only [waitsB, ho] at h
    rw [Array.any_eq_true] at h
    obtain ⟨k, hk, h4⟩ := h
    simp only [Bool.and_eq_true, Bool.or_eq_true, beq_iff_eq] at h4
    have hl := hall _ (Array.getElem_mem hk) h4.1
    rcases h4.2 with h5 | h5
    · rw [h5] at hl; exact hl
    · cases ho2 : ops[o.after[k].on]? with
      | none => cases n with
        | zero => cases h5
        | succ m => simp [waitsB, ho2] at h5
      | some o2 => exact waits_listed hc n _ o2 ho2 (hc _ o2 ho2 hl) h5
theorem closedL.set {listed : Array Bool} (hc : closedL ops listed) {j : Nat} (hj : j ∈ Region.ready .any ops listed) : closedL ops (listed.setIfInBounds j true) := fun k o ho hk e he hb => by
  obtain ⟨_, oj, hoj, hall⟩ := mem_ready.1 hj
  by_cases hjk : j = k
  · subst hjk
    rw [hoj] at ho
    cases ho
    exact getD_set_true (hall e he hb)
  · rw [getD_set_ne false hjk] at hk
    exact getD_set_true (hc k o ho hk e he hb)
/-- whichever comes up: S is asked only behind what can come ahead of a marked operation -/
def wpAnyG (P : Program) (ops : Array Oper) (Q : Exit → Act → World → Prop) (S : World → Prop) (marks : List Nat) : Nat → Array Bool → Act → World → Prop
  | 0, listed, a, w => Region.ready .any ops listed = [] ∧ Q .normal a w
  | n + 1, listed, a, w => (Region.ready .any ops listed = [] → Q .normal a w) ∧
    ∀ i ∈ Region.ready .any ops listed, wpOp P ops Q i (fun a' w' => (lateB ops marks i = false → S w') ∧ wpAnyG P ops Q S marks n (listed.setIfInBounds i true) a' w') a w
theorem wpAny_of_G : ∀ (n : Nat) (listed : Array Bool) (a : Act) (w : World), wpAnyG P ops Q S marks n listed a w → wpAny P .any ops Q n listed a w
  | 0, _, _, _, h => h
  | n + 1, _, _, _, h => ⟨h.1, fun i hi => wpOp_mono (fun a' w' h' => wpAny_of_G n _ a' w' h'.2) (h.2 i hi)⟩
theorem wpAnyG_take {i : Nat} {oi : Oper} {v : Value} (hi : ops[i]? = some oi) (hmk : i ∈ marks) (hsel : ∀ (j : Nat) (o : Oper) cs b, ops[j]? = some o → o.op ≠ .select cs b)
    (hQ : ∀ c a w, Q (.panic c) (a.put oi.dst v) w → Q (.panic c) a w) :
    ∀ (n : Nat) (listed : Array Bool) (a : Act) (w : World),
      (∀ j oj, ops[j]? = some oj → j ≠ i → listed.getD j true = false → (∀ e ∈ oj.after, Region.binds .any e = true → e.on ≠ i) → oi.apart ops oj = true) →
      i ∈ Region.ready .any ops listed → closedL ops listed → YieldsIf P ops S oi v a → S w →
      wpAnyG P ops Q S marks n (listed.setIfInBounds i true) (a.put oi.dst v) w → wpAnyG P ops Q S marks (n + 1) listed a w := by
  intro n
  induction n with
  | zero =>
    intro listed a w _ hr hcl hy hS H
    refine ⟨fun h => absurd (h ▸ hr) List.not_mem_nil, fun j hj => ?_⟩
    by_cases hji : j = i
    · subst hji; exact hy.wpOp hi hS ⟨fun _ => hS, H⟩
    · exact absurd (H.1 ▸ ready_mono hj hji) List.not_mem_nil
  | succ n ih =>
    intro listed a w hfree hr hcl hy hS H
    refine ⟨fun h => absurd (h ▸ hr) List.not_mem_nil, fun j hj => ?_⟩
    by_cases hji : j = i
    · subst hji; exact hy.wpOp hi hS ⟨fun _ => hS, H⟩
    obtain ⟨hjun, oj, hoj, hall⟩ := mem_ready.1 hj
    have hiun := (mem_ready.1 hr).1
    have hno : ∀ e ∈ oj.after, Region.binds .any e = true → e.on ≠ i := fun e he hb heq => by
      have h1 := hall e he hb
      rw [heq] at h1
      rcases Nat.lt_or_ge i listed.size with h' | h'
      · simp [h'] at hiun h1; rw [hiun] at h1; cases h1
      · simp [Array.getElem?_eq_none h'] at h1
    have hlate : lateB ops marks j = false := by
      cases hl : lateB ops marks j with
      | false => rfl
      | true =>
        simp only [lateB, List.all_eq_true] at hl
        have h3 := waits_listed hcl 16 j oj hoj hall (hl i hmk)
        rcases Nat.lt_or_ge i listed.size with h' | h'
        · simp [h'] at hiun h3; rw [hiun] at h3; cases h3
        · simp [Array.getElem?_eq_none h'] at h3
    have h2 := wpOp_putIf hoj (hfree j oj hoj hji hjun hno) (fun cs b => hsel i oi cs b hi) (fun cs b => hsel j oj cs b hoj) hQ hy (H.2 j (ready_mono hj hji))
    refine wpOp_mono (fun a' w' h3 => ⟨h3.2.1, ih (listed.setIfInBounds j true) a' w' ?_ (ready_mono hr (Ne.symm hji)) (hcl.set hj) h3.1 (h3.2.1 hlate) ?_⟩) h2
    · intro k ok hk hki hun hn'
      refine hfree k ok hk hki ?_ hn'
      by_cases hjk : j = k
      · subst hjk; exact hjun
      · rw [getD_set_ne true hjk] at hun; exact hun
    · rw [Array.setIfInBounds_comm _ _ hji]
      exact h3.2.2
/-- the plan: what is taken or called while S stands; then what is late -/
def planT (ops : Array Oper) (marks : List Nat) : List Nat → Array Bool → Bool
  | j :: t, l => (ops[j]?).isSome && Region.ready .any ops l == [j] && lateB ops marks j && planT ops marks t (l.setIfInBounds j true)
  | [], l => (Region.ready .any ops l).isEmpty
def planG (ops : Array Oper) (marks : List Nat) (t : List Nat) : List (Nat × Bool) → Array Bool → Bool
  | (i, true) :: r, l => (ops[i]?).isSome && marks.contains i && Region.free .any ops l i && (Region.ready .any ops l).contains i && planG ops marks t r (l.setIfInBounds i true)
  | (i, false) :: r, l => (ops[i]?).isSome && Region.ready .any ops l == [i] && planG ops marks t r (l.setIfInBounds i true)
  | [], l => planT ops marks t l
def tailOps (l : List Oper) : List Nat → List Oper
  | [] => []
  | j :: t => match nthO l j with
    | some o => o :: tailOps l t
    | none => tailOps l t
/-- the walk: while S stands, and on -/
def wpEagerT (P : Program) (ops : Array Oper) (S : World → Prop) (Q : Exit → Act → World → Prop) (T : List Oper) : List (Oper × Bool) → Act → World → Prop
  | [], a, w => wpList P ops Q T a w
  | (o, true) :: r, a, w => ∃ v, YieldsIf P ops S o v a ∧ wpEagerT P ops S Q T r (a.put o.dst v) w
  | (o, false) :: r, a, w => if Region.wanted o (yielded ops a.tmps) then o.wp P a w (fun a' w' => S w' ∧ wpEagerT P ops S Q T r a' w') Q else wpEagerT P ops S Q T r (a.put o.dst undef) w
theorem wpAnyG_late {l : List Oper} (hl : l.toArray = ops) (hs : Region.noSelect ops = true) : ∀ (t : List Nat) (listed : Array Bool) (a : Act) (w : World), planT ops marks t listed = true → wpList P ops Q (tailOps l t) a w → wpAnyG P ops Q S marks t.length listed a w
  | [], listed, a, w, hp, h => by
    simp only [planT, List.isEmpty_iff] at hp
    exact ⟨hp, h⟩
  | j :: t, listed, a, w, hp, h => by
    simp only [planT, Bool.and_eq_true, beq_iff_eq] at hp
    obtain ⟨⟨⟨h1, h2⟩, h3⟩, h4⟩ := hp
    obtain ⟨o, ho⟩ := Option.isSome_iff_exists.1 h1
    have hn : nthO l j = some o := by rw [← nthO_eq, hl]; exact ho
    simp only [tailOps, hn] at h
    refine ⟨fun e => (by rw [h2] at e; cases e), fun i hi => ?_⟩
    rw [h2, List.mem_singleton] at hi
    subst hi
    unfold wpOp
    simp only [ho]
    unfold wpList at h
    split at h
    · rename_i hw
      rw [if_pos hw]
      exact h.imp (fun h => Oper.wp_mono (fun a' w' h5 => ⟨fun e => (by rw [h3] at e; cases e), wpAnyG_late hl hs t _ _ _ h4 h5⟩) h) id
    · rename_i hw
      rw [if_neg hw]
      exact ⟨fun e => (by rw [h3] at e; cases e), wpAnyG_late hl hs t _ _ _ h4 h⟩
theorem wpAnyG_plan {l : List Oper} (hl : l.toArray = ops) (hs : Region.noSelect ops = true) (hQ : ∀ c a d v w, Q (.panic c) (a.put d v) w → Q (.panic c) a w) (t : List Nat) :
    ∀ (π : List (Nat × Bool)) (listed : Array Bool) (a : Act) (w : World), planG ops marks t π listed = true → closedL ops listed → S w → wpEagerT P ops S Q (tailOps l t) (planOps l π) a w → wpAnyG P ops Q S marks (π.length + t.length) listed a w
  | [], listed, a, w, hp, _, _, h => by
    rw [List.length_nil, Nat.zero_add]
    exact wpAnyG_late hl hs t _ _ _ hp h
  | (i, true) :: r, listed, a, w, hp, hcl, hS, h => by
    simp only [planG, Bool.and_eq_true] at hp
    obtain ⟨⟨⟨⟨h1, hmk⟩, h2⟩, h3⟩, h4⟩ := hp
    obtain ⟨o, ho⟩ := Option.isSome_iff_exists.1 h1
    have hn : nthO l i = some o := by rw [← nthO_eq, hl]; exact ho
    simp only [planOps, hn, wpEagerT] at h
    obtain ⟨v, hy, h⟩ := h
    rw [List.length_cons, Nat.add_right_comm]
    exact wpAnyG_take ho (by simpa using hmk) (Region.noSelect_spec hs) (fun c a w => hQ c a _ _ w) _ _ _ _ (Region.free_spec ho h2) (by simpa using h3) hcl hy hS (wpAnyG_plan hl hs hQ t r _ _ _ h4 (hcl.set (by simpa using h3)) hS h)
  | (i, false) :: r, listed, a, w, hp, hcl, hS, h => by
    simp only [planG, Bool.and_eq_true, beq_iff_eq] at hp
    obtain ⟨⟨h1, h2⟩, h4⟩ := hp
    obtain ⟨o, ho⟩ := Option.isSome_iff_exists.1 h1
    have hn : nthO l i = some o := by rw [← nthO_eq, hl]; exact ho
    simp only [planOps, hn, wpEagerT] at h
    rw [List.length_cons, Nat.add_right_comm]
    refine ⟨fun e => (by rw [h2] at e; cases e), fun j hj => ?_⟩
    rw [h2, List.mem_singleton] at hj
    subst hj
    unfold wpOp
    simp only [ho]
    split at h
    · rename_i hw
      rw [if_pos hw]
      exact .inl (Oper.wp_mono (fun a' w' ⟨h5, h6⟩ => ⟨fun _ => h5, wpAnyG_plan hl hs hQ t r _ _ _ h4 (hcl.set (by rw [h2]; exact List.mem_singleton.2 rfl)) h5 h6⟩) h)
    · rename_i hw
      rw [if_neg hw]
      exact ⟨fun _ => hS, wpAnyG_plan hl hs hQ t r _ _ _ h4 (hcl.set (by rw [h2]; exact List.mem_singleton.2 rfl)) hS h⟩
/-- the beginning -/
theorem wp_region_eager_t {id : Nat} {a : Act} {w : World} {l : List Oper} (S : World → Prop) (marks : List Nat) (π : List (Nat × Bool)) (t : List Nat) (hm : P.follows .mixedOrders = true)
    (hp : (planG l.toArray marks t π (Array.replicate l.length false) && Region.noSelect l.toArray && π.length + t.length == l.length) = true) (hS : S w.drew)
    (h : wpEagerT P l.toArray S (NoPanic Q) (tailOps l t) (planOps l π) a w.drew) : (Code.region id l.toArray true).wp P Q a w := by
  refine wp_region_noPanic ?_
  simp only [Bool.and_eq_true, beq_iff_eq] at hp
  obtain ⟨⟨h1, h2⟩, h3⟩ := hp
  have := wpAny_of_G _ _ _ _ (wpAnyG_plan (P := P) (Q := NoPanic Q) (S := S) (marks := marks) (l := l) rfl h2 (fun _ _ _ _ _ h => h) t π (Array.replicate l.length false) a w.drew h1 (fun j o _ hj => by rw [Array.getD_eq_getD_getElem?, Array.getElem?_replicate] at hj; split at hj <;> cases hj) hS h)
  refine wp_region_any hm ?_
  rw [h3] at this
  have hz : l.toArray.size = l.length := List.size_toArray ..
  rw [hz]
  exact this
/-- the next operation, written out -/
theorem eagerTOpen {l : List Oper} {T : List Oper} {i : Nat} {b : Bool} {r : List (Nat × Bool)} {a : Act} {w : World} {o : Oper} (ho : nthO l i = some o)
    (h : wpEagerT P ops S Q T ((o, b) :: planOps l r) a w) : wpEagerT P ops S Q T (planOps l ((i, b) :: r)) a w := by
  unfold planOps; rw [ho]; exact h
theorem eagerTEnd {l : List Oper} {T : List Oper} {a : Act} {w : World} (h : wpList P ops Q T a w) : wpEagerT P ops S Q T (planOps l []) a w := h
theorem tail1 {l : List Oper} {j : Nat} {a : Act} {w : World} {o : Oper} (ho : nthO l j = some o) (h : wpList P ops Q [o] a w) : wpList P ops Q (tailOps l [j]) a w := by
  simp only [tailOps, ho]; exact h
theorem tail2 {l : List Oper} {j k : Nat} {a : Act} {w : World} {o o' : Oper} (ho : nthO l j = some o) (ho' : nthO l k = some o') (h : wpList P ops Q [o, o'] a w) : wpList P ops Q (tailOps l [j, k]) a w := by
  simp only [tailOps, ho, ho']; exact h
theorem wpEagerT_tail {T : List Oper} {a : Act} {w : World} (h : wpList P ops Q T a w) : wpEagerT P ops S Q T [] a w := h
theorem wpEagerT_take {T : List Oper} {o : Oper} {r : List (Oper × Bool)} {a : Act} {w : World} {v : Value} (hw : Region.wanted o (yielded ops a.tmps) = true)
    (hy : ∀ w', S w' → (execOp a.eval o).run P w' = .ok (.value v) w') (h : wpEagerT P ops S Q T r (a.put o.dst v) w) : wpEagerT P ops S Q T ((o, true) :: r) a w := ⟨v, .inl ⟨hw, hy⟩, h⟩
theorem wpEagerT_skip {T : List Oper} {o : Oper} {r : List (Oper × Bool)} {a : Act} {w : World} (hw : Region.wanted o (yielded ops a.tmps) = false)
    (h : wpEagerT P ops S Q T r (a.put o.dst undef) w) : wpEagerT P ops S Q T ((o, true) :: r) a w := ⟨undef, .inr ⟨hw, rfl⟩, h⟩
theorem wpEagerT_load {T : List Oper} {op : Oper} {r : List (Oper × Bool)} {a : Act} {w : World} (hw : Region.wanted op (yielded ops a.tmps) = true) (ty : TypeId) (x : Operand) (ho : op.op = .load ty x)
    (b o : Nat) (hx : a.eval x = .pointer (some ⟨b, o, none⟩)) (M : Array Value) (d : TypeDesc) (hc : ∀ w', S w' → w'.rangeAt b o M.toList)
    (hu : P.underlying ty = some d) (hd : d.isRow = true) (hi : (P.info? ty).map (·.size) = some M.size)
    (h : wpEagerT P ops S Q T r (a.put op.dst (.agg M)) w) : wpEagerT P ops S Q T ((op, true) :: r) a w := by
  refine wpEagerT_take hw (fun w' hb => ?_) h
  unfold execOp
  simp only [ho, hx, Instr.loadAt, Instr.sureAddr, Sem.run_bind, Sem.run_pure, Result.andThen_ok, run_loadVar_mid w' b o ty M.toList d (hc w' hb) hu hd (by simpa using hi)]
theorem wpEagerT_op {T : List Oper} {o : Oper} {r : List (Oper × Bool)} {a : Act} {w : World} (hw : Region.wanted o (yielded ops a.tmps) = true)
    (h : ∀ K : Act → World → Prop, Shut (∀ a w, S w → wpEagerT P ops S Q T r a w → K a w) → Oper.wp P o a w K Q) : wpEagerT P ops S Q T ((o, false) :: r) a w := by
  unfold wpEagerT; rw [if_pos hw]; exact h _ fun _ _ h1 h2 => ⟨h1, h2⟩
theorem eagerTLoadAt {T : List Oper} {r : List (Oper × Bool)} {a : Act} {w : World} (n : Nat) {d : Option Nat} {ty : TypeId} {t : TypeId} {p : String} {af : Array Edge} {g : Option (Nat × Bool)} {b : Bool}
    (h : wpEagerT P ops S Q T ((⟨d, .load ty (.tmp n), t, p, af, g⟩, b) :: r) a w) : wpEagerT P ops S Q T ((⟨d, .load ty (.tmp n), t, p, af, g⟩, b) :: r) a w := h
end
/-- where an operation alone ends -/
def OnlyQ (K : Act → World → Prop) (Q : Exit → Act → World → Prop) : Exit → Act → World → Prop
  | .normal, a, w => K a w
  | .panic c, a, w => Q (.panic c) a w
  | _, _, _ => False
/-- an operation by its law for a list -/
theorem oper_of_list {P : Program} {o : Oper} {a : Act} {w : World} {K : Act → World → Prop} {Q : Exit → Act → World → Prop} (hg : o.guard = none)
    (h : wpList P #[] (OnlyQ K Q) [o] a w) : Oper.wp P o a w K Q := by
  have hno : ¬ LetsOut (OnlyQ K Q) := fun ⟨_, _, h⟩ => h
  unfold wpList at h
  rw [if_pos (by simp [Region.wanted, hg])] at h
  rcases h with h | ⟨_, h⟩
  · replace h : Oper.wp P o a w K (OnlyQ K Q) := h
    unfold Oper.wp at h ⊢
    unfold Oper.upon at h ⊢
    split at h
    · exact h
    · exact h
    · exact h
    · refine Calls.mono h ?_
      intro e w' he
      cases e with
      | returned v => exact he
      | panicked c => exact he
      | outgrown => exact absurd he hno
    · exact h
    · exact h
    · exact h.elim
  · exact absurd h hno
theorem only_end {P : Program} {ops : Array Oper} {K : Act → World → Prop} {Q : Exit → Act → World → Prop} {a : Act} {w : World} (h : K a w) : wpList P ops (OnlyQ K Q) [] a w := h
theorem noPanic_end {Q : Exit → Act → World → Prop} {a : Act} {w : World} (h : Q .normal a w) : NoPanic Q .normal a w := h
end Go.Mir

namespace Go.Proofs.YtcddgbobbogpgaaDoor.Scr
open Go.RowKit Go.Mir Go.Mir.Hx Go.Mir.Parts HexW Rpl
open Go.Lib (join)

theorem wpList_buildStr {ops : Array Oper} {rest : List Oper} {o : Oper} {a : Act} {w : World} {Q : Exit → Act → World → Prop} (hg : o.guard = none) (x : Operand) (ho : o.op = .buildSlice 65 1 #[(0, x)]) (s : List UInt8) (hx : a.eval x = .string (S s))
    (h : wpList Tryd.prog ops Q rest (a.put o.dst (.slice (some ⟨w.heap.size, 0, none⟩) 1 1)) (w.alloc (.cells #[.string (S s)] 9))) : wpList Tryd.prog ops Q (o :: rest) a w := by
  obtain ⟨i, hi, hiv⟩ := Option.map_eq_some_iff.1 infoStr
  obtain ⟨h1, h2, _⟩ := (by simpa using hiv : i.zero = some (.string ⟨#[]⟩) ∧ i.size = 1 ∧ i.bytes = 16)
  refine wpList_buildSlice hg 65 9 1 _ ho _ i _ Tryd.underlying65 hi h1 (by rw [h2]; omega) (by rw [h2]; omega) ?_ h
  have : (#[(0, x)].map fun (p : Nat × Operand) => (p.1, a.eval p.2)).toList = [(0, .string (S s))] := by simp [hx]
  rw [this, h2, show Array.map (fun x => (Value.string ⟨#[]⟩).cells[x % (Value.string ⟨#[]⟩).cells.size]!) (Array.range (1 * 1)) = #[.string ⟨#[]⟩] from by kernel_rfl]
  simp [Instr.fill, Value.cells]
theorem own_str (w : World) (base : Nat) (s : List UInt8) (hb : base ≤ w.heap.size) : (w.alloc (.cells #[.string (S s)] 9)).ownsRow base 9 1 (.slice (some ⟨w.heap.size, 0, none⟩) 1 1) 1 (strV [s]) :=
  ⟨rfl, .inr ⟨w.heap.size, 1, _, rfl, hb, heap_alloc_last _ _, Nat.le_refl _, by simp [maxLen], rfl, rfl⟩⟩
theorem idx1 (w0 : World) : (Instr.index 63 (.agg (strV K6).toArray) (.int .i64 1)).run Tryd.prog w0 = .ok (.string (S (K6.getD 1 []))) w0 := by kernel_rfl
theorem idx2 (w0 : World) : (Instr.index 63 (.agg (strV K6).toArray) (.int .i64 2)).run Tryd.prog w0 = .ok (.string (S (K6.getD 2 []))) w0 := by kernel_rfl
theorem idx3 (w0 : World) : (Instr.index 63 (.agg (strV K6).toArray) (.int .i64 3)).run Tryd.prog w0 = .ok (.string (S (K6.getD 3 []))) w0 := by kernel_rfl
theorem idx4 (w0 : World) : (Instr.index 63 (.agg (strV K6).toArray) (.int .i64 4)).run Tryd.prog w0 = .ok (.string (S (K6.getD 4 []))) w0 := by kernel_rfl
theorem idx5 (w0 : World) : (Instr.index 63 (.agg (strV K6).toArray) (.int .i64 5)).run Tryd.prog w0 = .ok (.string (S (K6.getD 5 []))) w0 := by kernel_rfl
theorem idx6 (w0 : World) : (Instr.index 63 (.agg (strV K6).toArray) (.int .i64 6)).run Tryd.prog w0 = .ok (.string (S (K6.getD 6 []))) w0 := by kernel_rfl
theorem idx_name (k : Int) (h : 1 ≤ k ∧ k ≤ 6) : ∀ w0, (Instr.index 63 (.agg (strV K6).toArray) (.int .i64 k)).run Tryd.prog w0 = .ok (.string (S (K6.getD k.toNat []))) w0 := fun w0 => by
  have hc : k = 1 ∨ k = 2 ∨ k = 3 ∨ k = 4 ∨ k = 5 ∨ k = 6 := by omega
  rcases hc with rfl | rfl | rfl | rfl | rfl | rfl
  · exact idx1 w0
  · exact idx2 w0
  · exact idx3 w0
  · exact idx4 w0
  · exact idx5 w0
  · exact idx6 w0
theorem idT_len (x : List UInt8) (h : x.length = 32) : (idText x).length ≤ 64 := by
  unfold idText; rw [pairsL_length, List.length_take]; omega
theorem textT_len (b : List UInt8) : (textL b).length ≤ 2 * b.length + 1 := by
  unfold textL
  split
  · show 1 ≤ _; omega
  · rw [pairsL_length]; omega
theorem k6_short (i : Nat) : (K6.getD i []).length ≤ 20 := by
  have h1 : ∀ x ∈ K6, x.length ≤ 20 := by decide
  by_cases h : i < K6.length
  · rw [List.getD_eq_getElem?_getD, List.getElem?_eq_getElem h]
    exact h1 _ (List.getElem_mem h)
  · rw [List.getD_eq_getElem?_getD, List.getElem?_eq_none (by omega)]; decide
theorem words_short {e : Ev} (hg : Good e) (hw : e.Wf) (hb : e.b.length ≤ 100000) : ∀ x ∈ wordsE e, x.length ≤ 200001 := fun x hx => by
  rcases List.mem_cons.1 hx with rfl | hx
  · have := k6_short e.k.toNat; omega
  · unfold restE at hx
    split at hx
    · rw [List.mem_singleton] at hx; rw [hx]; have := textT_len e.b; omega
    · split at hx
      · rcases List.mem_cons.1 hx with rfl | hx
        · have := idT_len _ hw.h; omega
        · rcases List.mem_cons.1 hx with rfl | hx
          · have := idT_len _ hw.p; omega
          · obtain ⟨y, hy, rfl⟩ := List.mem_map.1 hx
            have := idT_len _ (hw.tx y hy); omega
      · split at hx
        · rename_i h56
          obtain ⟨y, hy, rfl⟩ := List.mem_map.1 hx
          have h1 := hg.2.2 h56 y hy
          unfold okN at h1
          have := dec_len y.toNat (by omega); omega
        · rw [List.mem_singleton] at hx; rw [hx]; have := idT_len _ hw.id; omega
theorem rest_len (e : Ev) : (restE e).length ≤ e.tx.length + 4 := by
  unfold restE
  split
  · show 1 ≤ _; omega
  · split
    · simp only [List.length_cons, List.length_map]; omega
    · split
      · rw [List.length_map]; unfold numsE; split
        · show 1 ≤ _; omega
        · show 4 ≤ _; omega
      · show 1 ≤ _; omega
/-! ### ids, one behind the other -/
theorem infoIds : (Tryd.prog.info? 25).map (fun i => (i.zero, i.size, i.bytes)) = some (some (.agg Z32), 32, 32) := by kernel_rfl
theorem fill_v (a0 a1 a2 a3 a4 a5 a6 a7 a8 a9 a10 a11 a12 a13 a14 a15 a16 a17 a18 a19 a20 a21 a22 a23 a24 a25 a26 a27 a28 a29 a30 a31 b0 b1 b2 b3 b4 b5 b6 b7 b8 b9 b10 b11 b12 b13 b14 b15 b16 b17 b18 b19 b20 b21 b22 b23 b24 b25 b26 b27 b28 b29 b30 b31 : Value) : Instr.fill (fun i => some (i * 32, 32)) (Array.map (fun x => (Value.agg Z32).cells[x % (Value.agg Z32).cells.size]!) (Array.range (2 * 32))) [(0, .agg [a0, a1, a2, a3, a4, a5, a6, a7, a8, a9, a10, a11, a12, a13, a14, a15, a16, a17, a18, a19, a20, a21, a22, a23, a24, a25, a26, a27, a28, a29, a30, a31].toArray), (1, .agg [b0, b1, b2, b3, b4, b5, b6, b7, b8, b9, b10, b11, b12, b13, b14, b15, b16, b17, b18, b19, b20, b21, b22, b23, b24, b25, b26, b27, b28, b29, b30, b31].toArray)] = some ([a0, a1, a2, a3, a4, a5, a6, a7, a8, a9, a10, a11, a12, a13, a14, a15, a16, a17, a18, a19, a20, a21, a22, a23, a24, a25, a26, a27, a28, a29, a30, a31] ++ [b0, b1, b2, b3, b4, b5, b6, b7, b8, b9, b10, b11, b12, b13, b14, b15, b16, b17, b18, b19, b20, b21, b22, b23, b24, b25, b26, b27, b28, b29, b30, b31]).toArray := by kernel_rfl
theorem fill_l (a b : List Value) (ha : a.length = 32) (hb : b.length = 32) : Instr.fill (fun i => some (i * 32, 32)) (Array.map (fun x => (Value.agg Z32).cells[x % (Value.agg Z32).cells.size]!) (Array.range (2 * 32))) [(0, .agg a.toArray), (1, .agg b.toArray)] = some (a ++ b).toArray :=
  match a, ha, b, hb with
  | [a0, a1, a2, a3, a4, a5, a6, a7, a8, a9, a10, a11, a12, a13, a14, a15, a16, a17, a18, a19, a20, a21, a22, a23, a24, a25, a26, a27, a28, a29, a30, a31], _, [b0, b1, b2, b3, b4, b5, b6, b7, b8, b9, b10, b11, b12, b13, b14, b15, b16, b17, b18, b19, b20, b21, b22, b23, b24, b25, b26, b27, b28, b29, b30, b31], _ => fill_v a0 a1 a2 a3 a4 a5 a6 a7 a8 a9 a10 a11 a12 a13 a14 a15 a16 a17 a18 a19 a20 a21 a22 a23 a24 a25 a26 a27 a28 a29 a30 a31 b0 b1 b2 b3 b4 b5 b6 b7 b8 b9 b10 b11 b12 b13 b14 b15 b16 b17 b18 b19 b20 b21 b22 b23 b24 b25 b26 b27 b28 b29 b30 b31
theorem wpList_buildIds {ops : Array Oper} {rest : List Oper} {o : Oper} {a : Act} {w : World} {Q : Exit → Act → World → Prop} (hg : o.guard = none) (x y : Operand) (ho : o.op = .buildSlice 26 2 #[(0, x), (1, y)]) (s t : List UInt8) (hs : s.length = 32) (ht : t.length = 32) (hx : a.eval x = .agg (idA s)) (hy : a.eval y = .agg (idA t))
    (h : wpList Tryd.prog ops Q rest (a.put o.dst (.slice (some ⟨w.heap.size, 0, none⟩) 2 2)) (w.alloc (.cells (bytesV s ++ bytesV t).toArray 25))) : wpList Tryd.prog ops Q (o :: rest) a w := by
  obtain ⟨i, hi, hiv⟩ := Option.map_eq_some_iff.1 infoIds
  have e1 : i.zero = some (.agg Z32) := congrArg Prod.fst hiv
  have e2 : i.size = 32 := congrArg (fun z => z.2.1) hiv
  refine wpList_buildSlice hg 26 25 2 _ ho _ i _ Tryd.underlying26 hi e1 (by rw [e2]; omega) (by rw [e2]; omega) ?_ h
  have : (#[(0, x), (1, y)].map fun (p : Nat × Operand) => (p.1, a.eval p.2)).toList = [(0, .agg (idA s)), (1, .agg (idA t))] := by simp [hx, hy]
  rw [this, e2]
  exact fill_l (bytesV s) (bytesV t) (by rw [bytesV_length, hs]) (by rw [bytesV_length, ht])
theorem own_ids (w : World) (base : Nat) (s t : List UInt8) (hs : s.length = 32) (ht : t.length = 32) (hb : base ≤ w.heap.size) : (w.alloc (.cells (bytesV s ++ bytesV t).toArray 25)).ownsRow base 25 32 (.slice (some ⟨w.heap.size, 0, none⟩) 2 2) 2 ([s, t].flatMap bytesV) :=
  ⟨by simp [bytesV_length, hs, ht], .inr ⟨w.heap.size, 2, _, rfl, hb, heap_alloc_last _ _, Nat.le_refl _, by simp [maxLen], by simp [bytesV_length, hs, ht], by
    show List.take _ (bytesV s ++ bytesV t) = _
    rw [List.take_of_length_le (by simp [bytesV_length, hs, ht])]
    simp⟩⟩
theorem flat_one (l : List (List UInt8)) : ∀ u ∈ l.flatMap bytesV, u.oneCell' = true := fun u hu => by
  obtain ⟨x, _, hx⟩ := List.mem_flatMap.1 hu
  exact bytesV_one _ u hx
def LineP (e : Ev) (w : World) (x : Ending) (w' : World) : Prop := x = .returned (.tuple #[.string (S (lineE e)), .bool (decide (Good e))]) ∧ Below w.heap.size w w'
theorem line_bad {e : Ev} (h : ¬ Good e) : lineE e = [] ∧ decide (Good e) = false := ⟨if_neg h, decide_eq_false h⟩
theorem line_good {e : Ev} (h : Good e) : lineE e = join (wordsE e) [32] ∧ decide (Good e) = true := ⟨if_pos h, decide_eq_true h⟩
set_option maxRecDepth 100000 in
set_option maxHeartbeats 6400000 in
theorem line_any (e : Ev) (pb : Option Addr) (cb : Nat) (q : Option Addr) (c : Nat) (w : World) (h : EvAt w e pb cb q c) (hby : e.b.length ≤ 100000) (htx : e.tx.length ≤ 100000) :
    Calls Tryd.prog 7 #[.agg (evA e pb cb q c)] w (LineP e w) := by
  have hal := Below.allocs w (.cells (evA e pb cb q c) 31)
  have hr := heap_alloc_last w (.cells (evA e pb cb q c) 31)
  have HB1 := Lib.hid hal
  have HWF := Lib.hid h.wf
  have HAT := Lib.hid (h.below hal)
  have HBY := Lib.hid hby
  have HTX := Lib.hid htx
  obtain ⟨A, hA⟩ : ∃ A, A = evA e pb cb q c := ⟨_, rfl⟩
  have HAS : Hid (A.size = 103) := by show _ = _; rw [hA]; exact evA_size h.wf pb cb q c
  have HAE := Lib.hid hA
  rw [← hA] at hr HB1 HAT ⊢
  have HR1 := Lib.hid hr
  have hrow := hr
  rw [hA] at hrow
  have hk := (ev_row h.wf (by rw [hA] at hr; exact hr)).k
  rw [← hA] at hk
  clear h hal hr hA hby htx hrow
  by_cases k1 : e.k < 1
  · have d1 : decide (e.k < 1) = true := decide_eq_true k1
    have HBAD : Hid (¬ Good e) := fun hg => by have := hg.1.1; omega
    clear k1
    go_enter Tryd.func7, Tryd.ntmps7
    go_upto_region 1 with fail
    generalize w.alloc (.cells A 31) = w1 at *
    have HK1 : Hid (∀ w', Below w1.heap.size w1 w' → w'.cell? ⟨w.heap.size, 0, none⟩ = some (.int .i64 e.k)) := fun w' hb => cell_below hk hb
    refine wp_region_eager [(0, true), (1, true), (2, true), (3, true), (4, true), (5, true), (6, true), (7, true), (8, true), (9, true), (10, true), (11, true), (12, true), (13, true), (14, true)] (by kernel_rfl) (by kernel_rfl) (eagerOpen rfl ?_)
    have hy0 : Below w1.heap.size w1 w1.drew := below_drew1 _ _
    repeat (first
      | (first | (apply wpEager_take; (· rfl); (· (intro w' hb'; go_simp; try with_reducible rfl)); (try simp only [Act.put, List.setIfInBounds_toArray, List.set_cons_zero, List.set_cons_succ]); (try refine eagerOpen rfl ?_)) | (refine wpEager_skip (by rfl) ?_; (try simp only [Act.put, List.setIfInBounds_toArray, List.set_cons_zero, List.set_cons_succ]); (try refine eagerOpen rfl ?_)) | (refine wpEager_off (by rfl) ?_; (try simp only [Act.put, List.setIfInBounds_toArray, List.set_cons_zero, List.set_cons_succ]); (try refine eagerOpen rfl ?_)))
      | (apply wpEager_take; (· rfl); (· (intro w' hb'; have hk' := (HK1.out) w' hb'; go_split_ands; go_simp; try with_reducible rfl)); (try simp only [Act.put, List.setIfInBounds_toArray, List.set_cons_zero, List.set_cons_succ]); (try refine eagerOpen rfl ?_)))
    refine eagerEnd ?_
    have HBX := Lib.hid (HB1.out.trans (hy0.mono HB1.out.size))
    clear hy0 hk
    go_wp2_with fail
    skip
    -- no line is told: HBX : Below w.heap.size w WX; HBAD : Hid (¬ Good e)
    go_ret2
    obtain ⟨f1, f2⟩ := line_bad HBAD.out
    unfold LineP
    rw [f1, f2]
    exact ⟨rfl, HBX.out⟩
  have d1 : decide (e.k < 1) = false := decide_eq_false k1
  by_cases k2 : 6 < e.k
  · have d2 : decide (6 < e.k) = true := decide_eq_true k2
    have HBAD : Hid (¬ Good e) := fun hg => by have := hg.1.2; omega
    clear k1 k2
    go_enter Tryd.func7, Tryd.ntmps7
    go_upto_region 1 with fail
    generalize w.alloc (.cells A 31) = w1 at *
    have HK1 : Hid (∀ w', Below w1.heap.size w1 w' → w'.cell? ⟨w.heap.size, 0, none⟩ = some (.int .i64 e.k)) := fun w' hb => cell_below hk hb
    refine wp_region_eager [(0, true), (1, true), (2, true), (3, true), (4, true), (5, true), (6, true), (7, true), (8, true), (9, true), (10, true), (11, true), (12, true), (13, true), (14, true)] (by kernel_rfl) (by kernel_rfl) (eagerOpen rfl ?_)
    have hy0 : Below w1.heap.size w1 w1.drew := below_drew1 _ _
    repeat (first
      | (first | (apply wpEager_take; (· rfl); (· (intro w' hb'; go_simp; try with_reducible rfl)); (try simp only [Act.put, List.setIfInBounds_toArray, List.set_cons_zero, List.set_cons_succ]); (try refine eagerOpen rfl ?_)) | (refine wpEager_skip (by rfl) ?_; (try simp only [Act.put, List.setIfInBounds_toArray, List.set_cons_zero, List.set_cons_succ]); (try refine eagerOpen rfl ?_)) | (refine wpEager_off (by rfl) ?_; (try simp only [Act.put, List.setIfInBounds_toArray, List.set_cons_zero, List.set_cons_succ]); (try refine eagerOpen rfl ?_)))
      | (apply wpEager_take; (· rfl); (· (intro w' hb'; have hk' := (HK1.out) w' hb'; go_split_ands; go_simp; try with_reducible rfl)); (try simp only [Act.put, List.setIfInBounds_toArray, List.set_cons_zero, List.set_cons_succ]); (try refine eagerOpen rfl ?_)))
    refine eagerEnd ?_
    have HBX := Lib.hid (HB1.out.trans (hy0.mono HB1.out.size))
    clear hy0 hk
    go_wp2_with fail
    skip
    -- no line is told: HBX : Below w.heap.size w WX; HBAD : Hid (¬ Good e)
    go_ret2
    obtain ⟨f1, f2⟩ := line_bad HBAD.out
    unfold LineP
    rw [f1, f2]
    exact ⟨rfl, HBX.out⟩
  have d2 : decide (6 < e.k) = false := decide_eq_false k2
  have HKK : Hid (1 ≤ e.k ∧ e.k ≤ 6) := ⟨by omega, by omega⟩
  clear k1 k2
  go_enter Tryd.func7, Tryd.ntmps7
  go_upto_region 1 with fail
  generalize w.alloc (.cells A 31) = w1 at *
  have HK1 : Hid (∀ w', Below w1.heap.size w1 w' → w'.cell? ⟨w.heap.size, 0, none⟩ = some (.int .i64 e.k)) := fun w' hb => cell_below hk hb
  have HRG : Hid (∀ w', Below w1.heap.size w1 w' → w'.rangeAt w.heap.size 0 A.toList) := fun w' hb => row_rangeS (Below.keepOld hb HR1.out)
  have HON := Lib.hid (fun y (hy : Below w1.heap.size w1 y) => only_any e HKK.out pb cb q c y (HAT.out.below hy))
  rw [← HAE.out] at HON
  refine wp_region_eager [(0, true), (1, true), (2, true), (3, true), (4, true), (5, true), (6, true), (7, true), (8, true), (9, true), (10, true), (11, false), (12, false), (13, true), (14, true)] (by kernel_rfl) (by kernel_rfl) (eagerOpen rfl ?_)
  have hy0 : Below w1.heap.size w1 w1.drew := below_drew1 _ _
  repeat (first
    | ((with_reducible refine eagerLoadAt 1 ?_); refine wpEager_load (by rfl) 31 _ rfl w.heap.size 0 rfl A _ (fun w' hb => HRG.out w' hb) Tryd.underlying31 rfl (infoE _ HAS.out) ?_; (try simp only [Act.put, List.setIfInBounds_toArray, List.set_cons_zero, List.set_cons_succ]); (try refine eagerOpen rfl ?_))
    | (first | (apply wpEager_take; (· rfl); (· (intro w' hb'; go_simp; try with_reducible rfl)); (try simp only [Act.put, List.setIfInBounds_toArray, List.set_cons_zero, List.set_cons_succ]); (try refine eagerOpen rfl ?_)) | (refine wpEager_skip (by rfl) ?_; (try simp only [Act.put, List.setIfInBounds_toArray, List.set_cons_zero, List.set_cons_succ]); (try refine eagerOpen rfl ?_)) | (refine wpEager_off (by rfl) ?_; (try simp only [Act.put, List.setIfInBounds_toArray, List.set_cons_zero, List.set_cons_succ]); (try refine eagerOpen rfl ?_)))
    | (apply wpEager_take; (· rfl); (· (intro w' hb'; have hk' := (HK1.out) w' hb'; go_split_ands; go_simp; try with_reducible rfl)); (try simp only [Act.put, List.setIfInBounds_toArray, List.set_cons_zero, List.set_cons_succ]); (try refine eagerOpen rfl ?_)))
  (refine wpEager_op (by rfl) (fun K hK => ?_); go_simp; (refine (HON.out _ hy0).mono ?_; rintro x y1 ⟨pb', cb', q', c', rfl, hat, hb⟩; have hy1 := hy0.trans hb; have HSM := Lib.hid (same_any y1 (HAT.out.below hy1) hat); clear hb hat); refine Shut.out hK _ _ (by assumption) ?_; clear hK K; (try simp only [Act.put, List.setIfInBounds_toArray, List.set_cons_zero, List.set_cons_succ]); (try refine eagerOpen rfl ?_))
  rw [← HAE.out] at HSM
  obtain ⟨F, hF⟩ : ∃ F, decide (e = only e) = F := ⟨_, rfl⟩
  rw [hF] at HSM
  have HFF := Lib.hid hF
  clear hF
  (refine wpEager_op (by rfl) (fun K hK => ?_); go_simp; (refine HSM.out.mono ?_; rintro x y2 ⟨rfl, hb⟩; have hy2 := hy1.trans (hb.mono hy1.size); clear hb); refine Shut.out hK _ _ (by assumption) ?_; clear hK K; (try simp only [Act.put, List.setIfInBounds_toArray, List.set_cons_zero, List.set_cons_succ]); (try refine eagerOpen rfl ?_))
  repeat (first | (apply wpEager_take; (· rfl); (· (intro w' hb'; go_simp; try with_reducible rfl)); (try simp only [Act.put, List.setIfInBounds_toArray, List.set_cons_zero, List.set_cons_succ]); (try refine eagerOpen rfl ?_)) | (refine wpEager_skip (by rfl) ?_; (try simp only [Act.put, List.setIfInBounds_toArray, List.set_cons_zero, List.set_cons_succ]); (try refine eagerOpen rfl ?_)) | (refine wpEager_off (by rfl) ?_; (try simp only [Act.put, List.setIfInBounds_toArray, List.set_cons_zero, List.set_cons_succ]); (try refine eagerOpen rfl ?_)))
  refine eagerEnd ?_
  have HB2 := Lib.hid (HB1.out.trans (hy2.mono HB1.out.size))
  have HR2 := Lib.hid (Below.keepOld hy2 HR1.out)
  have HAT2 := Lib.hid (HAT.out.below hy2)
  clear hy0 hy1 hy2 HB1 HR1 HAT HON HSM HRG HK1 hk d1 d2
  cases F with
  | false =>
    have HBAD : Hid (¬ Good e) := fun hg => (show ¬ e = only e from of_decide_eq_false HFF.out) hg.2.1
    have HBX := HB2
    go_wp2_with fail
    skip
    -- no line is told: HBX : Below w.heap.size w WX; HBAD : Hid (¬ Good e)
    go_ret2
    obtain ⟨f1, f2⟩ := line_bad HBAD.out
    unfold LineP
    rw [f1, f2]
    exact ⟨rfl, HBX.out⟩
  | true =>
    have HEO := Lib.hid (show e = only e from of_decide_eq_true HFF.out)
    have hx2 := HR2.out
    rw [HAE.out] at hx2
    have HEV := Lib.hid (ev_row HWF.out hx2)
    have HK2 : Hid (∀ w', Below y2.heap.size y2 w' → w'.cell? ⟨w.heap.size, 0, none⟩ = some (.int .i64 e.k)) := fun w' hb => cell_below HEV.out.k hb
    clear hx2
    have hix := idx_name e.k HKK.out
    go_upto_region 3 with fail
    refine wp_region_eager [(1, true), (2, true), (0, false), (3, true), (4, false), (5, true)] (by kernel_rfl) (by kernel_rfl) (eagerOpen rfl ?_)
    have hy0 : Below y2.heap.size y2 y2.drew := below_drew1 _ _
    repeat (first
      | (first | (apply wpEager_take; (· rfl); (· (intro w' hb'; go_simp; try with_reducible rfl)); (try simp only [Act.put, List.setIfInBounds_toArray, List.set_cons_zero, List.set_cons_succ]); (try refine eagerOpen rfl ?_)) | (refine wpEager_skip (by rfl) ?_; (try simp only [Act.put, List.setIfInBounds_toArray, List.set_cons_zero, List.set_cons_succ]); (try refine eagerOpen rfl ?_)) | (refine wpEager_off (by rfl) ?_; (try simp only [Act.put, List.setIfInBounds_toArray, List.set_cons_zero, List.set_cons_succ]); (try refine eagerOpen rfl ?_)))
      | (apply wpEager_take; (· rfl); (· (intro w' hb'; have hk' := (HK2.out) w' hb'; go_split_ands; go_simp; try with_reducible rfl)); (try simp only [Act.put, List.setIfInBounds_toArray, List.set_cons_zero, List.set_cons_succ]); (try refine eagerOpen rfl ?_)))
    (refine wpEager_op (by rfl) (fun K hK => ?_); go_simp; (refine (names_any _).mono ?_; rintro x y3 ⟨rfl, hb⟩; have hy1 := hy0.trans hb; clear hb); refine Shut.out hK _ _ (by assumption) ?_; clear hK K; (try simp only [Act.put, List.setIfInBounds_toArray, List.set_cons_zero, List.set_cons_succ]); (try refine eagerOpen rfl ?_))
    repeat (first | (apply wpEager_take; (· rfl); (· (intro w' hb'; go_simp; try with_reducible rfl)); (try simp only [Act.put, List.setIfInBounds_toArray, List.set_cons_zero, List.set_cons_succ]); (try refine eagerOpen rfl ?_)) | (refine wpEager_skip (by rfl) ?_; (try simp only [Act.put, List.setIfInBounds_toArray, List.set_cons_zero, List.set_cons_succ]); (try refine eagerOpen rfl ?_)) | (refine wpEager_off (by rfl) ?_; (try simp only [Act.put, List.setIfInBounds_toArray, List.set_cons_zero, List.set_cons_succ]); (try refine eagerOpen rfl ?_)))
    refine wpEager_op (by rfl) (fun K hK => oper_of_list rfl ?_)
    refine wpList_buildStr rfl _ rfl (K6.getD e.k.toNat []) rfl ?_
    have hy3 : Below y2.heap.size y2 (y3.alloc (.cells #[.string (S (K6.getD e.k.toNat []))] 9)) := hy1.alloc hy1.size _
    have HO3 := Lib.hid (own_str y3 w.heap.size (K6.getD e.k.toNat []) (Nat.le_trans HB2.out.size hy1.size))
    refine only_end (Shut.out hK _ _ hy3 ?_)
    clear hK K
    (try simp only [Act.put, List.setIfInBounds_toArray, List.set_cons_zero, List.set_cons_succ]); (try refine eagerOpen rfl ?_)
    repeat (first | (apply wpEager_take; (· rfl); (· (intro w' hb'; go_simp; try with_reducible rfl)); (try simp only [Act.put, List.setIfInBounds_toArray, List.set_cons_zero, List.set_cons_succ]); (try refine eagerOpen rfl ?_)) | (refine wpEager_skip (by rfl) ?_; (try simp only [Act.put, List.setIfInBounds_toArray, List.set_cons_zero, List.set_cons_succ]); (try refine eagerOpen rfl ?_)) | (refine wpEager_off (by rfl) ?_; (try simp only [Act.put, List.setIfInBounds_toArray, List.set_cons_zero, List.set_cons_succ]); (try refine eagerOpen rfl ?_)))
    refine eagerEnd ?_
    have HB3 := Lib.hid (HB2.out.trans (hy3.mono HB2.out.size))
    have HR3 := Lib.hid (Below.keepOld hy3 HR2.out)
    have HAT3 := Lib.hid (HAT2.out.below hy3)
    clear hy0 hy1 hy3 HB2 HR2 HAT2 HEV HK2 hix
    generalize y3.alloc (.cells #[.string (S (K6.getD e.k.toNat []))] 9) = w3 at *
    generalize y3.heap.size = g3 at *
    have hx3 := HR3.out
    rw [HAE.out] at hx3
    have HEV := Lib.hid (ev_row HWF.out hx3)
    have hk := HEV.out.k
    have hkb := HEV.out.b
    have hkt := HEV.out.tx
    have hkn := HEV.out.n
    have hu0 := HEV.out.u0
    have hu1 := HEV.out.u1
    have hu2 := HEV.out.u2
    clear hx3
    by_cases k1 : e.k = 1
    · have m1 : (e.k == 1) = true := beq_iff_eq.2 k1
      have HRS : Hid (restE e = [textL e.b]) := by show _ = _; unfold restE; rw [if_pos k1]
      have HGD : Hid (Good e) := ⟨HKK.out, HEO.out, fun h56 => by omega⟩
      have HTXT := Lib.hid (text_any pb e.b.length cb e.b w3 HAT3.out.bs (by have := HBY.out; omega))
      clear k1
      go_upto_region 9 with fail
      go_wp2_with fail
      refine HTXT.out.mono ?_
      rintro x w4 ⟨rfl, hb4⟩
      have hal := Below.allocs w4 (.cells #[.string (S (textL e.b))] 9)
      have hb5 := hb4.trans (hal.mono hb4.size)
      have HO4 := Lib.hid (own_touch HO3.out (Turns.of_below (S := fun _ => False) hb5) (fun _ _ h => h))
      have HXW : Hid (Ws (w4.alloc (.cells #[.string (S (textL e.b))] 9)) (some ⟨w4.heap.size, 0, none⟩) 1 1 (restE e)) := by
        show Ws _ _ _ _ _
        rw [HRS.out]
        exact Ws.row (ls := [textL e.b]) (heap_alloc_last w4 _) rfl (by show 1 ≤ _; omega)
      have HBX := Lib.hid (HB3.out.trans (hb5.mono HB3.out.size))
      clear hal hb4 hb5 HO3 HB3 HR3 HAT3 HEV HTXT hk hkb hkt hkn hu0 hu1 hu2
      skip
      -- the words are joined: world w4.alloc (.cells #[.string (S (textL e.b))] 9); HO4 : the name's slice of its own; HXW : Hid (Ws w4.alloc (.cells #[.string (S (textL e.b))] 9) PL 1 CL (restE e)); HBX : Hid (Below w.heap.size w w4.alloc (.cells #[.string (S (textL e.b))] 9)); HGD : Hid (Good e)
      have HNL : Hid (1 ≤ 100004) := by show _ ≤ _; have h1 := HXW.out.length; have h2 := rest_len e; have h3 := HTX.out; omega
      have hnl := HNL.out
      have HSZ : Hid (w.heap.size ≤ (w4.alloc (.cells #[.string (S (textL e.b))] 9)).heap.size) := HBX.out.size
      go_upto_region 22 with fail
      go_wp2_with (at_builtin; refine wpList_append_nx rfl _ _ 65 rfl (base := w.heap.size) Tryd.underlying65 infoStr rfl (by omega) rfl HO4.out rfl HXW.out (strV_one _) ⟨by omega, by omega⟩ HSZ.out ?_)
      intro p' c' w8 ho8 hgr hnx _
      have hb8 := own_below HO4.out hgr HSZ.out
      have HB8 := Lib.hid (HBX.out.trans hb8)
      have HWS : Hid (Ws w8 p' (1 + 1) c' (wordsE e)) := by
        have := own_ws (ls := [K6.getD e.k.toNat []] ++ restE e) (by rw [strV_app]; exact ho8)
        exact this
      have HLT := Lib.hid ho8.lt
      clear ho8 hgr hnx hb8 HO4 HXW HBX HSZ
      obtain ⟨b, o, rfl⟩ := HWS.out.addr (by omega) (by omega)
      have HJ := Lib.hid (join_any b o (1 + 1) c' (wordsE e) w8 HWS.out (HLT.out _ rfl).2 (by omega) (by
        have h1 := join_le (wordsE e) 200001 (words_short HGD.out HWF.out HBY.out)
        have h2 : (wordsE e).length ≤ 100005 := by have := HWS.out.length; omega
        have h3 : (wordsE e).length * (200001 + 1) ≤ 100005 * 200002 := Nat.mul_le_mul_right _ h2
        omega))
      go_wp2_with fail
      refine HJ.out.mono ?_
      rintro x w9 ⟨rfl, hb9⟩
      have HB9 := Lib.hid (HB8.out.trans (hb9.mono HB8.out.size))
      go_wp2_with fail
      go_ret2
      obtain ⟨f1, f2⟩ := line_good HGD.out
      unfold LineP
      rw [f1, f2]
      exact ⟨rfl, HB9.out⟩
    have m1 : (e.k == 1) = false := beq_eq_false_iff_ne.2 k1
    by_cases k2 : e.k = 2
    · have m2 : (e.k == 2) = true := beq_iff_eq.2 k2
      have HRS : Hid (restE e = (e.h :: e.p :: e.tx).map idText) := by show _ = _; unfold restE; rw [if_neg k1, if_pos k2]; rfl
      have HGD : Hid (Good e) := ⟨HKK.out, HEO.out, fun h56 => by omega⟩
      have HI4 : Hid (Is w3 q e.tx.length c 32 e.tx) := HAT3.out.ids
      have hal := Below.allocs w3 (.cells (bytesV e.h ++ bytesV e.p).toArray 25)
      have HOI := Lib.hid (own_ids w3 w3.heap.size e.h e.p HWF.out.h HWF.out.p (Nat.le_refl _))
      have HS4 : Hid (w3.heap.size ≤ (w3.alloc (.cells (bytesV e.h ++ bytesV e.p).toArray 25)).heap.size) := hal.size
      have HXT := Lib.hid (HI4.out.below hal).sl
      have HAL := Lib.hid hal
      have htb := HTX.out
      have hkt4 := cell_below hkt hal
      have hle4 := HI4.out.sl.le
      have hmx4 := HI4.out.sl.max
      clear hal k1 k2
      go_upto_region 12 with (first
        | ((with_reducible refine wpAt 45 ?_); refine loadM (by rfl) 25 _ rfl w.heap.size 2 rfl (idA e.h) _ HEV.out.h Tryd.underlying25 rfl (infoId _ (by rw [idA_size, HWF.out.h])) ?_)
        | ((with_reducible refine wpAt 48 ?_); refine loadM (by rfl) 25 _ rfl w.heap.size 34 rfl (idA e.p) _ HEV.out.p Tryd.underlying25 rfl (infoId _ (by rw [idA_size, HWF.out.p])) ?_)
        | ((with_reducible refine wpAt 49 ?_); refine wpList_buildIds rfl _ _ rfl e.h e.p HWF.out.h HWF.out.p rfl rfl ?_)
        | (at_builtin; refine wpList_append_nx rfl _ _ 26 rfl (base := w3.heap.size) Tryd.underlying26 infoIds (by rw [show (Value.agg Z32).cells = Z32 from rfl]; exact Z32_size) (by omega) rfl HOI.out rfl HXT.out (flat_one _) ⟨by omega, by omega⟩ HS4.out ?_; intro p' c' w5 ho5 hgr hnx _))
      have HB35 := Lib.hid (HAL.out.trans (own_below HOI.out hgr HS4.out))
      have HIS : Hid (Is w5 p' (2 + e.tx.length) c' 32 (e.h :: e.p :: e.tx)) := by
        obtain ⟨p1, c1, he1, hs1⟩ := own_sl ho5
        cases he1
        refine ⟨by simpa using hs1, fun y hy => ?_, by show e.tx.length + 1 + 1 = _; omega⟩
        rcases List.mem_cons.1 hy with rfl | hy
        · exact HWF.out.h
        · rcases List.mem_cons.1 hy with rfl | hy
          · exact HWF.out.p
          · exact HWF.out.tx y hy
      clear ho5 hgr hnx HOI HXT HS4 HAL hkt4 hk hkb hkt hkn hu0 hu1 hu2 HI4 HEV
      have hle5 := HIS.out.sl.le
      have hmx5 := HIS.out.sl.max
      obtain ⟨IL, hIL⟩ : ∃ IL, IL = e.h :: e.p :: e.tx := ⟨_, rfl⟩
      rw [← hIL] at HIS HRS
      have HIE := Lib.hid hIL
      have HLN : Hid (IL.length = 2 + e.tx.length) := HIS.out.count
      clear hIL
      have hzi := zeroId
      go_wp2_with fail
      go_loopw [6, 8, 55] (fun v _ j wr => ∃ (i : Nat) (p : Option Addr) (k : Nat), i ≤ 2 + e.tx.length ∧ j = .int .i64 i ∧ v = .slice p i k ∧ wr.ownsRow w5.heap.size 9 1 v i (strV ((IL.take i).map idText)) ∧ Below w5.heap.size w5 wr) (fun _ _ j _ => 2 + e.tx.length - (intOf j).toNat)
      case atStart => exact ⟨0, none, 0, by omega, rfl, rfl, World.ownsRow_nil _ _ _ _, Below.refl _ _⟩
      case round =>
        obtain ⟨i, pl, kl, hi, rfl, rfl, ho, hbr⟩ := hrel
        have HO := Lib.hid ho
        have HBR := Lib.hid hbr
        clear ho hbr
        by_cases hlt : i < 2 + e.tx.length
        · have hd : decide ((i : Int) < ((2 + e.tx.length : Nat) : Int)) = true := decide_eq_true (by omega)
          have hd1 : decide ((i : Int) < 2 + (e.tx.length : Int)) = true := decide_eq_true (by omega)
          have hd2 : decide (i < 2 + e.tx.length) = true := decide_eq_true hlt
          have hil : i < IL.length := by rw [HLN.out]; exact hlt
          obtain ⟨bi, oi, rfl⟩ := HIS.out.sl.addr (by omega) (by omega)
          have HRX := Lib.hid (range_below (HIS.out.range (by omega) i hil) HBR.out)
          have HLX : Hid ((IL[i]'hil).length = 32) := HIS.out.each _ (List.getElem_mem _)
          have HTK : Hid (IL.take (i + 1) = IL.take i ++ [IL[i]'hil]) := List.take_succ_eq_append_getElem hil
          generalize IL[i]'hil = x at *
          have hb6 := box_below wr Z32 (idA x) 25
          have HRW := Lib.hid (box_row wr Z32 (idA x) 25)
          have HO6 := Lib.hid (own_touch HO.out (Turns.of_below (S := fun _ => False) hb6) (fun _ _ h => h))
          have HB6 := Lib.hid (HBR.out.trans (hb6.mono HBR.out.size))
          clear hb6
          go_upto_region 14 with (first
            | ((with_reducible refine wpAt 58 ?_); refine loadM (by rfl) 25 _ rfl bi (oi + i * 32) rfl (idA x) _ HRX.out Tryd.underlying25 rfl (infoId _ (by rw [idA_size, HLX.out])) ?_)
            | ((with_reducible refine wpStoreAt 8 ?_); refine wpList_store_row rfl 25 _ _ rfl wr.heap.size (idA x) rfl rfl 25 Z32 (box_new _ _ _) (infoId _ (by rw [idA_size, HLX.out])) (by rw [idA_size, HLX.out]; rfl) (idA_one _) ?_))
          generalize (wr.alloc (.cells Z32 25)).setRow wr.heap.size (idA x) = w6 at *
          have HIT := Lib.hid (idText_any (idA x) x w6 (idA_toList _) HLX.out)
          go_wp2_with (refine wpList_load_row rfl 25 _ rfl wr.heap.size rfl 25 (idA x) (0, 0) _ HRW.out Tryd.underlying25 rfl (infoId _ (by rw [idA_size, HLX.out])) ?_)
          refine HIT.out.mono ?_
          rintro y w7 ⟨rfl, hb7⟩
          have hal := Below.allocs w7 (.cells #[.string (S (idText x))] 9)
          have hb8 := hb7.trans (hal.mono hb7.size)
          have HO8 := Lib.hid (own_touch HO6.out (Turns.of_below (S := fun _ => False) hb8) (fun _ _ h => h))
          have HX8 : Hid (Ws (w7.alloc (.cells #[.string (S (idText x))] 9)) (some ⟨w7.heap.size, 0, none⟩) 1 1 [idText x]) := Ws.row (ls := [idText x]) (heap_alloc_last w7 _) rfl (by show 1 ≤ _; omega)
          have HB8 := Lib.hid (HB6.out.trans (hb8.mono HB6.out.size))
          have HS8 := Lib.hid HB8.out.size
          clear hal hb7 hb8 HO6 HB6 HIT HRW HRX
          go_wp2_with (at_builtin; refine wpList_append_nx rfl _ _ 65 rfl (base := w5.heap.size) Tryd.underlying65 infoStr rfl (by omega) rfl HO8.out rfl HX8.out (strV_one _) ⟨by omega, by omega⟩ HS8.out ?_)
          intro p9 c9 w9 ho9 hgr hnx _
          have HB9 := Lib.hid (HB8.out.trans (own_below HO8.out hgr HS8.out))
          have HO9 : Hid (w9.ownsRow w5.heap.size 9 1 (.slice p9 (i + 1) c9) (i + 1) (strV ((IL.take (i + 1)).map idText))) := by
            show World.ownsRow _ _ _ _ _ _ _
            rw [HTK.out, List.map_append, strV_app, List.map_take]
            exact ho9
          clear ho9 hgr hnx HO8 HX8 HB8 HS8 HTK HLX
          go_wp2_with fail
          go_roundw
          case rel => exact ⟨i + 1, p9, c9, by omega, by go_num, rfl, HO9.out, HB9.out⟩
          case measure => simp [intOf]; omega
        · obtain rfl : i = 2 + e.tx.length := by omega
          have hd : decide (((2 + e.tx.length : Nat) : Int) < ((2 + e.tx.length : Nat) : Int)) = false := decide_eq_false (by omega)
          have hd1 : decide (2 + (e.tx.length : Int) < 2 + (e.tx.length : Int)) = false := decide_eq_false (by omega)
          have hd2 : decide (2 + e.tx.length < 2 + e.tx.length) = false := decide_eq_false (by omega)
          have hb3 := HB35.out.trans (HBR.out.mono HB35.out.size)
          have HO4 := Lib.hid (own_touch HO3.out (Turns.of_below (S := fun _ => False) hb3) (fun _ _ h => h))
          have HBX := Lib.hid (HB3.out.trans (hb3.mono HB3.out.size))
          have HXW : Hid (Ws wr pl (2 + e.tx.length) kl (restE e)) := by
            have h1 := own_ws HO.out
            rw [List.take_of_length_le (by rw [HLN.out]; exact Nat.le_refl _), ← HRS.out] at h1
            exact h1
          clear hb3 HO3 HB3 HR3 HAT3 HB35 HBR HO
          skip
          -- the words are joined: world wr; HO4 : the name's slice of its own; HXW : Hid (Ws wr PL (2 + e.tx.length) CL (restE e)); HBX : Hid (Below w.heap.size w wr); HGD : Hid (Good e)
          have HNL : Hid ((2 + e.tx.length) ≤ 100004) := by show _ ≤ _; have h1 := HXW.out.length; have h2 := rest_len e; have h3 := HTX.out; omega
          have hnl := HNL.out
          have HSZ : Hid (w.heap.size ≤ (wr).heap.size) := HBX.out.size
          go_upto_region 22 with fail
          go_wp2_with (at_builtin; refine wpList_append_nx rfl _ _ 65 rfl (base := w.heap.size) Tryd.underlying65 infoStr rfl (by omega) rfl HO4.out rfl HXW.out (strV_one _) ⟨by omega, by omega⟩ HSZ.out ?_)
          intro p' c' w8 ho8 hgr hnx _
          have hb8 := own_below HO4.out hgr HSZ.out
          have HB8 := Lib.hid (HBX.out.trans hb8)
          have HWS : Hid (Ws w8 p' (1 + (2 + e.tx.length)) c' (wordsE e)) := by
            have := own_ws (ls := [K6.getD e.k.toNat []] ++ restE e) (by rw [strV_app]; exact ho8)
            exact this
          have HLT := Lib.hid ho8.lt
          clear ho8 hgr hnx hb8 HO4 HXW HBX HSZ
          obtain ⟨b, o, rfl⟩ := HWS.out.addr (by omega) (by omega)
          have HJ := Lib.hid (join_any b o (1 + (2 + e.tx.length)) c' (wordsE e) w8 HWS.out (HLT.out _ rfl).2 (by omega) (by
            have h1 := join_le (wordsE e) 200001 (words_short HGD.out HWF.out HBY.out)
            have h2 : (wordsE e).length ≤ 100005 := by have := HWS.out.length; omega
            have h3 : (wordsE e).length * (200001 + 1) ≤ 100005 * 200002 := Nat.mul_le_mul_right _ h2
            omega))
          go_wp2_with fail
          refine HJ.out.mono ?_
          rintro x w9 ⟨rfl, hb9⟩
          have HB9 := Lib.hid (HB8.out.trans (hb9.mono HB8.out.size))
          go_wp2_with fail
          go_ret2
          obtain ⟨f1, f2⟩ := line_good HGD.out
          unfold LineP
          rw [f1, f2]
          exact ⟨rfl, HB9.out⟩
    have m2 : (e.k == 2) = false := beq_eq_false_iff_ne.2 k2
    by_cases k5 : e.k = 5
    · have m5 : (e.k == 5) = true := beq_iff_eq.2 k5
      have HRS : Hid (restE e = decs [e.n]) := by show _ = _; unfold restE numsE decs; rw [if_neg k1, if_neg k2, if_pos (.inl k5), if_pos k5]
      have HGG : Hid (Good e ↔ okZ 65535 [e.n]) := by
        show _ ↔ _
        have hn : numsE e = [e.n] := by unfold numsE; rw [if_pos k5]
        refine ⟨fun hg x hx => ?_, fun hz => ⟨HKK.out, HEO.out, fun _ x hx => ?_⟩⟩
        · have := hg.2.2 (.inl k5) x (by rw [hn]; exact hx); exact this
        · rw [hn] at hx; exact hz x hx
      clear k1 k2 k5
      have hal := Below.allocs w3 (.cells #[.int .i64 e.n] 3)
      have HNM := Lib.hid (nums_any 65535 (by omega) _ 1 1 [e.n] _ (Zs.lit w3 3 [e.n] (show 1 ≤ 65536 by decide)) (by omega))
      have HAL := Lib.hid hal
      clear hal
      go_upto_region 17 with fail
      go_wp2_with fail
      skip
      -- what nums tells of [e.n], 1 numbers
      refine HNM.out.mono ?_
      rintro x w4 ⟨hb4, hcase⟩
      have hb5 := HAL.out.trans (hb4.mono HAL.out.size)
      have HO4 := Lib.hid (own_touch HO3.out (Turns.of_below (S := fun _ => False) hb5) (fun _ _ h => h))
      have HBX := Lib.hid (HB3.out.trans (hb5.mono HB3.out.size))
      clear hb4 hb5 HNM HAL HO3 HB3 HR3 HAT3 HEV hk hkb hkt hkn hu0 hu1 hu2
      rcases hcase with ⟨hok, pl, cl, rfl, hown⟩ | ⟨hok, rfl⟩
      · have HGD : Hid (Good e) := HGG.out.2 hok
        have HXW : Hid (Ws w4 pl 1 cl (restE e)) := by
          show Ws _ _ _ _ _
          rw [HRS.out]
          exact own_ws hown
        clear hok hown
        skip
        -- the words are joined: world w4; HO4 : the name's slice of its own; HXW : Hid (Ws w4 PL 1 CL (restE e)); HBX : Hid (Below w.heap.size w w4); HGD : Hid (Good e)
        have HNL : Hid (1 ≤ 100004) := by show _ ≤ _; have h1 := HXW.out.length; have h2 := rest_len e; have h3 := HTX.out; omega
        have hnl := HNL.out
        have HSZ : Hid (w.heap.size ≤ (w4).heap.size) := HBX.out.size
        go_upto_region 22 with fail
        go_wp2_with (at_builtin; refine wpList_append_nx rfl _ _ 65 rfl (base := w.heap.size) Tryd.underlying65 infoStr rfl (by omega) rfl HO4.out rfl HXW.out (strV_one _) ⟨by omega, by omega⟩ HSZ.out ?_)
        intro p' c' w8 ho8 hgr hnx _
        have hb8 := own_below HO4.out hgr HSZ.out
        have HB8 := Lib.hid (HBX.out.trans hb8)
        have HWS : Hid (Ws w8 p' (1 + 1) c' (wordsE e)) := by
          have := own_ws (ls := [K6.getD e.k.toNat []] ++ restE e) (by rw [strV_app]; exact ho8)
          exact this
        have HLT := Lib.hid ho8.lt
        clear ho8 hgr hnx hb8 HO4 HXW HBX HSZ
        obtain ⟨b, o, rfl⟩ := HWS.out.addr (by omega) (by omega)
        have HJ := Lib.hid (join_any b o (1 + 1) c' (wordsE e) w8 HWS.out (HLT.out _ rfl).2 (by omega) (by
          have h1 := join_le (wordsE e) 200001 (words_short HGD.out HWF.out HBY.out)
          have h2 : (wordsE e).length ≤ 100005 := by have := HWS.out.length; omega
          have h3 : (wordsE e).length * (200001 + 1) ≤ 100005 * 200002 := Nat.mul_le_mul_right _ h2
          omega))
        go_wp2_with fail
        refine HJ.out.mono ?_
        rintro x w9 ⟨rfl, hb9⟩
        have HB9 := Lib.hid (HB8.out.trans (hb9.mono HB8.out.size))
        go_wp2_with fail
        go_ret2
        obtain ⟨f1, f2⟩ := line_good HGD.out
        unfold LineP
        rw [f1, f2]
        exact ⟨rfl, HB9.out⟩
      · have HBAD : Hid (¬ Good e) := fun hg => hok (HGG.out.1 hg)
        clear hok
        go_wp2_with fail
        skip
        -- no line is told: HBX : Below w.heap.size w WX; HBAD : Hid (¬ Good e)
        go_ret2
        obtain ⟨f1, f2⟩ := line_bad HBAD.out
        unfold LineP
        rw [f1, f2]
        exact ⟨rfl, HBX.out⟩
    have m5 : (e.k == 5) = false := beq_eq_false_iff_ne.2 k5
    by_cases k6 : e.k = 6
    · have m6 : (e.k == 6) = true := beq_iff_eq.2 k6
      have HRS : Hid (restE e = decs [e.n, e.u0, e.u1, e.u2]) := by show _ = _; unfold restE numsE decs; rw [if_neg k1, if_neg k2, if_pos (.inr k6), if_neg k5]
      have HGG : Hid (Good e ↔ okZ 65535 [e.n, e.u0, e.u1, e.u2]) := by
        show _ ↔ _
        have hn : numsE e = [e.n, e.u0, e.u1, e.u2] := by unfold numsE; rw [if_neg k5]
        refine ⟨fun hg x hx => ?_, fun hz => ⟨HKK.out, HEO.out, fun _ x hx => ?_⟩⟩
        · have := hg.2.2 (.inr k6) x (by rw [hn]; exact hx); exact this
        · rw [hn] at hx; exact hz x hx
      clear k1 k2 k5 k6
      have hal := Below.allocs w3 (.cells #[.int .i64 e.n, .int .i64 e.u0, .int .i64 e.u1, .int .i64 e.u2] 3)
      have HNM := Lib.hid (nums_any 65535 (by omega) _ 4 4 [e.n, e.u0, e.u1, e.u2] _ (Zs.lit w3 3 [e.n, e.u0, e.u1, e.u2] (show 4 ≤ 65536 by decide)) (by omega))
      have HAL := Lib.hid hal
      clear hal
      go_upto_region 19 with fail
      go_wp2_with fail
      skip
      -- what nums tells of [e.n, e.u0, e.u1, e.u2], 4 numbers
      refine HNM.out.mono ?_
      rintro x w4 ⟨hb4, hcase⟩
      have hb5 := HAL.out.trans (hb4.mono HAL.out.size)
      have HO4 := Lib.hid (own_touch HO3.out (Turns.of_below (S := fun _ => False) hb5) (fun _ _ h => h))
      have HBX := Lib.hid (HB3.out.trans (hb5.mono HB3.out.size))
      clear hb4 hb5 HNM HAL HO3 HB3 HR3 HAT3 HEV hk hkb hkt hkn hu0 hu1 hu2
      rcases hcase with ⟨hok, pl, cl, rfl, hown⟩ | ⟨hok, rfl⟩
      · have HGD : Hid (Good e) := HGG.out.2 hok
        have HXW : Hid (Ws w4 pl 4 cl (restE e)) := by
          show Ws _ _ _ _ _
          rw [HRS.out]
          exact own_ws hown
        clear hok hown
        skip
        -- the words are joined: world w4; HO4 : the name's slice of its own; HXW : Hid (Ws w4 PL 4 CL (restE e)); HBX : Hid (Below w.heap.size w w4); HGD : Hid (Good e)
        have HNL : Hid (4 ≤ 100004) := by show _ ≤ _; have h1 := HXW.out.length; have h2 := rest_len e; have h3 := HTX.out; omega
        have hnl := HNL.out
        have HSZ : Hid (w.heap.size ≤ (w4).heap.size) := HBX.out.size
        go_upto_region 22 with fail
        go_wp2_with (at_builtin; refine wpList_append_nx rfl _ _ 65 rfl (base := w.heap.size) Tryd.underlying65 infoStr rfl (by omega) rfl HO4.out rfl HXW.out (strV_one _) ⟨by omega, by omega⟩ HSZ.out ?_)
        intro p' c' w8 ho8 hgr hnx _
        have hb8 := own_below HO4.out hgr HSZ.out
        have HB8 := Lib.hid (HBX.out.trans hb8)
        have HWS : Hid (Ws w8 p' (1 + 4) c' (wordsE e)) := by
          have := own_ws (ls := [K6.getD e.k.toNat []] ++ restE e) (by rw [strV_app]; exact ho8)
          exact this
        have HLT := Lib.hid ho8.lt
        clear ho8 hgr hnx hb8 HO4 HXW HBX HSZ
        obtain ⟨b, o, rfl⟩ := HWS.out.addr (by omega) (by omega)
        have HJ := Lib.hid (join_any b o (1 + 4) c' (wordsE e) w8 HWS.out (HLT.out _ rfl).2 (by omega) (by
          have h1 := join_le (wordsE e) 200001 (words_short HGD.out HWF.out HBY.out)
          have h2 : (wordsE e).length ≤ 100005 := by have := HWS.out.length; omega
          have h3 : (wordsE e).length * (200001 + 1) ≤ 100005 * 200002 := Nat.mul_le_mul_right _ h2
          omega))
        go_wp2_with fail
        refine HJ.out.mono ?_
        rintro x w9 ⟨rfl, hb9⟩
        have HB9 := Lib.hid (HB8.out.trans (hb9.mono HB8.out.size))
        go_wp2_with fail
        go_ret2
        obtain ⟨f1, f2⟩ := line_good HGD.out
        unfold LineP
        rw [f1, f2]
        exact ⟨rfl, HB9.out⟩
      · have HBAD : Hid (¬ Good e) := fun hg => hok (HGG.out.1 hg)
        clear hok
        go_wp2_with fail
        skip
        -- no line is told: HBX : Below w.heap.size w WX; HBAD : Hid (¬ Good e)
        go_ret2
        obtain ⟨f1, f2⟩ := line_bad HBAD.out
        unfold LineP
        rw [f1, f2]
        exact ⟨rfl, HBX.out⟩
    have m6 : (e.k == 6) = false := beq_eq_false_iff_ne.2 k6
    have HRS : Hid (restE e = [idText e.id]) := by show _ = _; unfold restE; rw [if_neg k1, if_neg k2, if_neg (by omega)]
    have HGD : Hid (Good e) := ⟨HKK.out, HEO.out, fun h56 => by omega⟩
    have HIT := Lib.hid (idText_any (idA e.id) e.id w3 (idA_toList _) HWF.out.id)
    clear k1 k2 k5 k6
    go_upto_region 7 with fail
    go_wp2_with (refine loadM (by rfl) 25 _ rfl w.heap.size 67 rfl (idA e.id) _ HEV.out.id Tryd.underlying25 rfl (infoId _ (by rw [idA_size, HWF.out.id])) ?_)
    refine HIT.out.mono ?_
    rintro x w4 ⟨rfl, hb4⟩
    have hal := Below.allocs w4 (.cells #[.string (S (idText e.id))] 9)
    have hb5 := hb4.trans (hal.mono hb4.size)
    have HO4 := Lib.hid (own_touch HO3.out (Turns.of_below (S := fun _ => False) hb5) (fun _ _ h => h))
    have HXW : Hid (Ws (w4.alloc (.cells #[.string (S (idText e.id))] 9)) (some ⟨w4.heap.size, 0, none⟩) 1 1 (restE e)) := by
      show Ws _ _ _ _ _
      rw [HRS.out]
      exact Ws.row (ls := [idText e.id]) (heap_alloc_last w4 _) rfl (by show 1 ≤ _; omega)
    have HBX := Lib.hid (HB3.out.trans (hb5.mono HB3.out.size))
    clear hal hb4 hb5 HO3 HB3 HR3 HAT3 HEV HIT hk hkb hkt hkn hu0 hu1 hu2
    skip
    -- the words are joined: world w4.alloc (.cells #[.string (S (idText e.id))] 9); HO4 : the name's slice of its own; HXW : Hid (Ws w4.alloc (.cells #[.string (S (idText e.id))] 9) PL 1 CL (restE e)); HBX : Hid (Below w.heap.size w w4.alloc (.cells #[.string (S (idText e.id))] 9)); HGD : Hid (Good e)
    have HNL : Hid (1 ≤ 100004) := by show _ ≤ _; have h1 := HXW.out.length; have h2 := rest_len e; have h3 := HTX.out; omega
    have hnl := HNL.out
    have HSZ : Hid (w.heap.size ≤ (w4.alloc (.cells #[.string (S (idText e.id))] 9)).heap.size) := HBX.out.size
    go_upto_region 22 with fail
    go_wp2_with (at_builtin; refine wpList_append_nx rfl _ _ 65 rfl (base := w.heap.size) Tryd.underlying65 infoStr rfl (by omega) rfl HO4.out rfl HXW.out (strV_one _) ⟨by omega, by omega⟩ HSZ.out ?_)
    intro p' c' w8 ho8 hgr hnx _
    have hb8 := own_below HO4.out hgr HSZ.out
    have HB8 := Lib.hid (HBX.out.trans hb8)
    have HWS : Hid (Ws w8 p' (1 + 1) c' (wordsE e)) := by
      have := own_ws (ls := [K6.getD e.k.toNat []] ++ restE e) (by rw [strV_app]; exact ho8)
      exact this
    have HLT := Lib.hid ho8.lt
    clear ho8 hgr hnx hb8 HO4 HXW HBX HSZ
    obtain ⟨b, o, rfl⟩ := HWS.out.addr (by omega) (by omega)
    have HJ := Lib.hid (join_any b o (1 + 1) c' (wordsE e) w8 HWS.out (HLT.out _ rfl).2 (by omega) (by
      have h1 := join_le (wordsE e) 200001 (words_short HGD.out HWF.out HBY.out)
      have h2 : (wordsE e).length ≤ 100005 := by have := HWS.out.length; omega
      have h3 : (wordsE e).length * (200001 + 1) ≤ 100005 * 200002 := Nat.mul_le_mul_right _ h2
      omega))
    go_wp2_with fail
    refine HJ.out.mono ?_
    rintro x w9 ⟨rfl, hb9⟩
    have HB9 := Lib.hid (HB8.out.trans (hb9.mono HB8.out.size))
    go_wp2_with fail
    go_ret2
    obtain ⟨f1, f2⟩ := line_good HGD.out
    unfold LineP
    rw [f1, f2]
    exact ⟨rfl, HB9.out⟩
end Go.Proofs.YtcddgbobbogpgaaDoor.Scr
