/- PARTS, JOINED: A CHAIN TELLS WHAT THE DOCUMENT'S DOES: the walk of 'like'. Conditions: blocks of at most 1000000 ids, no id twice in a block. A CHAIN TELLS WHAT THE DOCUMENT'S DOES: the walk of 'like', of a chain with no block; and of any. Conditions: blocks of at most 1000000 ids, no id twice in a block. LAYER 26: the walk of ChainLoads. Conditions: none. A BLOCK THAT CAME IN. Conditions: none. -/
import Derived.Test.YtepemfgiigceoaaChP1
import Derived.Test.YtepemfgiigceoaaChP2
import Derived.Test.YtepemfgiigceoaaChP3
import Derived.Test.YtepemfgiigceoaaChP4
import Derived.Test.YtepemfgiigceoaaChP5
import Derived.Test.YtepemfgiigceoaaChP6
import Derived.Test.YtepemfgiigceoaaRows
import Derived.Deep.Strs
namespace Go.Proofs.Ytepemfgiigceoaa.Chn
open Go.RowKit Go.Mir Go.Mir.Parts Go.Proofs.Ytepemfgiigceoaa.Blk

/-- what lies boxed: the document's chain, the block -/
structure LK (w0 w : World) (RC M : Array Value) : Prop where
  r0 : w.heap[w0.heap.size]? = some (.cells RC 41 (0, 0))
  r1 : w.heap[w0.heap.size + 1]? = some (.cells M 33 (0, 0))
  below : Below w0.heap.size w0 w
theorem LK.next {w0 w w' : World} {RC M : Array Value} (h : LK w0 w RC M) (hb : Below w.heap.size w w') : LK w0 w' RC M := ⟨Below.keepOld hb h.r0, Below.keepOld hb h.r1, h.below.trans (hb.mono h.below.size)⟩

set_option maxRecDepth 100000 in
set_option maxHeartbeats 1600000 in
theorem like_some {base cb depth height : Nat} {ds : List BlkD} {p : Option Addr} {c : Nat} {rows : List (List Value)} (w : World) (h : ChAt w base cb depth height ds p c rows) (hfew : ∀ d ∈ ds, d.txs.length ≤ 1000000) (hnd : ∀ d ∈ ds, d.txs.Nodup)
    (p2 : Option Addr) (c2 : Nat) (rows2 : List (List Value)) (hW : Bks w p2 ds.length c2 ds rows2) (M : Array Value) (b : BlkD) (q : Option Addr) (n cc : Nat) (hM : BlkAt w M b q n cc) (hn : n ≤ 100) (tl : BlkD) (hl : ds.getLast? = some tl) :
    Calls Try.prog 32 #[.pointer (some ⟨cb, 0, none⟩), .agg (rcA (depth : Int) height p2 ds.length c2), .agg M] w fun e w' => e = .returned (.bool true) ∧ Below w.heap.size w w' := by
  obtain ⟨Z, hz, hZ⟩ := zBlk
  have HZZ := Lib.hid hZ
  obtain ⟨RC, hRC⟩ : ∃ RC, RC = rcA (depth : Int) height p2 ds.length c2 := ⟨_, rfl⟩
  have HRC := Lib.hid hRC
  have HRS : Hid (RC.size = 3) := by show _ = _; rw [hRC]; rfl
  rw [← hRC]
  have H2 := Lib.hid (two_allocs w (.cells RC 41) (.cells M 33))
  have HLK1 : Hid (LK w ((w.alloc (.cells RC 41)).alloc (.cells M 33)) RC M) := ⟨H2.out.1, H2.out.2.1, H2.out.2.2.2⟩
  have H := Lib.hid h
  have HW := Lib.hid hW
  have HM := Lib.hid hM
  have HFEW := Lib.hid hfew
  have HND := Lib.hid hnd
  have HMS := Lib.hid hM.size
  have HL := Lib.hid hl
  have hmany := h.many
  have hle2 := hW.rs.sl.le
  have hmax2 := hW.rs.sl.max
  obtain ⟨hd1, hd2⟩ := h.depth1
  clear h hfew hnd hW hM hl hZ hRC
  go_enter Try.func32, Try.ntmps32
  go_wp2_with fail
  generalize (w.alloc (.cells RC 41)).alloc (.cells M 33) = w1 at *
  refine (tip_q w1 (H.out.below HLK1.out.below)).mono ?_
  rintro e w2 ⟨A, t, qt, nt, ct, rfl, hat, hlast, hb2⟩
  obtain rfl := hlast tl HL.out
  rw [HL.out]
  have HLK2 := Lib.hid (HLK1.out.next hb2)
  have HAT := Lib.hid hat
  have HAS := Lib.hid hat.size
  have HAO := Lib.hid hat.one
  clear hb2 hat hlast
  have HNW := Lib.hid (box_new w2 Z 33)
  have hbb := box_below w2 Z A 33
  have HLK3 := Lib.hid (HLK2.out.next hbb)
  have HR3 := Lib.hid (box_row w2 Z A 33)
  have HAT3 := Lib.hid (HAT.out.below hbb)
  clear hbb
  go_upto_region 2 with ((with_reducible refine wpStoreAt 7 ?_); refine wpList_store_row rfl 33 _ _ rfl w2.heap.size A rfl rfl 33 Z HNW.out (infoBlk _ HAS.out) (HZZ.out.trans HAS.out.symm) HAO.out ?_)
  generalize (w2.alloc (.cells Z 33)).setRow w2.heap.size A = w3 at *
  try simp only [Act.put, List.setIfInBounds_toArray, List.set_cons_zero, List.set_cons_succ]
  have hlen : 0 < ds.length := by have := HL.out; cases ds with | nil => simp at this | cons a r => simp
  have hl0 : decide ((0 : Int) < (ds.length : Int)) = true := decide_eq_true (by omega)
  have hl00 : decide (0 < ds.length) = true := decide_eq_true (by omega)
  obtain ⟨i, hi⟩ : ∃ i, i + 1 = ds.length := ⟨ds.length - 1, by omega⟩
  have hsub : (ds.length : Int) - 1 = (i : Int) := by omega
  have hwi : IntKind.i64.wrap ((ds.length : Int) - 1) = (i : Int) := by rw [hsub]; exact IntWalk.i64_in _ (by omega)
  have hwi2 : IntKind.i64.wrap (i : Int) = (i : Int) := IntWalk.i64_in _ (by omega)
  have hin : (i : Int) < (ds.length : Int) := by omega
  have hi0 : (0 : Int) ≤ (i : Int) := by omega
  obtain ⟨bb, oo, rfl⟩ := HW.out.rs.sl.addr (by omega) (by omega)
  obtain ⟨q', c', hbt, hrg⟩ := HW.out.at i (by omega)
  have htd : ds[i] = t := by
    have := HL.out
    rw [List.getLast?_eq_getElem?, show ds.length - 1 = i by omega, List.getElem?_eq_getElem (by omega)] at this
    exact Option.some.inj this
  rw [htd] at hbt hrg
  obtain ⟨TA, hTA⟩ : ∃ TA, TA = blkA t.hash t.par q' t.txs.length c' := ⟨_, rfl⟩
  rw [← hTA] at hbt hrg
  have HBT := Lib.hid hbt
  have HRG := Lib.hid hrg
  have HTS := Lib.hid hbt.size
  clear hbt hrg htd hTA
  have keep : Hid (∀ w', Below w3.heap.size w3 w' → w'.rangeAt w2.heap.size 0 A.toList ∧ w'.rangeAt bb (oo + i * 65) TA.toList ∧ w'.rangeAt w.heap.size 0 RC.toList) := fun w' hb =>
    ⟨row_rangeC (Below.keepOld hb HR3.out), range_below (range_below HRG.out HLK3.out.below) hb, row_rangeC (HLK3.out.next hb).r0⟩
  have hkc : Hid (∀ w', Below w3.heap.size w3 w' → w'.cell? ⟨w.heap.size, 2, none⟩ = some (.slice (some ⟨bb, oo, none⟩) ds.length c2) ∧ w'.cell? ⟨w.heap.size, 1, none⟩ = some (.int .u32 (height : Int))) := fun w' hb => by
    have := (HLK3.out.next hb).r0
    exact ⟨by rw [cell_of_row _ _ _ _ _ _ this, HRC.out]; rfl, by rw [cell_of_row _ _ _ _ _ _ this, HRC.out]; rfl⟩
  refine wp_region_eager [(0, true), (1, true), (2, true), (3, true), (4, true), (5, true), (6, true), (7, true), (8, true), (9, true), (10, true), (11, true), (12, true), (13, true), (14, true), (15, true), (16, true), (17, true), (18, false), (19, true), (20, true), (21, true), (22, true), (23, true), (25, true), (26, true), (24, false), (27, false), (28, true), (29, true), (30, true), (31, true), (33, true), (34, true), (32, false), (35, true), (36, true), (37, true), (38, true), (40, true), (39, false), (41, false), (42, true), (43, true)] (by kernel_rfl) (by kernel_rfl) (eagerOpen rfl ?_)
  have hy0 : Below w3.heap.size w3 w3.drew := below_drew1 _ _
  repeat (first
    | ((with_reducible refine eagerAt 33 ?_); refine wpEager_load (by rfl) 33 _ rfl w2.heap.size 0 rfl A _ (fun w' hb => (keep.out w' hb).1) Try.underlying33 rfl (infoBlk _ HAS.out) ?_; (try simp only [Act.put, List.setIfInBounds_toArray, List.set_cons_zero, List.set_cons_succ]); (try refine eagerOpen rfl ?_))
    | ((with_reducible refine eagerAt 41 ?_); refine wpEager_load (by rfl) 33 _ rfl bb (oo + i * 65) rfl TA _ (fun w' hb => (keep.out w' hb).2.1) Try.underlying33 rfl (infoBlk _ HTS.out) ?_; (try simp only [Act.put, List.setIfInBounds_toArray, List.set_cons_zero, List.set_cons_succ]); (try refine eagerOpen rfl ?_))
    | ((with_reducible refine eagerAt 64 ?_); refine wpEager_load (by rfl) 41 _ rfl w.heap.size 0 rfl RC _ (fun w' hb => (keep.out w' hb).2.2) Try.underlying41 rfl (infoRC _ HRS.out) ?_; (try simp only [Act.put, List.setIfInBounds_toArray, List.set_cons_zero, List.set_cons_succ]); (try refine eagerOpen rfl ?_))
    | (first | (apply wpEager_take; (· rfl); (· (intro w' hb'; go_simp; try with_reducible rfl)); (try simp only [Act.put, List.setIfInBounds_toArray, List.set_cons_zero, List.set_cons_succ]); (try refine eagerOpen rfl ?_)) | (refine wpEager_skip (by rfl) ?_; (try simp only [Act.put, List.setIfInBounds_toArray, List.set_cons_zero, List.set_cons_succ]); (try refine eagerOpen rfl ?_)) | (refine wpEager_off (by rfl) ?_; (try simp only [Act.put, List.setIfInBounds_toArray, List.set_cons_zero, List.set_cons_succ]); (try refine eagerOpen rfl ?_)))
    | (apply wpEager_take; (· rfl); (· (intro w' hb'; have hk' := (hkc.out) w' hb'; go_split_ands; go_simp; try with_reducible rfl)); (try simp only [Act.put, List.setIfInBounds_toArray, List.set_cons_zero, List.set_cons_succ]); (try refine eagerOpen rfl ?_)))
  (refine wpEager_op (by rfl) (fun K hK => ?_); go_simp; (refine (rSame_any A TA t t _ _ _ _ _ _ _ (HAT3.out.below hy0) (HBT.out.below (HLK3.out.next hy0).below)).mono ?_; rintro e v1 ⟨rfl, hx1⟩; rw [sameB_id]; have hy1 := hy0.trans (hx1.mono hy0.size); clear hx1); refine Shut.out hK _ _ (by assumption) ?_; clear hK K; (try simp only [Act.put, List.setIfInBounds_toArray, List.set_cons_zero, List.set_cons_succ]); (try refine eagerOpen rfl ?_))
  repeat (first
    | ((with_reducible refine eagerAt 33 ?_); refine wpEager_load (by rfl) 33 _ rfl w2.heap.size 0 rfl A _ (fun w' hb => (keep.out w' hb).1) Try.underlying33 rfl (infoBlk _ HAS.out) ?_; (try simp only [Act.put, List.setIfInBounds_toArray, List.set_cons_zero, List.set_cons_succ]); (try refine eagerOpen rfl ?_))
    | ((with_reducible refine eagerAt 41 ?_); refine wpEager_load (by rfl) 33 _ rfl bb (oo + i * 65) rfl TA _ (fun w' hb => (keep.out w' hb).2.1) Try.underlying33 rfl (infoBlk _ HTS.out) ?_; (try simp only [Act.put, List.setIfInBounds_toArray, List.set_cons_zero, List.set_cons_succ]); (try refine eagerOpen rfl ?_))
    | ((with_reducible refine eagerAt 64 ?_); refine wpEager_load (by rfl) 41 _ rfl w.heap.size 0 rfl RC _ (fun w' hb => (keep.out w' hb).2.2) Try.underlying41 rfl (infoRC _ HRS.out) ?_; (try simp only [Act.put, List.setIfInBounds_toArray, List.set_cons_zero, List.set_cons_succ]); (try refine eagerOpen rfl ?_))
    | (first | (apply wpEager_take; (· rfl); (· (intro w' hb'; go_simp; try with_reducible rfl)); (try simp only [Act.put, List.setIfInBounds_toArray, List.set_cons_zero, List.set_cons_succ]); (try refine eagerOpen rfl ?_)) | (refine wpEager_skip (by rfl) ?_; (try simp only [Act.put, List.setIfInBounds_toArray, List.set_cons_zero, List.set_cons_succ]); (try refine eagerOpen rfl ?_)) | (refine wpEager_off (by rfl) ?_; (try simp only [Act.put, List.setIfInBounds_toArray, List.set_cons_zero, List.set_cons_succ]); (try refine eagerOpen rfl ?_)))
    | (apply wpEager_take; (· rfl); (· (intro w' hb'; have hk' := (hkc.out) w' hb'; go_split_ands; go_simp; try with_reducible rfl)); (try simp only [Act.put, List.setIfInBounds_toArray, List.set_cons_zero, List.set_cons_succ]); (try refine eagerOpen rfl ?_)))
  (refine wpEager_op (by rfl) (fun K hK => ?_); go_simp; (refine (window_any _ (H.out.below (HLK3.out.next hy1).below)).mono ?_; rintro e v2 ⟨p3, c3, rows3, rfl, hown, hx2⟩; have HOW := Lib.hid hown; have hy2 := hy1.trans (hx2.mono hy1.size); clear hx2 hown); refine Shut.out hK _ _ (by assumption) ?_; clear hK K; (try simp only [Act.put, List.setIfInBounds_toArray, List.set_cons_zero, List.set_cons_succ]); (try refine eagerOpen rfl ?_))
  repeat (first
    | ((with_reducible refine eagerAt 33 ?_); refine wpEager_load (by rfl) 33 _ rfl w2.heap.size 0 rfl A _ (fun w' hb => (keep.out w' hb).1) Try.underlying33 rfl (infoBlk _ HAS.out) ?_; (try simp only [Act.put, List.setIfInBounds_toArray, List.set_cons_zero, List.set_cons_succ]); (try refine eagerOpen rfl ?_))
    | ((with_reducible refine eagerAt 41 ?_); refine wpEager_load (by rfl) 33 _ rfl bb (oo + i * 65) rfl TA _ (fun w' hb => (keep.out w' hb).2.1) Try.underlying33 rfl (infoBlk _ HTS.out) ?_; (try simp only [Act.put, List.setIfInBounds_toArray, List.set_cons_zero, List.set_cons_succ]); (try refine eagerOpen rfl ?_))
    | ((with_reducible refine eagerAt 64 ?_); refine wpEager_load (by rfl) 41 _ rfl w.heap.size 0 rfl RC _ (fun w' hb => (keep.out w' hb).2.2) Try.underlying41 rfl (infoRC _ HRS.out) ?_; (try simp only [Act.put, List.setIfInBounds_toArray, List.set_cons_zero, List.set_cons_succ]); (try refine eagerOpen rfl ?_))
    | (first | (apply wpEager_take; (· rfl); (· (intro w' hb'; go_simp; try with_reducible rfl)); (try simp only [Act.put, List.setIfInBounds_toArray, List.set_cons_zero, List.set_cons_succ]); (try refine eagerOpen rfl ?_)) | (refine wpEager_skip (by rfl) ?_; (try simp only [Act.put, List.setIfInBounds_toArray, List.set_cons_zero, List.set_cons_succ]); (try refine eagerOpen rfl ?_)) | (refine wpEager_off (by rfl) ?_; (try simp only [Act.put, List.setIfInBounds_toArray, List.set_cons_zero, List.set_cons_succ]); (try refine eagerOpen rfl ?_)))
    | (apply wpEager_take; (· rfl); (· (intro w' hb'; have hk' := (hkc.out) w' hb'; go_split_ands; go_simp; try with_reducible rfl)); (try simp only [Act.put, List.setIfInBounds_toArray, List.set_cons_zero, List.set_cons_succ]); (try refine eagerOpen rfl ?_)))
  (refine wpEager_op (by rfl) (fun K hK => ?_); go_simp; (refine (rWin_same ds p3 (some ⟨bb, oo, none⟩) _ _ c3 c2 rows3 rows2 _ HOW.out.bks (HW.out.below (HLK3.out.next hy2).below)).mono ?_; rintro e v3 ⟨rfl, hx3⟩; have hy3 := hy2.trans (hx3.mono hy2.size); clear hx3); refine Shut.out hK _ _ (by assumption) ?_; clear hK K; (try simp only [Act.put, List.setIfInBounds_toArray, List.set_cons_zero, List.set_cons_succ]); (try refine eagerOpen rfl ?_))
  repeat (first
    | ((with_reducible refine eagerAt 33 ?_); refine wpEager_load (by rfl) 33 _ rfl w2.heap.size 0 rfl A _ (fun w' hb => (keep.out w' hb).1) Try.underlying33 rfl (infoBlk _ HAS.out) ?_; (try simp only [Act.put, List.setIfInBounds_toArray, List.set_cons_zero, List.set_cons_succ]); (try refine eagerOpen rfl ?_))
    | ((with_reducible refine eagerAt 41 ?_); refine wpEager_load (by rfl) 33 _ rfl bb (oo + i * 65) rfl TA _ (fun w' hb => (keep.out w' hb).2.1) Try.underlying33 rfl (infoBlk _ HTS.out) ?_; (try simp only [Act.put, List.setIfInBounds_toArray, List.set_cons_zero, List.set_cons_succ]); (try refine eagerOpen rfl ?_))
    | ((with_reducible refine eagerAt 64 ?_); refine wpEager_load (by rfl) 41 _ rfl w.heap.size 0 rfl RC _ (fun w' hb => (keep.out w' hb).2.2) Try.underlying41 rfl (infoRC _ HRS.out) ?_; (try simp only [Act.put, List.setIfInBounds_toArray, List.set_cons_zero, List.set_cons_succ]); (try refine eagerOpen rfl ?_))
    | (first | (apply wpEager_take; (· rfl); (· (intro w' hb'; go_simp; try with_reducible rfl)); (try simp only [Act.put, List.setIfInBounds_toArray, List.set_cons_zero, List.set_cons_succ]); (try refine eagerOpen rfl ?_)) | (refine wpEager_skip (by rfl) ?_; (try simp only [Act.put, List.setIfInBounds_toArray, List.set_cons_zero, List.set_cons_succ]); (try refine eagerOpen rfl ?_)) | (refine wpEager_off (by rfl) ?_; (try simp only [Act.put, List.setIfInBounds_toArray, List.set_cons_zero, List.set_cons_succ]); (try refine eagerOpen rfl ?_)))
    | (apply wpEager_take; (· rfl); (· (intro w' hb'; have hk' := (hkc.out) w' hb'; go_split_ands; go_simp; try with_reducible rfl)); (try simp only [Act.put, List.setIfInBounds_toArray, List.set_cons_zero, List.set_cons_succ]); (try refine eagerOpen rfl ?_)))
  (refine wpEager_op (by rfl) (fun K hK => ?_); go_simp; (refine (height_any _ (H.out.below (HLK3.out.next hy3).below)).mono ?_; rintro e v4 ⟨rfl, hx4⟩; obtain rfl : v3 = v4 := hx4.symm); refine Shut.out hK _ _ (by assumption) ?_; clear hK K; (try simp only [Act.put, List.setIfInBounds_toArray, List.set_cons_zero, List.set_cons_succ]); (try refine eagerOpen rfl ?_))
  repeat (first
    | ((with_reducible refine eagerAt 33 ?_); refine wpEager_load (by rfl) 33 _ rfl w2.heap.size 0 rfl A _ (fun w' hb => (keep.out w' hb).1) Try.underlying33 rfl (infoBlk _ HAS.out) ?_; (try simp only [Act.put, List.setIfInBounds_toArray, List.set_cons_zero, List.set_cons_succ]); (try refine eagerOpen rfl ?_))
    | ((with_reducible refine eagerAt 41 ?_); refine wpEager_load (by rfl) 33 _ rfl bb (oo + i * 65) rfl TA _ (fun w' hb => (keep.out w' hb).2.1) Try.underlying33 rfl (infoBlk _ HTS.out) ?_; (try simp only [Act.put, List.setIfInBounds_toArray, List.set_cons_zero, List.set_cons_succ]); (try refine eagerOpen rfl ?_))
    | ((with_reducible refine eagerAt 64 ?_); refine wpEager_load (by rfl) 41 _ rfl w.heap.size 0 rfl RC _ (fun w' hb => (keep.out w' hb).2.2) Try.underlying41 rfl (infoRC _ HRS.out) ?_; (try simp only [Act.put, List.setIfInBounds_toArray, List.set_cons_zero, List.set_cons_succ]); (try refine eagerOpen rfl ?_))
    | (first | (apply wpEager_take; (· rfl); (· (intro w' hb'; go_simp; try with_reducible rfl)); (try simp only [Act.put, List.setIfInBounds_toArray, List.set_cons_zero, List.set_cons_succ]); (try refine eagerOpen rfl ?_)) | (refine wpEager_skip (by rfl) ?_; (try simp only [Act.put, List.setIfInBounds_toArray, List.set_cons_zero, List.set_cons_succ]); (try refine eagerOpen rfl ?_)) | (refine wpEager_off (by rfl) ?_; (try simp only [Act.put, List.setIfInBounds_toArray, List.set_cons_zero, List.set_cons_succ]); (try refine eagerOpen rfl ?_)))
    | (apply wpEager_take; (· rfl); (· (intro w' hb'; have hk' := (hkc.out) w' hb'; go_split_ands; go_simp; try with_reducible rfl)); (try simp only [Act.put, List.setIfInBounds_toArray, List.set_cons_zero, List.set_cons_succ]); (try refine eagerOpen rfl ?_)))
  (refine wpEager_op (by rfl) (fun K hK => ?_); go_simp; (refine (low_any _ (H.out.below (HLK3.out.next hy3).below)).mono ?_; rintro e v5 ⟨rfl, hx5⟩; have hy5 := hy3.trans (hx5.mono hy3.size); clear hx5); refine Shut.out hK _ _ (by assumption) ?_; clear hK K; (try simp only [Act.put, List.setIfInBounds_toArray, List.set_cons_zero, List.set_cons_succ]); (try refine eagerOpen rfl ?_))
  repeat (first
    | ((with_reducible refine eagerAt 33 ?_); refine wpEager_load (by rfl) 33 _ rfl w2.heap.size 0 rfl A _ (fun w' hb => (keep.out w' hb).1) Try.underlying33 rfl (infoBlk _ HAS.out) ?_; (try simp only [Act.put, List.setIfInBounds_toArray, List.set_cons_zero, List.set_cons_succ]); (try refine eagerOpen rfl ?_))
    | ((with_reducible refine eagerAt 41 ?_); refine wpEager_load (by rfl) 33 _ rfl bb (oo + i * 65) rfl TA _ (fun w' hb => (keep.out w' hb).2.1) Try.underlying33 rfl (infoBlk _ HTS.out) ?_; (try simp only [Act.put, List.setIfInBounds_toArray, List.set_cons_zero, List.set_cons_succ]); (try refine eagerOpen rfl ?_))
    | ((with_reducible refine eagerAt 64 ?_); refine wpEager_load (by rfl) 41 _ rfl w.heap.size 0 rfl RC _ (fun w' hb => (keep.out w' hb).2.2) Try.underlying41 rfl (infoRC _ HRS.out) ?_; (try simp only [Act.put, List.setIfInBounds_toArray, List.set_cons_zero, List.set_cons_succ]); (try refine eagerOpen rfl ?_))
    | (first | (apply wpEager_take; (· rfl); (· (intro w' hb'; go_simp; try with_reducible rfl)); (try simp only [Act.put, List.setIfInBounds_toArray, List.set_cons_zero, List.set_cons_succ]); (try refine eagerOpen rfl ?_)) | (refine wpEager_skip (by rfl) ?_; (try simp only [Act.put, List.setIfInBounds_toArray, List.set_cons_zero, List.set_cons_succ]); (try refine eagerOpen rfl ?_)) | (refine wpEager_off (by rfl) ?_; (try simp only [Act.put, List.setIfInBounds_toArray, List.set_cons_zero, List.set_cons_succ]); (try refine eagerOpen rfl ?_)))
    | (apply wpEager_take; (· rfl); (· (intro w' hb'; have hk' := (hkc.out) w' hb'; go_split_ands; go_simp; try with_reducible rfl)); (try simp only [Act.put, List.setIfInBounds_toArray, List.set_cons_zero, List.set_cons_succ]); (try refine eagerOpen rfl ?_)))
  (refine wpEager_op (by rfl) (fun K hK => ?_); go_simp; (have hrl := rLow_any (depth : Int) height hmany.2 ds (by omega) (some ⟨bb, oo, none⟩) c2 v5; rw [← HRC.out] at hrl; refine hrl.mono ?_; clear hrl; rintro e v6 ⟨rfl, hx6⟩; have hy6 := hy5.trans (hx6.mono hy5.size); clear hx6); refine Shut.out hK _ _ (by assumption) ?_; clear hK K; (try simp only [Act.put, List.setIfInBounds_toArray, List.set_cons_zero, List.set_cons_succ]); (try refine eagerOpen rfl ?_))
  repeat (first
    | ((with_reducible refine eagerAt 33 ?_); refine wpEager_load (by rfl) 33 _ rfl w2.heap.size 0 rfl A _ (fun w' hb => (keep.out w' hb).1) Try.underlying33 rfl (infoBlk _ HAS.out) ?_; (try simp only [Act.put, List.setIfInBounds_toArray, List.set_cons_zero, List.set_cons_succ]); (try refine eagerOpen rfl ?_))
    | ((with_reducible refine eagerAt 41 ?_); refine wpEager_load (by rfl) 33 _ rfl bb (oo + i * 65) rfl TA _ (fun w' hb => (keep.out w' hb).2.1) Try.underlying33 rfl (infoBlk _ HTS.out) ?_; (try simp only [Act.put, List.setIfInBounds_toArray, List.set_cons_zero, List.set_cons_succ]); (try refine eagerOpen rfl ?_))
    | ((with_reducible refine eagerAt 64 ?_); refine wpEager_load (by rfl) 41 _ rfl w.heap.size 0 rfl RC _ (fun w' hb => (keep.out w' hb).2.2) Try.underlying41 rfl (infoRC _ HRS.out) ?_; (try simp only [Act.put, List.setIfInBounds_toArray, List.set_cons_zero, List.set_cons_succ]); (try refine eagerOpen rfl ?_))
    | (first | (apply wpEager_take; (· rfl); (· (intro w' hb'; go_simp; try with_reducible rfl)); (try simp only [Act.put, List.setIfInBounds_toArray, List.set_cons_zero, List.set_cons_succ]); (try refine eagerOpen rfl ?_)) | (refine wpEager_skip (by rfl) ?_; (try simp only [Act.put, List.setIfInBounds_toArray, List.set_cons_zero, List.set_cons_succ]); (try refine eagerOpen rfl ?_)) | (refine wpEager_off (by rfl) ?_; (try simp only [Act.put, List.setIfInBounds_toArray, List.set_cons_zero, List.set_cons_succ]); (try refine eagerOpen rfl ?_)))
    | (apply wpEager_take; (· rfl); (· (intro w' hb'; have hk' := (hkc.out) w' hb'; go_split_ands; go_simp; try with_reducible rfl)); (try simp only [Act.put, List.setIfInBounds_toArray, List.set_cons_zero, List.set_cons_succ]); (try refine eagerOpen rfl ?_)))
  refine eagerEnd ?_
  have HLK4 := Lib.hid (HLK3.out.next hy6)
  clear hy0 hy1 hy2 hy3 hy5 hy6 keep hkc HOW HR3 HLK3 HAT3 HNW HBT HRG HTS HAS HAO HAT
  clear hx4 v1 v2 v3 v5 w3
  have HPB4 := Lib.hid ((HM.out.below HLK4.out.below).parts HLK4.out.r1)
  have HHS : Hid ((idA b.hash).toList.length = 32) := by show _ = _; rw [Array.length_toList, idA_size, HM.out.hlen]
  go_wp2_with ((with_reducible refine wpAt 71 ?_); refine wpList_load_mid rfl 30 _ rfl (w.heap.size + 1) 0 rfl (idA b.hash).toList _ HPB4.out.1 Try.underlying30 rfl (infoI _ HHS.out) ?_)
  refine (find_any _ (H.out.below HLK4.out.below) b.hash HM.out.hlen).mono ?_
  rintro e w5 ⟨rfl, hb5⟩
  have HLK5 := Lib.hid (HLK4.out.next hb5)
  have HPB5 := Lib.hid ((HM.out.below HLK5.out.below).parts HLK5.out.r1)
  clear hb5
  go_wp2_with (first
    | ((with_reducible refine wpAt 76 ?_); refine wpList_load_row rfl 41 _ rfl w.heap.size rfl 41 RC (0, 0) _ HLK5.out.r0 Try.underlying41 rfl (infoRC _ HRS.out) ?_)
    | ((with_reducible refine wpAt 78 ?_); refine wpList_load_mid rfl 30 _ rfl (w.heap.size + 1) 0 rfl (idA b.hash).toList _ HPB5.out.1 Try.underlying30 rfl (infoI _ HHS.out) ?_))
  have hrf := rFind_any (depth : Int) height hmany.2 ds (by omega) _ c2 rows2 b.hash HM.out.hlen _ (HW.out.below HLK5.out.below)
  rw [← HRC.out] at hrf
  refine hrf.mono ?_
  rintro e w6 ⟨rfl, hb6⟩
  clear hrf
  have HLK6 := Lib.hid (HLK5.out.next hb6)
  clear hb6
  generalize (findR ds height b.hash).1 = fh at *
  generalize (findR ds height b.hash).2 = fb at *
  have HKM : Hid (∀ y : Grown w6, y.v.rangeAt (w.heap.size + 1) 0 M.toList) := fun y => range_grown (row_rangeC HLK6.out.r1) y
  have HKR : Hid (∀ y : Grown w6, y.v.rangeAt w.heap.size 0 RC.toList) := fun y => range_grown (row_rangeC HLK6.out.r0) y
  have HMAYR : Hid (∀ y : Grown w6, Calls Try.prog 17 #[.agg RC, .agg M] y.v fun e w' => e = .returned (.int .i64 (mayE ds height b)) ∧ Below y.v.heap.size y.v w') := fun y => by
    have := rMay_any (depth : Int) height ds _ c2 rows2 b M q n cc y.v (HW.out.below (HLK6.out.next (Grown.b _)).below) (HM.out.below (HLK6.out.next (Grown.b _)).below)
    rwa [← HRC.out] at this
  have HM0 : Hid (∀ y : Grown w6, Calls Try.prog 38 #[.pointer (some ⟨cb, 0, none⟩), .agg M] y.v fun e w' => e = .returned (.int .i64 (mayE ds height b)) ∧ Below y.v.heap.size y.v w') := fun y => may_any _ (H.out.below (HLK6.out.next (Grown.b _)).below) M b q n cc (HM.out.below (HLK6.out.next (Grown.b _)).below)
  generalize mayE ds height b = me at *
  go_wp2_with fail
  refine wp_region_grow (by kernel_rfl) (by kernel_rfl) ?_
  repeat (first
    | ((with_reducible refine wpQuietGd ?_); (with_reducible refine wpQuiet_skip ?_ ?_); (· rfl); simp only [Act.put, List.setIfInBounds_toArray, List.set_cons_zero, List.set_cons_succ])
    | ((with_reducible refine wpQuietAt 92 ?_); refine wpQuiet_load rfl 33 _ rfl (w.heap.size + 1) 0 rfl M _ HKM.out Try.underlying33 rfl (infoBlk _ HMS.out) ?_)
    | ((with_reducible refine wpQuietAt 95 ?_); refine wpQuiet_load rfl 33 _ rfl (w.heap.size + 1) 0 rfl M _ HKM.out Try.underlying33 rfl (infoBlk _ HMS.out) ?_)
    | ((with_reducible refine wpQuietAt 94 ?_); refine wpQuiet_load rfl 41 _ rfl w.heap.size 0 rfl RC _ HKR.out Try.underlying41 rfl (infoRC _ HRS.out) ?_)
    | quiet_step ((first | (go_at_call 38; exact Calls.grow_of (HM0.out _)) | (go_at_call 17; exact Calls.grow_of (HMAYR.out _)))))
  refine wpQuiet_nil ?_
  intro w7 hb7
  have HLK7 := Lib.hid (HLK6.out.next hb7)
  clear hb7 HKM HKR HM0 HMAYR
  have hil := HM.out.ids.sl.le
  have him := HM.out.ids.sl.max
  have HNB := Lib.hid (Below.allocs w7 (.cells (idA zeros) 30))
  have HLKA := Lib.hid (HLK7.out.next HNB.out)
  have hc64 := ((HM.out.below HLKA.out.below).parts HLKA.out.r1).2.2
  have HOW7 : Hid ((w7.alloc (.cells (idA zeros) 30)).ownsRow w7.heap.size 30 32 (.slice (some ⟨w7.heap.size, 0, none⟩) 1 1) 1 (bytesV zeros)) :=
    ⟨by rw [bytesV_length]; rfl, .inr ⟨w7.heap.size, 1, idA zeros, rfl, Nat.le_refl _, heap_alloc_last _ _, Nat.le_refl _, by decide, by rw [zeros_size], by rw [idA_toList]; rfl⟩⟩
  have HSL7 : Hid (Sl (w7.alloc (.cells (idA zeros) 30)) q n cc 32 (b.txs.flatMap bytesV)) := (HM.out.ids.below (HLK7.out.next HNB.out).below).sl
  have HON : Hid (∀ u ∈ b.txs.flatMap bytesV, u.oneCell' = true) := fun u hu => by
    obtain ⟨x, _, hx⟩ := List.mem_flatMap.1 hu
    exact bytesV_one _ u hx
  have HKN : Hid (1 + n ≤ 9223372036854775807 ∧ (1 + n) * 32 ≤ 140737488355328) := ⟨by omega, by omega⟩
  go_wp2_with (first
    | ((with_reducible refine wpAt 99 ?_); refine wpList_build rfl 30 _ rfl [] rfl (idA zeros) (by kernel_rfl) ?_)
    | ((with_reducible refine wpAt 100 ?_); refine wpList_buildOne rfl 31 30 _ rfl (idA zeros) rfl 32 Try.underlying31 (by kernel_rfl) (by omega) (by omega) zeros_size ?_)
    | ((with_reducible refine wpAt 103 ?_); refine wpList_append_nx rfl _ _ 31 rfl (base := w7.heap.size) Try.underlying31 infoIds (by rw [show (Value.agg (idA zeros)).cells = idA zeros from rfl]; exact zeros_size) (by omega) rfl HOW7.out rfl HSL7.out HON.out HKN.out HNB.out.size ?_))
  intro p8 c8 w8 ho8 hg8 _ _
  have hT8 : Turns (fun i => (Value.slice (some ⟨w7.heap.size, 0, none⟩) 1 1).ownBlock = some i) (w7.alloc (.cells (idA zeros) 30)) w8 := Turns.grown hg8 (S := fun i => (Value.slice (some ⟨w7.heap.size, 0, none⟩) 1 1).ownBlock = some i) (fun k hk => hk)
  have hb8 : Below w7.heap.size w7 w8 := HNB.out.trans (hT8.below HNB.out.size (fun i hi => by simp [Value.ownBlock] at hi; omega))
  have HLK8 := Lib.hid (HLK7.out.next hb8)
  have HIS8 : Hid (Is w8 p8 (1 + n) c8 32 (zeros :: b.txs)) := by
    obtain ⟨p', c', hv, hs⟩ := own_sl ho8
    obtain ⟨rfl, -, rfl⟩ := Value.slice.inj hv
    refine ⟨?_, ?_, by rw [List.length_cons, HM.out.ids.count]; omega⟩
    · rw [List.flatMap_cons]; exact hs
    · intro x hx
      rcases List.mem_cons.1 hx with rfl | hx
      · rfl
      · exact HM.out.ids.each x hx
  clear ho8 hg8 hT8 hb8 HOW7 HSL7 HON HKN HNB HLKA hc64
  generalize hzs : zeros :: b.txs = zs at *
  have HZL : Hid (zs.length = 1 + n) := HIS8.out.count
  have h8l := HIS8.out.sl.le
  have h8m := HIS8.out.sl.max
  clear hzs hil him
  generalize hN : 1 + n = N at *
  have hNN : N ≤ 101 := by omega
  clear hN
  go_wp2_with fail
  go_loopw [105] (fun j wr => ∃ k : Nat, k ≤ N ∧ j = .int .i64 k ∧ Below w8.heap.size w8 wr) (fun j _ => N - (intOf j).toNat)
  case atStart => exact ⟨0, by omega, rfl, Below.refl _ _⟩
  case round =>
    obtain ⟨k, hk, rfl, hbw⟩ := hrel
    have HLKR := Lib.hid (HLK8.out.next hbw)
    have HBW := Lib.hid hbw
    by_cases hlt : k < N
    · have hd : decide ((k : Int) < (N : Int)) = true := decide_eq_true (by omega)
      obtain ⟨eb, eo, rfl⟩ := HIS8.out.sl.addr (by omega) (by omega)
      have HRX := Lib.hid ((HIS8.out.below hbw).range (by omega) k (by rw [HZL.out]; exact hlt))
      have HXL : Hid ((zs[k]'(by rw [HZL.out]; exact hlt)).length = 32) := HIS8.out.each _ (List.getElem_mem _)
      clear hbw
      generalize (zs[k]'(by rw [HZL.out]; exact hlt)) = x at *
      have HXS : Hid ((idA x).size = 32) := by show _ = _; rw [idA_size, HXL.out]
      have HXA : Hid ((idA x).toList.length = 32) := by show _ = _; rw [Array.length_toList]; exact HXS.out
      have HXO := Lib.hid (idA_one x)
      have HNX := Lib.hid (box_new wr (idA zeros) 30)
      have hbx := box_below wr (idA zeros) (idA x) 30
      have HLK9 := Lib.hid (HLKR.out.next hbx)
      have HR9 := Lib.hid (box_row wr (idA zeros) (idA x) 30)
      have HB9 := Lib.hid (HBW.out.trans (hbx.mono HBW.out.size))
      clear hbx
      have hzi := zeroI
      go_upto_region 11 with (first
        | ((with_reducible refine wpAt 108 ?_); refine wpList_load_mid rfl 30 _ rfl eb (eo + k * 32) rfl (idA x).toList _ HRX.out Try.underlying30 rfl (infoI _ HXA.out) ?_)
        | ((with_reducible refine wpStoreAt 14 ?_); refine wpList_store_row rfl 30 _ _ rfl wr.heap.size (idA x) rfl rfl 30 (idA zeros) HNX.out (infoI _ HXS.out) (zeros_size.trans HXS.out.symm) HXO.out ?_))
      generalize (wr.alloc (.cells (idA zeros) 30)).setRow wr.heap.size (idA x) = w9 at *
      try simp only [Act.put, List.setIfInBounds_toArray, List.set_cons_zero, List.set_cons_succ]
      clear hzi
      go_wp2_with ((with_reducible refine wpAt 111 ?_); refine wpList_load_row_g rfl 30 _ rfl wr.heap.size rfl 30 (idA x) (0, 0) _ HR9.out Try.underlying30 rfl (infoI _ HXS.out) ?_)
      refine (chHas_any _ (H.out.below HLK9.out.below) x HXL.out).mono ?_
      rintro e w10 ⟨rfl, hb10⟩
      have HLK10 := Lib.hid (HLK9.out.next hb10)
      have HR10 := Lib.hid (Below.keepOld hb10 HR9.out)
      have HB10 := Lib.hid (HB9.out.trans (hb10.mono HB9.out.size))
      clear hb10
      go_wp2_with (first
        | ((with_reducible refine wpAt 116 ?_); refine wpList_load_row_g rfl 41 _ rfl w.heap.size rfl 41 RC (0, 0) _ HLK10.out.r0 Try.underlying41 rfl (infoRC _ HRS.out) ?_)
        | ((with_reducible refine wpAt 117 ?_); refine wpList_load_row_g rfl 30 _ rfl wr.heap.size rfl 30 (idA x) (0, 0) _ HR10.out Try.underlying30 rfl (infoI _ HXS.out) ?_))
      have hrh := rChHas_any (depth : Int) height hmany.2 ds (by omega) (fun d hd => by have := HFEW.out d hd; omega) _ c2 rows2 x HXL.out _ (HW.out.below HLK10.out.below)
      rw [← HRC.out] at hrh
      refine hrh.mono ?_
      rintro e w11 ⟨rfl, hb11⟩
      have HLK11 := Lib.hid (HLK10.out.next hb11)
      have HR11 := Lib.hid (Below.keepOld hb11 HR10.out)
      have HB11 := Lib.hid (HB10.out.trans (hb11.mono HB10.out.size))
      clear hb11 hrh
      generalize (hasV ds height x).1 = vh at *
      generalize (hasV ds height x).2 = vb at *
      have HXT : Hid ((idA (x.take 16)).size = 16) := by show _ = _; rw [idA_size, List.length_take, HXL.out]; rfl
      have HT16 : Hid ((x.take 16).length = 16) := by show _ = _; rw [List.length_take, HXL.out]; rfl
      have keep : Hid (∀ w', Below w11.heap.size w11 w' → w'.rangeAt w.heap.size 0 RC.toList ∧ w'.rangeAt wr.heap.size 0 (idA (x.take 16)).toList) := fun w' hb =>
        ⟨row_rangeC (HLK11.out.next hb).r0, range_take16 (Below.keepOld hb HR11.out)⟩
      go_wp2_with fail
      refine wp_region_eager [(0, true), (1, true), (2, true), (3, true), (4, true), (5, true), (6, true), (7, true), (8, true), (9, true), (10, true), (11, true), (12, true), (14, true), (15, true), (16, true), (17, true), (13, false), (18, false), (19, false), (20, true), (21, true)] (by kernel_rfl) (by kernel_rfl) (eagerOpen rfl ?_)
      have hy0 : Below w11.heap.size w11 w11.drew := below_drew1 _ _
      repeat (first
        | ((with_reducible refine eagerAt 132 ?_); refine wpEager_take (by rfl) (v := .pointer (some ⟨wr.heap.size, 0, none⟩)) (fun w' hb' => by go_simp; rw [run_arrayAt _ _ _ 16 _ _ _ Try.underlying52 (by omega)]; rfl) ?_; (try simp only [Act.put, List.setIfInBounds_toArray, List.set_cons_zero, List.set_cons_succ]); (try refine eagerOpen rfl ?_))
        | ((with_reducible refine eagerAt 137 ?_); refine wpEager_take (by rfl) (v := .pointer (some ⟨wr.heap.size, 0, none⟩)) (fun w' hb' => by go_simp; rw [run_arrayAt _ _ _ 16 _ _ _ Try.underlying52 (by omega)]; rfl) ?_; (try simp only [Act.put, List.setIfInBounds_toArray, List.set_cons_zero, List.set_cons_succ]); (try refine eagerOpen rfl ?_))
        | ((with_reducible refine eagerAt 133 ?_); refine wpEager_load (by rfl) 52 _ rfl wr.heap.size 0 rfl (idA (x.take 16)) _ (fun w' hb => (keep.out w' hb).2) Try.underlying52 rfl (infoH _ HXT.out) ?_; (try simp only [Act.put, List.setIfInBounds_toArray, List.set_cons_zero, List.set_cons_succ]); (try refine eagerOpen rfl ?_))
        | ((with_reducible refine eagerAt 138 ?_); refine wpEager_load (by rfl) 52 _ rfl wr.heap.size 0 rfl (idA (x.take 16)) _ (fun w' hb => (keep.out w' hb).2) Try.underlying52 rfl (infoH _ HXT.out) ?_; (try simp only [Act.put, List.setIfInBounds_toArray, List.set_cons_zero, List.set_cons_succ]); (try refine eagerOpen rfl ?_))
        | ((with_reducible refine eagerAt 135 ?_); refine wpEager_load (by rfl) 41 _ rfl w.heap.size 0 rfl RC _ (fun w' hb => (keep.out w' hb).1) Try.underlying41 rfl (infoRC _ HRS.out) ?_; (try simp only [Act.put, List.setIfInBounds_toArray, List.set_cons_zero, List.set_cons_succ]); (try refine eagerOpen rfl ?_))
        | (first | (apply wpEager_take; (· rfl); (· (intro w' hb'; go_simp; try with_reducible rfl)); (try simp only [Act.put, List.setIfInBounds_toArray, List.set_cons_zero, List.set_cons_succ]); (try refine eagerOpen rfl ?_)) | (refine wpEager_skip (by rfl) ?_; (try simp only [Act.put, List.setIfInBounds_toArray, List.set_cons_zero, List.set_cons_succ]); (try refine eagerOpen rfl ?_)) | (refine wpEager_off (by rfl) ?_; (try simp only [Act.put, List.setIfInBounds_toArray, List.set_cons_zero, List.set_cons_succ]); (try refine eagerOpen rfl ?_))))
      (refine wpEager_op (by rfl) (fun K hK => ?_); go_simp; (refine (chHinted_any _ (H.out.below (HLK11.out.next hy0).below) HFEW.out (x.take 16) HT16.out).mono ?_; rintro e v1 ⟨pa, ca, rfl, hia, _, hx1⟩; have hy1 := hy0.trans (hx1.mono hy0.size); have HIA := Lib.hid hia; clear hx1 hia); refine Shut.out hK _ _ (by assumption) ?_; clear hK K; (try simp only [Act.put, List.setIfInBounds_toArray, List.set_cons_zero, List.set_cons_succ]); (try refine eagerOpen rfl ?_))
      repeat (first
        | ((with_reducible refine eagerAt 132 ?_); refine wpEager_take (by rfl) (v := .pointer (some ⟨wr.heap.size, 0, none⟩)) (fun w' hb' => by go_simp; rw [run_arrayAt _ _ _ 16 _ _ _ Try.underlying52 (by omega)]; rfl) ?_; (try simp only [Act.put, List.setIfInBounds_toArray, List.set_cons_zero, List.set_cons_succ]); (try refine eagerOpen rfl ?_))
        | ((with_reducible refine eagerAt 137 ?_); refine wpEager_take (by rfl) (v := .pointer (some ⟨wr.heap.size, 0, none⟩)) (fun w' hb' => by go_simp; rw [run_arrayAt _ _ _ 16 _ _ _ Try.underlying52 (by omega)]; rfl) ?_; (try simp only [Act.put, List.setIfInBounds_toArray, List.set_cons_zero, List.set_cons_succ]); (try refine eagerOpen rfl ?_))
        | ((with_reducible refine eagerAt 133 ?_); refine wpEager_load (by rfl) 52 _ rfl wr.heap.size 0 rfl (idA (x.take 16)) _ (fun w' hb => (keep.out w' hb).2) Try.underlying52 rfl (infoH _ HXT.out) ?_; (try simp only [Act.put, List.setIfInBounds_toArray, List.set_cons_zero, List.set_cons_succ]); (try refine eagerOpen rfl ?_))
        | ((with_reducible refine eagerAt 138 ?_); refine wpEager_load (by rfl) 52 _ rfl wr.heap.size 0 rfl (idA (x.take 16)) _ (fun w' hb => (keep.out w' hb).2) Try.underlying52 rfl (infoH _ HXT.out) ?_; (try simp only [Act.put, List.setIfInBounds_toArray, List.set_cons_zero, List.set_cons_succ]); (try refine eagerOpen rfl ?_))
        | ((with_reducible refine eagerAt 135 ?_); refine wpEager_load (by rfl) 41 _ rfl w.heap.size 0 rfl RC _ (fun w' hb => (keep.out w' hb).1) Try.underlying41 rfl (infoRC _ HRS.out) ?_; (try simp only [Act.put, List.setIfInBounds_toArray, List.set_cons_zero, List.set_cons_succ]); (try refine eagerOpen rfl ?_))
        | (first | (apply wpEager_take; (· rfl); (· (intro w' hb'; go_simp; try with_reducible rfl)); (try simp only [Act.put, List.setIfInBounds_toArray, List.set_cons_zero, List.set_cons_succ]); (try refine eagerOpen rfl ?_)) | (refine wpEager_skip (by rfl) ?_; (try simp only [Act.put, List.setIfInBounds_toArray, List.set_cons_zero, List.set_cons_succ]); (try refine eagerOpen rfl ?_)) | (refine wpEager_off (by rfl) ?_; (try simp only [Act.put, List.setIfInBounds_toArray, List.set_cons_zero, List.set_cons_succ]); (try refine eagerOpen rfl ?_))))
      (refine wpEager_op (by rfl) (fun K hK => ?_); go_simp; (have hrr := rChHinted_any (depth : Int) height ds (by omega) HFEW.out _ c2 rows2 (x.take 16) HT16.out v1 (HW.out.below (HLK11.out.next hy1).below); rw [← HRC.out, rH_eq (by omega) hmany.2 HND.out _ (Nat.le_refl _)] at hrr; refine hrr.mono ?_; clear hrr; rintro e v2 ⟨pb, cb2, rfl, hib, _, hx2⟩; have hy2 := hy1.trans (hx2.mono hy1.size); have HIB := Lib.hid hib; have HJA := Lib.hid (HIA.out.below hx2); clear hx2 hib); refine Shut.out hK _ _ (by assumption) ?_; clear hK K; (try simp only [Act.put, List.setIfInBounds_toArray, List.set_cons_zero, List.set_cons_succ]); (try refine eagerOpen rfl ?_))
      repeat (first
        | ((with_reducible refine eagerAt 132 ?_); refine wpEager_take (by rfl) (v := .pointer (some ⟨wr.heap.size, 0, none⟩)) (fun w' hb' => by go_simp; rw [run_arrayAt _ _ _ 16 _ _ _ Try.underlying52 (by omega)]; rfl) ?_; (try simp only [Act.put, List.setIfInBounds_toArray, List.set_cons_zero, List.set_cons_succ]); (try refine eagerOpen rfl ?_))
        | ((with_reducible refine eagerAt 137 ?_); refine wpEager_take (by rfl) (v := .pointer (some ⟨wr.heap.size, 0, none⟩)) (fun w' hb' => by go_simp; rw [run_arrayAt _ _ _ 16 _ _ _ Try.underlying52 (by omega)]; rfl) ?_; (try simp only [Act.put, List.setIfInBounds_toArray, List.set_cons_zero, List.set_cons_succ]); (try refine eagerOpen rfl ?_))
        | ((with_reducible refine eagerAt 133 ?_); refine wpEager_load (by rfl) 52 _ rfl wr.heap.size 0 rfl (idA (x.take 16)) _ (fun w' hb => (keep.out w' hb).2) Try.underlying52 rfl (infoH _ HXT.out) ?_; (try simp only [Act.put, List.setIfInBounds_toArray, List.set_cons_zero, List.set_cons_succ]); (try refine eagerOpen rfl ?_))
        | ((with_reducible refine eagerAt 138 ?_); refine wpEager_load (by rfl) 52 _ rfl wr.heap.size 0 rfl (idA (x.take 16)) _ (fun w' hb => (keep.out w' hb).2) Try.underlying52 rfl (infoH _ HXT.out) ?_; (try simp only [Act.put, List.setIfInBounds_toArray, List.set_cons_zero, List.set_cons_succ]); (try refine eagerOpen rfl ?_))
        | ((with_reducible refine eagerAt 135 ?_); refine wpEager_load (by rfl) 41 _ rfl w.heap.size 0 rfl RC _ (fun w' hb => (keep.out w' hb).1) Try.underlying41 rfl (infoRC _ HRS.out) ?_; (try simp only [Act.put, List.setIfInBounds_toArray, List.set_cons_zero, List.set_cons_succ]); (try refine eagerOpen rfl ?_))
        | (first | (apply wpEager_take; (· rfl); (· (intro w' hb'; go_simp; try with_reducible rfl)); (try simp only [Act.put, List.setIfInBounds_toArray, List.set_cons_zero, List.set_cons_succ]); (try refine eagerOpen rfl ?_)) | (refine wpEager_skip (by rfl) ?_; (try simp only [Act.put, List.setIfInBounds_toArray, List.set_cons_zero, List.set_cons_succ]); (try refine eagerOpen rfl ?_)) | (refine wpEager_off (by rfl) ?_; (try simp only [Act.put, List.setIfInBounds_toArray, List.set_cons_zero, List.set_cons_succ]); (try refine eagerOpen rfl ?_))))
      (refine wpEager_op (by rfl) (fun K hK => ?_); go_simp; (refine (idsSame_any _ _ _ _ _ _ _ _ _ HJA.out HIB.out).mono ?_; rintro e v3 ⟨rfl, hx3⟩; rw [beq_self_eq_true]; have hy3 := hy2.trans (hx3.mono hy2.size); clear hx3); refine Shut.out hK _ _ (by assumption) ?_; clear hK K; (try simp only [Act.put, List.setIfInBounds_toArray, List.set_cons_zero, List.set_cons_succ]); (try refine eagerOpen rfl ?_))
      repeat (first
        | ((with_reducible refine eagerAt 132 ?_); refine wpEager_take (by rfl) (v := .pointer (some ⟨wr.heap.size, 0, none⟩)) (fun w' hb' => by go_simp; rw [run_arrayAt _ _ _ 16 _ _ _ Try.underlying52 (by omega)]; rfl) ?_; (try simp only [Act.put, List.setIfInBounds_toArray, List.set_cons_zero, List.set_cons_succ]); (try refine eagerOpen rfl ?_))
        | ((with_reducible refine eagerAt 137 ?_); refine wpEager_take (by rfl) (v := .pointer (some ⟨wr.heap.size, 0, none⟩)) (fun w' hb' => by go_simp; rw [run_arrayAt _ _ _ 16 _ _ _ Try.underlying52 (by omega)]; rfl) ?_; (try simp only [Act.put, List.setIfInBounds_toArray, List.set_cons_zero, List.set_cons_succ]); (try refine eagerOpen rfl ?_))
        | ((with_reducible refine eagerAt 133 ?_); refine wpEager_load (by rfl) 52 _ rfl wr.heap.size 0 rfl (idA (x.take 16)) _ (fun w' hb => (keep.out w' hb).2) Try.underlying52 rfl (infoH _ HXT.out) ?_; (try simp only [Act.put, List.setIfInBounds_toArray, List.set_cons_zero, List.set_cons_succ]); (try refine eagerOpen rfl ?_))
        | ((with_reducible refine eagerAt 138 ?_); refine wpEager_load (by rfl) 52 _ rfl wr.heap.size 0 rfl (idA (x.take 16)) _ (fun w' hb => (keep.out w' hb).2) Try.underlying52 rfl (infoH _ HXT.out) ?_; (try simp only [Act.put, List.setIfInBounds_toArray, List.set_cons_zero, List.set_cons_succ]); (try refine eagerOpen rfl ?_))
        | ((with_reducible refine eagerAt 135 ?_); refine wpEager_load (by rfl) 41 _ rfl w.heap.size 0 rfl RC _ (fun w' hb => (keep.out w' hb).1) Try.underlying41 rfl (infoRC _ HRS.out) ?_; (try simp only [Act.put, List.setIfInBounds_toArray, List.set_cons_zero, List.set_cons_succ]); (try refine eagerOpen rfl ?_))
        | (first | (apply wpEager_take; (· rfl); (· (intro w' hb'; go_simp; try with_reducible rfl)); (try simp only [Act.put, List.setIfInBounds_toArray, List.set_cons_zero, List.set_cons_succ]); (try refine eagerOpen rfl ?_)) | (refine wpEager_skip (by rfl) ?_; (try simp only [Act.put, List.setIfInBounds_toArray, List.set_cons_zero, List.set_cons_succ]); (try refine eagerOpen rfl ?_)) | (refine wpEager_off (by rfl) ?_; (try simp only [Act.put, List.setIfInBounds_toArray, List.set_cons_zero, List.set_cons_succ]); (try refine eagerOpen rfl ?_))))
      refine eagerEnd ?_
      have HBF := Lib.hid (HB11.out.trans (hy3.mono HB11.out.size))
      clear hy0 hy1 hy2 hy3 keep HIA HIB HJA
      go_wp2_with fail
      go_roundw
      case rel => exact ⟨k + 1, by omega, by go_num, HBF.out⟩
      case measure => simp [intOf]; omega
    · have hd : decide ((k : Int) < (N : Int)) = false := decide_eq_false (by omega)
      go_wp2_with fail
      go_ret
      exact ⟨rfl, HLKR.out.below⟩
end Go.Proofs.Ytepemfgiigceoaa.Chn

namespace Go.Proofs.Ytepemfgiigceoaa.Chn
open Go.RowKit Go.Mir Go.Mir.Parts Go.Proofs.Ytepemfgiigceoaa.Blk

theorem eagerGd {P : Program} {ops : Array Oper} {S : World → Prop} {Q : Exit → Act → World → Prop} {r : List (Oper × Bool)} {a : Act} {w : World} {d : Option Nat} {op : Op} {t : TypeId} {p : String} {af : Array Edge} {g : Nat × Bool} {b : Bool}
    (h : wpEager P ops S Q ((⟨d, op, t, p, af, some g⟩, b) :: r) a w) : wpEager P ops S Q ((⟨d, op, t, p, af, some g⟩, b) :: r) a w := h
set_option maxRecDepth 100000 in
set_option maxHeartbeats 1600000 in
theorem like_none {base cb depth height : Nat} {ds : List BlkD} {p : Option Addr} {c : Nat} {rows : List (List Value)} (w : World) (h : ChAt w base cb depth height ds p c rows) (hfew : ∀ d ∈ ds, d.txs.length ≤ 1000000) (hnd : ∀ d ∈ ds, d.txs.Nodup)
    (p2 : Option Addr) (c2 : Nat) (rows2 : List (List Value)) (hW : Bks w p2 ds.length c2 ds rows2) (M : Array Value) (b : BlkD) (q : Option Addr) (n cc : Nat) (hM : BlkAt w M b q n cc) (hn : n ≤ 100) (hl : ds.getLast? = none) :
    Calls Try.prog 32 #[.pointer (some ⟨cb, 0, none⟩), .agg (rcA (depth : Int) height p2 ds.length c2), .agg M] w fun e w' => e = .returned (.bool true) ∧ Below w.heap.size w w' := by
  obtain ⟨Z, hz, hZ⟩ := zBlk
  have HZZ := Lib.hid hZ
  obtain ⟨RC, hRC⟩ : ∃ RC, RC = rcA (depth : Int) height p2 ds.length c2 := ⟨_, rfl⟩
  have HRC := Lib.hid hRC
  have HRS : Hid (RC.size = 3) := by show _ = _; rw [hRC]; rfl
  rw [← hRC]
  have H2 := Lib.hid (two_allocs w (.cells RC 41) (.cells M 33))
  have HLK1 : Hid (LK w ((w.alloc (.cells RC 41)).alloc (.cells M 33)) RC M) := ⟨H2.out.1, H2.out.2.1, H2.out.2.2.2⟩
  have H := Lib.hid h
  have HW := Lib.hid hW
  have HM := Lib.hid hM
  have HFEW := Lib.hid hfew
  have HND := Lib.hid hnd
  have HMS := Lib.hid hM.size
  have HL := Lib.hid hl
  have hmany := h.many
  have hle2 := hW.rs.sl.le
  have hmax2 := hW.rs.sl.max
  obtain ⟨hd1, hd2⟩ := h.depth1
  clear h hfew hnd hW hM hl hZ hRC
  go_enter Try.func32, Try.ntmps32
  go_wp2_with fail
  generalize (w.alloc (.cells RC 41)).alloc (.cells M 33) = w1 at *
  refine (tip_q w1 (H.out.below HLK1.out.below)).mono ?_
  rintro e w2 ⟨A, t, qt, nt, ct, rfl, hat, hlast, hb2⟩
  rw [HL.out]
  have HLK2 := Lib.hid (HLK1.out.next hb2)
  have HAT := Lib.hid hat
  have HAS := Lib.hid hat.size
  have HAO := Lib.hid hat.one
  clear hb2 hat hlast
  have HNW := Lib.hid (box_new w2 Z 33)
  have hbb := box_below w2 Z A 33
  have HLK3 := Lib.hid (HLK2.out.next hbb)
  have HR3 := Lib.hid (box_row w2 Z A 33)
  have HAT3 := Lib.hid (HAT.out.below hbb)
  clear hbb
  go_upto_region 2 with ((with_reducible refine wpStoreAt 7 ?_); refine wpList_store_row rfl 33 _ _ rfl w2.heap.size A rfl rfl 33 Z HNW.out (infoBlk _ HAS.out) (HZZ.out.trans HAS.out.symm) HAO.out ?_)
  generalize (w2.alloc (.cells Z 33)).setRow w2.heap.size A = w3 at *
  try simp only [Act.put, List.setIfInBounds_toArray, List.set_cons_zero, List.set_cons_succ]
  have hds : ds.length = 0 := by rw [List.getLast?_eq_none_iff.1 HL.out]; rfl
  have hl0 : decide ((0 : Int) < (ds.length : Int)) = false := decide_eq_false (by omega)
  have hl00 : decide (0 < ds.length) = false := decide_eq_false (by omega)
  clear hds
  have keep : Hid (∀ w', Below w3.heap.size w3 w' → w'.rangeAt w.heap.size 0 RC.toList) := fun w' hb => row_rangeC (HLK3.out.next hb).r0
  have hkc : Hid (∀ w', Below w3.heap.size w3 w' → w'.cell? ⟨w.heap.size, 2, none⟩ = some (.slice p2 ds.length c2) ∧ w'.cell? ⟨w.heap.size, 1, none⟩ = some (.int .u32 (height : Int))) := fun w' hb => by
    have := (HLK3.out.next hb).r0
    exact ⟨by rw [cell_of_row _ _ _ _ _ _ this, HRC.out]; rfl, by rw [cell_of_row _ _ _ _ _ _ this, HRC.out]; rfl⟩
  refine wp_region_eager [(0, true), (1, true), (2, true), (3, true), (4, true), (5, true), (6, true), (7, true), (8, true), (9, true), (10, true), (11, true), (12, true), (13, true), (14, true), (15, true), (16, true), (17, true), (18, false), (19, true), (20, true), (21, true), (22, true), (23, true), (25, true), (26, true), (24, false), (27, false), (28, true), (29, true), (30, true), (31, true), (33, true), (34, true), (32, false), (35, true), (36, true), (37, true), (38, true), (40, true), (39, false), (41, false), (42, true), (43, true)] (by kernel_rfl) (by kernel_rfl) (eagerOpen rfl ?_)
  have hy0 : Below w3.heap.size w3 w3.drew := below_drew1 _ _
  repeat (first
    | ((with_reducible refine eagerGd ?_); (with_reducible refine wpEager_skip ?_ ?_); (· rfl); (try simp only [Act.put, List.setIfInBounds_toArray, List.set_cons_zero, List.set_cons_succ]); (try refine eagerOpen rfl ?_))
    | ((with_reducible refine eagerGd ?_); (with_reducible refine wpEager_off ?_ ?_); (· rfl); (try simp only [Act.put, List.setIfInBounds_toArray, List.set_cons_zero, List.set_cons_succ]); (try refine eagerOpen rfl ?_))
    | ((with_reducible refine eagerAt 64 ?_); refine wpEager_load (by rfl) 41 _ rfl w.heap.size 0 rfl RC _ (fun w' hb => (keep.out w' hb)) Try.underlying41 rfl (infoRC _ HRS.out) ?_; (try simp only [Act.put, List.setIfInBounds_toArray, List.set_cons_zero, List.set_cons_succ]); (try refine eagerOpen rfl ?_))
    | (first | (apply wpEager_take; (· rfl); (· (intro w' hb'; go_simp; try with_reducible rfl)); (try simp only [Act.put, List.setIfInBounds_toArray, List.set_cons_zero, List.set_cons_succ]); (try refine eagerOpen rfl ?_)) | (refine wpEager_skip (by rfl) ?_; (try simp only [Act.put, List.setIfInBounds_toArray, List.set_cons_zero, List.set_cons_succ]); (try refine eagerOpen rfl ?_)) | (refine wpEager_off (by rfl) ?_; (try simp only [Act.put, List.setIfInBounds_toArray, List.set_cons_zero, List.set_cons_succ]); (try refine eagerOpen rfl ?_)))
    | (apply wpEager_take; (· rfl); (· (intro w' hb'; have hk' := (hkc.out) w' hb'; go_split_ands; go_simp; try with_reducible rfl)); (try simp only [Act.put, List.setIfInBounds_toArray, List.set_cons_zero, List.set_cons_succ]); (try refine eagerOpen rfl ?_)))
  (refine wpEager_op (by rfl) (fun K hK => ?_); go_simp; (refine (window_any _ (H.out.below (HLK3.out.next hy0).below)).mono ?_; rintro e v2 ⟨p3, c3, rows3, rfl, hown, hx2⟩; have HOW := Lib.hid hown; have hy2 := hy0.trans (hx2.mono hy0.size); clear hx2 hown); refine Shut.out hK _ _ (by assumption) ?_; clear hK K; (try simp only [Act.put, List.setIfInBounds_toArray, List.set_cons_zero, List.set_cons_succ]); (try refine eagerOpen rfl ?_))
  repeat (first
    | ((with_reducible refine eagerGd ?_); (with_reducible refine wpEager_skip ?_ ?_); (· rfl); (try simp only [Act.put, List.setIfInBounds_toArray, List.set_cons_zero, List.set_cons_succ]); (try refine eagerOpen rfl ?_))
    | ((with_reducible refine eagerGd ?_); (with_reducible refine wpEager_off ?_ ?_); (· rfl); (try simp only [Act.put, List.setIfInBounds_toArray, List.set_cons_zero, List.set_cons_succ]); (try refine eagerOpen rfl ?_))
    | ((with_reducible refine eagerAt 64 ?_); refine wpEager_load (by rfl) 41 _ rfl w.heap.size 0 rfl RC _ (fun w' hb => (keep.out w' hb)) Try.underlying41 rfl (infoRC _ HRS.out) ?_; (try simp only [Act.put, List.setIfInBounds_toArray, List.set_cons_zero, List.set_cons_succ]); (try refine eagerOpen rfl ?_))
    | (first | (apply wpEager_take; (· rfl); (· (intro w' hb'; go_simp; try with_reducible rfl)); (try simp only [Act.put, List.setIfInBounds_toArray, List.set_cons_zero, List.set_cons_succ]); (try refine eagerOpen rfl ?_)) | (refine wpEager_skip (by rfl) ?_; (try simp only [Act.put, List.setIfInBounds_toArray, List.set_cons_zero, List.set_cons_succ]); (try refine eagerOpen rfl ?_)) | (refine wpEager_off (by rfl) ?_; (try simp only [Act.put, List.setIfInBounds_toArray, List.set_cons_zero, List.set_cons_succ]); (try refine eagerOpen rfl ?_)))
    | (apply wpEager_take; (· rfl); (· (intro w' hb'; have hk' := (hkc.out) w' hb'; go_split_ands; go_simp; try with_reducible rfl)); (try simp only [Act.put, List.setIfInBounds_toArray, List.set_cons_zero, List.set_cons_succ]); (try refine eagerOpen rfl ?_)))
  (refine wpEager_op (by rfl) (fun K hK => ?_); go_simp; (refine (rWin_same ds p3 p2 _ _ c3 c2 rows3 rows2 _ HOW.out.bks (HW.out.below (HLK3.out.next hy2).below)).mono ?_; rintro e v3 ⟨rfl, hx3⟩; have hy3 := hy2.trans (hx3.mono hy2.size); clear hx3); refine Shut.out hK _ _ (by assumption) ?_; clear hK K; (try simp only [Act.put, List.setIfInBounds_toArray, List.set_cons_zero, List.set_cons_succ]); (try refine eagerOpen rfl ?_))
  repeat (first
    | ((with_reducible refine eagerGd ?_); (with_reducible refine wpEager_skip ?_ ?_); (· rfl); (try simp only [Act.put, List.setIfInBounds_toArray, List.set_cons_zero, List.set_cons_succ]); (try refine eagerOpen rfl ?_))
    | ((with_reducible refine eagerGd ?_); (with_reducible refine wpEager_off ?_ ?_); (· rfl); (try simp only [Act.put, List.setIfInBounds_toArray, List.set_cons_zero, List.set_cons_succ]); (try refine eagerOpen rfl ?_))
    | ((with_reducible refine eagerAt 64 ?_); refine wpEager_load (by rfl) 41 _ rfl w.heap.size 0 rfl RC _ (fun w' hb => (keep.out w' hb)) Try.underlying41 rfl (infoRC _ HRS.out) ?_; (try simp only [Act.put, List.setIfInBounds_toArray, List.set_cons_zero, List.set_cons_succ]); (try refine eagerOpen rfl ?_))
    | (first | (apply wpEager_take; (· rfl); (· (intro w' hb'; go_simp; try with_reducible rfl)); (try simp only [Act.put, List.setIfInBounds_toArray, List.set_cons_zero, List.set_cons_succ]); (try refine eagerOpen rfl ?_)) | (refine wpEager_skip (by rfl) ?_; (try simp only [Act.put, List.setIfInBounds_toArray, List.set_cons_zero, List.set_cons_succ]); (try refine eagerOpen rfl ?_)) | (refine wpEager_off (by rfl) ?_; (try simp only [Act.put, List.setIfInBounds_toArray, List.set_cons_zero, List.set_cons_succ]); (try refine eagerOpen rfl ?_)))
    | (apply wpEager_take; (· rfl); (· (intro w' hb'; have hk' := (hkc.out) w' hb'; go_split_ands; go_simp; try with_reducible rfl)); (try simp only [Act.put, List.setIfInBounds_toArray, List.set_cons_zero, List.set_cons_succ]); (try refine eagerOpen rfl ?_)))
  (refine wpEager_op (by rfl) (fun K hK => ?_); go_simp; (refine (height_any _ (H.out.below (HLK3.out.next hy3).below)).mono ?_; rintro e v4 ⟨rfl, hx4⟩; obtain rfl : v3 = v4 := hx4.symm); refine Shut.out hK _ _ (by assumption) ?_; clear hK K; (try simp only [Act.put, List.setIfInBounds_toArray, List.set_cons_zero, List.set_cons_succ]); (try refine eagerOpen rfl ?_))
  repeat (first
    | ((with_reducible refine eagerGd ?_); (with_reducible refine wpEager_skip ?_ ?_); (· rfl); (try simp only [Act.put, List.setIfInBounds_toArray, List.set_cons_zero, List.set_cons_succ]); (try refine eagerOpen rfl ?_))
    | ((with_reducible refine eagerGd ?_); (with_reducible refine wpEager_off ?_ ?_); (· rfl); (try simp only [Act.put, List.setIfInBounds_toArray, List.set_cons_zero, List.set_cons_succ]); (try refine eagerOpen rfl ?_))
    | ((with_reducible refine eagerAt 64 ?_); refine wpEager_load (by rfl) 41 _ rfl w.heap.size 0 rfl RC _ (fun w' hb => (keep.out w' hb)) Try.underlying41 rfl (infoRC _ HRS.out) ?_; (try simp only [Act.put, List.setIfInBounds_toArray, List.set_cons_zero, List.set_cons_succ]); (try refine eagerOpen rfl ?_))
    | (first | (apply wpEager_take; (· rfl); (· (intro w' hb'; go_simp; try with_reducible rfl)); (try simp only [Act.put, List.setIfInBounds_toArray, List.set_cons_zero, List.set_cons_succ]); (try refine eagerOpen rfl ?_)) | (refine wpEager_skip (by rfl) ?_; (try simp only [Act.put, List.setIfInBounds_toArray, List.set_cons_zero, List.set_cons_succ]); (try refine eagerOpen rfl ?_)) | (refine wpEager_off (by rfl) ?_; (try simp only [Act.put, List.setIfInBounds_toArray, List.set_cons_zero, List.set_cons_succ]); (try refine eagerOpen rfl ?_)))
    | (apply wpEager_take; (· rfl); (· (intro w' hb'; have hk' := (hkc.out) w' hb'; go_split_ands; go_simp; try with_reducible rfl)); (try simp only [Act.put, List.setIfInBounds_toArray, List.set_cons_zero, List.set_cons_succ]); (try refine eagerOpen rfl ?_)))
  (refine wpEager_op (by rfl) (fun K hK => ?_); go_simp; (refine (low_any _ (H.out.below (HLK3.out.next hy3).below)).mono ?_; rintro e v5 ⟨rfl, hx5⟩; have hy5 := hy3.trans (hx5.mono hy3.size); clear hx5); refine Shut.out hK _ _ (by assumption) ?_; clear hK K; (try simp only [Act.put, List.setIfInBounds_toArray, List.set_cons_zero, List.set_cons_succ]); (try refine eagerOpen rfl ?_))
  repeat (first
    | ((with_reducible refine eagerGd ?_); (with_reducible refine wpEager_skip ?_ ?_); (· rfl); (try simp only [Act.put, List.setIfInBounds_toArray, List.set_cons_zero, List.set_cons_succ]); (try refine eagerOpen rfl ?_))
    | ((with_reducible refine eagerGd ?_); (with_reducible refine wpEager_off ?_ ?_); (· rfl); (try simp only [Act.put, List.setIfInBounds_toArray, List.set_cons_zero, List.set_cons_succ]); (try refine eagerOpen rfl ?_))
    | ((with_reducible refine eagerAt 64 ?_); refine wpEager_load (by rfl) 41 _ rfl w.heap.size 0 rfl RC _ (fun w' hb => (keep.out w' hb)) Try.underlying41 rfl (infoRC _ HRS.out) ?_; (try simp only [Act.put, List.setIfInBounds_toArray, List.set_cons_zero, List.set_cons_succ]); (try refine eagerOpen rfl ?_))
    | (first | (apply wpEager_take; (· rfl); (· (intro w' hb'; go_simp; try with_reducible rfl)); (try simp only [Act.put, List.setIfInBounds_toArray, List.set_cons_zero, List.set_cons_succ]); (try refine eagerOpen rfl ?_)) | (refine wpEager_skip (by rfl) ?_; (try simp only [Act.put, List.setIfInBounds_toArray, List.set_cons_zero, List.set_cons_succ]); (try refine eagerOpen rfl ?_)) | (refine wpEager_off (by rfl) ?_; (try simp only [Act.put, List.setIfInBounds_toArray, List.set_cons_zero, List.set_cons_succ]); (try refine eagerOpen rfl ?_)))
    | (apply wpEager_take; (· rfl); (· (intro w' hb'; have hk' := (hkc.out) w' hb'; go_split_ands; go_simp; try with_reducible rfl)); (try simp only [Act.put, List.setIfInBounds_toArray, List.set_cons_zero, List.set_cons_succ]); (try refine eagerOpen rfl ?_)))
  (refine wpEager_op (by rfl) (fun K hK => ?_); go_simp; (have hrl := rLow_any (depth : Int) height hmany.2 ds (by omega) p2 c2 v5; rw [← HRC.out] at hrl; refine hrl.mono ?_; clear hrl; rintro e v6 ⟨rfl, hx6⟩; have hy6 := hy5.trans (hx6.mono hy5.size); clear hx6); refine Shut.out hK _ _ (by assumption) ?_; clear hK K; (try simp only [Act.put, List.setIfInBounds_toArray, List.set_cons_zero, List.set_cons_succ]); (try refine eagerOpen rfl ?_))
  repeat (first
    | ((with_reducible refine eagerGd ?_); (with_reducible refine wpEager_skip ?_ ?_); (· rfl); (try simp only [Act.put, List.setIfInBounds_toArray, List.set_cons_zero, List.set_cons_succ]); (try refine eagerOpen rfl ?_))
    | ((with_reducible refine eagerGd ?_); (with_reducible refine wpEager_off ?_ ?_); (· rfl); (try simp only [Act.put, List.setIfInBounds_toArray, List.set_cons_zero, List.set_cons_succ]); (try refine eagerOpen rfl ?_))
    | ((with_reducible refine eagerAt 64 ?_); refine wpEager_load (by rfl) 41 _ rfl w.heap.size 0 rfl RC _ (fun w' hb => (keep.out w' hb)) Try.underlying41 rfl (infoRC _ HRS.out) ?_; (try simp only [Act.put, List.setIfInBounds_toArray, List.set_cons_zero, List.set_cons_succ]); (try refine eagerOpen rfl ?_))
    | (first | (apply wpEager_take; (· rfl); (· (intro w' hb'; go_simp; try with_reducible rfl)); (try simp only [Act.put, List.setIfInBounds_toArray, List.set_cons_zero, List.set_cons_succ]); (try refine eagerOpen rfl ?_)) | (refine wpEager_skip (by rfl) ?_; (try simp only [Act.put, List.setIfInBounds_toArray, List.set_cons_zero, List.set_cons_succ]); (try refine eagerOpen rfl ?_)) | (refine wpEager_off (by rfl) ?_; (try simp only [Act.put, List.setIfInBounds_toArray, List.set_cons_zero, List.set_cons_succ]); (try refine eagerOpen rfl ?_)))
    | (apply wpEager_take; (· rfl); (· (intro w' hb'; have hk' := (hkc.out) w' hb'; go_split_ands; go_simp; try with_reducible rfl)); (try simp only [Act.put, List.setIfInBounds_toArray, List.set_cons_zero, List.set_cons_succ]); (try refine eagerOpen rfl ?_)))
  refine eagerEnd ?_
  have HLK4 := Lib.hid (HLK3.out.next hy6)
  clear hy0 hy2 hy3 hy5 hy6 keep hkc HOW HR3 HLK3 HAT3 HNW HAS HAO HAT
  clear hx4 v2 v3 v5 w3
  have HPB4 := Lib.hid ((HM.out.below HLK4.out.below).parts HLK4.out.r1)
  have HHS : Hid ((idA b.hash).toList.length = 32) := by show _ = _; rw [Array.length_toList, idA_size, HM.out.hlen]
  go_wp2_with ((with_reducible refine wpAt 71 ?_); refine wpList_load_mid rfl 30 _ rfl (w.heap.size + 1) 0 rfl (idA b.hash).toList _ HPB4.out.1 Try.underlying30 rfl (infoI _ HHS.out) ?_)
  refine (find_any _ (H.out.below HLK4.out.below) b.hash HM.out.hlen).mono ?_
  rintro e w5 ⟨rfl, hb5⟩
  have HLK5 := Lib.hid (HLK4.out.next hb5)
  have HPB5 := Lib.hid ((HM.out.below HLK5.out.below).parts HLK5.out.r1)
  clear hb5
  go_wp2_with (first
    | ((with_reducible refine wpAt 76 ?_); refine wpList_load_row rfl 41 _ rfl w.heap.size rfl 41 RC (0, 0) _ HLK5.out.r0 Try.underlying41 rfl (infoRC _ HRS.out) ?_)
    | ((with_reducible refine wpAt 78 ?_); refine wpList_load_mid rfl 30 _ rfl (w.heap.size + 1) 0 rfl (idA b.hash).toList _ HPB5.out.1 Try.underlying30 rfl (infoI _ HHS.out) ?_))
  have hrf := rFind_any (depth : Int) height hmany.2 ds (by omega) _ c2 rows2 b.hash HM.out.hlen _ (HW.out.below HLK5.out.below)
  rw [← HRC.out] at hrf
  refine hrf.mono ?_
  rintro e w6 ⟨rfl, hb6⟩
  clear hrf
  have HLK6 := Lib.hid (HLK5.out.next hb6)
  clear hb6
  generalize (findR ds height b.hash).1 = fh at *
  generalize (findR ds height b.hash).2 = fb at *
  have HKM : Hid (∀ y : Grown w6, y.v.rangeAt (w.heap.size + 1) 0 M.toList) := fun y => range_grown (row_rangeC HLK6.out.r1) y
  have HKR : Hid (∀ y : Grown w6, y.v.rangeAt w.heap.size 0 RC.toList) := fun y => range_grown (row_rangeC HLK6.out.r0) y
  have HMAYR : Hid (∀ y : Grown w6, Calls Try.prog 17 #[.agg RC, .agg M] y.v fun e w' => e = .returned (.int .i64 (mayE ds height b)) ∧ Below y.v.heap.size y.v w') := fun y => by
    have := rMay_any (depth : Int) height ds _ c2 rows2 b M q n cc y.v (HW.out.below (HLK6.out.next (Grown.b _)).below) (HM.out.below (HLK6.out.next (Grown.b _)).below)
    rwa [← HRC.out] at this
  have HM0 : Hid (∀ y : Grown w6, Calls Try.prog 38 #[.pointer (some ⟨cb, 0, none⟩), .agg M] y.v fun e w' => e = .returned (.int .i64 (mayE ds height b)) ∧ Below y.v.heap.size y.v w') := fun y => may_any _ (H.out.below (HLK6.out.next (Grown.b _)).below) M b q n cc (HM.out.below (HLK6.out.next (Grown.b _)).below)
  generalize mayE ds height b = me at *
  go_wp2_with fail
  refine wp_region_grow (by kernel_rfl) (by kernel_rfl) ?_
  repeat (first
    | ((with_reducible refine wpQuietGd ?_); (with_reducible refine wpQuiet_skip ?_ ?_); (· rfl); simp only [Act.put, List.setIfInBounds_toArray, List.set_cons_zero, List.set_cons_succ])
    | ((with_reducible refine wpQuietAt 92 ?_); refine wpQuiet_load rfl 33 _ rfl (w.heap.size + 1) 0 rfl M _ HKM.out Try.underlying33 rfl (infoBlk _ HMS.out) ?_)
    | ((with_reducible refine wpQuietAt 95 ?_); refine wpQuiet_load rfl 33 _ rfl (w.heap.size + 1) 0 rfl M _ HKM.out Try.underlying33 rfl (infoBlk _ HMS.out) ?_)
    | ((with_reducible refine wpQuietAt 94 ?_); refine wpQuiet_load rfl 41 _ rfl w.heap.size 0 rfl RC _ HKR.out Try.underlying41 rfl (infoRC _ HRS.out) ?_)
    | quiet_step ((first | (go_at_call 38; exact Calls.grow_of (HM0.out _)) | (go_at_call 17; exact Calls.grow_of (HMAYR.out _)))))
  refine wpQuiet_nil ?_
  intro w7 hb7
  have HLK7 := Lib.hid (HLK6.out.next hb7)
  clear hb7 HKM HKR HM0 HMAYR
  have hil := HM.out.ids.sl.le
  have him := HM.out.ids.sl.max
  have HNB := Lib.hid (Below.allocs w7 (.cells (idA zeros) 30))
  have HLKA := Lib.hid (HLK7.out.next HNB.out)
  have hc64 := ((HM.out.below HLKA.out.below).parts HLKA.out.r1).2.2
  have HOW7 : Hid ((w7.alloc (.cells (idA zeros) 30)).ownsRow w7.heap.size 30 32 (.slice (some ⟨w7.heap.size, 0, none⟩) 1 1) 1 (bytesV zeros)) :=
    ⟨by rw [bytesV_length]; rfl, .inr ⟨w7.heap.size, 1, idA zeros, rfl, Nat.le_refl _, heap_alloc_last _ _, Nat.le_refl _, by decide, by rw [zeros_size], by rw [idA_toList]; rfl⟩⟩
  have HSL7 : Hid (Sl (w7.alloc (.cells (idA zeros) 30)) q n cc 32 (b.txs.flatMap bytesV)) := (HM.out.ids.below (HLK7.out.next HNB.out).below).sl
  have HON : Hid (∀ u ∈ b.txs.flatMap bytesV, u.oneCell' = true) := fun u hu => by
    obtain ⟨x, _, hx⟩ := List.mem_flatMap.1 hu
    exact bytesV_one _ u hx
  have HKN : Hid (1 + n ≤ 9223372036854775807 ∧ (1 + n) * 32 ≤ 140737488355328) := ⟨by omega, by omega⟩
  go_wp2_with (first
    | ((with_reducible refine wpAt 99 ?_); refine wpList_build rfl 30 _ rfl [] rfl (idA zeros) (by kernel_rfl) ?_)
    | ((with_reducible refine wpAt 100 ?_); refine wpList_buildOne rfl 31 30 _ rfl (idA zeros) rfl 32 Try.underlying31 (by kernel_rfl) (by omega) (by omega) zeros_size ?_)
    | ((with_reducible refine wpAt 103 ?_); refine wpList_append_nx rfl _ _ 31 rfl (base := w7.heap.size) Try.underlying31 infoIds (by rw [show (Value.agg (idA zeros)).cells = idA zeros from rfl]; exact zeros_size) (by omega) rfl HOW7.out rfl HSL7.out HON.out HKN.out HNB.out.size ?_))
  intro p8 c8 w8 ho8 hg8 _ _
  have hT8 : Turns (fun i => (Value.slice (some ⟨w7.heap.size, 0, none⟩) 1 1).ownBlock = some i) (w7.alloc (.cells (idA zeros) 30)) w8 := Turns.grown hg8 (S := fun i => (Value.slice (some ⟨w7.heap.size, 0, none⟩) 1 1).ownBlock = some i) (fun k hk => hk)
  have hb8 : Below w7.heap.size w7 w8 := HNB.out.trans (hT8.below HNB.out.size (fun i hi => by simp [Value.ownBlock] at hi; omega))
  have HLK8 := Lib.hid (HLK7.out.next hb8)
  have HIS8 : Hid (Is w8 p8 (1 + n) c8 32 (zeros :: b.txs)) := by
    obtain ⟨p', c', hv, hs⟩ := own_sl ho8
    obtain ⟨rfl, -, rfl⟩ := Value.slice.inj hv
    refine ⟨?_, ?_, by rw [List.length_cons, HM.out.ids.count]; omega⟩
    · rw [List.flatMap_cons]; exact hs
    · intro x hx
      rcases List.mem_cons.1 hx with rfl | hx
      · rfl
      · exact HM.out.ids.each x hx
  clear ho8 hg8 hT8 hb8 HOW7 HSL7 HON HKN HNB HLKA hc64
  generalize hzs : zeros :: b.txs = zs at *
  have HZL : Hid (zs.length = 1 + n) := HIS8.out.count
  have h8l := HIS8.out.sl.le
  have h8m := HIS8.out.sl.max
  clear hzs hil him
  generalize hN : 1 + n = N at *
  have hNN : N ≤ 101 := by omega
  clear hN
  go_wp2_with fail
  go_loopw [105] (fun j wr => ∃ k : Nat, k ≤ N ∧ j = .int .i64 k ∧ Below w8.heap.size w8 wr) (fun j _ => N - (intOf j).toNat)
  case atStart => exact ⟨0, by omega, rfl, Below.refl _ _⟩
  case round =>
    obtain ⟨k, hk, rfl, hbw⟩ := hrel
    have HLKR := Lib.hid (HLK8.out.next hbw)
    have HBW := Lib.hid hbw
    by_cases hlt : k < N
    · have hd : decide ((k : Int) < (N : Int)) = true := decide_eq_true (by omega)
      obtain ⟨eb, eo, rfl⟩ := HIS8.out.sl.addr (by omega) (by omega)
      have HRX := Lib.hid ((HIS8.out.below hbw).range (by omega) k (by rw [HZL.out]; exact hlt))
      have HXL : Hid ((zs[k]'(by rw [HZL.out]; exact hlt)).length = 32) := HIS8.out.each _ (List.getElem_mem _)
      clear hbw
      generalize (zs[k]'(by rw [HZL.out]; exact hlt)) = x at *
      have HXS : Hid ((idA x).size = 32) := by show _ = _; rw [idA_size, HXL.out]
      have HXA : Hid ((idA x).toList.length = 32) := by show _ = _; rw [Array.length_toList]; exact HXS.out
      have HXO := Lib.hid (idA_one x)
      have HNX := Lib.hid (box_new wr (idA zeros) 30)
      have hbx := box_below wr (idA zeros) (idA x) 30
      have HLK9 := Lib.hid (HLKR.out.next hbx)
      have HR9 := Lib.hid (box_row wr (idA zeros) (idA x) 30)
      have HB9 := Lib.hid (HBW.out.trans (hbx.mono HBW.out.size))
      clear hbx
      have hzi := zeroI
      go_upto_region 11 with (first
        | ((with_reducible refine wpAt 108 ?_); refine wpList_load_mid rfl 30 _ rfl eb (eo + k * 32) rfl (idA x).toList _ HRX.out Try.underlying30 rfl (infoI _ HXA.out) ?_)
        | ((with_reducible refine wpStoreAt 14 ?_); refine wpList_store_row rfl 30 _ _ rfl wr.heap.size (idA x) rfl rfl 30 (idA zeros) HNX.out (infoI _ HXS.out) (zeros_size.trans HXS.out.symm) HXO.out ?_))
      generalize (wr.alloc (.cells (idA zeros) 30)).setRow wr.heap.size (idA x) = w9 at *
      try simp only [Act.put, List.setIfInBounds_toArray, List.set_cons_zero, List.set_cons_succ]
      clear hzi
      go_wp2_with ((with_reducible refine wpAt 111 ?_); refine wpList_load_row_g rfl 30 _ rfl wr.heap.size rfl 30 (idA x) (0, 0) _ HR9.out Try.underlying30 rfl (infoI _ HXS.out) ?_)
      refine (chHas_any _ (H.out.below HLK9.out.below) x HXL.out).mono ?_
      rintro e w10 ⟨rfl, hb10⟩
      have HLK10 := Lib.hid (HLK9.out.next hb10)
      have HR10 := Lib.hid (Below.keepOld hb10 HR9.out)
      have HB10 := Lib.hid (HB9.out.trans (hb10.mono HB9.out.size))
      clear hb10
      go_wp2_with (first
        | ((with_reducible refine wpAt 116 ?_); refine wpList_load_row_g rfl 41 _ rfl w.heap.size rfl 41 RC (0, 0) _ HLK10.out.r0 Try.underlying41 rfl (infoRC _ HRS.out) ?_)
        | ((with_reducible refine wpAt 117 ?_); refine wpList_load_row_g rfl 30 _ rfl wr.heap.size rfl 30 (idA x) (0, 0) _ HR10.out Try.underlying30 rfl (infoI _ HXS.out) ?_))
      have hrh := rChHas_any (depth : Int) height hmany.2 ds (by omega) (fun d hd => by have := HFEW.out d hd; omega) _ c2 rows2 x HXL.out _ (HW.out.below HLK10.out.below)
      rw [← HRC.out] at hrh
      refine hrh.mono ?_
      rintro e w11 ⟨rfl, hb11⟩
      have HLK11 := Lib.hid (HLK10.out.next hb11)
      have HR11 := Lib.hid (Below.keepOld hb11 HR10.out)
      have HB11 := Lib.hid (HB10.out.trans (hb11.mono HB10.out.size))
      clear hb11 hrh
      generalize (hasV ds height x).1 = vh at *
      generalize (hasV ds height x).2 = vb at *
      have HXT : Hid ((idA (x.take 16)).size = 16) := by show _ = _; rw [idA_size, List.length_take, HXL.out]; rfl
      have HT16 : Hid ((x.take 16).length = 16) := by show _ = _; rw [List.length_take, HXL.out]; rfl
      have keep : Hid (∀ w', Below w11.heap.size w11 w' → w'.rangeAt w.heap.size 0 RC.toList ∧ w'.rangeAt wr.heap.size 0 (idA (x.take 16)).toList) := fun w' hb =>
        ⟨row_rangeC (HLK11.out.next hb).r0, range_take16 (Below.keepOld hb HR11.out)⟩
      go_wp2_with fail
      refine wp_region_eager [(0, true), (1, true), (2, true), (3, true), (4, true), (5, true), (6, true), (7, true), (8, true), (9, true), (10, true), (11, true), (12, true), (14, true), (15, true), (16, true), (17, true), (13, false), (18, false), (19, false), (20, true), (21, true)] (by kernel_rfl) (by kernel_rfl) (eagerOpen rfl ?_)
      have hy0 : Below w11.heap.size w11 w11.drew := below_drew1 _ _
      repeat (first
        | ((with_reducible refine eagerAt 132 ?_); refine wpEager_take (by rfl) (v := .pointer (some ⟨wr.heap.size, 0, none⟩)) (fun w' hb' => by go_simp; rw [run_arrayAt _ _ _ 16 _ _ _ Try.underlying52 (by omega)]; rfl) ?_; (try simp only [Act.put, List.setIfInBounds_toArray, List.set_cons_zero, List.set_cons_succ]); (try refine eagerOpen rfl ?_))
        | ((with_reducible refine eagerAt 137 ?_); refine wpEager_take (by rfl) (v := .pointer (some ⟨wr.heap.size, 0, none⟩)) (fun w' hb' => by go_simp; rw [run_arrayAt _ _ _ 16 _ _ _ Try.underlying52 (by omega)]; rfl) ?_; (try simp only [Act.put, List.setIfInBounds_toArray, List.set_cons_zero, List.set_cons_succ]); (try refine eagerOpen rfl ?_))
        | ((with_reducible refine eagerAt 133 ?_); refine wpEager_load (by rfl) 52 _ rfl wr.heap.size 0 rfl (idA (x.take 16)) _ (fun w' hb => (keep.out w' hb).2) Try.underlying52 rfl (infoH _ HXT.out) ?_; (try simp only [Act.put, List.setIfInBounds_toArray, List.set_cons_zero, List.set_cons_succ]); (try refine eagerOpen rfl ?_))
        | ((with_reducible refine eagerAt 138 ?_); refine wpEager_load (by rfl) 52 _ rfl wr.heap.size 0 rfl (idA (x.take 16)) _ (fun w' hb => (keep.out w' hb).2) Try.underlying52 rfl (infoH _ HXT.out) ?_; (try simp only [Act.put, List.setIfInBounds_toArray, List.set_cons_zero, List.set_cons_succ]); (try refine eagerOpen rfl ?_))
        | ((with_reducible refine eagerAt 135 ?_); refine wpEager_load (by rfl) 41 _ rfl w.heap.size 0 rfl RC _ (fun w' hb => (keep.out w' hb).1) Try.underlying41 rfl (infoRC _ HRS.out) ?_; (try simp only [Act.put, List.setIfInBounds_toArray, List.set_cons_zero, List.set_cons_succ]); (try refine eagerOpen rfl ?_))
        | (first | (apply wpEager_take; (· rfl); (· (intro w' hb'; go_simp; try with_reducible rfl)); (try simp only [Act.put, List.setIfInBounds_toArray, List.set_cons_zero, List.set_cons_succ]); (try refine eagerOpen rfl ?_)) | (refine wpEager_skip (by rfl) ?_; (try simp only [Act.put, List.setIfInBounds_toArray, List.set_cons_zero, List.set_cons_succ]); (try refine eagerOpen rfl ?_)) | (refine wpEager_off (by rfl) ?_; (try simp only [Act.put, List.setIfInBounds_toArray, List.set_cons_zero, List.set_cons_succ]); (try refine eagerOpen rfl ?_))))
      (refine wpEager_op (by rfl) (fun K hK => ?_); go_simp; (refine (chHinted_any _ (H.out.below (HLK11.out.next hy0).below) HFEW.out (x.take 16) HT16.out).mono ?_; rintro e v1 ⟨pa, ca, rfl, hia, _, hx1⟩; have hy1 := hy0.trans (hx1.mono hy0.size); have HIA := Lib.hid hia; clear hx1 hia); refine Shut.out hK _ _ (by assumption) ?_; clear hK K; (try simp only [Act.put, List.setIfInBounds_toArray, List.set_cons_zero, List.set_cons_succ]); (try refine eagerOpen rfl ?_))
      repeat (first
        | ((with_reducible refine eagerAt 132 ?_); refine wpEager_take (by rfl) (v := .pointer (some ⟨wr.heap.size, 0, none⟩)) (fun w' hb' => by go_simp; rw [run_arrayAt _ _ _ 16 _ _ _ Try.underlying52 (by omega)]; rfl) ?_; (try simp only [Act.put, List.setIfInBounds_toArray, List.set_cons_zero, List.set_cons_succ]); (try refine eagerOpen rfl ?_))
        | ((with_reducible refine eagerAt 137 ?_); refine wpEager_take (by rfl) (v := .pointer (some ⟨wr.heap.size, 0, none⟩)) (fun w' hb' => by go_simp; rw [run_arrayAt _ _ _ 16 _ _ _ Try.underlying52 (by omega)]; rfl) ?_; (try simp only [Act.put, List.setIfInBounds_toArray, List.set_cons_zero, List.set_cons_succ]); (try refine eagerOpen rfl ?_))
        | ((with_reducible refine eagerAt 133 ?_); refine wpEager_load (by rfl) 52 _ rfl wr.heap.size 0 rfl (idA (x.take 16)) _ (fun w' hb => (keep.out w' hb).2) Try.underlying52 rfl (infoH _ HXT.out) ?_; (try simp only [Act.put, List.setIfInBounds_toArray, List.set_cons_zero, List.set_cons_succ]); (try refine eagerOpen rfl ?_))
        | ((with_reducible refine eagerAt 138 ?_); refine wpEager_load (by rfl) 52 _ rfl wr.heap.size 0 rfl (idA (x.take 16)) _ (fun w' hb => (keep.out w' hb).2) Try.underlying52 rfl (infoH _ HXT.out) ?_; (try simp only [Act.put, List.setIfInBounds_toArray, List.set_cons_zero, List.set_cons_succ]); (try refine eagerOpen rfl ?_))
        | ((with_reducible refine eagerAt 135 ?_); refine wpEager_load (by rfl) 41 _ rfl w.heap.size 0 rfl RC _ (fun w' hb => (keep.out w' hb).1) Try.underlying41 rfl (infoRC _ HRS.out) ?_; (try simp only [Act.put, List.setIfInBounds_toArray, List.set_cons_zero, List.set_cons_succ]); (try refine eagerOpen rfl ?_))
        | (first | (apply wpEager_take; (· rfl); (· (intro w' hb'; go_simp; try with_reducible rfl)); (try simp only [Act.put, List.setIfInBounds_toArray, List.set_cons_zero, List.set_cons_succ]); (try refine eagerOpen rfl ?_)) | (refine wpEager_skip (by rfl) ?_; (try simp only [Act.put, List.setIfInBounds_toArray, List.set_cons_zero, List.set_cons_succ]); (try refine eagerOpen rfl ?_)) | (refine wpEager_off (by rfl) ?_; (try simp only [Act.put, List.setIfInBounds_toArray, List.set_cons_zero, List.set_cons_succ]); (try refine eagerOpen rfl ?_))))
      (refine wpEager_op (by rfl) (fun K hK => ?_); go_simp; (have hrr := rChHinted_any (depth : Int) height ds (by omega) HFEW.out _ c2 rows2 (x.take 16) HT16.out v1 (HW.out.below (HLK11.out.next hy1).below); rw [← HRC.out, rH_eq (by omega) hmany.2 HND.out _ (Nat.le_refl _)] at hrr; refine hrr.mono ?_; clear hrr; rintro e v2 ⟨pb, cb2, rfl, hib, _, hx2⟩; have hy2 := hy1.trans (hx2.mono hy1.size); have HIB := Lib.hid hib; have HJA := Lib.hid (HIA.out.below hx2); clear hx2 hib); refine Shut.out hK _ _ (by assumption) ?_; clear hK K; (try simp only [Act.put, List.setIfInBounds_toArray, List.set_cons_zero, List.set_cons_succ]); (try refine eagerOpen rfl ?_))
      repeat (first
        | ((with_reducible refine eagerAt 132 ?_); refine wpEager_take (by rfl) (v := .pointer (some ⟨wr.heap.size, 0, none⟩)) (fun w' hb' => by go_simp; rw [run_arrayAt _ _ _ 16 _ _ _ Try.underlying52 (by omega)]; rfl) ?_; (try simp only [Act.put, List.setIfInBounds_toArray, List.set_cons_zero, List.set_cons_succ]); (try refine eagerOpen rfl ?_))
        | ((with_reducible refine eagerAt 137 ?_); refine wpEager_take (by rfl) (v := .pointer (some ⟨wr.heap.size, 0, none⟩)) (fun w' hb' => by go_simp; rw [run_arrayAt _ _ _ 16 _ _ _ Try.underlying52 (by omega)]; rfl) ?_; (try simp only [Act.put, List.setIfInBounds_toArray, List.set_cons_zero, List.set_cons_succ]); (try refine eagerOpen rfl ?_))
        | ((with_reducible refine eagerAt 133 ?_); refine wpEager_load (by rfl) 52 _ rfl wr.heap.size 0 rfl (idA (x.take 16)) _ (fun w' hb => (keep.out w' hb).2) Try.underlying52 rfl (infoH _ HXT.out) ?_; (try simp only [Act.put, List.setIfInBounds_toArray, List.set_cons_zero, List.set_cons_succ]); (try refine eagerOpen rfl ?_))
        | ((with_reducible refine eagerAt 138 ?_); refine wpEager_load (by rfl) 52 _ rfl wr.heap.size 0 rfl (idA (x.take 16)) _ (fun w' hb => (keep.out w' hb).2) Try.underlying52 rfl (infoH _ HXT.out) ?_; (try simp only [Act.put, List.setIfInBounds_toArray, List.set_cons_zero, List.set_cons_succ]); (try refine eagerOpen rfl ?_))
        | ((with_reducible refine eagerAt 135 ?_); refine wpEager_load (by rfl) 41 _ rfl w.heap.size 0 rfl RC _ (fun w' hb => (keep.out w' hb).1) Try.underlying41 rfl (infoRC _ HRS.out) ?_; (try simp only [Act.put, List.setIfInBounds_toArray, List.set_cons_zero, List.set_cons_succ]); (try refine eagerOpen rfl ?_))
        | (first | (apply wpEager_take; (· rfl); (· (intro w' hb'; go_simp; try with_reducible rfl)); (try simp only [Act.put, List.setIfInBounds_toArray, List.set_cons_zero, List.set_cons_succ]); (try refine eagerOpen rfl ?_)) | (refine wpEager_skip (by rfl) ?_; (try simp only [Act.put, List.setIfInBounds_toArray, List.set_cons_zero, List.set_cons_succ]); (try refine eagerOpen rfl ?_)) | (refine wpEager_off (by rfl) ?_; (try simp only [Act.put, List.setIfInBounds_toArray, List.set_cons_zero, List.set_cons_succ]); (try refine eagerOpen rfl ?_))))
      (refine wpEager_op (by rfl) (fun K hK => ?_); go_simp; (refine (idsSame_any _ _ _ _ _ _ _ _ _ HJA.out HIB.out).mono ?_; rintro e v3 ⟨rfl, hx3⟩; rw [beq_self_eq_true]; have hy3 := hy2.trans (hx3.mono hy2.size); clear hx3); refine Shut.out hK _ _ (by assumption) ?_; clear hK K; (try simp only [Act.put, List.setIfInBounds_toArray, List.set_cons_zero, List.set_cons_succ]); (try refine eagerOpen rfl ?_))
      repeat (first
        | ((with_reducible refine eagerAt 132 ?_); refine wpEager_take (by rfl) (v := .pointer (some ⟨wr.heap.size, 0, none⟩)) (fun w' hb' => by go_simp; rw [run_arrayAt _ _ _ 16 _ _ _ Try.underlying52 (by omega)]; rfl) ?_; (try simp only [Act.put, List.setIfInBounds_toArray, List.set_cons_zero, List.set_cons_succ]); (try refine eagerOpen rfl ?_))
        | ((with_reducible refine eagerAt 137 ?_); refine wpEager_take (by rfl) (v := .pointer (some ⟨wr.heap.size, 0, none⟩)) (fun w' hb' => by go_simp; rw [run_arrayAt _ _ _ 16 _ _ _ Try.underlying52 (by omega)]; rfl) ?_; (try simp only [Act.put, List.setIfInBounds_toArray, List.set_cons_zero, List.set_cons_succ]); (try refine eagerOpen rfl ?_))
        | ((with_reducible refine eagerAt 133 ?_); refine wpEager_load (by rfl) 52 _ rfl wr.heap.size 0 rfl (idA (x.take 16)) _ (fun w' hb => (keep.out w' hb).2) Try.underlying52 rfl (infoH _ HXT.out) ?_; (try simp only [Act.put, List.setIfInBounds_toArray, List.set_cons_zero, List.set_cons_succ]); (try refine eagerOpen rfl ?_))
        | ((with_reducible refine eagerAt 138 ?_); refine wpEager_load (by rfl) 52 _ rfl wr.heap.size 0 rfl (idA (x.take 16)) _ (fun w' hb => (keep.out w' hb).2) Try.underlying52 rfl (infoH _ HXT.out) ?_; (try simp only [Act.put, List.setIfInBounds_toArray, List.set_cons_zero, List.set_cons_succ]); (try refine eagerOpen rfl ?_))
        | ((with_reducible refine eagerAt 135 ?_); refine wpEager_load (by rfl) 41 _ rfl w.heap.size 0 rfl RC _ (fun w' hb => (keep.out w' hb).1) Try.underlying41 rfl (infoRC _ HRS.out) ?_; (try simp only [Act.put, List.setIfInBounds_toArray, List.set_cons_zero, List.set_cons_succ]); (try refine eagerOpen rfl ?_))
        | (first | (apply wpEager_take; (· rfl); (· (intro w' hb'; go_simp; try with_reducible rfl)); (try simp only [Act.put, List.setIfInBounds_toArray, List.set_cons_zero, List.set_cons_succ]); (try refine eagerOpen rfl ?_)) | (refine wpEager_skip (by rfl) ?_; (try simp only [Act.put, List.setIfInBounds_toArray, List.set_cons_zero, List.set_cons_succ]); (try refine eagerOpen rfl ?_)) | (refine wpEager_off (by rfl) ?_; (try simp only [Act.put, List.setIfInBounds_toArray, List.set_cons_zero, List.set_cons_succ]); (try refine eagerOpen rfl ?_))))
      refine eagerEnd ?_
      have HBF := Lib.hid (HB11.out.trans (hy3.mono HB11.out.size))
      clear hy0 hy1 hy2 hy3 keep HIA HIB HJA
      go_wp2_with fail
      go_roundw
      case rel => exact ⟨k + 1, by omega, by go_num, HBF.out⟩
      case measure => simp [intOf]; omega
    · have hd : decide ((k : Int) < (N : Int)) = false := decide_eq_false (by omega)
      go_wp2_with fail
      go_ret
      exact ⟨rfl, HLKR.out.below⟩
theorem like_any {base cb depth height : Nat} {ds : List BlkD} {p : Option Addr} {c : Nat} {rows : List (List Value)} (w : World) (h : ChAt w base cb depth height ds p c rows) (hfew : ∀ d ∈ ds, d.txs.length ≤ 1000000) (hnd : ∀ d ∈ ds, d.txs.Nodup)
    (p2 : Option Addr) (c2 : Nat) (rows2 : List (List Value)) (hW : Bks w p2 ds.length c2 ds rows2) (M : Array Value) (b : BlkD) (q : Option Addr) (n cc : Nat) (hM : BlkAt w M b q n cc) (hn : n ≤ 100) :
    Calls Try.prog 32 #[.pointer (some ⟨cb, 0, none⟩), .agg (rcA (depth : Int) height p2 ds.length c2), .agg M] w fun e w' => e = .returned (.bool true) ∧ Below w.heap.size w w' := by
  cases hl : ds.getLast? with
  | none => exact like_none w h hfew hnd p2 c2 rows2 hW M b q n cc hM hn hl
  | some t => exact like_some w h hfew hnd p2 c2 rows2 hW M b q n cc hM hn t hl
end Go.Proofs.Ytepemfgiigceoaa.Chn

namespace Go.Proofs.Ytepemfgiigceoaa.Chn
open Go.RowKit Go.Mir Go.Mir.Parts Go.Proofs.Ytepemfgiigceoaa.Blk

set_option maxRecDepth 100000 in
theorem load_bad (dep : Int) (height : Nat) (p : Option Addr) (n c : Nat) (w : World) (h : (dep < 1 ∨ 16 < dep) ∨ (1 ≤ dep ∧ dep ≤ 16) ∧ (dep + 1 < (n : Int) ∨ height < n)) :
    Calls Try.prog 30 #[.int .i64 dep, .int .u32 (height : Int), .slice p n c] w fun e w' => e = .returned (.tuple #[.pointer none, .int .i64 1]) ∧ w = w' := by
  rcases h with h | ⟨⟨h1, h2⟩, h⟩
  · go_enter Try.func30, Try.ntmps30
    go_wp2_with fail
    refine (fits_no dep w h).mono ?_
    rintro e w' ⟨rfl, rfl⟩
    clear h
    go_wp2_with fail
    go_ret2
    exact ⟨rfl, rfl⟩
  · obtain ⟨d, rfl⟩ : ∃ d : Nat, dep = (d : Int) := ⟨dep.toNat, by omega⟩
    have hw1 : IntKind.i64.wrap ((d : Int) + 1) = (d : Int) + 1 := IntWalk.i64_in _ (by omega)
    by_cases h3 : (d : Int) + 1 < (n : Int)
    · have e1 : decide ((d : Int) + 1 < (n : Int)) = true := decide_eq_true h3
      clear h
      go_enter Try.func30, Try.ntmps30
      go_wp2_with fail
      refine (fits_yes d w ⟨by omega, by omega⟩).mono ?_
      rintro e w' ⟨rfl, rfl⟩
      go_wp2_with fail
      go_ret2
      exact ⟨rfl, rfl⟩
    · have e1 : decide ((d : Int) + 1 < (n : Int)) = false := decide_eq_false h3
      have h4 : height < n := by omega
      have hnw : IntKind.u64.wrap (n : Int) = (n : Int) := IntWalk.u64_in _ (by omega)
      have e2 : decide ((height : Int) < (n : Int)) = true := decide_eq_true (by omega)
      have e3 : decide (height < n) = true := decide_eq_true h4
      clear h
      go_enter Try.func30, Try.ntmps30
      go_wp2_with fail
      refine (fits_yes d w ⟨by omega, by omega⟩).mono ?_
      rintro e w' ⟨rfl, rfl⟩
      go_wp2_with fail
      go_ret2
      exact ⟨rfl, rfl⟩
theorem goesB_right {ds : List BlkD} : ∀ k, goesB ds k = true → ∀ i (hi : i < ds.length), i < k → rightB ds[i] = true
  | 0, _, _, _, h => absurd h (Nat.not_lt_zero _)
  | k + 1, h, i, hi, hik => by
    unfold goesB at h
    rw [Bool.and_eq_true] at h
    by_cases he : i = k
    · subst he
      have h2 := h.2
      rw [List.getElem?_eq_getElem hi] at h2
      have h3 : mayE (ds.take i) 0 ds[i] = 0 := of_decide_eq_true h2
      unfold mayE at h3
      cases hr : rightB ds[i] with
      | true => rfl
      | false => rw [if_pos hr] at h3; omega
    · exact goesB_right k h.1 i hi (by omega)
theorem goesB_nodup {ds : List BlkD} (h : goesB ds ds.length = true) : ∀ d ∈ ds, d.txs.Nodup := fun d hd => by
  obtain ⟨i, hi, rfl⟩ := List.mem_iff_getElem.1 hd
  have := goesB_right _ h i hi hi
  unfold rightB at this
  simp only [Bool.and_eq_true, decide_eq_true_iff] at this
  exact this.2

theorem wpList_build_g {P : Program} {w : World} {ops : Array Oper} {rest : List Oper} {o : Oper} {a : Act} {Q : Exit → Act → World → Prop} (hw : Region.wanted o (yielded ops a.tmps) = true) (t : TypeId) (parts : Array (Nat × Operand)) (ho : o.op = .build t parts)
    (vals : List (Nat × Value)) (hv : (parts.toList.map fun p => (p.1, a.eval p.2)) = vals) (cells : Array Value) (h : P.built t vals = some cells) (k : wpList P ops Q rest (a.put o.dst (.agg cells)) w) : wpList P ops Q (o :: rest) a w :=
  wpList_unguard hw (wpList_build rfl t parts ho vals hv cells h k)
/-- how the law goes on behind its guards -/
def Post (w0 : World) (e : Ending) (w' : World) : Prop := e = .returned (.bool true) ∧ Below w0.heap.size w0 w'
set_option maxRecDepth 100000 in
set_option maxHeartbeats 1600000 in
theorem law_loads (dep : Int) (hdw : -9223372036854775808 ≤ dep ∧ dep ≤ 9223372036854775807) (height : Nat) (hh : height ≤ 4294967295) (ds : List BlkD) (p : Option Addr) (c : Nat) (rows : List (List Value)) (w : World) (hW : Bks w p ds.length c ds rows) :
    Calls Try.prog 5 #[.int .i64 dep, .int .u32 (height : Int), .slice p ds.length c] w (Post w) := by
  obtain ⟨Z, hz, hZ⟩ := zBlk
  have HZZ := Lib.hid hZ
  have HW := Lib.hid hW
  have hle := hW.rs.sl.le
  have hmax := hW.rs.sl.max
  clear hZ hW
  by_cases hbig : 100 < ds.length
  · have e1 : decide ((100 : Int) < (ds.length : Int)) = true := decide_eq_true (by omega)
    have e2 : decide (100 < ds.length) = true := decide_eq_true (by omega)
    go_enter Try.func5, Try.ntmps5
    go_wp2_with fail
    refine (alive_any _).mono ?_
    rintro e w' ⟨rfl, hb⟩
    have HB := Lib.hid hb
    clear hb
    go_wp2_with fail
    go_ret
    exact ⟨rfl, HB.out⟩
  have e1 : decide ((100 : Int) < (ds.length : Int)) = false := decide_eq_false (by omega)
  have e2 : decide (100 < ds.length) = false := decide_eq_false (by omega)
  go_enter Try.func5, Try.ntmps5
  go_wp2_with fail
  go_loopw [18] (fun j wr => ∃ k : Nat, k ≤ ds.length ∧ j = .int .i64 k ∧ (∀ i (hi : i < ds.length), i < k → ds[i].txs.length ≤ 100) ∧ Below w.heap.size w wr) (fun j _ => ds.length - (intOf j).toNat)
  case atStart => exact ⟨0, by omega, rfl, fun i _ h => absurd h (Nat.not_lt_zero i), Below.refl _ _⟩
  case round =>
    obtain ⟨k, hk, rfl, hfew, hbw⟩ := hrel
    have HFEW := Lib.hid hfew
    have HBW := Lib.hid hbw
    clear hfew hbw
    by_cases hlt : k < ds.length
    · have hd : decide ((k : Int) < (ds.length : Int)) = true := decide_eq_true (by omega)
      obtain ⟨b, o, rfl⟩ := HW.out.rs.sl.addr (by omega) (by omega)
      obtain ⟨q, cq, hbq, hrg⟩ := HW.out.at k hlt
      have HNX : Hid (ds[k].txs.length ≤ 100 → ∀ i (hi : i < ds.length), i < k + 1 → ds[i].txs.length ≤ 100) := fun h i hi hik => by
        by_cases he : i = k
        · subst he; exact h
        · exact HFEW.out i hi (by omega)
      generalize ds[k] = d at *
      obtain ⟨A, hA⟩ : ∃ A, A = blkA d.hash d.par q d.txs.length cq := ⟨_, rfl⟩
      rw [← hA] at hbq hrg
      have HRG := Lib.hid (range_below hrg HBW.out)
      have HAS := Lib.hid hbq.size
      have HAO := Lib.hid hbq.one
      have HAL : Hid (A.toList.length = 65) := by show _ = _; rw [Array.length_toList]; exact hbq.size
      have HNW := Lib.hid (box_new wr Z 33)
      have HBR := Lib.hid (box_row wr Z A 33)
      have hbb := box_below wr Z A 33
      have HB3 := Lib.hid (HBW.out.trans (hbb.mono HBW.out.size))
      have HBQ3 := Lib.hid ((hbq.below HBW.out).below hbb)
      clear hA hbq hrg hbb
      go_wp2_with (first
        | ((with_reducible refine wpAt 21 ?_); refine wpList_load_mid rfl 33 _ rfl b (o + k * 65) rfl A.toList _ HRG.out Try.underlying33 rfl (infoBlk _ HAL.out) ?_)
        | ((with_reducible refine wpStoreAt 8 ?_); refine wpList_store_row rfl 33 _ _ rfl wr.heap.size A rfl rfl 33 Z HNW.out (infoBlk _ HAS.out) (HZZ.out.trans HAS.out.symm) HAO.out ?_)
        | ((with_reducible refine wpAt 22 ?_); refine wpList_load_row_g rfl 33 _ rfl wr.heap.size rfl 33 A (0, 0) _ HBR.out Try.underlying33 rfl (infoBlk _ HAS.out) ?_))
      generalize (wr.alloc (.cells Z 33)).setRow wr.heap.size A = w3 at *
      refine (few_any A d q _ cq _ HBQ3.out).mono ?_
      rintro e w4 ⟨rfl, hb4⟩
      have HB4 := Lib.hid (HB3.out.trans (hb4.mono HB3.out.size))
      clear hb4
      by_cases hf : d.txs.length ≤ 100
      · have HFF := Lib.hid (HNX.out hf)
        rw [decide_eq_true hf]
        clear hf
        go_wp2_with fail
        go_roundw
        case rel => exact ⟨k + 1, by omega, by go_num, HFF.out, HB4.out⟩
        case measure => simp [intOf]; omega
      · rw [decide_eq_false hf]
        clear hf
        go_wp2_with fail
        refine (alive_any _).mono ?_
        rintro e w5 ⟨rfl, hb5⟩
        have HB5 := Lib.hid (HB4.out.trans (hb5.mono HB4.out.size))
        clear hb5
        go_wp2_with fail
        go_ret
        exact ⟨rfl, HB5.out⟩
    · have hd : decide ((k : Int) < (ds.length : Int)) = false := decide_eq_false (by omega)
      obtain rfl : k = ds.length := by omega
      have HFF : Hid (∀ d ∈ ds, d.txs.length ≤ 100) := fun d hd => by
        obtain ⟨i, hi, rfl⟩ := List.mem_iff_getElem.1 hd
        exact HFEW.out i hi hi
      obtain ⟨ZC, hzc, hZC⟩ := zRC
      obtain ⟨RC, hRC⟩ : ∃ RC, RC = rcA dep height p ds.length c := ⟨_, rfl⟩
      have HRC := Lib.hid hRC
      have HRS : Hid (RC.size = 3) := by show _ = _; rw [hRC]; rfl
      have HRO : Hid (RC.all (·.oneCell') = true) := by show _ = _; rw [hRC]; exact rcA_one _ _ _ _ _
      have HBC : Hid (Try.prog.built 41 [(0, .int .i64 dep), (1, .int .u32 (height : Int)), (2, .slice p ds.length c)] = some RC) := by show _ = _; rw [hRC]; exact build_rc4 _ _ _ _ _
      have HNW := Lib.hid (box_new wr ZC 41)
      have HRR := Lib.hid (box_row wr ZC RC 41)
      have hbb := box_below wr ZC RC 41
      have HB2 := Lib.hid (HBW.out.trans (hbb.mono HBW.out.size))
      clear hbb hRC
      go_upto_region 10 with (first
        | ((with_reducible refine wpAt 30 ?_); refine wpList_build rfl 41 _ rfl [(0, .int .i64 dep), (1, .int .u32 (height : Int)), (2, .slice p ds.length c)] rfl RC HBC.out ?_)
        | ((with_reducible refine wpStoreAt 9 ?_); refine wpList_store_row rfl 41 _ _ rfl wr.heap.size RC rfl rfl 41 ZC HNW.out (infoRC _ HRS.out) (by rw [hZC.out, HRS.out]) HRO.out ?_))
      generalize (wr.alloc (.cells ZC 41)).setRow wr.heap.size RC = w2 at *
      try simp only [Act.put, List.setIfInBounds_toArray, List.set_cons_zero, List.set_cons_succ]
      by_cases hbad : (dep < 1 ∨ 16 < dep) ∨ (1 ≤ dep ∧ dep ≤ 16) ∧ (dep + 1 < (ds.length : Int) ∨ height < ds.length)
      · have HRF : Hid (Calls Try.prog 31 #[.agg RC] w2 fun e w' => e = .returned (.bool false) ∧ Below w2.heap.size w2 w') := by
          show Calls _ _ _ _ _
          rw [HRC.out]
          rcases hbad with h | ⟨⟨h1, h2⟩, h⟩
          · exact rRightC_out dep height p _ c w2 h
          · obtain ⟨d, rfl⟩ : ∃ d : Nat, dep = (d : Int) := ⟨dep.toNat, by omega⟩
            refine (rRightC_any d height ⟨by omega, by omega⟩ hh ds (by omega) p c rows w2 (HW.out.below HB2.out)).mono ?_
            rintro e w' ⟨rfl, hb⟩
            refine ⟨?_, hb⟩
            congr 2
            unfold rightC
            rcases h with h | h
            · rw [decide_eq_false (by omega)]; rfl
            · rw [decide_eq_false (p := ds.length ≤ height) (by omega), Bool.and_false]; rfl
        have HLB := Lib.hid (load_bad dep height p ds.length c w2 hbad)
        clear hbad
        go_wp2_with fail
        refine (HLB.out).mono ?_
        rintro e w3 ⟨rfl, rfl⟩
        go_wp2_with ((with_reducible refine wpAt 38 ?_); refine wpList_load_row_g rfl 41 _ rfl wr.heap.size rfl 41 RC (0, 0) _ HRR.out Try.underlying41 rfl (infoRC _ HRS.out) ?_)
        refine (HRF.out).mono ?_
        rintro e w4 ⟨rfl, hb4⟩
        have HB4 := Lib.hid (HB2.out.trans (hb4.mono HB2.out.size))
        clear hb4
        go_wp2_with fail
        refine (alive_any _).mono ?_
        rintro e w5 ⟨rfl, hb5⟩
        have HB5 := Lib.hid (HB4.out.trans (hb5.mono HB4.out.size))
        clear hb5
        go_wp2_with fail
        go_ret
        exact ⟨rfl, HB5.out⟩
      · obtain ⟨depth, rfl⟩ : ∃ d : Nat, dep = (d : Int) := ⟨dep.toNat, by omega⟩
        have hdd : 1 ≤ depth ∧ depth ≤ 16 := by omega
        have hl1 : ds.length ≤ depth + 1 := by omega
        have hl2 : ds.length ≤ height := by omega
        have HRT := Lib.hid (rRightC_any depth height hdd hh ds (by omega) p c rows)
        have HRE : Hid (rightC depth height ds = goesB ds ds.length) := by show _ = _; unfold rightC; rw [decide_eq_true hl1, decide_eq_true hl2]; rfl
        have HLD := Lib.hid (load_any depth height ds p c rows w2 (HW.out.below HB2.out) (fun d hd => by have := HFF.out d hd; omega) hdd hl1 hl2 hh)
        clear hbad
        go_wp2_with fail
        refine (HLD.out).mono ?_
        rintro e w3 hpost
        rcases hpost with ⟨hgo, cb, p3, c3, rows3, rfl, hcb, hch, hb3, _⟩ | ⟨hgo, rfl, hb3⟩
        · have HGO := Lib.hid hgo
          have HCH := Lib.hid hch
          have HB3 := Lib.hid (HB2.out.trans (hb3.mono HB2.out.size))
          have HR3 := Lib.hid (Below.keepOld hb3 HRR.out)
          clear hgo hch hb3 hcb
          go_wp2_with ((with_reducible refine wpAt 38 ?_); refine wpList_load_row_g rfl 41 _ rfl wr.heap.size rfl 41 RC (0, 0) _ HR3.out Try.underlying41 rfl (infoRC _ HRS.out) ?_)
          have hrt := HRT.out w3 (HW.out.below HB3.out)
          rw [← HRC.out, HRE.out, HGO.out] at hrt
          refine hrt.mono ?_
          rintro e w4 ⟨rfl, hb4⟩
          have HB4 := Lib.hid (HB3.out.trans (hb4.mono HB3.out.size))
          have HR4 := Lib.hid (Below.keepOld hb4 HR3.out)
          have HCH4 := Lib.hid (HCH.out.below hb4)
          obtain ⟨BX, hBX⟩ : ∃ BX, BX = blkA (id1 1) zeros none 0 0 := ⟨_, rfl⟩
          have HBX : Hid (Try.prog.built 33 [(0, .agg (idA (id1 1)))] = some BX) := by show _ = _; rw [hBX]; exact buildB1
          have HAT : Hid (BlkAt w4 BX ⟨id1 1, zeros, []⟩ none 0 0) := ⟨hBX, rfl, rfl, Is.nil _ _⟩
          clear hb4 hrt hBX
          go_wp2_with (first
            | ((with_reducible refine wpAt 58 ?_); refine wpList_load_row_g rfl 41 _ rfl wr.heap.size rfl 41 RC (0, 0) _ HR4.out Try.underlying41 rfl (infoRC _ HRS.out) ?_)
            | ((with_reducible refine wpAt 59 ?_); refine wpList_build_g rfl 30 _ rfl [(0, .int .u8 1)] rfl (idA (id1 1)) build1 ?_)
            | ((with_reducible refine wpAt 60 ?_); refine wpList_build_g rfl 33 _ rfl [(0, .agg (idA (id1 1)))] rfl BX HBX.out ?_))
          have hlk := like_any w4 HCH4.out (fun d hd => by have := HFF.out d hd; omega) (goesB_nodup HGO.out) p c rows (HW.out.below HB4.out) BX _ none 0 0 HAT.out (by omega)
          rw [← HRC.out] at hlk
          refine hlk.mono ?_
          rintro e w5 ⟨rfl, hb5⟩
          have HB5 := Lib.hid (HB4.out.trans (hb5.mono HB4.out.size))
          clear hb5 hlk
          go_wp2_with fail
          refine (alive_any _).mono ?_
          rintro e w6 ⟨rfl, hb6⟩
          have HB6 := Lib.hid (HB5.out.trans (hb6.mono HB5.out.size))
          clear hb6
          go_wp2_with fail
          go_ret
          exact ⟨rfl, HB6.out⟩
        · have HGO := Lib.hid hgo
          have HB3 := Lib.hid (HB2.out.trans (hb3.mono HB2.out.size))
          have HR3 := Lib.hid (Below.keepOld hb3 HRR.out)
          clear hgo hb3
          go_wp2_with ((with_reducible refine wpAt 38 ?_); refine wpList_load_row_g rfl 41 _ rfl wr.heap.size rfl 41 RC (0, 0) _ HR3.out Try.underlying41 rfl (infoRC _ HRS.out) ?_)
          have hrt := HRT.out w3 (HW.out.below HB3.out)
          rw [← HRC.out, HRE.out, HGO.out] at hrt
          refine hrt.mono ?_
          rintro e w4 ⟨rfl, hb4⟩
          have HB4 := Lib.hid (HB3.out.trans (hb4.mono HB3.out.size))
          clear hb4 hrt
          go_wp2_with fail
          refine (alive_any _).mono ?_
          rintro e w5 ⟨rfl, hb5⟩
          have HB5 := Lib.hid (HB4.out.trans (hb5.mono HB4.out.size))
          clear hb5
          go_wp2_with fail
          go_ret
          exact ⟨rfl, HB5.out⟩
end Go.Proofs.Ytepemfgiigceoaa.Chn

namespace Go.Proofs.Ytepemfgiigceoaa.Blk
open Go.ChangeShapes Go.WideShapes Go.ChangeAt Go.RowKit Go.Mir

theorem trod_blk {W : World} {H : Type} {enc : TypeId × Value → H} {base fuel : Nat} {held : Bool} {cs : List Value} {x : DataW H × List MemPlace} (h : DataW.trod enc Try.prog W base (fun _ => true) held fuel 33 cs = some x) :
    ∃ d q n c, cs = bytesV d.hash ++ bytesV d.par ++ [Value.slice q n c] ∧ BlkAt W (blkA d.hash d.par q n c) d q n c := by
  obtain ⟨y0, y1, y2, m, rfl, hl, h0, h1, h2⟩ := Deep.trod_struct3 Try.underlying33 h
  obtain ⟨zs0, e0, l0, w0⟩ := trod_nums Try.underlying30 Try.underlying5 (by kernel_rfl) (by kernel_rfl) h0
  obtain ⟨zs1, e1, l1, w1⟩ := trod_nums Try.underlying30 Try.underlying5 (by kernel_rfl) (by kernel_rfl) h1
  obtain ⟨a0, rfl⟩ := u8_of_list zs0 w0
  obtain ⟨a1, rfl⟩ := u8_of_list zs1 w1
  obtain ⟨q, n, c, ids, e2, hi, _⟩ := trod_is Try.underlying31 Try.underlying30 Try.underlying5 (by kernel_rfl) (by kernel_rfl) (by omega) h2
  have hc0 : Try.prog.cellsOf 30 = 32 := by kernel_rfl
  have hc1 : Try.prog.cellsOf 31 = 1 := by kernel_rfl
  have hc2 : Try.prog.cellsOf 33 = 65 := by kernel_rfl
  simp only [hc0, hc1] at e0 e1 e2
  rw [hc2] at hl
  refine ⟨⟨a0, a1, ids⟩, q, n, c, ?_, rfl, by simpa using l0, by simpa using l1, hi⟩
  have e0' : cs.take 32 = bytesV a0 := by rw [show bytesV a0 = (a0.map (fun b => (b.toNat : Int))).map (Value.int .u8) by simp [bytesV]]; rw [← e0]; simp
  have e1' : (cs.drop 32).take 32 = bytesV a1 := by rw [show bytesV a1 = (a1.map (fun b => (b.toNat : Int))).map (Value.int .u8) by simp [bytesV]]; exact e1
  have e2' : cs.drop 64 = [Value.slice q n c] := by rw [← e2]; rw [List.take_of_length_le (by rw [List.length_drop]; omega)]
  show cs = bytesV a0 ++ bytesV a1 ++ [Value.slice q n c]
  rw [← e0', ← e1', ← e2', List.append_assoc, show cs.drop 64 = (cs.drop 32).drop 32 by rw [List.drop_drop], List.take_append_drop, List.take_append_drop]
theorem open_blk {W : World} {H : Type} {enc : TypeId × Value → H} {base : Nat} {v : Value} {d : DataW H} {ps : List MemPlace} (hval : Value.okWide Try.prog W .any base 33 v) (h : DataW.Trod enc Try.prog W 0 (fun _ => true) true 33 v d ps) :
    ∃ M e q n c, v = .agg M ∧ BlkAt W M e q n c := by
  obtain ⟨cs, rfl, _⟩ := okWide_struct Try.underlying33 hval
  obtain ⟨fuel, hf⟩ := h
  obtain ⟨e, q, n, c, he, hb⟩ := trod_blk hf
  refine ⟨_, e, q, n, c, ?_, hb⟩
  congr 1
  apply Array.toList_inj.1
  rw [blkA_toList, ← he]; simp [Value.cells]
end Go.Proofs.Ytepemfgiigceoaa.Blk
