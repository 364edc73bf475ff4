/- THE WALKS OF A CHAIN, on: the tip. Conditions: none. -/
import Derived.Test.YtepemfgiigceoaaChain
import Derived.Test.YtepemfgiigceoaaBlk8
namespace Go.Proofs.Ytepemfgiigceoaa.Chn
open Go.RowKit Go.Mir Go.Mir.Parts Go.Proofs.Ytepemfgiigceoaa.Blk

theorem zBlk : ∃ Z : Array Value, (∀ w0, (zeroValue 33).run Try.prog w0 = .ok (.agg Z) w0) ∧ Z.size = 65 := ⟨blkA zeros zeros none 0 0, fun w0 => by kernel_rfl, by kernel_rfl⟩
/-- what is left of a tip told -/
def TipP (ds : List BlkD) (w : World) (e : Ending) (w' : World) : Prop := ∃ d, ds.getLast? = some d ∧ ∃ p c, e = .returned (.tuple #[.agg (blkA d.hash d.par p d.txs.length c), .bool true]) ∧ w'.ownsRow w.heap.size 30 32 (.slice p d.txs.length c) d.txs.length (d.txs.flatMap bytesV) ∧ Below w.heap.size w w'

set_option maxRecDepth 100000 in
set_option maxHeartbeats 400000 in
theorem tip_any {base cb depth height : Nat} {ds : List BlkD} {p : Option Addr} {c : Nat} {rows : List (List Value)} (w : World) (h : ChAt w base cb depth height ds p c rows) (d : BlkD) (hd : ds.getLast? = some d) (hn : d.txs.length ≤ 1099511627776) :
    Calls Try.prog 16 #[.pointer (some ⟨cb, 0, none⟩)] w (TipP ds w) := by
  obtain ⟨Z, hz, hZ⟩ := zBlk
  have H := Lib.hid h
  have hb1 : Below w.heap.size w (w.alloc (.cells Z 33)) := Below.allocs _ _
  have HB1 := Lib.hid hb1
  have H1 := Lib.hid (h.below hb1)
  have HR1 := Lib.hid (heap_alloc_last w (.cells Z 33))
  have hlen : 0 < ds.length := by cases ds with | nil => simp at hd | cons a l => simp
  have h0 : ((ds.length : Int) == 0) = false := by rw [beq_eq_false_iff_ne]; omega
  have hc2 := H1.out.cells.2.2.1
  clear h hb1
  go_enter Try.func16, Try.ntmps16
  go_wp2_with fail
  refine (none_any cb depth _ H1.out.cells.1 H.out.depth1.1).mono ?_
  rintro e w' ⟨rfl, rfl⟩
  go_upto_region 3 with fail
  generalize w.alloc (.cells Z 33) = w1 at *
  obtain ⟨i, hi⟩ : ∃ i, i + 1 = ds.length := ⟨ds.length - 1, by omega⟩
  have hsub : (ds.length : Int) - 1 = (i : Int) := by omega
  have hwi : IntKind.i64.wrap ((ds.length : Int) - 1) = (i : Int) := by rw [hsub]; exact IntWalk.i64_in _ (by have := H.out.many; have := H.out.depth1; omega)
  have hwi2 : IntKind.i64.wrap (i : Int) = (i : Int) := IntWalk.i64_in _ (by have := H.out.many; have := H.out.depth1; omega)
  have hrs := H.out.rs
  have hri : i < rows.length := by rw [H.out.count]; omega
  obtain ⟨b, o, rfl⟩ := hrs.sl.addr (by omega) (by omega)
  have hdi : ds[i]? = some d := by rw [← hd, List.getLast?_eq_getElem?]; congr 1; omega
  have hch := H.out.each i _ d (List.getElem?_eq_getElem hri) hdi
  obtain ⟨q, cq, hrq, hbq⟩ := hch.blk
  have HROW := Lib.hid (hrs.row i hri)
  rw [hrq] at HROW
  have HBQ := Lib.hid hbq
  have HQS := Lib.hid hbq.size
  have HCC := Lib.hid H.out.cells.2.2.1
  have hin : (i : Int) < (ds.length : Int) := by omega
  have hi0 : (0 : Int) ≤ (i : Int) := by omega
  have hbw : Hid (∀ w', Below w.heap.size w1 w' → Below w.heap.size w w') := fun w' hb => HB1.out.trans hb
  have hk : Hid (∀ w', Below w.heap.size w1 w' → w'.cell? ⟨cb, 2, none⟩ = some (.slice (some ⟨b, o, none⟩) ds.length c)) := fun w' hb => cell_below HCC.out (hbw.out w' hb)
  clear hrs hch hbq hrq hc2 hdi
  refine wp_region_eager_in (Below w.heap.size w1) [(0, true), (1, true), (2, true), (3, true), (4, true), (5, true), (6, true), (7, true), (8, true), (9, true), (10, true), (11, true), (12, false), (13, false), (14, true)] (by kernel_rfl) (by kernel_rfl) ?_ (eagerOpen rfl ?_)
  · exact below_drew1 _ _
  have hy0 : Below w.heap.size w1 w1.drew := below_drew1 _ _
  repeat (first
    | ((with_reducible refine eagerLoadAt 25 ?_); refine wpEager_load (by rfl) 33 _ rfl b (o + i * 65) rfl (blkA d.hash d.par q d.txs.length cq) _ (fun w' hb => range_below HROW.out (hbw.out w' hb)) Try.underlying33 rfl (infoBlk _ HQS.out) ?_; (try simp only [Act.put, List.setIfInBounds_toArray, List.set_cons_zero, List.set_cons_succ]); (try refine eagerOpen rfl ?_))
    | (first | (apply wpEager_take; (· rfl); (· (intro w' hb'; go_simp; try with_reducible rfl)); (try simp only [Act.put, List.setIfInBounds_toArray, List.set_cons_zero, List.set_cons_succ]); (try refine eagerOpen rfl ?_)) | (refine wpEager_skip (by rfl) ?_; (try simp only [Act.put, List.setIfInBounds_toArray, List.set_cons_zero, List.set_cons_succ]); (try refine eagerOpen rfl ?_)) | (refine wpEager_off (by rfl) ?_; (try simp only [Act.put, List.setIfInBounds_toArray, List.set_cons_zero, List.set_cons_succ]); (try refine eagerOpen rfl ?_)))
    | (apply wpEager_take; (· rfl); (· (intro w' hb'; have hk' := (hk.out) w' hb'; go_split_ands; go_simp; try with_reducible rfl)); (try simp only [Act.put, List.setIfInBounds_toArray, List.set_cons_zero, List.set_cons_succ]); (try refine eagerOpen rfl ?_)))
  (refine wpEager_op (by rfl) (fun K hK => ?_); go_simp; (refine (copy_any _ d _ _ _ _ (HBQ.out.below (hbw.out _ hy0)) hn).mono ?_; rintro e y ⟨p2, c2, rfl, ho, hb⟩; have HO := Lib.hid ho; have HRY := Lib.hid (Below.keepOld hb HR1.out); have hy1 : Below w.heap.size w1 y := hy0.trans (hb.mono HB1.out.size); clear ho hb); refine Shut.out hK _ _ (by assumption) ?_; clear hK K; (try simp only [Act.put, List.setIfInBounds_toArray, List.set_cons_zero, List.set_cons_succ]); (try refine eagerOpen rfl ?_))
  have HN2 : Hid (BlkAt y (blkA d.hash d.par p2 d.txs.length c2) d p2 d.txs.length c2) := own_blk HBQ.out.hlen HBQ.out.plen HBQ.out.ids.each rfl HO.out
  refine wpEager_op (by rfl) (fun K hK => ?_)
  refine wp_store_row 33 _ _ rfl w.heap.size (blkA d.hash d.par p2 d.txs.length c2) rfl rfl 33 Z HRY.out (infoBlk _ HN2.out.size) (by rw [hZ, HN2.out.size]) HN2.out.one ?_
  refine Shut.out hK _ _ (below_setRow hy1 (Nat.le_refl _) _) ?_
  clear hK K
  (try simp only [Act.put, List.setIfInBounds_toArray, List.set_cons_zero, List.set_cons_succ]); (try refine eagerOpen rfl ?_)
  repeat (first | (apply wpEager_take; (· rfl); (· (intro w' hb'; go_simp; try with_reducible rfl)); (try simp only [Act.put, List.setIfInBounds_toArray, List.set_cons_zero, List.set_cons_succ]); (try refine eagerOpen rfl ?_)) | (refine wpEager_skip (by rfl) ?_; (try simp only [Act.put, List.setIfInBounds_toArray, List.set_cons_zero, List.set_cons_succ]); (try refine eagerOpen rfl ?_)) | (refine wpEager_off (by rfl) ?_; (try simp only [Act.put, List.setIfInBounds_toArray, List.set_cons_zero, List.set_cons_succ]); (try refine eagerOpen rfl ?_)))
  refine eagerEnd ?_
  have HRS := Lib.hid (setRow_heap _ _ _ (blkA d.hash d.par p2 d.txs.length c2) _ _ HRY.out)
  have hws : w.heap.size < w1.heap.size := (Array.getElem?_eq_some_iff.1 HR1.out).1
  have HOF : Hid ((y.setRow w.heap.size (blkA d.hash d.par p2 d.txs.length c2)).ownsRow w.heap.size 30 32 (.slice p2 d.txs.length c2) d.txs.length (d.txs.flatMap bytesV)) :=
    own_base (own_touch HO.out (turns_setRow _ w.heap.size _) (fun k hk e => by have := (HO.out.lt k hk).1; have h2 : w1.drew.heap.size = w1.heap.size := rfl; omega)) (fun k hk => by have := (HO.out.lt k hk).1; have h2 : w1.drew.heap.size = w1.heap.size := rfl; omega)
  have HBF := Lib.hid (below_setRow (HB1.out.trans hy1) (Nat.le_refl _) (blkA d.hash d.par p2 d.txs.length c2))
  go_wp2_with fail
  refine bodyPost_ret (results_row_tmp rfl _ _ _ _ _ _ _ rfl HRS.out Try.underlying33 rfl (infoBlk _ HN2.out.size)) rfl ?_
  exact ⟨d, hd, p2, c2, rfl, HOF.out, HBF.out⟩
end Go.Proofs.Ytepemfgiigceoaa.Chn
